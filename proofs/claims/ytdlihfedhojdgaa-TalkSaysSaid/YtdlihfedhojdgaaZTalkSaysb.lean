/- Part 2: what the law TalkSays needs, put together out of texts of this session. -/
import Derived.ProofKit
import Derived.OpenShut
import Derived.ShutString
import Derived.ChangeOld
import Derived.Below
import Derived.SizedLaws
import Derived.ChangeArms
import Derived.Laws.StructEq
import Derived.Test.YtdlihfedhojdgaaZTalkSaysa
section
namespace Go.Proofs.Ytdlihfedhojdgaa.Fw
open Go Go.Hw Go.Proofs
set_option linter.unusedVariables false
def f43.T : Tab := { sh := tSh, tup := tTup, keep := [], plan := [] }
def f43.kp : Keep := [([true, true], [1]), ([false, false, true, false, true, true], [1, 21, 22, 23]), ([false, false, true, false, true, true, true], [1, 60, 61, 62]), ([false, false, true, true, true, false, false, true, true, false, false, true, false, true, true, true], [1, 5, 60, 61, 62, 70, 71, 72]), ([true, true, false, false, true, true, false, false, true, true, true, false, false, true, true, false, false, true, false, true, true, true], [1, 5, 8, 60, 61, 62, 70, 71, 72])]
theorem f43.good : goodCode Try.prog f43.T (rootOf Try.f43) = true := by kernel_rfl
def f43.j0 (R : Value → Heap → Prop) (a1 : Addr) (h : Heap) : Prop := Pt Try.prog Try.f43 R [true, true] (mkFr [(1, (Value.pointer (some a1)))]) h
def f43.l0 (R : Value → Heap → Prop) (a1 : Addr) (A21 : Option Addr) (n21 : Nat) (c21 : Nat) (x22 : Int) (x23 : Int) (h : Heap) : Prop := Pt Try.prog Try.f43 R [false, false, true, false, true, true] (mkFr [(1, (Value.pointer (some a1))), (21, (Value.slice A21 n21 c21)), (22, (Value.int .i64 x22)), (23, (Value.int .i64 x23))]) h
def f43.l1 (R : Value → Heap → Prop) (a1 : Addr) (A60 : Option Addr) (n60 : Nat) (c60 : Nat) (x61 : Int) (x62 : Int) (h : Heap) : Prop := Pt Try.prog Try.f43 R [false, false, true, false, true, true, true] (mkFr [(1, (Value.pointer (some a1))), (60, (Value.slice A60 n60 c60)), (61, (Value.int .i64 x61)), (62, (Value.int .i64 x62))]) h
def f43.l2 (R : Value → Heap → Prop) (a1 : Addr) (x5 : Int) (A60 : Option Addr) (n60 : Nat) (c60 : Nat) (x61 : Int) (x62 : Int) (A70 : Option Addr) (n70 : Nat) (c70 : Nat) (x71 : Int) (x72 : Int) (h : Heap) : Prop := Pt Try.prog Try.f43 R [false, false, true, true, true, false, false, true, true, false, false, true, false, true, true, true] (mkFr [(1, (Value.pointer (some a1))), (5, (Value.int .i64 x5)), (60, (Value.slice A60 n60 c60)), (61, (Value.int .i64 x61)), (62, (Value.int .i64 x62)), (70, (Value.slice A70 n70 c70)), (71, (Value.int .i64 x71)), (72, (Value.int .i64 x72))]) h
def f43.j1 (R : Value → Heap → Prop) (a1 : Addr) (x5 : Int) (a8 : Addr) (A60 : Option Addr) (n60 : Nat) (c60 : Nat) (x61 : Int) (x62 : Int) (A70 : Option Addr) (n70 : Nat) (c70 : Nat) (x71 : Int) (x72 : Int) (h : Heap) : Prop := Pt Try.prog Try.f43 R [true, true, false, false, true, true, false, false, true, true, true, false, false, true, true, false, false, true, false, true, true, true] (mkFr [(1, (Value.pointer (some a1))), (5, (Value.int .i64 x5)), (8, (Value.pointer (some a8))), (60, (Value.slice A60 n60 c60)), (61, (Value.int .i64 x61)), (62, (Value.int .i64 x62)), (70, (Value.slice A70 n70 c70)), (71, (Value.int .i64 x71)), (72, (Value.int .i64 x72))]) h
set_option maxRecDepth 100000 in
def f43.j0T (R : Value → Heap → Prop) (a1 : Addr) (h : Heap) : Prop :=
  ∃ v1_, ldv false 1 h a1 = some v1_ ∧ ∃ A2_, ∃ n2_, ∃ c2_, v1_ = (Value.slice A2_ n2_ c2_) ∧ f43.l0 R a1 A2_ n2_ c2_ ((n2_ : Nat) : Int) (0 : Int) h
set_option maxRecDepth 100000 in
theorem f43.j0_in {R : Value → Heap → Prop} {a1 : Addr} {h : Heap} (H : f43.j0T R a1 h) : f43.j0 R a1 h :=
  pt_intro mixed f43.good (Eq.mpr (show (Fwd Try.prog f43.T f43.kp Try.f43 R [true, true] (mkFr [(1, (Value.pointer (some a1)))]) h) = (f43.j0T R a1 h) by kernel_rfl) H)
set_option maxRecDepth 100000 in
def f43.l0T (R : Value → Heap → Prop) (a1 : Addr) (A21 : Option Addr) (n21 : Nat) (c21 : Nat) (x22 : Int) (x23 : Int) (h : Heap) : Prop :=
  splitB (decide (x23 < x22)) (ptrOk A21 fun a1_ => 0 ≤ x23 ∧ x23 < ((n21 : Nat) : Int) ∧ (∃ v2_, ldv true 2 h (Addr.add a1_ (Int.toNat x23 * 2)) = some v2_ ∧ newH h (Obj.cells #[(Value.int .i64 (0 : Int)), (Value.int .i64 (0 : Int))] 89) fun h3_ => ∃ l5_ : List Value, v2_ = Value.agg l5_.toArray ∧ l5_.length = 2 ∧ ∃ h4_, stH h3_ (⟨Array.size h, 0, none⟩) l5_ 0 = some h4_ ∧ ∃ v6_, ldv false 1 h4_ (⟨Array.size h, 0, none⟩) = some v6_ ∧ ∃ x7_, v6_ = (Value.int .i64 x7_) ∧ splitB (decide (x7_ < (0 : Int))) (R (Value.int .i64 (1 : Int)) h4_) (∃ v8_, ldv false 1 h4_ (Addr.add (⟨Array.size h, 0, none⟩) 1) = some v8_ ∧ ∃ x9_, v8_ = (Value.int .i64 x9_) ∧ splitB (decide (x9_ < (0 : Int))) (R (Value.int .i64 (1 : Int)) h4_) (∃ v10_, ldv false 1 h4_ (⟨Array.size h, 0, none⟩) = some v10_ ∧ ∃ x11_, v10_ = (Value.int .i64 x11_) ∧ ∃ v12_, ldv false 1 h4_ (Addr.add a1 1) = some v12_ ∧ ∃ A13_, ∃ n13_, ∃ c13_, v12_ = (Value.slice A13_ n13_ c13_) ∧ splitB (decide (x11_ ≥ ((n13_ : Nat) : Int))) (R (Value.int .i64 (1 : Int)) h4_) (∃ v14_, ldv false 1 h4_ (Addr.add (⟨Array.size h, 0, none⟩) 1) = some v14_ ∧ ∃ x15_, v14_ = (Value.int .i64 x15_) ∧ ∃ v16_, ldv false 1 h4_ (Addr.add a1 1) = some v16_ ∧ ∃ A17_, ∃ n17_, ∃ c17_, v16_ = (Value.slice A17_ n17_ c17_) ∧ splitB (decide (x15_ ≥ ((n17_ : Nat) : Int))) (R (Value.int .i64 (1 : Int)) h4_) (∃ v18_, ldv false 1 h4_ (⟨Array.size h, 0, none⟩) = some v18_ ∧ ∃ x19_, v18_ = (Value.int .i64 x19_) ∧ ∃ v20_, ldv false 1 h4_ (Addr.add (⟨Array.size h, 0, none⟩) 1) = some v20_ ∧ ∃ x21_, v20_ = (Value.int .i64 x21_) ∧ splitB (x19_ == x21_) (R (Value.int .i64 (1 : Int)) h4_) (f43.l0 R a1 A21 n21 c21 x22 (IntKind.wrap .i64 (x23 + (1 : Int))) h4_))))))) (∃ v22_, ldv false 1 h (Addr.add a1 1) = some v22_ ∧ ∃ A23_, ∃ n23_, ∃ c23_, v22_ = (Value.slice A23_ n23_ c23_) ∧ f43.l1 R a1 A23_ n23_ c23_ ((n23_ : Nat) : Int) (0 : Int) h)
set_option maxRecDepth 100000 in
theorem f43.l0_in {R : Value → Heap → Prop} {a1 : Addr} {A21 : Option Addr} {n21 : Nat} {c21 : Nat} {x22 : Int} {x23 : Int} {h : Heap} (H : f43.l0T R a1 A21 n21 c21 x22 x23 h) : f43.l0 R a1 A21 n21 c21 x22 x23 h :=
  pt_intro mixed f43.good (Eq.mpr (show (Fwd Try.prog f43.T f43.kp Try.f43 R [false, false, true, false, true, true] (mkFr [(1, (Value.pointer (some a1))), (21, (Value.slice A21 n21 c21)), (22, (Value.int .i64 x22)), (23, (Value.int .i64 x23))]) h) = (f43.l0T R a1 A21 n21 c21 x22 x23 h) by kernel_rfl) H)
set_option maxRecDepth 100000 in
def f43.l1T (R : Value → Heap → Prop) (a1 : Addr) (A60 : Option Addr) (n60 : Nat) (c60 : Nat) (x61 : Int) (x62 : Int) (h : Heap) : Prop :=
  splitB (decide (x62 < x61)) (ptrOk A60 fun a1_ => 0 ≤ x62 ∧ x62 < ((n60 : Nat) : Int) ∧ (∃ v2_, ldv false 1 h (Addr.add a1_ (Int.toNat x62 * 1)) = some v2_ ∧ ∃ A3_, ∃ n3_, ∃ c3_, v2_ = (Value.slice A3_ n3_ c3_) ∧ splitB (decide (((n3_ : Nat) : Int) > (40 : Int))) (R (Value.int .i64 (2 : Int)) h) (f43.l2 R a1 x62 A60 n60 c60 x61 x62 A3_ n3_ c3_ ((n3_ : Nat) : Int) (0 : Int) h))) (R (Value.int .i64 (0 : Int)) h)
set_option maxRecDepth 100000 in
theorem f43.l1_in {R : Value → Heap → Prop} {a1 : Addr} {A60 : Option Addr} {n60 : Nat} {c60 : Nat} {x61 : Int} {x62 : Int} {h : Heap} (H : f43.l1T R a1 A60 n60 c60 x61 x62 h) : f43.l1 R a1 A60 n60 c60 x61 x62 h :=
  pt_intro mixed f43.good (Eq.mpr (show (Fwd Try.prog f43.T f43.kp Try.f43 R [false, false, true, false, true, true, true] (mkFr [(1, (Value.pointer (some a1))), (60, (Value.slice A60 n60 c60)), (61, (Value.int .i64 x61)), (62, (Value.int .i64 x62))]) h) = (f43.l1T R a1 A60 n60 c60 x61 x62 h) by kernel_rfl) H)
set_option maxRecDepth 100000 in
def f43.l2T (R : Value → Heap → Prop) (a1 : Addr) (x5 : Int) (A60 : Option Addr) (n60 : Nat) (c60 : Nat) (x61 : Int) (x62 : Int) (A70 : Option Addr) (n70 : Nat) (c70 : Nat) (x71 : Int) (x72 : Int) (h : Heap) : Prop :=
  splitB (decide (x72 < x71)) (ptrOk A70 fun a1_ => 0 ≤ x72 ∧ x72 < ((n70 : Nat) : Int) ∧ (∃ v2_, ldv true 3 h (Addr.add a1_ (Int.toNat x72 * 3)) = some v2_ ∧ newH h (Obj.cells #[(Value.int .i64 (0 : Int)), (Value.bool false), (Value.int .i64 (0 : Int))] 93) fun h3_ => ∃ l5_ : List Value, v2_ = Value.agg l5_.toArray ∧ l5_.length = 3 ∧ ∃ h4_, stH h3_ (⟨Array.size h, 0, none⟩) l5_ 0 = some h4_ ∧ ∃ v6_, ldv false 1 h4_ (⟨Array.size h, 0, none⟩) = some v6_ ∧ ∃ x7_, v6_ = (Value.int .i64 x7_) ∧ splitB (decide (x7_ < (0 : Int))) (R (Value.int .i64 (1 : Int)) h4_) (∃ v8_, ldv false 1 h4_ (⟨Array.size h, 0, none⟩) = some v8_ ∧ ∃ x9_, v8_ = (Value.int .i64 x9_) ∧ ∃ v10_, ldv false 1 h4_ a1 = some v10_ ∧ ∃ A11_, ∃ n11_, ∃ c11_, v10_ = (Value.slice A11_ n11_ c11_) ∧ splitB (decide (x9_ ≥ ((n11_ : Nat) : Int))) (R (Value.int .i64 (1 : Int)) h4_) (∃ v12_, ldv false 1 h4_ (Addr.add (⟨Array.size h, 0, none⟩) 2) = some v12_ ∧ ∃ x13_, v12_ = (Value.int .i64 x13_) ∧ splitB (decide (x13_ < (0 : Int))) (R (Value.int .i64 (1 : Int)) h4_) (∃ v14_, ldv false 1 h4_ (Addr.add (⟨Array.size h, 0, none⟩) 2) = some v14_ ∧ ∃ x15_, v14_ = (Value.int .i64 x15_) ∧ splitB (decide (x15_ > (20 : Int))) (R (Value.int .i64 (1 : Int)) h4_) (f43.j1 R a1 x5 (⟨Array.size h, 0, none⟩) A60 n60 c60 x61 x62 A70 n70 c70 x71 x72 h4_)))))) (f43.l1 R a1 A60 n60 c60 x61 (IntKind.wrap .i64 (x62 + (1 : Int))) h)
set_option maxRecDepth 100000 in
theorem f43.l2_in {R : Value → Heap → Prop} {a1 : Addr} {x5 : Int} {A60 : Option Addr} {n60 : Nat} {c60 : Nat} {x61 : Int} {x62 : Int} {A70 : Option Addr} {n70 : Nat} {c70 : Nat} {x71 : Int} {x72 : Int} {h : Heap} (H : f43.l2T R a1 x5 A60 n60 c60 x61 x62 A70 n70 c70 x71 x72 h) : f43.l2 R a1 x5 A60 n60 c60 x61 x62 A70 n70 c70 x71 x72 h :=
  pt_intro mixed f43.good (Eq.mpr (show (Fwd Try.prog f43.T f43.kp Try.f43 R [false, false, true, true, true, false, false, true, true, false, false, true, false, true, true, true] (mkFr [(1, (Value.pointer (some a1))), (5, (Value.int .i64 x5)), (60, (Value.slice A60 n60 c60)), (61, (Value.int .i64 x61)), (62, (Value.int .i64 x62)), (70, (Value.slice A70 n70 c70)), (71, (Value.int .i64 x71)), (72, (Value.int .i64 x72))]) h) = (f43.l2T R a1 x5 A60 n60 c60 x61 x62 A70 n70 c70 x71 x72 h) by kernel_rfl) H)
set_option maxRecDepth 100000 in
def f43.j1T (R : Value → Heap → Prop) (a1 : Addr) (x5 : Int) (a8 : Addr) (A60 : Option Addr) (n60 : Nat) (c60 : Nat) (x61 : Int) (x62 : Int) (A70 : Option Addr) (n70 : Nat) (c70 : Nat) (x71 : Int) (x72 : Int) (h : Heap) : Prop :=
  ∃ v1_, ldv false 1 h a1 = some v1_ ∧ ∃ A2_, ∃ n2_, ∃ c2_, v1_ = (Value.slice A2_ n2_ c2_) ∧ ∃ v3_, ldv false 1 h a8 = some v3_ ∧ ∃ x4_, v3_ = (Value.int .i64 x4_) ∧ ptrOk A2_ fun a5_ => 0 ≤ x4_ ∧ x4_ < ((n2_ : Nat) : Int) ∧ (∃ v6_, ldv true 2 h (Addr.add a5_ (Int.toNat x4_ * 2)) = some v6_ ∧ newH h (Obj.cells #[(Value.int .i64 (0 : Int)), (Value.int .i64 (0 : Int))] 89) fun h7_ => ∃ l9_ : List Value, v6_ = Value.agg l9_.toArray ∧ l9_.length = 2 ∧ ∃ h8_, stH h7_ (⟨Array.size h, 0, none⟩) l9_ 0 = some h8_ ∧ ∃ v10_, ldv false 1 h8_ (⟨Array.size h, 0, none⟩) = some v10_ ∧ ∃ x11_, v10_ = (Value.int .i64 x11_) ∧ splitB (x11_ != x5) (∃ v12_, ldv false 1 h8_ (Addr.add (⟨Array.size h, 0, none⟩) 1) = some v12_ ∧ ∃ x13_, v12_ = (Value.int .i64 x13_) ∧ splitB (x13_ != x5) (R (Value.int .i64 (7 : Int)) h8_) (f43.l2 R a1 x5 A60 n60 c60 x61 x62 A70 n70 c70 x71 (IntKind.wrap .i64 (x72 + (1 : Int))) h8_)) (f43.l2 R a1 x5 A60 n60 c60 x61 x62 A70 n70 c70 x71 (IntKind.wrap .i64 (x72 + (1 : Int))) h8_))
set_option maxRecDepth 100000 in
theorem f43.j1_in {R : Value → Heap → Prop} {a1 : Addr} {x5 : Int} {a8 : Addr} {A60 : Option Addr} {n60 : Nat} {c60 : Nat} {x61 : Int} {x62 : Int} {A70 : Option Addr} {n70 : Nat} {c70 : Nat} {x71 : Int} {x72 : Int} {h : Heap} (H : f43.j1T R a1 x5 a8 A60 n60 c60 x61 x62 A70 n70 c70 x71 x72 h) : f43.j1 R a1 x5 a8 A60 n60 c60 x61 x62 A70 n70 c70 x71 x72 h :=
  pt_intro mixed f43.good (Eq.mpr (show (Fwd Try.prog f43.T f43.kp Try.f43 R [true, true, false, false, true, true, false, false, true, true, true, false, false, true, true, false, false, true, false, true, true, true] (mkFr [(1, (Value.pointer (some a1))), (5, (Value.int .i64 x5)), (8, (Value.pointer (some a8))), (60, (Value.slice A60 n60 c60)), (61, (Value.int .i64 x61)), (62, (Value.int .i64 x62)), (70, (Value.slice A70 n70 c70)), (71, (Value.int .i64 x71)), (72, (Value.int .i64 x72))]) h) = (f43.j1T R a1 x5 a8 A60 n60 c60 x61 x62 A70 n70 c70 x71 x72 h) by kernel_rfl) H)
set_option maxRecDepth 100000 in
def f43.runT (R : Value → Heap → Prop) (v0 : Value) (h : Heap) : Prop :=
  newH h (Obj.cells ((v0).cells) 78) fun h1_ => ∃ v2_, ldv false 1 h1_ (Addr.add (⟨Array.size h, 0, none⟩) 1) = some v2_ ∧ ∃ A3_, ∃ n3_, ∃ c3_, v2_ = (Value.slice A3_ n3_ c3_) ∧ splitB (decide (((n3_ : Nat) : Int) > (8 : Int))) (R (Value.int .i64 (2 : Int)) h1_) (∃ v4_, ldv false 1 h1_ (⟨Array.size h, 0, none⟩) = some v4_ ∧ ∃ A5_, ∃ n5_, ∃ c5_, v4_ = (Value.slice A5_ n5_ c5_) ∧ splitB (decide (((n5_ : Nat) : Int) > (12 : Int))) (R (Value.int .i64 (2 : Int)) h1_) (f43.j0 R (⟨Array.size h, 0, none⟩) h1_))
set_option maxRecDepth 100000 in
theorem f43.run {R : Value → Heap → Prop} {v0 : Value} {h : Heap} (H : f43.runT R v0 h) : Run Try.prog 43 #[v0] h R :=
  run_of mixed Try.func43 (by kernel_rfl) (by kernel_rfl) f43.good (Eq.mpr (show (Fwd Try.prog f43.T f43.kp Try.f43 R [] (mkFr (argL [v0] 0)) h) = (f43.runT R v0 h) by kernel_rfl) H)
def f69.T : Tab := { sh := tSh, tup := tTup, keep := [], plan := [] }
def f69.kp : Keep := [([false, false, true, false, true, true], [1, 2, 15, 16, 17])]
theorem f69.good : goodCode Try.prog f69.T (rootOf Try.f69) = true := by kernel_rfl
def f69.l0 (R : Value → Heap → Prop) (A1 : Option Addr) (n1 : Nat) (c1 : Nat) (v2 : Value) (A15 : Option Addr) (n15 : Nat) (c15 : Nat) (x16 : Int) (x17 : Int) (h : Heap) : Prop := Pt Try.prog Try.f69 R [false, false, true, false, true, true] (mkFr [(1, (Value.slice A1 n1 c1)), (2, v2), (15, (Value.slice A15 n15 c15)), (16, (Value.int .i64 x16)), (17, (Value.int .i64 x17))]) h
set_option maxRecDepth 100000 in
def f69.l0T (R : Value → Heap → Prop) (A1 : Option Addr) (n1 : Nat) (c1 : Nat) (v2 : Value) (A15 : Option Addr) (n15 : Nat) (c15 : Nat) (x16 : Int) (x17 : Int) (h : Heap) : Prop :=
  splitB (decide (x17 < x16)) (ptrOk A15 fun a1_ => 0 ≤ x17 ∧ x17 < ((n15 : Nat) : Int) ∧ (∃ v2_, ldv true 3 h (Addr.add a1_ (Int.toNat x17 * 3)) = some v2_ ∧ newH h (Obj.cells #[(Value.int .i64 (0 : Int)), (Value.bool false), (Value.int .i64 (0 : Int))] 93) fun h3_ => ∃ l5_ : List Value, v2_ = Value.agg l5_.toArray ∧ l5_.length = 3 ∧ ∃ h4_, stH h3_ (⟨Array.size h, 0, none⟩) l5_ 0 = some h4_ ∧ ptrOk A1 fun a6_ => 0 ≤ x17 ∧ x17 < ((n1 : Nat) : Int) ∧ (∃ v7_, ldv true 3 h4_ (Addr.add a6_ (Int.toNat x17 * 3)) = some v7_ ∧ newH h4_ (Obj.cells #[(Value.int .i64 (0 : Int)), (Value.bool false), (Value.int .i64 (0 : Int))] 93) fun h8_ => ∃ l10_ : List Value, v7_ = Value.agg l10_.toArray ∧ l10_.length = 3 ∧ ∃ h9_, stH h8_ (⟨Array.size h4_, 0, none⟩) l10_ 0 = some h9_ ∧ ∃ v11_, ldv true 3 h9_ (⟨Array.size h, 0, none⟩) = some v11_ ∧ ∃ v12_, ldv true 3 h9_ (⟨Array.size h4_, 0, none⟩) = some v12_ ∧ CallF Try.prog v2 [v11_, v12_] h9_ fun v13_ h14_ => ∃ b15_, v13_ = (Value.bool b15_) ∧ splitB (!b15_) (R (Value.bool false) h14_) (f69.l0 R A1 n1 c1 v2 A15 n15 c15 x16 (IntKind.wrap .i64 (x17 + (1 : Int))) h14_)))) (R (Value.bool true) h)
set_option maxRecDepth 100000 in
theorem f69.l0_in {R : Value → Heap → Prop} {A1 : Option Addr} {n1 : Nat} {c1 : Nat} {v2 : Value} {A15 : Option Addr} {n15 : Nat} {c15 : Nat} {x16 : Int} {x17 : Int} {h : Heap} (H : f69.l0T R A1 n1 c1 v2 A15 n15 c15 x16 x17 h) : f69.l0 R A1 n1 c1 v2 A15 n15 c15 x16 x17 h :=
  pt_intro mixed f69.good (Eq.mpr (show (Fwd Try.prog f69.T f69.kp Try.f69 R [false, false, true, false, true, true] (mkFr [(1, (Value.slice A1 n1 c1)), (2, v2), (15, (Value.slice A15 n15 c15)), (16, (Value.int .i64 x16)), (17, (Value.int .i64 x17))]) h) = (f69.l0T R A1 n1 c1 v2 A15 n15 c15 x16 x17 h) by kernel_rfl) H)
set_option maxRecDepth 100000 in
def f69.runT (R : Value → Heap → Prop) (A0 : Option Addr) (n0 : Nat) (c0 : Nat) (A1 : Option Addr) (n1 : Nat) (c1 : Nat) (v2 : Value) (h : Heap) : Prop :=
  splitB (((n0 : Nat) : Int) != ((n1 : Nat) : Int)) (R (Value.bool false) h) (f69.l0 R A1 n1 c1 v2 A0 n0 c0 ((n0 : Nat) : Int) (0 : Int) h)
set_option maxRecDepth 100000 in
theorem f69.run {R : Value → Heap → Prop} {A0 : Option Addr} {n0 : Nat} {c0 : Nat} {A1 : Option Addr} {n1 : Nat} {c1 : Nat} {v2 : Value} {h : Heap} (H : f69.runT R A0 n0 c0 A1 n1 c1 v2 h) : Run Try.prog 69 #[(Value.slice A0 n0 c0), (Value.slice A1 n1 c1), v2] h R :=
  run_of mixed Try.func69 (by kernel_rfl) (by kernel_rfl) f69.good (Eq.mpr (show (Fwd Try.prog f69.T f69.kp Try.f69 R [] (mkFr (argL [(Value.slice A0 n0 c0), (Value.slice A1 n1 c1), v2] 0)) h) = (f69.runT R A0 n0 c0 A1 n1 c1 v2 h) by kernel_rfl) H)
def f70.T : Tab := { sh := tSh, tup := tTup, keep := [], plan := [] }
def f70.kp : Keep := [([false, false, true, false, true, true], [1, 5, 8, 9, 10])]
theorem f70.good : goodCode Try.prog f70.T (rootOf Try.f70) = true := by kernel_rfl
def f70.l0 (R : Value → Heap → Prop) (x1 : Int) (A5 : Option Addr) (n5 : Nat) (c5 : Nat) (A8 : Option Addr) (n8 : Nat) (c8 : Nat) (x9 : Int) (x10 : Int) (h : Heap) : Prop := Pt Try.prog Try.f70 R [false, false, true, false, true, true] (mkFr [(1, (Value.int .i64 x1)), (5, (Value.slice A5 n5 c5)), (8, (Value.slice A8 n8 c8)), (9, (Value.int .i64 x9)), (10, (Value.int .i64 x10))]) h
set_option maxRecDepth 100000 in
def f70.l0T (R : Value → Heap → Prop) (x1 : Int) (A5 : Option Addr) (n5 : Nat) (c5 : Nat) (A8 : Option Addr) (n8 : Nat) (c8 : Nat) (x9 : Int) (x10 : Int) (h : Heap) : Prop :=
  splitB (decide (x10 < x9)) (ptrOk A8 fun a1_ => 0 ≤ x10 ∧ x10 < ((n8 : Nat) : Int) ∧ (∃ v2_, ldv true 3 h (Addr.add a1_ (Int.toNat x10 * 3)) = some v2_ ∧ newH h (Obj.cells #[(Value.int .i64 (0 : Int)), (Value.bool false), (Value.int .i64 (0 : Int))] 93) fun h3_ => ∃ l5_ : List Value, v2_ = Value.agg l5_.toArray ∧ l5_.length = 3 ∧ ∃ h4_, stH h3_ (⟨Array.size h, 0, none⟩) l5_ 0 = some h4_ ∧ ∃ v6_, ldv false 1 h4_ (⟨Array.size h, 0, none⟩) = some v6_ ∧ ∃ x7_, v6_ = (Value.int .i64 x7_) ∧ splitB (x7_ == x1) (∃ v8_, ldv true 3 h4_ (⟨Array.size h, 0, none⟩) = some v8_ ∧ ∃ l9_ : List Value, v8_ = Value.agg l9_.toArray ∧ l9_.length = 3 ∧ (newH h4_ (Obj.cells ((List.take 0 ([(Value.int .i64 (0 : Int)), (Value.bool false), (Value.int .i64 (0 : Int))]) ++ l9_ ++ List.drop 3 ([(Value.int .i64 (0 : Int)), (Value.bool false), (Value.int .i64 (0 : Int))])).toArray) 93) fun h10_ => AppW 93 3 24 #[(Value.int .i64 (0 : Int)), (Value.bool false), (Value.int .i64 (0 : Int))] A5 n5 c5 (Value.slice (some ⟨Array.size h4_, 0, none⟩) 1 1) h10_ fun v11_ h12_ => ∃ A13_, ∃ n13_, ∃ c13_, v11_ = (Value.slice A13_ n13_ c13_) ∧ f70.l0 R x1 A13_ n13_ c13_ A8 n8 c8 x9 (IntKind.wrap .i64 (x10 + (1 : Int))) h12_)) (f70.l0 R x1 A5 n5 c5 A8 n8 c8 x9 (IntKind.wrap .i64 (x10 + (1 : Int))) h4_))) (R (Value.slice A5 n5 c5) h)
set_option maxRecDepth 100000 in
theorem f70.l0_in {R : Value → Heap → Prop} {x1 : Int} {A5 : Option Addr} {n5 : Nat} {c5 : Nat} {A8 : Option Addr} {n8 : Nat} {c8 : Nat} {x9 : Int} {x10 : Int} {h : Heap} (H : f70.l0T R x1 A5 n5 c5 A8 n8 c8 x9 x10 h) : f70.l0 R x1 A5 n5 c5 A8 n8 c8 x9 x10 h :=
  pt_intro mixed f70.good (Eq.mpr (show (Fwd Try.prog f70.T f70.kp Try.f70 R [false, false, true, false, true, true] (mkFr [(1, (Value.int .i64 x1)), (5, (Value.slice A5 n5 c5)), (8, (Value.slice A8 n8 c8)), (9, (Value.int .i64 x9)), (10, (Value.int .i64 x10))]) h) = (f70.l0T R x1 A5 n5 c5 A8 n8 c8 x9 x10 h) by kernel_rfl) H)
set_option maxRecDepth 100000 in
def f70.runT (R : Value → Heap → Prop) (A0 : Option Addr) (n0 : Nat) (c0 : Nat) (x1 : Int) (h : Heap) : Prop :=
  f70.l0 R x1 none 0 0 A0 n0 c0 ((n0 : Nat) : Int) (0 : Int) h
set_option maxRecDepth 100000 in
theorem f70.run {R : Value → Heap → Prop} {A0 : Option Addr} {n0 : Nat} {c0 : Nat} {x1 : Int} {h : Heap} (H : f70.runT R A0 n0 c0 x1 h) : Run Try.prog 70 #[(Value.slice A0 n0 c0), (Value.int .i64 x1)] h R :=
  run_of mixed Try.func70 (by kernel_rfl) (by kernel_rfl) f70.good (Eq.mpr (show (Fwd Try.prog f70.T f70.kp Try.f70 R [] (mkFr (argL [(Value.slice A0 n0 c0), (Value.int .i64 x1)] 0)) h) = (f70.runT R A0 n0 c0 x1 h) by kernel_rfl) H)
def f71.T : Tab := { sh := tSh, tup := tTup, keep := [], plan := [] }
def f71.kp : Keep := []
theorem f71.good : goodCode Try.prog f71.T (rootOf Try.f71) = true := by kernel_rfl
set_option maxRecDepth 100000 in
theorem f71.ok : calleeOk Try.prog 71 = true := by kernel_rfl
set_option maxRecDepth 100000 in
def f71.runT (R : Value → Heap → Prop) (v0 : Value) (v1 : Value) (h : Heap) : Prop :=
  newH h (Obj.cells ((v0).cells) 93) fun h1_ => newH h1_ (Obj.cells ((v1).cells) 93) fun h2_ => ∃ v3_, ldv false 1 h2_ (Addr.add (⟨Array.size h, 0, none⟩) 2) = some v3_ ∧ ∃ x4_, v3_ = (Value.int .i64 x4_) ∧ ∃ v5_, ldv false 1 h2_ (Addr.add (⟨Array.size h1_, 0, none⟩) 2) = some v5_ ∧ ∃ x6_, v5_ = (Value.int .i64 x6_) ∧ splitB (x4_ == x6_) (∃ v7_, ldv false 1 h2_ (Addr.add (⟨Array.size h, 0, none⟩) 1) = some v7_ ∧ ∃ b8_, v7_ = (Value.bool b8_) ∧ ∃ v9_, ldv false 1 h2_ (Addr.add (⟨Array.size h1_, 0, none⟩) 1) = some v9_ ∧ ∃ b10_, v9_ = (Value.bool b10_) ∧ R (Value.bool (!(b8_ == b10_))) h2_) (R (Value.bool false) h2_)
set_option maxRecDepth 100000 in
theorem f71.run {R : Value → Heap → Prop} {v0 : Value} {v1 : Value} {h : Heap} (H : f71.runT R v0 v1 h) : Run Try.prog 71 #[v0, v1] h R :=
  run_of mixed Try.func71 (by kernel_rfl) (by kernel_rfl) f71.good (Eq.mpr (show (Fwd Try.prog f71.T f71.kp Try.f71 R [] (mkFr (argL [v0, v1] 0)) h) = (f71.runT R v0 v1 h) by kernel_rfl) H)
def f38.T : Tab := { sh := tSh, tup := tTup, keep := [], plan := [(7, (.take 0 (.take 2 (.take 6 (.take 8 (.take 10 (.take 14 (.take 1 (.take 3 (.take 4 (.take 5 (.take 9 (.take 11 (.take 12 (.take 13 (.eff false true 7 (.eff false false 15 (.eff false false 16 (.take 17 .done)))))))))))))))))))] }
def f38.kp : Keep := [([false, false, true, false, true, true], [1, 13, 14, 15])]
theorem f38.good : goodCode Try.prog f38.T (rootOf Try.f38) = true := by kernel_rfl
def f38.l0 (R : Value → Heap → Prop) (a1 : Addr) (A13 : Option Addr) (n13 : Nat) (c13 : Nat) (x14 : Int) (x15 : Int) (h : Heap) : Prop := Pt Try.prog Try.f38 R [false, false, true, false, true, true] (mkFr [(1, (Value.pointer (some a1))), (13, (Value.slice A13 n13 c13)), (14, (Value.int .i64 x14)), (15, (Value.int .i64 x15))]) h
set_option maxRecDepth 100000 in
def f38.l0T (R : Value → Heap → Prop) (a1 : Addr) (A13 : Option Addr) (n13 : Nat) (c13 : Nat) (x14 : Int) (x15 : Int) (h : Heap) : Prop :=
  splitB (decide (x15 < x14)) (ptrOk A13 fun a1_ => 0 ≤ x15 ∧ x15 < ((n13 : Nat) : Int) ∧ (∃ v2_, ldv true 2 h (Addr.add a1_ (Int.toNat x15 * 2)) = some v2_ ∧ newH h (Obj.cells #[(Value.int .i64 (0 : Int)), (Value.int .i64 (0 : Int))] 89) fun h3_ => ∃ l5_ : List Value, v2_ = Value.agg l5_.toArray ∧ l5_.length = 2 ∧ ∃ h4_, stH h3_ (⟨Array.size h, 0, none⟩) l5_ 0 = some h4_ ∧ ∃ v6_, ldv false 1 h4_ (Addr.add a1 1) = some v6_ ∧ ∃ A7_, ∃ n7_, ∃ c7_, v6_ = (Value.slice A7_ n7_ c7_) ∧ ∃ v8_, ldv false 1 h4_ (⟨Array.size h, 0, none⟩) = some v8_ ∧ ∃ x9_, v8_ = (Value.int .i64 x9_) ∧ ptrOk A7_ fun a10_ => 0 ≤ x9_ ∧ x9_ < ((n7_ : Nat) : Int) ∧ (∃ v11_, ldv false 1 h4_ (Addr.add a10_ (Int.toNat x9_ * 1)) = some v11_ ∧ ∃ A12_, ∃ n12_, ∃ c12_, v11_ = (Value.slice A12_ n12_ c12_) ∧ ∃ v13_, ldv false 1 h4_ (Addr.add a1 1) = some v13_ ∧ ∃ A14_, ∃ n14_, ∃ c14_, v13_ = (Value.slice A14_ n14_ c14_) ∧ ∃ v15_, ldv false 1 h4_ (Addr.add (⟨Array.size h, 0, none⟩) 1) = some v15_ ∧ ∃ x16_, v15_ = (Value.int .i64 x16_) ∧ ptrOk A14_ fun a17_ => 0 ≤ x16_ ∧ x16_ < ((n14_ : Nat) : Int) ∧ (∃ v18_, ldv false 1 h4_ (Addr.add a17_ (Int.toNat x16_ * 1)) = some v18_ ∧ ∃ A19_, ∃ n19_, ∃ c19_, v18_ = (Value.slice A19_ n19_ c19_) ∧ Run Try.prog 70 #[(Value.slice A12_ n12_ c12_), (Value.int .i64 x15)] h4_ fun v20_ h21_ => ∃ A22_, ∃ n22_, ∃ c22_, v20_ = (Value.slice A22_ n22_ c22_) ∧ Ext h4_ h21_ ∧ (Run Try.prog 70 #[(Value.slice A19_ n19_ c19_), (Value.int .i64 x15)] h21_ fun v23_ h24_ => ∃ A25_, ∃ n25_, ∃ c25_, v23_ = (Value.slice A25_ n25_ c25_) ∧ Run Try.prog 69 #[(Value.slice A22_ n22_ c22_), (Value.slice A25_ n25_ c25_), (Value.func (.func 71) #[] #[])] h24_ fun v26_ h27_ => ∃ b28_, v26_ = (Value.bool b28_) ∧ splitB (!b28_) (R (Value.tuple #[(Value.int .i64 x15), (Value.int .i64 (0 : Int))]) h27_) (f38.l0 R a1 A13 n13 c13 x14 (IntKind.wrap .i64 (x15 + (1 : Int))) h27_)))))) (R (Value.tuple #[(Value.int .i64 (-1 : Int)), (Value.int .i64 (0 : Int))]) h)
set_option maxRecDepth 100000 in
theorem f38.l0_in {R : Value → Heap → Prop} {a1 : Addr} {A13 : Option Addr} {n13 : Nat} {c13 : Nat} {x14 : Int} {x15 : Int} {h : Heap} (H : f38.l0T R a1 A13 n13 c13 x14 x15 h) : f38.l0 R a1 A13 n13 c13 x14 x15 h :=
  pt_intro mixed f38.good (Eq.mpr (show (Fwd Try.prog f38.T f38.kp Try.f38 R [false, false, true, false, true, true] (mkFr [(1, (Value.pointer (some a1))), (13, (Value.slice A13 n13 c13)), (14, (Value.int .i64 x14)), (15, (Value.int .i64 x15))]) h) = (f38.l0T R a1 A13 n13 c13 x14 x15 h) by kernel_rfl) H)
set_option maxRecDepth 100000 in
def f38.runT (R : Value → Heap → Prop) (v0 : Value) (h : Heap) : Prop :=
  newH h (Obj.cells ((v0).cells) 78) fun h1_ => ∃ v2_, ldv true 2 h1_ (⟨Array.size h, 0, none⟩) = some v2_ ∧ Run Try.prog 43 #[v2_] h1_ fun v3_ h4_ => ∃ x5_, v3_ = (Value.int .i64 x5_) ∧ splitB (x5_ != (0 : Int)) (R (Value.tuple #[(Value.int .i64 (0 : Int)), (Value.int .i64 x5_)]) h4_) (∃ v6_, ldv false 1 h4_ (⟨Array.size h, 0, none⟩) = some v6_ ∧ ∃ A7_, ∃ n7_, ∃ c7_, v6_ = (Value.slice A7_ n7_ c7_) ∧ f38.l0 R (⟨Array.size h, 0, none⟩) A7_ n7_ c7_ ((n7_ : Nat) : Int) (0 : Int) h4_)
set_option maxRecDepth 100000 in
theorem f38.run {R : Value → Heap → Prop} {v0 : Value} {h : Heap} (H : f38.runT R v0 h) : Run Try.prog 38 #[v0] h R :=
  run_of mixed Try.func38 (by kernel_rfl) (by kernel_rfl) f38.good (Eq.mpr (show (Fwd Try.prog f38.T f38.kp Try.f38 R [] (mkFr (argL [v0] 0)) h) = (f38.runT R v0 h) by kernel_rfl) H)
def f84.T : Tab := { sh := tSh, tup := tTup, keep := [], plan := [(3, (.take 0 (.take 1 (.take 2 (.take 3 (.take 4 (.take 5 (.take 6 (.take 8 (.take 9 (.take 10 (.take 7 (.take 11 (.take 12 (.eff false false 13 (.take 14 (.eff false false 15 .done)))))))))))))))))] }
def f84.kp : Keep := [([false, false, true], [0, 2, 3])]
theorem f84.good : goodCode Try.prog f84.T (rootOf Try.f84) = true := by kernel_rfl
def f84.l0 (R : Value → Heap → Prop) (A0 : Option Addr) (n0 : Nat) (c0 : Nat) (x2 : Int) (x3 : Int) (h : Heap) : Prop := Pt Try.prog Try.f84 R [false, false, true] (mkFr [(0, (Value.slice A0 n0 c0)), (2, (Value.int .i64 x2)), (3, (Value.int .i64 x3))]) h
set_option maxRecDepth 100000 in
def f84.l0T (R : Value → Heap → Prop) (A0 : Option Addr) (n0 : Nat) (c0 : Nat) (x2 : Int) (x3 : Int) (h : Heap) : Prop :=
  splitB (decide (x2 < x3)) (ptrOk A0 fun a1_ => 0 ≤ x3 ∧ x3 < ((n0 : Nat) : Int) ∧ (ptrOk A0 fun a2_ => 0 ≤ x2 ∧ x2 < ((n0 : Nat) : Int) ∧ (∃ v3_, ldv false 1 h (Addr.add a1_ (Int.toNat x3 * 1)) = some v3_ ∧ ∃ x4_, v3_ = (Value.int .i64 x4_) ∧ ∃ v5_, ldv false 1 h (Addr.add a2_ (Int.toNat x2 * 1)) = some v5_ ∧ ∃ x6_, v5_ = (Value.int .i64 x6_) ∧ ptrOk A0 fun a7_ => 0 ≤ x2 ∧ x2 < ((n0 : Nat) : Int) ∧ (∃ h8_, st1 h (Addr.add a7_ (Int.toNat x2 * 1)) (Value.int .i64 x4_) = some h8_ ∧ ptrOk A0 fun a9_ => 0 ≤ x3 ∧ x3 < ((n0 : Nat) : Int) ∧ (∃ h10_, st1 h8_ (Addr.add a9_ (Int.toNat x3 * 1)) (Value.int .i64 x6_) = some h10_ ∧ f84.l0 R A0 n0 c0 (IntKind.wrap .i64 (x2 + (1 : Int))) (IntKind.wrap .i64 (x3 - (1 : Int))) h10_))))) (R (Value.tuple #[]) h)
set_option maxRecDepth 100000 in
theorem f84.l0_in {R : Value → Heap → Prop} {A0 : Option Addr} {n0 : Nat} {c0 : Nat} {x2 : Int} {x3 : Int} {h : Heap} (H : f84.l0T R A0 n0 c0 x2 x3 h) : f84.l0 R A0 n0 c0 x2 x3 h :=
  pt_intro mixed f84.good (Eq.mpr (show (Fwd Try.prog f84.T f84.kp Try.f84 R [false, false, true] (mkFr [(0, (Value.slice A0 n0 c0)), (2, (Value.int .i64 x2)), (3, (Value.int .i64 x3))]) h) = (f84.l0T R A0 n0 c0 x2 x3 h) by kernel_rfl) H)
set_option maxRecDepth 100000 in
def f84.runT (R : Value → Heap → Prop) (A0 : Option Addr) (n0 : Nat) (c0 : Nat) (h : Heap) : Prop :=
  f84.l0 R A0 n0 c0 (0 : Int) (IntKind.wrap .i64 (((n0 : Nat) : Int) - (1 : Int))) h
set_option maxRecDepth 100000 in
theorem f84.run {R : Value → Heap → Prop} {A0 : Option Addr} {n0 : Nat} {c0 : Nat} {h : Heap} (H : f84.runT R A0 n0 c0 h) : Run Try.prog 84 #[(Value.slice A0 n0 c0)] h R :=
  run_of mixed Try.func84 (by kernel_rfl) (by kernel_rfl) f84.good (Eq.mpr (show (Fwd Try.prog f84.T f84.kp Try.f84 R [] (mkFr (argL [(Value.slice A0 n0 c0)] 0)) h) = (f84.runT R A0 n0 c0 h) by kernel_rfl) H)
def f72.T : Tab := { sh := tSh, tup := tTup, keep := [], plan := [(28, (.take 0 (.take 2 (.take 6 (.take 8 (.take 13 (.take 1 (.take 3 (.take 4 (.take 5 (.take 7 (.take 9 (.take 10 (.take 11 (.take 12 (.take 14 (.take 15 .done)))))))))))))))))] }
def f72.kp : Keep := [([false, false, true, false, true, true], [1, 2, 3, 4, 9, 25, 26]), ([false, false, false, true, true, true, true, true, true], [1, 2, 3, 4, 9, 11, 12]), ([true, false, false, false, true, true, true, true, true, true], [1, 2, 3, 4, 9, 11, 12]), ([false, false, true, true, true, false, true, false, false, false, true, true, true, true, true, true], [1, 2, 3, 4, 9, 11, 12, 13, 58, 59, 60]), ([true, true, true, false, false, true, true, false, false, true, true, true, false, true, false, false, false, true, true, true, true, true, true], [1, 2, 3, 4, 9, 11, 12, 13, 14, 16, 58, 59, 60]), ([true, true, true, true, true, true, true], [1, 2, 4, 9, 11]), ([false, false, true, false, true, true, true, true, true, true, true, true, true], [1, 4, 9, 17, 18])]
theorem f72.good : goodCode Try.prog f72.T (rootOf Try.f72) = true := by kernel_rfl
def f72.l0 (R : Value → Heap → Prop) (x1 : Int) (x2 : Int) (x3 : Int) (a4 : Addr) (A9 : Option Addr) (n9 : Nat) (c9 : Nat) (x25 : Int) (x26 : Int) (h : Heap) : Prop := Pt Try.prog Try.f72 R [false, false, true, false, true, true] (mkFr [(1, (Value.int .i64 x1)), (2, (Value.int .i64 x2)), (3, (Value.int .i64 x3)), (4, (Value.pointer (some a4))), (9, (Value.slice A9 n9 c9)), (25, (Value.int .i64 x25)), (26, (Value.int .i64 x26))]) h
def f72.l1 (R : Value → Heap → Prop) (x1 : Int) (x2 : Int) (x3 : Int) (a4 : Addr) (A9 : Option Addr) (n9 : Nat) (c9 : Nat) (A11 : Option Addr) (n11 : Nat) (c11 : Nat) (A12 : Option Addr) (n12 : Nat) (c12 : Nat) (h : Heap) : Prop := Pt Try.prog Try.f72 R [false, false, false, true, true, true, true, true, true] (mkFr [(1, (Value.int .i64 x1)), (2, (Value.int .i64 x2)), (3, (Value.int .i64 x3)), (4, (Value.pointer (some a4))), (9, (Value.slice A9 n9 c9)), (11, (Value.slice A11 n11 c11)), (12, (Value.slice A12 n12 c12))]) h
def f72.j1 (R : Value → Heap → Prop) (x1 : Int) (x2 : Int) (x3 : Int) (a4 : Addr) (A9 : Option Addr) (n9 : Nat) (c9 : Nat) (A11 : Option Addr) (n11 : Nat) (c11 : Nat) (A12 : Option Addr) (n12 : Nat) (c12 : Nat) (h : Heap) : Prop := Pt Try.prog Try.f72 R [true, false, false, false, true, true, true, true, true, true] (mkFr [(1, (Value.int .i64 x1)), (2, (Value.int .i64 x2)), (3, (Value.int .i64 x3)), (4, (Value.pointer (some a4))), (9, (Value.slice A9 n9 c9)), (11, (Value.slice A11 n11 c11)), (12, (Value.slice A12 n12 c12))]) h
def f72.j0 (R : Value → Heap → Prop) (x1 : Int) (x2 : Int) (a4 : Addr) (A9 : Option Addr) (n9 : Nat) (c9 : Nat) (A11 : Option Addr) (n11 : Nat) (c11 : Nat) (h : Heap) : Prop := Pt Try.prog Try.f72 R [true, true, true, true, true, true, true] (mkFr [(1, (Value.int .i64 x1)), (2, (Value.int .i64 x2)), (4, (Value.pointer (some a4))), (9, (Value.slice A9 n9 c9)), (11, (Value.slice A11 n11 c11))]) h
def f72.l3 (R : Value → Heap → Prop) (x1 : Int) (x2 : Int) (x3 : Int) (a4 : Addr) (A9 : Option Addr) (n9 : Nat) (c9 : Nat) (A11 : Option Addr) (n11 : Nat) (c11 : Nat) (A12 : Option Addr) (n12 : Nat) (c12 : Nat) (x13 : Int) (A58 : Option Addr) (n58 : Nat) (c58 : Nat) (x59 : Int) (x60 : Int) (h : Heap) : Prop := Pt Try.prog Try.f72 R [false, false, true, true, true, false, true, false, false, false, true, true, true, true, true, true] (mkFr [(1, (Value.int .i64 x1)), (2, (Value.int .i64 x2)), (3, (Value.int .i64 x3)), (4, (Value.pointer (some a4))), (9, (Value.slice A9 n9 c9)), (11, (Value.slice A11 n11 c11)), (12, (Value.slice A12 n12 c12)), (13, (Value.int .i64 x13)), (58, (Value.slice A58 n58 c58)), (59, (Value.int .i64 x59)), (60, (Value.int .i64 x60))]) h
def f72.l2 (R : Value → Heap → Prop) (x1 : Int) (a4 : Addr) (A9 : Option Addr) (n9 : Nat) (c9 : Nat) (A17 : Option Addr) (n17 : Nat) (c17 : Nat) (x18 : Int) (h : Heap) : Prop := Pt Try.prog Try.f72 R [false, false, true, false, true, true, true, true, true, true, true, true, true] (mkFr [(1, (Value.int .i64 x1)), (4, (Value.pointer (some a4))), (9, (Value.slice A9 n9 c9)), (17, (Value.slice A17 n17 c17)), (18, (Value.int .i64 x18))]) h
def f72.j2 (R : Value → Heap → Prop) (x1 : Int) (x2 : Int) (x3 : Int) (a4 : Addr) (A9 : Option Addr) (n9 : Nat) (c9 : Nat) (A11 : Option Addr) (n11 : Nat) (c11 : Nat) (A12 : Option Addr) (n12 : Nat) (c12 : Nat) (x13 : Int) (x14 : Int) (x16 : Int) (A58 : Option Addr) (n58 : Nat) (c58 : Nat) (x59 : Int) (x60 : Int) (h : Heap) : Prop := Pt Try.prog Try.f72 R [true, true, true, false, false, true, true, false, false, true, true, true, false, true, false, false, false, true, true, true, true, true, true] (mkFr [(1, (Value.int .i64 x1)), (2, (Value.int .i64 x2)), (3, (Value.int .i64 x3)), (4, (Value.pointer (some a4))), (9, (Value.slice A9 n9 c9)), (11, (Value.slice A11 n11 c11)), (12, (Value.slice A12 n12 c12)), (13, (Value.int .i64 x13)), (14, (Value.int .i64 x14)), (16, (Value.int .i64 x16)), (58, (Value.slice A58 n58 c58)), (59, (Value.int .i64 x59)), (60, (Value.int .i64 x60))]) h
set_option maxRecDepth 100000 in
def f72.l0T (R : Value → Heap → Prop) (x1 : Int) (x2 : Int) (x3 : Int) (a4 : Addr) (A9 : Option Addr) (n9 : Nat) (c9 : Nat) (x25 : Int) (x26 : Int) (h : Heap) : Prop :=
  splitB (decide (x26 < x25)) (ptrOk A9 fun a1_ => 0 ≤ x26 ∧ x26 < ((n9 : Nat) : Int) ∧ (∃ h2_, st1 h (Addr.add a1_ (Int.toNat x26 * 1)) (Value.int .i64 (-1 : Int)) = some h2_ ∧ f72.l0 R x1 x2 x3 a4 A9 n9 c9 x25 (IntKind.wrap .i64 (x26 + (1 : Int))) h2_)) (∃ v3_, ldv false 1 h (Addr.add a4 1) = some v3_ ∧ ∃ A4_, ∃ n4_, ∃ c4_, v3_ = (Value.slice A4_ n4_ c4_) ∧ 0 ≤ ((n4_ : Nat) : Int) ∧ ((n4_ : Nat) : Int) ≤ ((n4_ : Nat) : Int) ∧ ((n4_ : Nat) : Int) * 1 ≤ 140737488355328 ∧ ((n4_ : Nat) : Int) ≤ 9223372036854775807 ∧ (newH h (Obj.cells (mkCells #[(Value.bool false)] (Int.toNat ((n4_ : Nat) : Int) * 1)) 4) fun h5_ => 0 ≤ x1 ∧ x1 < (((Int.toNat ((n4_ : Nat) : Int)) : Nat) : Int) ∧ (∃ h6_, st1 h5_ (Addr.add (⟨Array.size h, 0, none⟩) (Int.toNat x1 * 1)) (Value.bool true) = some h6_ ∧ newH h6_ (Obj.cells #[(Value.int .i64 x1)] 3) fun h7_ => f72.l1 R x1 x2 x3 a4 A9 n9 c9 (some ⟨Array.size h, 0, none⟩) (Int.toNat ((n4_ : Nat) : Int)) (Int.toNat ((n4_ : Nat) : Int)) (some ⟨Array.size h6_, 0, none⟩) 1 1 h7_)))
set_option maxRecDepth 100000 in
theorem f72.l0_in {R : Value → Heap → Prop} {x1 : Int} {x2 : Int} {x3 : Int} {a4 : Addr} {A9 : Option Addr} {n9 : Nat} {c9 : Nat} {x25 : Int} {x26 : Int} {h : Heap} (H : f72.l0T R x1 x2 x3 a4 A9 n9 c9 x25 x26 h) : f72.l0 R x1 x2 x3 a4 A9 n9 c9 x25 x26 h :=
  pt_intro mixed f72.good (Eq.mpr (show (Fwd Try.prog f72.T f72.kp Try.f72 R [false, false, true, false, true, true] (mkFr [(1, (Value.int .i64 x1)), (2, (Value.int .i64 x2)), (3, (Value.int .i64 x3)), (4, (Value.pointer (some a4))), (9, (Value.slice A9 n9 c9)), (25, (Value.int .i64 x25)), (26, (Value.int .i64 x26))]) h) = (f72.l0T R x1 x2 x3 a4 A9 n9 c9 x25 x26 h) by kernel_rfl) H)
set_option maxRecDepth 100000 in
def f72.l1T (R : Value → Heap → Prop) (x1 : Int) (x2 : Int) (x3 : Int) (a4 : Addr) (A9 : Option Addr) (n9 : Nat) (c9 : Nat) (A11 : Option Addr) (n11 : Nat) (c11 : Nat) (A12 : Option Addr) (n12 : Nat) (c12 : Nat) (h : Heap) : Prop :=
  splitB (decide (((n12 : Nat) : Int) > (0 : Int))) (ptrOk A11 fun a1_ => 0 ≤ x2 ∧ x2 < ((n11 : Nat) : Int) ∧ (∃ v2_, ldv false 1 h (Addr.add a1_ (Int.toNat x2 * 1)) = some v2_ ∧ ∃ b3_, v2_ = (Value.bool b3_) ∧ splitB (!b3_) (f72.j1 R x1 x2 x3 a4 A9 n9 c9 A11 n11 c11 A12 n12 c12 h) (f72.j0 R x1 x2 a4 A9 n9 c9 A11 n11 c11 h))) (f72.j0 R x1 x2 a4 A9 n9 c9 A11 n11 c11 h)
set_option maxRecDepth 100000 in
theorem f72.l1_in {R : Value → Heap → Prop} {x1 : Int} {x2 : Int} {x3 : Int} {a4 : Addr} {A9 : Option Addr} {n9 : Nat} {c9 : Nat} {A11 : Option Addr} {n11 : Nat} {c11 : Nat} {A12 : Option Addr} {n12 : Nat} {c12 : Nat} {h : Heap} (H : f72.l1T R x1 x2 x3 a4 A9 n9 c9 A11 n11 c11 A12 n12 c12 h) : f72.l1 R x1 x2 x3 a4 A9 n9 c9 A11 n11 c11 A12 n12 c12 h :=
  pt_intro mixed f72.good (Eq.mpr (show (Fwd Try.prog f72.T f72.kp Try.f72 R [false, false, false, true, true, true, true, true, true] (mkFr [(1, (Value.int .i64 x1)), (2, (Value.int .i64 x2)), (3, (Value.int .i64 x3)), (4, (Value.pointer (some a4))), (9, (Value.slice A9 n9 c9)), (11, (Value.slice A11 n11 c11)), (12, (Value.slice A12 n12 c12))]) h) = (f72.l1T R x1 x2 x3 a4 A9 n9 c9 A11 n11 c11 A12 n12 c12 h) by kernel_rfl) H)
set_option maxRecDepth 100000 in
def f72.j1T (R : Value → Heap → Prop) (x1 : Int) (x2 : Int) (x3 : Int) (a4 : Addr) (A9 : Option Addr) (n9 : Nat) (c9 : Nat) (A11 : Option Addr) (n11 : Nat) (c11 : Nat) (A12 : Option Addr) (n12 : Nat) (c12 : Nat) (h : Heap) : Prop :=
  ptrOk A12 fun a1_ => 0 ≤ (0 : Int) ∧ (0 : Int) < ((n12 : Nat) : Int) ∧ (∃ v2_, ldv false 1 h (Addr.add a1_ (Int.toNat (0 : Int) * 1)) = some v2_ ∧ ∃ x3_, v2_ = (Value.int .i64 x3_) ∧ 0 ≤ (1 : Int) ∧ (1 : Int) ≤ ((n12 : Nat) : Int) ∧ ((n12 : Nat) : Int) ≤ ((c12 : Nat) : Int) ∧ (∃ v4_, ldv false 1 h a4 = some v4_ ∧ ∃ A5_, ∃ n5_, ∃ c5_, v4_ = (Value.slice A5_ n5_ c5_) ∧ f72.l3 R x1 x2 x3 a4 A9 n9 c9 A11 n11 c11 (sliceA A12 (Int.toNat (1 : Int)) c12 1) (Int.toNat ((n12 : Nat) : Int) - Int.toNat (1 : Int)) (c12 - Int.toNat (1 : Int)) x3_ A5_ n5_ c5_ ((n5_ : Nat) : Int) (0 : Int) h))
set_option maxRecDepth 100000 in
theorem f72.j1_in {R : Value → Heap → Prop} {x1 : Int} {x2 : Int} {x3 : Int} {a4 : Addr} {A9 : Option Addr} {n9 : Nat} {c9 : Nat} {A11 : Option Addr} {n11 : Nat} {c11 : Nat} {A12 : Option Addr} {n12 : Nat} {c12 : Nat} {h : Heap} (H : f72.j1T R x1 x2 x3 a4 A9 n9 c9 A11 n11 c11 A12 n12 c12 h) : f72.j1 R x1 x2 x3 a4 A9 n9 c9 A11 n11 c11 A12 n12 c12 h :=
  pt_intro mixed f72.good (Eq.mpr (show (Fwd Try.prog f72.T f72.kp Try.f72 R [true, false, false, false, true, true, true, true, true, true] (mkFr [(1, (Value.int .i64 x1)), (2, (Value.int .i64 x2)), (3, (Value.int .i64 x3)), (4, (Value.pointer (some a4))), (9, (Value.slice A9 n9 c9)), (11, (Value.slice A11 n11 c11)), (12, (Value.slice A12 n12 c12))]) h) = (f72.j1T R x1 x2 x3 a4 A9 n9 c9 A11 n11 c11 A12 n12 c12 h) by kernel_rfl) H)
set_option maxRecDepth 100000 in
def f72.j0T (R : Value → Heap → Prop) (x1 : Int) (x2 : Int) (a4 : Addr) (A9 : Option Addr) (n9 : Nat) (c9 : Nat) (A11 : Option Addr) (n11 : Nat) (c11 : Nat) (h : Heap) : Prop :=
  ptrOk A11 fun a1_ => 0 ≤ x2 ∧ x2 < ((n11 : Nat) : Int) ∧ (∃ v2_, ldv false 1 h (Addr.add a1_ (Int.toNat x2 * 1)) = some v2_ ∧ ∃ b3_, v2_ = (Value.bool b3_) ∧ splitB (!b3_) (R (Value.slice none 0 0) h) (f72.l2 R x1 a4 A9 n9 c9 none 0 0 x2 h))
set_option maxRecDepth 100000 in
theorem f72.j0_in {R : Value → Heap → Prop} {x1 : Int} {x2 : Int} {a4 : Addr} {A9 : Option Addr} {n9 : Nat} {c9 : Nat} {A11 : Option Addr} {n11 : Nat} {c11 : Nat} {h : Heap} (H : f72.j0T R x1 x2 a4 A9 n9 c9 A11 n11 c11 h) : f72.j0 R x1 x2 a4 A9 n9 c9 A11 n11 c11 h :=
  pt_intro mixed f72.good (Eq.mpr (show (Fwd Try.prog f72.T f72.kp Try.f72 R [true, true, true, true, true, true, true] (mkFr [(1, (Value.int .i64 x1)), (2, (Value.int .i64 x2)), (4, (Value.pointer (some a4))), (9, (Value.slice A9 n9 c9)), (11, (Value.slice A11 n11 c11))]) h) = (f72.j0T R x1 x2 a4 A9 n9 c9 A11 n11 c11 h) by kernel_rfl) H)
set_option maxRecDepth 100000 in
def f72.l3T (R : Value → Heap → Prop) (x1 : Int) (x2 : Int) (x3 : Int) (a4 : Addr) (A9 : Option Addr) (n9 : Nat) (c9 : Nat) (A11 : Option Addr) (n11 : Nat) (c11 : Nat) (A12 : Option Addr) (n12 : Nat) (c12 : Nat) (x13 : Int) (A58 : Option Addr) (n58 : Nat) (c58 : Nat) (x59 : Int) (x60 : Int) (h : Heap) : Prop :=
  splitB (decide (x60 < x59)) (ptrOk A58 fun a1_ => 0 ≤ x60 ∧ x60 < ((n58 : Nat) : Int) ∧ (∃ v2_, ldv true 2 h (Addr.add a1_ (Int.toNat x60 * 2)) = some v2_ ∧ newH h (Obj.cells #[(Value.int .i64 (0 : Int)), (Value.int .i64 (0 : Int))] 89) fun h3_ => ∃ l5_ : List Value, v2_ = Value.agg l5_.toArray ∧ l5_.length = 2 ∧ ∃ h4_, stH h3_ (⟨Array.size h, 0, none⟩) l5_ 0 = some h4_ ∧ ∃ v6_, ldv false 1 h4_ (⟨Array.size h, 0, none⟩) = some v6_ ∧ ∃ x7_, v6_ = (Value.int .i64 x7_) ∧ ∃ v8_, ldv false 1 h4_ (Addr.add (⟨Array.size h, 0, none⟩) 1) = some v8_ ∧ ∃ x9_, v8_ = (Value.int .i64 x9_) ∧ splitB (x60 == x3) (f72.l3 R x1 x2 x3 a4 A9 n9 c9 A11 n11 c11 A12 n12 c12 x13 A58 n58 c58 x59 (IntKind.wrap .i64 (x60 + (1 : Int))) h4_) (∃ v10_, ldv false 1 h4_ (⟨Array.size h, 0, none⟩) = some v10_ ∧ ∃ x11_, v10_ = (Value.int .i64 x11_) ∧ splitB (x11_ != x13) (∃ v12_, ldv false 1 h4_ (Addr.add (⟨Array.size h, 0, none⟩) 1) = some v12_ ∧ ∃ x13_, v12_ = (Value.int .i64 x13_) ∧ splitB (x13_ != x13) (f72.l3 R x1 x2 x3 a4 A9 n9 c9 A11 n11 c11 A12 n12 c12 x13 A58 n58 c58 x59 (IntKind.wrap .i64 (x60 + (1 : Int))) h4_) (ptrOk A11 fun a14_ => 0 ≤ (IntKind.wrap .i64 ((IntKind.wrap .i64 (x7_ + x9_)) - x13)) ∧ (IntKind.wrap .i64 ((IntKind.wrap .i64 (x7_ + x9_)) - x13)) < ((n11 : Nat) : Int) ∧ (∃ v15_, ldv false 1 h4_ (Addr.add a14_ (Int.toNat (IntKind.wrap .i64 ((IntKind.wrap .i64 (x7_ + x9_)) - x13)) * 1)) = some v15_ ∧ ∃ b16_, v15_ = (Value.bool b16_) ∧ splitB b16_ (f72.l3 R x1 x2 x3 a4 A9 n9 c9 A11 n11 c11 A12 n12 c12 x13 A58 n58 c58 x59 (IntKind.wrap .i64 (x60 + (1 : Int))) h4_) (f72.j2 R x1 x2 x3 a4 A9 n9 c9 A11 n11 c11 A12 n12 c12 x13 x60 (IntKind.wrap .i64 ((IntKind.wrap .i64 (x7_ + x9_)) - x13)) A58 n58 c58 x59 x60 h4_)))) (ptrOk A11 fun a17_ => 0 ≤ (IntKind.wrap .i64 ((IntKind.wrap .i64 (x7_ + x9_)) - x13)) ∧ (IntKind.wrap .i64 ((IntKind.wrap .i64 (x7_ + x9_)) - x13)) < ((n11 : Nat) : Int) ∧ (∃ v18_, ldv false 1 h4_ (Addr.add a17_ (Int.toNat (IntKind.wrap .i64 ((IntKind.wrap .i64 (x7_ + x9_)) - x13)) * 1)) = some v18_ ∧ ∃ b19_, v18_ = (Value.bool b19_) ∧ splitB b19_ (f72.l3 R x1 x2 x3 a4 A9 n9 c9 A11 n11 c11 A12 n12 c12 x13 A58 n58 c58 x59 (IntKind.wrap .i64 (x60 + (1 : Int))) h4_) (f72.j2 R x1 x2 x3 a4 A9 n9 c9 A11 n11 c11 A12 n12 c12 x13 x60 (IntKind.wrap .i64 ((IntKind.wrap .i64 (x7_ + x9_)) - x13)) A58 n58 c58 x59 x60 h4_)))))) (f72.l1 R x1 x2 x3 a4 A9 n9 c9 A11 n11 c11 A12 n12 c12 h)
set_option maxRecDepth 100000 in
theorem f72.l3_in {R : Value → Heap → Prop} {x1 : Int} {x2 : Int} {x3 : Int} {a4 : Addr} {A9 : Option Addr} {n9 : Nat} {c9 : Nat} {A11 : Option Addr} {n11 : Nat} {c11 : Nat} {A12 : Option Addr} {n12 : Nat} {c12 : Nat} {x13 : Int} {A58 : Option Addr} {n58 : Nat} {c58 : Nat} {x59 : Int} {x60 : Int} {h : Heap} (H : f72.l3T R x1 x2 x3 a4 A9 n9 c9 A11 n11 c11 A12 n12 c12 x13 A58 n58 c58 x59 x60 h) : f72.l3 R x1 x2 x3 a4 A9 n9 c9 A11 n11 c11 A12 n12 c12 x13 A58 n58 c58 x59 x60 h :=
  pt_intro mixed f72.good (Eq.mpr (show (Fwd Try.prog f72.T f72.kp Try.f72 R [false, false, true, true, true, false, true, false, false, false, true, true, true, true, true, true] (mkFr [(1, (Value.int .i64 x1)), (2, (Value.int .i64 x2)), (3, (Value.int .i64 x3)), (4, (Value.pointer (some a4))), (9, (Value.slice A9 n9 c9)), (11, (Value.slice A11 n11 c11)), (12, (Value.slice A12 n12 c12)), (13, (Value.int .i64 x13)), (58, (Value.slice A58 n58 c58)), (59, (Value.int .i64 x59)), (60, (Value.int .i64 x60))]) h) = (f72.l3T R x1 x2 x3 a4 A9 n9 c9 A11 n11 c11 A12 n12 c12 x13 A58 n58 c58 x59 x60 h) by kernel_rfl) H)
set_option maxRecDepth 100000 in
def f72.l2T (R : Value → Heap → Prop) (x1 : Int) (a4 : Addr) (A9 : Option Addr) (n9 : Nat) (c9 : Nat) (A17 : Option Addr) (n17 : Nat) (c17 : Nat) (x18 : Int) (h : Heap) : Prop :=
  splitB (x18 != x1) (ptrOk A9 fun a1_ => 0 ≤ x18 ∧ x18 < ((n9 : Nat) : Int) ∧ (∃ v2_, ldv false 1 h (Addr.add a1_ (Int.toNat x18 * 1)) = some v2_ ∧ ∃ x3_, v2_ = (Value.int .i64 x3_) ∧ newH h (Obj.cells #[(Value.int .i64 x3_)] 3) fun h4_ => AppW 3 1 8 #[(Value.int .i64 (0 : Int))] A17 n17 c17 (Value.slice (some ⟨Array.size h, 0, none⟩) 1 1) h4_ fun v5_ h6_ => ∃ A7_, ∃ n7_, ∃ c7_, v5_ = (Value.slice A7_ n7_ c7_) ∧ ∃ v8_, ldv false 1 h6_ a4 = some v8_ ∧ ∃ A9_, ∃ n9_, ∃ c9_, v8_ = (Value.slice A9_ n9_ c9_) ∧ ptrOk A9_ fun a10_ => 0 ≤ x3_ ∧ x3_ < ((n9_ : Nat) : Int) ∧ (∃ v11_, ldv false 1 h6_ (Addr.add a10_ (Int.toNat x3_ * 2)) = some v11_ ∧ ∃ x12_, v11_ = (Value.int .i64 x12_) ∧ ∃ v13_, ldv false 1 h6_ a4 = some v13_ ∧ ∃ A14_, ∃ n14_, ∃ c14_, v13_ = (Value.slice A14_ n14_ c14_) ∧ ptrOk A14_ fun a15_ => 0 ≤ x3_ ∧ x3_ < ((n14_ : Nat) : Int) ∧ (∃ v16_, ldv false 1 h6_ (Addr.add (Addr.add a15_ (Int.toNat x3_ * 2)) 1) = some v16_ ∧ ∃ x17_, v16_ = (Value.int .i64 x17_) ∧ f72.l2 R x1 a4 A9 n9 c9 A7_ n7_ c7_ (IntKind.wrap .i64 ((IntKind.wrap .i64 (x12_ + x17_)) - x18)) h6_)))) (Run Try.prog 84 #[(Value.slice A17 n17 c17)] h fun v18_ h19_ => v18_ = (Value.tuple #[]) ∧ R (Value.slice A17 n17 c17) h19_)
set_option maxRecDepth 100000 in
theorem f72.l2_in {R : Value → Heap → Prop} {x1 : Int} {a4 : Addr} {A9 : Option Addr} {n9 : Nat} {c9 : Nat} {A17 : Option Addr} {n17 : Nat} {c17 : Nat} {x18 : Int} {h : Heap} (H : f72.l2T R x1 a4 A9 n9 c9 A17 n17 c17 x18 h) : f72.l2 R x1 a4 A9 n9 c9 A17 n17 c17 x18 h :=
  pt_intro mixed f72.good (Eq.mpr (show (Fwd Try.prog f72.T f72.kp Try.f72 R [false, false, true, false, true, true, true, true, true, true, true, true, true] (mkFr [(1, (Value.int .i64 x1)), (4, (Value.pointer (some a4))), (9, (Value.slice A9 n9 c9)), (17, (Value.slice A17 n17 c17)), (18, (Value.int .i64 x18))]) h) = (f72.l2T R x1 a4 A9 n9 c9 A17 n17 c17 x18 h) by kernel_rfl) H)
set_option maxRecDepth 100000 in
def f72.j2T (R : Value → Heap → Prop) (x1 : Int) (x2 : Int) (x3 : Int) (a4 : Addr) (A9 : Option Addr) (n9 : Nat) (c9 : Nat) (A11 : Option Addr) (n11 : Nat) (c11 : Nat) (A12 : Option Addr) (n12 : Nat) (c12 : Nat) (x13 : Int) (x14 : Int) (x16 : Int) (A58 : Option Addr) (n58 : Nat) (c58 : Nat) (x59 : Int) (x60 : Int) (h : Heap) : Prop :=
  ptrOk A11 fun a1_ => 0 ≤ x16 ∧ x16 < ((n11 : Nat) : Int) ∧ (∃ h2_, st1 h (Addr.add a1_ (Int.toNat x16 * 1)) (Value.bool true) = some h2_ ∧ ptrOk A9 fun a3_ => 0 ≤ x16 ∧ x16 < ((n9 : Nat) : Int) ∧ (∃ h4_, st1 h2_ (Addr.add a3_ (Int.toNat x16 * 1)) (Value.int .i64 x14) = some h4_ ∧ newH h4_ (Obj.cells #[(Value.int .i64 x16)] 3) fun h5_ => AppW 3 1 8 #[(Value.int .i64 (0 : Int))] A12 n12 c12 (Value.slice (some ⟨Array.size h4_, 0, none⟩) 1 1) h5_ fun v6_ h7_ => ∃ A8_, ∃ n8_, ∃ c8_, v6_ = (Value.slice A8_ n8_ c8_) ∧ f72.l3 R x1 x2 x3 a4 A9 n9 c9 A11 n11 c11 A8_ n8_ c8_ x13 A58 n58 c58 x59 (IntKind.wrap .i64 (x60 + (1 : Int))) h7_))
set_option maxRecDepth 100000 in
theorem f72.j2_in {R : Value → Heap → Prop} {x1 : Int} {x2 : Int} {x3 : Int} {a4 : Addr} {A9 : Option Addr} {n9 : Nat} {c9 : Nat} {A11 : Option Addr} {n11 : Nat} {c11 : Nat} {A12 : Option Addr} {n12 : Nat} {c12 : Nat} {x13 : Int} {x14 : Int} {x16 : Int} {A58 : Option Addr} {n58 : Nat} {c58 : Nat} {x59 : Int} {x60 : Int} {h : Heap} (H : f72.j2T R x1 x2 x3 a4 A9 n9 c9 A11 n11 c11 A12 n12 c12 x13 x14 x16 A58 n58 c58 x59 x60 h) : f72.j2 R x1 x2 x3 a4 A9 n9 c9 A11 n11 c11 A12 n12 c12 x13 x14 x16 A58 n58 c58 x59 x60 h :=
  pt_intro mixed f72.good (Eq.mpr (show (Fwd Try.prog f72.T f72.kp Try.f72 R [true, true, true, false, false, true, true, false, false, true, true, true, false, true, false, false, false, true, true, true, true, true, true] (mkFr [(1, (Value.int .i64 x1)), (2, (Value.int .i64 x2)), (3, (Value.int .i64 x3)), (4, (Value.pointer (some a4))), (9, (Value.slice A9 n9 c9)), (11, (Value.slice A11 n11 c11)), (12, (Value.slice A12 n12 c12)), (13, (Value.int .i64 x13)), (14, (Value.int .i64 x14)), (16, (Value.int .i64 x16)), (58, (Value.slice A58 n58 c58)), (59, (Value.int .i64 x59)), (60, (Value.int .i64 x60))]) h) = (f72.j2T R x1 x2 x3 a4 A9 n9 c9 A11 n11 c11 A12 n12 c12 x13 x14 x16 A58 n58 c58 x59 x60 h) by kernel_rfl) H)
set_option maxRecDepth 100000 in
def f72.runT (R : Value → Heap → Prop) (v0 : Value) (x1 : Int) (x2 : Int) (x3 : Int) (h : Heap) : Prop :=
  newH h (Obj.cells ((v0).cells) 78) fun h1_ => ∃ v2_, ldv false 1 h1_ (Addr.add (⟨Array.size h, 0, none⟩) 1) = some v2_ ∧ ∃ A3_, ∃ n3_, ∃ c3_, v2_ = (Value.slice A3_ n3_ c3_) ∧ 0 ≤ ((n3_ : Nat) : Int) ∧ ((n3_ : Nat) : Int) ≤ ((n3_ : Nat) : Int) ∧ ((n3_ : Nat) : Int) * 8 ≤ 140737488355328 ∧ ((n3_ : Nat) : Int) ≤ 9223372036854775807 ∧ (newH h1_ (Obj.cells (mkCells #[(Value.int .i64 (0 : Int))] (Int.toNat ((n3_ : Nat) : Int) * 1)) 3) fun h4_ => f72.l0 R x1 x2 x3 (⟨Array.size h, 0, none⟩) (some ⟨Array.size h1_, 0, none⟩) (Int.toNat ((n3_ : Nat) : Int)) (Int.toNat ((n3_ : Nat) : Int)) (((Int.toNat ((n3_ : Nat) : Int)) : Nat) : Int) (0 : Int) h4_)
set_option maxRecDepth 100000 in
theorem f72.run {R : Value → Heap → Prop} {v0 : Value} {x1 : Int} {x2 : Int} {x3 : Int} {h : Heap} (H : f72.runT R v0 x1 x2 x3 h) : Run Try.prog 72 #[v0, (Value.int .i64 x1), (Value.int .i64 x2), (Value.int .i64 x3)] h R :=
  run_of mixed Try.func72 (by kernel_rfl) (by kernel_rfl) f72.good (Eq.mpr (show (Fwd Try.prog f72.T f72.kp Try.f72 R [] (mkFr (argL [v0, (Value.int .i64 x1), (Value.int .i64 x2), (Value.int .i64 x3)] 0)) h) = (f72.runT R v0 x1 x2 x3 h) by kernel_rfl) H)
def f39.T : Tab := { sh := tSh, tup := tTup, keep := [], plan := [] }
def f39.kp : Keep := [([false, false, true, false, true, true, true], [1, 5, 15, 16, 17]), ([true, true, true, false, false, true, true, false, false, true, false, true, true, true], [1, 5, 6, 8, 15, 16, 17, 42])]
theorem f39.good : goodCode Try.prog f39.T (rootOf Try.f39) = true := by kernel_rfl
def f39.l0 (R : Value → Heap → Prop) (a1 : Addr) (A5 : Option Addr) (n5 : Nat) (c5 : Nat) (A15 : Option Addr) (n15 : Nat) (c15 : Nat) (x16 : Int) (x17 : Int) (h : Heap) : Prop := Pt Try.prog Try.f39 R [false, false, true, false, true, true, true] (mkFr [(1, (Value.pointer (some a1))), (5, (Value.slice A5 n5 c5)), (15, (Value.slice A15 n15 c15)), (16, (Value.int .i64 x16)), (17, (Value.int .i64 x17))]) h
def f39.j0 (R : Value → Heap → Prop) (a1 : Addr) (A5 : Option Addr) (n5 : Nat) (c5 : Nat) (x6 : Int) (A8 : Option Addr) (n8 : Nat) (c8 : Nat) (A15 : Option Addr) (n15 : Nat) (c15 : Nat) (x16 : Int) (x17 : Int) (b42 : Bool) (h : Heap) : Prop := Pt Try.prog Try.f39 R [true, true, true, false, false, true, true, false, false, true, false, true, true, true] (mkFr [(1, (Value.pointer (some a1))), (5, (Value.slice A5 n5 c5)), (6, (Value.int .i64 x6)), (8, (Value.slice A8 n8 c8)), (15, (Value.slice A15 n15 c15)), (16, (Value.int .i64 x16)), (17, (Value.int .i64 x17)), (42, (Value.bool b42))]) h
set_option maxRecDepth 100000 in
def f39.l0T (R : Value → Heap → Prop) (a1 : Addr) (A5 : Option Addr) (n5 : Nat) (c5 : Nat) (A15 : Option Addr) (n15 : Nat) (c15 : Nat) (x16 : Int) (x17 : Int) (h : Heap) : Prop :=
  splitB (decide (x17 < x16)) (ptrOk A15 fun a1_ => 0 ≤ x17 ∧ x17 < ((n15 : Nat) : Int) ∧ (∃ v2_, ldv true 2 h (Addr.add a1_ (Int.toNat x17 * 2)) = some v2_ ∧ newH h (Obj.cells #[(Value.int .i64 (0 : Int)), (Value.int .i64 (0 : Int))] 89) fun h3_ => ∃ l5_ : List Value, v2_ = Value.agg l5_.toArray ∧ l5_.length = 2 ∧ ∃ h4_, stH h3_ (⟨Array.size h, 0, none⟩) l5_ 0 = some h4_ ∧ ∃ v6_, ldv true 2 h4_ a1 = some v6_ ∧ ∃ v7_, ldv false 1 h4_ (Addr.add (⟨Array.size h, 0, none⟩) 1) = some v7_ ∧ ∃ x8_, v7_ = (Value.int .i64 x8_) ∧ ∃ v9_, ldv false 1 h4_ (⟨Array.size h, 0, none⟩) = some v9_ ∧ ∃ x10_, v9_ = (Value.int .i64 x10_) ∧ Run Try.prog 72 #[v6_, (Value.int .i64 x8_), (Value.int .i64 x10_), (Value.int .i64 x17)] h4_ fun v11_ h12_ => ∃ A13_, ∃ n13_, ∃ c13_, v11_ = (Value.slice A13_ n13_ c13_) ∧ splitB (!(Option.isNone A13_)) (splitB (Option.isNone A5) (f39.j0 R a1 A5 n5 c5 x17 A13_ n13_ c13_ A15 n15 c15 x16 x17 true h12_) (f39.j0 R a1 A5 n5 c5 x17 A13_ n13_ c13_ A15 n15 c15 x16 x17 (decide ((IntKind.wrap .i64 (((n13_ : Nat) : Int) + (1 : Int))) < ((n5 : Nat) : Int))) h12_)) (f39.j0 R a1 A5 n5 c5 x17 A13_ n13_ c13_ A15 n15 c15 x16 x17 false h12_))) (splitB (Option.isNone A5) (R (Value.tuple #[(Value.slice none 0 0), (Value.int .i64 (4 : Int))]) h) (R (Value.tuple #[(Value.slice A5 n5 c5), (Value.int .i64 (0 : Int))]) h))
set_option maxRecDepth 100000 in
theorem f39.l0_in {R : Value → Heap → Prop} {a1 : Addr} {A5 : Option Addr} {n5 : Nat} {c5 : Nat} {A15 : Option Addr} {n15 : Nat} {c15 : Nat} {x16 : Int} {x17 : Int} {h : Heap} (H : f39.l0T R a1 A5 n5 c5 A15 n15 c15 x16 x17 h) : f39.l0 R a1 A5 n5 c5 A15 n15 c15 x16 x17 h :=
  pt_intro mixed f39.good (Eq.mpr (show (Fwd Try.prog f39.T f39.kp Try.f39 R [false, false, true, false, true, true, true] (mkFr [(1, (Value.pointer (some a1))), (5, (Value.slice A5 n5 c5)), (15, (Value.slice A15 n15 c15)), (16, (Value.int .i64 x16)), (17, (Value.int .i64 x17))]) h) = (f39.l0T R a1 A5 n5 c5 A15 n15 c15 x16 x17 h) by kernel_rfl) H)
set_option maxRecDepth 100000 in
def f39.j0T (R : Value → Heap → Prop) (a1 : Addr) (A5 : Option Addr) (n5 : Nat) (c5 : Nat) (x6 : Int) (A8 : Option Addr) (n8 : Nat) (c8 : Nat) (A15 : Option Addr) (n15 : Nat) (c15 : Nat) (x16 : Int) (x17 : Int) (b42 : Bool) (h : Heap) : Prop :=
  splitB b42 (newH h (Obj.cells #[(Value.int .i64 x6)] 3) fun h1_ => AppW 3 1 8 #[(Value.int .i64 (0 : Int))] (some ⟨Array.size h, 0, none⟩) 1 1 (Value.slice A8 n8 c8) h1_ fun v2_ h3_ => ∃ A4_, ∃ n4_, ∃ c4_, v2_ = (Value.slice A4_ n4_ c4_) ∧ f39.l0 R a1 A4_ n4_ c4_ A15 n15 c15 x16 (IntKind.wrap .i64 (x17 + (1 : Int))) h3_) (f39.l0 R a1 A5 n5 c5 A15 n15 c15 x16 (IntKind.wrap .i64 (x17 + (1 : Int))) h)
set_option maxRecDepth 100000 in
theorem f39.j0_in {R : Value → Heap → Prop} {a1 : Addr} {A5 : Option Addr} {n5 : Nat} {c5 : Nat} {x6 : Int} {A8 : Option Addr} {n8 : Nat} {c8 : Nat} {A15 : Option Addr} {n15 : Nat} {c15 : Nat} {x16 : Int} {x17 : Int} {b42 : Bool} {h : Heap} (H : f39.j0T R a1 A5 n5 c5 x6 A8 n8 c8 A15 n15 c15 x16 x17 b42 h) : f39.j0 R a1 A5 n5 c5 x6 A8 n8 c8 A15 n15 c15 x16 x17 b42 h :=
  pt_intro mixed f39.good (Eq.mpr (show (Fwd Try.prog f39.T f39.kp Try.f39 R [true, true, true, false, false, true, true, false, false, true, false, true, true, true] (mkFr [(1, (Value.pointer (some a1))), (5, (Value.slice A5 n5 c5)), (6, (Value.int .i64 x6)), (8, (Value.slice A8 n8 c8)), (15, (Value.slice A15 n15 c15)), (16, (Value.int .i64 x16)), (17, (Value.int .i64 x17)), (42, (Value.bool b42))]) h) = (f39.j0T R a1 A5 n5 c5 x6 A8 n8 c8 A15 n15 c15 x16 x17 b42 h) by kernel_rfl) H)
set_option maxRecDepth 100000 in
def f39.runT (R : Value → Heap → Prop) (v0 : Value) (h : Heap) : Prop :=
  newH h (Obj.cells ((v0).cells) 78) fun h1_ => ∃ v2_, ldv true 2 h1_ (⟨Array.size h, 0, none⟩) = some v2_ ∧ Run Try.prog 43 #[v2_] h1_ fun v3_ h4_ => ∃ x5_, v3_ = (Value.int .i64 x5_) ∧ splitB (x5_ != (0 : Int)) (R (Value.tuple #[(Value.slice none 0 0), (Value.int .i64 x5_)]) h4_) (∃ v6_, ldv false 1 h4_ (⟨Array.size h, 0, none⟩) = some v6_ ∧ ∃ A7_, ∃ n7_, ∃ c7_, v6_ = (Value.slice A7_ n7_ c7_) ∧ f39.l0 R (⟨Array.size h, 0, none⟩) none 0 0 A7_ n7_ c7_ ((n7_ : Nat) : Int) (0 : Int) h4_)
set_option maxRecDepth 100000 in
theorem f39.run {R : Value → Heap → Prop} {v0 : Value} {h : Heap} (H : f39.runT R v0 h) : Run Try.prog 39 #[v0] h R :=
  run_of mixed Try.func39 (by kernel_rfl) (by kernel_rfl) f39.good (Eq.mpr (show (Fwd Try.prog f39.T f39.kp Try.f39 R [] (mkFr (argL [v0] 0)) h) = (f39.runT R v0 h) by kernel_rfl) H)
def f73.T : Tab := { sh := tSh, tup := tTup, keep := [], plan := [(5, (.take 0 (.take 1 (.take 5 (.take 7 (.take 2 (.take 3 (.take 4 (.take 6 (.take 8 (.take 9 (.take 10 (.take 11 (.take 12 (.take 13 (.split 13 (.take 14 (.take 15 (.take 19 (.take 21 (.take 16 (.take 17 (.take 18 (.take 20 (.take 22 (.take 23 (.take 24 (.take 25 (.take 26 (.take 27 .done)))))))))))))))))))))))))))))), (6, (.take 0 (.take 2 (.take 6 (.take 7 (.take 13 (.take 15 (.take 19 (.take 20 (.take 1 (.take 3 (.take 4 (.take 5 (.take 8 (.take 9 (.take 10 (.take 11 (.take 12 (.take 14 (.take 16 (.take 17 (.take 18 (.take 21 (.take 22 (.take 23 (.take 24 (.take 25 (.alt false true 26 (.eff false true 27 (.eff false true 28 (.eff false false 29 .done))) (.eff false true 27 (.eff false true 26 (.eff false true 28 (.eff false false 29 .done))))))))))))))))))))))))))))))))] }
def f73.kp : Keep := [([false, false, true, false, true, true], [1, 2, 5, 11, 12, 13]), ([true, true, false, false, true, true, false, false, true, false, true, true], [1, 2, 5, 6, 7, 11, 12, 13]), ([true, true, true, false, false, true, true, false, false, true, false, true, true], [1, 2, 5, 6, 8, 9, 11, 12, 13]), ([true, true, true, true, false, false, true, true, false, false, true, false, true, true], [1, 2, 5, 6, 11, 12, 13, 95])]
theorem f73.good : goodCode Try.prog f73.T (rootOf Try.f73) = true := by kernel_rfl
def f73.l0 (R : Value → Heap → Prop) (A1 : Option Addr) (n1 : Nat) (c1 : Nat) (a2 : Addr) (A5 : Option Addr) (n5 : Nat) (c5 : Nat) (A11 : Option Addr) (n11 : Nat) (c11 : Nat) (x12 : Int) (x13 : Int) (h : Heap) : Prop := Pt Try.prog Try.f73 R [false, false, true, false, true, true] (mkFr [(1, (Value.slice A1 n1 c1)), (2, (Value.pointer (some a2))), (5, (Value.slice A5 n5 c5)), (11, (Value.slice A11 n11 c11)), (12, (Value.int .i64 x12)), (13, (Value.int .i64 x13))]) h
def f73.j0 (R : Value → Heap → Prop) (A1 : Option Addr) (n1 : Nat) (c1 : Nat) (a2 : Addr) (A5 : Option Addr) (n5 : Nat) (c5 : Nat) (x6 : Int) (a7 : Addr) (A11 : Option Addr) (n11 : Nat) (c11 : Nat) (x12 : Int) (x13 : Int) (h : Heap) : Prop := Pt Try.prog Try.f73 R [true, true, false, false, true, true, false, false, true, false, true, true] (mkFr [(1, (Value.slice A1 n1 c1)), (2, (Value.pointer (some a2))), (5, (Value.slice A5 n5 c5)), (6, (Value.int .i64 x6)), (7, (Value.pointer (some a7))), (11, (Value.slice A11 n11 c11)), (12, (Value.int .i64 x12)), (13, (Value.int .i64 x13))]) h
def f73.j1 (R : Value → Heap → Prop) (A1 : Option Addr) (n1 : Nat) (c1 : Nat) (a2 : Addr) (A5 : Option Addr) (n5 : Nat) (c5 : Nat) (x6 : Int) (a8 : Addr) (a9 : Addr) (A11 : Option Addr) (n11 : Nat) (c11 : Nat) (x12 : Int) (x13 : Int) (h : Heap) : Prop := Pt Try.prog Try.f73 R [true, true, true, false, false, true, true, false, false, true, false, true, true] (mkFr [(1, (Value.slice A1 n1 c1)), (2, (Value.pointer (some a2))), (5, (Value.slice A5 n5 c5)), (6, (Value.int .i64 x6)), (8, (Value.pointer (some a8))), (9, (Value.pointer (some a9))), (11, (Value.slice A11 n11 c11)), (12, (Value.int .i64 x12)), (13, (Value.int .i64 x13))]) h
def f73.j2 (R : Value → Heap → Prop) (A1 : Option Addr) (n1 : Nat) (c1 : Nat) (a2 : Addr) (A5 : Option Addr) (n5 : Nat) (c5 : Nat) (x6 : Int) (A11 : Option Addr) (n11 : Nat) (c11 : Nat) (x12 : Int) (x13 : Int) (b95 : Bool) (h : Heap) : Prop := Pt Try.prog Try.f73 R [true, true, true, true, false, false, true, true, false, false, true, false, true, true] (mkFr [(1, (Value.slice A1 n1 c1)), (2, (Value.pointer (some a2))), (5, (Value.slice A5 n5 c5)), (6, (Value.int .i64 x6)), (11, (Value.slice A11 n11 c11)), (12, (Value.int .i64 x12)), (13, (Value.int .i64 x13)), (95, (Value.bool b95))]) h
set_option maxRecDepth 100000 in
def f73.l0T (R : Value → Heap → Prop) (A1 : Option Addr) (n1 : Nat) (c1 : Nat) (a2 : Addr) (A5 : Option Addr) (n5 : Nat) (c5 : Nat) (A11 : Option Addr) (n11 : Nat) (c11 : Nat) (x12 : Int) (x13 : Int) (h : Heap) : Prop :=
  splitB (decide (x13 < x12)) (ptrOk A11 fun a1_ => 0 ≤ x13 ∧ x13 < ((n11 : Nat) : Int) ∧ (∃ v2_, ldv true 2 h (Addr.add a1_ (Int.toNat x13 * 2)) = some v2_ ∧ newH h (Obj.cells #[(Value.int .i64 (0 : Int)), (Value.int .i64 (0 : Int))] 89) fun h3_ => ∃ l5_ : List Value, v2_ = Value.agg l5_.toArray ∧ l5_.length = 2 ∧ ∃ h4_, stH h3_ (⟨Array.size h, 0, none⟩) l5_ 0 = some h4_ ∧ ∃ v6_, ldv false 1 h4_ (⟨Array.size h, 0, none⟩) = some v6_ ∧ ∃ x7_, v6_ = (Value.int .i64 x7_) ∧ ptrOk A1 fun a8_ => 0 ≤ x7_ ∧ x7_ < ((n1 : Nat) : Int) ∧ (∃ v9_, ldv false 1 h4_ (Addr.add a8_ (Int.toNat x7_ * 1)) = some v9_ ∧ ∃ x10_, v9_ = (Value.int .i64 x10_) ∧ ∃ v11_, ldv false 1 h4_ (Addr.add a2 1) = some v11_ ∧ ∃ A12_, ∃ n12_, ∃ c12_, v11_ = (Value.slice A12_ n12_ c12_) ∧ ∃ v13_, ldv false 1 h4_ (⟨Array.size h, 0, none⟩) = some v13_ ∧ ∃ x14_, v13_ = (Value.int .i64 x14_) ∧ ptrOk A12_ fun a15_ => 0 ≤ x14_ ∧ x14_ < ((n12_ : Nat) : Int) ∧ (∃ v16_, ldv false 1 h4_ (Addr.add a15_ (Int.toNat x14_ * 1)) = some v16_ ∧ ∃ A17_, ∃ n17_, ∃ c17_, v16_ = (Value.slice A17_ n17_ c17_) ∧ splitB (x10_ == ((n17_ : Nat) : Int)) (f73.l0 R A1 n1 c1 a2 A5 n5 c5 A11 n11 c11 x12 (IntKind.wrap .i64 (x13 + (1 : Int))) h4_) (∃ v18_, ldv false 1 h4_ (Addr.add (⟨Array.size h, 0, none⟩) 1) = some v18_ ∧ ∃ x19_, v18_ = (Value.int .i64 x19_) ∧ ptrOk A1 fun a20_ => 0 ≤ x19_ ∧ x19_ < ((n1 : Nat) : Int) ∧ (∃ v21_, ldv false 1 h4_ (Addr.add a20_ (Int.toNat x19_ * 1)) = some v21_ ∧ ∃ x22_, v21_ = (Value.int .i64 x22_) ∧ ∃ v23_, ldv false 1 h4_ (Addr.add a2 1) = some v23_ ∧ ∃ A24_, ∃ n24_, ∃ c24_, v23_ = (Value.slice A24_ n24_ c24_) ∧ ∃ v25_, ldv false 1 h4_ (Addr.add (⟨Array.size h, 0, none⟩) 1) = some v25_ ∧ ∃ x26_, v25_ = (Value.int .i64 x26_) ∧ ptrOk A24_ fun a27_ => 0 ≤ x26_ ∧ x26_ < ((n24_ : Nat) : Int) ∧ (∃ v28_, ldv false 1 h4_ (Addr.add a27_ (Int.toNat x26_ * 1)) = some v28_ ∧ ∃ A29_, ∃ n29_, ∃ c29_, v28_ = (Value.slice A29_ n29_ c29_) ∧ splitB (x22_ == ((n29_ : Nat) : Int)) (f73.l0 R A1 n1 c1 a2 A5 n5 c5 A11 n11 c11 x12 (IntKind.wrap .i64 (x13 + (1 : Int))) h4_) (f73.j0 R A1 n1 c1 a2 A5 n5 c5 x13 (⟨Array.size h, 0, none⟩) A11 n11 c11 x12 x13 h4_)))))))) (R (Value.slice A5 n5 c5) h)
set_option maxRecDepth 100000 in
theorem f73.l0_in {R : Value → Heap → Prop} {A1 : Option Addr} {n1 : Nat} {c1 : Nat} {a2 : Addr} {A5 : Option Addr} {n5 : Nat} {c5 : Nat} {A11 : Option Addr} {n11 : Nat} {c11 : Nat} {x12 : Int} {x13 : Int} {h : Heap} (H : f73.l0T R A1 n1 c1 a2 A5 n5 c5 A11 n11 c11 x12 x13 h) : f73.l0 R A1 n1 c1 a2 A5 n5 c5 A11 n11 c11 x12 x13 h :=
  pt_intro mixed f73.good (Eq.mpr (show (Fwd Try.prog f73.T f73.kp Try.f73 R [false, false, true, false, true, true] (mkFr [(1, (Value.slice A1 n1 c1)), (2, (Value.pointer (some a2))), (5, (Value.slice A5 n5 c5)), (11, (Value.slice A11 n11 c11)), (12, (Value.int .i64 x12)), (13, (Value.int .i64 x13))]) h) = (f73.l0T R A1 n1 c1 a2 A5 n5 c5 A11 n11 c11 x12 x13 h) by kernel_rfl) H)
set_option maxRecDepth 100000 in
def f73.j0T (R : Value → Heap → Prop) (A1 : Option Addr) (n1 : Nat) (c1 : Nat) (a2 : Addr) (A5 : Option Addr) (n5 : Nat) (c5 : Nat) (x6 : Int) (a7 : Addr) (A11 : Option Addr) (n11 : Nat) (c11 : Nat) (x12 : Int) (x13 : Int) (h : Heap) : Prop :=
  ∃ v1_, ldv false 1 h (Addr.add a2 1) = some v1_ ∧ ∃ A2_, ∃ n2_, ∃ c2_, v1_ = (Value.slice A2_ n2_ c2_) ∧ ∃ v3_, ldv false 1 h a7 = some v3_ ∧ ∃ x4_, v3_ = (Value.int .i64 x4_) ∧ ptrOk A2_ fun a5_ => 0 ≤ x4_ ∧ x4_ < ((n2_ : Nat) : Int) ∧ (∃ v6_, ldv false 1 h (Addr.add a5_ (Int.toNat x4_ * 1)) = some v6_ ∧ ∃ A7_, ∃ n7_, ∃ c7_, v6_ = (Value.slice A7_ n7_ c7_) ∧ ∃ v8_, ldv false 1 h a7 = some v8_ ∧ ∃ x9_, v8_ = (Value.int .i64 x9_) ∧ ptrOk A1 fun a10_ => 0 ≤ x9_ ∧ x9_ < ((n1 : Nat) : Int) ∧ (∃ v11_, ldv false 1 h (Addr.add a10_ (Int.toNat x9_ * 1)) = some v11_ ∧ ∃ x12_, v11_ = (Value.int .i64 x12_) ∧ ptrOk A7_ fun a13_ => 0 ≤ x12_ ∧ x12_ < ((n7_ : Nat) : Int) ∧ (∃ v14_, ldv true 3 h (Addr.add a13_ (Int.toNat x12_ * 3)) = some v14_ ∧ ∃ v15_, ldv false 1 h (Addr.add a2 1) = some v15_ ∧ ∃ A16_, ∃ n16_, ∃ c16_, v15_ = (Value.slice A16_ n16_ c16_) ∧ ∃ v17_, ldv false 1 h (Addr.add a7 1) = some v17_ ∧ ∃ x18_, v17_ = (Value.int .i64 x18_) ∧ ptrOk A16_ fun a19_ => 0 ≤ x18_ ∧ x18_ < ((n16_ : Nat) : Int) ∧ (∃ v20_, ldv false 1 h (Addr.add a19_ (Int.toNat x18_ * 1)) = some v20_ ∧ ∃ A21_, ∃ n21_, ∃ c21_, v20_ = (Value.slice A21_ n21_ c21_) ∧ ∃ v22_, ldv false 1 h (Addr.add a7 1) = some v22_ ∧ ∃ x23_, v22_ = (Value.int .i64 x23_) ∧ ptrOk A1 fun a24_ => 0 ≤ x23_ ∧ x23_ < ((n1 : Nat) : Int) ∧ (∃ v25_, ldv false 1 h (Addr.add a24_ (Int.toNat x23_ * 1)) = some v25_ ∧ ∃ x26_, v25_ = (Value.int .i64 x26_) ∧ ptrOk A21_ fun a27_ => 0 ≤ x26_ ∧ x26_ < ((n21_ : Nat) : Int) ∧ (∃ v28_, ldv true 3 h (Addr.add a27_ (Int.toNat x26_ * 3)) = some v28_ ∧ (newH h (Obj.cells #[(Value.int .i64 (0 : Int)), (Value.bool false), (Value.int .i64 (0 : Int))] 93) fun h29_ => Ext h h29_ ∧ (newH h29_ (Obj.cells #[(Value.int .i64 (0 : Int)), (Value.bool false), (Value.int .i64 (0 : Int))] 93) fun h30_ => Ext h h30_ ∧ (∃ l32_ : List Value, v14_ = Value.agg l32_.toArray ∧ l32_.length = 3 ∧ ∃ h31_, stH h30_ (⟨Array.size h, 0, none⟩) l32_ 0 = some h31_ ∧ Ext h h31_ ∧ (∃ l34_ : List Value, v28_ = Value.agg l34_.toArray ∧ l34_.length = 3 ∧ ∃ h33_, stH h31_ (⟨Array.size h29_, 0, none⟩) l34_ 0 = some h33_ ∧ f73.j1 R A1 n1 c1 a2 A5 n5 c5 x6 (⟨Array.size h, 0, none⟩) (⟨Array.size h29_, 0, none⟩) A11 n11 c11 x12 x13 h33_)))) ∧ (newH h (Obj.cells #[(Value.int .i64 (0 : Int)), (Value.bool false), (Value.int .i64 (0 : Int))] 93) fun h35_ => Ext h h35_ ∧ (newH h35_ (Obj.cells #[(Value.int .i64 (0 : Int)), (Value.bool false), (Value.int .i64 (0 : Int))] 93) fun h36_ => Ext h h36_ ∧ (∃ l38_ : List Value, v14_ = Value.agg l38_.toArray ∧ l38_.length = 3 ∧ ∃ h37_, stH h36_ (⟨Array.size h35_, 0, none⟩) l38_ 0 = some h37_ ∧ Ext h h37_ ∧ (∃ l40_ : List Value, v28_ = Value.agg l40_.toArray ∧ l40_.length = 3 ∧ ∃ h39_, stH h37_ (⟨Array.size h, 0, none⟩) l40_ 0 = some h39_ ∧ f73.j1 R A1 n1 c1 a2 A5 n5 c5 x6 (⟨Array.size h35_, 0, none⟩) (⟨Array.size h, 0, none⟩) A11 n11 c11 x12 x13 h39_))))))))))
set_option maxRecDepth 100000 in
theorem f73.j0_in {R : Value → Heap → Prop} {A1 : Option Addr} {n1 : Nat} {c1 : Nat} {a2 : Addr} {A5 : Option Addr} {n5 : Nat} {c5 : Nat} {x6 : Int} {a7 : Addr} {A11 : Option Addr} {n11 : Nat} {c11 : Nat} {x12 : Int} {x13 : Int} {h : Heap} (H : f73.j0T R A1 n1 c1 a2 A5 n5 c5 x6 a7 A11 n11 c11 x12 x13 h) : f73.j0 R A1 n1 c1 a2 A5 n5 c5 x6 a7 A11 n11 c11 x12 x13 h :=
  pt_intro mixed f73.good (Eq.mpr (show (Fwd Try.prog f73.T f73.kp Try.f73 R [true, true, false, false, true, true, false, false, true, false, true, true] (mkFr [(1, (Value.slice A1 n1 c1)), (2, (Value.pointer (some a2))), (5, (Value.slice A5 n5 c5)), (6, (Value.int .i64 x6)), (7, (Value.pointer (some a7))), (11, (Value.slice A11 n11 c11)), (12, (Value.int .i64 x12)), (13, (Value.int .i64 x13))]) h) = (f73.j0T R A1 n1 c1 a2 A5 n5 c5 x6 a7 A11 n11 c11 x12 x13 h) by kernel_rfl) H)
set_option maxRecDepth 100000 in
def f73.j1T (R : Value → Heap → Prop) (A1 : Option Addr) (n1 : Nat) (c1 : Nat) (a2 : Addr) (A5 : Option Addr) (n5 : Nat) (c5 : Nat) (x6 : Int) (a8 : Addr) (a9 : Addr) (A11 : Option Addr) (n11 : Nat) (c11 : Nat) (x12 : Int) (x13 : Int) (h : Heap) : Prop :=
  ∃ v1_, ldv false 1 h a8 = some v1_ ∧ ∃ x2_, v1_ = (Value.int .i64 x2_) ∧ splitB (x2_ == x6) (∃ v3_, ldv false 1 h a9 = some v3_ ∧ ∃ x4_, v3_ = (Value.int .i64 x4_) ∧ splitB (x4_ == x6) (∃ v5_, ldv false 1 h (Addr.add a8 2) = some v5_ ∧ ∃ x6_, v5_ = (Value.int .i64 x6_) ∧ ∃ v7_, ldv false 1 h (Addr.add a9 2) = some v7_ ∧ ∃ x8_, v7_ = (Value.int .i64 x8_) ∧ splitB (x6_ == x8_) (∃ v9_, ldv false 1 h (Addr.add a8 1) = some v9_ ∧ ∃ b10_, v9_ = (Value.bool b10_) ∧ ∃ v11_, ldv false 1 h (Addr.add a9 1) = some v11_ ∧ ∃ b12_, v11_ = (Value.bool b12_) ∧ f73.j2 R A1 n1 c1 a2 A5 n5 c5 x6 A11 n11 c11 x12 x13 (!(b10_ == b12_)) h) (f73.j2 R A1 n1 c1 a2 A5 n5 c5 x6 A11 n11 c11 x12 x13 false h)) (f73.j2 R A1 n1 c1 a2 A5 n5 c5 x6 A11 n11 c11 x12 x13 false h)) (f73.j2 R A1 n1 c1 a2 A5 n5 c5 x6 A11 n11 c11 x12 x13 false h)
set_option maxRecDepth 100000 in
theorem f73.j1_in {R : Value → Heap → Prop} {A1 : Option Addr} {n1 : Nat} {c1 : Nat} {a2 : Addr} {A5 : Option Addr} {n5 : Nat} {c5 : Nat} {x6 : Int} {a8 : Addr} {a9 : Addr} {A11 : Option Addr} {n11 : Nat} {c11 : Nat} {x12 : Int} {x13 : Int} {h : Heap} (H : f73.j1T R A1 n1 c1 a2 A5 n5 c5 x6 a8 a9 A11 n11 c11 x12 x13 h) : f73.j1 R A1 n1 c1 a2 A5 n5 c5 x6 a8 a9 A11 n11 c11 x12 x13 h :=
  pt_intro mixed f73.good (Eq.mpr (show (Fwd Try.prog f73.T f73.kp Try.f73 R [true, true, true, false, false, true, true, false, false, true, false, true, true] (mkFr [(1, (Value.slice A1 n1 c1)), (2, (Value.pointer (some a2))), (5, (Value.slice A5 n5 c5)), (6, (Value.int .i64 x6)), (8, (Value.pointer (some a8))), (9, (Value.pointer (some a9))), (11, (Value.slice A11 n11 c11)), (12, (Value.int .i64 x12)), (13, (Value.int .i64 x13))]) h) = (f73.j1T R A1 n1 c1 a2 A5 n5 c5 x6 a8 a9 A11 n11 c11 x12 x13 h) by kernel_rfl) H)
set_option maxRecDepth 100000 in
def f73.j2T (R : Value → Heap → Prop) (A1 : Option Addr) (n1 : Nat) (c1 : Nat) (a2 : Addr) (A5 : Option Addr) (n5 : Nat) (c5 : Nat) (x6 : Int) (A11 : Option Addr) (n11 : Nat) (c11 : Nat) (x12 : Int) (x13 : Int) (b95 : Bool) (h : Heap) : Prop :=
  splitB b95 (newH h (Obj.cells #[(Value.int .i64 x6)] 3) fun h1_ => AppW 3 1 8 #[(Value.int .i64 (0 : Int))] A5 n5 c5 (Value.slice (some ⟨Array.size h, 0, none⟩) 1 1) h1_ fun v2_ h3_ => ∃ A4_, ∃ n4_, ∃ c4_, v2_ = (Value.slice A4_ n4_ c4_) ∧ f73.l0 R A1 n1 c1 a2 A4_ n4_ c4_ A11 n11 c11 x12 (IntKind.wrap .i64 (x13 + (1 : Int))) h3_) (f73.l0 R A1 n1 c1 a2 A5 n5 c5 A11 n11 c11 x12 (IntKind.wrap .i64 (x13 + (1 : Int))) h)
set_option maxRecDepth 100000 in
theorem f73.j2_in {R : Value → Heap → Prop} {A1 : Option Addr} {n1 : Nat} {c1 : Nat} {a2 : Addr} {A5 : Option Addr} {n5 : Nat} {c5 : Nat} {x6 : Int} {A11 : Option Addr} {n11 : Nat} {c11 : Nat} {x12 : Int} {x13 : Int} {b95 : Bool} {h : Heap} (H : f73.j2T R A1 n1 c1 a2 A5 n5 c5 x6 A11 n11 c11 x12 x13 b95 h) : f73.j2 R A1 n1 c1 a2 A5 n5 c5 x6 A11 n11 c11 x12 x13 b95 h :=
  pt_intro mixed f73.good (Eq.mpr (show (Fwd Try.prog f73.T f73.kp Try.f73 R [true, true, true, true, false, false, true, true, false, false, true, false, true, true] (mkFr [(1, (Value.slice A1 n1 c1)), (2, (Value.pointer (some a2))), (5, (Value.slice A5 n5 c5)), (6, (Value.int .i64 x6)), (11, (Value.slice A11 n11 c11)), (12, (Value.int .i64 x12)), (13, (Value.int .i64 x13)), (95, (Value.bool b95))]) h) = (f73.j2T R A1 n1 c1 a2 A5 n5 c5 x6 A11 n11 c11 x12 x13 b95 h) by kernel_rfl) H)
set_option maxRecDepth 100000 in
def f73.runT (R : Value → Heap → Prop) (v0 : Value) (A1 : Option Addr) (n1 : Nat) (c1 : Nat) (h : Heap) : Prop :=
  newH h (Obj.cells ((v0).cells) 78) fun h1_ => ∃ v2_, ldv false 1 h1_ (⟨Array.size h, 0, none⟩) = some v2_ ∧ ∃ A3_, ∃ n3_, ∃ c3_, v2_ = (Value.slice A3_ n3_ c3_) ∧ f73.l0 R A1 n1 c1 (⟨Array.size h, 0, none⟩) none 0 0 A3_ n3_ c3_ ((n3_ : Nat) : Int) (0 : Int) h1_
set_option maxRecDepth 100000 in
theorem f73.run {R : Value → Heap → Prop} {v0 : Value} {A1 : Option Addr} {n1 : Nat} {c1 : Nat} {h : Heap} (H : f73.runT R v0 A1 n1 c1 h) : Run Try.prog 73 #[v0, (Value.slice A1 n1 c1)] h R :=
  run_of mixed Try.func73 (by kernel_rfl) (by kernel_rfl) f73.good (Eq.mpr (show (Fwd Try.prog f73.T f73.kp Try.f73 R [] (mkFr (argL [v0, (Value.slice A1 n1 c1)] 0)) h) = (f73.runT R v0 A1 n1 c1 h) by kernel_rfl) H)
def f40.T : Tab := { sh := tSh, tup := tTup, keep := [], plan := [(12, (.take 0 (.take 2 (.take 3 (.take 4 (.take 1 (.take 5 (.take 6 (.take 7 (.eff false true 8 (.eff false false 9 .done)))))))))))] }
def f40.kp : Keep := [([false, false, true, true, true, true], [1, 2, 8, 9]), ([true, true, true, true, false, false, false, true, true, true, true], [1, 2, 8, 9, 10, 11])]
theorem f40.good : goodCode Try.prog f40.T (rootOf Try.f40) = true := by kernel_rfl
def f40.l0 (R : Value → Heap → Prop) (A1 : Option Addr) (n1 : Nat) (c1 : Nat) (a2 : Addr) (A8 : Option Addr) (n8 : Nat) (c8 : Nat) (A9 : Option Addr) (n9 : Nat) (c9 : Nat) (h : Heap) : Prop := Pt Try.prog Try.f40 R [false, false, true, true, true, true] (mkFr [(1, (Value.slice A1 n1 c1)), (2, (Value.pointer (some a2))), (8, (Value.slice A8 n8 c8)), (9, (Value.slice A9 n9 c9))]) h
def f40.j0 (R : Value → Heap → Prop) (A1 : Option Addr) (n1 : Nat) (c1 : Nat) (a2 : Addr) (A8 : Option Addr) (n8 : Nat) (c8 : Nat) (A9 : Option Addr) (n9 : Nat) (c9 : Nat) (A10 : Option Addr) (n10 : Nat) (c10 : Nat) (x11 : Int) (h : Heap) : Prop := Pt Try.prog Try.f40 R [true, true, true, true, false, false, false, true, true, true, true] (mkFr [(1, (Value.slice A1 n1 c1)), (2, (Value.pointer (some a2))), (8, (Value.slice A8 n8 c8)), (9, (Value.slice A9 n9 c9)), (10, (Value.slice A10 n10 c10)), (11, (Value.int .i64 x11))]) h
set_option maxRecDepth 100000 in
def f40.l0T (R : Value → Heap → Prop) (A1 : Option Addr) (n1 : Nat) (c1 : Nat) (a2 : Addr) (A8 : Option Addr) (n8 : Nat) (c8 : Nat) (A9 : Option Addr) (n9 : Nat) (c9 : Nat) (h : Heap) : Prop :=
  ∃ v1_, ldv true 2 h a2 = some v1_ ∧ Run Try.prog 73 #[v1_, (Value.slice A8 n8 c8)] h fun v2_ h3_ => ∃ A4_, ∃ n4_, ∃ c4_, v2_ = (Value.slice A4_ n4_ c4_) ∧ splitB (((n4_ : Nat) : Int) == (0 : Int)) (R (Value.tuple #[(Value.slice A9 n9 c9), (Value.slice A8 n8 c8), (Value.int .i64 (0 : Int))]) h3_) (splitB (decide (((n9 : Nat) : Int) < ((n1 : Nat) : Int))) (ptrOk A1 fun a5_ => 0 ≤ ((n9 : Nat) : Int) ∧ ((n9 : Nat) : Int) < ((n1 : Nat) : Int) ∧ (∃ v6_, ldv false 1 h3_ (Addr.add a5_ (Int.toNat ((n9 : Nat) : Int) * 1)) = some v6_ ∧ ∃ x7_, v6_ = (Value.int .i64 x7_) ∧ (IntKind.wrap .u64 ((n4_ : Nat) : Int)) ≠ 0 ∧ (f40.j0 R A1 n1 c1 a2 A8 n8 c8 A9 n9 c9 A4_ n4_ c4_ (IntKind.wrap .i64 (Int.tmod (IntKind.wrap .u64 x7_) (IntKind.wrap .u64 ((n4_ : Nat) : Int)))) h3_))) (f40.j0 R A1 n1 c1 a2 A8 n8 c8 A9 n9 c9 A4_ n4_ c4_ (0 : Int) h3_))
set_option maxRecDepth 100000 in
theorem f40.l0_in {R : Value → Heap → Prop} {A1 : Option Addr} {n1 : Nat} {c1 : Nat} {a2 : Addr} {A8 : Option Addr} {n8 : Nat} {c8 : Nat} {A9 : Option Addr} {n9 : Nat} {c9 : Nat} {h : Heap} (H : f40.l0T R A1 n1 c1 a2 A8 n8 c8 A9 n9 c9 h) : f40.l0 R A1 n1 c1 a2 A8 n8 c8 A9 n9 c9 h :=
  pt_intro mixed f40.good (Eq.mpr (show (Fwd Try.prog f40.T f40.kp Try.f40 R [false, false, true, true, true, true] (mkFr [(1, (Value.slice A1 n1 c1)), (2, (Value.pointer (some a2))), (8, (Value.slice A8 n8 c8)), (9, (Value.slice A9 n9 c9))]) h) = (f40.l0T R A1 n1 c1 a2 A8 n8 c8 A9 n9 c9 h) by kernel_rfl) H)
set_option maxRecDepth 100000 in
def f40.j0T (R : Value → Heap → Prop) (A1 : Option Addr) (n1 : Nat) (c1 : Nat) (a2 : Addr) (A8 : Option Addr) (n8 : Nat) (c8 : Nat) (A9 : Option Addr) (n9 : Nat) (c9 : Nat) (A10 : Option Addr) (n10 : Nat) (c10 : Nat) (x11 : Int) (h : Heap) : Prop :=
  ptrOk A10 fun a1_ => 0 ≤ x11 ∧ x11 < ((n10 : Nat) : Int) ∧ (∃ v2_, ldv false 1 h a2 = some v2_ ∧ ∃ A3_, ∃ n3_, ∃ c3_, v2_ = (Value.slice A3_ n3_ c3_) ∧ ∃ v4_, ldv false 1 h (Addr.add a1_ (Int.toNat x11 * 1)) = some v4_ ∧ ∃ x5_, v4_ = (Value.int .i64 x5_) ∧ ptrOk A3_ fun a6_ => 0 ≤ x5_ ∧ x5_ < ((n3_ : Nat) : Int) ∧ (∃ v7_, ldv true 2 h (Addr.add a6_ (Int.toNat x5_ * 2)) = some v7_ ∧ newH h (Obj.cells #[(Value.int .i64 (0 : Int)), (Value.int .i64 (0 : Int))] 89) fun h8_ => Ext h h8_ ∧ (∃ l10_ : List Value, v7_ = Value.agg l10_.toArray ∧ l10_.length = 2 ∧ ∃ h9_, stH h8_ (⟨Array.size h, 0, none⟩) l10_ 0 = some h9_ ∧ ∃ v11_, ldv false 1 h9_ (⟨Array.size h, 0, none⟩) = some v11_ ∧ ∃ x12_, v11_ = (Value.int .i64 x12_) ∧ ptrOk A8 fun a13_ => 0 ≤ x12_ ∧ x12_ < ((n8 : Nat) : Int) ∧ (∃ v14_, ldv false 1 h9_ (Addr.add a13_ (Int.toNat x12_ * 1)) = some v14_ ∧ ∃ x15_, v14_ = (Value.int .i64 x15_) ∧ ptrOk A8 fun a16_ => 0 ≤ x12_ ∧ x12_ < ((n8 : Nat) : Int) ∧ (∃ h17_, st1 h9_ (Addr.add a16_ (Int.toNat x12_ * 1)) (Value.int .i64 (IntKind.wrap .i64 (x15_ + (1 : Int)))) = some h17_ ∧ ∃ v18_, ldv false 1 h17_ (Addr.add (⟨Array.size h, 0, none⟩) 1) = some v18_ ∧ ∃ x19_, v18_ = (Value.int .i64 x19_) ∧ ptrOk A8 fun a20_ => 0 ≤ x19_ ∧ x19_ < ((n8 : Nat) : Int) ∧ (∃ v21_, ldv false 1 h17_ (Addr.add a20_ (Int.toNat x19_ * 1)) = some v21_ ∧ ∃ x22_, v21_ = (Value.int .i64 x22_) ∧ ptrOk A8 fun a23_ => 0 ≤ x19_ ∧ x19_ < ((n8 : Nat) : Int) ∧ (∃ h24_, st1 h17_ (Addr.add a23_ (Int.toNat x19_ * 1)) (Value.int .i64 (IntKind.wrap .i64 (x22_ + (1 : Int)))) = some h24_ ∧ ptrOk A10 fun a25_ => 0 ≤ x11 ∧ x11 < ((n10 : Nat) : Int) ∧ (∃ v26_, ldv false 1 h24_ (Addr.add a25_ (Int.toNat x11 * 1)) = some v26_ ∧ ∃ x27_, v26_ = (Value.int .i64 x27_) ∧ newH h24_ (Obj.cells #[(Value.int .i64 x27_)] 3) fun h28_ => AppW 3 1 8 #[(Value.int .i64 (0 : Int))] A9 n9 c9 (Value.slice (some ⟨Array.size h24_, 0, none⟩) 1 1) h28_ fun v29_ h30_ => ∃ A31_, ∃ n31_, ∃ c31_, v29_ = (Value.slice A31_ n31_ c31_) ∧ f40.l0 R A1 n1 c1 a2 A8 n8 c8 A31_ n31_ c31_ h30_))))))))
set_option maxRecDepth 100000 in
theorem f40.j0_in {R : Value → Heap → Prop} {A1 : Option Addr} {n1 : Nat} {c1 : Nat} {a2 : Addr} {A8 : Option Addr} {n8 : Nat} {c8 : Nat} {A9 : Option Addr} {n9 : Nat} {c9 : Nat} {A10 : Option Addr} {n10 : Nat} {c10 : Nat} {x11 : Int} {h : Heap} (H : f40.j0T R A1 n1 c1 a2 A8 n8 c8 A9 n9 c9 A10 n10 c10 x11 h) : f40.j0 R A1 n1 c1 a2 A8 n8 c8 A9 n9 c9 A10 n10 c10 x11 h :=
  pt_intro mixed f40.good (Eq.mpr (show (Fwd Try.prog f40.T f40.kp Try.f40 R [true, true, true, true, false, false, false, true, true, true, true] (mkFr [(1, (Value.slice A1 n1 c1)), (2, (Value.pointer (some a2))), (8, (Value.slice A8 n8 c8)), (9, (Value.slice A9 n9 c9)), (10, (Value.slice A10 n10 c10)), (11, (Value.int .i64 x11))]) h) = (f40.j0T R A1 n1 c1 a2 A8 n8 c8 A9 n9 c9 A10 n10 c10 x11 h) by kernel_rfl) H)
set_option maxRecDepth 100000 in
def f40.runT (R : Value → Heap → Prop) (v0 : Value) (A1 : Option Addr) (n1 : Nat) (c1 : Nat) (h : Heap) : Prop :=
  newH h (Obj.cells ((v0).cells) 78) fun h1_ => ∃ v2_, ldv true 2 h1_ (⟨Array.size h, 0, none⟩) = some v2_ ∧ Run Try.prog 43 #[v2_] h1_ fun v3_ h4_ => ∃ x5_, v3_ = (Value.int .i64 x5_) ∧ splitB (x5_ != (0 : Int)) (R (Value.tuple #[(Value.slice none 0 0), (Value.slice none 0 0), (Value.int .i64 x5_)]) h4_) (∃ v6_, ldv false 1 h4_ (Addr.add (⟨Array.size h, 0, none⟩) 1) = some v6_ ∧ ∃ A7_, ∃ n7_, ∃ c7_, v6_ = (Value.slice A7_ n7_ c7_) ∧ 0 ≤ ((n7_ : Nat) : Int) ∧ ((n7_ : Nat) : Int) ≤ ((n7_ : Nat) : Int) ∧ ((n7_ : Nat) : Int) * 8 ≤ 140737488355328 ∧ ((n7_ : Nat) : Int) ≤ 9223372036854775807 ∧ (newH h4_ (Obj.cells (mkCells #[(Value.int .i64 (0 : Int))] (Int.toNat ((n7_ : Nat) : Int) * 1)) 3) fun h8_ => f40.l0 R A1 n1 c1 (⟨Array.size h, 0, none⟩) (some ⟨Array.size h4_, 0, none⟩) (Int.toNat ((n7_ : Nat) : Int)) (Int.toNat ((n7_ : Nat) : Int)) none 0 0 h8_))
set_option maxRecDepth 100000 in
theorem f40.run {R : Value → Heap → Prop} {v0 : Value} {A1 : Option Addr} {n1 : Nat} {c1 : Nat} {h : Heap} (H : f40.runT R v0 A1 n1 c1 h) : Run Try.prog 40 #[v0, (Value.slice A1 n1 c1)] h R :=
  run_of mixed Try.func40 (by kernel_rfl) (by kernel_rfl) f40.good (Eq.mpr (show (Fwd Try.prog f40.T f40.kp Try.f40 R [] (mkFr (argL [v0, (Value.slice A1 n1 c1)] 0)) h) = (f40.runT R v0 A1 n1 c1 h) by kernel_rfl) H)
def f41.T : Tab := { sh := tSh, tup := tTup, keep := [], plan := [(18, (.take 0 (.take 2 (.take 4 (.take 7 (.take 1 (.take 3 (.take 5 (.take 6 (.take 8 (.take 9 (.take 10 (.take 11 (.take 12 (.eff false true 13 (.eff false false 14 .done))))))))))))))))] }
def f41.kp : Keep := [([false, false, true, false, true, true, true], [1, 2, 24, 25, 26]), ([true, true, false, false, true, true, false, false, true, false, true, true, true], [1, 2, 24, 25, 26, 42]), ([false, false, true, false, true, true, true, true, true], [2, 9, 47, 48, 49])]
theorem f41.good : goodCode Try.prog f41.T (rootOf Try.f41) = true := by kernel_rfl
def f41.l0 (R : Value → Heap → Prop) (A1 : Option Addr) (n1 : Nat) (c1 : Nat) (a2 : Addr) (A24 : Option Addr) (n24 : Nat) (c24 : Nat) (x25 : Int) (x26 : Int) (h : Heap) : Prop := Pt Try.prog Try.f41 R [false, false, true, false, true, true, true] (mkFr [(1, (Value.slice A1 n1 c1)), (2, (Value.pointer (some a2))), (24, (Value.slice A24 n24 c24)), (25, (Value.int .i64 x25)), (26, (Value.int .i64 x26))]) h
def f41.j0 (R : Value → Heap → Prop) (A1 : Option Addr) (n1 : Nat) (c1 : Nat) (a2 : Addr) (A24 : Option Addr) (n24 : Nat) (c24 : Nat) (x25 : Int) (x26 : Int) (b42 : Bool) (h : Heap) : Prop := Pt Try.prog Try.f41 R [true, true, false, false, true, true, false, false, true, false, true, true, true] (mkFr [(1, (Value.slice A1 n1 c1)), (2, (Value.pointer (some a2))), (24, (Value.slice A24 n24 c24)), (25, (Value.int .i64 x25)), (26, (Value.int .i64 x26)), (42, (Value.bool b42))]) h
def f41.l1 (R : Value → Heap → Prop) (a2 : Addr) (A9 : Option Addr) (n9 : Nat) (c9 : Nat) (A47 : Option Addr) (n47 : Nat) (c47 : Nat) (x48 : Int) (x49 : Int) (h : Heap) : Prop := Pt Try.prog Try.f41 R [false, false, true, false, true, true, true, true, true] (mkFr [(2, (Value.pointer (some a2))), (9, (Value.slice A9 n9 c9)), (47, (Value.slice A47 n47 c47)), (48, (Value.int .i64 x48)), (49, (Value.int .i64 x49))]) h
set_option maxRecDepth 100000 in
def f41.l0T (R : Value → Heap → Prop) (A1 : Option Addr) (n1 : Nat) (c1 : Nat) (a2 : Addr) (A24 : Option Addr) (n24 : Nat) (c24 : Nat) (x25 : Int) (x26 : Int) (h : Heap) : Prop :=
  splitB (decide (x26 < x25)) (ptrOk A24 fun a1_ => 0 ≤ x26 ∧ x26 < ((n24 : Nat) : Int) ∧ (∃ v2_, ldv false 1 h (Addr.add a1_ (Int.toNat x26 * 1)) = some v2_ ∧ ∃ x3_, v2_ = (Value.int .i64 x3_) ∧ splitB (decide (x3_ < (0 : Int))) (f41.j0 R A1 n1 c1 a2 A24 n24 c24 x25 x26 true h) (∃ v4_, ldv false 1 h (Addr.add a2 1) = some v4_ ∧ ∃ A5_, ∃ n5_, ∃ c5_, v4_ = (Value.slice A5_ n5_ c5_) ∧ ptrOk A5_ fun a6_ => 0 ≤ x26 ∧ x26 < ((n5_ : Nat) : Int) ∧ (∃ v7_, ldv false 1 h (Addr.add a6_ (Int.toNat x26 * 1)) = some v7_ ∧ ∃ A8_, ∃ n8_, ∃ c8_, v7_ = (Value.slice A8_ n8_ c8_) ∧ f41.j0 R A1 n1 c1 a2 A24 n24 c24 x25 x26 (decide (x3_ > ((n8_ : Nat) : Int))) h)))) (0 ≤ ((n1 : Nat) : Int) ∧ ((n1 : Nat) : Int) ≤ ((n1 : Nat) : Int) ∧ ((n1 : Nat) : Int) * 8 ≤ 140737488355328 ∧ ((n1 : Nat) : Int) ≤ 9223372036854775807 ∧ (newH h (Obj.cells (mkCells #[(Value.int .i64 (0 : Int))] (Int.toNat ((n1 : Nat) : Int) * 1)) 3) fun h9_ => f41.l1 R a2 (some ⟨Array.size h, 0, none⟩) (Int.toNat ((n1 : Nat) : Int)) (Int.toNat ((n1 : Nat) : Int)) A1 n1 c1 ((n1 : Nat) : Int) (0 : Int) h9_))
set_option maxRecDepth 100000 in
theorem f41.l0_in {R : Value → Heap → Prop} {A1 : Option Addr} {n1 : Nat} {c1 : Nat} {a2 : Addr} {A24 : Option Addr} {n24 : Nat} {c24 : Nat} {x25 : Int} {x26 : Int} {h : Heap} (H : f41.l0T R A1 n1 c1 a2 A24 n24 c24 x25 x26 h) : f41.l0 R A1 n1 c1 a2 A24 n24 c24 x25 x26 h :=
  pt_intro mixed f41.good (Eq.mpr (show (Fwd Try.prog f41.T f41.kp Try.f41 R [false, false, true, false, true, true, true] (mkFr [(1, (Value.slice A1 n1 c1)), (2, (Value.pointer (some a2))), (24, (Value.slice A24 n24 c24)), (25, (Value.int .i64 x25)), (26, (Value.int .i64 x26))]) h) = (f41.l0T R A1 n1 c1 a2 A24 n24 c24 x25 x26 h) by kernel_rfl) H)
set_option maxRecDepth 100000 in
def f41.j0T (R : Value → Heap → Prop) (A1 : Option Addr) (n1 : Nat) (c1 : Nat) (a2 : Addr) (A24 : Option Addr) (n24 : Nat) (c24 : Nat) (x25 : Int) (x26 : Int) (b42 : Bool) (h : Heap) : Prop :=
  splitB b42 (R (Value.tuple #[(Value.slice none 0 0), (Value.int .i64 (1 : Int))]) h) (f41.l0 R A1 n1 c1 a2 A24 n24 c24 x25 (IntKind.wrap .i64 (x26 + (1 : Int))) h)
set_option maxRecDepth 100000 in
theorem f41.j0_in {R : Value → Heap → Prop} {A1 : Option Addr} {n1 : Nat} {c1 : Nat} {a2 : Addr} {A24 : Option Addr} {n24 : Nat} {c24 : Nat} {x25 : Int} {x26 : Int} {b42 : Bool} {h : Heap} (H : f41.j0T R A1 n1 c1 a2 A24 n24 c24 x25 x26 b42 h) : f41.j0 R A1 n1 c1 a2 A24 n24 c24 x25 x26 b42 h :=
  pt_intro mixed f41.good (Eq.mpr (show (Fwd Try.prog f41.T f41.kp Try.f41 R [true, true, false, false, true, true, false, false, true, false, true, true, true] (mkFr [(1, (Value.slice A1 n1 c1)), (2, (Value.pointer (some a2))), (24, (Value.slice A24 n24 c24)), (25, (Value.int .i64 x25)), (26, (Value.int .i64 x26)), (42, (Value.bool b42))]) h) = (f41.j0T R A1 n1 c1 a2 A24 n24 c24 x25 x26 b42 h) by kernel_rfl) H)
set_option maxRecDepth 100000 in
def f41.l1T (R : Value → Heap → Prop) (a2 : Addr) (A9 : Option Addr) (n9 : Nat) (c9 : Nat) (A47 : Option Addr) (n47 : Nat) (c47 : Nat) (x48 : Int) (x49 : Int) (h : Heap) : Prop :=
  splitB (decide (x49 < x48)) (ptrOk A47 fun a1_ => 0 ≤ x49 ∧ x49 < ((n47 : Nat) : Int) ∧ (∃ v2_, ldv false 1 h (Addr.add a1_ (Int.toNat x49 * 1)) = some v2_ ∧ ∃ x3_, v2_ = (Value.int .i64 x3_) ∧ ptrOk A9 fun a4_ => 0 ≤ x49 ∧ x49 < ((n9 : Nat) : Int) ∧ (∃ h5_, st1 h (Addr.add a4_ (Int.toNat x49 * 1)) (Value.int .i64 (-1 : Int)) = some h5_ ∧ ∃ v6_, ldv false 1 h5_ (Addr.add a2 1) = some v6_ ∧ ∃ A7_, ∃ n7_, ∃ c7_, v6_ = (Value.slice A7_ n7_ c7_) ∧ ptrOk A7_ fun a8_ => 0 ≤ x49 ∧ x49 < ((n7_ : Nat) : Int) ∧ (∃ v9_, ldv false 1 h5_ (Addr.add a8_ (Int.toNat x49 * 1)) = some v9_ ∧ ∃ A10_, ∃ n10_, ∃ c10_, v9_ = (Value.slice A10_ n10_ c10_) ∧ splitB (decide (x3_ < ((n10_ : Nat) : Int))) (∃ v11_, ldv false 1 h5_ a2 = some v11_ ∧ ∃ A12_, ∃ n12_, ∃ c12_, v11_ = (Value.slice A12_ n12_ c12_) ∧ ∃ v13_, ldv false 1 h5_ (Addr.add a2 1) = some v13_ ∧ ∃ A14_, ∃ n14_, ∃ c14_, v13_ = (Value.slice A14_ n14_ c14_) ∧ ptrOk A14_ fun a15_ => 0 ≤ x49 ∧ x49 < ((n14_ : Nat) : Int) ∧ (∃ v16_, ldv false 1 h5_ (Addr.add a15_ (Int.toNat x49 * 1)) = some v16_ ∧ ∃ A17_, ∃ n17_, ∃ c17_, v16_ = (Value.slice A17_ n17_ c17_) ∧ ptrOk A17_ fun a18_ => 0 ≤ x3_ ∧ x3_ < ((n17_ : Nat) : Int) ∧ (∃ v19_, ldv false 1 h5_ (Addr.add a18_ (Int.toNat x3_ * 3)) = some v19_ ∧ ∃ x20_, v19_ = (Value.int .i64 x20_) ∧ ptrOk A12_ fun a21_ => 0 ≤ x20_ ∧ x20_ < ((n12_ : Nat) : Int) ∧ (∃ v22_, ldv true 2 h5_ (Addr.add a21_ (Int.toNat x20_ * 2)) = some v22_ ∧ newH h5_ (Obj.cells #[(Value.int .i64 (0 : Int)), (Value.int .i64 (0 : Int))] 89) fun h23_ => Ext h5_ h23_ ∧ (∃ l25_ : List Value, v22_ = Value.agg l25_.toArray ∧ l25_.length = 2 ∧ ∃ h24_, stH h23_ (⟨Array.size h5_, 0, none⟩) l25_ 0 = some h24_ ∧ ∃ v26_, ldv false 1 h24_ (⟨Array.size h5_, 0, none⟩) = some v26_ ∧ ∃ x27_, v26_ = (Value.int .i64 x27_) ∧ ∃ v28_, ldv false 1 h24_ (Addr.add (⟨Array.size h5_, 0, none⟩) 1) = some v28_ ∧ ∃ x29_, v28_ = (Value.int .i64 x29_) ∧ ptrOk A9 fun a30_ => 0 ≤ x49 ∧ x49 < ((n9 : Nat) : Int) ∧ (∃ h31_, st1 h24_ (Addr.add a30_ (Int.toNat x49 * 1)) (Value.int .i64 (IntKind.wrap .i64 ((IntKind.wrap .i64 (x27_ + x29_)) - x49))) = some h31_ ∧ f41.l1 R a2 A9 n9 c9 A47 n47 c47 x48 (IntKind.wrap .i64 (x49 + (1 : Int))) h31_)))))) (f41.l1 R a2 A9 n9 c9 A47 n47 c47 x48 (IntKind.wrap .i64 (x49 + (1 : Int))) h5_))))) (R (Value.tuple #[(Value.slice A9 n9 c9), (Value.int .i64 (0 : Int))]) h)
set_option maxRecDepth 100000 in
theorem f41.l1_in {R : Value → Heap → Prop} {a2 : Addr} {A9 : Option Addr} {n9 : Nat} {c9 : Nat} {A47 : Option Addr} {n47 : Nat} {c47 : Nat} {x48 : Int} {x49 : Int} {h : Heap} (H : f41.l1T R a2 A9 n9 c9 A47 n47 c47 x48 x49 h) : f41.l1 R a2 A9 n9 c9 A47 n47 c47 x48 x49 h :=
  pt_intro mixed f41.good (Eq.mpr (show (Fwd Try.prog f41.T f41.kp Try.f41 R [false, false, true, false, true, true, true, true, true] (mkFr [(2, (Value.pointer (some a2))), (9, (Value.slice A9 n9 c9)), (47, (Value.slice A47 n47 c47)), (48, (Value.int .i64 x48)), (49, (Value.int .i64 x49))]) h) = (f41.l1T R a2 A9 n9 c9 A47 n47 c47 x48 x49 h) by kernel_rfl) H)
set_option maxRecDepth 100000 in
def f41.runT (R : Value → Heap → Prop) (v0 : Value) (A1 : Option Addr) (n1 : Nat) (c1 : Nat) (h : Heap) : Prop :=
  newH h (Obj.cells ((v0).cells) 78) fun h1_ => ∃ v2_, ldv true 2 h1_ (⟨Array.size h, 0, none⟩) = some v2_ ∧ Run Try.prog 43 #[v2_] h1_ fun v3_ h4_ => ∃ x5_, v3_ = (Value.int .i64 x5_) ∧ splitB (x5_ != (0 : Int)) (R (Value.tuple #[(Value.slice none 0 0), (Value.int .i64 x5_)]) h4_) (∃ v6_, ldv false 1 h4_ (Addr.add (⟨Array.size h, 0, none⟩) 1) = some v6_ ∧ ∃ A7_, ∃ n7_, ∃ c7_, v6_ = (Value.slice A7_ n7_ c7_) ∧ splitB (((n1 : Nat) : Int) != ((n7_ : Nat) : Int)) (R (Value.tuple #[(Value.slice none 0 0), (Value.int .i64 (3 : Int))]) h4_) (f41.l0 R A1 n1 c1 (⟨Array.size h, 0, none⟩) A1 n1 c1 ((n1 : Nat) : Int) (0 : Int) h4_))
set_option maxRecDepth 100000 in
theorem f41.run {R : Value → Heap → Prop} {v0 : Value} {A1 : Option Addr} {n1 : Nat} {c1 : Nat} {h : Heap} (H : f41.runT R v0 A1 n1 c1 h) : Run Try.prog 41 #[v0, (Value.slice A1 n1 c1)] h R :=
  run_of mixed Try.func41 (by kernel_rfl) (by kernel_rfl) f41.good (Eq.mpr (show (Fwd Try.prog f41.T f41.kp Try.f41 R [] (mkFr (argL [v0, (Value.slice A1 n1 c1)] 0)) h) = (f41.runT R v0 A1 n1 c1 h) by kernel_rfl) H)
def f68.T : Tab := { sh := tSh, tup := tTup, keep := [], plan := [] }
def f68.kp : Keep := [([false, false, true, false, true], [0, 1, 7, 8])]
theorem f68.good : goodCode Try.prog f68.T (rootOf Try.f68) = true := by kernel_rfl
def f68.l0 (R : Value → Heap → Prop) (A0 : Option Addr) (n0 : Nat) (c0 : Nat) (x1 : Int) (x7 : Int) (x8 : Int) (h : Heap) : Prop := Pt Try.prog Try.f68 R [false, false, true, false, true] (mkFr [(0, (Value.slice A0 n0 c0)), (1, (Value.int .i64 x1)), (7, (Value.int .i64 x7)), (8, (Value.int .i64 x8))]) h
set_option maxRecDepth 100000 in
def f68.l0T (R : Value → Heap → Prop) (A0 : Option Addr) (n0 : Nat) (c0 : Nat) (x1 : Int) (x7 : Int) (x8 : Int) (h : Heap) : Prop :=
  splitB (decide (x8 < x7)) (ptrOk A0 fun a1_ => 0 ≤ x8 ∧ x8 < ((n0 : Nat) : Int) ∧ (∃ v2_, ldv false 1 h (Addr.add a1_ (Int.toNat x8 * 1)) = some v2_ ∧ ∃ x3_, v2_ = (Value.int .i64 x3_) ∧ splitB (x1 == x3_) (R (Value.int .i64 x8) h) (f68.l0 R A0 n0 c0 x1 x7 (IntKind.wrap .i64 (x8 + (1 : Int))) h))) (R (Value.int .i64 (-1 : Int)) h)
set_option maxRecDepth 100000 in
theorem f68.l0_in {R : Value → Heap → Prop} {A0 : Option Addr} {n0 : Nat} {c0 : Nat} {x1 : Int} {x7 : Int} {x8 : Int} {h : Heap} (H : f68.l0T R A0 n0 c0 x1 x7 x8 h) : f68.l0 R A0 n0 c0 x1 x7 x8 h :=
  pt_intro mixed f68.good (Eq.mpr (show (Fwd Try.prog f68.T f68.kp Try.f68 R [false, false, true, false, true] (mkFr [(0, (Value.slice A0 n0 c0)), (1, (Value.int .i64 x1)), (7, (Value.int .i64 x7)), (8, (Value.int .i64 x8))]) h) = (f68.l0T R A0 n0 c0 x1 x7 x8 h) by kernel_rfl) H)
set_option maxRecDepth 100000 in
def f68.runT (R : Value → Heap → Prop) (A0 : Option Addr) (n0 : Nat) (c0 : Nat) (x1 : Int) (h : Heap) : Prop :=
  f68.l0 R A0 n0 c0 x1 ((n0 : Nat) : Int) (0 : Int) h
set_option maxRecDepth 100000 in
theorem f68.run {R : Value → Heap → Prop} {A0 : Option Addr} {n0 : Nat} {c0 : Nat} {x1 : Int} {h : Heap} (H : f68.runT R A0 n0 c0 x1 h) : Run Try.prog 68 #[(Value.slice A0 n0 c0), (Value.int .i64 x1)] h R :=
  run_of mixed Try.func68 (by kernel_rfl) (by kernel_rfl) f68.good (Eq.mpr (show (Fwd Try.prog f68.T f68.kp Try.f68 R [] (mkFr (argL [(Value.slice A0 n0 c0), (Value.int .i64 x1)] 0)) h) = (f68.runT R A0 n0 c0 x1 h) by kernel_rfl) H)
def f35.T : Tab := { sh := tSh, tup := tTup, keep := [], plan := [] }
def f35.kp : Keep := []
theorem f35.good : goodCode Try.prog f35.T (rootOf Try.f35) = true := by kernel_rfl
set_option maxRecDepth 100000 in
def f35.runT (R : Value → Heap → Prop) (A0 : Option Addr) (n0 : Nat) (c0 : Nat) (x1 : Int) (h : Heap) : Prop :=
  Run Try.prog 68 #[(Value.slice A0 n0 c0), (Value.int .i64 x1)] h fun v1_ h2_ => ∃ x3_, v1_ = (Value.int .i64 x3_) ∧ R (Value.bool (decide (x3_ ≥ (0 : Int)))) h2_
set_option maxRecDepth 100000 in
theorem f35.run {R : Value → Heap → Prop} {A0 : Option Addr} {n0 : Nat} {c0 : Nat} {x1 : Int} {h : Heap} (H : f35.runT R A0 n0 c0 x1 h) : Run Try.prog 35 #[(Value.slice A0 n0 c0), (Value.int .i64 x1)] h R :=
  run_of mixed Try.func35 (by kernel_rfl) (by kernel_rfl) f35.good (Eq.mpr (show (Fwd Try.prog f35.T f35.kp Try.f35 R [] (mkFr (argL [(Value.slice A0 n0 c0), (Value.int .i64 x1)] 0)) h) = (f35.runT R A0 n0 c0 x1 h) by kernel_rfl) H)
def f42.T : Tab := { sh := tSh, tup := tTup, keep := [], plan := [] }
def f42.kp : Keep := [([true, true], [1]), ([false, false, true, false, true, true], [1, 20, 21, 22]), ([false, false, true, false, true, true, true], [1, 52, 53, 54]), ([false, false, true, true, true, false, false, true, true, false, false, true, false, true, true, true], [1, 5, 52, 53, 54, 62, 63, 64]), ([true, true, false, false, true, true, false, false, true, true, true, false, false, true, true, false, false, true, false, true, true, true], [1, 5, 8, 52, 53, 54, 62, 63, 64])]
theorem f42.good : goodCode Try.prog f42.T (rootOf Try.f42) = true := by kernel_rfl
def f42.j0 (R : Value → Heap → Prop) (a1 : Addr) (h : Heap) : Prop := Pt Try.prog Try.f42 R [true, true] (mkFr [(1, (Value.pointer (some a1)))]) h
def f42.l0 (R : Value → Heap → Prop) (a1 : Addr) (A20 : Option Addr) (n20 : Nat) (c20 : Nat) (x21 : Int) (x22 : Int) (h : Heap) : Prop := Pt Try.prog Try.f42 R [false, false, true, false, true, true] (mkFr [(1, (Value.pointer (some a1))), (20, (Value.slice A20 n20 c20)), (21, (Value.int .i64 x21)), (22, (Value.int .i64 x22))]) h
def f42.l1 (R : Value → Heap → Prop) (a1 : Addr) (A52 : Option Addr) (n52 : Nat) (c52 : Nat) (x53 : Int) (x54 : Int) (h : Heap) : Prop := Pt Try.prog Try.f42 R [false, false, true, false, true, true, true] (mkFr [(1, (Value.pointer (some a1))), (52, (Value.slice A52 n52 c52)), (53, (Value.int .i64 x53)), (54, (Value.int .i64 x54))]) h
def f42.l2 (R : Value → Heap → Prop) (a1 : Addr) (x5 : Int) (A52 : Option Addr) (n52 : Nat) (c52 : Nat) (x53 : Int) (x54 : Int) (A62 : Option Addr) (n62 : Nat) (c62 : Nat) (x63 : Int) (x64 : Int) (h : Heap) : Prop := Pt Try.prog Try.f42 R [false, false, true, true, true, false, false, true, true, false, false, true, false, true, true, true] (mkFr [(1, (Value.pointer (some a1))), (5, (Value.int .i64 x5)), (52, (Value.slice A52 n52 c52)), (53, (Value.int .i64 x53)), (54, (Value.int .i64 x54)), (62, (Value.slice A62 n62 c62)), (63, (Value.int .i64 x63)), (64, (Value.int .i64 x64))]) h
def f42.j1 (R : Value → Heap → Prop) (a1 : Addr) (x5 : Int) (a8 : Addr) (A52 : Option Addr) (n52 : Nat) (c52 : Nat) (x53 : Int) (x54 : Int) (A62 : Option Addr) (n62 : Nat) (c62 : Nat) (x63 : Int) (x64 : Int) (h : Heap) : Prop := Pt Try.prog Try.f42 R [true, true, false, false, true, true, false, false, true, true, true, false, false, true, true, false, false, true, false, true, true, true] (mkFr [(1, (Value.pointer (some a1))), (5, (Value.int .i64 x5)), (8, (Value.pointer (some a8))), (52, (Value.slice A52 n52 c52)), (53, (Value.int .i64 x53)), (54, (Value.int .i64 x54)), (62, (Value.slice A62 n62 c62)), (63, (Value.int .i64 x63)), (64, (Value.int .i64 x64))]) h
set_option maxRecDepth 100000 in
def f42.j0T (R : Value → Heap → Prop) (a1 : Addr) (h : Heap) : Prop :=
  ∃ v1_, ldv false 1 h a1 = some v1_ ∧ ∃ A2_, ∃ n2_, ∃ c2_, v1_ = (Value.slice A2_ n2_ c2_) ∧ f42.l0 R a1 A2_ n2_ c2_ ((n2_ : Nat) : Int) (0 : Int) h
set_option maxRecDepth 100000 in
theorem f42.j0_in {R : Value → Heap → Prop} {a1 : Addr} {h : Heap} (H : f42.j0T R a1 h) : f42.j0 R a1 h :=
  pt_intro mixed f42.good (Eq.mpr (show (Fwd Try.prog f42.T f42.kp Try.f42 R [true, true] (mkFr [(1, (Value.pointer (some a1)))]) h) = (f42.j0T R a1 h) by kernel_rfl) H)
set_option maxRecDepth 100000 in
def f42.l0T (R : Value → Heap → Prop) (a1 : Addr) (A20 : Option Addr) (n20 : Nat) (c20 : Nat) (x21 : Int) (x22 : Int) (h : Heap) : Prop :=
  splitB (decide (x22 < x21)) (ptrOk A20 fun a1_ => 0 ≤ x22 ∧ x22 < ((n20 : Nat) : Int) ∧ (∃ v2_, ldv true 2 h (Addr.add a1_ (Int.toNat x22 * 2)) = some v2_ ∧ newH h (Obj.cells #[(Value.int .i64 (0 : Int)), (Value.int .i64 (0 : Int))] 67) fun h3_ => ∃ l5_ : List Value, v2_ = Value.agg l5_.toArray ∧ l5_.length = 2 ∧ ∃ h4_, stH h3_ (⟨Array.size h, 0, none⟩) l5_ 0 = some h4_ ∧ 0 ≤ (0 : Int) ∧ (0 : Int) < ((2 : Nat) : Int) ∧ (∃ v6_, ldv false 1 h4_ (Addr.add (⟨Array.size h, 0, none⟩) (Int.toNat (0 : Int) * 1)) = some v6_ ∧ ∃ x7_, v6_ = (Value.int .i64 x7_) ∧ 0 ≤ (1 : Int) ∧ (1 : Int) < ((2 : Nat) : Int) ∧ (∃ v8_, ldv false 1 h4_ (Addr.add (⟨Array.size h, 0, none⟩) (Int.toNat (1 : Int) * 1)) = some v8_ ∧ ∃ x9_, v8_ = (Value.int .i64 x9_) ∧ splitB (decide ((if x9_ < x7_ then x9_ else x7_) < (0 : Int))) (R (Value.int .i64 (1 : Int)) h4_) (0 ≤ (0 : Int) ∧ (0 : Int) < ((2 : Nat) : Int) ∧ (∃ v10_, ldv false 1 h4_ (Addr.add (⟨Array.size h, 0, none⟩) (Int.toNat (0 : Int) * 1)) = some v10_ ∧ ∃ x11_, v10_ = (Value.int .i64 x11_) ∧ 0 ≤ (1 : Int) ∧ (1 : Int) < ((2 : Nat) : Int) ∧ (∃ v12_, ldv false 1 h4_ (Addr.add (⟨Array.size h, 0, none⟩) (Int.toNat (1 : Int) * 1)) = some v12_ ∧ ∃ x13_, v12_ = (Value.int .i64 x13_) ∧ ∃ v14_, ldv false 1 h4_ (Addr.add a1 1) = some v14_ ∧ ∃ A15_, ∃ n15_, ∃ c15_, v14_ = (Value.slice A15_ n15_ c15_) ∧ splitB (decide ((if x13_ > x11_ then x13_ else x11_) ≥ ((n15_ : Nat) : Int))) (R (Value.int .i64 (1 : Int)) h4_) (0 ≤ (0 : Int) ∧ (0 : Int) < ((2 : Nat) : Int) ∧ (∃ v16_, ldv false 1 h4_ (Addr.add (⟨Array.size h, 0, none⟩) (Int.toNat (0 : Int) * 1)) = some v16_ ∧ ∃ x17_, v16_ = (Value.int .i64 x17_) ∧ 0 ≤ (1 : Int) ∧ (1 : Int) < ((2 : Nat) : Int) ∧ (∃ v18_, ldv false 1 h4_ (Addr.add (⟨Array.size h, 0, none⟩) (Int.toNat (1 : Int) * 1)) = some v18_ ∧ ∃ x19_, v18_ = (Value.int .i64 x19_) ∧ splitB (x17_ == x19_) (R (Value.int .i64 (1 : Int)) h4_) (f42.l0 R a1 A20 n20 c20 x21 (IntKind.wrap .i64 (x22 + (1 : Int))) h4_))))))))))) (∃ v20_, ldv false 1 h (Addr.add a1 1) = some v20_ ∧ ∃ A21_, ∃ n21_, ∃ c21_, v20_ = (Value.slice A21_ n21_ c21_) ∧ f42.l1 R a1 A21_ n21_ c21_ ((n21_ : Nat) : Int) (0 : Int) h)
set_option maxRecDepth 100000 in
theorem f42.l0_in {R : Value → Heap → Prop} {a1 : Addr} {A20 : Option Addr} {n20 : Nat} {c20 : Nat} {x21 : Int} {x22 : Int} {h : Heap} (H : f42.l0T R a1 A20 n20 c20 x21 x22 h) : f42.l0 R a1 A20 n20 c20 x21 x22 h :=
  pt_intro mixed f42.good (Eq.mpr (show (Fwd Try.prog f42.T f42.kp Try.f42 R [false, false, true, false, true, true] (mkFr [(1, (Value.pointer (some a1))), (20, (Value.slice A20 n20 c20)), (21, (Value.int .i64 x21)), (22, (Value.int .i64 x22))]) h) = (f42.l0T R a1 A20 n20 c20 x21 x22 h) by kernel_rfl) H)
set_option maxRecDepth 100000 in
def f42.l1T (R : Value → Heap → Prop) (a1 : Addr) (A52 : Option Addr) (n52 : Nat) (c52 : Nat) (x53 : Int) (x54 : Int) (h : Heap) : Prop :=
  splitB (decide (x54 < x53)) (ptrOk A52 fun a1_ => 0 ≤ x54 ∧ x54 < ((n52 : Nat) : Int) ∧ (∃ v2_, ldv false 1 h (Addr.add a1_ (Int.toNat x54 * 1)) = some v2_ ∧ ∃ A3_, ∃ n3_, ∃ c3_, v2_ = (Value.slice A3_ n3_ c3_) ∧ splitB (decide (((n3_ : Nat) : Int) > (40 : Int))) (R (Value.int .i64 (2 : Int)) h) (f42.l2 R a1 x54 A52 n52 c52 x53 x54 A3_ n3_ c3_ ((n3_ : Nat) : Int) (0 : Int) h))) (R (Value.int .i64 (0 : Int)) h)
set_option maxRecDepth 100000 in
theorem f42.l1_in {R : Value → Heap → Prop} {a1 : Addr} {A52 : Option Addr} {n52 : Nat} {c52 : Nat} {x53 : Int} {x54 : Int} {h : Heap} (H : f42.l1T R a1 A52 n52 c52 x53 x54 h) : f42.l1 R a1 A52 n52 c52 x53 x54 h :=
  pt_intro mixed f42.good (Eq.mpr (show (Fwd Try.prog f42.T f42.kp Try.f42 R [false, false, true, false, true, true, true] (mkFr [(1, (Value.pointer (some a1))), (52, (Value.slice A52 n52 c52)), (53, (Value.int .i64 x53)), (54, (Value.int .i64 x54))]) h) = (f42.l1T R a1 A52 n52 c52 x53 x54 h) by kernel_rfl) H)
set_option maxRecDepth 100000 in
def f42.l2T (R : Value → Heap → Prop) (a1 : Addr) (x5 : Int) (A52 : Option Addr) (n52 : Nat) (c52 : Nat) (x53 : Int) (x54 : Int) (A62 : Option Addr) (n62 : Nat) (c62 : Nat) (x63 : Int) (x64 : Int) (h : Heap) : Prop :=
  splitB (decide (x64 < x63)) (ptrOk A62 fun a1_ => 0 ≤ x64 ∧ x64 < ((n62 : Nat) : Int) ∧ (∃ v2_, ldv true 3 h (Addr.add a1_ (Int.toNat x64 * 3)) = some v2_ ∧ newH h (Obj.cells #[(Value.int .i64 (0 : Int)), (Value.int .i64 (0 : Int)), (Value.int .i64 (0 : Int))] 94) fun h3_ => ∃ l5_ : List Value, v2_ = Value.agg l5_.toArray ∧ l5_.length = 3 ∧ ∃ h4_, stH h3_ (⟨Array.size h, 0, none⟩) l5_ 0 = some h4_ ∧ 0 ≤ (0 : Int) ∧ (0 : Int) < ((3 : Nat) : Int) ∧ (∃ v6_, ldv false 1 h4_ (Addr.add (⟨Array.size h, 0, none⟩) (Int.toNat (0 : Int) * 1)) = some v6_ ∧ ∃ x7_, v6_ = (Value.int .i64 x7_) ∧ splitB (decide (x7_ < (0 : Int))) (R (Value.int .i64 (1 : Int)) h4_) (0 ≤ (0 : Int) ∧ (0 : Int) < ((3 : Nat) : Int) ∧ (∃ v8_, ldv false 1 h4_ (Addr.add (⟨Array.size h, 0, none⟩) (Int.toNat (0 : Int) * 1)) = some v8_ ∧ ∃ x9_, v8_ = (Value.int .i64 x9_) ∧ ∃ v10_, ldv false 1 h4_ a1 = some v10_ ∧ ∃ A11_, ∃ n11_, ∃ c11_, v10_ = (Value.slice A11_ n11_ c11_) ∧ splitB (decide (x9_ ≥ ((n11_ : Nat) : Int))) (R (Value.int .i64 (1 : Int)) h4_) (0 ≤ (2 : Int) ∧ (2 : Int) < ((3 : Nat) : Int) ∧ (∃ v12_, ldv false 1 h4_ (Addr.add (⟨Array.size h, 0, none⟩) (Int.toNat (2 : Int) * 1)) = some v12_ ∧ ∃ x13_, v12_ = (Value.int .i64 x13_) ∧ splitB (decide (x13_ < (0 : Int))) (R (Value.int .i64 (1 : Int)) h4_) (0 ≤ (2 : Int) ∧ (2 : Int) < ((3 : Nat) : Int) ∧ (∃ v14_, ldv false 1 h4_ (Addr.add (⟨Array.size h, 0, none⟩) (Int.toNat (2 : Int) * 1)) = some v14_ ∧ ∃ x15_, v14_ = (Value.int .i64 x15_) ∧ splitB (decide (x15_ > (20 : Int))) (R (Value.int .i64 (1 : Int)) h4_) (f42.j1 R a1 x5 (⟨Array.size h, 0, none⟩) A52 n52 c52 x53 x54 A62 n62 c62 x63 x64 h4_)))))))))) (f42.l1 R a1 A52 n52 c52 x53 (IntKind.wrap .i64 (x54 + (1 : Int))) h)
set_option maxRecDepth 100000 in
theorem f42.l2_in {R : Value → Heap → Prop} {a1 : Addr} {x5 : Int} {A52 : Option Addr} {n52 : Nat} {c52 : Nat} {x53 : Int} {x54 : Int} {A62 : Option Addr} {n62 : Nat} {c62 : Nat} {x63 : Int} {x64 : Int} {h : Heap} (H : f42.l2T R a1 x5 A52 n52 c52 x53 x54 A62 n62 c62 x63 x64 h) : f42.l2 R a1 x5 A52 n52 c52 x53 x54 A62 n62 c62 x63 x64 h :=
  pt_intro mixed f42.good (Eq.mpr (show (Fwd Try.prog f42.T f42.kp Try.f42 R [false, false, true, true, true, false, false, true, true, false, false, true, false, true, true, true] (mkFr [(1, (Value.pointer (some a1))), (5, (Value.int .i64 x5)), (52, (Value.slice A52 n52 c52)), (53, (Value.int .i64 x53)), (54, (Value.int .i64 x54)), (62, (Value.slice A62 n62 c62)), (63, (Value.int .i64 x63)), (64, (Value.int .i64 x64))]) h) = (f42.l2T R a1 x5 A52 n52 c52 x53 x54 A62 n62 c62 x63 x64 h) by kernel_rfl) H)
set_option maxRecDepth 100000 in
def f42.j1T (R : Value → Heap → Prop) (a1 : Addr) (x5 : Int) (a8 : Addr) (A52 : Option Addr) (n52 : Nat) (c52 : Nat) (x53 : Int) (x54 : Int) (A62 : Option Addr) (n62 : Nat) (c62 : Nat) (x63 : Int) (x64 : Int) (h : Heap) : Prop :=
  ∃ v1_, ldv false 1 h a1 = some v1_ ∧ ∃ A2_, ∃ n2_, ∃ c2_, v1_ = (Value.slice A2_ n2_ c2_) ∧ 0 ≤ (0 : Int) ∧ (0 : Int) < ((3 : Nat) : Int) ∧ (∃ v3_, ldv false 1 h (Addr.add a8 (Int.toNat (0 : Int) * 1)) = some v3_ ∧ ∃ x4_, v3_ = (Value.int .i64 x4_) ∧ ptrOk A2_ fun a5_ => 0 ≤ x4_ ∧ x4_ < ((n2_ : Nat) : Int) ∧ (0 ≤ (0 : Int) ∧ (0 : Int) ≤ ((2 : Nat) : Int) ∧ ((2 : Nat) : Int) ≤ ((2 : Nat) : Int) ∧ (Run Try.prog 35 #[(Value.slice (some (if 2 = Int.toNat (0 : Int) then (Addr.add a5_ (Int.toNat x4_ * 2)) else Addr.add (Addr.add a5_ (Int.toNat x4_ * 2)) (Int.toNat (0 : Int) * 1))) (Int.toNat ((2 : Nat) : Int) - Int.toNat (0 : Int)) (2 - Int.toNat (0 : Int))), (Value.int .i64 x5)] h fun v6_ h7_ => ∃ b8_, v6_ = (Value.bool b8_) ∧ splitB (!b8_) (R (Value.int .i64 (7 : Int)) h7_) (f42.l2 R a1 x5 A52 n52 c52 x53 x54 A62 n62 c62 x63 (IntKind.wrap .i64 (x64 + (1 : Int))) h7_))))
set_option maxRecDepth 100000 in
theorem f42.j1_in {R : Value → Heap → Prop} {a1 : Addr} {x5 : Int} {a8 : Addr} {A52 : Option Addr} {n52 : Nat} {c52 : Nat} {x53 : Int} {x54 : Int} {A62 : Option Addr} {n62 : Nat} {c62 : Nat} {x63 : Int} {x64 : Int} {h : Heap} (H : f42.j1T R a1 x5 a8 A52 n52 c52 x53 x54 A62 n62 c62 x63 x64 h) : f42.j1 R a1 x5 a8 A52 n52 c52 x53 x54 A62 n62 c62 x63 x64 h :=
  pt_intro mixed f42.good (Eq.mpr (show (Fwd Try.prog f42.T f42.kp Try.f42 R [true, true, false, false, true, true, false, false, true, true, true, false, false, true, true, false, false, true, false, true, true, true] (mkFr [(1, (Value.pointer (some a1))), (5, (Value.int .i64 x5)), (8, (Value.pointer (some a8))), (52, (Value.slice A52 n52 c52)), (53, (Value.int .i64 x53)), (54, (Value.int .i64 x54)), (62, (Value.slice A62 n62 c62)), (63, (Value.int .i64 x63)), (64, (Value.int .i64 x64))]) h) = (f42.j1T R a1 x5 a8 A52 n52 c52 x53 x54 A62 n62 c62 x63 x64 h) by kernel_rfl) H)
set_option maxRecDepth 100000 in
def f42.runT (R : Value → Heap → Prop) (v0 : Value) (h : Heap) : Prop :=
  newH h (Obj.cells ((v0).cells) 87) fun h1_ => ∃ v2_, ldv false 1 h1_ (Addr.add (⟨Array.size h, 0, none⟩) 1) = some v2_ ∧ ∃ A3_, ∃ n3_, ∃ c3_, v2_ = (Value.slice A3_ n3_ c3_) ∧ splitB (decide (((n3_ : Nat) : Int) > (8 : Int))) (R (Value.int .i64 (2 : Int)) h1_) (∃ v4_, ldv false 1 h1_ (⟨Array.size h, 0, none⟩) = some v4_ ∧ ∃ A5_, ∃ n5_, ∃ c5_, v4_ = (Value.slice A5_ n5_ c5_) ∧ splitB (decide (((n5_ : Nat) : Int) > (12 : Int))) (R (Value.int .i64 (2 : Int)) h1_) (f42.j0 R (⟨Array.size h, 0, none⟩) h1_))
set_option maxRecDepth 100000 in
theorem f42.run {R : Value → Heap → Prop} {v0 : Value} {h : Heap} (H : f42.runT R v0 h) : Run Try.prog 42 #[v0] h R :=
  run_of mixed Try.func42 (by kernel_rfl) (by kernel_rfl) f42.good (Eq.mpr (show (Fwd Try.prog f42.T f42.kp Try.f42 R [] (mkFr (argL [v0] 0)) h) = (f42.runT R v0 h) by kernel_rfl) H)
def f74.T : Tab := { sh := tSh, tup := tTup, keep := [], plan := [] }
def f74.kp : Keep := [([false, false, true, false, true], [0, 1, 7, 8])]
theorem f74.good : goodCode Try.prog f74.T (rootOf Try.f74) = true := by kernel_rfl
def f74.l0 (R : Value → Heap → Prop) (A0 : Option Addr) (n0 : Nat) (c0 : Nat) (v1 : Value) (x7 : Int) (x8 : Int) (h : Heap) : Prop := Pt Try.prog Try.f74 R [false, false, true, false, true] (mkFr [(0, (Value.slice A0 n0 c0)), (1, v1), (7, (Value.int .i64 x7)), (8, (Value.int .i64 x8))]) h
set_option maxRecDepth 100000 in
def f74.l0T (R : Value → Heap → Prop) (A0 : Option Addr) (n0 : Nat) (c0 : Nat) (v1 : Value) (x7 : Int) (x8 : Int) (h : Heap) : Prop :=
  splitB (decide (x8 < x7)) (ptrOk A0 fun a1_ => 0 ≤ x8 ∧ x8 < ((n0 : Nat) : Int) ∧ (∃ v2_, ldv false 1 h (Addr.add a1_ (Int.toNat x8 * 1)) = some v2_ ∧ ∃ x3_, v2_ = (Value.int .i64 x3_) ∧ CallF Try.prog v1 [(Value.int .i64 x3_)] h fun v4_ h5_ => ∃ b6_, v4_ = (Value.bool b6_) ∧ splitB b6_ (R (Value.int .i64 x8) h5_) (f74.l0 R A0 n0 c0 v1 x7 (IntKind.wrap .i64 (x8 + (1 : Int))) h5_))) (R (Value.int .i64 (-1 : Int)) h)
set_option maxRecDepth 100000 in
theorem f74.l0_in {R : Value → Heap → Prop} {A0 : Option Addr} {n0 : Nat} {c0 : Nat} {v1 : Value} {x7 : Int} {x8 : Int} {h : Heap} (H : f74.l0T R A0 n0 c0 v1 x7 x8 h) : f74.l0 R A0 n0 c0 v1 x7 x8 h :=
  pt_intro mixed f74.good (Eq.mpr (show (Fwd Try.prog f74.T f74.kp Try.f74 R [false, false, true, false, true] (mkFr [(0, (Value.slice A0 n0 c0)), (1, v1), (7, (Value.int .i64 x7)), (8, (Value.int .i64 x8))]) h) = (f74.l0T R A0 n0 c0 v1 x7 x8 h) by kernel_rfl) H)
set_option maxRecDepth 100000 in
def f74.runT (R : Value → Heap → Prop) (A0 : Option Addr) (n0 : Nat) (c0 : Nat) (v1 : Value) (h : Heap) : Prop :=
  f74.l0 R A0 n0 c0 v1 ((n0 : Nat) : Int) (0 : Int) h
set_option maxRecDepth 100000 in
theorem f74.run {R : Value → Heap → Prop} {A0 : Option Addr} {n0 : Nat} {c0 : Nat} {v1 : Value} {h : Heap} (H : f74.runT R A0 n0 c0 v1 h) : Run Try.prog 74 #[(Value.slice A0 n0 c0), v1] h R :=
  run_of mixed Try.func74 (by kernel_rfl) (by kernel_rfl) f74.good (Eq.mpr (show (Fwd Try.prog f74.T f74.kp Try.f74 R [] (mkFr (argL [(Value.slice A0 n0 c0), v1] 0)) h) = (f74.runT R A0 n0 c0 v1 h) by kernel_rfl) H)
def f75.T : Tab := { sh := tSh, tup := tTup, keep := [], plan := [] }
def f75.kp : Keep := [([false, false, true, false, true, true], [3, 5, 6])]
theorem f75.good : goodCode Try.prog f75.T (rootOf Try.f75) = true := by kernel_rfl
def f75.l0 (R : Value → Heap → Prop) (A3 : Option Addr) (n3 : Nat) (c3 : Nat) (x5 : Int) (x6 : Int) (h : Heap) : Prop := Pt Try.prog Try.f75 R [false, false, true, false, true, true] (mkFr [(3, (Value.slice A3 n3 c3)), (5, (Value.int .i64 x5)), (6, (Value.int .i64 x6))]) h
set_option maxRecDepth 100000 in
def f75.l0T (R : Value → Heap → Prop) (A3 : Option Addr) (n3 : Nat) (c3 : Nat) (x5 : Int) (x6 : Int) (h : Heap) : Prop :=
  splitB (decide (x6 < x5)) (newH h (Obj.cells #[(Value.int .i64 x6)] 3) fun h1_ => AppW 3 1 8 #[(Value.int .i64 (0 : Int))] A3 n3 c3 (Value.slice (some ⟨Array.size h, 0, none⟩) 1 1) h1_ fun v2_ h3_ => ∃ A4_, ∃ n4_, ∃ c4_, v2_ = (Value.slice A4_ n4_ c4_) ∧ f75.l0 R A4_ n4_ c4_ x5 (IntKind.wrap .i64 (x6 + (1 : Int))) h3_) (R (Value.slice A3 n3 c3) h)
set_option maxRecDepth 100000 in
theorem f75.l0_in {R : Value → Heap → Prop} {A3 : Option Addr} {n3 : Nat} {c3 : Nat} {x5 : Int} {x6 : Int} {h : Heap} (H : f75.l0T R A3 n3 c3 x5 x6 h) : f75.l0 R A3 n3 c3 x5 x6 h :=
  pt_intro mixed f75.good (Eq.mpr (show (Fwd Try.prog f75.T f75.kp Try.f75 R [false, false, true, false, true, true] (mkFr [(3, (Value.slice A3 n3 c3)), (5, (Value.int .i64 x5)), (6, (Value.int .i64 x6))]) h) = (f75.l0T R A3 n3 c3 x5 x6 h) by kernel_rfl) H)
set_option maxRecDepth 100000 in
def f75.runT (R : Value → Heap → Prop) (x0 : Int) (h : Heap) : Prop :=
  f75.l0 R none 0 0 x0 (0 : Int) h
set_option maxRecDepth 100000 in
theorem f75.run {R : Value → Heap → Prop} {x0 : Int} {h : Heap} (H : f75.runT R x0 h) : Run Try.prog 75 #[(Value.int .i64 x0)] h R :=
  run_of mixed Try.func75 (by kernel_rfl) (by kernel_rfl) f75.good (Eq.mpr (show (Fwd Try.prog f75.T f75.kp Try.f75 R [] (mkFr (argL [(Value.int .i64 x0)] 0)) h) = (f75.runT R x0 h) by kernel_rfl) H)
def f46.T : Tab := { sh := tSh, tup := tTup, keep := [], plan := [(6, (.take 0 (.take 1 (.take 2 (.take 4 (.take 5 (.take 6 (.take 3 (.take 7 (.take 8 .done))))))))))] }
def f46.kp : Keep := [([false, false, true, false, true, true], [0, 1, 12, 13])]
theorem f46.good : goodCode Try.prog f46.T (rootOf Try.f46) = true := by kernel_rfl
def f46.l0 (R : Value → Heap → Prop) (A0 : Option Addr) (n0 : Nat) (c0 : Nat) (A1 : Option Addr) (n1 : Nat) (c1 : Nat) (x12 : Int) (x13 : Int) (h : Heap) : Prop := Pt Try.prog Try.f46 R [false, false, true, false, true, true] (mkFr [(0, (Value.slice A0 n0 c0)), (1, (Value.slice A1 n1 c1)), (12, (Value.int .i64 x12)), (13, (Value.int .i64 x13))]) h
set_option maxRecDepth 100000 in
def f46.l0T (R : Value → Heap → Prop) (A0 : Option Addr) (n0 : Nat) (c0 : Nat) (A1 : Option Addr) (n1 : Nat) (c1 : Nat) (x12 : Int) (x13 : Int) (h : Heap) : Prop :=
  splitB (decide (x13 < x12)) (ptrOk A0 fun a1_ => 0 ≤ x13 ∧ x13 < ((n0 : Nat) : Int) ∧ (ptrOk A1 fun a2_ => 0 ≤ x13 ∧ x13 < ((n1 : Nat) : Int) ∧ (∃ v3_, ldv false 1 h (Addr.add a1_ (Int.toNat x13 * 1)) = some v3_ ∧ ∃ x4_, v3_ = (Value.int .i64 x4_) ∧ ∃ v5_, ldv false 1 h (Addr.add a2_ (Int.toNat x13 * 1)) = some v5_ ∧ ∃ x6_, v5_ = (Value.int .i64 x6_) ∧ splitB (x4_ != x6_) (R (Value.bool false) h) (f46.l0 R A0 n0 c0 A1 n1 c1 x12 (IntKind.wrap .i64 (x13 + (1 : Int))) h)))) (R (Value.bool true) h)
set_option maxRecDepth 100000 in
theorem f46.l0_in {R : Value → Heap → Prop} {A0 : Option Addr} {n0 : Nat} {c0 : Nat} {A1 : Option Addr} {n1 : Nat} {c1 : Nat} {x12 : Int} {x13 : Int} {h : Heap} (H : f46.l0T R A0 n0 c0 A1 n1 c1 x12 x13 h) : f46.l0 R A0 n0 c0 A1 n1 c1 x12 x13 h :=
  pt_intro mixed f46.good (Eq.mpr (show (Fwd Try.prog f46.T f46.kp Try.f46 R [false, false, true, false, true, true] (mkFr [(0, (Value.slice A0 n0 c0)), (1, (Value.slice A1 n1 c1)), (12, (Value.int .i64 x12)), (13, (Value.int .i64 x13))]) h) = (f46.l0T R A0 n0 c0 A1 n1 c1 x12 x13 h) by kernel_rfl) H)
set_option maxRecDepth 100000 in
def f46.runT (R : Value → Heap → Prop) (A0 : Option Addr) (n0 : Nat) (c0 : Nat) (A1 : Option Addr) (n1 : Nat) (c1 : Nat) (h : Heap) : Prop :=
  splitB (((n0 : Nat) : Int) != ((n1 : Nat) : Int)) (R (Value.bool false) h) (f46.l0 R A0 n0 c0 A1 n1 c1 ((n0 : Nat) : Int) (0 : Int) h)
set_option maxRecDepth 100000 in
theorem f46.run {R : Value → Heap → Prop} {A0 : Option Addr} {n0 : Nat} {c0 : Nat} {A1 : Option Addr} {n1 : Nat} {c1 : Nat} {h : Heap} (H : f46.runT R A0 n0 c0 A1 n1 c1 h) : Run Try.prog 46 #[(Value.slice A0 n0 c0), (Value.slice A1 n1 c1)] h R :=
  run_of mixed Try.func46 (by kernel_rfl) (by kernel_rfl) f46.good (Eq.mpr (show (Fwd Try.prog f46.T f46.kp Try.f46 R [] (mkFr (argL [(Value.slice A0 n0 c0), (Value.slice A1 n1 c1)] 0)) h) = (f46.runT R A0 n0 c0 A1 n1 c1 h) by kernel_rfl) H)
def f77.T : Tab := { sh := tSh, tup := tTup, keep := [], plan := [] }
def f77.kp : Keep := [([false, false, true, false, true, true], [2, 3, 9, 16, 17, 18])]
theorem f77.good : goodCode Try.prog f77.T (rootOf Try.f77) = true := by kernel_rfl
def f77.l0 (R : Value → Heap → Prop) (x2 : Int) (x3 : Int) (A9 : Option Addr) (n9 : Nat) (c9 : Nat) (A16 : Option Addr) (n16 : Nat) (c16 : Nat) (x17 : Int) (x18 : Int) (h : Heap) : Prop := Pt Try.prog Try.f77 R [false, false, true, false, true, true] (mkFr [(2, (Value.int .i64 x2)), (3, (Value.int .i64 x3)), (9, (Value.slice A9 n9 c9)), (16, (Value.slice A16 n16 c16)), (17, (Value.int .i64 x17)), (18, (Value.int .i64 x18))]) h
set_option maxRecDepth 100000 in
def f77.l0T (R : Value → Heap → Prop) (x2 : Int) (x3 : Int) (A9 : Option Addr) (n9 : Nat) (c9 : Nat) (A16 : Option Addr) (n16 : Nat) (c16 : Nat) (x17 : Int) (x18 : Int) (h : Heap) : Prop :=
  splitB (decide (x18 < x17)) (ptrOk A16 fun a1_ => 0 ≤ x18 ∧ x18 < ((n16 : Nat) : Int) ∧ (∃ v2_, ldv true 3 h (Addr.add a1_ (Int.toNat x18 * 3)) = some v2_ ∧ newH h (Obj.cells #[(Value.int .i64 (0 : Int)), (Value.int .i64 (0 : Int)), (Value.int .i64 (0 : Int))] 94) fun h3_ => ∃ l5_ : List Value, v2_ = Value.agg l5_.toArray ∧ l5_.length = 3 ∧ ∃ h4_, stH h3_ (⟨Array.size h, 0, none⟩) l5_ 0 = some h4_ ∧ 0 ≤ (0 : Int) ∧ (0 : Int) < ((3 : Nat) : Int) ∧ (∃ v6_, ldv false 1 h4_ (Addr.add (⟨Array.size h, 0, none⟩) (Int.toNat (0 : Int) * 1)) = some v6_ ∧ ∃ x7_, v6_ = (Value.int .i64 x7_) ∧ splitB (x7_ == x2) (0 ≤ (1 : Int) ∧ (1 : Int) < ((3 : Nat) : Int) ∧ (∃ v8_, ldv false 1 h4_ (Addr.add (⟨Array.size h, 0, none⟩) (Int.toNat (1 : Int) * 1)) = some v8_ ∧ ∃ x9_, v8_ = (Value.int .i64 x9_) ∧ 0 ≤ (2 : Int) ∧ (2 : Int) < ((3 : Nat) : Int) ∧ (∃ v10_, ldv false 1 h4_ (Addr.add (⟨Array.size h, 0, none⟩) (Int.toNat (2 : Int) * 1)) = some v10_ ∧ ∃ x11_, v10_ = (Value.int .i64 x11_) ∧ newH h4_ (Obj.cells #[(Value.int .i64 (IntKind.wrap .i64 ((IntKind.wrap .i64 (x3 * (IntKind.wrap .i64 ((IntKind.wrap .i64 ((2 : Int) * x9_)) - (1 : Int))))) * (IntKind.wrap .i64 (x11_ + (1 : Int))))))] 3) fun h12_ => AppW 3 1 8 #[(Value.int .i64 (0 : Int))] A9 n9 c9 (Value.slice (some ⟨Array.size h4_, 0, none⟩) 1 1) h12_ fun v13_ h14_ => ∃ A15_, ∃ n15_, ∃ c15_, v13_ = (Value.slice A15_ n15_ c15_) ∧ f77.l0 R x2 x3 A15_ n15_ c15_ A16 n16 c16 x17 (IntKind.wrap .i64 (x18 + (1 : Int))) h14_))) (f77.l0 R x2 x3 A9 n9 c9 A16 n16 c16 x17 (IntKind.wrap .i64 (x18 + (1 : Int))) h4_)))) (R (Value.slice A9 n9 c9) h)
set_option maxRecDepth 100000 in
theorem f77.l0_in {R : Value → Heap → Prop} {x2 : Int} {x3 : Int} {A9 : Option Addr} {n9 : Nat} {c9 : Nat} {A16 : Option Addr} {n16 : Nat} {c16 : Nat} {x17 : Int} {x18 : Int} {h : Heap} (H : f77.l0T R x2 x3 A9 n9 c9 A16 n16 c16 x17 x18 h) : f77.l0 R x2 x3 A9 n9 c9 A16 n16 c16 x17 x18 h :=
  pt_intro mixed f77.good (Eq.mpr (show (Fwd Try.prog f77.T f77.kp Try.f77 R [false, false, true, false, true, true] (mkFr [(2, (Value.int .i64 x2)), (3, (Value.int .i64 x3)), (9, (Value.slice A9 n9 c9)), (16, (Value.slice A16 n16 c16)), (17, (Value.int .i64 x17)), (18, (Value.int .i64 x18))]) h) = (f77.l0T R x2 x3 A9 n9 c9 A16 n16 c16 x17 x18 h) by kernel_rfl) H)
set_option maxRecDepth 100000 in
def f77.runT (R : Value → Heap → Prop) (v0 : Value) (x1 : Int) (x2 : Int) (x3 : Int) (h : Heap) : Prop :=
  newH h (Obj.cells ((v0).cells) 87) fun h1_ => ∃ v2_, ldv false 1 h1_ (Addr.add (⟨Array.size h, 0, none⟩) 1) = some v2_ ∧ ∃ A3_, ∃ n3_, ∃ c3_, v2_ = (Value.slice A3_ n3_ c3_) ∧ ptrOk A3_ fun a4_ => 0 ≤ x1 ∧ x1 < ((n3_ : Nat) : Int) ∧ (∃ v5_, ldv false 1 h1_ (Addr.add a4_ (Int.toNat x1 * 1)) = some v5_ ∧ ∃ A6_, ∃ n6_, ∃ c6_, v5_ = (Value.slice A6_ n6_ c6_) ∧ f77.l0 R x2 x3 none 0 0 A6_ n6_ c6_ ((n6_ : Nat) : Int) (0 : Int) h1_)
set_option maxRecDepth 100000 in
theorem f77.run {R : Value → Heap → Prop} {v0 : Value} {x1 : Int} {x2 : Int} {x3 : Int} {h : Heap} (H : f77.runT R v0 x1 x2 x3 h) : Run Try.prog 77 #[v0, (Value.int .i64 x1), (Value.int .i64 x2), (Value.int .i64 x3)] h R :=
  run_of mixed Try.func77 (by kernel_rfl) (by kernel_rfl) f77.good (Eq.mpr (show (Fwd Try.prog f77.T f77.kp Try.f77 R [] (mkFr (argL [v0, (Value.int .i64 x1), (Value.int .i64 x2), (Value.int .i64 x3)] 0)) h) = (f77.runT R v0 x1 x2 x3 h) by kernel_rfl) H)
def f76.T : Tab := { sh := tSh, tup := tTup, keep := [], plan := [(1, (.take 1 (.take 3 (.take 7 (.take 10 (.take 12 (.take 16 (.take 0 (.take 2 (.take 4 (.take 5 (.take 6 (.take 9 (.take 11 (.take 13 (.take 14 (.take 15 (.eff false true 8 (.eff false false 17 (.eff false false 18 (.take 19 (.take 20 .done))))))))))))))))))))))] }
def f76.kp : Keep := []
theorem f76.good : goodCode Try.prog f76.T (rootOf Try.f76) = true := by kernel_rfl
set_option maxRecDepth 100000 in
theorem f76.ok : calleeOk Try.prog 76 = true := by kernel_rfl
set_option maxRecDepth 100000 in
def f76.runT (R : Value → Heap → Prop) (x0 : Int) (a1 : Addr) (h : Heap) : Prop :=
  ∃ v1_, ldv true 2 h a1 = some v1_ ∧ ∃ v2_, ldv false 1 h a1 = some v2_ ∧ ∃ A3_, ∃ n3_, ∃ c3_, v2_ = (Value.slice A3_ n3_ c3_) ∧ ptrOk A3_ fun a4_ => 0 ≤ x0 ∧ x0 < ((n3_ : Nat) : Int) ∧ (0 ≤ (0 : Int) ∧ (0 : Int) < ((2 : Nat) : Int) ∧ (∃ v5_, ldv false 1 h (Addr.add (Addr.add a4_ (Int.toNat x0 * 2)) (Int.toNat (0 : Int) * 1)) = some v5_ ∧ ∃ x6_, v5_ = (Value.int .i64 x6_) ∧ ∃ v7_, ldv true 2 h a1 = some v7_ ∧ ∃ v8_, ldv false 1 h a1 = some v8_ ∧ ∃ A9_, ∃ n9_, ∃ c9_, v8_ = (Value.slice A9_ n9_ c9_) ∧ ptrOk A9_ fun a10_ => 0 ≤ x0 ∧ x0 < ((n9_ : Nat) : Int) ∧ (0 ≤ (1 : Int) ∧ (1 : Int) < ((2 : Nat) : Int) ∧ (∃ v11_, ldv false 1 h (Addr.add (Addr.add a10_ (Int.toNat x0 * 2)) (Int.toNat (1 : Int) * 1)) = some v11_ ∧ ∃ x12_, v11_ = (Value.int .i64 x12_) ∧ Run Try.prog 77 #[v1_, (Value.int .i64 x6_), (Value.int .i64 x0), (Value.int .i64 (1 : Int))] h fun v13_ h14_ => ∃ A15_, ∃ n15_, ∃ c15_, v13_ = (Value.slice A15_ n15_ c15_) ∧ Ext h h14_ ∧ (Run Try.prog 77 #[v7_, (Value.int .i64 x12_), (Value.int .i64 x0), (Value.int .i64 (-1 : Int))] h14_ fun v16_ h17_ => ∃ A18_, ∃ n18_, ∃ c18_, v16_ = (Value.slice A18_ n18_ c18_) ∧ Run Try.prog 46 #[(Value.slice A15_ n15_ c15_), (Value.slice A18_ n18_ c18_)] h17_ fun v19_ h20_ => ∃ b21_, v19_ = (Value.bool b21_) ∧ R (Value.bool (!b21_)) h20_)))))
set_option maxRecDepth 100000 in
theorem f76.run {R : Value → Heap → Prop} {x0 : Int} {a1 : Addr} {h : Heap} (H : f76.runT R x0 a1 h) : Run Try.prog 76 #[(Value.int .i64 x0), (Value.pointer (some a1))] h R :=
  run_of mixed Try.func76 (by kernel_rfl) (by kernel_rfl) f76.good (Eq.mpr (show (Fwd Try.prog f76.T f76.kp Try.f76 R [] (mkFr (argL [(Value.int .i64 x0), (Value.pointer (some a1))] 0)) h) = (f76.runT R x0 a1 h) by kernel_rfl) H)
def f44.T : Tab := { sh := tSh, tup := tTup, keep := [], plan := [] }
def f44.kp : Keep := []
theorem f44.good : goodCode Try.prog f44.T (rootOf Try.f44) = true := by kernel_rfl
set_option maxRecDepth 100000 in
def f44.runT (R : Value → Heap → Prop) (v0 : Value) (h : Heap) : Prop :=
  newH h (Obj.cells ((v0).cells) 87) fun h1_ => ∃ v2_, ldv false 1 h1_ (⟨Array.size h, 0, none⟩) = some v2_ ∧ ∃ A3_, ∃ n3_, ∃ c3_, v2_ = (Value.slice A3_ n3_ c3_) ∧ Run Try.prog 75 #[(Value.int .i64 ((n3_ : Nat) : Int))] h1_ fun v4_ h5_ => ∃ A6_, ∃ n6_, ∃ c6_, v4_ = (Value.slice A6_ n6_ c6_) ∧ Run Try.prog 74 #[(Value.slice A6_ n6_ c6_), (Value.func (.func 76) #[] #[(Value.pointer (some ⟨Array.size h, 0, none⟩))])] h5_ fun v7_ h8_ => ∃ x9_, v7_ = (Value.int .i64 x9_) ∧ R (Value.int .i64 x9_) h8_
set_option maxRecDepth 100000 in
theorem f44.run {R : Value → Heap → Prop} {v0 : Value} {h : Heap} (H : f44.runT R v0 h) : Run Try.prog 44 #[v0] h R :=
  run_of mixed Try.func44 (by kernel_rfl) (by kernel_rfl) f44.good (Eq.mpr (show (Fwd Try.prog f44.T f44.kp Try.f44 R [] (mkFr (argL [v0] 0)) h) = (f44.runT R v0 h) by kernel_rfl) H)
def f67.T : Tab := { sh := tSh, tup := tTup, keep := [], plan := [] }
def f67.kp : Keep := [([true, true], [0, 1])]
theorem f67.good : goodCode Try.prog f67.T (rootOf Try.f67) = true := by kernel_rfl
def f67.j0 (R : Value → Heap → Prop) (A0 : Option Addr) (n0 : Nat) (c0 : Nat) (x1 : Int) (h : Heap) : Prop := Pt Try.prog Try.f67 R [true, true] (mkFr [(0, (Value.slice A0 n0 c0)), (1, (Value.int .i64 x1))]) h
set_option maxRecDepth 100000 in
def f67.j0T (R : Value → Heap → Prop) (A0 : Option Addr) (n0 : Nat) (c0 : Nat) (x1 : Int) (h : Heap) : Prop :=
  splitB (decide ((IntKind.wrap .i64 (x1 - (IntKind.wrap .i64 (((c0 : Nat) : Int) - ((n0 : Nat) : Int))))) > (0 : Int))) (0 ≤ (0 : Int) ∧ (0 : Int) ≤ ((c0 : Nat) : Int) ∧ ((c0 : Nat) : Int) ≤ ((c0 : Nat) : Int) ∧ (AppZ 3 1 8 #[(Value.int .i64 (0 : Int))] (sliceA A0 (Int.toNat (0 : Int)) c0 1) (Int.toNat ((c0 : Nat) : Int) - Int.toNat (0 : Int)) (c0 - Int.toNat (0 : Int)) (Value.int .i64 (IntKind.wrap .i64 (x1 - (IntKind.wrap .i64 (((c0 : Nat) : Int) - ((n0 : Nat) : Int)))))) h fun v1_ h2_ => ∃ A3_, ∃ n3_, ∃ c3_, v1_ = (Value.slice A3_ n3_ c3_) ∧ 0 ≤ (0 : Int) ∧ (0 : Int) ≤ ((n0 : Nat) : Int) ∧ ((n0 : Nat) : Int) ≤ ((c3_ : Nat) : Int) ∧ (R (Value.slice (sliceA A3_ (Int.toNat (0 : Int)) c3_ 1) (Int.toNat ((n0 : Nat) : Int) - Int.toNat (0 : Int)) (c3_ - Int.toNat (0 : Int))) h2_))) (R (Value.slice A0 n0 c0) h)
set_option maxRecDepth 100000 in
theorem f67.j0_in {R : Value → Heap → Prop} {A0 : Option Addr} {n0 : Nat} {c0 : Nat} {x1 : Int} {h : Heap} (H : f67.j0T R A0 n0 c0 x1 h) : f67.j0 R A0 n0 c0 x1 h :=
  pt_intro mixed f67.good (Eq.mpr (show (Fwd Try.prog f67.T f67.kp Try.f67 R [true, true] (mkFr [(0, (Value.slice A0 n0 c0)), (1, (Value.int .i64 x1))]) h) = (f67.j0T R A0 n0 c0 x1 h) by kernel_rfl) H)
set_option maxRecDepth 100000 in
def f67.runT (R : Value → Heap → Prop) (A0 : Option Addr) (n0 : Nat) (c0 : Nat) (x1 : Int) (h : Heap) : Prop :=
  splitB (decide (x1 < (0 : Int))) (Gen Try.prog (Instr.makeInterface 9 (Value.string (ByteArray.mk #[99, 97, 110, 110, 111, 116, 32, 98, 101, 32, 110, 101, 103, 97, 116, 105, 118, 101]))) h fun v1_ h2_ => False) (f67.j0 R A0 n0 c0 x1 h)
set_option maxRecDepth 100000 in
theorem f67.run {R : Value → Heap → Prop} {A0 : Option Addr} {n0 : Nat} {c0 : Nat} {x1 : Int} {h : Heap} (H : f67.runT R A0 n0 c0 x1 h) : Run Try.prog 67 #[(Value.slice A0 n0 c0), (Value.int .i64 x1)] h R :=
  run_of mixed Try.func67 (by kernel_rfl) (by kernel_rfl) f67.good (Eq.mpr (show (Fwd Try.prog f67.T f67.kp Try.f67 R [] (mkFr (argL [(Value.slice A0 n0 c0), (Value.int .i64 x1)] 0)) h) = (f67.runT R A0 n0 c0 x1 h) by kernel_rfl) H)
def f34.T : Tab := { sh := tSh, tup := tTup, keep := [], plan := [] }
def f34.kp : Keep := [([false, false, true, false, true, true], [0, 3, 9, 10, 11]), ([false, false, true, false, true, true, true, true], [6, 25, 26, 27])]
theorem f34.good : goodCode Try.prog f34.T (rootOf Try.f34) = true := by kernel_rfl
def f34.l0 (R : Value → Heap → Prop) (A0 : Option Addr) (n0 : Nat) (c0 : Nat) (x3 : Int) (A9 : Option Addr) (n9 : Nat) (c9 : Nat) (x10 : Int) (x11 : Int) (h : Heap) : Prop := Pt Try.prog Try.f34 R [false, false, true, false, true, true] (mkFr [(0, (Value.slice A0 n0 c0)), (3, (Value.int .i64 x3)), (9, (Value.slice A9 n9 c9)), (10, (Value.int .i64 x10)), (11, (Value.int .i64 x11))]) h
def f34.l1 (R : Value → Heap → Prop) (A6 : Option Addr) (n6 : Nat) (c6 : Nat) (A25 : Option Addr) (n25 : Nat) (c25 : Nat) (x26 : Int) (x27 : Int) (h : Heap) : Prop := Pt Try.prog Try.f34 R [false, false, true, false, true, true, true, true] (mkFr [(6, (Value.slice A6 n6 c6)), (25, (Value.slice A25 n25 c25)), (26, (Value.int .i64 x26)), (27, (Value.int .i64 x27))]) h
set_option maxRecDepth 100000 in
def f34.l0T (R : Value → Heap → Prop) (A0 : Option Addr) (n0 : Nat) (c0 : Nat) (x3 : Int) (A9 : Option Addr) (n9 : Nat) (c9 : Nat) (x10 : Int) (x11 : Int) (h : Heap) : Prop :=
  splitB (decide (x11 < x10)) (ptrOk A9 fun a1_ => 0 ≤ x11 ∧ x11 < ((n9 : Nat) : Int) ∧ (∃ v2_, ldv false 1 h (Addr.add a1_ (Int.toNat x11 * 1)) = some v2_ ∧ ∃ A3_, ∃ n3_, ∃ c3_, v2_ = (Value.slice A3_ n3_ c3_) ∧ splitB (decide ((IntKind.wrap .i64 (x3 + ((n3_ : Nat) : Int))) < (0 : Int))) (Gen Try.prog (Instr.makeInterface 9 (Value.string (ByteArray.mk #[108, 101, 110, 32, 111, 117, 116, 32, 111, 102, 32, 114, 97, 110, 103, 101]))) h fun v4_ h5_ => False) (f34.l0 R A0 n0 c0 (IntKind.wrap .i64 (x3 + ((n3_ : Nat) : Int))) A9 n9 c9 x10 (IntKind.wrap .i64 (x11 + (1 : Int))) h))) (Run Try.prog 67 #[(Value.slice none 0 0), (Value.int .i64 x3)] h fun v6_ h7_ => ∃ A8_, ∃ n8_, ∃ c8_, v6_ = (Value.slice A8_ n8_ c8_) ∧ f34.l1 R A8_ n8_ c8_ A0 n0 c0 ((n0 : Nat) : Int) (0 : Int) h7_)
set_option maxRecDepth 100000 in
theorem f34.l0_in {R : Value → Heap → Prop} {A0 : Option Addr} {n0 : Nat} {c0 : Nat} {x3 : Int} {A9 : Option Addr} {n9 : Nat} {c9 : Nat} {x10 : Int} {x11 : Int} {h : Heap} (H : f34.l0T R A0 n0 c0 x3 A9 n9 c9 x10 x11 h) : f34.l0 R A0 n0 c0 x3 A9 n9 c9 x10 x11 h :=
  pt_intro mixed f34.good (Eq.mpr (show (Fwd Try.prog f34.T f34.kp Try.f34 R [false, false, true, false, true, true] (mkFr [(0, (Value.slice A0 n0 c0)), (3, (Value.int .i64 x3)), (9, (Value.slice A9 n9 c9)), (10, (Value.int .i64 x10)), (11, (Value.int .i64 x11))]) h) = (f34.l0T R A0 n0 c0 x3 A9 n9 c9 x10 x11 h) by kernel_rfl) H)
set_option maxRecDepth 100000 in
def f34.l1T (R : Value → Heap → Prop) (A6 : Option Addr) (n6 : Nat) (c6 : Nat) (A25 : Option Addr) (n25 : Nat) (c25 : Nat) (x26 : Int) (x27 : Int) (h : Heap) : Prop :=
  splitB (decide (x27 < x26)) (ptrOk A25 fun a1_ => 0 ≤ x27 ∧ x27 < ((n25 : Nat) : Int) ∧ (∃ v2_, ldv false 1 h (Addr.add a1_ (Int.toNat x27 * 1)) = some v2_ ∧ ∃ A3_, ∃ n3_, ∃ c3_, v2_ = (Value.slice A3_ n3_ c3_) ∧ AppW 3 1 8 #[(Value.int .i64 (0 : Int))] A6 n6 c6 (Value.slice A3_ n3_ c3_) h fun v4_ h5_ => ∃ A6_, ∃ n6_, ∃ c6_, v4_ = (Value.slice A6_ n6_ c6_) ∧ f34.l1 R A6_ n6_ c6_ A25 n25 c25 x26 (IntKind.wrap .i64 (x27 + (1 : Int))) h5_)) (R (Value.slice A6 n6 c6) h)
set_option maxRecDepth 100000 in
theorem f34.l1_in {R : Value → Heap → Prop} {A6 : Option Addr} {n6 : Nat} {c6 : Nat} {A25 : Option Addr} {n25 : Nat} {c25 : Nat} {x26 : Int} {x27 : Int} {h : Heap} (H : f34.l1T R A6 n6 c6 A25 n25 c25 x26 x27 h) : f34.l1 R A6 n6 c6 A25 n25 c25 x26 x27 h :=
  pt_intro mixed f34.good (Eq.mpr (show (Fwd Try.prog f34.T f34.kp Try.f34 R [false, false, true, false, true, true, true, true] (mkFr [(6, (Value.slice A6 n6 c6)), (25, (Value.slice A25 n25 c25)), (26, (Value.int .i64 x26)), (27, (Value.int .i64 x27))]) h) = (f34.l1T R A6 n6 c6 A25 n25 c25 x26 x27 h) by kernel_rfl) H)
set_option maxRecDepth 100000 in
def f34.runT (R : Value → Heap → Prop) (A0 : Option Addr) (n0 : Nat) (c0 : Nat) (h : Heap) : Prop :=
  f34.l0 R A0 n0 c0 (0 : Int) A0 n0 c0 ((n0 : Nat) : Int) (0 : Int) h
set_option maxRecDepth 100000 in
theorem f34.run {R : Value → Heap → Prop} {A0 : Option Addr} {n0 : Nat} {c0 : Nat} {h : Heap} (H : f34.runT R A0 n0 c0 h) : Run Try.prog 34 #[(Value.slice A0 n0 c0)] h R :=
  run_of mixed Try.func34 (by kernel_rfl) (by kernel_rfl) f34.good (Eq.mpr (show (Fwd Try.prog f34.T f34.kp Try.f34 R [] (mkFr (argL [(Value.slice A0 n0 c0)] 0)) h) = (f34.runT R A0 n0 c0 h) by kernel_rfl) H)
def f78.T : Tab := { sh := tSh, tup := tTup, keep := [], plan := [] }
def f78.kp : Keep := [([false, false, false, true, true, true], [2, 3, 4, 10, 11]), ([false, false, true, true, true, true, false, true, false, false, false, true, true, true], [2, 3, 4, 10, 11, 12, 36, 37, 38]), ([true, true, true, false, false, true, true, false, false, true, true, true, true, false, true, false, false, false, true, true, true], [2, 3, 4, 10, 11, 12, 13, 15, 36, 37, 38]), ([true, true, true, true, false, false, true, true, false, false, true, true, true, true, false, true, false, false, false, true, true, true], [2, 3, 4, 10, 11, 12, 13, 15, 36, 37, 38, 69])]
theorem f78.good : goodCode Try.prog f78.T (rootOf Try.f78) = true := by kernel_rfl
def f78.l0 (R : Value → Heap → Prop) (x2 : Int) (x3 : Int) (a4 : Addr) (A10 : Option Addr) (n10 : Nat) (c10 : Nat) (A11 : Option Addr) (n11 : Nat) (c11 : Nat) (h : Heap) : Prop := Pt Try.prog Try.f78 R [false, false, false, true, true, true] (mkFr [(2, (Value.int .i64 x2)), (3, (Value.int .i64 x3)), (4, (Value.pointer (some a4))), (10, (Value.slice A10 n10 c10)), (11, (Value.slice A11 n11 c11))]) h
def f78.l1 (R : Value → Heap → Prop) (x2 : Int) (x3 : Int) (a4 : Addr) (A10 : Option Addr) (n10 : Nat) (c10 : Nat) (A11 : Option Addr) (n11 : Nat) (c11 : Nat) (a12 : Addr) (A36 : Option Addr) (n36 : Nat) (c36 : Nat) (x37 : Int) (x38 : Int) (h : Heap) : Prop := Pt Try.prog Try.f78 R [false, false, true, true, true, true, false, true, false, false, false, true, true, true] (mkFr [(2, (Value.int .i64 x2)), (3, (Value.int .i64 x3)), (4, (Value.pointer (some a4))), (10, (Value.slice A10 n10 c10)), (11, (Value.slice A11 n11 c11)), (12, (Value.pointer (some a12))), (36, (Value.slice A36 n36 c36)), (37, (Value.int .i64 x37)), (38, (Value.int .i64 x38))]) h
def f78.j0 (R : Value → Heap → Prop) (x2 : Int) (x3 : Int) (a4 : Addr) (A10 : Option Addr) (n10 : Nat) (c10 : Nat) (A11 : Option Addr) (n11 : Nat) (c11 : Nat) (a12 : Addr) (x13 : Int) (x15 : Int) (A36 : Option Addr) (n36 : Nat) (c36 : Nat) (x37 : Int) (x38 : Int) (h : Heap) : Prop := Pt Try.prog Try.f78 R [true, true, true, false, false, true, true, false, false, true, true, true, true, false, true, false, false, false, true, true, true] (mkFr [(2, (Value.int .i64 x2)), (3, (Value.int .i64 x3)), (4, (Value.pointer (some a4))), (10, (Value.slice A10 n10 c10)), (11, (Value.slice A11 n11 c11)), (12, (Value.pointer (some a12))), (13, (Value.int .i64 x13)), (15, (Value.int .i64 x15)), (36, (Value.slice A36 n36 c36)), (37, (Value.int .i64 x37)), (38, (Value.int .i64 x38))]) h
def f78.j1 (R : Value → Heap → Prop) (x2 : Int) (x3 : Int) (a4 : Addr) (A10 : Option Addr) (n10 : Nat) (c10 : Nat) (A11 : Option Addr) (n11 : Nat) (c11 : Nat) (a12 : Addr) (x13 : Int) (x15 : Int) (A36 : Option Addr) (n36 : Nat) (c36 : Nat) (x37 : Int) (x38 : Int) (b69 : Bool) (h : Heap) : Prop := Pt Try.prog Try.f78 R [true, true, true, true, false, false, true, true, false, false, true, true, true, true, false, true, false, false, false, true, true, true] (mkFr [(2, (Value.int .i64 x2)), (3, (Value.int .i64 x3)), (4, (Value.pointer (some a4))), (10, (Value.slice A10 n10 c10)), (11, (Value.slice A11 n11 c11)), (12, (Value.pointer (some a12))), (13, (Value.int .i64 x13)), (15, (Value.int .i64 x15)), (36, (Value.slice A36 n36 c36)), (37, (Value.int .i64 x37)), (38, (Value.int .i64 x38)), (69, (Value.bool b69))]) h
set_option maxRecDepth 100000 in
def f78.l0T (R : Value → Heap → Prop) (x2 : Int) (x3 : Int) (a4 : Addr) (A10 : Option Addr) (n10 : Nat) (c10 : Nat) (A11 : Option Addr) (n11 : Nat) (c11 : Nat) (h : Heap) : Prop :=
  splitB (decide (((n10 : Nat) : Int) > (0 : Int))) (ptrOk A10 fun a1_ => 0 ≤ (0 : Int) ∧ (0 : Int) < ((n10 : Nat) : Int) ∧ (∃ v2_, ldv true 2 h (Addr.add a1_ (Int.toNat (0 : Int) * 2)) = some v2_ ∧ newH h (Obj.cells #[(Value.int .i64 (0 : Int)), (Value.slice none 0 0)] 149) fun h3_ => ∃ l5_ : List Value, v2_ = Value.agg l5_.toArray ∧ l5_.length = 2 ∧ ∃ h4_, stH h3_ (⟨Array.size h, 0, none⟩) l5_ 0 = some h4_ ∧ 0 ≤ (1 : Int) ∧ (1 : Int) ≤ ((n10 : Nat) : Int) ∧ ((n10 : Nat) : Int) ≤ ((c10 : Nat) : Int) ∧ (∃ v6_, ldv false 1 h4_ (⟨Array.size h, 0, none⟩) = some v6_ ∧ ∃ x7_, v6_ = (Value.int .i64 x7_) ∧ splitB (x7_ == x2) (∃ v8_, ldv false 1 h4_ (Addr.add (⟨Array.size h, 0, none⟩) 1) = some v8_ ∧ ∃ A9_, ∃ n9_, ∃ c9_, v8_ = (Value.slice A9_ n9_ c9_) ∧ R (Value.tuple #[(Value.slice A9_ n9_ c9_), (Value.bool true)]) h4_) (∃ v10_, ldv false 1 h4_ a4 = some v10_ ∧ ∃ A11_, ∃ n11_, ∃ c11_, v10_ = (Value.slice A11_ n11_ c11_) ∧ f78.l1 R x2 x3 a4 (sliceA A10 (Int.toNat (1 : Int)) c10 2) (Int.toNat ((n10 : Nat) : Int) - Int.toNat (1 : Int)) (c10 - Int.toNat (1 : Int)) A11 n11 c11 (⟨Array.size h, 0, none⟩) A11_ n11_ c11_ ((n11_ : Nat) : Int) (0 : Int) h4_)))) (R (Value.tuple #[(Value.slice none 0 0), (Value.bool false)]) h)
set_option maxRecDepth 100000 in
theorem f78.l0_in {R : Value → Heap → Prop} {x2 : Int} {x3 : Int} {a4 : Addr} {A10 : Option Addr} {n10 : Nat} {c10 : Nat} {A11 : Option Addr} {n11 : Nat} {c11 : Nat} {h : Heap} (H : f78.l0T R x2 x3 a4 A10 n10 c10 A11 n11 c11 h) : f78.l0 R x2 x3 a4 A10 n10 c10 A11 n11 c11 h :=
  pt_intro mixed f78.good (Eq.mpr (show (Fwd Try.prog f78.T f78.kp Try.f78 R [false, false, false, true, true, true] (mkFr [(2, (Value.int .i64 x2)), (3, (Value.int .i64 x3)), (4, (Value.pointer (some a4))), (10, (Value.slice A10 n10 c10)), (11, (Value.slice A11 n11 c11))]) h) = (f78.l0T R x2 x3 a4 A10 n10 c10 A11 n11 c11 h) by kernel_rfl) H)
set_option maxRecDepth 100000 in
def f78.l1T (R : Value → Heap → Prop) (x2 : Int) (x3 : Int) (a4 : Addr) (A10 : Option Addr) (n10 : Nat) (c10 : Nat) (A11 : Option Addr) (n11 : Nat) (c11 : Nat) (a12 : Addr) (A36 : Option Addr) (n36 : Nat) (c36 : Nat) (x37 : Int) (x38 : Int) (h : Heap) : Prop :=
  splitB (decide (x38 < x37)) (ptrOk A36 fun a1_ => 0 ≤ x38 ∧ x38 < ((n36 : Nat) : Int) ∧ (∃ v2_, ldv true 2 h (Addr.add a1_ (Int.toNat x38 * 2)) = some v2_ ∧ newH h (Obj.cells #[(Value.int .i64 (0 : Int)), (Value.int .i64 (0 : Int))] 67) fun h3_ => ∃ l5_ : List Value, v2_ = Value.agg l5_.toArray ∧ l5_.length = 2 ∧ ∃ h4_, stH h3_ (⟨Array.size h, 0, none⟩) l5_ 0 = some h4_ ∧ 0 ≤ (0 : Int) ∧ (0 : Int) < ((2 : Nat) : Int) ∧ (∃ v6_, ldv false 1 h4_ (Addr.add (⟨Array.size h, 0, none⟩) (Int.toNat (0 : Int) * 1)) = some v6_ ∧ ∃ x7_, v6_ = (Value.int .i64 x7_) ∧ ∃ v8_, ldv false 1 h4_ a12 = some v8_ ∧ ∃ x9_, v8_ = (Value.int .i64 x9_) ∧ splitB (x7_ == x9_) (0 ≤ (1 : Int) ∧ (1 : Int) < ((2 : Nat) : Int) ∧ (∃ v10_, ldv false 1 h4_ (Addr.add (⟨Array.size h, 0, none⟩) (Int.toNat (1 : Int) * 1)) = some v10_ ∧ ∃ x11_, v10_ = (Value.int .i64 x11_) ∧ f78.j0 R x2 x3 a4 A10 n10 c10 A11 n11 c11 a12 x38 x11_ A36 n36 c36 x37 x38 h4_)) (0 ≤ (1 : Int) ∧ (1 : Int) < ((2 : Nat) : Int) ∧ (∃ v12_, ldv false 1 h4_ (Addr.add (⟨Array.size h, 0, none⟩) (Int.toNat (1 : Int) * 1)) = some v12_ ∧ ∃ x13_, v12_ = (Value.int .i64 x13_) ∧ ∃ v14_, ldv false 1 h4_ a12 = some v14_ ∧ ∃ x15_, v14_ = (Value.int .i64 x15_) ∧ splitB (x13_ == x15_) (0 ≤ (0 : Int) ∧ (0 : Int) < ((2 : Nat) : Int) ∧ (∃ v16_, ldv false 1 h4_ (Addr.add (⟨Array.size h, 0, none⟩) (Int.toNat (0 : Int) * 1)) = some v16_ ∧ ∃ x17_, v16_ = (Value.int .i64 x17_) ∧ f78.j0 R x2 x3 a4 A10 n10 c10 A11 n11 c11 a12 x38 x17_ A36 n36 c36 x37 x38 h4_)) (f78.j0 R x2 x3 a4 A10 n10 c10 A11 n11 c11 a12 x38 (-1 : Int) A36 n36 c36 x37 x38 h4_)))))) (f78.l0 R x2 x3 a4 A10 n10 c10 A11 n11 c11 h)
set_option maxRecDepth 100000 in
theorem f78.l1_in {R : Value → Heap → Prop} {x2 : Int} {x3 : Int} {a4 : Addr} {A10 : Option Addr} {n10 : Nat} {c10 : Nat} {A11 : Option Addr} {n11 : Nat} {c11 : Nat} {a12 : Addr} {A36 : Option Addr} {n36 : Nat} {c36 : Nat} {x37 : Int} {x38 : Int} {h : Heap} (H : f78.l1T R x2 x3 a4 A10 n10 c10 A11 n11 c11 a12 A36 n36 c36 x37 x38 h) : f78.l1 R x2 x3 a4 A10 n10 c10 A11 n11 c11 a12 A36 n36 c36 x37 x38 h :=
  pt_intro mixed f78.good (Eq.mpr (show (Fwd Try.prog f78.T f78.kp Try.f78 R [false, false, true, true, true, true, false, true, false, false, false, true, true, true] (mkFr [(2, (Value.int .i64 x2)), (3, (Value.int .i64 x3)), (4, (Value.pointer (some a4))), (10, (Value.slice A10 n10 c10)), (11, (Value.slice A11 n11 c11)), (12, (Value.pointer (some a12))), (36, (Value.slice A36 n36 c36)), (37, (Value.int .i64 x37)), (38, (Value.int .i64 x38))]) h) = (f78.l1T R x2 x3 a4 A10 n10 c10 A11 n11 c11 a12 A36 n36 c36 x37 x38 h) by kernel_rfl) H)
set_option maxRecDepth 100000 in
def f78.j0T (R : Value → Heap → Prop) (x2 : Int) (x3 : Int) (a4 : Addr) (A10 : Option Addr) (n10 : Nat) (c10 : Nat) (A11 : Option Addr) (n11 : Nat) (c11 : Nat) (a12 : Addr) (x13 : Int) (x15 : Int) (A36 : Option Addr) (n36 : Nat) (c36 : Nat) (x37 : Int) (x38 : Int) (h : Heap) : Prop :=
  splitB (x13 != x3) (splitB (decide (x15 ≥ (0 : Int))) (Run Try.prog 35 #[(Value.slice A11 n11 c11), (Value.int .i64 x15)] h fun v1_ h2_ => ∃ b3_, v1_ = (Value.bool b3_) ∧ f78.j1 R x2 x3 a4 A10 n10 c10 A11 n11 c11 a12 x13 x15 A36 n36 c36 x37 x38 (!b3_) h2_) (f78.j1 R x2 x3 a4 A10 n10 c10 A11 n11 c11 a12 x13 x15 A36 n36 c36 x37 x38 false h)) (f78.j1 R x2 x3 a4 A10 n10 c10 A11 n11 c11 a12 x13 x15 A36 n36 c36 x37 x38 false h)
set_option maxRecDepth 100000 in
theorem f78.j0_in {R : Value → Heap → Prop} {x2 : Int} {x3 : Int} {a4 : Addr} {A10 : Option Addr} {n10 : Nat} {c10 : Nat} {A11 : Option Addr} {n11 : Nat} {c11 : Nat} {a12 : Addr} {x13 : Int} {x15 : Int} {A36 : Option Addr} {n36 : Nat} {c36 : Nat} {x37 : Int} {x38 : Int} {h : Heap} (H : f78.j0T R x2 x3 a4 A10 n10 c10 A11 n11 c11 a12 x13 x15 A36 n36 c36 x37 x38 h) : f78.j0 R x2 x3 a4 A10 n10 c10 A11 n11 c11 a12 x13 x15 A36 n36 c36 x37 x38 h :=
  pt_intro mixed f78.good (Eq.mpr (show (Fwd Try.prog f78.T f78.kp Try.f78 R [true, true, true, false, false, true, true, false, false, true, true, true, true, false, true, false, false, false, true, true, true] (mkFr [(2, (Value.int .i64 x2)), (3, (Value.int .i64 x3)), (4, (Value.pointer (some a4))), (10, (Value.slice A10 n10 c10)), (11, (Value.slice A11 n11 c11)), (12, (Value.pointer (some a12))), (13, (Value.int .i64 x13)), (15, (Value.int .i64 x15)), (36, (Value.slice A36 n36 c36)), (37, (Value.int .i64 x37)), (38, (Value.int .i64 x38))]) h) = (f78.j0T R x2 x3 a4 A10 n10 c10 A11 n11 c11 a12 x13 x15 A36 n36 c36 x37 x38 h) by kernel_rfl) H)
set_option maxRecDepth 100000 in
def f78.j1T (R : Value → Heap → Prop) (x2 : Int) (x3 : Int) (a4 : Addr) (A10 : Option Addr) (n10 : Nat) (c10 : Nat) (A11 : Option Addr) (n11 : Nat) (c11 : Nat) (a12 : Addr) (x13 : Int) (x15 : Int) (A36 : Option Addr) (n36 : Nat) (c36 : Nat) (x37 : Int) (x38 : Int) (b69 : Bool) (h : Heap) : Prop :=
  splitB b69 (newH h (Obj.cells #[(Value.int .i64 x15)] 3) fun h1_ => AppW 3 1 8 #[(Value.int .i64 (0 : Int))] A11 n11 c11 (Value.slice (some ⟨Array.size h, 0, none⟩) 1 1) h1_ fun v2_ h3_ => ∃ A4_, ∃ n4_, ∃ c4_, v2_ = (Value.slice A4_ n4_ c4_) ∧ ∃ v5_, ldv false 1 h3_ (Addr.add a12 1) = some v5_ ∧ ∃ A6_, ∃ n6_, ∃ c6_, v5_ = (Value.slice A6_ n6_ c6_) ∧ newH h3_ (Obj.cells #[(Value.int .i64 x13)] 3) fun h7_ => newH h7_ (Obj.cells #[(Value.slice A6_ n6_ c6_), (Value.slice (some ⟨Array.size h3_, 0, none⟩) 1 1)] 45) fun h8_ => Run Try.prog 34 #[(Value.slice (some ⟨Array.size h7_, 0, none⟩) 2 2)] h8_ fun v9_ h10_ => ∃ A11_, ∃ n11_, ∃ c11_, v9_ = (Value.slice A11_ n11_ c11_) ∧ ∃ l12_ : List Value, (Value.agg #[(Value.int .i64 x15), (Value.slice A11_ n11_ c11_)]) = Value.agg l12_.toArray ∧ l12_.length = 2 ∧ (newH h10_ (Obj.cells ((List.take 0 ([(Value.int .i64 (0 : Int)), (Value.slice none 0 0)]) ++ l12_ ++ List.drop 2 ([(Value.int .i64 (0 : Int)), (Value.slice none 0 0)])).toArray) 149) fun h13_ => AppW 149 2 32 #[(Value.int .i64 (0 : Int)), (Value.slice none 0 0)] A10 n10 c10 (Value.slice (some ⟨Array.size h10_, 0, none⟩) 1 1) h13_ fun v14_ h15_ => ∃ A16_, ∃ n16_, ∃ c16_, v14_ = (Value.slice A16_ n16_ c16_) ∧ f78.l1 R x2 x3 a4 A16_ n16_ c16_ A4_ n4_ c4_ a12 A36 n36 c36 x37 (IntKind.wrap .i64 (x38 + (1 : Int))) h15_)) (f78.l1 R x2 x3 a4 A10 n10 c10 A11 n11 c11 a12 A36 n36 c36 x37 (IntKind.wrap .i64 (x38 + (1 : Int))) h)
set_option maxRecDepth 100000 in
theorem f78.j1_in {R : Value → Heap → Prop} {x2 : Int} {x3 : Int} {a4 : Addr} {A10 : Option Addr} {n10 : Nat} {c10 : Nat} {A11 : Option Addr} {n11 : Nat} {c11 : Nat} {a12 : Addr} {x13 : Int} {x15 : Int} {A36 : Option Addr} {n36 : Nat} {c36 : Nat} {x37 : Int} {x38 : Int} {b69 : Bool} {h : Heap} (H : f78.j1T R x2 x3 a4 A10 n10 c10 A11 n11 c11 a12 x13 x15 A36 n36 c36 x37 x38 b69 h) : f78.j1 R x2 x3 a4 A10 n10 c10 A11 n11 c11 a12 x13 x15 A36 n36 c36 x37 x38 b69 h :=
  pt_intro mixed f78.good (Eq.mpr (show (Fwd Try.prog f78.T f78.kp Try.f78 R [true, true, true, true, false, false, true, true, false, false, true, true, true, true, false, true, false, false, false, true, true, true] (mkFr [(2, (Value.int .i64 x2)), (3, (Value.int .i64 x3)), (4, (Value.pointer (some a4))), (10, (Value.slice A10 n10 c10)), (11, (Value.slice A11 n11 c11)), (12, (Value.pointer (some a12))), (13, (Value.int .i64 x13)), (15, (Value.int .i64 x15)), (36, (Value.slice A36 n36 c36)), (37, (Value.int .i64 x37)), (38, (Value.int .i64 x38)), (69, (Value.bool b69))]) h) = (f78.j1T R x2 x3 a4 A10 n10 c10 A11 n11 c11 a12 x13 x15 A36 n36 c36 x37 x38 b69 h) by kernel_rfl) H)
set_option maxRecDepth 100000 in
def f78.runT (R : Value → Heap → Prop) (v0 : Value) (x1 : Int) (x2 : Int) (x3 : Int) (h : Heap) : Prop :=
  newH h (Obj.cells ((v0).cells) 87) fun h1_ => ∃ l2_ : List Value, (Value.agg #[(Value.int .i64 x1), (Value.slice none 0 0)]) = Value.agg l2_.toArray ∧ l2_.length = 2 ∧ (newH h1_ (Obj.cells ((List.take 0 ([(Value.int .i64 (0 : Int)), (Value.slice none 0 0)]) ++ l2_ ++ List.drop 2 ([(Value.int .i64 (0 : Int)), (Value.slice none 0 0)])).toArray) 149) fun h3_ => newH h3_ (Obj.cells #[(Value.int .i64 x1)] 3) fun h4_ => f78.l0 R x2 x3 (⟨Array.size h, 0, none⟩) (some ⟨Array.size h1_, 0, none⟩) 1 1 (some ⟨Array.size h3_, 0, none⟩) 1 1 h4_)
set_option maxRecDepth 100000 in
theorem f78.run {R : Value → Heap → Prop} {v0 : Value} {x1 : Int} {x2 : Int} {x3 : Int} {h : Heap} (H : f78.runT R v0 x1 x2 x3 h) : Run Try.prog 78 #[v0, (Value.int .i64 x1), (Value.int .i64 x2), (Value.int .i64 x3)] h R :=
  run_of mixed Try.func78 (by kernel_rfl) (by kernel_rfl) f78.good (Eq.mpr (show (Fwd Try.prog f78.T f78.kp Try.f78 R [] (mkFr (argL [v0, (Value.int .i64 x1), (Value.int .i64 x2), (Value.int .i64 x3)] 0)) h) = (f78.runT R v0 x1 x2 x3 h) by kernel_rfl) H)
def f45.T : Tab := { sh := tSh, tup := tTup, keep := [], plan := [] }
def f45.kp : Keep := [([false, false, true, false, true, true], [1, 3, 9, 10, 11]), ([true, true, true, false, false, true, true, false, false, true, false, true, true], [1, 3, 4, 6, 9, 10, 11, 38])]
theorem f45.good : goodCode Try.prog f45.T (rootOf Try.f45) = true := by kernel_rfl
def f45.l0 (R : Value → Heap → Prop) (a1 : Addr) (A3 : Option Addr) (n3 : Nat) (c3 : Nat) (A9 : Option Addr) (n9 : Nat) (c9 : Nat) (x10 : Int) (x11 : Int) (h : Heap) : Prop := Pt Try.prog Try.f45 R [false, false, true, false, true, true] (mkFr [(1, (Value.pointer (some a1))), (3, (Value.slice A3 n3 c3)), (9, (Value.slice A9 n9 c9)), (10, (Value.int .i64 x10)), (11, (Value.int .i64 x11))]) h
def f45.j0 (R : Value → Heap → Prop) (a1 : Addr) (A3 : Option Addr) (n3 : Nat) (c3 : Nat) (x4 : Int) (A6 : Option Addr) (n6 : Nat) (c6 : Nat) (A9 : Option Addr) (n9 : Nat) (c9 : Nat) (x10 : Int) (x11 : Int) (b38 : Bool) (h : Heap) : Prop := Pt Try.prog Try.f45 R [true, true, true, false, false, true, true, false, false, true, false, true, true] (mkFr [(1, (Value.pointer (some a1))), (3, (Value.slice A3 n3 c3)), (4, (Value.int .i64 x4)), (6, (Value.slice A6 n6 c6)), (9, (Value.slice A9 n9 c9)), (10, (Value.int .i64 x10)), (11, (Value.int .i64 x11)), (38, (Value.bool b38))]) h
set_option maxRecDepth 100000 in
def f45.l0T (R : Value → Heap → Prop) (a1 : Addr) (A3 : Option Addr) (n3 : Nat) (c3 : Nat) (A9 : Option Addr) (n9 : Nat) (c9 : Nat) (x10 : Int) (x11 : Int) (h : Heap) : Prop :=
  splitB (decide (x11 < x10)) (ptrOk A9 fun a1_ => 0 ≤ x11 ∧ x11 < ((n9 : Nat) : Int) ∧ (∃ v2_, ldv true 2 h (Addr.add a1_ (Int.toNat x11 * 2)) = some v2_ ∧ newH h (Obj.cells #[(Value.int .i64 (0 : Int)), (Value.int .i64 (0 : Int))] 67) fun h3_ => ∃ l5_ : List Value, v2_ = Value.agg l5_.toArray ∧ l5_.length = 2 ∧ ∃ h4_, stH h3_ (⟨Array.size h, 0, none⟩) l5_ 0 = some h4_ ∧ ∃ v6_, ldv true 2 h4_ a1 = some v6_ ∧ 0 ≤ (1 : Int) ∧ (1 : Int) < ((2 : Nat) : Int) ∧ (∃ v7_, ldv false 1 h4_ (Addr.add (⟨Array.size h, 0, none⟩) (Int.toNat (1 : Int) * 1)) = some v7_ ∧ ∃ x8_, v7_ = (Value.int .i64 x8_) ∧ 0 ≤ (0 : Int) ∧ (0 : Int) < ((2 : Nat) : Int) ∧ (∃ v9_, ldv false 1 h4_ (Addr.add (⟨Array.size h, 0, none⟩) (Int.toNat (0 : Int) * 1)) = some v9_ ∧ ∃ x10_, v9_ = (Value.int .i64 x10_) ∧ Run Try.prog 78 #[v6_, (Value.int .i64 x8_), (Value.int .i64 x10_), (Value.int .i64 x11)] h4_ fun v11_ h12_ => ∃ A13_, ∃ n13_, ∃ c13_, ∃ b14_, v11_ = (Value.tuple #[(Value.slice A13_ n13_ c13_), (Value.bool b14_)]) ∧ splitB b14_ (splitB (Option.isNone A3) (f45.j0 R a1 A3 n3 c3 x11 A13_ n13_ c13_ A9 n9 c9 x10 x11 true h12_) (f45.j0 R a1 A3 n3 c3 x11 A13_ n13_ c13_ A9 n9 c9 x10 x11 (decide ((IntKind.wrap .i64 (((n13_ : Nat) : Int) + (1 : Int))) < ((n3 : Nat) : Int))) h12_)) (f45.j0 R a1 A3 n3 c3 x11 A13_ n13_ c13_ A9 n9 c9 x10 x11 false h12_))))) (R (Value.slice A3 n3 c3) h)
set_option maxRecDepth 100000 in
theorem f45.l0_in {R : Value → Heap → Prop} {a1 : Addr} {A3 : Option Addr} {n3 : Nat} {c3 : Nat} {A9 : Option Addr} {n9 : Nat} {c9 : Nat} {x10 : Int} {x11 : Int} {h : Heap} (H : f45.l0T R a1 A3 n3 c3 A9 n9 c9 x10 x11 h) : f45.l0 R a1 A3 n3 c3 A9 n9 c9 x10 x11 h :=
  pt_intro mixed f45.good (Eq.mpr (show (Fwd Try.prog f45.T f45.kp Try.f45 R [false, false, true, false, true, true] (mkFr [(1, (Value.pointer (some a1))), (3, (Value.slice A3 n3 c3)), (9, (Value.slice A9 n9 c9)), (10, (Value.int .i64 x10)), (11, (Value.int .i64 x11))]) h) = (f45.l0T R a1 A3 n3 c3 A9 n9 c9 x10 x11 h) by kernel_rfl) H)
set_option maxRecDepth 100000 in
def f45.j0T (R : Value → Heap → Prop) (a1 : Addr) (A3 : Option Addr) (n3 : Nat) (c3 : Nat) (x4 : Int) (A6 : Option Addr) (n6 : Nat) (c6 : Nat) (A9 : Option Addr) (n9 : Nat) (c9 : Nat) (x10 : Int) (x11 : Int) (b38 : Bool) (h : Heap) : Prop :=
  splitB b38 (newH h (Obj.cells #[(Value.int .i64 x4)] 3) fun h1_ => newH h1_ (Obj.cells #[(Value.slice (some ⟨Array.size h, 0, none⟩) 1 1), (Value.slice A6 n6 c6)] 45) fun h2_ => Run Try.prog 34 #[(Value.slice (some ⟨Array.size h1_, 0, none⟩) 2 2)] h2_ fun v3_ h4_ => ∃ A5_, ∃ n5_, ∃ c5_, v3_ = (Value.slice A5_ n5_ c5_) ∧ f45.l0 R a1 A5_ n5_ c5_ A9 n9 c9 x10 (IntKind.wrap .i64 (x11 + (1 : Int))) h4_) (f45.l0 R a1 A3 n3 c3 A9 n9 c9 x10 (IntKind.wrap .i64 (x11 + (1 : Int))) h)
set_option maxRecDepth 100000 in
theorem f45.j0_in {R : Value → Heap → Prop} {a1 : Addr} {A3 : Option Addr} {n3 : Nat} {c3 : Nat} {x4 : Int} {A6 : Option Addr} {n6 : Nat} {c6 : Nat} {A9 : Option Addr} {n9 : Nat} {c9 : Nat} {x10 : Int} {x11 : Int} {b38 : Bool} {h : Heap} (H : f45.j0T R a1 A3 n3 c3 x4 A6 n6 c6 A9 n9 c9 x10 x11 b38 h) : f45.j0 R a1 A3 n3 c3 x4 A6 n6 c6 A9 n9 c9 x10 x11 b38 h :=
  pt_intro mixed f45.good (Eq.mpr (show (Fwd Try.prog f45.T f45.kp Try.f45 R [true, true, true, false, false, true, true, false, false, true, false, true, true] (mkFr [(1, (Value.pointer (some a1))), (3, (Value.slice A3 n3 c3)), (4, (Value.int .i64 x4)), (6, (Value.slice A6 n6 c6)), (9, (Value.slice A9 n9 c9)), (10, (Value.int .i64 x10)), (11, (Value.int .i64 x11)), (38, (Value.bool b38))]) h) = (f45.j0T R a1 A3 n3 c3 x4 A6 n6 c6 A9 n9 c9 x10 x11 b38 h) by kernel_rfl) H)
set_option maxRecDepth 100000 in
def f45.runT (R : Value → Heap → Prop) (v0 : Value) (h : Heap) : Prop :=
  newH h (Obj.cells ((v0).cells) 87) fun h1_ => ∃ v2_, ldv false 1 h1_ (⟨Array.size h, 0, none⟩) = some v2_ ∧ ∃ A3_, ∃ n3_, ∃ c3_, v2_ = (Value.slice A3_ n3_ c3_) ∧ f45.l0 R (⟨Array.size h, 0, none⟩) none 0 0 A3_ n3_ c3_ ((n3_ : Nat) : Int) (0 : Int) h1_
set_option maxRecDepth 100000 in
theorem f45.run {R : Value → Heap → Prop} {v0 : Value} {h : Heap} (H : f45.runT R v0 h) : Run Try.prog 45 #[v0] h R :=
  run_of mixed Try.func45 (by kernel_rfl) (by kernel_rfl) f45.good (Eq.mpr (show (Fwd Try.prog f45.T f45.kp Try.f45 R [] (mkFr (argL [v0] 0)) h) = (f45.runT R v0 h) by kernel_rfl) H)
def f79.T : Tab := { sh := tSh, tup := tTup, keep := [], plan := [] }
def f79.kp : Keep := []
theorem f79.good : goodCode Try.prog f79.T (rootOf Try.f79) = true := by kernel_rfl
set_option maxRecDepth 100000 in
def f79.runT (R : Value → Heap → Prop) (A0 : Option Addr) (n0 : Nat) (c0 : Nat) (h : Heap) : Prop :=
  splitB (Option.isNone A0) (R (Value.slice none 0 0) h) (newH h (Obj.cells #[] 91) fun h1_ => AppW 91 1 24 #[(Value.slice none 0 0)] (some ⟨Array.size h, 0, none⟩) 0 0 (Value.slice A0 n0 c0) h1_ fun v2_ h3_ => ∃ A4_, ∃ n4_, ∃ c4_, v2_ = (Value.slice A4_ n4_ c4_) ∧ R (Value.slice A4_ n4_ c4_) h3_)
set_option maxRecDepth 100000 in
theorem f79.run {R : Value → Heap → Prop} {A0 : Option Addr} {n0 : Nat} {c0 : Nat} {h : Heap} (H : f79.runT R A0 n0 c0 h) : Run Try.prog 79 #[(Value.slice A0 n0 c0)] h R :=
  run_of mixed Try.func79 (by kernel_rfl) (by kernel_rfl) f79.good (Eq.mpr (show (Fwd Try.prog f79.T f79.kp Try.f79 R [] (mkFr (argL [(Value.slice A0 n0 c0)] 0)) h) = (f79.runT R A0 n0 c0 h) by kernel_rfl) H)
def f47.T : Tab := { sh := tSh, tup := tTup, keep := [], plan := [(8, (.take 0 (.take 1 (.take 5 (.take 6 (.take 2 (.take 3 (.take 4 (.take 10 (.take 7 (.take 8 (.take 9 (.take 11 .done))))))))))))), (9, (.take 0 (.take 1 (.take 2 (.take 3 (.split 3 (.take 4 (.take 5 (.take 6 (.take 7 (.take 8 (.split 8 (.take 9 (.take 10 (.take 11 (.take 13 (.take 12 (.take 14 (.take 15 (.take 16 (.split 16 (.take 17 (.take 18 (.take 19 (.take 21 (.take 20 (.take 22 (.take 23 (.take 24 (.split 24 (.take 25 (.take 26 (.take 27 (.take 29 (.take 30 (.take 31 (.take 28 (.take 32 (.take 33 (.take 34 (.take 35 (.split 35 (.take 36 (.take 37 (.take 38 (.take 40 (.take 41 (.take 42 (.take 39 (.take 43 (.take 44 (.take 45 (.take 46 .done))))))))))))))))))))))))))))))))))))))))))))))))))))), (18, (.take 0 (.take 2 (.take 3 (.take 4 (.take 8 (.take 1 (.take 5 (.take 6 (.take 7 .done))))))))))] }
def f47.kp : Keep := [([false, false, true, true, true, true], [1, 2, 6, 7, 8]), ([false, false, true, false, true, false, false, false, true, true, true, true], [1, 2, 6, 7, 8, 9, 25, 26, 27]), ([true, true, true, false, false, true, true, false, false, true, false, true, false, false, false, true, true, true, true], [1, 2, 6, 7, 8, 9, 10, 25, 26, 27, 88]), ([true, true, true, true, true, false, false, false, true, true, true, true], [1, 2, 6, 7, 8, 9, 14]), ([false, false, true, false, true, true, true, true, true, false, false, false, true, true, true, true], [1, 2, 6, 7, 8, 9, 14, 120, 121])]
theorem f47.good : goodCode Try.prog f47.T (rootOf Try.f47) = true := by kernel_rfl
def f47.l0 (R : Value → Heap → Prop) (A1 : Option Addr) (n1 : Nat) (c1 : Nat) (a2 : Addr) (A6 : Option Addr) (n6 : Nat) (c6 : Nat) (A7 : Option Addr) (n7 : Nat) (c7 : Nat) (A8 : Option Addr) (n8 : Nat) (c8 : Nat) (h : Heap) : Prop := Pt Try.prog Try.f47 R [false, false, true, true, true, true] (mkFr [(1, (Value.slice A1 n1 c1)), (2, (Value.pointer (some a2))), (6, (Value.slice A6 n6 c6)), (7, (Value.slice A7 n7 c7)), (8, (Value.slice A8 n8 c8))]) h
def f47.l1 (R : Value → Heap → Prop) (A1 : Option Addr) (n1 : Nat) (c1 : Nat) (a2 : Addr) (A6 : Option Addr) (n6 : Nat) (c6 : Nat) (A7 : Option Addr) (n7 : Nat) (c7 : Nat) (A8 : Option Addr) (n8 : Nat) (c8 : Nat) (A9 : Option Addr) (n9 : Nat) (c9 : Nat) (A25 : Option Addr) (n25 : Nat) (c25 : Nat) (x26 : Int) (x27 : Int) (h : Heap) : Prop := Pt Try.prog Try.f47 R [false, false, true, false, true, false, false, false, true, true, true, true] (mkFr [(1, (Value.slice A1 n1 c1)), (2, (Value.pointer (some a2))), (6, (Value.slice A6 n6 c6)), (7, (Value.slice A7 n7 c7)), (8, (Value.slice A8 n8 c8)), (9, (Value.slice A9 n9 c9)), (25, (Value.slice A25 n25 c25)), (26, (Value.int .i64 x26)), (27, (Value.int .i64 x27))]) h
def f47.j1 (R : Value → Heap → Prop) (A1 : Option Addr) (n1 : Nat) (c1 : Nat) (a2 : Addr) (A6 : Option Addr) (n6 : Nat) (c6 : Nat) (A7 : Option Addr) (n7 : Nat) (c7 : Nat) (A8 : Option Addr) (n8 : Nat) (c8 : Nat) (A9 : Option Addr) (n9 : Nat) (c9 : Nat) (x10 : Int) (A25 : Option Addr) (n25 : Nat) (c25 : Nat) (x26 : Int) (x27 : Int) (b88 : Bool) (h : Heap) : Prop := Pt Try.prog Try.f47 R [true, true, true, false, false, true, true, false, false, true, false, true, false, false, false, true, true, true, true] (mkFr [(1, (Value.slice A1 n1 c1)), (2, (Value.pointer (some a2))), (6, (Value.slice A6 n6 c6)), (7, (Value.slice A7 n7 c7)), (8, (Value.slice A8 n8 c8)), (9, (Value.slice A9 n9 c9)), (10, (Value.int .i64 x10)), (25, (Value.slice A25 n25 c25)), (26, (Value.int .i64 x26)), (27, (Value.int .i64 x27)), (88, (Value.bool b88))]) h
def f47.j0 (R : Value → Heap → Prop) (A1 : Option Addr) (n1 : Nat) (c1 : Nat) (a2 : Addr) (A6 : Option Addr) (n6 : Nat) (c6 : Nat) (A7 : Option Addr) (n7 : Nat) (c7 : Nat) (A8 : Option Addr) (n8 : Nat) (c8 : Nat) (A9 : Option Addr) (n9 : Nat) (c9 : Nat) (x14 : Int) (h : Heap) : Prop := Pt Try.prog Try.f47 R [true, true, true, true, true, false, false, false, true, true, true, true] (mkFr [(1, (Value.slice A1 n1 c1)), (2, (Value.pointer (some a2))), (6, (Value.slice A6 n6 c6)), (7, (Value.slice A7 n7 c7)), (8, (Value.slice A8 n8 c8)), (9, (Value.slice A9 n9 c9)), (14, (Value.int .i64 x14))]) h
def f47.l2 (R : Value → Heap → Prop) (A1 : Option Addr) (n1 : Nat) (c1 : Nat) (a2 : Addr) (A6 : Option Addr) (n6 : Nat) (c6 : Nat) (A7 : Option Addr) (n7 : Nat) (c7 : Nat) (A8 : Option Addr) (n8 : Nat) (c8 : Nat) (A9 : Option Addr) (n9 : Nat) (c9 : Nat) (x14 : Int) (v120 : Value) (x121 : Int) (h : Heap) : Prop := Pt Try.prog Try.f47 R [false, false, true, false, true, true, true, true, true, false, false, false, true, true, true, true] (mkFr [(1, (Value.slice A1 n1 c1)), (2, (Value.pointer (some a2))), (6, (Value.slice A6 n6 c6)), (7, (Value.slice A7 n7 c7)), (8, (Value.slice A8 n8 c8)), (9, (Value.slice A9 n9 c9)), (14, (Value.int .i64 x14)), (120, v120), (121, (Value.int .i64 x121))]) h
set_option maxRecDepth 100000 in
def f47.l0T (R : Value → Heap → Prop) (A1 : Option Addr) (n1 : Nat) (c1 : Nat) (a2 : Addr) (A6 : Option Addr) (n6 : Nat) (c6 : Nat) (A7 : Option Addr) (n7 : Nat) (c7 : Nat) (A8 : Option Addr) (n8 : Nat) (c8 : Nat) (h : Heap) : Prop :=
  ∃ v1_, ldv false 1 h a2 = some v1_ ∧ ∃ A2_, ∃ n2_, ∃ c2_, v1_ = (Value.slice A2_ n2_ c2_) ∧ f47.l1 R A1 n1 c1 a2 A6 n6 c6 A7 n7 c7 A8 n8 c8 none 0 0 A2_ n2_ c2_ ((n2_ : Nat) : Int) (0 : Int) h
set_option maxRecDepth 100000 in
theorem f47.l0_in {R : Value → Heap → Prop} {A1 : Option Addr} {n1 : Nat} {c1 : Nat} {a2 : Addr} {A6 : Option Addr} {n6 : Nat} {c6 : Nat} {A7 : Option Addr} {n7 : Nat} {c7 : Nat} {A8 : Option Addr} {n8 : Nat} {c8 : Nat} {h : Heap} (H : f47.l0T R A1 n1 c1 a2 A6 n6 c6 A7 n7 c7 A8 n8 c8 h) : f47.l0 R A1 n1 c1 a2 A6 n6 c6 A7 n7 c7 A8 n8 c8 h :=
  pt_intro mixed f47.good (Eq.mpr (show (Fwd Try.prog f47.T f47.kp Try.f47 R [false, false, true, true, true, true] (mkFr [(1, (Value.slice A1 n1 c1)), (2, (Value.pointer (some a2))), (6, (Value.slice A6 n6 c6)), (7, (Value.slice A7 n7 c7)), (8, (Value.slice A8 n8 c8))]) h) = (f47.l0T R A1 n1 c1 a2 A6 n6 c6 A7 n7 c7 A8 n8 c8 h) by kernel_rfl) H)
set_option maxRecDepth 100000 in
def f47.l1T (R : Value → Heap → Prop) (A1 : Option Addr) (n1 : Nat) (c1 : Nat) (a2 : Addr) (A6 : Option Addr) (n6 : Nat) (c6 : Nat) (A7 : Option Addr) (n7 : Nat) (c7 : Nat) (A8 : Option Addr) (n8 : Nat) (c8 : Nat) (A9 : Option Addr) (n9 : Nat) (c9 : Nat) (A25 : Option Addr) (n25 : Nat) (c25 : Nat) (x26 : Int) (x27 : Int) (h : Heap) : Prop :=
  splitB (decide (x27 < x26)) (ptrOk A25 fun a1_ => 0 ≤ x27 ∧ x27 < ((n25 : Nat) : Int) ∧ (∃ v2_, ldv true 2 h (Addr.add a1_ (Int.toNat x27 * 2)) = some v2_ ∧ newH h (Obj.cells #[(Value.int .i64 (0 : Int)), (Value.int .i64 (0 : Int))] 67) fun h3_ => ∃ l5_ : List Value, v2_ = Value.agg l5_.toArray ∧ l5_.length = 2 ∧ ∃ h4_, stH h3_ (⟨Array.size h, 0, none⟩) l5_ 0 = some h4_ ∧ 0 ≤ (0 : Int) ∧ (0 : Int) < ((2 : Nat) : Int) ∧ (0 ≤ (1 : Int) ∧ (1 : Int) < ((2 : Nat) : Int) ∧ (∃ v6_, ldv false 1 h4_ (Addr.add (⟨Array.size h, 0, none⟩) (Int.toNat (0 : Int) * 1)) = some v6_ ∧ ∃ x7_, v6_ = (Value.int .i64 x7_) ∧ ptrOk A6 fun a8_ => 0 ≤ x7_ ∧ x7_ < ((n6 : Nat) : Int) ∧ (∃ v9_, ldv false 1 h4_ (Addr.add a8_ (Int.toNat x7_ * 1)) = some v9_ ∧ ∃ A10_, ∃ n10_, ∃ c10_, v9_ = (Value.slice A10_ n10_ c10_) ∧ ∃ v11_, ldv false 1 h4_ (Addr.add (⟨Array.size h, 0, none⟩) (Int.toNat (1 : Int) * 1)) = some v11_ ∧ ∃ x12_, v11_ = (Value.int .i64 x12_) ∧ ptrOk A6 fun a13_ => 0 ≤ x12_ ∧ x12_ < ((n6 : Nat) : Int) ∧ (∃ v14_, ldv false 1 h4_ (Addr.add a13_ (Int.toNat x12_ * 1)) = some v14_ ∧ ∃ A15_, ∃ n15_, ∃ c15_, v14_ = (Value.slice A15_ n15_ c15_) ∧ splitB (decide (((n10_ : Nat) : Int) > (0 : Int))) (splitB (decide (((n15_ : Nat) : Int) > (0 : Int))) (ptrOk A10_ fun a16_ => 0 ≤ (0 : Int) ∧ (0 : Int) < ((n10_ : Nat) : Int) ∧ (0 ≤ (0 : Int) ∧ (0 : Int) < ((3 : Nat) : Int) ∧ (∃ v17_, ldv false 1 h4_ (Addr.add (Addr.add a16_ (Int.toNat (0 : Int) * 3)) (Int.toNat (0 : Int) * 1)) = some v17_ ∧ ∃ x18_, v17_ = (Value.int .i64 x18_) ∧ splitB (x18_ == x27) (ptrOk A15_ fun a19_ => 0 ≤ (0 : Int) ∧ (0 : Int) < ((n15_ : Nat) : Int) ∧ (0 ≤ (0 : Int) ∧ (0 : Int) < ((3 : Nat) : Int) ∧ (∃ v20_, ldv false 1 h4_ (Addr.add (Addr.add a19_ (Int.toNat (0 : Int) * 3)) (Int.toNat (0 : Int) * 1)) = some v20_ ∧ ∃ x21_, v20_ = (Value.int .i64 x21_) ∧ splitB (x21_ == x27) (ptrOk A10_ fun a22_ => 0 ≤ (0 : Int) ∧ (0 : Int) < ((n10_ : Nat) : Int) ∧ (0 ≤ (2 : Int) ∧ (2 : Int) < ((3 : Nat) : Int) ∧ (ptrOk A15_ fun a23_ => 0 ≤ (0 : Int) ∧ (0 : Int) < ((n15_ : Nat) : Int) ∧ (0 ≤ (2 : Int) ∧ (2 : Int) < ((3 : Nat) : Int) ∧ (∃ v24_, ldv false 1 h4_ (Addr.add (Addr.add a22_ (Int.toNat (0 : Int) * 3)) (Int.toNat (2 : Int) * 1)) = some v24_ ∧ ∃ x25_, v24_ = (Value.int .i64 x25_) ∧ ∃ v26_, ldv false 1 h4_ (Addr.add (Addr.add a23_ (Int.toNat (0 : Int) * 3)) (Int.toNat (2 : Int) * 1)) = some v26_ ∧ ∃ x27_, v26_ = (Value.int .i64 x27_) ∧ splitB (x25_ == x27_) (ptrOk A10_ fun a28_ => 0 ≤ (0 : Int) ∧ (0 : Int) < ((n10_ : Nat) : Int) ∧ (0 ≤ (1 : Int) ∧ (1 : Int) < ((3 : Nat) : Int) ∧ (ptrOk A15_ fun a29_ => 0 ≤ (0 : Int) ∧ (0 : Int) < ((n15_ : Nat) : Int) ∧ (0 ≤ (1 : Int) ∧ (1 : Int) < ((3 : Nat) : Int) ∧ (∃ v30_, ldv false 1 h4_ (Addr.add (Addr.add a28_ (Int.toNat (0 : Int) * 3)) (Int.toNat (1 : Int) * 1)) = some v30_ ∧ ∃ x31_, v30_ = (Value.int .i64 x31_) ∧ ∃ v32_, ldv false 1 h4_ (Addr.add (Addr.add a29_ (Int.toNat (0 : Int) * 3)) (Int.toNat (1 : Int) * 1)) = some v32_ ∧ ∃ x33_, v32_ = (Value.int .i64 x33_) ∧ f47.j1 R A1 n1 c1 a2 A6 n6 c6 A7 n7 c7 A8 n8 c8 A9 n9 c9 x27 A25 n25 c25 x26 x27 ((IntKind.wrap .i64 (x31_ + x33_)) == (1 : Int)) h4_))))) (f47.j1 R A1 n1 c1 a2 A6 n6 c6 A7 n7 c7 A8 n8 c8 A9 n9 c9 x27 A25 n25 c25 x26 x27 false h4_)))))) (f47.j1 R A1 n1 c1 a2 A6 n6 c6 A7 n7 c7 A8 n8 c8 A9 n9 c9 x27 A25 n25 c25 x26 x27 false h4_)))) (f47.j1 R A1 n1 c1 a2 A6 n6 c6 A7 n7 c7 A8 n8 c8 A9 n9 c9 x27 A25 n25 c25 x26 x27 false h4_)))) (f47.j1 R A1 n1 c1 a2 A6 n6 c6 A7 n7 c7 A8 n8 c8 A9 n9 c9 x27 A25 n25 c25 x26 x27 false h4_)) (f47.j1 R A1 n1 c1 a2 A6 n6 c6 A7 n7 c7 A8 n8 c8 A9 n9 c9 x27 A25 n25 c25 x26 x27 false h4_))))))) (splitB (((n9 : Nat) : Int) == (0 : Int)) (R (Value.tuple #[(Value.slice A8 n8 c8), (Value.slice A7 n7 c7)]) h) (splitB (decide (((n1 : Nat) : Int) > (0 : Int))) (ptrOk A1 fun a34_ => 0 ≤ (0 : Int) ∧ (0 : Int) < ((n1 : Nat) : Int) ∧ (∃ v35_, ldv false 1 h (Addr.add a34_ (Int.toNat (0 : Int) * 1)) = some v35_ ∧ ∃ x36_, v35_ = (Value.int .i64 x36_) ∧ (IntKind.wrap .u64 ((n9 : Nat) : Int)) ≠ 0 ∧ (0 ≤ (1 : Int) ∧ (1 : Int) ≤ ((n1 : Nat) : Int) ∧ ((n1 : Nat) : Int) ≤ ((c1 : Nat) : Int) ∧ (f47.j0 R (sliceA A1 (Int.toNat (1 : Int)) c1 1) (Int.toNat ((n1 : Nat) : Int) - Int.toNat (1 : Int)) (c1 - Int.toNat (1 : Int)) a2 A6 n6 c6 A7 n7 c7 A8 n8 c8 A9 n9 c9 (IntKind.wrap .i64 (Int.tmod (IntKind.wrap .u64 x36_) (IntKind.wrap .u64 ((n9 : Nat) : Int)))) h)))) (f47.j0 R A1 n1 c1 a2 A6 n6 c6 A7 n7 c7 A8 n8 c8 A9 n9 c9 (0 : Int) h)))
set_option maxRecDepth 100000 in
theorem f47.l1_in {R : Value → Heap → Prop} {A1 : Option Addr} {n1 : Nat} {c1 : Nat} {a2 : Addr} {A6 : Option Addr} {n6 : Nat} {c6 : Nat} {A7 : Option Addr} {n7 : Nat} {c7 : Nat} {A8 : Option Addr} {n8 : Nat} {c8 : Nat} {A9 : Option Addr} {n9 : Nat} {c9 : Nat} {A25 : Option Addr} {n25 : Nat} {c25 : Nat} {x26 : Int} {x27 : Int} {h : Heap} (H : f47.l1T R A1 n1 c1 a2 A6 n6 c6 A7 n7 c7 A8 n8 c8 A9 n9 c9 A25 n25 c25 x26 x27 h) : f47.l1 R A1 n1 c1 a2 A6 n6 c6 A7 n7 c7 A8 n8 c8 A9 n9 c9 A25 n25 c25 x26 x27 h :=
  pt_intro mixed f47.good (Eq.mpr (show (Fwd Try.prog f47.T f47.kp Try.f47 R [false, false, true, false, true, false, false, false, true, true, true, true] (mkFr [(1, (Value.slice A1 n1 c1)), (2, (Value.pointer (some a2))), (6, (Value.slice A6 n6 c6)), (7, (Value.slice A7 n7 c7)), (8, (Value.slice A8 n8 c8)), (9, (Value.slice A9 n9 c9)), (25, (Value.slice A25 n25 c25)), (26, (Value.int .i64 x26)), (27, (Value.int .i64 x27))]) h) = (f47.l1T R A1 n1 c1 a2 A6 n6 c6 A7 n7 c7 A8 n8 c8 A9 n9 c9 A25 n25 c25 x26 x27 h) by kernel_rfl) H)
set_option maxRecDepth 100000 in
def f47.j1T (R : Value → Heap → Prop) (A1 : Option Addr) (n1 : Nat) (c1 : Nat) (a2 : Addr) (A6 : Option Addr) (n6 : Nat) (c6 : Nat) (A7 : Option Addr) (n7 : Nat) (c7 : Nat) (A8 : Option Addr) (n8 : Nat) (c8 : Nat) (A9 : Option Addr) (n9 : Nat) (c9 : Nat) (x10 : Int) (A25 : Option Addr) (n25 : Nat) (c25 : Nat) (x26 : Int) (x27 : Int) (b88 : Bool) (h : Heap) : Prop :=
  splitB b88 (newH h (Obj.cells #[(Value.int .i64 x10)] 3) fun h1_ => AppW 3 1 8 #[(Value.int .i64 (0 : Int))] A9 n9 c9 (Value.slice (some ⟨Array.size h, 0, none⟩) 1 1) h1_ fun v2_ h3_ => ∃ A4_, ∃ n4_, ∃ c4_, v2_ = (Value.slice A4_ n4_ c4_) ∧ f47.l1 R A1 n1 c1 a2 A6 n6 c6 A7 n7 c7 A8 n8 c8 A4_ n4_ c4_ A25 n25 c25 x26 (IntKind.wrap .i64 (x27 + (1 : Int))) h3_) (f47.l1 R A1 n1 c1 a2 A6 n6 c6 A7 n7 c7 A8 n8 c8 A9 n9 c9 A25 n25 c25 x26 (IntKind.wrap .i64 (x27 + (1 : Int))) h)
set_option maxRecDepth 100000 in
theorem f47.j1_in {R : Value → Heap → Prop} {A1 : Option Addr} {n1 : Nat} {c1 : Nat} {a2 : Addr} {A6 : Option Addr} {n6 : Nat} {c6 : Nat} {A7 : Option Addr} {n7 : Nat} {c7 : Nat} {A8 : Option Addr} {n8 : Nat} {c8 : Nat} {A9 : Option Addr} {n9 : Nat} {c9 : Nat} {x10 : Int} {A25 : Option Addr} {n25 : Nat} {c25 : Nat} {x26 : Int} {x27 : Int} {b88 : Bool} {h : Heap} (H : f47.j1T R A1 n1 c1 a2 A6 n6 c6 A7 n7 c7 A8 n8 c8 A9 n9 c9 x10 A25 n25 c25 x26 x27 b88 h) : f47.j1 R A1 n1 c1 a2 A6 n6 c6 A7 n7 c7 A8 n8 c8 A9 n9 c9 x10 A25 n25 c25 x26 x27 b88 h :=
  pt_intro mixed f47.good (Eq.mpr (show (Fwd Try.prog f47.T f47.kp Try.f47 R [true, true, true, false, false, true, true, false, false, true, false, true, false, false, false, true, true, true, true] (mkFr [(1, (Value.slice A1 n1 c1)), (2, (Value.pointer (some a2))), (6, (Value.slice A6 n6 c6)), (7, (Value.slice A7 n7 c7)), (8, (Value.slice A8 n8 c8)), (9, (Value.slice A9 n9 c9)), (10, (Value.int .i64 x10)), (25, (Value.slice A25 n25 c25)), (26, (Value.int .i64 x26)), (27, (Value.int .i64 x27)), (88, (Value.bool b88))]) h) = (f47.j1T R A1 n1 c1 a2 A6 n6 c6 A7 n7 c7 A8 n8 c8 A9 n9 c9 x10 A25 n25 c25 x26 x27 b88 h) by kernel_rfl) H)
set_option maxRecDepth 100000 in
def f47.j0T (R : Value → Heap → Prop) (A1 : Option Addr) (n1 : Nat) (c1 : Nat) (a2 : Addr) (A6 : Option Addr) (n6 : Nat) (c6 : Nat) (A7 : Option Addr) (n7 : Nat) (c7 : Nat) (A8 : Option Addr) (n8 : Nat) (c8 : Nat) (A9 : Option Addr) (n9 : Nat) (c9 : Nat) (x14 : Int) (h : Heap) : Prop :=
  ptrOk A9 fun a1_ => 0 ≤ x14 ∧ x14 < ((n9 : Nat) : Int) ∧ (∃ v2_, ldv false 1 h a2 = some v2_ ∧ ∃ A3_, ∃ n3_, ∃ c3_, v2_ = (Value.slice A3_ n3_ c3_) ∧ ∃ v4_, ldv false 1 h (Addr.add a1_ (Int.toNat x14 * 1)) = some v4_ ∧ ∃ x5_, v4_ = (Value.int .i64 x5_) ∧ ptrOk A3_ fun a6_ => 0 ≤ x5_ ∧ x5_ < ((n3_ : Nat) : Int) ∧ (∃ v7_, ldv true 2 h (Addr.add a6_ (Int.toNat x5_ * 2)) = some v7_ ∧ f47.l2 R A1 n1 c1 a2 A6 n6 c6 A7 n7 c7 A8 n8 c8 A9 n9 c9 x14 v7_ (0 : Int) h))
set_option maxRecDepth 100000 in
theorem f47.j0_in {R : Value → Heap → Prop} {A1 : Option Addr} {n1 : Nat} {c1 : Nat} {a2 : Addr} {A6 : Option Addr} {n6 : Nat} {c6 : Nat} {A7 : Option Addr} {n7 : Nat} {c7 : Nat} {A8 : Option Addr} {n8 : Nat} {c8 : Nat} {A9 : Option Addr} {n9 : Nat} {c9 : Nat} {x14 : Int} {h : Heap} (H : f47.j0T R A1 n1 c1 a2 A6 n6 c6 A7 n7 c7 A8 n8 c8 A9 n9 c9 x14 h) : f47.j0 R A1 n1 c1 a2 A6 n6 c6 A7 n7 c7 A8 n8 c8 A9 n9 c9 x14 h :=
  pt_intro mixed f47.good (Eq.mpr (show (Fwd Try.prog f47.T f47.kp Try.f47 R [true, true, true, true, true, false, false, false, true, true, true, true] (mkFr [(1, (Value.slice A1 n1 c1)), (2, (Value.pointer (some a2))), (6, (Value.slice A6 n6 c6)), (7, (Value.slice A7 n7 c7)), (8, (Value.slice A8 n8 c8)), (9, (Value.slice A9 n9 c9)), (14, (Value.int .i64 x14))]) h) = (f47.j0T R A1 n1 c1 a2 A6 n6 c6 A7 n7 c7 A8 n8 c8 A9 n9 c9 x14 h) by kernel_rfl) H)
set_option maxRecDepth 100000 in
def f47.l2T (R : Value → Heap → Prop) (A1 : Option Addr) (n1 : Nat) (c1 : Nat) (a2 : Addr) (A6 : Option Addr) (n6 : Nat) (c6 : Nat) (A7 : Option Addr) (n7 : Nat) (c7 : Nat) (A8 : Option Addr) (n8 : Nat) (c8 : Nat) (A9 : Option Addr) (n9 : Nat) (c9 : Nat) (x14 : Int) (v120 : Value) (x121 : Int) (h : Heap) : Prop :=
  splitB (decide (x121 < (2 : Int))) (0 ≤ x121 ∧ x121 < ((2 : Nat) : Int) ∧ ∃ v1_, fldv false 1 (Int.toNat x121 * 1) v120 = some v1_ ∧ (∃ x2_, v1_ = (Value.int .i64 x2_) ∧ ptrOk A6 fun a3_ => 0 ≤ x2_ ∧ x2_ < ((n6 : Nat) : Int) ∧ (∃ v4_, ldv false 1 h (Addr.add a3_ (Int.toNat x2_ * 1)) = some v4_ ∧ ∃ A5_, ∃ n5_, ∃ c5_, v4_ = (Value.slice A5_ n5_ c5_) ∧ 0 ≤ (1 : Int) ∧ (1 : Int) ≤ ((n5_ : Nat) : Int) ∧ ((n5_ : Nat) : Int) ≤ ((c5_ : Nat) : Int) ∧ (ptrOk A6 fun a6_ => 0 ≤ x2_ ∧ x2_ < ((n6 : Nat) : Int) ∧ (∃ h7_, st1 h (Addr.add a6_ (Int.toNat x2_ * 1)) (Value.slice (sliceA A5_ (Int.toNat (1 : Int)) c5_ 3) (Int.toNat ((n5_ : Nat) : Int) - Int.toNat (1 : Int)) (c5_ - Int.toNat (1 : Int))) = some h7_ ∧ ptrOk A7 fun a8_ => 0 ≤ x2_ ∧ x2_ < ((n7 : Nat) : Int) ∧ (∃ v9_, ldv false 1 h7_ (Addr.add a8_ (Int.toNat x2_ * 1)) = some v9_ ∧ ∃ x10_, v9_ = (Value.int .i64 x10_) ∧ ptrOk A7 fun a11_ => 0 ≤ x2_ ∧ x2_ < ((n7 : Nat) : Int) ∧ (∃ h12_, st1 h7_ (Addr.add a11_ (Int.toNat x2_ * 1)) (Value.int .i64 (IntKind.wrap .i64 (x10_ + (1 : Int)))) = some h12_ ∧ f47.l2 R A1 n1 c1 a2 A6 n6 c6 A7 n7 c7 A8 n8 c8 A9 n9 c9 x14 v120 (IntKind.wrap .i64 (x121 + (1 : Int))) h12_))))))) (ptrOk A9 fun a13_ => 0 ≤ x14 ∧ x14 < ((n9 : Nat) : Int) ∧ (∃ v14_, ldv false 1 h (Addr.add a13_ (Int.toNat x14 * 1)) = some v14_ ∧ ∃ x15_, v14_ = (Value.int .i64 x15_) ∧ newH h (Obj.cells #[(Value.int .i64 x15_)] 3) fun h16_ => AppW 3 1 8 #[(Value.int .i64 (0 : Int))] A8 n8 c8 (Value.slice (some ⟨Array.size h, 0, none⟩) 1 1) h16_ fun v17_ h18_ => ∃ A19_, ∃ n19_, ∃ c19_, v17_ = (Value.slice A19_ n19_ c19_) ∧ f47.l0 R A1 n1 c1 a2 A6 n6 c6 A7 n7 c7 A19_ n19_ c19_ h18_))
set_option maxRecDepth 100000 in
theorem f47.l2_in {R : Value → Heap → Prop} {A1 : Option Addr} {n1 : Nat} {c1 : Nat} {a2 : Addr} {A6 : Option Addr} {n6 : Nat} {c6 : Nat} {A7 : Option Addr} {n7 : Nat} {c7 : Nat} {A8 : Option Addr} {n8 : Nat} {c8 : Nat} {A9 : Option Addr} {n9 : Nat} {c9 : Nat} {x14 : Int} {v120 : Value} {x121 : Int} {h : Heap} (H : f47.l2T R A1 n1 c1 a2 A6 n6 c6 A7 n7 c7 A8 n8 c8 A9 n9 c9 x14 v120 x121 h) : f47.l2 R A1 n1 c1 a2 A6 n6 c6 A7 n7 c7 A8 n8 c8 A9 n9 c9 x14 v120 x121 h :=
  pt_intro mixed f47.good (Eq.mpr (show (Fwd Try.prog f47.T f47.kp Try.f47 R [false, false, true, false, true, true, true, true, true, false, false, false, true, true, true, true] (mkFr [(1, (Value.slice A1 n1 c1)), (2, (Value.pointer (some a2))), (6, (Value.slice A6 n6 c6)), (7, (Value.slice A7 n7 c7)), (8, (Value.slice A8 n8 c8)), (9, (Value.slice A9 n9 c9)), (14, (Value.int .i64 x14)), (120, v120), (121, (Value.int .i64 x121))]) h) = (f47.l2T R A1 n1 c1 a2 A6 n6 c6 A7 n7 c7 A8 n8 c8 A9 n9 c9 x14 v120 x121 h) by kernel_rfl) H)
set_option maxRecDepth 100000 in
def f47.runT (R : Value → Heap → Prop) (v0 : Value) (A1 : Option Addr) (n1 : Nat) (c1 : Nat) (h : Heap) : Prop :=
  newH h (Obj.cells ((v0).cells) 87) fun h1_ => ∃ v2_, ldv false 1 h1_ (Addr.add (⟨Array.size h, 0, none⟩) 1) = some v2_ ∧ ∃ A3_, ∃ n3_, ∃ c3_, v2_ = (Value.slice A3_ n3_ c3_) ∧ Run Try.prog 79 #[(Value.slice A3_ n3_ c3_)] h1_ fun v4_ h5_ => ∃ A6_, ∃ n6_, ∃ c6_, v4_ = (Value.slice A6_ n6_ c6_) ∧ ∃ v7_, ldv false 1 h5_ (Addr.add (⟨Array.size h, 0, none⟩) 1) = some v7_ ∧ ∃ A8_, ∃ n8_, ∃ c8_, v7_ = (Value.slice A8_ n8_ c8_) ∧ 0 ≤ ((n8_ : Nat) : Int) ∧ ((n8_ : Nat) : Int) ≤ ((n8_ : Nat) : Int) ∧ ((n8_ : Nat) : Int) * 8 ≤ 140737488355328 ∧ ((n8_ : Nat) : Int) ≤ 9223372036854775807 ∧ (newH h5_ (Obj.cells (mkCells #[(Value.int .i64 (0 : Int))] (Int.toNat ((n8_ : Nat) : Int) * 1)) 3) fun h9_ => f47.l0 R A1 n1 c1 (⟨Array.size h, 0, none⟩) A6_ n6_ c6_ (some ⟨Array.size h5_, 0, none⟩) (Int.toNat ((n8_ : Nat) : Int)) (Int.toNat ((n8_ : Nat) : Int)) none 0 0 h9_)
set_option maxRecDepth 100000 in
theorem f47.run {R : Value → Heap → Prop} {v0 : Value} {A1 : Option Addr} {n1 : Nat} {c1 : Nat} {h : Heap} (H : f47.runT R v0 A1 n1 c1 h) : Run Try.prog 47 #[v0, (Value.slice A1 n1 c1)] h R :=
  run_of mixed Try.func47 (by kernel_rfl) (by kernel_rfl) f47.good (Eq.mpr (show (Fwd Try.prog f47.T f47.kp Try.f47 R [] (mkFr (argL [v0, (Value.slice A1 n1 c1)] 0)) h) = (f47.runT R v0 A1 n1 c1 h) by kernel_rfl) H)
def f48.T : Tab := { sh := tSh, tup := tTup, keep := [], plan := [(12, (.take 0 (.take 2 (.take 4 (.take 7 (.take 1 (.take 3 (.take 5 (.take 6 (.take 8 (.take 9 (.take 10 (.take 11 (.take 12 (.eff false true 13 (.eff false false 14 .done))))))))))))))))] }
def f48.kp : Keep := [([false, false, true, false, true, true, true, true], [2, 6, 7, 18, 19, 20]), ([true, true, false, false, true, true, false, false, true, false, true, true, true, true], [2, 6, 7, 8, 9, 18, 19, 20]), ([true, true, true, true, false, false, true, true, false, false, true, false, true, true, true, true], [2, 6, 7, 10, 18, 19, 20])]
theorem f48.good : goodCode Try.prog f48.T (rootOf Try.f48) = true := by kernel_rfl
def f48.l0 (R : Value → Heap → Prop) (a2 : Addr) (A6 : Option Addr) (n6 : Nat) (c6 : Nat) (b7 : Bool) (A18 : Option Addr) (n18 : Nat) (c18 : Nat) (x19 : Int) (x20 : Int) (h : Heap) : Prop := Pt Try.prog Try.f48 R [false, false, true, false, true, true, true, true] (mkFr [(2, (Value.pointer (some a2))), (6, (Value.slice A6 n6 c6)), (7, (Value.bool b7)), (18, (Value.slice A18 n18 c18)), (19, (Value.int .i64 x19)), (20, (Value.int .i64 x20))]) h
def f48.j0 (R : Value → Heap → Prop) (a2 : Addr) (A6 : Option Addr) (n6 : Nat) (c6 : Nat) (b7 : Bool) (x8 : Int) (x9 : Int) (A18 : Option Addr) (n18 : Nat) (c18 : Nat) (x19 : Int) (x20 : Int) (h : Heap) : Prop := Pt Try.prog Try.f48 R [true, true, false, false, true, true, false, false, true, false, true, true, true, true] (mkFr [(2, (Value.pointer (some a2))), (6, (Value.slice A6 n6 c6)), (7, (Value.bool b7)), (8, (Value.int .i64 x8)), (9, (Value.int .i64 x9)), (18, (Value.slice A18 n18 c18)), (19, (Value.int .i64 x19)), (20, (Value.int .i64 x20))]) h
def f48.j1 (R : Value → Heap → Prop) (a2 : Addr) (A6 : Option Addr) (n6 : Nat) (c6 : Nat) (b7 : Bool) (x10 : Int) (A18 : Option Addr) (n18 : Nat) (c18 : Nat) (x19 : Int) (x20 : Int) (h : Heap) : Prop := Pt Try.prog Try.f48 R [true, true, true, true, false, false, true, true, false, false, true, false, true, true, true, true] (mkFr [(2, (Value.pointer (some a2))), (6, (Value.slice A6 n6 c6)), (7, (Value.bool b7)), (10, (Value.int .i64 x10)), (18, (Value.slice A18 n18 c18)), (19, (Value.int .i64 x19)), (20, (Value.int .i64 x20))]) h
set_option maxRecDepth 100000 in
def f48.l0T (R : Value → Heap → Prop) (a2 : Addr) (A6 : Option Addr) (n6 : Nat) (c6 : Nat) (b7 : Bool) (A18 : Option Addr) (n18 : Nat) (c18 : Nat) (x19 : Int) (x20 : Int) (h : Heap) : Prop :=
  splitB (decide (x20 < x19)) (ptrOk A18 fun a1_ => 0 ≤ x20 ∧ x20 < ((n18 : Nat) : Int) ∧ (∃ v2_, ldv false 1 h (Addr.add a1_ (Int.toNat x20 * 1)) = some v2_ ∧ ∃ x3_, v2_ = (Value.int .i64 x3_) ∧ splitB (decide (x3_ < (0 : Int))) (f48.l0 R a2 A6 n6 c6 true A18 n18 c18 x19 (IntKind.wrap .i64 (x20 + (1 : Int))) h) (∃ v4_, ldv false 1 h (Addr.add a2 1) = some v4_ ∧ ∃ A5_, ∃ n5_, ∃ c5_, v4_ = (Value.slice A5_ n5_ c5_) ∧ ptrOk A5_ fun a6_ => 0 ≤ x20 ∧ x20 < ((n5_ : Nat) : Int) ∧ (∃ v7_, ldv false 1 h (Addr.add a6_ (Int.toNat x20 * 1)) = some v7_ ∧ ∃ A8_, ∃ n8_, ∃ c8_, v7_ = (Value.slice A8_ n8_ c8_) ∧ splitB (decide (x3_ > ((n8_ : Nat) : Int))) (f48.l0 R a2 A6 n6 c6 true A18 n18 c18 x19 (IntKind.wrap .i64 (x20 + (1 : Int))) h) (f48.j0 R a2 A6 n6 c6 b7 x20 x3_ A18 n18 c18 x19 x20 h))))) (splitB b7 (R (Value.tuple #[(Value.slice none 0 0), (Value.int .i64 (1 : Int))]) h) (R (Value.tuple #[(Value.slice A6 n6 c6), (Value.int .i64 (0 : Int))]) h))
set_option maxRecDepth 100000 in
theorem f48.l0_in {R : Value → Heap → Prop} {a2 : Addr} {A6 : Option Addr} {n6 : Nat} {c6 : Nat} {b7 : Bool} {A18 : Option Addr} {n18 : Nat} {c18 : Nat} {x19 : Int} {x20 : Int} {h : Heap} (H : f48.l0T R a2 A6 n6 c6 b7 A18 n18 c18 x19 x20 h) : f48.l0 R a2 A6 n6 c6 b7 A18 n18 c18 x19 x20 h :=
  pt_intro mixed f48.good (Eq.mpr (show (Fwd Try.prog f48.T f48.kp Try.f48 R [false, false, true, false, true, true, true, true] (mkFr [(2, (Value.pointer (some a2))), (6, (Value.slice A6 n6 c6)), (7, (Value.bool b7)), (18, (Value.slice A18 n18 c18)), (19, (Value.int .i64 x19)), (20, (Value.int .i64 x20))]) h) = (f48.l0T R a2 A6 n6 c6 b7 A18 n18 c18 x19 x20 h) by kernel_rfl) H)
set_option maxRecDepth 100000 in
def f48.j0T (R : Value → Heap → Prop) (a2 : Addr) (A6 : Option Addr) (n6 : Nat) (c6 : Nat) (b7 : Bool) (x8 : Int) (x9 : Int) (A18 : Option Addr) (n18 : Nat) (c18 : Nat) (x19 : Int) (x20 : Int) (h : Heap) : Prop :=
  ∃ v1_, ldv false 1 h (Addr.add a2 1) = some v1_ ∧ ∃ A2_, ∃ n2_, ∃ c2_, v1_ = (Value.slice A2_ n2_ c2_) ∧ ptrOk A2_ fun a3_ => 0 ≤ x8 ∧ x8 < ((n2_ : Nat) : Int) ∧ (∃ v4_, ldv false 1 h (Addr.add a3_ (Int.toNat x8 * 1)) = some v4_ ∧ ∃ A5_, ∃ n5_, ∃ c5_, v4_ = (Value.slice A5_ n5_ c5_) ∧ splitB (decide (x9 < ((n5_ : Nat) : Int))) (∃ v6_, ldv false 1 h a2 = some v6_ ∧ ∃ A7_, ∃ n7_, ∃ c7_, v6_ = (Value.slice A7_ n7_ c7_) ∧ ∃ v8_, ldv false 1 h (Addr.add a2 1) = some v8_ ∧ ∃ A9_, ∃ n9_, ∃ c9_, v8_ = (Value.slice A9_ n9_ c9_) ∧ ptrOk A9_ fun a10_ => 0 ≤ x8 ∧ x8 < ((n9_ : Nat) : Int) ∧ (∃ v11_, ldv false 1 h (Addr.add a10_ (Int.toNat x8 * 1)) = some v11_ ∧ ∃ A12_, ∃ n12_, ∃ c12_, v11_ = (Value.slice A12_ n12_ c12_) ∧ ptrOk A12_ fun a13_ => 0 ≤ x9 ∧ x9 < ((n12_ : Nat) : Int) ∧ (0 ≤ (0 : Int) ∧ (0 : Int) < ((3 : Nat) : Int) ∧ (∃ v14_, ldv false 1 h (Addr.add (Addr.add a13_ (Int.toNat x9 * 3)) (Int.toNat (0 : Int) * 1)) = some v14_ ∧ ∃ x15_, v14_ = (Value.int .i64 x15_) ∧ ptrOk A7_ fun a16_ => 0 ≤ x15_ ∧ x15_ < ((n7_ : Nat) : Int) ∧ (∃ v17_, ldv true 2 h (Addr.add a16_ (Int.toNat x15_ * 2)) = some v17_ ∧ newH h (Obj.cells #[(Value.int .i64 (0 : Int)), (Value.int .i64 (0 : Int))] 67) fun h18_ => Ext h h18_ ∧ (∃ l20_ : List Value, v17_ = Value.agg l20_.toArray ∧ l20_.length = 2 ∧ ∃ h19_, stH h18_ (⟨Array.size h, 0, none⟩) l20_ 0 = some h19_ ∧ 0 ≤ (0 : Int) ∧ (0 : Int) < ((2 : Nat) : Int) ∧ (∃ v21_, ldv false 1 h19_ (Addr.add (⟨Array.size h, 0, none⟩) (Int.toNat (0 : Int) * 1)) = some v21_ ∧ ∃ x22_, v21_ = (Value.int .i64 x22_) ∧ splitB (x22_ == x8) (0 ≤ (1 : Int) ∧ (1 : Int) < ((2 : Nat) : Int) ∧ (∃ v23_, ldv false 1 h19_ (Addr.add (⟨Array.size h, 0, none⟩) (Int.toNat (1 : Int) * 1)) = some v23_ ∧ ∃ x24_, v23_ = (Value.int .i64 x24_) ∧ f48.j1 R a2 A6 n6 c6 b7 x24_ A18 n18 c18 x19 x20 h19_)) (f48.j1 R a2 A6 n6 c6 b7 x22_ A18 n18 c18 x19 x20 h19_)))))))) (f48.j1 R a2 A6 n6 c6 b7 (-1 : Int) A18 n18 c18 x19 x20 h))
set_option maxRecDepth 100000 in
theorem f48.j0_in {R : Value → Heap → Prop} {a2 : Addr} {A6 : Option Addr} {n6 : Nat} {c6 : Nat} {b7 : Bool} {x8 : Int} {x9 : Int} {A18 : Option Addr} {n18 : Nat} {c18 : Nat} {x19 : Int} {x20 : Int} {h : Heap} (H : f48.j0T R a2 A6 n6 c6 b7 x8 x9 A18 n18 c18 x19 x20 h) : f48.j0 R a2 A6 n6 c6 b7 x8 x9 A18 n18 c18 x19 x20 h :=
  pt_intro mixed f48.good (Eq.mpr (show (Fwd Try.prog f48.T f48.kp Try.f48 R [true, true, false, false, true, true, false, false, true, false, true, true, true, true] (mkFr [(2, (Value.pointer (some a2))), (6, (Value.slice A6 n6 c6)), (7, (Value.bool b7)), (8, (Value.int .i64 x8)), (9, (Value.int .i64 x9)), (18, (Value.slice A18 n18 c18)), (19, (Value.int .i64 x19)), (20, (Value.int .i64 x20))]) h) = (f48.j0T R a2 A6 n6 c6 b7 x8 x9 A18 n18 c18 x19 x20 h) by kernel_rfl) H)
set_option maxRecDepth 100000 in
def f48.j1T (R : Value → Heap → Prop) (a2 : Addr) (A6 : Option Addr) (n6 : Nat) (c6 : Nat) (b7 : Bool) (x10 : Int) (A18 : Option Addr) (n18 : Nat) (c18 : Nat) (x19 : Int) (x20 : Int) (h : Heap) : Prop :=
  newH h (Obj.cells #[(Value.int .i64 x10)] 3) fun h1_ => AppW 3 1 8 #[(Value.int .i64 (0 : Int))] A6 n6 c6 (Value.slice (some ⟨Array.size h, 0, none⟩) 1 1) h1_ fun v2_ h3_ => ∃ A4_, ∃ n4_, ∃ c4_, v2_ = (Value.slice A4_ n4_ c4_) ∧ f48.l0 R a2 A4_ n4_ c4_ b7 A18 n18 c18 x19 (IntKind.wrap .i64 (x20 + (1 : Int))) h3_
set_option maxRecDepth 100000 in
theorem f48.j1_in {R : Value → Heap → Prop} {a2 : Addr} {A6 : Option Addr} {n6 : Nat} {c6 : Nat} {b7 : Bool} {x10 : Int} {A18 : Option Addr} {n18 : Nat} {c18 : Nat} {x19 : Int} {x20 : Int} {h : Heap} (H : f48.j1T R a2 A6 n6 c6 b7 x10 A18 n18 c18 x19 x20 h) : f48.j1 R a2 A6 n6 c6 b7 x10 A18 n18 c18 x19 x20 h :=
  pt_intro mixed f48.good (Eq.mpr (show (Fwd Try.prog f48.T f48.kp Try.f48 R [true, true, true, true, false, false, true, true, false, false, true, false, true, true, true, true] (mkFr [(2, (Value.pointer (some a2))), (6, (Value.slice A6 n6 c6)), (7, (Value.bool b7)), (10, (Value.int .i64 x10)), (18, (Value.slice A18 n18 c18)), (19, (Value.int .i64 x19)), (20, (Value.int .i64 x20))]) h) = (f48.j1T R a2 A6 n6 c6 b7 x10 A18 n18 c18 x19 x20 h) by kernel_rfl) H)
set_option maxRecDepth 100000 in
def f48.runT (R : Value → Heap → Prop) (v0 : Value) (A1 : Option Addr) (n1 : Nat) (c1 : Nat) (h : Heap) : Prop :=
  newH h (Obj.cells ((v0).cells) 87) fun h1_ => ∃ v2_, ldv false 1 h1_ (Addr.add (⟨Array.size h, 0, none⟩) 1) = some v2_ ∧ ∃ A3_, ∃ n3_, ∃ c3_, v2_ = (Value.slice A3_ n3_ c3_) ∧ splitB (((n1 : Nat) : Int) != ((n3_ : Nat) : Int)) (R (Value.tuple #[(Value.slice none 0 0), (Value.int .i64 (3 : Int))]) h1_) (f48.l0 R (⟨Array.size h, 0, none⟩) none 0 0 false A1 n1 c1 ((n1 : Nat) : Int) (0 : Int) h1_)
set_option maxRecDepth 100000 in
theorem f48.run {R : Value → Heap → Prop} {v0 : Value} {A1 : Option Addr} {n1 : Nat} {c1 : Nat} {h : Heap} (H : f48.runT R v0 A1 n1 c1 h) : Run Try.prog 48 #[v0, (Value.slice A1 n1 c1)] h R :=
  run_of mixed Try.func48 (by kernel_rfl) (by kernel_rfl) f48.good (Eq.mpr (show (Fwd Try.prog f48.T f48.kp Try.f48 R [] (mkFr (argL [v0, (Value.slice A1 n1 c1)] 0)) h) = (f48.runT R v0 A1 n1 c1 h) by kernel_rfl) H)
def f6.T : Tab := { sh := tSh, tup := tTup, keep := [], plan := [] }
def f6.kp : Keep := [([false, false, true, false, true, true, true, true, true, true], [1, 2, 3, 7, 8, 9, 10, 11, 12, 13, 14, 15, 16, 56, 57, 58]), ([false, false, true, false, true, true, true, true, true, true, true], [1, 2, 3, 7, 8, 9, 10, 11, 12, 13, 14, 15, 16, 74, 75, 76]), ([false, false, true, false, true, true, false, false, true, true, false, false, true, false, true, true, true, true, true, true, true], [1, 2, 3, 7, 8, 9, 10, 11, 12, 13, 14, 15, 16, 21, 74, 75, 76, 80, 81, 82]), ([true, true, true, false, false, true, true, false, false, true, false, true, true, false, false, true, true, false, false, true, false, true, true, true, true, true, true, true], [1, 2, 3, 7, 8, 9, 10, 11, 12, 13, 14, 15, 16, 21, 23, 24, 74, 75, 76, 80, 81, 82]), ([true, true, true, true, true, true, true, true, true, true, true, true], [1, 2, 9, 10, 11, 12, 13, 14, 15, 16]), ([true, true, true, true, true, true, true, true, true, true, true, true, true], [1, 2, 11, 12, 13, 14, 15, 16]), ([true, true, true, true, true, true, true, true, true, true, true, true, true, true, true], [2, 14, 15, 16])]
theorem f6.good : goodCode Try.prog f6.T (rootOf Try.f6) = true := by kernel_rfl
def f6.l0 (R : Value → Heap → Prop) (A1 : Option Addr) (n1 : Nat) (c1 : Nat) (A2 : Option Addr) (n2 : Nat) (c2 : Nat) (a3 : Addr) (x7 : Int) (x8 : Int) (A9 : Option Addr) (n9 : Nat) (c9 : Nat) (x10 : Int) (A11 : Option Addr) (n11 : Nat) (c11 : Nat) (A12 : Option Addr) (n12 : Nat) (c12 : Nat) (x13 : Int) (A14 : Option Addr) (n14 : Nat) (c14 : Nat) (x15 : Int) (a16 : Addr) (A56 : Option Addr) (n56 : Nat) (c56 : Nat) (x57 : Int) (x58 : Int) (h : Heap) : Prop := Pt Try.prog Try.f6 R [false, false, true, false, true, true, true, true, true, true] (mkFr [(1, (Value.slice A1 n1 c1)), (2, (Value.slice A2 n2 c2)), (3, (Value.pointer (some a3))), (7, (Value.int .i64 x7)), (8, (Value.int .i64 x8)), (9, (Value.slice A9 n9 c9)), (10, (Value.int .i64 x10)), (11, (Value.slice A11 n11 c11)), (12, (Value.slice A12 n12 c12)), (13, (Value.int .i64 x13)), (14, (Value.slice A14 n14 c14)), (15, (Value.int .i64 x15)), (16, (Value.pointer (some a16))), (56, (Value.slice A56 n56 c56)), (57, (Value.int .i64 x57)), (58, (Value.int .i64 x58))]) h
def f6.l1 (R : Value → Heap → Prop) (A1 : Option Addr) (n1 : Nat) (c1 : Nat) (A2 : Option Addr) (n2 : Nat) (c2 : Nat) (a3 : Addr) (x7 : Int) (x8 : Int) (A9 : Option Addr) (n9 : Nat) (c9 : Nat) (x10 : Int) (A11 : Option Addr) (n11 : Nat) (c11 : Nat) (A12 : Option Addr) (n12 : Nat) (c12 : Nat) (x13 : Int) (A14 : Option Addr) (n14 : Nat) (c14 : Nat) (x15 : Int) (a16 : Addr) (A74 : Option Addr) (n74 : Nat) (c74 : Nat) (x75 : Int) (x76 : Int) (h : Heap) : Prop := Pt Try.prog Try.f6 R [false, false, true, false, true, true, true, true, true, true, true] (mkFr [(1, (Value.slice A1 n1 c1)), (2, (Value.slice A2 n2 c2)), (3, (Value.pointer (some a3))), (7, (Value.int .i64 x7)), (8, (Value.int .i64 x8)), (9, (Value.slice A9 n9 c9)), (10, (Value.int .i64 x10)), (11, (Value.slice A11 n11 c11)), (12, (Value.slice A12 n12 c12)), (13, (Value.int .i64 x13)), (14, (Value.slice A14 n14 c14)), (15, (Value.int .i64 x15)), (16, (Value.pointer (some a16))), (74, (Value.slice A74 n74 c74)), (75, (Value.int .i64 x75)), (76, (Value.int .i64 x76))]) h
def f6.l2 (R : Value → Heap → Prop) (A1 : Option Addr) (n1 : Nat) (c1 : Nat) (A2 : Option Addr) (n2 : Nat) (c2 : Nat) (a3 : Addr) (x7 : Int) (x8 : Int) (A9 : Option Addr) (n9 : Nat) (c9 : Nat) (x10 : Int) (A11 : Option Addr) (n11 : Nat) (c11 : Nat) (A12 : Option Addr) (n12 : Nat) (c12 : Nat) (x13 : Int) (A14 : Option Addr) (n14 : Nat) (c14 : Nat) (x15 : Int) (a16 : Addr) (A21 : Option Addr) (n21 : Nat) (c21 : Nat) (A74 : Option Addr) (n74 : Nat) (c74 : Nat) (x75 : Int) (x76 : Int) (A80 : Option Addr) (n80 : Nat) (c80 : Nat) (x81 : Int) (x82 : Int) (h : Heap) : Prop := Pt Try.prog Try.f6 R [false, false, true, false, true, true, false, false, true, true, false, false, true, false, true, true, true, true, true, true, true] (mkFr [(1, (Value.slice A1 n1 c1)), (2, (Value.slice A2 n2 c2)), (3, (Value.pointer (some a3))), (7, (Value.int .i64 x7)), (8, (Value.int .i64 x8)), (9, (Value.slice A9 n9 c9)), (10, (Value.int .i64 x10)), (11, (Value.slice A11 n11 c11)), (12, (Value.slice A12 n12 c12)), (13, (Value.int .i64 x13)), (14, (Value.slice A14 n14 c14)), (15, (Value.int .i64 x15)), (16, (Value.pointer (some a16))), (21, (Value.slice A21 n21 c21)), (74, (Value.slice A74 n74 c74)), (75, (Value.int .i64 x75)), (76, (Value.int .i64 x76)), (80, (Value.slice A80 n80 c80)), (81, (Value.int .i64 x81)), (82, (Value.int .i64 x82))]) h
def f6.j0 (R : Value → Heap → Prop) (A1 : Option Addr) (n1 : Nat) (c1 : Nat) (A2 : Option Addr) (n2 : Nat) (c2 : Nat) (A9 : Option Addr) (n9 : Nat) (c9 : Nat) (x10 : Int) (A11 : Option Addr) (n11 : Nat) (c11 : Nat) (A12 : Option Addr) (n12 : Nat) (c12 : Nat) (x13 : Int) (A14 : Option Addr) (n14 : Nat) (c14 : Nat) (x15 : Int) (a16 : Addr) (h : Heap) : Prop := Pt Try.prog Try.f6 R [true, true, true, true, true, true, true, true, true, true, true, true] (mkFr [(1, (Value.slice A1 n1 c1)), (2, (Value.slice A2 n2 c2)), (9, (Value.slice A9 n9 c9)), (10, (Value.int .i64 x10)), (11, (Value.slice A11 n11 c11)), (12, (Value.slice A12 n12 c12)), (13, (Value.int .i64 x13)), (14, (Value.slice A14 n14 c14)), (15, (Value.int .i64 x15)), (16, (Value.pointer (some a16)))]) h
def f6.j3 (R : Value → Heap → Prop) (A1 : Option Addr) (n1 : Nat) (c1 : Nat) (A2 : Option Addr) (n2 : Nat) (c2 : Nat) (a3 : Addr) (x7 : Int) (x8 : Int) (A9 : Option Addr) (n9 : Nat) (c9 : Nat) (x10 : Int) (A11 : Option Addr) (n11 : Nat) (c11 : Nat) (A12 : Option Addr) (n12 : Nat) (c12 : Nat) (x13 : Int) (A14 : Option Addr) (n14 : Nat) (c14 : Nat) (x15 : Int) (a16 : Addr) (A21 : Option Addr) (n21 : Nat) (c21 : Nat) (a23 : Addr) (x24 : Int) (A74 : Option Addr) (n74 : Nat) (c74 : Nat) (x75 : Int) (x76 : Int) (A80 : Option Addr) (n80 : Nat) (c80 : Nat) (x81 : Int) (x82 : Int) (h : Heap) : Prop := Pt Try.prog Try.f6 R [true, true, true, false, false, true, true, false, false, true, false, true, true, false, false, true, true, false, false, true, false, true, true, true, true, true, true, true] (mkFr [(1, (Value.slice A1 n1 c1)), (2, (Value.slice A2 n2 c2)), (3, (Value.pointer (some a3))), (7, (Value.int .i64 x7)), (8, (Value.int .i64 x8)), (9, (Value.slice A9 n9 c9)), (10, (Value.int .i64 x10)), (11, (Value.slice A11 n11 c11)), (12, (Value.slice A12 n12 c12)), (13, (Value.int .i64 x13)), (14, (Value.slice A14 n14 c14)), (15, (Value.int .i64 x15)), (16, (Value.pointer (some a16))), (21, (Value.slice A21 n21 c21)), (23, (Value.pointer (some a23))), (24, (Value.int .i64 x24)), (74, (Value.slice A74 n74 c74)), (75, (Value.int .i64 x75)), (76, (Value.int .i64 x76)), (80, (Value.slice A80 n80 c80)), (81, (Value.int .i64 x81)), (82, (Value.int .i64 x82))]) h
def f6.j1 (R : Value → Heap → Prop) (A1 : Option Addr) (n1 : Nat) (c1 : Nat) (A2 : Option Addr) (n2 : Nat) (c2 : Nat) (A11 : Option Addr) (n11 : Nat) (c11 : Nat) (A12 : Option Addr) (n12 : Nat) (c12 : Nat) (x13 : Int) (A14 : Option Addr) (n14 : Nat) (c14 : Nat) (x15 : Int) (a16 : Addr) (h : Heap) : Prop := Pt Try.prog Try.f6 R [true, true, true, true, true, true, true, true, true, true, true, true, true] (mkFr [(1, (Value.slice A1 n1 c1)), (2, (Value.slice A2 n2 c2)), (11, (Value.slice A11 n11 c11)), (12, (Value.slice A12 n12 c12)), (13, (Value.int .i64 x13)), (14, (Value.slice A14 n14 c14)), (15, (Value.int .i64 x15)), (16, (Value.pointer (some a16)))]) h
def f6.j2 (R : Value → Heap → Prop) (A2 : Option Addr) (n2 : Nat) (c2 : Nat) (A14 : Option Addr) (n14 : Nat) (c14 : Nat) (x15 : Int) (a16 : Addr) (h : Heap) : Prop := Pt Try.prog Try.f6 R [true, true, true, true, true, true, true, true, true, true, true, true, true, true, true] (mkFr [(2, (Value.slice A2 n2 c2)), (14, (Value.slice A14 n14 c14)), (15, (Value.int .i64 x15)), (16, (Value.pointer (some a16)))]) h
set_option maxRecDepth 100000 in
def f6.l0T (R : Value → Heap → Prop) (A1 : Option Addr) (n1 : Nat) (c1 : Nat) (A2 : Option Addr) (n2 : Nat) (c2 : Nat) (a3 : Addr) (x7 : Int) (x8 : Int) (A9 : Option Addr) (n9 : Nat) (c9 : Nat) (x10 : Int) (A11 : Option Addr) (n11 : Nat) (c11 : Nat) (A12 : Option Addr) (n12 : Nat) (c12 : Nat) (x13 : Int) (A14 : Option Addr) (n14 : Nat) (c14 : Nat) (x15 : Int) (a16 : Addr) (A56 : Option Addr) (n56 : Nat) (c56 : Nat) (x57 : Int) (x58 : Int) (h : Heap) : Prop :=
  splitB (decide (x58 < x57)) (ptrOk A56 fun a1_ => 0 ≤ x58 ∧ x58 < ((n56 : Nat) : Int) ∧ (∃ v2_, ldv true 2 h (Addr.add a1_ (Int.toNat x58 * 2)) = some v2_ ∧ newH h (Obj.cells #[(Value.int .i64 (0 : Int)), (Value.int .i64 (0 : Int))] 89) fun h3_ => ∃ l5_ : List Value, v2_ = Value.agg l5_.toArray ∧ l5_.length = 2 ∧ ∃ h4_, stH h3_ (⟨Array.size h, 0, none⟩) l5_ 0 = some h4_ ∧ ∃ v6_, ldv false 1 h4_ a16 = some v6_ ∧ ∃ A7_, ∃ n7_, ∃ c7_, v6_ = (Value.slice A7_ n7_ c7_) ∧ ∃ v8_, ldv false 1 h4_ (⟨Array.size h, 0, none⟩) = some v8_ ∧ ∃ x9_, v8_ = (Value.int .i64 x9_) ∧ ∃ v10_, ldv false 1 h4_ (Addr.add (⟨Array.size h, 0, none⟩) 1) = some v10_ ∧ ∃ x11_, v10_ = (Value.int .i64 x11_) ∧ ∃ l12_ : List Value, (Value.agg #[(Value.int .i64 x9_), (Value.int .i64 x11_)]) = Value.agg l12_.toArray ∧ l12_.length = 2 ∧ (newH h4_ (Obj.cells ((List.take 0 ([(Value.int .i64 (0 : Int)), (Value.int .i64 (0 : Int))]) ++ l12_ ++ List.drop 2 ([(Value.int .i64 (0 : Int)), (Value.int .i64 (0 : Int))])).toArray) 67) fun h13_ => AppW 67 2 16 #[(Value.int .i64 (0 : Int)), (Value.int .i64 (0 : Int))] A7_ n7_ c7_ (Value.slice (some ⟨Array.size h4_, 0, none⟩) 1 1) h13_ fun v14_ h15_ => ∃ A16_, ∃ n16_, ∃ c16_, v14_ = (Value.slice A16_ n16_ c16_) ∧ ∃ h17_, st1 h15_ a16 (Value.slice A16_ n16_ c16_) = some h17_ ∧ f6.l0 R A1 n1 c1 A2 n2 c2 a3 x7 x8 A9 n9 c9 x10 A11 n11 c11 A12 n12 c12 x13 A14 n14 c14 x15 a16 A56 n56 c56 x57 (IntKind.wrap .i64 (x58 + (1 : Int))) h17_))) (∃ v18_, ldv false 1 h (Addr.add a3 1) = some v18_ ∧ ∃ A19_, ∃ n19_, ∃ c19_, v18_ = (Value.slice A19_ n19_ c19_) ∧ f6.l1 R A1 n1 c1 A2 n2 c2 a3 x7 x8 A9 n9 c9 x10 A11 n11 c11 A12 n12 c12 x13 A14 n14 c14 x15 a16 A19_ n19_ c19_ ((n19_ : Nat) : Int) (0 : Int) h)
set_option maxRecDepth 100000 in
theorem f6.l0_in {R : Value → Heap → Prop} {A1 : Option Addr} {n1 : Nat} {c1 : Nat} {A2 : Option Addr} {n2 : Nat} {c2 : Nat} {a3 : Addr} {x7 : Int} {x8 : Int} {A9 : Option Addr} {n9 : Nat} {c9 : Nat} {x10 : Int} {A11 : Option Addr} {n11 : Nat} {c11 : Nat} {A12 : Option Addr} {n12 : Nat} {c12 : Nat} {x13 : Int} {A14 : Option Addr} {n14 : Nat} {c14 : Nat} {x15 : Int} {a16 : Addr} {A56 : Option Addr} {n56 : Nat} {c56 : Nat} {x57 : Int} {x58 : Int} {h : Heap} (H : f6.l0T R A1 n1 c1 A2 n2 c2 a3 x7 x8 A9 n9 c9 x10 A11 n11 c11 A12 n12 c12 x13 A14 n14 c14 x15 a16 A56 n56 c56 x57 x58 h) : f6.l0 R A1 n1 c1 A2 n2 c2 a3 x7 x8 A9 n9 c9 x10 A11 n11 c11 A12 n12 c12 x13 A14 n14 c14 x15 a16 A56 n56 c56 x57 x58 h :=
  pt_intro mixed f6.good (Eq.mpr (show (Fwd Try.prog f6.T f6.kp Try.f6 R [false, false, true, false, true, true, true, true, true, true] (mkFr [(1, (Value.slice A1 n1 c1)), (2, (Value.slice A2 n2 c2)), (3, (Value.pointer (some a3))), (7, (Value.int .i64 x7)), (8, (Value.int .i64 x8)), (9, (Value.slice A9 n9 c9)), (10, (Value.int .i64 x10)), (11, (Value.slice A11 n11 c11)), (12, (Value.slice A12 n12 c12)), (13, (Value.int .i64 x13)), (14, (Value.slice A14 n14 c14)), (15, (Value.int .i64 x15)), (16, (Value.pointer (some a16))), (56, (Value.slice A56 n56 c56)), (57, (Value.int .i64 x57)), (58, (Value.int .i64 x58))]) h) = (f6.l0T R A1 n1 c1 A2 n2 c2 a3 x7 x8 A9 n9 c9 x10 A11 n11 c11 A12 n12 c12 x13 A14 n14 c14 x15 a16 A56 n56 c56 x57 x58 h) by kernel_rfl) H)
set_option maxRecDepth 100000 in
def f6.l1T (R : Value → Heap → Prop) (A1 : Option Addr) (n1 : Nat) (c1 : Nat) (A2 : Option Addr) (n2 : Nat) (c2 : Nat) (a3 : Addr) (x7 : Int) (x8 : Int) (A9 : Option Addr) (n9 : Nat) (c9 : Nat) (x10 : Int) (A11 : Option Addr) (n11 : Nat) (c11 : Nat) (A12 : Option Addr) (n12 : Nat) (c12 : Nat) (x13 : Int) (A14 : Option Addr) (n14 : Nat) (c14 : Nat) (x15 : Int) (a16 : Addr) (A74 : Option Addr) (n74 : Nat) (c74 : Nat) (x75 : Int) (x76 : Int) (h : Heap) : Prop :=
  splitB (decide (x76 < x75)) (ptrOk A74 fun a1_ => 0 ≤ x76 ∧ x76 < ((n74 : Nat) : Int) ∧ (∃ v2_, ldv false 1 h (Addr.add a1_ (Int.toNat x76 * 1)) = some v2_ ∧ ∃ A3_, ∃ n3_, ∃ c3_, v2_ = (Value.slice A3_ n3_ c3_) ∧ f6.l2 R A1 n1 c1 A2 n2 c2 a3 x7 x8 A9 n9 c9 x10 A11 n11 c11 A12 n12 c12 x13 A14 n14 c14 x15 a16 none 0 0 A74 n74 c74 x75 x76 A3_ n3_ c3_ ((n3_ : Nat) : Int) (0 : Int) h)) (∃ v4_, ldv true 2 h a16 = some v4_ ∧ Run Try.prog 42 #[v4_] h fun v5_ h6_ => ∃ x7_, v5_ = (Value.int .i64 x7_) ∧ ∃ v8_, ldv true 2 h6_ a3 = some v8_ ∧ Run Try.prog 43 #[v8_] h6_ fun v9_ h10_ => ∃ x11_, v9_ = (Value.int .i64 x11_) ∧ splitB (x11_ != x7_) (R (Value.bool false) h10_) (splitB (x7_ != (0 : Int)) (splitB (x8 == x7_) (splitB (x10 == x7_) (splitB (x13 == x7_) (splitB (x15 == x7_) (splitB (x7 == (0 : Int)) (R (Value.bool ((IntKind.wrap .i64 ((IntKind.wrap .i64 ((IntKind.wrap .i64 (((n9 : Nat) : Int) + ((n11 : Nat) : Int))) + ((n12 : Nat) : Int))) + ((n14 : Nat) : Int))) == (0 : Int))) h10_) (R (Value.bool false) h10_)) (R (Value.bool false) h10_)) (R (Value.bool false) h10_)) (R (Value.bool false) h10_)) (R (Value.bool false) h10_)) (splitB (x8 != (0 : Int)) (R (Value.bool false) h10_) (∃ v12_, ldv true 2 h10_ a16 = some v12_ ∧ Run Try.prog 44 #[v12_] h10_ fun v13_ h14_ => ∃ x15_, v13_ = (Value.int .i64 x15_) ∧ splitB (x7 != x15_) (R (Value.bool false) h14_) (f6.j0 R A1 n1 c1 A2 n2 c2 A9 n9 c9 x10 A11 n11 c11 A12 n12 c12 x13 A14 n14 c14 x15 a16 h14_)))))
set_option maxRecDepth 100000 in
theorem f6.l1_in {R : Value → Heap → Prop} {A1 : Option Addr} {n1 : Nat} {c1 : Nat} {A2 : Option Addr} {n2 : Nat} {c2 : Nat} {a3 : Addr} {x7 : Int} {x8 : Int} {A9 : Option Addr} {n9 : Nat} {c9 : Nat} {x10 : Int} {A11 : Option Addr} {n11 : Nat} {c11 : Nat} {A12 : Option Addr} {n12 : Nat} {c12 : Nat} {x13 : Int} {A14 : Option Addr} {n14 : Nat} {c14 : Nat} {x15 : Int} {a16 : Addr} {A74 : Option Addr} {n74 : Nat} {c74 : Nat} {x75 : Int} {x76 : Int} {h : Heap} (H : f6.l1T R A1 n1 c1 A2 n2 c2 a3 x7 x8 A9 n9 c9 x10 A11 n11 c11 A12 n12 c12 x13 A14 n14 c14 x15 a16 A74 n74 c74 x75 x76 h) : f6.l1 R A1 n1 c1 A2 n2 c2 a3 x7 x8 A9 n9 c9 x10 A11 n11 c11 A12 n12 c12 x13 A14 n14 c14 x15 a16 A74 n74 c74 x75 x76 h :=
  pt_intro mixed f6.good (Eq.mpr (show (Fwd Try.prog f6.T f6.kp Try.f6 R [false, false, true, false, true, true, true, true, true, true, true] (mkFr [(1, (Value.slice A1 n1 c1)), (2, (Value.slice A2 n2 c2)), (3, (Value.pointer (some a3))), (7, (Value.int .i64 x7)), (8, (Value.int .i64 x8)), (9, (Value.slice A9 n9 c9)), (10, (Value.int .i64 x10)), (11, (Value.slice A11 n11 c11)), (12, (Value.slice A12 n12 c12)), (13, (Value.int .i64 x13)), (14, (Value.slice A14 n14 c14)), (15, (Value.int .i64 x15)), (16, (Value.pointer (some a16))), (74, (Value.slice A74 n74 c74)), (75, (Value.int .i64 x75)), (76, (Value.int .i64 x76))]) h) = (f6.l1T R A1 n1 c1 A2 n2 c2 a3 x7 x8 A9 n9 c9 x10 A11 n11 c11 A12 n12 c12 x13 A14 n14 c14 x15 a16 A74 n74 c74 x75 x76 h) by kernel_rfl) H)
set_option maxRecDepth 100000 in
def f6.l2T (R : Value → Heap → Prop) (A1 : Option Addr) (n1 : Nat) (c1 : Nat) (A2 : Option Addr) (n2 : Nat) (c2 : Nat) (a3 : Addr) (x7 : Int) (x8 : Int) (A9 : Option Addr) (n9 : Nat) (c9 : Nat) (x10 : Int) (A11 : Option Addr) (n11 : Nat) (c11 : Nat) (A12 : Option Addr) (n12 : Nat) (c12 : Nat) (x13 : Int) (A14 : Option Addr) (n14 : Nat) (c14 : Nat) (x15 : Int) (a16 : Addr) (A21 : Option Addr) (n21 : Nat) (c21 : Nat) (A74 : Option Addr) (n74 : Nat) (c74 : Nat) (x75 : Int) (x76 : Int) (A80 : Option Addr) (n80 : Nat) (c80 : Nat) (x81 : Int) (x82 : Int) (h : Heap) : Prop :=
  splitB (decide (x82 < x81)) (ptrOk A80 fun a1_ => 0 ≤ x82 ∧ x82 < ((n80 : Nat) : Int) ∧ (∃ v2_, ldv true 3 h (Addr.add a1_ (Int.toNat x82 * 3)) = some v2_ ∧ newH h (Obj.cells #[(Value.int .i64 (0 : Int)), (Value.bool false), (Value.int .i64 (0 : Int))] 93) fun h3_ => ∃ l5_ : List Value, v2_ = Value.agg l5_.toArray ∧ l5_.length = 3 ∧ ∃ h4_, stH h3_ (⟨Array.size h, 0, none⟩) l5_ 0 = some h4_ ∧ ∃ v6_, ldv false 1 h4_ (Addr.add (⟨Array.size h, 0, none⟩) 1) = some v6_ ∧ ∃ b7_, v6_ = (Value.bool b7_) ∧ splitB b7_ (f6.j3 R A1 n1 c1 A2 n2 c2 a3 x7 x8 A9 n9 c9 x10 A11 n11 c11 A12 n12 c12 x13 A14 n14 c14 x15 a16 A21 n21 c21 (⟨Array.size h, 0, none⟩) (1 : Int) A74 n74 c74 x75 x76 A80 n80 c80 x81 x82 h4_) (f6.j3 R A1 n1 c1 A2 n2 c2 a3 x7 x8 A9 n9 c9 x10 A11 n11 c11 A12 n12 c12 x13 A14 n14 c14 x15 a16 A21 n21 c21 (⟨Array.size h, 0, none⟩) (0 : Int) A74 n74 c74 x75 x76 A80 n80 c80 x81 x82 h4_))) (∃ v8_, ldv false 1 h (Addr.add a16 1) = some v8_ ∧ ∃ A9_, ∃ n9_, ∃ c9_, v8_ = (Value.slice A9_ n9_ c9_) ∧ newH h (Obj.cells #[(Value.slice A21 n21 c21)] 91) fun h10_ => AppW 91 1 24 #[(Value.slice none 0 0)] A9_ n9_ c9_ (Value.slice (some ⟨Array.size h, 0, none⟩) 1 1) h10_ fun v11_ h12_ => ∃ A13_, ∃ n13_, ∃ c13_, v11_ = (Value.slice A13_ n13_ c13_) ∧ ∃ h14_, st1 h12_ (Addr.add a16 1) (Value.slice A13_ n13_ c13_) = some h14_ ∧ f6.l1 R A1 n1 c1 A2 n2 c2 a3 x7 x8 A9 n9 c9 x10 A11 n11 c11 A12 n12 c12 x13 A14 n14 c14 x15 a16 A74 n74 c74 x75 (IntKind.wrap .i64 (x76 + (1 : Int))) h14_)
set_option maxRecDepth 100000 in
theorem f6.l2_in {R : Value → Heap → Prop} {A1 : Option Addr} {n1 : Nat} {c1 : Nat} {A2 : Option Addr} {n2 : Nat} {c2 : Nat} {a3 : Addr} {x7 : Int} {x8 : Int} {A9 : Option Addr} {n9 : Nat} {c9 : Nat} {x10 : Int} {A11 : Option Addr} {n11 : Nat} {c11 : Nat} {A12 : Option Addr} {n12 : Nat} {c12 : Nat} {x13 : Int} {A14 : Option Addr} {n14 : Nat} {c14 : Nat} {x15 : Int} {a16 : Addr} {A21 : Option Addr} {n21 : Nat} {c21 : Nat} {A74 : Option Addr} {n74 : Nat} {c74 : Nat} {x75 : Int} {x76 : Int} {A80 : Option Addr} {n80 : Nat} {c80 : Nat} {x81 : Int} {x82 : Int} {h : Heap} (H : f6.l2T R A1 n1 c1 A2 n2 c2 a3 x7 x8 A9 n9 c9 x10 A11 n11 c11 A12 n12 c12 x13 A14 n14 c14 x15 a16 A21 n21 c21 A74 n74 c74 x75 x76 A80 n80 c80 x81 x82 h) : f6.l2 R A1 n1 c1 A2 n2 c2 a3 x7 x8 A9 n9 c9 x10 A11 n11 c11 A12 n12 c12 x13 A14 n14 c14 x15 a16 A21 n21 c21 A74 n74 c74 x75 x76 A80 n80 c80 x81 x82 h :=
  pt_intro mixed f6.good (Eq.mpr (show (Fwd Try.prog f6.T f6.kp Try.f6 R [false, false, true, false, true, true, false, false, true, true, false, false, true, false, true, true, true, true, true, true, true] (mkFr [(1, (Value.slice A1 n1 c1)), (2, (Value.slice A2 n2 c2)), (3, (Value.pointer (some a3))), (7, (Value.int .i64 x7)), (8, (Value.int .i64 x8)), (9, (Value.slice A9 n9 c9)), (10, (Value.int .i64 x10)), (11, (Value.slice A11 n11 c11)), (12, (Value.slice A12 n12 c12)), (13, (Value.int .i64 x13)), (14, (Value.slice A14 n14 c14)), (15, (Value.int .i64 x15)), (16, (Value.pointer (some a16))), (21, (Value.slice A21 n21 c21)), (74, (Value.slice A74 n74 c74)), (75, (Value.int .i64 x75)), (76, (Value.int .i64 x76)), (80, (Value.slice A80 n80 c80)), (81, (Value.int .i64 x81)), (82, (Value.int .i64 x82))]) h) = (f6.l2T R A1 n1 c1 A2 n2 c2 a3 x7 x8 A9 n9 c9 x10 A11 n11 c11 A12 n12 c12 x13 A14 n14 c14 x15 a16 A21 n21 c21 A74 n74 c74 x75 x76 A80 n80 c80 x81 x82 h) by kernel_rfl) H)
set_option maxRecDepth 100000 in
def f6.j0T (R : Value → Heap → Prop) (A1 : Option Addr) (n1 : Nat) (c1 : Nat) (A2 : Option Addr) (n2 : Nat) (c2 : Nat) (A9 : Option Addr) (n9 : Nat) (c9 : Nat) (x10 : Int) (A11 : Option Addr) (n11 : Nat) (c11 : Nat) (A12 : Option Addr) (n12 : Nat) (c12 : Nat) (x13 : Int) (A14 : Option Addr) (n14 : Nat) (c14 : Nat) (x15 : Int) (a16 : Addr) (h : Heap) : Prop :=
  ∃ v1_, ldv true 2 h a16 = some v1_ ∧ Run Try.prog 45 #[v1_] h fun v2_ h3_ => ∃ A4_, ∃ n4_, ∃ c4_, v2_ = (Value.slice A4_ n4_ c4_) ∧ splitB (Option.isNone A4_) (splitB (x10 != (4 : Int)) (R (Value.bool false) h3_) (splitB (decide (((n9 : Nat) : Int) > (0 : Int))) (R (Value.bool false) h3_) (splitB (!(Option.isNone A4_)) (splitB (x10 != (0 : Int)) (R (Value.bool false) h3_) (Run Try.prog 46 #[(Value.slice A9 n9 c9), (Value.slice A4_ n4_ c4_)] h3_ fun v5_ h6_ => ∃ b7_, v5_ = (Value.bool b7_) ∧ splitB (!b7_) (R (Value.bool false) h6_) (f6.j1 R A1 n1 c1 A2 n2 c2 A11 n11 c11 A12 n12 c12 x13 A14 n14 c14 x15 a16 h6_))) (f6.j1 R A1 n1 c1 A2 n2 c2 A11 n11 c11 A12 n12 c12 x13 A14 n14 c14 x15 a16 h3_)))) (splitB (!(Option.isNone A4_)) (splitB (x10 != (0 : Int)) (R (Value.bool false) h3_) (Run Try.prog 46 #[(Value.slice A9 n9 c9), (Value.slice A4_ n4_ c4_)] h3_ fun v8_ h9_ => ∃ b10_, v8_ = (Value.bool b10_) ∧ splitB (!b10_) (R (Value.bool false) h9_) (f6.j1 R A1 n1 c1 A2 n2 c2 A11 n11 c11 A12 n12 c12 x13 A14 n14 c14 x15 a16 h9_))) (f6.j1 R A1 n1 c1 A2 n2 c2 A11 n11 c11 A12 n12 c12 x13 A14 n14 c14 x15 a16 h3_))
set_option maxRecDepth 100000 in
theorem f6.j0_in {R : Value → Heap → Prop} {A1 : Option Addr} {n1 : Nat} {c1 : Nat} {A2 : Option Addr} {n2 : Nat} {c2 : Nat} {A9 : Option Addr} {n9 : Nat} {c9 : Nat} {x10 : Int} {A11 : Option Addr} {n11 : Nat} {c11 : Nat} {A12 : Option Addr} {n12 : Nat} {c12 : Nat} {x13 : Int} {A14 : Option Addr} {n14 : Nat} {c14 : Nat} {x15 : Int} {a16 : Addr} {h : Heap} (H : f6.j0T R A1 n1 c1 A2 n2 c2 A9 n9 c9 x10 A11 n11 c11 A12 n12 c12 x13 A14 n14 c14 x15 a16 h) : f6.j0 R A1 n1 c1 A2 n2 c2 A9 n9 c9 x10 A11 n11 c11 A12 n12 c12 x13 A14 n14 c14 x15 a16 h :=
  pt_intro mixed f6.good (Eq.mpr (show (Fwd Try.prog f6.T f6.kp Try.f6 R [true, true, true, true, true, true, true, true, true, true, true, true] (mkFr [(1, (Value.slice A1 n1 c1)), (2, (Value.slice A2 n2 c2)), (9, (Value.slice A9 n9 c9)), (10, (Value.int .i64 x10)), (11, (Value.slice A11 n11 c11)), (12, (Value.slice A12 n12 c12)), (13, (Value.int .i64 x13)), (14, (Value.slice A14 n14 c14)), (15, (Value.int .i64 x15)), (16, (Value.pointer (some a16)))]) h) = (f6.j0T R A1 n1 c1 A2 n2 c2 A9 n9 c9 x10 A11 n11 c11 A12 n12 c12 x13 A14 n14 c14 x15 a16 h) by kernel_rfl) H)
set_option maxRecDepth 100000 in
def f6.j3T (R : Value → Heap → Prop) (A1 : Option Addr) (n1 : Nat) (c1 : Nat) (A2 : Option Addr) (n2 : Nat) (c2 : Nat) (a3 : Addr) (x7 : Int) (x8 : Int) (A9 : Option Addr) (n9 : Nat) (c9 : Nat) (x10 : Int) (A11 : Option Addr) (n11 : Nat) (c11 : Nat) (A12 : Option Addr) (n12 : Nat) (c12 : Nat) (x13 : Int) (A14 : Option Addr) (n14 : Nat) (c14 : Nat) (x15 : Int) (a16 : Addr) (A21 : Option Addr) (n21 : Nat) (c21 : Nat) (a23 : Addr) (x24 : Int) (A74 : Option Addr) (n74 : Nat) (c74 : Nat) (x75 : Int) (x76 : Int) (A80 : Option Addr) (n80 : Nat) (c80 : Nat) (x81 : Int) (x82 : Int) (h : Heap) : Prop :=
  ∃ v1_, ldv false 1 h a23 = some v1_ ∧ ∃ x2_, v1_ = (Value.int .i64 x2_) ∧ ∃ v3_, ldv false 1 h (Addr.add a23 2) = some v3_ ∧ ∃ x4_, v3_ = (Value.int .i64 x4_) ∧ ∃ l5_ : List Value, (Value.agg #[(Value.int .i64 x2_), (Value.int .i64 x24), (Value.int .i64 x4_)]) = Value.agg l5_.toArray ∧ l5_.length = 3 ∧ (newH h (Obj.cells ((List.take 0 ([(Value.int .i64 (0 : Int)), (Value.int .i64 (0 : Int)), (Value.int .i64 (0 : Int))]) ++ l5_ ++ List.drop 3 ([(Value.int .i64 (0 : Int)), (Value.int .i64 (0 : Int)), (Value.int .i64 (0 : Int))])).toArray) 94) fun h6_ => AppW 94 3 24 #[(Value.int .i64 (0 : Int)), (Value.int .i64 (0 : Int)), (Value.int .i64 (0 : Int))] A21 n21 c21 (Value.slice (some ⟨Array.size h, 0, none⟩) 1 1) h6_ fun v7_ h8_ => ∃ A9_, ∃ n9_, ∃ c9_, v7_ = (Value.slice A9_ n9_ c9_) ∧ f6.l2 R A1 n1 c1 A2 n2 c2 a3 x7 x8 A9 n9 c9 x10 A11 n11 c11 A12 n12 c12 x13 A14 n14 c14 x15 a16 A9_ n9_ c9_ A74 n74 c74 x75 x76 A80 n80 c80 x81 (IntKind.wrap .i64 (x82 + (1 : Int))) h8_)
set_option maxRecDepth 100000 in
theorem f6.j3_in {R : Value → Heap → Prop} {A1 : Option Addr} {n1 : Nat} {c1 : Nat} {A2 : Option Addr} {n2 : Nat} {c2 : Nat} {a3 : Addr} {x7 : Int} {x8 : Int} {A9 : Option Addr} {n9 : Nat} {c9 : Nat} {x10 : Int} {A11 : Option Addr} {n11 : Nat} {c11 : Nat} {A12 : Option Addr} {n12 : Nat} {c12 : Nat} {x13 : Int} {A14 : Option Addr} {n14 : Nat} {c14 : Nat} {x15 : Int} {a16 : Addr} {A21 : Option Addr} {n21 : Nat} {c21 : Nat} {a23 : Addr} {x24 : Int} {A74 : Option Addr} {n74 : Nat} {c74 : Nat} {x75 : Int} {x76 : Int} {A80 : Option Addr} {n80 : Nat} {c80 : Nat} {x81 : Int} {x82 : Int} {h : Heap} (H : f6.j3T R A1 n1 c1 A2 n2 c2 a3 x7 x8 A9 n9 c9 x10 A11 n11 c11 A12 n12 c12 x13 A14 n14 c14 x15 a16 A21 n21 c21 a23 x24 A74 n74 c74 x75 x76 A80 n80 c80 x81 x82 h) : f6.j3 R A1 n1 c1 A2 n2 c2 a3 x7 x8 A9 n9 c9 x10 A11 n11 c11 A12 n12 c12 x13 A14 n14 c14 x15 a16 A21 n21 c21 a23 x24 A74 n74 c74 x75 x76 A80 n80 c80 x81 x82 h :=
  pt_intro mixed f6.good (Eq.mpr (show (Fwd Try.prog f6.T f6.kp Try.f6 R [true, true, true, false, false, true, true, false, false, true, false, true, true, false, false, true, true, false, false, true, false, true, true, true, true, true, true, true] (mkFr [(1, (Value.slice A1 n1 c1)), (2, (Value.slice A2 n2 c2)), (3, (Value.pointer (some a3))), (7, (Value.int .i64 x7)), (8, (Value.int .i64 x8)), (9, (Value.slice A9 n9 c9)), (10, (Value.int .i64 x10)), (11, (Value.slice A11 n11 c11)), (12, (Value.slice A12 n12 c12)), (13, (Value.int .i64 x13)), (14, (Value.slice A14 n14 c14)), (15, (Value.int .i64 x15)), (16, (Value.pointer (some a16))), (21, (Value.slice A21 n21 c21)), (23, (Value.pointer (some a23))), (24, (Value.int .i64 x24)), (74, (Value.slice A74 n74 c74)), (75, (Value.int .i64 x75)), (76, (Value.int .i64 x76)), (80, (Value.slice A80 n80 c80)), (81, (Value.int .i64 x81)), (82, (Value.int .i64 x82))]) h) = (f6.j3T R A1 n1 c1 A2 n2 c2 a3 x7 x8 A9 n9 c9 x10 A11 n11 c11 A12 n12 c12 x13 A14 n14 c14 x15 a16 A21 n21 c21 a23 x24 A74 n74 c74 x75 x76 A80 n80 c80 x81 x82 h) by kernel_rfl) H)
set_option maxRecDepth 100000 in
def f6.j1T (R : Value → Heap → Prop) (A1 : Option Addr) (n1 : Nat) (c1 : Nat) (A2 : Option Addr) (n2 : Nat) (c2 : Nat) (A11 : Option Addr) (n11 : Nat) (c11 : Nat) (A12 : Option Addr) (n12 : Nat) (c12 : Nat) (x13 : Int) (A14 : Option Addr) (n14 : Nat) (c14 : Nat) (x15 : Int) (a16 : Addr) (h : Heap) : Prop :=
  ∃ v1_, ldv true 2 h a16 = some v1_ ∧ Run Try.prog 47 #[v1_, (Value.slice A1 n1 c1)] h fun v2_ h3_ => ∃ A4_, ∃ n4_, ∃ c4_, ∃ A5_, ∃ n5_, ∃ c5_, v2_ = (Value.tuple #[(Value.slice A4_ n4_ c4_), (Value.slice A5_ n5_ c5_)]) ∧ splitB (x13 != (0 : Int)) (R (Value.bool false) h3_) (Run Try.prog 46 #[(Value.slice A11 n11 c11), (Value.slice A4_ n4_ c4_)] h3_ fun v6_ h7_ => ∃ b8_, v6_ = (Value.bool b8_) ∧ splitB (!b8_) (R (Value.bool false) h7_) (Run Try.prog 46 #[(Value.slice A12 n12 c12), (Value.slice A5_ n5_ c5_)] h7_ fun v9_ h10_ => ∃ b11_, v9_ = (Value.bool b11_) ∧ splitB (!b11_) (R (Value.bool false) h10_) (f6.j2 R A2 n2 c2 A14 n14 c14 x15 a16 h10_)))
set_option maxRecDepth 100000 in
theorem f6.j1_in {R : Value → Heap → Prop} {A1 : Option Addr} {n1 : Nat} {c1 : Nat} {A2 : Option Addr} {n2 : Nat} {c2 : Nat} {A11 : Option Addr} {n11 : Nat} {c11 : Nat} {A12 : Option Addr} {n12 : Nat} {c12 : Nat} {x13 : Int} {A14 : Option Addr} {n14 : Nat} {c14 : Nat} {x15 : Int} {a16 : Addr} {h : Heap} (H : f6.j1T R A1 n1 c1 A2 n2 c2 A11 n11 c11 A12 n12 c12 x13 A14 n14 c14 x15 a16 h) : f6.j1 R A1 n1 c1 A2 n2 c2 A11 n11 c11 A12 n12 c12 x13 A14 n14 c14 x15 a16 h :=
  pt_intro mixed f6.good (Eq.mpr (show (Fwd Try.prog f6.T f6.kp Try.f6 R [true, true, true, true, true, true, true, true, true, true, true, true, true] (mkFr [(1, (Value.slice A1 n1 c1)), (2, (Value.slice A2 n2 c2)), (11, (Value.slice A11 n11 c11)), (12, (Value.slice A12 n12 c12)), (13, (Value.int .i64 x13)), (14, (Value.slice A14 n14 c14)), (15, (Value.int .i64 x15)), (16, (Value.pointer (some a16)))]) h) = (f6.j1T R A1 n1 c1 A2 n2 c2 A11 n11 c11 A12 n12 c12 x13 A14 n14 c14 x15 a16 h) by kernel_rfl) H)
set_option maxRecDepth 100000 in
def f6.j2T (R : Value → Heap → Prop) (A2 : Option Addr) (n2 : Nat) (c2 : Nat) (A14 : Option Addr) (n14 : Nat) (c14 : Nat) (x15 : Int) (a16 : Addr) (h : Heap) : Prop :=
  ∃ v1_, ldv true 2 h a16 = some v1_ ∧ Run Try.prog 48 #[v1_, (Value.slice A2 n2 c2)] h fun v2_ h3_ => ∃ A4_, ∃ n4_, ∃ c4_, ∃ x5_, v2_ = (Value.tuple #[(Value.slice A4_ n4_ c4_), (Value.int .i64 x5_)]) ∧ splitB (x15 == x5_) (Run Try.prog 46 #[(Value.slice A14 n14 c14), (Value.slice A4_ n4_ c4_)] h3_ fun v6_ h7_ => ∃ b8_, v6_ = (Value.bool b8_) ∧ R (Value.bool b8_) h7_) (R (Value.bool false) h3_)
set_option maxRecDepth 100000 in
theorem f6.j2_in {R : Value → Heap → Prop} {A2 : Option Addr} {n2 : Nat} {c2 : Nat} {A14 : Option Addr} {n14 : Nat} {c14 : Nat} {x15 : Int} {a16 : Addr} {h : Heap} (H : f6.j2T R A2 n2 c2 A14 n14 c14 x15 a16 h) : f6.j2 R A2 n2 c2 A14 n14 c14 x15 a16 h :=
  pt_intro mixed f6.good (Eq.mpr (show (Fwd Try.prog f6.T f6.kp Try.f6 R [true, true, true, true, true, true, true, true, true, true, true, true, true, true, true] (mkFr [(2, (Value.slice A2 n2 c2)), (14, (Value.slice A14 n14 c14)), (15, (Value.int .i64 x15)), (16, (Value.pointer (some a16)))]) h) = (f6.j2T R A2 n2 c2 A14 n14 c14 x15 a16 h) by kernel_rfl) H)
set_option maxRecDepth 100000 in
def f6.runT (R : Value → Heap → Prop) (v0 : Value) (A1 : Option Addr) (n1 : Nat) (c1 : Nat) (A2 : Option Addr) (n2 : Nat) (c2 : Nat) (h : Heap) : Prop :=
  newH h (Obj.cells ((v0).cells) 78) fun h1_ => ∃ v2_, ldv true 2 h1_ (⟨Array.size h, 0, none⟩) = some v2_ ∧ Run Try.prog 38 #[v2_] h1_ fun v3_ h4_ => ∃ x5_, ∃ x6_, v3_ = (Value.tuple #[(Value.int .i64 x5_), (Value.int .i64 x6_)]) ∧ ∃ v7_, ldv true 2 h4_ (⟨Array.size h, 0, none⟩) = some v7_ ∧ Run Try.prog 39 #[v7_] h4_ fun v8_ h9_ => ∃ A10_, ∃ n10_, ∃ c10_, ∃ x11_, v8_ = (Value.tuple #[(Value.slice A10_ n10_ c10_), (Value.int .i64 x11_)]) ∧ ∃ v12_, ldv true 2 h9_ (⟨Array.size h, 0, none⟩) = some v12_ ∧ Run Try.prog 40 #[v12_, (Value.slice A1 n1 c1)] h9_ fun v13_ h14_ => ∃ A15_, ∃ n15_, ∃ c15_, ∃ A16_, ∃ n16_, ∃ c16_, ∃ x17_, v13_ = (Value.tuple #[(Value.slice A15_ n15_ c15_), (Value.slice A16_ n16_ c16_), (Value.int .i64 x17_)]) ∧ ∃ v18_, ldv true 2 h14_ (⟨Array.size h, 0, none⟩) = some v18_ ∧ Run Try.prog 41 #[v18_, (Value.slice A2 n2 c2)] h14_ fun v19_ h20_ => ∃ A21_, ∃ n21_, ∃ c21_, ∃ x22_, v19_ = (Value.tuple #[(Value.slice A21_ n21_ c21_), (Value.int .i64 x22_)]) ∧ newH h20_ (Obj.cells #[(Value.slice none 0 0), (Value.slice none 0 0)] 87) fun h23_ => ∃ l25_ : List Value, (Value.agg #[(Value.slice none 0 0), (Value.slice none 0 0)]) = Value.agg l25_.toArray ∧ l25_.length = 2 ∧ ∃ h24_, stH h23_ (⟨Array.size h20_, 0, none⟩) l25_ 0 = some h24_ ∧ ∃ v26_, ldv false 1 h24_ (⟨Array.size h, 0, none⟩) = some v26_ ∧ ∃ A27_, ∃ n27_, ∃ c27_, v26_ = (Value.slice A27_ n27_ c27_) ∧ f6.l0 R A1 n1 c1 A2 n2 c2 (⟨Array.size h, 0, none⟩) x5_ x6_ A10_ n10_ c10_ x11_ A15_ n15_ c15_ A16_ n16_ c16_ x17_ A21_ n21_ c21_ x22_ (⟨Array.size h20_, 0, none⟩) A27_ n27_ c27_ ((n27_ : Nat) : Int) (0 : Int) h24_
set_option maxRecDepth 100000 in
theorem f6.run {R : Value → Heap → Prop} {v0 : Value} {A1 : Option Addr} {n1 : Nat} {c1 : Nat} {A2 : Option Addr} {n2 : Nat} {c2 : Nat} {h : Heap} (H : f6.runT R v0 A1 n1 c1 A2 n2 c2 h) : Run Try.prog 6 #[v0, (Value.slice A1 n1 c1), (Value.slice A2 n2 c2)] h R :=
  run_of mixed Try.func6 (by kernel_rfl) (by kernel_rfl) f6.good (Eq.mpr (show (Fwd Try.prog f6.T f6.kp Try.f6 R [] (mkFr (argL [v0, (Value.slice A1 n1 c1), (Value.slice A2 n2 c2)] 0)) h) = (f6.runT R v0 A1 n1 c1 A2 n2 c2 h) by kernel_rfl) H)
end Go.Proofs.Ytdlihfedhojdgaa.Fw

end
section
namespace Go.Hw
open Go
section tests
variable {A B : Prop}
theorem split_dec {p : Prop} [Decidable p] (hA : p → A) (hB : ¬ p → B) : splitB (decide p) A B := by
  by_cases h : p
  · rw [decide_eq_true h]; exact hA h
  · rw [decide_eq_false h]; exact hB h
theorem split_not {b : Bool} (h : splitB b B A) : splitB (!b) A B := by cases b <;> exact h
theorem split_t (h : A) : splitB true A B := h
theorem split_f (h : B) : splitB false A B := h
end tests
theorem wrap_in {n : Int} (h0 : -9223372036854775808 ≤ n) (h1 : n ≤ 9223372036854775807) : IntKind.wrap .i64 n = n := by
  rcases Int.le_total 0 n with h | h
  · exact wrap_nat h h1
  · rcases (show n = 0 ∨ n < 0 by omega) with h2 | h2
    · subst h2; rfl
    have e : n % (2 ^ 64 : Int) = n + 2 ^ 64 := by omega
    simp only [IntKind.wrap, IntKind.signed, IntKind.bits, e, Bool.true_and]
    rw [if_pos (by simp only [decide_eq_true_eq]; omega)]
    omega
theorem add_add (a : Addr) (m n : Nat) : (a.add m).add n = a.add (m + n) := by
  unfold Addr.add
  by_cases h1 : m = 0
  · subst h1; simp
  · by_cases h2 : n = 0
    · subst h2; simp
    · have h3 : m + n ≠ 0 := by omega
      simp only [if_neg h1, if_neg h2, if_neg h3]
      rw [Nat.add_assoc]
theorem add_block (a : Addr) (n : Nat) : (a.add n).block = a.block := by unfold Addr.add; split <;> rfl
theorem add_off (a : Addr) (n : Nat) : (a.add n).off = a.off + n := by
  unfold Addr.add
  split
  · rename_i h; subst h; rfl
  · rfl
theorem add_spot {a : Addr} (n : Nat) (h : a.spot = none) : (a.add n).spot = none := by unfold Addr.add; split; exact h; rfl
def Blk (h : Heap) (b : Nat) (c : List Value) (t : TypeId) : Prop := h[b]? = some (.cells c.toArray t (0, 0))
def Only (h h' : Heap) (b : Nat) : Prop := h'.size = h.size ∧ ∀ i, i ≠ b → h'[i]? = h[i]?
section
variable {h h' : Heap} {b : Nat} {c : List Value} {t : TypeId}
theorem Blk.lt (hb : Blk h b c t) : b < h.size := (Array.getElem?_eq_some_iff.1 hb).1
theorem Blk.cell (hb : Blk h b c t) {a : Addr} {v : Value} (h1 : a.block = b) (h2 : a.spot = none) (h3 : c[a.off]? = some v) : cellH h a = some v := by
  unfold cellH Blk at *
  rw [h1, hb, h2]
  simpa using h3
theorem Blk.cells (hb : Blk h b c t) {a : Addr} (h1 : a.block = b) (h2 : a.spot = none) : ∀ (n i : Nat), a.off + i + n ≤ c.length → cellsH h a i n = some ((c.drop (a.off + i)).take n) := by
  intro n
  induction n with
  | zero => intro i _; simp [cellsH]
  | succ n ih =>
    intro i hle
    have hlt : a.off + i < c.length := by omega
    have h3 : c[(a.add i).off]? = some c[a.off + i] := by rw [add_off]; exact List.getElem?_eq_getElem hlt
    simp only [cellsH, hb.cell (a := a.add i) (by rw [add_block]; exact h1) (add_spot i h2) h3, ih (i + 1) (by omega)]
    rw [List.drop_eq_getElem_cons hlt, List.take_succ_cons]
    rfl
theorem Blk.st (hb : Blk h b c t) {a : Addr} {v : Value} (h1 : a.block = b) (h2 : a.spot = none) (h3 : a.off < c.length) (h4 : oneCell v True) :
    ∃ h', st1 h a v = some h' ∧ Blk h' b (c.set a.off v) t ∧ Only h h' b := by
  have hc : cellH h a = some c[a.off] := hb.cell h1 h2 (List.getElem?_eq_getElem h3)
  have hf : frozenH h a = false := by
    unfold frozenH
    rw [h1, show h[b]? = some (.cells c.toArray t (0, 0)) from hb]
    simp
  refine ⟨setH h a v, ?_, ?_, ?_⟩
  · cases v <;> simp_all [st1, oneCell]
  · unfold Blk setH
    rw [Array.getElem?_modify, if_pos h1.symm.symm, show h[b]? = some (.cells c.toArray t (0, 0)) from hb]
    simp [h2]
  · refine ⟨by simp [setH], fun i hi => ?_⟩
    unfold setH
    rw [Array.getElem?_modify, if_neg (by rw [h1]; exact fun e => hi e.symm)]
theorem Blk.new (h : Heap) (c : Array Value) (t : TypeId) : Blk (h.push (.cells c t)) h.size c.toList t := by
  unfold Blk; simp
theorem Ext.push (h : Heap) (o : Obj) : Ext h (h.push o) := ⟨by simp, fun i hi => by rw [Array.getElem?_push, if_neg (by omega)]⟩
theorem Only.refl (h : Heap) (b : Nat) : Only h h b := ⟨rfl, fun _ _ => rfl⟩
theorem Only.trans {h'' : Heap} {b : Nat} (o : Only h h' b) (p : Only h' h'' b) : Only h h'' b := ⟨p.1.trans o.1, fun i hi => (p.2 i hi).trans (o.2 i hi)⟩
end
def Rd {α : Type} (sz : Nat) (E : Heap → α → List Value → Prop) (h : Heap) (A : Option Addr) (l : List α) : Prop :=
  ∀ i (hi : i < l.length), ∃ a cs, A = some a ∧ cellsH h (a.add (i * sz)) 0 sz = some cs ∧ E h l[i] cs
def eInt (k : IntKind) (_ : Heap) (x : Int) (cs : List Value) : Prop := cs = [.int k x]
def eRow {α : Type} (sz : Nat) (E : Heap → α → List Value → Prop) (h : Heap) (l : List α) (cs : List Value) : Prop := ∃ A c, cs = [.slice A l.length c] ∧ l.length ≤ c ∧ Rd sz E h A l
section
variable {α : Type} {sz : Nat} {E : Heap → α → List Value → Prop} {h h' : Heap} {A : Option Addr} {l : List α}
theorem Rd.nil : Rd sz E h A ([] : List α) := fun i hi => by cases hi
end
theorem CallF.of {P : Program} {f : FuncId} {first captured : Array Value} {args : List Value} {h : Heap} {R : Value → Heap → Prop} (l : List Value) (hc : calleeOk P f = true) (hl : first.toList ++ args ++ captured.toList = l) (hr : Run P f l.toArray h R) :
    CallF P (.func (.func f) first captured) args h R := by
  unfold CallF
  simp only [hc, hl]
  exact hr
theorem newH_in {h : Heap} {c : Array Value} {t : TypeId} {K : Heap → Prop} (H : ∀ h', Blk h' h.size c.toList t → Ext h h' → h'.size = h.size + 1 → K h') : newH h (.cells c t) K :=
  H _ (Blk.new _ _ _) (Ext.push _ _) (by simp)
theorem CallF.mono {P : Program} {v : Value} {args : List Value} {h : Heap} {R R' : Value → Heap → Prop} (hh : CallF P v args h R) (hr : ∀ v h, R v h → R' v h) : CallF P v args h R' := by
  unfold CallF at hh ⊢
  split at hh
  · split at hh
    · exact hh.mono hr
    · exact ExtF.mono hh hr
  · exact hh.elim
def idxOf {α : Type} (p : α → Bool) (l : List α) : Int := match l.findIdx? p with | some i => i | none => -1
theorem idxOf_ge {α : Type} (p : α → Bool) (l : List α) : decide (idxOf p l ≥ 0) = l.any p := by
  unfold idxOf
  cases h : l.findIdx? p with
  | none =>
    rw [List.findIdx?_eq_none_iff] at h
    have : l.any p = false := by simpa using h
    simp [this]
  | some i =>
    have hs : (l.findIdx? p).isSome = true := by rw [h]; rfl
    rw [List.findIdx?_isSome] at hs
    simp [hs]
end Go.Hw

end
section
namespace Go.Hw
open Go Go.RowKit
theorem below_of {W W' : World} (e : Ext W.heap W'.heap) (s : Same W W') : Below W.heap.size W W' := ⟨s.os, s.tape, s.output, e.1, e.2⟩
section
variable {H : Type} {enc : TypeId × Value → H} {P : Program} {W : World}
theorem cells_of {base : Nat} {a : Addr} {n : Nat} {cs : List Value} (hc : W.cells? base a n = some cs) : cellsH W.heap a 0 n = some cs := by
  obtain ⟨_, hlen, hget⟩ := World.cells?_some hc
  have key : ∀ (m i : Nat), i + m = n → cellsH W.heap a i m = some (cs.drop i) := by
    intro m
    induction m with
    | zero =>
      intro i hi
      rw [List.drop_eq_nil_of_le (by omega)]
      rfl
    | succ m ih =>
      intro i hi
      have hlt : i < cs.length := by omega
      have h1 : cellH W.heap (a.add i) = some cs[i] := (hget i (by omega)).trans (List.getElem?_eq_getElem hlt)
      simp only [cellsH, h1, ih (i + 1) (by omega)]
      rw [List.drop_eq_getElem_cons hlt]
  simpa using key n 0 (by omega)
def Tells {α : Type} (enc : TypeId × Value → H) (P : Program) (W : World) (t : TypeId) (E : Heap → α → List Value → Prop) (Q : α → Prop) : Prop :=
  ∀ (fuel : Nat) (cs : List Value) (x : DataW H × List MemPlace), DataW.trod enc P W 0 (fun _ => true) true fuel t cs = some x → (x.1.weights P t).all (· ≤ reachBytes) = true → ∃ a, E W.heap a cs ∧ Q a
theorem tells_int {t : TypeId} {k : IntKind} (hu : P.underlying t = some (.int k)) : Tells enc P W t (eInt k) (fun x => (Lit.int k x).wf = true) := by
  intro fuel cs x h _
  obtain ⟨n, h1, _, h3⟩ := DataW.trod_int hu h
  exact ⟨n, h1, h3⟩
def eBool (_ : Heap) (x : Bool) (cs : List Value) : Prop := cs = [.bool x]
theorem tells_bool {t : TypeId} (hu : P.underlying t = some .bool) : Tells enc P W t eBool (fun _ => True) := by
  intro fuel cs x h _
  obtain ⟨n, h1, _⟩ := DataW.trod_bool hu h
  exact ⟨n, h1, trivial⟩
theorem weightsAll_all {e : TypeId} : ∀ (l : List (DataW H)), (DataW.weightsAll P e l).all (· ≤ reachBytes) = true → ∀ d ∈ l, (d.weights P e).all (· ≤ reachBytes) = true := by
  intro l
  induction l with
  | nil => intro _ d hd; cases hd
  | cons x l ih =>
    intro h d hd
    simp only [DataW.weightsAll, List.all_append, Bool.and_eq_true] at h
    rcases List.mem_cons.1 hd with rfl | hd
    · exact h.1
    · exact ih h.2 d hd
theorem list_choose {α : Type} {n : Nat} {p : Nat → α → Prop} (h : ∀ i, i < n → ∃ x, p i x) : ∃ l : List α, l.length = n ∧ ∀ i (hi : i < l.length), p i l[i] := by
  induction n with
  | zero => exact ⟨[], rfl, fun i hi => by cases hi⟩
  | succ n ih =>
    obtain ⟨l, h1, h2⟩ := ih fun i hi => h i (by omega)
    obtain ⟨x, hx⟩ := h n (by omega)
    refine ⟨l ++ [x], by simp [h1], fun i hi => ?_⟩
    rw [List.length_append, List.length_singleton] at hi
    by_cases hin : i < l.length
    · rw [List.getElem_append_left hin]; exact h2 i hin
    · have : i = l.length := by omega
      subst this
      rw [List.getElem_append_right (Nat.le_refl _)]
      simp only [Nat.sub_self, List.getElem_cons_zero]
      rw [h1]; exact hx
theorem tells_slice {α : Type} {t e : TypeId} {sz B : Nat} {E : Heap → α → List Value → Prop} {Q : α → Prop} (hu : P.underlying t = some (.slice e)) (hc : P.cellsOf e = sz) (hB : P.bytesOf e = B) (he : Tells enc P W e E Q) :
    Tells enc P W t (eRow sz E) (fun l => l.length * B ≤ reachBytes ∧ ∀ a ∈ l, Q a) := by
  intro fuel cs x h hw
  rcases DataW.trod_slice hu h with ⟨h1, h2⟩ | ⟨a, len, cap, elems, rest, n, _, h1, h2, _, hl, hm, hlen, hel, _, _⟩
  · exact ⟨[], ⟨none, 0, h1, Nat.le_refl _, Rd.nil⟩, by simp, fun a ha => by cases ha⟩
  · rw [h2] at hw
    simp only [DataW.weights, hu, List.all_cons, List.all_append, Bool.and_eq_true, decide_eq_true_eq] at hw
    obtain ⟨hw1, hw2, _⟩ := hw
    have hall := weightsAll_all _ hw2
    obtain ⟨l, h3, h4⟩ := list_choose (n := len) (p := fun i x => (∃ cs', cellsH W.heap (a.add (i * sz)) 0 sz = some cs' ∧ E W.heap x cs') ∧ Q x) (fun i hi => by
      have h5 := hel i hi
      have hlt : i < elems.length := by omega
      rw [List.getElem?_eq_getElem hlt] at h5
      obtain ⟨cs', h6, h7⟩ := Option.bind_eq_some_iff.1 h5
      obtain ⟨x, h8, h9⟩ := he _ _ _ h7 (hall _ (List.mem_map.2 ⟨_, List.getElem_mem hlt, rfl⟩))
      rw [hc] at h6
      exact ⟨x, ⟨cs', cells_of h6, h8⟩, h9⟩)
    refine ⟨l, ⟨some a, cap, by rw [h1, h3], by omega, fun i hi => ?_⟩, ?_, fun x hx => ?_⟩
    · obtain ⟨⟨cs', h5, h6⟩, _⟩ := h4 i hi
      exact ⟨a, cs', rfl, h5, h6⟩
    · rw [hB] at hw1
      have : l.length ≤ (List.map (·.1) elems).length + (List.map (·.1) rest).length := by simp; omega
      exact Nat.le_trans (Nat.mul_le_mul_right _ this) hw1
    · obtain ⟨i, hi, rfl⟩ := List.getElem_of_mem hx
      exact (h4 i hi).2
end
theorem wf_i64 {x : Int} (h : (Lit.int .i64 x).wf = true) : -9223372036854775808 ≤ x ∧ x ≤ 9223372036854775807 := by
  simpa [Lit.wf, IntKind.min, IntKind.max, IntKind.signed, IntKind.bits] using h
end Go.Hw

end
section
namespace Go.Hw
open Go
theorem cellsH_length {h : Heap} {a : Addr} : ∀ {n i : Nat} {cs : List Value}, cellsH h a i n = some cs → cs.length = n := by
  intro n
  induction n with
  | zero => intro i cs hc; simp only [cellsH, Option.some.injEq] at hc; subst hc; rfl
  | succ n ih =>
    intro i cs hc
    simp only [cellsH] at hc
    split at hc
    · split at hc
      · rename_i vs hv; cases hc; simp [ih hv]
      · cases hc
    · cases hc
def Flat (v : Value) : Prop := oneCell v True
theorem Blk.stH {b : Nat} {t : TypeId} : ∀ (xs : List Value) {h : Heap} {p q r : List Value} {a : Addr} {i : Nat}, Blk h b (p ++ q ++ r) t → a.block = b → a.spot = none → a.off + i = p.length → q.length = xs.length → (∀ v ∈ xs, Flat v) →
    ∃ h', stH h a xs i = some h' ∧ Blk h' b (p ++ xs ++ r) t ∧ Only h h' b := by
  intro xs
  induction xs with
  | nil =>
    intro h p q r a i hb h1 h2 h3 h4 h5
    rw [List.length_eq_zero_iff.1 h4] at hb
    exact ⟨h, rfl, hb, .refl _ _⟩
  | cons v xs ih =>
    intro h p q r a i hb h1 h2 h3 h4 h5
    obtain ⟨u, q', rfl⟩ : ∃ u q', q = u :: q' := by cases q with | nil => cases h4 | cons u q' => exact ⟨u, q', rfl⟩
    have hoff : (a.add i).off = p.length := by rw [add_off, h3]
    obtain ⟨h', s1, b1, o1⟩ := hb.st (a := a.add i) (v := v) (by rw [add_block, h1]) (add_spot _ h2) (by rw [hoff]; simp) (h5 v (List.mem_cons_self ..))
    rw [hoff] at b1
    have e : (p ++ u :: q' ++ r).set p.length v = (p ++ [v]) ++ q' ++ r := by
      rw [List.append_assoc, List.set_append_right _ _ (Nat.le_refl _)]; simp
    rw [e] at b1
    obtain ⟨h'', s2, b2, o2⟩ := ih (p := p ++ [v]) (q := q') (r := r) (a := a) (i := i + 1) b1 h1 h2 (by simp; omega) (by simpa using h4) (fun x hx => h5 x (List.mem_cons_of_mem _ hx))
    refine ⟨h'', ?_, by simpa using b2, o1.trans o2⟩
    simp only [Go.Hw.stH, s1, s2]
theorem zcells_size (z : Array Value) (n : Nat) : (zcells z n).size = n * z.size := by
  unfold zcells Builtin.zeroCells
  simp
end Go.Hw

end
section
namespace Go.Hw
open Go Go.RowKit
theorem cellsH_get {h : Heap} {a : Addr} : ∀ {n i : Nat} {cs : List Value} {k : Nat} {v : Value}, cellsH h a i n = some cs → cs[k]? = some v → cellH h (a.add (i + k)) = some v := by
  intro n
  induction n with
  | zero => intro i cs k v hc hv; simp only [cellsH, Option.some.injEq] at hc; subst hc; cases hv
  | succ n ih =>
    intro i cs k v hc hv
    simp only [cellsH] at hc
    split at hc
    · rename_i u hu
      split at hc
      · rename_i vs hvs
        cases hc
        cases k with
        | zero => cases hv; exact hu
        | succ k => rw [show i + (k + 1) = i + 1 + k by omega]; exact ih hvs (by simpa using hv)
      · cases hc
    · cases hc
section
variable {α : Type} {sz : Nat} {E : Heap → α → List Value → Prop} {h h' : Heap} {A : Option Addr} {l : List α}
theorem cellsH_append {h : Heap} {a : Addr} : ∀ {m i n : Nat} {cs ds : List Value}, cellsH h a i m = some cs → cellsH h a (i + m) n = some ds → cellsH h a i (m + n) = some (cs ++ ds) := by
  intro m
  induction m with
  | zero => intro i n cs ds h1 h2; simp only [cellsH, Option.some.injEq] at h1; subst h1; simpa using h2
  | succ m ih =>
    intro i n cs ds h1 h2
    simp only [cellsH] at h1
    split at h1
    · rename_i u hu
      split at h1
      · rename_i vs hvs
        cases h1
        rw [show m + 1 + n = (m + n) + 1 by omega]
        have h3 := ih hvs (n := n) (ds := ds) (by rw [show i + 1 + m = i + (m + 1) by omega]; exact h2)
        simp only [cellsH, hu, h3, List.cons_append]
      · cases h1
    · cases h1
theorem cellsH_shift {h : Heap} {a : Addr} {j : Nat} : ∀ {n i : Nat}, cellsH h (a.add j) i n = cellsH h a (j + i) n := by
  intro n
  induction n with
  | zero => intro i; rfl
  | succ n ih =>
    intro i
    simp only [cellsH, add_add]
    rw [ih, Nat.add_assoc]
end
theorem Blk.stAll {h : Heap} {b : Nat} {c : List Value} {t : TypeId} (hb : Blk h b c t) (l : List Value) (hn : l.length = c.length) (hf : ∀ v ∈ l, Flat v) :
    ∃ h', Go.Hw.stH h ⟨b, 0, none⟩ l 0 = some h' ∧ Blk h' b l t ∧ Only h h' b := by
  obtain ⟨h', s1, b1, o1⟩ := Blk.stH l (p := []) (q := c) (r := []) (a := ⟨b, 0, none⟩) (i := 0) (by simpa using hb) rfl rfl rfl hn.symm hf
  exact ⟨h', s1, by simpa using b1, o1⟩
section
variable {P : Program} {d : Nat} {t : TypeId}
def flatB (P : Program) (t : TypeId) (x y : Value) : Option Bool :=
  match P.underlying t, x, y with
  | some (.int _), .int k a, .int k' b => match kindB k k' with | true => some (a == b) | false => none
  | some .bool, .bool a, .bool b => some (a == b)
  | some .string, .string a, .string b => some (a == b)
  | _, _, _ => none
end
section
variable {H : Type} {enc : TypeId × Value → H} {P : Program} {W : World}
def TellsF {α : Type} (enc : TypeId × Value → H) (P : Program) (W : World) (T o : Nat) (fs : List (TypeId × Nat)) (F : Heap → α → List Value → Prop) (Q : α → Prop) : Prop :=
  ∀ (n : Nat) (cs : List Value) (xs : List (DataW H × List MemPlace)), cs.length = T → xs.length = fs.length → (∀ (i : Nat) (f : TypeId × Nat), fs[i]? = some f → DataW.trod enc P W 0 (fun _ => true) true n f.1 ((cs.drop f.2).take (P.cellsOf f.1)) = xs[i]?) →
    (DataW.weightsEach P (fs.map (·.1)) (xs.map (·.1))).all (· ≤ reachBytes) = true → ∃ b, F W.heap b (cs.drop o) ∧ Q b
def eNil (_ : Heap) (_ : Unit) (cs : List Value) : Prop := cs = []
def eCons {α β : Type} (E : Heap → α → List Value → Prop) (F : Heap → β → List Value → Prop) (h : Heap) (x : α × β) (cs : List Value) : Prop := ∃ c1 c2, cs = c1 ++ c2 ∧ E h x.1 c1 ∧ F h x.2 c2
theorem tf_nil {T : Nat} : TellsF enc P W T T [] eNil (fun _ => True) := fun n cs xs hl _ _ _ => ⟨(), by unfold eNil; rw [List.drop_eq_nil_of_le (by omega)], trivial⟩
theorem tf_cons {α β : Type} {E : Heap → α → List Value → Prop} {F : Heap → β → List Value → Prop} {Q : α → Prop} {Q' : β → Prop} {T o s : Nat} {f : TypeId} {fs : List (TypeId × Nat)} (hs : P.cellsOf f = s)
    (he : Tells enc P W f E Q) (hf : TellsF enc P W T (o + s) fs F Q') : TellsF enc P W T o ((f, o) :: fs) (eCons E F) (fun x => Q x.1 ∧ Q' x.2) := by
  intro n cs xs hl hx hi hw
  cases xs with
  | nil => cases hx
  | cons x xs =>
    have h0 := hi 0 (f, o) rfl
    simp only [hs] at h0
    simp only [List.map_cons, DataW.weightsEach, List.all_append, Bool.and_eq_true] at hw
    obtain ⟨a, ha, qa⟩ := he n _ _ h0 hw.1
    obtain ⟨b, hb, qb⟩ := hf n cs xs hl (by simpa using hx) (fun i g hg => by simpa using hi (i + 1) g hg) hw.2
    exact ⟨(a, b), ⟨_, _, by rw [← List.drop_drop, List.take_append_drop], ha, hb⟩, qa, qb⟩
def shapeOf (P : Program) (t : TypeId) : Option (List (TypeId × Nat)) := match P.underlying t with | some (.struct fs) => some (fs.toList.map fun f => (f.type, f.offset)) | _ => none
theorem tells_struct {α : Type} {F : Heap → α → List Value → Prop} {Q : α → Prop} {t : TypeId} {fs : List (TypeId × Nat)} {T : Nat} (hs : shapeOf P t = some fs) (hc : P.cellsOf t = T) (hf : TellsF enc P W T 0 fs F Q) : Tells enc P W t F Q := by
  intro fuel cs x h hw
  unfold shapeOf at hs
  split at hs
  · rename_i fa hu
    cases hs
    obtain ⟨xs, n, _, rfl, hl, hlen, hi⟩ := DataW.trod_struct hu h
    simp only [DataW.weights, hu] at hw
    obtain ⟨b, hb, qb⟩ := hf n cs xs (by rw [hl, hc]) (by simpa using hlen) (fun i f hif => by
      rw [List.getElem?_map, Option.map_eq_some_iff] at hif
      obtain ⟨g, hg, rfl⟩ := hif
      exact hi i g (by simpa using hg)) (by rw [List.map_map]; exact hw)
    exact ⟨b, by simpa using hb, qb⟩
  · cases hs
theorem tells_map {α β : Type} {E : Heap → α → List Value → Prop} {F : Heap → β → List Value → Prop} {Q : α → Prop} {Q' : β → Prop} {t : TypeId} (he : Tells enc P W t E Q) (hm : ∀ a cs, E W.heap a cs → Q a → ∃ b, F W.heap b cs ∧ Q' b) : Tells enc P W t F Q' :=
  fun fuel cs x h hw => let ⟨a, ha, qa⟩ := he fuel cs x h hw; hm a cs ha qa
theorem okWide_agg_of {t : TypeId} {fs : List (TypeId × Nat)} {v : Value} {r : Reach} {base : Nat} (hs : shapeOf P t = some fs) (h : Value.okWide P W r base t v) : ∃ cs : List Value, v = .agg cs.toArray := by
  unfold shapeOf at hs
  split at hs
  · rename_i fa hu
    simp only [Value.okWide, hu] at h
    cases v <;> simp_all
    rename_i xs
    exact ⟨xs.toList, by simp⟩
  · cases hs
end
end Go.Hw

end
section
namespace Go.Hw
open Go
end Go.Hw

end
section
namespace Go.Hw
open Go
end Go.Hw

end
section
namespace Go.Hw
open Go
end Go.Hw

end
section
namespace Go.Hw
open Go
def dead : Obj := .cells #[] 0 (0, 0)
def Live (m : Heap) (b : Nat) : Prop := ∃ o, m[b]? = some o ∧ o ≠ dead
def Sub (m h : Heap) : Prop := ∀ (b : Nat) (o : Obj), m[b]? = some o → o ≠ dead → h[b]? = some o
abbrev No : Nat → Prop := fun _ => False
section
variable {m m' h h' k h0 m0 : Heap} {b : Nat} {W W' : Nat → Prop}
theorem Sub.refl (h : Heap) : Sub h h := fun _ _ h _ => h
theorem Sub.trans (s : Sub m h) (t : Sub h k) : Sub m k := fun b o h1 h2 => t b o (s b o h1 h2) h2
theorem Sub.lt (s : Sub m h) (l : Live m b) : b < h.size := by
  obtain ⟨o, h1, h2⟩ := l
  exact (Array.getElem?_eq_some_iff.1 (s b o h1 h2)).1
theorem Sub.ext (s : Sub m h) (e : Ext h h') : Sub m h' := fun b o h1 h2 => by rw [e.2 b (s.lt ⟨o, h1, h2⟩)]; exact s b o h1 h2
theorem Sub.cell (s : Sub m h) {a : Addr} {v : Value} (hc : cellH m a = some v) : cellH h a = some v := by
  unfold cellH at hc
  split at hc
  · rename_i c e f hm
    have hne : (Obj.cells c e f) ≠ dead := by
      intro hd
      unfold dead at hd
      cases hd
      split at hc <;> simp at hc
    unfold cellH
    rw [s _ _ hm hne]; exact hc
  · cases hc
theorem Sub.cells (s : Sub m h) {a : Addr} : ∀ (n i : Nat) {vs : List Value}, cellsH m a i n = some vs → cellsH h a i n = some vs := by
  intro n
  induction n with
  | zero => intro i vs hc; exact hc
  | succ n ih =>
    intro i vs hc
    simp only [cellsH] at hc ⊢
    split at hc
    · rename_i v hv
      rw [s.cell hv]
      split at hc
      · rename_i us hu
        rw [ih _ hu]; exact hc
      · cases hc
    · cases hc
theorem Sub.blk (s : Sub m h) {c : List Value} {t : TypeId} (hb : Blk m b c t) (hc : c ≠ []) : Blk h b c t := by
  unfold Blk at *
  refine s _ _ hb ?_
  intro hd
  unfold dead at hd
  cases c with
  | nil => exact hc rfl
  | cons x c => simp at hd
end
structure Tell {α : Type} (sz : Nat) (E : Heap → α → List Value → Prop) : Prop where
  mono : ∀ m h x cs, Sub m h → E m x cs → E h x cs
  len : ∀ h x cs, E h x cs → cs.length = sz
  flat : ∀ h x cs, E h x cs → ∀ v ∈ cs, Flat v
theorem Flats.nil : ∀ v ∈ ([] : List Value), Flat v := fun v hv => by cases hv
theorem Flats.cons {x : Value} {l : List Value} (h : Flat x) (t : ∀ v ∈ l, Flat v) : ∀ v ∈ x :: l, Flat v := fun v hv => by
  rcases List.mem_cons.1 hv with rfl | hv
  · exact h
  · exact t v hv
theorem tell_int (k : IntKind) : Tell 1 (eInt k) := ⟨fun _ _ _ _ _ h => h, fun _ _ _ h => by rw [h]; rfl, fun _ _ _ h => by rw [h]; exact Flats.cons trivial Flats.nil⟩
theorem tell_bool : Tell 1 eBool := ⟨fun _ _ _ _ _ h => h, fun _ _ _ h => by rw [h]; rfl, fun _ _ _ h => by rw [h]; exact Flats.cons trivial Flats.nil⟩
section
variable {α : Type} {sz : Nat} {E : Heap → α → List Value → Prop} {m m' h h' : Heap} {A : Option Addr} {l : List α} {c : Nat}
theorem Rd.sub (r : Rd sz E m A l) (T : Tell sz E) (s : Sub m h) : Rd sz E h A l := fun i hi =>
  let ⟨a, cs, h1, h2, h3⟩ := r i hi
  ⟨a, cs, h1, s.cells _ _ h2, T.mono _ _ _ _ s h3⟩
theorem tell_row (T : Tell sz E) : Tell 1 (eRow sz E) := ⟨fun _ _ _ _ s ⟨A, c, h1, h2, h3⟩ => ⟨A, c, h1, h2, h3.sub T s⟩, fun _ _ _ ⟨A, c, h1, _, _⟩ => by rw [h1]; rfl, fun _ _ _ ⟨A, c, h1, _, _⟩ => by rw [h1]; exact Flats.cons trivial Flats.nil⟩
end
structure St (W : Nat → Prop) (h0 m0 h m : Heap) : Prop where
  up : Sub m0 m
  s : Sub m h
  size : h0.size ≤ h.size
  fr : ∀ b, b < h0.size → ¬ W b → h[b]? = h0[b]?
  lv : ∀ b, b < h0.size → Live m b → Live m0 b ∨ W b
def fb (b0 b : Nat) : Prop := b = b0
def fp (A : Option Addr) (c : Nat) (b : Nat) : Prop := c ≠ 0 ∧ ∃ a, A = some a ∧ a.block = b
def Dj (F G : Nat → Prop) : Prop := ∀ b, F b → G b → False
section
variable {m m' h h' h0 m0 : Heap} {b b' : Nat} {W W' F G G' : Nat → Prop}
theorem Dj.symm (d : Dj F G) : Dj G F := fun b h1 h2 => d b h2 h1
theorem Dj.no : Dj No F := fun _ h _ => h
theorem St.refl (s : Sub m h) : St W h m h m := ⟨.refl _, s, Nat.le_refl _, fun _ _ _ => rfl, fun _ _ h => .inl h⟩
theorem St.of_ext (s : Sub m h) (e : Ext h h') : St W h m h' m := ⟨.refl _, s.ext e, e.1, fun b hb _ => e.2 b hb, fun _ _ h => .inl h⟩
theorem St.ext (S : St No h m h' m') : Ext h h' := ⟨S.size, fun b hb => S.fr b hb (fun h => h)⟩
theorem St.then (S : St W h0 m0 h m) (T : St W' h m h' m') (hw : ∀ b, b < h.size → W' b → h0.size ≤ b ∨ W b) : St W h0 m0 h' m' where
  up := S.up.trans T.up
  s := T.s
  size := Nat.le_trans S.size T.size
  fr b hb hn := by
    rw [T.fr b (by have := S.size; omega) (fun hw' => (hw b (by have := S.size; omega) hw').elim (fun h => by omega) hn)]
    exact S.fr b hb hn
  lv b hb hl := by
    rcases T.lv b (by have := S.size; omega) hl with h1 | h1
    · exact S.lv b hb h1
    · exact .inr ((hw b (by have := S.size; omega) h1).elim (fun h => by omega) id)
theorem St.grow (S : St W h0 m0 h m) (T : St No h m h' m') : St W h0 m0 h' m' := S.then T fun _ _ h => h.elim
theorem Ext.upd {hb : Heap} {b0 : Nat} (e : Ext hb h) (hn : hb.size ≤ b0) (S : St (fun b => b = b0) h m h' m') : Ext hb h' :=
  ⟨Nat.le_trans e.1 S.size, fun b hlt => (S.fr b (Nat.lt_of_lt_of_le hlt e.1) (fun k => by omega)).trans (e.2 b hlt)⟩
theorem St.notLive (s : Sub m h) : ¬ Live m h.size := fun l => by have := s.lt l; omega
theorem St.only (s : Sub m h) (hn : ¬ Live m b) (o : Only h h' b) : St (fb b) h m h' m where
  up := .refl _
  s i x h1 h2 := by
    rw [o.2 i (fun e => hn (e ▸ ⟨x, h1, h2⟩))]; exact s i x h1 h2
  size := by rw [o.1]; exact Nat.le_refl _
  fr i _ hw := o.2 i hw
  lv i _ hl := .inl hl
end
open Classical in
noncomputable def addV (m h : Heap) (F : Nat → Prop) : Heap := Array.ofFn (n := h.size) fun i => if Live m i.1 ∨ F i.1 then h[i.1] else dead
section
variable {m h : Heap} {b : Nat} {F : Nat → Prop}
theorem addV_get (hb : b < h.size) (hl : Live m b ∨ F b) : (addV m h F)[b]? = h[b]? := by
  unfold addV
  rw [Array.getElem?_ofFn, dif_pos hb, if_pos hl, Array.getElem?_eq_getElem hb]
theorem addV_live (hl : Live (addV m h F) b) : (Live m b ∨ F b) ∧ b < h.size := by
  obtain ⟨o, h1, h2⟩ := hl
  unfold addV at h1
  rw [Array.getElem?_ofFn] at h1
  split at h1
  · rename_i hb
    refine ⟨?_, hb⟩
    by_cases hc : Live m b ∨ F b
    · exact hc
    · rw [if_neg hc] at h1; cases h1; exact (h2 rfl).elim
  · cases h1
theorem addV_sub : Sub (addV m h F) h := fun b o h1 h2 => by
  have := addV_live ⟨o, h1, h2⟩
  rw [← addV_get this.2 this.1]; exact h1
theorem addV_up (s : Sub m h) : Sub m (addV m h F) := fun b o h1 h2 => by
  rw [addV_get (s.lt ⟨o, h1, h2⟩) (.inl ⟨o, h1, h2⟩)]; exact s b o h1 h2
theorem St.settle (s : Sub m h) (F : Nat → Prop) : St F h m h (addV m h F) := ⟨addV_up s, addV_sub, Nat.le_refl _, fun _ _ _ => rfl, fun _ _ hl => (addV_live hl).1⟩
theorem Blk.settle {c : List Value} {t : TypeId} (hb : Blk h b c t) (hF : F b) : Blk (addV m h F) b c t := by
  unfold Blk at *
  rw [addV_get (Blk.lt hb) (.inr hF)]; exact hb
end
section
variable {α : Type} {sz : Nat} {E : Heap → α → List Value → Prop} {m m' h h' h0 m0 : Heap} {A : Option Addr} {l l' : List α} {c : Nat} {cs ds : List Value} {x y : α} {W W' : Nat → Prop}
def CsE (sz : Nat) (E : Heap → α → List Value → Prop) (m : Heap) : List α → List Value → Prop
  | [], cs => cs = []
  | x :: l, cs => ∃ c1 c2, cs = c1 ++ c2 ∧ c1.length = sz ∧ E m x c1 ∧ CsE sz E m l c2
theorem CsE.nil : CsE sz E m ([] : List α) [] := rfl
theorem CsE.cons {c1 : List Value} (h1 : E m x c1) (h2 : c1.length = sz) (h : CsE sz E m l cs) : CsE sz E m (x :: l) (c1 ++ cs) := ⟨c1, cs, rfl, h2, h1, h⟩
theorem CsE.len : ∀ {l : List α} {cs : List Value}, CsE sz E m l cs → cs.length = l.length * sz := by
  intro l
  induction l with
  | nil => intro cs h; rw [show cs = [] from h]; simp
  | cons x l ih => rintro cs ⟨c1, c2, rfl, h1, h2, h3⟩; rw [List.length_append, ih h3, h1, List.length_cons, Nat.succ_mul, Nat.add_comm]
theorem CsE.get : ∀ {l : List α} {cs : List Value} {i : Nat}, CsE sz E m l cs → l[i]? = some y → E m y ((cs.drop (i * sz)).take sz) ∧ i * sz + sz ≤ cs.length := by
  intro l
  induction l with
  | nil => intro cs i h h'; cases h'
  | cons x l ih =>
    rintro cs i ⟨c1, c2, rfl, h1, h2, h3⟩ hy
    cases i with
    | zero =>
      cases hy
      simp only [Nat.zero_mul, List.drop_zero]
      rw [← h1, List.take_left]
      exact ⟨h2, by simp⟩
    | succ i =>
      have := ih (i := i) h3 (by simpa using hy)
      rw [show (i + 1) * sz = c1.length + i * sz by rw [h1, Nat.succ_mul, Nat.add_comm], ← List.drop_drop, List.drop_left, List.length_append]
      exact ⟨this.1, by omega⟩
theorem CsE.set {c1 : List Value} (hx : E m x c1) (hz : c1.length = sz) : ∀ {l : List α} {cs : List Value} {i : Nat}, CsE sz E m l cs → i < l.length → CsE sz E m (l.set i x) (cs.take (i * sz) ++ c1 ++ cs.drop (i * sz + sz)) := by
  intro l
  induction l with
  | nil => intro cs i h h'; cases h'
  | cons y l ih =>
    rintro cs i ⟨d1, d2, rfl, h1, h2, h3⟩ hi
    cases i with
    | zero =>
      simp only [Nat.zero_mul, List.take_zero, List.nil_append, Nat.zero_add, List.set_cons_zero]
      rw [← h1, List.drop_left]
      exact ⟨c1, d2, rfl, by rw [hz, h1], hx, by rw [h1]; exact h3⟩
    | succ i =>
      have := ih (i := i) h3 (by simpa using hi)
      rw [show (i + 1) * sz = d1.length + i * sz by rw [h1, Nat.succ_mul, Nat.add_comm], List.take_length_add_append, show d1.length + i * sz + sz = d1.length + (i * sz + sz) by omega, List.drop_length_add_append, List.set_cons_succ]
      exact ⟨d1, _, by simp [List.append_assoc], h1, h2, this⟩
theorem Rd.tail (r : Rd sz E m A (x :: l)) : ∀ a, A = some a → Rd sz E m (some (a.add sz)) l := by
  intro a ha i hi
  obtain ⟨a', cs, h1, h2, h3⟩ := r (i + 1) (by simpa using hi)
  rw [ha] at h1; cases h1
  refine ⟨_, cs, rfl, ?_, h3⟩
  rw [add_add, show sz + i * sz = (i + 1) * sz by rw [Nat.succ_mul, Nat.add_comm]]; exact h2
theorem Rd.cse (T : Tell sz E) : ∀ {l : List α} {a : Addr}, Rd sz E m (some a) l → ∃ cs, cellsH m a 0 (l.length * sz) = some cs ∧ CsE sz E m l cs := by
  intro l
  induction l with
  | nil => intro a r; exact ⟨[], by simp [cellsH], rfl⟩
  | cons x l ih =>
    intro a r
    obtain ⟨cs, h1, h2⟩ := ih (r.tail a rfl)
    obtain ⟨a', c1, h3, h4, h5⟩ := r 0 (by simp)
    cases h3
    rw [Nat.zero_mul, show a.add 0 = a from rfl] at h4
    refine ⟨c1 ++ cs, ?_, c1, cs, rfl, T.len _ _ _ h5, h5, h2⟩
    rw [List.length_cons, Nat.succ_mul, Nat.add_comm]
    refine cellsH_append h4 ?_
    rw [cellsH_shift] at h1
    simpa using h1
theorem CsE.rd {b : Nat} {t : TypeId} {pre rest : List Value} (hb : Blk h b (pre ++ cs ++ rest) t) (hc : CsE sz E m l cs) (hm : ∀ x cs, E m x cs → E h x cs) : Rd sz E h (some ⟨b, pre.length, none⟩) l := by
  intro i hi
  have hg := hc.get (List.getElem?_eq_getElem hi)
  refine ⟨_, _, rfl, ?_, hm _ _ hg.1⟩
  have := hb.cells (a := (⟨b, pre.length, none⟩ : Addr).add (i * sz)) (by rw [add_block]) (add_spot _ rfl) sz 0 (by rw [add_off, List.length_append, List.length_append]; simp only [Nat.add_zero]; omega)
  rw [this, add_off]
  simp only [Nat.add_zero]
  rw [List.append_assoc, ← List.drop_drop, List.drop_left, List.drop_append_of_le_length (by omega), List.take_append_of_le_length (by rw [List.length_drop]; omega)]
def OS (W : Nat → Prop) (h0 : Heap) (sz : Nat) (E : Heap → α → List Value → Prop) (h m : Heap) (A : Option Addr) (l : List α) (c : Nat) : Prop :=
  (l = [] ∧ c = 0) ∨ ∃ b t pre cs rest, A = some ⟨b, pre.length, none⟩ ∧ Blk h b (pre ++ cs ++ rest) t ∧ CsE sz E m l cs ∧ l.length ≤ c ∧ (c - l.length) * sz ≤ rest.length ∧ (h0.size ≤ b ∨ W b) ∧ ¬ Live m b
theorem OS.cap (o : OS W h0 sz E h m A l c) : l.length ≤ c := by
  rcases o with ⟨rfl, rfl⟩ | ⟨b, t, pre, cs, rest, h1, h2, h3, h4, h5, h6, h7⟩
  · exact Nat.le_refl _
  · exact h4
theorem OS.wr (o : OS W h0 sz E h m A l c) : ∀ b, fp A c b → h0.size ≤ b ∨ W b := by
  rintro b ⟨hc, a, ha, rfl⟩
  rcases o with ⟨rfl, rfl⟩ | ⟨b, t, pre, cs, rest, h1, h2, h3, h4, h5, h6, h7⟩
  · exact (hc rfl).elim
  · rw [h1] at ha; cases ha; exact h6
def OB (W : Nat → Prop) (h0 h m : Heap) (b : Nat) (cs : List Value) (t : TypeId) : Prop := Blk h b cs t ∧ (h0.size ≤ b ∨ W b) ∧ ¬ Live m b
variable {b : Nat} {t : TypeId}
theorem OB.all (o : OB W h0 h m b cs t) : cellsH h ⟨b, 0, none⟩ 0 cs.length = some cs := by
  have := o.1.cells (a := ⟨b, 0, none⟩) rfl rfl cs.length 0 (by simp)
  simpa using this
theorem Blk.all' (o : Blk m b cs t) : cellsH m ⟨b, 0, none⟩ 0 cs.length = some cs := by
  have := o.cells (a := ⟨b, 0, none⟩) rfl rfl cs.length 0 (by simp)
  simpa using this
def VB (E : Heap → α → List Value → Prop) (m : Heap) (b : Nat) (x : α) : Prop := ∃ cs t, Blk m b cs t ∧ cs ≠ [] ∧ E m x cs
theorem VB.sub (v : VB E m b x) (T : Tell sz E) (s : Sub m h) : VB E h b x := let ⟨cs, t, h1, h2, h3⟩ := v; ⟨cs, t, s.blk h1 h2, h2, T.mono _ _ _ _ s h3⟩
end
end Go.Hw

end
section
namespace Go.Hw
def LeO {β : Type} (a b : Option β) : Prop := ∀ r, a = some r → b = some r
theorem LeO.refl {β : Type} (a : Option β) : LeO a a := fun _ h => h
theorem LeO.bind {β γ : Type} {a b : Option β} {f g : β → Option γ} (h : LeO a b) (k : ∀ x, LeO (f x) (g x)) : LeO (a.bind f) (b.bind g) := by
  intro r hr
  cases a with
  | none => cases hr
  | some x => rw [h x rfl]; exact k x r hr
theorem LeO.ite {β : Type} {p : Prop} [Decidable p] {a b a' b' : Option β} (h : LeO a a') (k : LeO b b') : LeO (if p then a else b) (if p then a' else b') := by
  by_cases c : p
  · rw [if_pos c, if_pos c]; exact h
  · rw [if_neg c, if_neg c]; exact k
section
variable {α : Type} {β : α → Type} {F : ((x : α) → Option (β x)) → (x : α) → Option (β x)}
def MonoF (F : ((x : α) → Option (β x)) → (x : α) → Option (β x)) : Prop := ∀ f g, (∀ x, LeO (f x) (g x)) → ∀ x, LeO (F f x) (F g x)
def FixR (F : ((x : α) → Option (β x)) → (x : α) → Option (β x)) (x : α) (r : β x) : Prop :=
  ∀ I : (x : α) → β x → Prop, (∀ f, (∀ x r, f x = some r → I x r) → ∀ x r, F f x = some r → I x r) → I x r
theorem FixR.close {f : (x : α) → Option (β x)} (hf : ∀ x r, f x = some r → FixR F x r) {x : α} {r : β x} (h : F f x = some r) : FixR F x r :=
  fun I hI => hI f (fun y s hs => hf y s hs I hI) x r h
theorem FixR.uniq (M : MonoF F) {x : α} {r r' : β x} (h : FixR F x r) (h' : FixR F x r') : r = r' := by
  refine (h (fun x r => FixR F x r ∧ ∀ r', FixR F x r' → r = r') ?_).2 r' h'
  intro f hf x r hr
  refine ⟨FixR.close (fun y s hs => (hf y s hs).1) hr, fun s hs => ?_⟩
  have key := hs (fun y s => FixR F y s ∧ ∀ e : x = y, (e ▸ r) = s) ?_
  · exact key.2 rfl
  intro f' hf' y t ht
  refine ⟨FixR.close (fun z s hs => (hf' z s hs).1) ht, ?_⟩
  rintro rfl
  let g : (x : α) → Option (β x) := fun z => match f z with | some u => some u | none => f' z
  have hfg : ∀ z, LeO (f z) (g z) := fun z u hu => by simp only [g, hu]
  have hfg' : ∀ z, LeO (f' z) (g z) := by
    intro z u hu
    simp only [g]
    cases hz : f z with
    | none => exact hu
    | some w => simp only; rw [(hf z w hz).2 u (hf' z u hu).1]
  have e1 := M f g hfg _ _ hr
  have e2 := M f' g hfg' _ _ ht
  rw [e1] at e2
  exact Option.some.inj e2
open Classical in
noncomputable def fixF (F : ((x : α) → Option (β x)) → (x : α) → Option (β x)) (x : α) : Option (β x) := if h : ∃ r, FixR F x r then some (Classical.choose h) else none
theorem fixF_iff (M : MonoF F) {x : α} {r : β x} : fixF F x = some r ↔ FixR F x r := by
  unfold fixF
  constructor
  · intro h
    split at h
    · rename_i hx; cases h; exact Classical.choose_spec hx
    · cases h
  · intro h
    rw [dif_pos ⟨r, h⟩, FixR.uniq M (Classical.choose_spec (⟨r, h⟩ : ∃ r, FixR F x r)) h]
theorem fixF_eq (M : MonoF F) (x : α) : fixF F x = F (fixF F) x := by
  have h1 : ∀ r, fixF F x = some r → F (fixF F) x = some r := by
    intro r hr
    refine ((fixF_iff M).1 hr (fun x r => FixR F x r ∧ F (fixF F) x = some r) ?_).2
    intro f hf y s hs
    refine ⟨FixR.close (fun z s hs => (hf z s hs).1) hs, ?_⟩
    exact M f (fixF F) (fun z u hu => (fixF_iff M).2 (hf z u hu).1) _ _ hs
  have h2 : ∀ r, F (fixF F) x = some r → fixF F x = some r := fun r hr => (fixF_iff M).2 (FixR.close (fun y s hs => (fixF_iff M).1 hs) hr)
  cases h : fixF F x with
  | some r => exact (h1 r h).symm
  | none =>
    cases k : F (fixF F) x with
    | none => rfl
    | some r => rw [h2 r k] at h; cases h
theorem fixF_ind (M : MonoF F) {I : (x : α) → β x → Prop} (hI : ∀ f, (∀ x r, f x = some r → I x r) → ∀ x r, F f x = some r → I x r) {x : α} {r : β x} (h : fixF F x = some r) : I x r := (fixF_iff M).1 h I hI
end
end Go.Hw

end
section
namespace Go.Hw
open Go
section tests
variable {A B : Prop} {β γ : Type} {a b : Option β} {r : β}
theorem bind_e {a : Option γ} {f : γ → Option β} (e : a.bind f = some r) : ∃ x, a = some x ∧ f x = some r := by
  cases a with
  | none => cases e
  | some x => exact ⟨x, rfl, e⟩
theorem guard_e {p : Prop} [Decidable p] (e : (if p then a else none) = some r) : p ∧ a = some r := by
  by_cases h : p
  · rw [if_pos h] at e; exact ⟨h, e⟩
  · rw [if_neg h] at e; cases e
theorem split_dec_e {p : Prop} [Decidable p] (e : (if p then a else b) = some r) (hA : p → a = some r → A) (hB : ¬ p → b = some r → B) : splitB (decide p) A B := by
  by_cases h : p
  · rw [if_pos h] at e; rw [decide_eq_true h]; exact hA h e
  · rw [if_neg h] at e; rw [decide_eq_false h]; exact hB h e
theorem split_eq_e {x y : Int} (e : (if x = y then a else b) = some r) (hA : x = y → a = some r → A) (hB : x ≠ y → b = some r → B) : splitB (x == y) A B := by
  by_cases h : x = y
  · rw [if_pos h] at e; rw [show (x == y) = true from beq_iff_eq.2 h]; exact hA h e
  · rw [if_neg h] at e; rw [show (x == y) = false from beq_eq_false_iff_ne.2 h]; exact hB h e
theorem split_ne_e {x y : Int} (e : (if x = y then b else a) = some r) (hA : x ≠ y → a = some r → A) (hB : x = y → b = some r → B) : splitB (x != y) A B := by
  by_cases h : x = y
  · rw [if_pos h] at e; rw [show (x != y) = false from bne_eq_false_iff_eq.2 h]; exact hB h e
  · rw [if_neg h] at e; rw [show (x != y) = true from bne_iff_ne.2 h]; exact hA h e
theorem split_any_e {t : Bool} (e : (if t = true then a else b) = some r) (hA : t = true → a = some r → A) (hB : t = false → b = some r → B) : splitB t A B := by
  cases t
  · exact hB rfl e
  · exact hA rfl e
end tests
section
variable {α : Type} {l : List α} {x : Int} {y : α}
def gi (l : List α) (x : Int) : Option α := if 0 ≤ x then l[x.toNat]? else none
theorem gi_nat (l : List α) (k : Nat) : gi l (k : Int) = l[k]? := by unfold gi; rw [if_pos (by omega)]; rfl
theorem gi_le (g : gi l x = some y) : 0 ≤ x := by unfold gi at g; split at g; assumption; cases g
theorem gi_get (g : gi l x = some y) : l[x.toNat]? = some y := by unfold gi at g; split at g; exact g; cases g
theorem gi_lt (g : gi l x = some y) : x < (l.length : Int) := by
  have h1 := gi_get g
  have h2 := gi_le g
  have := (List.getElem?_eq_some_iff.1 h1).1
  omega
theorem gi_ltN (g : gi l x = some y) : x.toNat < l.length := (List.getElem?_eq_some_iff.1 (gi_get g)).1
def gb (s : ByteArray) (x : Int) : Option Int := if 0 ≤ x then s[x.toNat]?.map fun b => ((UInt8.toNat b : Nat) : Int) else none
def sl (l : List α) (lo hi : Int) : List α := (l.take hi.toNat).drop lo.toNat
theorem sl_len {lo hi : Int} (h1 : 0 ≤ lo) (h2 : lo ≤ hi) (h3 : hi ≤ (l.length : Int)) : Int.toNat hi - Int.toNat lo = (sl l lo hi).length := by
  unfold sl; rw [List.length_drop, List.length_take]; omega
theorem sl_lo {lo : Int} : sl l lo (l.length : Int) = l.drop lo.toNat := by unfold sl; simp
end
section
variable {α : Type} {sz : Nat} {E : Heap → α → List Value → Prop} {m m' h h' h0 m0 : Heap} {A : Option Addr} {l : List α} {c n k : Nat} {cs : List Value} {x : Int} {y : α} {W : Nat → Prop} {a : Addr} {v : Value} {b : Nat} {t : TypeId}
theorem Rd.addr {K : Addr → Prop} (r : Rd sz E m A l) (hn : n = l.length) (g : gi l x = some y) (hk : ∀ a cs, A = some a → cellsH m (a.add (Int.toNat x * sz)) 0 sz = some cs → E m y cs → K a) : ptrOk A fun a => 0 ≤ x ∧ x < ((n : Nat) : Int) ∧ K a := by
  subst hn
  have h1 := gi_get g
  obtain ⟨hi, h2⟩ := List.getElem?_eq_some_iff.1 h1
  obtain ⟨a, cs, rfl, h3, h4⟩ := r _ hi
  rw [h2] at h4
  exact ⟨gi_le g, gi_lt g, hk a cs rfl h3 h4⟩
theorem OS.cellsAt (o : OS W h0 sz E h m A l c) (g : gi l x = some y) : ∃ a cs, A = some a ∧ cellsH h (a.add (Int.toNat x * sz)) 0 sz = some cs ∧ E m y cs := by
  have h1 := gi_get g
  rcases o with ⟨rfl, rfl⟩ | ⟨b, t, pre, cs, rest, rfl, h3, h4, h5, h6, h7⟩
  · cases h1
  have h8 := h4.get h1
  refine ⟨_, _, rfl, ?_, h8.1⟩
  have := h3.cells (a := (⟨b, pre.length, none⟩ : Addr).add (x.toNat * sz)) (by rw [add_block]) (add_spot _ rfl) sz 0 (by rw [add_off, List.length_append, List.length_append]; simp only [Nat.add_zero]; omega)
  rw [this, add_off]
  simp only [Nat.add_zero]
  rw [List.append_assoc, ← List.drop_drop, List.drop_left, List.drop_append_of_le_length (by omega), List.take_append_of_le_length (by rw [List.length_drop]; omega)]
theorem OS.addr {K : Addr → Prop} (o : OS W h0 sz E h m A l c) (hn : n = l.length) (g : gi l x = some y) (hk : ∀ a cs, A = some a → cellsH h (a.add (Int.toNat x * sz)) 0 sz = some cs → E m y cs → K a) : ptrOk A fun a => 0 ≤ x ∧ x < ((n : Nat) : Int) ∧ K a := by
  subst hn
  obtain ⟨a, cs, rfl, h1, h2⟩ := o.cellsAt g
  exact ⟨gi_le g, gi_lt g, hk a cs rfl h1 h2⟩
theorem OS.addrS {K : Prop} {a : Addr} (o : OS W h0 sz E h m (some a) l c) (hn : n = l.length) (g : gi l x = some y) (hk : ∀ cs, cellsH h (a.add (Int.toNat x * sz)) 0 sz = some cs → E m y cs → K) : 0 ≤ x ∧ x < ((n : Nat) : Int) ∧ K :=
  o.addr (K := fun _ => K) hn g fun a' cs ha h1 h2 => by cases ha; exact hk cs h1 h2
theorem ld0 (s : Sub m h) (hc : cellsH m a 0 n = some cs) (hv : cs[0]? = some v) : ldv false 1 h a = some v := by
  have h1 : cellH h (a.add 0) = some v := cellsH_get (s.cells _ _ hc) hv
  exact h1
theorem ldk (s : Sub m h) (hc : cellsH m a 0 n = some cs) (hv : cs[k]? = some v) : ldv false 1 h (Addr.add a k) = some v := by
  have := cellsH_get (s.cells _ _ hc) hv
  simpa [ldv] using this
theorem ldA (s : Sub m h) (hc : cellsH m a 0 n = some cs) : ldv true n h a = some (.agg cs.toArray) := by
  simp only [ldv, s.cells _ _ hc, Option.map_some]
theorem cellsH_part : ∀ {n i : Nat} {cs : List Value} (k j : Nat), cellsH h a i n = some cs → k + j ≤ n → cellsH h a (i + k) j = some ((cs.drop k).take j) := by
  intro n
  induction n with
  | zero =>
    intro i cs k j hc hk
    obtain ⟨rfl, rfl⟩ : k = 0 ∧ j = 0 := by omega
    simp [cellsH]
  | succ n ih =>
    intro i cs k j hc hk
    cases k with
    | succ k =>
      simp only [cellsH] at hc
      split at hc
      · split at hc
        · rename_i vs hvs
          cases hc
          have := ih k j hvs (by omega)
          rw [show i + (k + 1) = i + 1 + k by omega, this]; simp
        · cases hc
      · cases hc
    | zero =>
      cases j with
      | zero => simp [cellsH]
      | succ j =>
        simp only [cellsH] at hc
        split at hc
        · rename_i u hu
          split at hc
          · rename_i vs hvs
            cases hc
            have := ih 0 j hvs (by omega)
            simp only [Nat.add_zero, List.drop_zero] at this
            simp only [Nat.add_zero, cellsH, hu, this, List.drop_zero, List.take_succ_cons]
          · cases hc
        · cases hc
theorem OB.st (o : OB W h0 h m b cs t) (s : Sub m h) (hk : k < cs.length) (hf : Flat v) : ∃ h', st1 h (Addr.add ⟨b, 0, none⟩ k) v = some h' ∧ OB W h0 h' m b (cs.set k v) t ∧ St (fb b) h m h' m := by
  obtain ⟨h', h1, h2, h3⟩ := o.1.st (a := Addr.add ⟨b, 0, none⟩ k) (v := v) (add_block _ _) (add_spot _ rfl) (by rw [add_off]; simpa using hk) hf
  rw [add_off, Nat.zero_add] at h2
  exact ⟨h', h1, ⟨h2, o.2⟩, .only s o.2.2 h3⟩
theorem OB.stA (o : OB W h0 h m b cs t) (s : Sub m h) (l : List Value) (hn : l.length = cs.length) (hf : ∀ v ∈ l, Flat v) : ∃ h', stH h ⟨b, 0, none⟩ l 0 = some h' ∧ OB W h0 h' m b l t ∧ St (fb b) h m h' m := by
  obtain ⟨h', h1, h2, h3⟩ := o.1.stAll l hn hf
  exact ⟨h', h1, ⟨h2, o.2⟩, .only s o.2.2 h3⟩
theorem OS.stP (o : OS W h0 sz E h m A l c) (T : Tell sz E) (s : Sub m h) (g : gi l x = some y) (ha : A = some a) (hc : cellsH h (Addr.add a (Int.toNat x * sz)) 0 sz = some cs) {ds : List Value} {y' : α} (k : Nat) (hk : k + ds.length ≤ sz) (hy : E m y' (cs.take k ++ ds ++ cs.drop (k + ds.length))) (hf : ∀ v ∈ ds, Flat v) :
    ∃ h', stH h (Addr.add (Addr.add a (Int.toNat x * sz)) k) ds 0 = some h' ∧ OS W h0 sz E h' m A (l.set (Int.toNat x) y') c ∧ St (fp A c) h m h' m := by
  have h1 := gi_get g
  have hlt := gi_ltN g
  rcases o with ⟨rfl, rfl⟩ | ⟨b, t, pre, es, rest, rfl, h3, h4, h5, h6, h7, h8⟩
  · cases h1
  cases ha
  have h9 := h4.get h1
  have hcs : cs = (es.drop (x.toNat * sz)).take sz := by
    have := h3.cells (a := (⟨b, pre.length, none⟩ : Addr).add (x.toNat * sz)) (by rw [add_block]) (add_spot _ rfl) sz 0 (by rw [add_off, List.length_append, List.length_append]; simp only [Nat.add_zero]; omega)
    rw [hc, add_off] at this
    simp only [Nat.add_zero, Option.some.injEq] at this
    rw [this, List.append_assoc, ← List.drop_drop, List.drop_left, List.drop_append_of_le_length (by omega), List.take_append_of_le_length (by rw [List.length_drop]; omega)]
  have hlen : cs.length = sz := cellsH_length hc
  have hes : es = es.take (x.toNat * sz) ++ cs ++ es.drop (x.toNat * sz + sz) := by
    rw [hcs, List.append_assoc, ← List.drop_drop, List.take_append_drop, List.take_append_drop]
  have hcs2 : cs = cs.take k ++ (cs.drop k).take ds.length ++ cs.drop (k + ds.length) := by
    rw [List.append_assoc, ← List.drop_drop, List.take_append_drop, List.take_append_drop]
  have hb : Blk h b ((pre ++ es.take (x.toNat * sz) ++ cs.take k) ++ (cs.drop k).take ds.length ++ (cs.drop (k + ds.length) ++ (es.drop (x.toNat * sz + sz) ++ rest))) t := by
    have : (pre ++ es.take (x.toNat * sz) ++ cs.take k) ++ (cs.drop k).take ds.length ++ (cs.drop (k + ds.length) ++ (es.drop (x.toNat * sz + sz) ++ rest)) = pre ++ es ++ rest := by
      conv => rhs; rw [hes]; rw [hcs2]
      simp only [List.append_assoc]
    rw [this]; exact h3
  obtain ⟨h', s1, b1, o1⟩ := Blk.stH ds (a := Addr.add (Addr.add ⟨b, pre.length, none⟩ (x.toNat * sz)) k) (i := 0) hb (by rw [add_block, add_block]) (add_spot _ (add_spot _ rfl))
    (by rw [add_off, add_off, List.length_append, List.length_append, List.length_take, List.length_take]; simp only [Nat.add_zero]; omega) (by rw [List.length_take, List.length_drop]; omega) hf
  refine ⟨h', s1, .inr ⟨b, t, pre, es.take (x.toNat * sz) ++ (cs.take k ++ ds ++ cs.drop (k + ds.length)) ++ es.drop (x.toNat * sz + sz), rest, rfl, ?_, ?_, ?_, ?_, h7, h8⟩, ?_⟩
  · have : pre ++ (es.take (x.toNat * sz) ++ (cs.take k ++ ds ++ cs.drop (k + ds.length)) ++ es.drop (x.toNat * sz + sz)) ++ rest = (pre ++ es.take (x.toNat * sz) ++ cs.take k) ++ ds ++ (cs.drop (k + ds.length) ++ (es.drop (x.toNat * sz + sz) ++ rest)) := by simp only [List.append_assoc]
    rw [this]; exact b1
  · exact h4.set hy (T.len _ _ _ hy) hlt
  · rwa [List.length_set]
  · rwa [List.length_set]
  · refine ⟨.refl _, fun i o1' k1 k2 => ?_, by rw [o1.1]; exact Nat.le_refl _, fun i hi hw => ?_, fun i _ hl => .inl hl⟩
    · rw [o1.2 i (fun e => h8 (e ▸ ⟨o1', k1, k2⟩))]; exact s i o1' k1 k2
    · refine o1.2 i fun e => hw ⟨?_, _, rfl, e.symm⟩
      omega
theorem OS.st1k (o : OS W h0 sz E h m A l c) (T : Tell sz E) (s : Sub m h) (g : gi l x = some y) (ha : A = some a) (hc : cellsH h (Addr.add a (Int.toNat x * sz)) 0 sz = some cs) {y' : α} (k : Nat) (hk : k < sz) (hy : E m y' (cs.set k v)) (hf : Flat v) :
    ∃ h', st1 h (Addr.add (Addr.add a (Int.toNat x * sz)) k) v = some h' ∧ OS W h0 sz E h' m A (l.set (Int.toNat x) y') c ∧ St (fp A c) h m h' m := by
  have hlen : cs.length = sz := cellsH_length hc
  obtain ⟨h', h1, h2, h3⟩ := o.stP T s g ha hc (ds := [v]) (y' := y') k hk (by rw [List.append_assoc, List.singleton_append]; rw [List.set_eq_take_append_cons_drop, if_pos (by omega)] at hy; exact hy) (Flats.cons hf Flats.nil)
  refine ⟨h', ?_, h2, h3⟩
  simp only [stH] at h1
  split at h1
  · rename_i h4 h5
    cases h1; exact h5
  · cases h1
theorem cap_in {hi : Int} (h1 : hi ≤ (l.length : Int)) (h2 : l.length ≤ c) : hi ≤ ((c : Nat) : Int) := by omega
theorem Rd.sl {lo hi : Int} {mx : Nat} (r : Rd sz E m A l) (h1 : 0 ≤ lo) (h2 : lo ≤ hi) (h3 : hi ≤ (l.length : Int)) (h4 : hi.toNat ≤ mx) : Rd sz E m (sliceA A (Int.toNat lo) mx sz) (sl l lo hi) := by
  intro i hi'
  rw [← sl_len h1 h2 h3] at hi'
  obtain ⟨a, cs, e1, e2, e3⟩ := r (lo.toNat + i) (by omega)
  refine ⟨a.add (lo.toNat * sz), cs, ?_, ?_, ?_⟩
  · unfold sliceA; rw [if_neg (by omega), e1]; rfl
  · rw [add_add, ← Nat.add_mul]; exact e2
  · simpa [Hw.sl] using e3
theorem sl_cap {lo hi : Int} {mx : Nat} (h1 : 0 ≤ lo) (h2 : lo ≤ hi) (h3 : hi ≤ (l.length : Int)) (h4 : hi.toNat ≤ mx) : (sl l lo hi).length ≤ mx - Int.toNat lo := by rw [← sl_len h1 h2 h3]; omega
theorem zc_len {z : Array Value} {n : Nat} : (zcells z n).toList.length = n * z.size := by rw [Array.length_toList, zcells_size]
def Src (sz : Nat) (E : Heap → α → List Value → Prop) (h m : Heap) (x : Value) (xs : List α) : Prop := ∃ es, srcCells sz x h = some (xs.length, es) ∧ CsE sz E m xs es
theorem Rd.srcE (r : Rd sz E m A l) (T : Tell sz E) (s : Sub m h) (hn : n = l.length) : Src sz E h m (.slice A n c) l := by
  subst hn
  cases A with
  | none =>
    have : l = [] := by
      cases l with
      | nil => rfl
      | cons x l => obtain ⟨a, _, h1, _⟩ := r 0 (by simp); cases h1
    subst this
    exact ⟨[], rfl, rfl⟩
  | some a =>
    obtain ⟨es, h1, h2⟩ := Rd.cse T r
    exact ⟨es, by simp only [srcCells, s.cells _ _ h1, Option.map_some], h2⟩
theorem OS.srcE {c' : Nat} (o : OS W h0 sz E h m A l c) (hn : n = l.length) : Src sz E h m (.slice A n c') l := by
  subst hn
  rcases o with ⟨rfl, rfl⟩ | ⟨b, t, pre, cs, rest, rfl, k1, k2, k3, k4, k5⟩
  · refine ⟨[], ?_, rfl⟩
    cases A with
    | none => rfl
    | some a => simp [srcCells, cellsH]
  · refine ⟨cs, ?_, k2⟩
    have hl := k2.len
    have := k1.cells (a := ⟨b, pre.length, none⟩) rfl rfl (l.length * sz) 0 (by simp [hl])
    simp only [srcCells, this, Nat.add_zero]
    rw [List.append_assoc, List.drop_left, List.take_append_of_le_length (by omega), List.take_of_length_le (by omega)]; rfl
def ap (B : Nat) (l xs : List α) : Option (List α) := if (l.length + xs.length) * B ≤ 140737488355328 then some (l ++ xs) else none
theorem ap_e {B : Nat} {l xs l' : List α} (g : ap B l xs = some l') : (l.length + xs.length) * B ≤ 140737488355328 ∧ l ++ xs = l' := by
  unfold ap at g
  obtain ⟨h, k⟩ := guard_e g
  exact ⟨h, Option.some.inj k⟩
def sls (l : List α) (lo hi : Int) : Option (List α) := if 0 ≤ lo ∧ lo ≤ hi ∧ hi ≤ (l.length : Int) then some (sl l lo hi) else none
theorem sls_e {lo hi : Int} {l' : List α} (g : sls l lo hi = some l') : 0 ≤ lo ∧ lo ≤ hi ∧ hi ≤ (l.length : Int) ∧ Int.toNat hi - Int.toNat lo = l'.length ∧ l' = Hw.sl l lo hi := by
  unfold sls at g
  obtain ⟨h, k⟩ := guard_e g
  cases k
  exact ⟨h.1, h.2.1, h.2.2, sl_len h.1 h.2.1 h.2.2, rfl⟩
theorem Rd.sls {lo hi : Int} {mx : Nat} {l' : List α} (r : Rd sz E m A l) (g : sls l lo hi = some l') (h4 : hi.toNat ≤ mx) : Rd sz E m (sliceA A (Int.toNat lo) mx sz) l' := by
  obtain ⟨h1, h2, h3, _, rfl⟩ := sls_e g
  exact r.sl h1 h2 h3 h4
def mks (B : Int) (x : Int) (z : α) : Option (List α) := if 0 ≤ x ∧ x * B ≤ 140737488355328 ∧ x ≤ 9223372036854775807 then some (List.replicate x.toNat z) else none
theorem mks_e {B : Int} {z : α} {l' : List α} (g : mks B x z = some l') : 0 ≤ x ∧ x * B ≤ 140737488355328 ∧ x ≤ 9223372036854775807 ∧ Int.toNat x = l'.length ∧ l' = List.replicate x.toNat z := by
  unfold mks at g
  obtain ⟨h, k⟩ := guard_e g
  cases k
  exact ⟨h.1, h.2.1, h.2.2, by simp, rfl⟩
theorem mkCells_flat {zc : Array Value} (hz : zc.size = sz) : ∀ n : Nat, (mkCells zc (n * sz)).toList = (List.replicate n zc.toList).flatten := by
  intro n
  unfold mkCells
  apply List.ext_getElem
  · simp [hz]
  · intro i h1 h2
    simp only [Array.toList_map, Array.toList_range, List.getElem_map, List.getElem_range]
    have hi : i < n * sz := by simpa using h1
    have : ∀ (n i : Nat) (hi : i < n * sz) (h2 : i < (List.replicate n zc.toList).flatten.length), zc[i % zc.size]! = (List.replicate n zc.toList).flatten[i] := by
      intro n
      induction n with
      | zero => intro i hi; simp at hi
      | succ n ih =>
        intro i hi h2
        simp only [List.replicate_succ, List.flatten_cons]
        by_cases hlt : i < zc.toList.length
        · rw [List.getElem_append_left hlt]
          have hlt' : i < zc.size := by simpa using hlt
          rw [Nat.mod_eq_of_lt hlt', getElem!_pos zc i hlt']; simp
        · have hge : sz ≤ i := by simpa [hz] using hlt
          rw [List.getElem_append_right (by rw [Array.length_toList, hz]; exact hge)]
          have e1 : i % zc.size = (i - zc.toList.length) % zc.size := by
            rw [Array.length_toList, hz]; exact (Nat.mod_eq_sub_mod hge)
          rw [e1]
          exact ih (i - zc.toList.length) (by rw [Array.length_toList, hz]; rw [Nat.succ_mul] at hi; omega) _
    exact this n i hi h2
theorem le_mx {hi : Int} (h1 : hi ≤ (l.length : Int)) (h2 : l.length ≤ c) : hi.toNat ≤ c := by omega
theorem sls_cap {lo hi : Int} {l' : List α} (g : Hw.sls l lo hi = some l') (h2 : l.length ≤ c) : l'.length ≤ c - Int.toNat lo := by
  obtain ⟨h1, h3, h4, h5, _⟩ := sls_e g
  omega
theorem OS.newNo {h' : Heap} (o : OS No h sz E h' m' A l c) : ∀ b, fp A c b → h.size ≤ b := fun b hb => (o.wr b hb).elim id (fun h => h.elim)
theorem nn {x : Value} {l : List Value} : x :: l ≠ [] := fun h => by cases h
end
end Go.Hw

end
section
namespace Go.Hw
open Go
section
variable {α : Type} {sz : Nat} {E : Heap → α → List Value → Prop} {m m' h h' h0 m0 : Heap} {A : Option Addr} {l : List α} {c n k : Nat} {x : Int} {W : Nat → Prop}
theorem Rd.void (r : Rd sz E m none l) : l = [] := by
  cases l with
  | nil => rfl
  | cons x l => obtain ⟨a, _, h1, _⟩ := r 0 (by simp); cases h1
def gro (B : Nat) (x : Int) : Bool := decide (0 ≤ x ∧ x * (B : Int) ≤ 140737488355328)
theorem grow_nil {e : TypeId} {bytes : Nat} {z : Array Value} {R : Value → Heap → Prop} (S : St W h0 m0 h m) (hz : z.size = sz) (hb0 : 0 < bytes) (g : gro bytes x = true)
    (hk : ∀ A' c' h', OS W h0 sz E h' m A' ([] : List α) c' → Ext h h' → R (.slice A' 0 c') h') :
    splitB (decide ((IntKind.wrap .i64 (x - (IntKind.wrap .i64 (((0 : Nat) : Int) - ((0 : Nat) : Int))))) > (0 : Int))) (0 ≤ (0 : Int) ∧ (0 : Int) ≤ ((0 : Nat) : Int) ∧ ((0 : Nat) : Int) ≤ ((0 : Nat) : Int) ∧
      (AppZ e sz bytes z (sliceA none (Int.toNat (0 : Int)) 0 sz) (Int.toNat ((0 : Nat) : Int) - Int.toNat (0 : Int)) (0 - Int.toNat (0 : Int)) (Value.int .i64 (IntKind.wrap .i64 (x - (IntKind.wrap .i64 (((0 : Nat) : Int) - ((0 : Nat) : Int)))))) h fun v1 h2 =>
        ∃ A3, ∃ n3, ∃ c3, v1 = (Value.slice A3 n3 c3) ∧ 0 ≤ (0 : Int) ∧ (0 : Int) ≤ ((0 : Nat) : Int) ∧ ((0 : Nat) : Int) ≤ ((c3 : Nat) : Int) ∧ (R (Value.slice (sliceA A3 (Int.toNat (0 : Int)) c3 sz) (Int.toNat ((0 : Nat) : Int) - Int.toNat (0 : Int)) (c3 - Int.toNat (0 : Int))) h2)))
      (R (Value.slice none 0 0) h) := by
  unfold gro at g
  obtain ⟨g1, g2⟩ := of_decide_eq_true g
  obtain ⟨k, rfl⟩ : ∃ k : Nat, x = k := ⟨x.toNat, by omega⟩
  have gN : k * bytes ≤ 140737488355328 := by
    have : ((k * bytes : Nat) : Int) = (k : Int) * (bytes : Int) := by push_cast; rfl
    omega
  have hk1 : k ≤ 140737488355328 := Nat.le_trans (Nat.le_mul_of_pos_right _ hb0) gN
  have hw : (IntKind.wrap .i64 ((k : Int) - (IntKind.wrap .i64 (((0 : Nat) : Int) - ((0 : Nat) : Int))))) = (k : Int) := by
    rw [show (IntKind.wrap .i64 (((0 : Nat) : Int) - ((0 : Nat) : Int))) = 0 from rfl]
    rw [wrap_in (by omega) (by omega)]; omega
  rw [hw]
  have nul : ∀ (A' : Option Addr) (c' : Nat), sliceA A' (Int.toNat (0 : Int)) c' sz = A' := by
    intro A' c'
    unfold sliceA
    split
    · rfl
    · cases A' with
      | none => rfl
      | some a => simp [Addr.add]
  refine split_dec (fun hp => ⟨by decide, by decide, by decide, ?_⟩) (fun _ => hk _ _ _ (.inl ⟨rfl, rfl⟩) (.refl _))
  refine ⟨.i64, k, rfl, gN, by omega, .inr ⟨?_, ?_, hb0, ?_, [], ?_, fun c' hc' => ?_⟩⟩
  · show 0 < 0 + k; omega
  · show (0 + k) * bytes ≤ _; rw [Nat.zero_add]; exact gN
  · show 0 + k ≤ _; omega
  · show oldCells sz (sliceA none (Int.toNat (0 : Int)) 0 sz) 0 h = some []
    rw [nul]; rfl
  · refine ⟨_, _, _, rfl, by decide, by decide, Int.natCast_nonneg _, ?_⟩
    rw [nul]
    have e1 := Ext.push h (Obj.cells (([] : List Value).toArray ++ (if k * sz = 0 then [] else (zcells z k).toList).toArray ++ zcells z (c' - (0 + k))) e)
    refine hk _ c' _ (.inr ⟨h.size, e, [], [], (if k * sz = 0 then [] else (zcells z k).toList) ++ (zcells z (c' - (0 + k))).toList, rfl, ?_, rfl, Nat.zero_le _, ?_, .inl S.size, St.notLive S.s⟩) e1
    · have := Blk.new h (([] : List Value).toArray ++ (if k * sz = 0 then [] else (zcells z k).toList).toArray ++ zcells z (c' - (0 + k))) e
      simpa using this
    · rw [List.length_append, zc_len, hz]
      have hc2 : k ≤ c' := by
        have : (Int.toNat ((0 : Nat) : Int) - Int.toNat (0 : Int)) + k ≤ c' := hc'
        simpa using this
      have e2 : (if k * sz = 0 then ([] : List Value) else (zcells z k).toList).length = k * sz := by
        by_cases hz0 : k * sz = 0
        · rw [if_pos hz0, hz0]; rfl
        · rw [if_neg hz0, zc_len, hz]
      rw [e2, ← Nat.add_mul]
      exact Nat.mul_le_mul_right _ (by simp; omega)
end
section
variable {α : Type} {sz : Nat} {E : Heap → α → List Value → Prop} {m m' mL h h' h0 m0 : Heap} {A : Option Addr} {l : List α} {c b : Nat} {cs : List Value} {t : TypeId} {W W' : Nat → Prop}
theorem St.unlend (T : St W' h mL h' m') (s : Sub m h) (hd : ∀ b, W' b → ¬ Live m b) : St W' h m h' m where
  up := .refl _
  s b o h1 h2 := by
    rw [T.fr b (s.lt ⟨o, h1, h2⟩) (fun hw => hd b hw ⟨o, h1, h2⟩)]; exact s b o h1 h2
  size := T.size
  fr := T.fr
  lv b _ hl := .inl hl
end
section
variable {κ ν : Type} [DecidableEq κ] {h h' m m' h0 m0 : Heap} {b : Nat} {W W' : Nat → Prop} {kv : κ → Value} {es : List (κ × ν)} {vs : List (κ × Value)} {k : κ} {x zv : ν} {v z : Value} {P : Program} {t elem : TypeId} {sz : Nat}
def MonoV (EV : Heap → ν → Value → Prop) : Prop := ∀ m h x v, Sub m h → EV m x v → EV h x v
variable {EV : Heap → ν → Value → Prop}
end
section
variable {α : Type} {f : α → Value} {d : α} {L : List α} {n : Nat}
def eArr (n : Nat) (f : α → Value) (d : α) (_ : Heap) (x : List α) (cs : List Value) : Prop := x.length = n ∧ cs = (List.range n).map fun j => f (x.getD j d)
theorem arr_lit (hl : L.length = n) : (List.range n).map (fun j => f (L.getD j d)) = L.map f := by
  subst hl
  apply List.ext_getElem
  · simp
  · intro i h1 h2
    have : i < L.length := by simpa using h1
    simp [List.getD_eq_getElem?_getD, this]
theorem tell_arr (hf : ∀ x, Flat (f x)) : Tell n (eArr n f d) := ⟨fun _ _ _ _ _ h => h, fun _ _ _ h => by rw [h.2]; simp, fun _ _ _ h => by
  rw [h.2]; intro v hv
  obtain ⟨j, _, rfl⟩ := List.mem_map.1 hv
  exact hf _⟩
theorem gi_ltn {i : Int} {y : α} (g : gi L i = some y) (hl : L.length = n) : i < ((n : Nat) : Int) := by have := gi_lt g; rw [hl] at this; exact this
theorem arr_get {i : Int} {y : α} (g : gi L i = some y) (hl : L.length = n) : ((List.range n).map fun j => f (L.getD j d))[i.toNat]? = some (f y) := by
  rw [arr_lit hl, List.getElem?_map, gi_get g]; rfl
theorem ldArr {m h : Heap} {a : Addr} {N off : Nat} {cs : List Value} {i : Int} {y : α} (s : Sub m h) (hc : cellsH m a 0 N = some cs) (hs : (cs.drop off).take n = (List.range n).map fun j => f (L.getD j d)) (hl : L.length = n) (g : gi L i = some y) :
    ldv false 1 h (Addr.add (Addr.add a off) (Int.toNat i * 1)) = some (f y) := by
  have h1 := arr_get (f := f) (d := d) g hl
  rw [← hs] at h1
  have hlt : i.toNat < n := by have := gi_ltN g; omega
  rw [List.getElem?_take_of_lt hlt, List.getElem?_drop] at h1
  rw [Nat.mul_one, add_add]
  exact ldk s hc h1
theorem ldArr0 {m h : Heap} {a : Addr} {N : Nat} {cs : List Value} {i : Int} {y : α} (s : Sub m h) (hc : cellsH m a 0 N = some cs) (hs : (cs.drop 0).take n = (List.range n).map fun j => f (L.getD j d)) (hl : L.length = n) (g : gi L i = some y) :
    ldv false 1 h (Addr.add a (Int.toNat i * 1)) = some (f y) := ldArr (off := 0) s hc hs hl g
theorem fldArr {cs : List Value} {i : Int} {y : α} (hs : cs = (List.range n).map fun j => f (L.getD j d)) (hl : L.length = n) (g : gi L i = some y) : fldv false 1 (Int.toNat i * 1) (.agg cs.toArray) = some (f y) := by
  have h1 := arr_get (f := f) (d := d) g hl
  rw [← hs] at h1
  simpa [fldv] using h1
end
section
variable {H : Type} {enc : TypeId × Value → H} {P : Program} {W : World}
theorem tells_i64 {t : TypeId} (hu : P.underlying t = some (.int .i64)) : Tells enc P W t (eInt .i64) (fun x => -9223372036854775808 ≤ x ∧ x ≤ 9223372036854775807) := tells_map (tells_int hu) fun a _ h q => ⟨a, h, wf_i64 q⟩
theorem tells_sliceL {α : Type} {t e : TypeId} {sz B : Nat} {E : Heap → α → List Value → Prop} {Q : α → Prop} (hu : P.underlying t = some (.slice e)) (hc : P.cellsOf e = sz) (hB : P.bytesOf e = B) (he : Tells enc P W e E Q) :
    Tells enc P W t (eRow sz E) (fun l => l.length * B ≤ 140737488351232 ∧ ∀ a ∈ l, Q a) := tells_map (tells_slice hu hc hB he) fun a _ h q => ⟨a, h, q⟩
end
end Go.Hw

end
