/- Part 2: what the law TreeTells needs, put together out of texts of this session. -/
import Derived.ProofKit
import Derived.OpenShut
import Derived.ShutString
import Derived.ChangeOld
import Derived.Below
import Derived.SizedLaws
import Derived.ChangeArms
import Derived.Laws.StructEq
import Derived.Test.YtnlocljmalhddabDoorZTreeTellsa
section
namespace Go.Proofs.YtnlocljmalhddabDoor.Fw
open Go Go.Hw Go.Proofs
set_option linter.unusedVariables false
def f42.T : Tab := { sh := tSh, tup := tTup, keep := [], plan := [] }
def f42.kp : Keep := [([false, false, true, false, true, true], [3, 6, 7, 8])]
theorem f42.good : goodCode Tryd.prog f42.T (rootOf Tryd.f42) = true := by kernel_rfl
def f42.l0 (R : Value → Heap → Prop) (s3 : ByteArray) (A6 : Option Addr) (n6 : Nat) (c6 : Nat) (x7 : Int) (x8 : Int) (h : Heap) : Prop := Pt Tryd.prog Tryd.f42 R [false, false, true, false, true, true] (mkFr [(3, (Value.string s3)), (6, (Value.slice A6 n6 c6)), (7, (Value.int .i64 x7)), (8, (Value.int .i64 x8))]) h
set_option maxRecDepth 100000 in
def f42.l0T (R : Value → Heap → Prop) (s3 : ByteArray) (A6 : Option Addr) (n6 : Nat) (c6 : Nat) (x7 : Int) (x8 : Int) (h : Heap) : Prop :=
  splitB (decide (x8 < x7)) (ptrOk A6 fun a1_ => 0 ≤ x8 ∧ x8 < ((n6 : Nat) : Int) ∧ (∃ v2_, ldv false 1 h (Addr.add a1_ (Int.toNat x8 * 1)) = some v2_ ∧ ∃ x3_, v2_ = (Value.int .i64 x3_) ∧ Run Tryd.prog 64 #[(Value.int .i64 x3_)] h fun v4_ h5_ => ∃ s6_, v4_ = (Value.string s6_) ∧ ByteArray.size s6_ + ByteArray.size (ByteArray.mk #[44]) ≤ 9223372036854775807 ∧ (ByteArray.size s3 + ByteArray.size (s6_ ++ (ByteArray.mk #[44])) ≤ 9223372036854775807 ∧ (f42.l0 R (s3 ++ (s6_ ++ (ByteArray.mk #[44]))) A6 n6 c6 x7 (IntKind.wrap .i64 (x8 + (1 : Int))) h5_)))) (R (Value.string s3) h)
set_option maxRecDepth 100000 in
theorem f42.l0_in {R : Value → Heap → Prop} {s3 : ByteArray} {A6 : Option Addr} {n6 : Nat} {c6 : Nat} {x7 : Int} {x8 : Int} {h : Heap} (H : f42.l0T R s3 A6 n6 c6 x7 x8 h) : f42.l0 R s3 A6 n6 c6 x7 x8 h :=
  pt_intro mixed f42.good (Eq.mpr (show (Fwd Tryd.prog f42.T f42.kp Tryd.f42 R [false, false, true, false, true, true] (mkFr [(3, (Value.string s3)), (6, (Value.slice A6 n6 c6)), (7, (Value.int .i64 x7)), (8, (Value.int .i64 x8))]) h) = (f42.l0T R s3 A6 n6 c6 x7 x8 h) by kernel_rfl) H)
set_option maxRecDepth 100000 in
def f42.runT (R : Value → Heap → Prop) (A0 : Option Addr) (n0 : Nat) (c0 : Nat) (h : Heap) : Prop :=
  f42.l0 R (ByteArray.mk #[]) A0 n0 c0 ((n0 : Nat) : Int) (0 : Int) h
set_option maxRecDepth 100000 in
theorem f42.run {R : Value → Heap → Prop} {A0 : Option Addr} {n0 : Nat} {c0 : Nat} {h : Heap} (H : f42.runT R A0 n0 c0 h) : Run Tryd.prog 42 #[(Value.slice A0 n0 c0)] h R :=
  run_of mixed Tryd.func42 (by kernel_rfl) (by kernel_rfl) f42.good (Eq.mpr (show (Fwd Tryd.prog f42.T f42.kp Tryd.f42 R [] (mkFr (argL [(Value.slice A0 n0 c0)] 0)) h) = (f42.runT R A0 n0 c0 h) by kernel_rfl) H)
def f41.T : Tab := { sh := tSh, tup := tTup, keep := [], plan := [] }
def f41.kp : Keep := [([false, false, true, false, true, true], [3, 6, 7, 8])]
theorem f41.good : goodCode Tryd.prog f41.T (rootOf Tryd.f41) = true := by kernel_rfl
def f41.l0 (R : Value → Heap → Prop) (s3 : ByteArray) (A6 : Option Addr) (n6 : Nat) (c6 : Nat) (x7 : Int) (x8 : Int) (h : Heap) : Prop := Pt Tryd.prog Tryd.f41 R [false, false, true, false, true, true] (mkFr [(3, (Value.string s3)), (6, (Value.slice A6 n6 c6)), (7, (Value.int .i64 x7)), (8, (Value.int .i64 x8))]) h
set_option maxRecDepth 100000 in
def f41.l0T (R : Value → Heap → Prop) (s3 : ByteArray) (A6 : Option Addr) (n6 : Nat) (c6 : Nat) (x7 : Int) (x8 : Int) (h : Heap) : Prop :=
  splitB (decide (x8 < x7)) (ptrOk A6 fun a1_ => 0 ≤ x8 ∧ x8 < ((n6 : Nat) : Int) ∧ (∃ v2_, ldv false 1 h (Addr.add a1_ (Int.toNat x8 * 1)) = some v2_ ∧ ∃ s3_, v2_ = (Value.string s3_) ∧ newH h (Obj.cells #[(Value.int .i64 ((ByteArray.size s3_ : Nat) : Int))] 3) fun h4_ => Run Tryd.prog 42 #[(Value.slice (some ⟨Array.size h, 0, none⟩) 1 1)] h4_ fun v5_ h6_ => ∃ s7_, v5_ = (Value.string s7_) ∧ ByteArray.size s7_ + ByteArray.size s3_ ≤ 9223372036854775807 ∧ (ByteArray.size s3 + ByteArray.size (s7_ ++ s3_) ≤ 9223372036854775807 ∧ (f41.l0 R (s3 ++ (s7_ ++ s3_)) A6 n6 c6 x7 (IntKind.wrap .i64 (x8 + (1 : Int))) h6_)))) (R (Value.string s3) h)
set_option maxRecDepth 100000 in
theorem f41.l0_in {R : Value → Heap → Prop} {s3 : ByteArray} {A6 : Option Addr} {n6 : Nat} {c6 : Nat} {x7 : Int} {x8 : Int} {h : Heap} (H : f41.l0T R s3 A6 n6 c6 x7 x8 h) : f41.l0 R s3 A6 n6 c6 x7 x8 h :=
  pt_intro mixed f41.good (Eq.mpr (show (Fwd Tryd.prog f41.T f41.kp Tryd.f41 R [false, false, true, false, true, true] (mkFr [(3, (Value.string s3)), (6, (Value.slice A6 n6 c6)), (7, (Value.int .i64 x7)), (8, (Value.int .i64 x8))]) h) = (f41.l0T R s3 A6 n6 c6 x7 x8 h) by kernel_rfl) H)
set_option maxRecDepth 100000 in
def f41.runT (R : Value → Heap → Prop) (A0 : Option Addr) (n0 : Nat) (c0 : Nat) (h : Heap) : Prop :=
  f41.l0 R (ByteArray.mk #[]) A0 n0 c0 ((n0 : Nat) : Int) (0 : Int) h
set_option maxRecDepth 100000 in
theorem f41.run {R : Value → Heap → Prop} {A0 : Option Addr} {n0 : Nat} {c0 : Nat} {h : Heap} (H : f41.runT R A0 n0 c0 h) : Run Tryd.prog 41 #[(Value.slice A0 n0 c0)] h R :=
  run_of mixed Tryd.func41 (by kernel_rfl) (by kernel_rfl) f41.good (Eq.mpr (show (Fwd Tryd.prog f41.T f41.kp Tryd.f41 R [] (mkFr (argL [(Value.slice A0 n0 c0)] 0)) h) = (f41.runT R A0 n0 c0 h) by kernel_rfl) H)
def f46.T : Tab := { sh := tSh, tup := tTup, keep := [], plan := [(1, (.take 0 (.take 2 (.take 7 (.take 1 (.take 3 (.take 4 (.alt false 5 (.alt false 6 (.eff true 8 (.eff true 9 (.eff false 10 (.take 11 (.take 12 .done))))) (.eff true 8 (.alt false 6 (.eff true 9 (.eff false 10 (.take 11 (.take 12 .done)))) (.eff true 9 (.eff false 6 (.eff false 10 (.take 11 (.take 12 .done)))))))) (.eff true 8 (.alt false 5 (.alt false 6 (.eff true 9 (.eff false 10 (.take 11 (.take 12 .done)))) (.eff true 9 (.eff false 6 (.eff false 10 (.take 11 (.take 12 .done)))))) (.eff true 9 (.eff false 5 (.eff false 6 (.eff false 10 (.take 11 (.take 12 .done))))))))))))))))] }
def f46.kp : Keep := [([true, true], [1, 3]), ([false, false, true, false, true, true], [3, 19, 20, 21])]
theorem f46.good : goodCode Tryd.prog f46.T (rootOf Tryd.f46) = true := by kernel_rfl
def f46.j0 (R : Value → Heap → Prop) (a1 : Addr) (s3 : ByteArray) (h : Heap) : Prop := Pt Tryd.prog Tryd.f46 R [true, true] (mkFr [(1, (Value.pointer (some a1))), (3, (Value.string s3))]) h
def f46.l0 (R : Value → Heap → Prop) (s3 : ByteArray) (A19 : Option Addr) (n19 : Nat) (c19 : Nat) (x20 : Int) (x21 : Int) (h : Heap) : Prop := Pt Tryd.prog Tryd.f46 R [false, false, true, false, true, true] (mkFr [(3, (Value.string s3)), (19, (Value.slice A19 n19 c19)), (20, (Value.int .i64 x20)), (21, (Value.int .i64 x21))]) h
set_option maxRecDepth 100000 in
def f46.j0T (R : Value → Heap → Prop) (a1 : Addr) (s3 : ByteArray) (h : Heap) : Prop :=
  ∃ v1_, ldv false 1 h (Addr.add a1 2) = some v1_ ∧ ∃ A2_, ∃ n2_, ∃ c2_, v1_ = (Value.slice A2_ n2_ c2_) ∧ f46.l0 R s3 A2_ n2_ c2_ ((n2_ : Nat) : Int) (0 : Int) h
set_option maxRecDepth 100000 in
theorem f46.j0_in {R : Value → Heap → Prop} {a1 : Addr} {s3 : ByteArray} {h : Heap} (H : f46.j0T R a1 s3 h) : f46.j0 R a1 s3 h :=
  pt_intro mixed f46.good (Eq.mpr (show (Fwd Tryd.prog f46.T f46.kp Tryd.f46 R [true, true] (mkFr [(1, (Value.pointer (some a1))), (3, (Value.string s3))]) h) = (f46.j0T R a1 s3 h) by kernel_rfl) H)
set_option maxRecDepth 100000 in
def f46.l0T (R : Value → Heap → Prop) (s3 : ByteArray) (A19 : Option Addr) (n19 : Nat) (c19 : Nat) (x20 : Int) (x21 : Int) (h : Heap) : Prop :=
  splitB (decide (x21 < x20)) (ptrOk A19 fun a1_ => 0 ≤ x21 ∧ x21 < ((n19 : Nat) : Int) ∧ (∃ v2_, ldv true 3 h (Addr.add a1_ (Int.toNat x21 * 3)) = some v2_ ∧ newH h (Obj.cells #[(Value.int .i64 (0 : Int)), (Value.string (ByteArray.mk #[])), (Value.slice none 0 0)] 59) fun h3_ => ∃ l5_ : List Value, v2_ = Value.agg l5_.toArray ∧ l5_.length = 3 ∧ ∃ h4_, stH h3_ (⟨Array.size h, 0, none⟩) l5_ 0 = some h4_ ∧ ∃ v6_, ldv true 3 h4_ (⟨Array.size h, 0, none⟩) = some v6_ ∧ Run Tryd.prog 46 #[v6_] h4_ fun v7_ h8_ => ∃ s9_, v7_ = (Value.string s9_) ∧ ByteArray.size s3 + ByteArray.size s9_ ≤ 9223372036854775807 ∧ (f46.l0 R (s3 ++ s9_) A19 n19 c19 x20 (IntKind.wrap .i64 (x21 + (1 : Int))) h8_))) (R (Value.string s3) h)
set_option maxRecDepth 100000 in
theorem f46.l0_in {R : Value → Heap → Prop} {s3 : ByteArray} {A19 : Option Addr} {n19 : Nat} {c19 : Nat} {x20 : Int} {x21 : Int} {h : Heap} (H : f46.l0T R s3 A19 n19 c19 x20 x21 h) : f46.l0 R s3 A19 n19 c19 x20 x21 h :=
  pt_intro mixed f46.good (Eq.mpr (show (Fwd Tryd.prog f46.T f46.kp Tryd.f46 R [false, false, true, false, true, true] (mkFr [(3, (Value.string s3)), (19, (Value.slice A19 n19 c19)), (20, (Value.int .i64 x20)), (21, (Value.int .i64 x21))]) h) = (f46.l0T R s3 A19 n19 c19 x20 x21 h) by kernel_rfl) H)
set_option maxRecDepth 100000 in
def f46.runT (R : Value → Heap → Prop) (v0 : Value) (h : Heap) : Prop :=
  newH h (Obj.cells ((v0).cells) 59) fun h1_ => ∃ v2_, ldv false 1 h1_ (⟨Array.size h, 0, none⟩) = some v2_ ∧ ∃ x3_, v2_ = (Value.int .i64 x3_) ∧ ∃ v4_, ldv false 1 h1_ (Addr.add (⟨Array.size h, 0, none⟩) 2) = some v4_ ∧ ∃ A5_, ∃ n5_, ∃ c5_, v4_ = (Value.slice A5_ n5_ c5_) ∧ (newH h1_ (Obj.cells #[(Value.int .i64 x3_), (Value.int .i64 ((n5_ : Nat) : Int))] 3) fun h6_ => (Run Tryd.prog 42 #[(Value.slice (some ⟨Array.size h1_, 0, none⟩) 2 2)] h6_ fun v7_ h8_ => ∃ s9_, v7_ = (Value.string s9_) ∧ ∃ v10_, ldv false 1 h8_ (Addr.add (⟨Array.size h, 0, none⟩) 1) = some v10_ ∧ ∃ s11_, v10_ = (Value.string s11_) ∧ Ext h8_ h8_ ∧ (newH h8_ (Obj.cells #[(Value.string s11_)] 9) fun h12_ => Ext h8_ h12_ ∧ (Run Tryd.prog 41 #[(Value.slice (some ⟨Array.size h8_, 0, none⟩) 1 1)] h12_ fun v13_ h14_ => ∃ s15_, v13_ = (Value.string s15_) ∧ ByteArray.size s9_ + ByteArray.size s15_ ≤ 9223372036854775807 ∧ (f46.j0 R (⟨Array.size h, 0, none⟩) (s9_ ++ s15_) h14_)))) ∧ (∃ v16_, ldv false 1 h6_ (Addr.add (⟨Array.size h, 0, none⟩) 1) = some v16_ ∧ ∃ s17_, v16_ = (Value.string s17_) ∧ Ext h6_ h6_ ∧ ((Run Tryd.prog 42 #[(Value.slice (some ⟨Array.size h1_, 0, none⟩) 2 2)] h6_ fun v18_ h19_ => ∃ s20_, v18_ = (Value.string s20_) ∧ newH h19_ (Obj.cells #[(Value.string s17_)] 9) fun h21_ => Ext h19_ h21_ ∧ (Run Tryd.prog 41 #[(Value.slice (some ⟨Array.size h19_, 0, none⟩) 1 1)] h21_ fun v22_ h23_ => ∃ s24_, v22_ = (Value.string s24_) ∧ ByteArray.size s20_ + ByteArray.size s24_ ≤ 9223372036854775807 ∧ (f46.j0 R (⟨Array.size h, 0, none⟩) (s20_ ++ s24_) h23_))) ∧ (newH h6_ (Obj.cells #[(Value.string s17_)] 9) fun h25_ => Ext h6_ h25_ ∧ (Run Tryd.prog 42 #[(Value.slice (some ⟨Array.size h1_, 0, none⟩) 2 2)] h25_ fun v26_ h27_ => ∃ s28_, v26_ = (Value.string s28_) ∧ Run Tryd.prog 41 #[(Value.slice (some ⟨Array.size h6_, 0, none⟩) 1 1)] h27_ fun v29_ h30_ => ∃ s31_, v29_ = (Value.string s31_) ∧ ByteArray.size s28_ + ByteArray.size s31_ ≤ 9223372036854775807 ∧ (f46.j0 R (⟨Array.size h, 0, none⟩) (s28_ ++ s31_) h30_)))))) ∧ (∃ v32_, ldv false 1 h1_ (Addr.add (⟨Array.size h, 0, none⟩) 1) = some v32_ ∧ ∃ s33_, v32_ = (Value.string s33_) ∧ Ext h1_ h1_ ∧ ((newH h1_ (Obj.cells #[(Value.int .i64 x3_), (Value.int .i64 ((n5_ : Nat) : Int))] 3) fun h34_ => (Run Tryd.prog 42 #[(Value.slice (some ⟨Array.size h1_, 0, none⟩) 2 2)] h34_ fun v35_ h36_ => ∃ s37_, v35_ = (Value.string s37_) ∧ newH h36_ (Obj.cells #[(Value.string s33_)] 9) fun h38_ => Ext h36_ h38_ ∧ (Run Tryd.prog 41 #[(Value.slice (some ⟨Array.size h36_, 0, none⟩) 1 1)] h38_ fun v39_ h40_ => ∃ s41_, v39_ = (Value.string s41_) ∧ ByteArray.size s37_ + ByteArray.size s41_ ≤ 9223372036854775807 ∧ (f46.j0 R (⟨Array.size h, 0, none⟩) (s37_ ++ s41_) h40_))) ∧ (newH h34_ (Obj.cells #[(Value.string s33_)] 9) fun h42_ => Ext h34_ h42_ ∧ (Run Tryd.prog 42 #[(Value.slice (some ⟨Array.size h1_, 0, none⟩) 2 2)] h42_ fun v43_ h44_ => ∃ s45_, v43_ = (Value.string s45_) ∧ Run Tryd.prog 41 #[(Value.slice (some ⟨Array.size h34_, 0, none⟩) 1 1)] h44_ fun v46_ h47_ => ∃ s48_, v46_ = (Value.string s48_) ∧ ByteArray.size s45_ + ByteArray.size s48_ ≤ 9223372036854775807 ∧ (f46.j0 R (⟨Array.size h, 0, none⟩) (s45_ ++ s48_) h47_)))) ∧ (newH h1_ (Obj.cells #[(Value.string s33_)] 9) fun h49_ => Ext h1_ h49_ ∧ (newH h49_ (Obj.cells #[(Value.int .i64 x3_), (Value.int .i64 ((n5_ : Nat) : Int))] 3) fun h50_ => Run Tryd.prog 42 #[(Value.slice (some ⟨Array.size h49_, 0, none⟩) 2 2)] h50_ fun v51_ h52_ => ∃ s53_, v51_ = (Value.string s53_) ∧ Run Tryd.prog 41 #[(Value.slice (some ⟨Array.size h1_, 0, none⟩) 1 1)] h52_ fun v54_ h55_ => ∃ s56_, v54_ = (Value.string s56_) ∧ ByteArray.size s53_ + ByteArray.size s56_ ≤ 9223372036854775807 ∧ (f46.j0 R (⟨Array.size h, 0, none⟩) (s53_ ++ s56_) h55_)))))
set_option maxRecDepth 100000 in
theorem f46.run {R : Value → Heap → Prop} {v0 : Value} {h : Heap} (H : f46.runT R v0 h) : Run Tryd.prog 46 #[v0] h R :=
  run_of mixed Tryd.func46 (by kernel_rfl) (by kernel_rfl) f46.good (Eq.mpr (show (Fwd Tryd.prog f46.T f46.kp Tryd.f46 R [] (mkFr (argL [v0] 0)) h) = (f46.runT R v0 h) by kernel_rfl) H)
def f47.T : Tab := { sh := tSh, tup := tTup, keep := [], plan := [(1, (.take 0 (.take 2 (.take 4 (.take 9 (.take 1 (.take 3 (.take 5 (.take 6 (.alt false 7 (.alt false 8 (.eff true 10 (.eff true 11 (.eff false 12 (.take 13 (.take 14 .done))))) (.eff true 10 (.alt false 8 (.eff true 11 (.eff false 12 (.take 13 (.take 14 .done)))) (.eff true 11 (.eff false 8 (.eff false 12 (.take 13 (.take 14 .done)))))))) (.eff true 10 (.alt false 7 (.alt false 8 (.eff true 11 (.eff false 12 (.take 13 (.take 14 .done)))) (.eff true 11 (.eff false 8 (.eff false 12 (.take 13 (.take 14 .done)))))) (.eff true 11 (.eff false 7 (.eff false 8 (.eff false 12 (.take 13 (.take 14 .done))))))))))))))))))] }
def f47.kp : Keep := [([true, true], [1, 3]), ([false, false, true, false, true, true], [3, 21, 22, 23])]
theorem f47.good : goodCode Tryd.prog f47.T (rootOf Tryd.f47) = true := by kernel_rfl
def f47.j0 (R : Value → Heap → Prop) (a1 : Addr) (s3 : ByteArray) (h : Heap) : Prop := Pt Tryd.prog Tryd.f47 R [true, true] (mkFr [(1, (Value.pointer (some a1))), (3, (Value.string s3))]) h
def f47.l0 (R : Value → Heap → Prop) (s3 : ByteArray) (A21 : Option Addr) (n21 : Nat) (c21 : Nat) (x22 : Int) (x23 : Int) (h : Heap) : Prop := Pt Tryd.prog Tryd.f47 R [false, false, true, false, true, true] (mkFr [(3, (Value.string s3)), (21, (Value.slice A21 n21 c21)), (22, (Value.int .i64 x22)), (23, (Value.int .i64 x23))]) h
set_option maxRecDepth 100000 in
def f47.j0T (R : Value → Heap → Prop) (a1 : Addr) (s3 : ByteArray) (h : Heap) : Prop :=
  ∃ v1_, ldv false 1 h (Addr.add a1 3) = some v1_ ∧ ∃ A2_, ∃ n2_, ∃ c2_, v1_ = (Value.slice A2_ n2_ c2_) ∧ f47.l0 R s3 A2_ n2_ c2_ ((n2_ : Nat) : Int) (0 : Int) h
set_option maxRecDepth 100000 in
theorem f47.j0_in {R : Value → Heap → Prop} {a1 : Addr} {s3 : ByteArray} {h : Heap} (H : f47.j0T R a1 s3 h) : f47.j0 R a1 s3 h :=
  pt_intro mixed f47.good (Eq.mpr (show (Fwd Tryd.prog f47.T f47.kp Tryd.f47 R [true, true] (mkFr [(1, (Value.pointer (some a1))), (3, (Value.string s3))]) h) = (f47.j0T R a1 s3 h) by kernel_rfl) H)
set_option maxRecDepth 100000 in
def f47.l0T (R : Value → Heap → Prop) (s3 : ByteArray) (A21 : Option Addr) (n21 : Nat) (c21 : Nat) (x22 : Int) (x23 : Int) (h : Heap) : Prop :=
  splitB (decide (x23 < x22)) (ptrOk A21 fun a1_ => 0 ≤ x23 ∧ x23 < ((n21 : Nat) : Int) ∧ (∃ v2_, ldv true 4 h (Addr.add a1_ (Int.toNat x23 * 4)) = some v2_ ∧ newH h (Obj.cells #[(Value.int .i64 (0 : Int)), (Value.int .i64 (0 : Int)), (Value.string (ByteArray.mk #[])), (Value.slice none 0 0)] 48) fun h3_ => ∃ l5_ : List Value, v2_ = Value.agg l5_.toArray ∧ l5_.length = 4 ∧ ∃ h4_, stH h3_ (⟨Array.size h, 0, none⟩) l5_ 0 = some h4_ ∧ ∃ v6_, ldv true 4 h4_ (⟨Array.size h, 0, none⟩) = some v6_ ∧ Run Tryd.prog 47 #[v6_] h4_ fun v7_ h8_ => ∃ s9_, v7_ = (Value.string s9_) ∧ ByteArray.size s3 + ByteArray.size s9_ ≤ 9223372036854775807 ∧ (f47.l0 R (s3 ++ s9_) A21 n21 c21 x22 (IntKind.wrap .i64 (x23 + (1 : Int))) h8_))) (R (Value.string s3) h)
set_option maxRecDepth 100000 in
theorem f47.l0_in {R : Value → Heap → Prop} {s3 : ByteArray} {A21 : Option Addr} {n21 : Nat} {c21 : Nat} {x22 : Int} {x23 : Int} {h : Heap} (H : f47.l0T R s3 A21 n21 c21 x22 x23 h) : f47.l0 R s3 A21 n21 c21 x22 x23 h :=
  pt_intro mixed f47.good (Eq.mpr (show (Fwd Tryd.prog f47.T f47.kp Tryd.f47 R [false, false, true, false, true, true] (mkFr [(3, (Value.string s3)), (21, (Value.slice A21 n21 c21)), (22, (Value.int .i64 x22)), (23, (Value.int .i64 x23))]) h) = (f47.l0T R s3 A21 n21 c21 x22 x23 h) by kernel_rfl) H)
set_option maxRecDepth 100000 in
def f47.runT (R : Value → Heap → Prop) (v0 : Value) (h : Heap) : Prop :=
  newH h (Obj.cells ((v0).cells) 48) fun h1_ => ∃ v2_, ldv false 1 h1_ (⟨Array.size h, 0, none⟩) = some v2_ ∧ ∃ x3_, v2_ = (Value.int .i64 x3_) ∧ ∃ v4_, ldv false 1 h1_ (Addr.add (⟨Array.size h, 0, none⟩) 1) = some v4_ ∧ ∃ x5_, v4_ = (Value.int .i64 x5_) ∧ ∃ v6_, ldv false 1 h1_ (Addr.add (⟨Array.size h, 0, none⟩) 3) = some v6_ ∧ ∃ A7_, ∃ n7_, ∃ c7_, v6_ = (Value.slice A7_ n7_ c7_) ∧ (newH h1_ (Obj.cells #[(Value.int .i64 x3_), (Value.int .i64 x5_), (Value.int .i64 ((n7_ : Nat) : Int))] 3) fun h8_ => (Run Tryd.prog 42 #[(Value.slice (some ⟨Array.size h1_, 0, none⟩) 3 3)] h8_ fun v9_ h10_ => ∃ s11_, v9_ = (Value.string s11_) ∧ ∃ v12_, ldv false 1 h10_ (Addr.add (⟨Array.size h, 0, none⟩) 2) = some v12_ ∧ ∃ s13_, v12_ = (Value.string s13_) ∧ Ext h10_ h10_ ∧ (newH h10_ (Obj.cells #[(Value.string s13_)] 9) fun h14_ => Ext h10_ h14_ ∧ (Run Tryd.prog 41 #[(Value.slice (some ⟨Array.size h10_, 0, none⟩) 1 1)] h14_ fun v15_ h16_ => ∃ s17_, v15_ = (Value.string s17_) ∧ ByteArray.size s11_ + ByteArray.size s17_ ≤ 9223372036854775807 ∧ (f47.j0 R (⟨Array.size h, 0, none⟩) (s11_ ++ s17_) h16_)))) ∧ (∃ v18_, ldv false 1 h8_ (Addr.add (⟨Array.size h, 0, none⟩) 2) = some v18_ ∧ ∃ s19_, v18_ = (Value.string s19_) ∧ Ext h8_ h8_ ∧ ((Run Tryd.prog 42 #[(Value.slice (some ⟨Array.size h1_, 0, none⟩) 3 3)] h8_ fun v20_ h21_ => ∃ s22_, v20_ = (Value.string s22_) ∧ newH h21_ (Obj.cells #[(Value.string s19_)] 9) fun h23_ => Ext h21_ h23_ ∧ (Run Tryd.prog 41 #[(Value.slice (some ⟨Array.size h21_, 0, none⟩) 1 1)] h23_ fun v24_ h25_ => ∃ s26_, v24_ = (Value.string s26_) ∧ ByteArray.size s22_ + ByteArray.size s26_ ≤ 9223372036854775807 ∧ (f47.j0 R (⟨Array.size h, 0, none⟩) (s22_ ++ s26_) h25_))) ∧ (newH h8_ (Obj.cells #[(Value.string s19_)] 9) fun h27_ => Ext h8_ h27_ ∧ (Run Tryd.prog 42 #[(Value.slice (some ⟨Array.size h1_, 0, none⟩) 3 3)] h27_ fun v28_ h29_ => ∃ s30_, v28_ = (Value.string s30_) ∧ Run Tryd.prog 41 #[(Value.slice (some ⟨Array.size h8_, 0, none⟩) 1 1)] h29_ fun v31_ h32_ => ∃ s33_, v31_ = (Value.string s33_) ∧ ByteArray.size s30_ + ByteArray.size s33_ ≤ 9223372036854775807 ∧ (f47.j0 R (⟨Array.size h, 0, none⟩) (s30_ ++ s33_) h32_)))))) ∧ (∃ v34_, ldv false 1 h1_ (Addr.add (⟨Array.size h, 0, none⟩) 2) = some v34_ ∧ ∃ s35_, v34_ = (Value.string s35_) ∧ Ext h1_ h1_ ∧ ((newH h1_ (Obj.cells #[(Value.int .i64 x3_), (Value.int .i64 x5_), (Value.int .i64 ((n7_ : Nat) : Int))] 3) fun h36_ => (Run Tryd.prog 42 #[(Value.slice (some ⟨Array.size h1_, 0, none⟩) 3 3)] h36_ fun v37_ h38_ => ∃ s39_, v37_ = (Value.string s39_) ∧ newH h38_ (Obj.cells #[(Value.string s35_)] 9) fun h40_ => Ext h38_ h40_ ∧ (Run Tryd.prog 41 #[(Value.slice (some ⟨Array.size h38_, 0, none⟩) 1 1)] h40_ fun v41_ h42_ => ∃ s43_, v41_ = (Value.string s43_) ∧ ByteArray.size s39_ + ByteArray.size s43_ ≤ 9223372036854775807 ∧ (f47.j0 R (⟨Array.size h, 0, none⟩) (s39_ ++ s43_) h42_))) ∧ (newH h36_ (Obj.cells #[(Value.string s35_)] 9) fun h44_ => Ext h36_ h44_ ∧ (Run Tryd.prog 42 #[(Value.slice (some ⟨Array.size h1_, 0, none⟩) 3 3)] h44_ fun v45_ h46_ => ∃ s47_, v45_ = (Value.string s47_) ∧ Run Tryd.prog 41 #[(Value.slice (some ⟨Array.size h36_, 0, none⟩) 1 1)] h46_ fun v48_ h49_ => ∃ s50_, v48_ = (Value.string s50_) ∧ ByteArray.size s47_ + ByteArray.size s50_ ≤ 9223372036854775807 ∧ (f47.j0 R (⟨Array.size h, 0, none⟩) (s47_ ++ s50_) h49_)))) ∧ (newH h1_ (Obj.cells #[(Value.string s35_)] 9) fun h51_ => Ext h1_ h51_ ∧ (newH h51_ (Obj.cells #[(Value.int .i64 x3_), (Value.int .i64 x5_), (Value.int .i64 ((n7_ : Nat) : Int))] 3) fun h52_ => Run Tryd.prog 42 #[(Value.slice (some ⟨Array.size h51_, 0, none⟩) 3 3)] h52_ fun v53_ h54_ => ∃ s55_, v53_ = (Value.string s55_) ∧ Run Tryd.prog 41 #[(Value.slice (some ⟨Array.size h1_, 0, none⟩) 1 1)] h54_ fun v56_ h57_ => ∃ s58_, v56_ = (Value.string s58_) ∧ ByteArray.size s55_ + ByteArray.size s58_ ≤ 9223372036854775807 ∧ (f47.j0 R (⟨Array.size h, 0, none⟩) (s55_ ++ s58_) h57_)))))
set_option maxRecDepth 100000 in
theorem f47.run {R : Value → Heap → Prop} {v0 : Value} {h : Heap} (H : f47.runT R v0 h) : Run Tryd.prog 47 #[v0] h R :=
  run_of mixed Tryd.func47 (by kernel_rfl) (by kernel_rfl) f47.good (Eq.mpr (show (Fwd Tryd.prog f47.T f47.kp Tryd.f47 R [] (mkFr (argL [v0] 0)) h) = (f47.runT R v0 h) by kernel_rfl) H)
def f10.T : Tab := { sh := tSh, tup := tTup, keep := [], plan := [(1, (.take 0 (.take 2 (.take 4 (.take 7 (.take 10 (.take 13 (.take 18 (.take 23 (.take 1 (.take 3 (.take 5 (.take 6 (.take 8 (.take 9 (.take 11 (.take 12 (.take 14 (.take 15 (.take 19 (.take 24 (.alt true 16 (.alt true 17 (.eff true 20 (.eff true 21 (.take 22 (.eff false 25 (.take 26 (.take 27 .done)))))) (.eff true 20 (.eff true 17 (.eff true 21 (.take 22 (.eff false 25 (.take 26 (.take 27 .done)))))))) (.eff true 20 (.eff true 16 (.eff true 17 (.eff true 21 (.take 22 (.eff false 25 (.take 26 (.take 27 .done)))))))))))))))))))))))))))))), (15, (.take 0 (.take 1 (.take 4 (.take 2 (.alt false 3 (.eff true 5 (.eff false 6 (.take 7 (.take 8 (.take 9 .done))))) (.eff true 5 (.eff false 3 (.eff false 6 (.take 7 (.take 8 (.take 9 .done))))))))))))] }
def f10.kp : Keep := [([true, true], [1, 3]), ([false, false, true, false, true, true], [1, 3, 38, 39, 40]), ([false, false, true, false, true, true, true], [1, 3, 50, 51, 52]), ([false, false, true, false, true, true, true, true], [3, 62, 63, 64])]
theorem f10.good : goodCode Tryd.prog f10.T (rootOf Tryd.f10) = true := by kernel_rfl
def f10.j0 (R : Value → Heap → Prop) (a1 : Addr) (s3 : ByteArray) (h : Heap) : Prop := Pt Tryd.prog Tryd.f10 R [true, true] (mkFr [(1, (Value.pointer (some a1))), (3, (Value.string s3))]) h
def f10.l0 (R : Value → Heap → Prop) (a1 : Addr) (s3 : ByteArray) (A38 : Option Addr) (n38 : Nat) (c38 : Nat) (x39 : Int) (x40 : Int) (h : Heap) : Prop := Pt Tryd.prog Tryd.f10 R [false, false, true, false, true, true] (mkFr [(1, (Value.pointer (some a1))), (3, (Value.string s3)), (38, (Value.slice A38 n38 c38)), (39, (Value.int .i64 x39)), (40, (Value.int .i64 x40))]) h
def f10.l1 (R : Value → Heap → Prop) (a1 : Addr) (s3 : ByteArray) (A50 : Option Addr) (n50 : Nat) (c50 : Nat) (x51 : Int) (x52 : Int) (h : Heap) : Prop := Pt Tryd.prog Tryd.f10 R [false, false, true, false, true, true, true] (mkFr [(1, (Value.pointer (some a1))), (3, (Value.string s3)), (50, (Value.slice A50 n50 c50)), (51, (Value.int .i64 x51)), (52, (Value.int .i64 x52))]) h
def f10.l2 (R : Value → Heap → Prop) (s3 : ByteArray) (A62 : Option Addr) (n62 : Nat) (c62 : Nat) (x63 : Int) (x64 : Int) (h : Heap) : Prop := Pt Tryd.prog Tryd.f10 R [false, false, true, false, true, true, true, true] (mkFr [(3, (Value.string s3)), (62, (Value.slice A62 n62 c62)), (63, (Value.int .i64 x63)), (64, (Value.int .i64 x64))]) h
set_option maxRecDepth 100000 in
def f10.j0T (R : Value → Heap → Prop) (a1 : Addr) (s3 : ByteArray) (h : Heap) : Prop :=
  ∃ v1_, ldv false 1 h (Addr.add a1 4) = some v1_ ∧ ∃ A2_, ∃ n2_, ∃ c2_, v1_ = (Value.slice A2_ n2_ c2_) ∧ f10.l0 R a1 s3 A2_ n2_ c2_ ((n2_ : Nat) : Int) (0 : Int) h
set_option maxRecDepth 100000 in
theorem f10.j0_in {R : Value → Heap → Prop} {a1 : Addr} {s3 : ByteArray} {h : Heap} (H : f10.j0T R a1 s3 h) : f10.j0 R a1 s3 h :=
  pt_intro mixed f10.good (Eq.mpr (show (Fwd Tryd.prog f10.T f10.kp Tryd.f10 R [true, true] (mkFr [(1, (Value.pointer (some a1))), (3, (Value.string s3))]) h) = (f10.j0T R a1 s3 h) by kernel_rfl) H)
set_option maxRecDepth 100000 in
def f10.l0T (R : Value → Heap → Prop) (a1 : Addr) (s3 : ByteArray) (A38 : Option Addr) (n38 : Nat) (c38 : Nat) (x39 : Int) (x40 : Int) (h : Heap) : Prop :=
  splitB (decide (x40 < x39)) (ptrOk A38 fun a1_ => 0 ≤ x40 ∧ x40 < ((n38 : Nat) : Int) ∧ (∃ v2_, ldv true 3 h (Addr.add a1_ (Int.toNat x40 * 3)) = some v2_ ∧ newH h (Obj.cells #[(Value.int .i64 (0 : Int)), (Value.string (ByteArray.mk #[])), (Value.slice none 0 0)] 59) fun h3_ => ∃ l5_ : List Value, v2_ = Value.agg l5_.toArray ∧ l5_.length = 3 ∧ ∃ h4_, stH h3_ (⟨Array.size h, 0, none⟩) l5_ 0 = some h4_ ∧ ∃ v6_, ldv true 3 h4_ (⟨Array.size h, 0, none⟩) = some v6_ ∧ Run Tryd.prog 46 #[v6_] h4_ fun v7_ h8_ => ∃ s9_, v7_ = (Value.string s9_) ∧ ByteArray.size s3 + ByteArray.size s9_ ≤ 9223372036854775807 ∧ (f10.l0 R a1 (s3 ++ s9_) A38 n38 c38 x39 (IntKind.wrap .i64 (x40 + (1 : Int))) h8_))) (∃ v10_, ldv false 1 h (Addr.add a1 5) = some v10_ ∧ ∃ A11_, ∃ n11_, ∃ c11_, v10_ = (Value.slice A11_ n11_ c11_) ∧ f10.l1 R a1 s3 A11_ n11_ c11_ ((n11_ : Nat) : Int) (0 : Int) h)
set_option maxRecDepth 100000 in
theorem f10.l0_in {R : Value → Heap → Prop} {a1 : Addr} {s3 : ByteArray} {A38 : Option Addr} {n38 : Nat} {c38 : Nat} {x39 : Int} {x40 : Int} {h : Heap} (H : f10.l0T R a1 s3 A38 n38 c38 x39 x40 h) : f10.l0 R a1 s3 A38 n38 c38 x39 x40 h :=
  pt_intro mixed f10.good (Eq.mpr (show (Fwd Tryd.prog f10.T f10.kp Tryd.f10 R [false, false, true, false, true, true] (mkFr [(1, (Value.pointer (some a1))), (3, (Value.string s3)), (38, (Value.slice A38 n38 c38)), (39, (Value.int .i64 x39)), (40, (Value.int .i64 x40))]) h) = (f10.l0T R a1 s3 A38 n38 c38 x39 x40 h) by kernel_rfl) H)
set_option maxRecDepth 100000 in
def f10.l1T (R : Value → Heap → Prop) (a1 : Addr) (s3 : ByteArray) (A50 : Option Addr) (n50 : Nat) (c50 : Nat) (x51 : Int) (x52 : Int) (h : Heap) : Prop :=
  splitB (decide (x52 < x51)) (ptrOk A50 fun a1_ => 0 ≤ x52 ∧ x52 < ((n50 : Nat) : Int) ∧ (∃ v2_, ldv true 8 h (Addr.add a1_ (Int.toNat x52 * 8)) = some v2_ ∧ newH h (Obj.cells #[(Value.int .i64 (0 : Int)), (Value.int .i64 (0 : Int)), (Value.string (ByteArray.mk #[])), (Value.slice none 0 0), (Value.slice none 0 0), (Value.slice none 0 0), (Value.slice none 0 0), (Value.int .i64 (0 : Int))] 40) fun h3_ => ∃ l5_ : List Value, v2_ = Value.agg l5_.toArray ∧ l5_.length = 8 ∧ ∃ h4_, stH h3_ (⟨Array.size h, 0, none⟩) l5_ 0 = some h4_ ∧ ∃ v6_, ldv true 8 h4_ (⟨Array.size h, 0, none⟩) = some v6_ ∧ Run Tryd.prog 10 #[v6_] h4_ fun v7_ h8_ => ∃ s9_, v7_ = (Value.string s9_) ∧ ByteArray.size s3 + ByteArray.size s9_ ≤ 9223372036854775807 ∧ (f10.l1 R a1 (s3 ++ s9_) A50 n50 c50 x51 (IntKind.wrap .i64 (x52 + (1 : Int))) h8_))) (∃ v10_, ldv false 1 h (Addr.add a1 6) = some v10_ ∧ ∃ A11_, ∃ n11_, ∃ c11_, v10_ = (Value.slice A11_ n11_ c11_) ∧ f10.l2 R s3 A11_ n11_ c11_ ((n11_ : Nat) : Int) (0 : Int) h)
set_option maxRecDepth 100000 in
theorem f10.l1_in {R : Value → Heap → Prop} {a1 : Addr} {s3 : ByteArray} {A50 : Option Addr} {n50 : Nat} {c50 : Nat} {x51 : Int} {x52 : Int} {h : Heap} (H : f10.l1T R a1 s3 A50 n50 c50 x51 x52 h) : f10.l1 R a1 s3 A50 n50 c50 x51 x52 h :=
  pt_intro mixed f10.good (Eq.mpr (show (Fwd Tryd.prog f10.T f10.kp Tryd.f10 R [false, false, true, false, true, true, true] (mkFr [(1, (Value.pointer (some a1))), (3, (Value.string s3)), (50, (Value.slice A50 n50 c50)), (51, (Value.int .i64 x51)), (52, (Value.int .i64 x52))]) h) = (f10.l1T R a1 s3 A50 n50 c50 x51 x52 h) by kernel_rfl) H)
set_option maxRecDepth 100000 in
def f10.l2T (R : Value → Heap → Prop) (s3 : ByteArray) (A62 : Option Addr) (n62 : Nat) (c62 : Nat) (x63 : Int) (x64 : Int) (h : Heap) : Prop :=
  splitB (decide (x64 < x63)) (ptrOk A62 fun a1_ => 0 ≤ x64 ∧ x64 < ((n62 : Nat) : Int) ∧ (∃ v2_, ldv true 12 h (Addr.add a1_ (Int.toNat x64 * 12)) = some v2_ ∧ newH h (Obj.cells #[(Value.int .i64 (0 : Int)), (Value.int .i64 (0 : Int)), (Value.string (ByteArray.mk #[])), (Value.slice none 0 0), (Value.int .i64 (0 : Int)), (Value.int .i64 (0 : Int)), (Value.string (ByteArray.mk #[])), (Value.slice none 0 0), (Value.slice none 0 0), (Value.slice none 0 0), (Value.slice none 0 0), (Value.int .i64 (0 : Int))] 50) fun h3_ => ∃ l5_ : List Value, v2_ = Value.agg l5_.toArray ∧ l5_.length = 12 ∧ ∃ h4_, stH h3_ (⟨Array.size h, 0, none⟩) l5_ 0 = some h4_ ∧ ∃ v6_, ldv true 4 h4_ (⟨Array.size h, 0, none⟩) = some v6_ ∧ (Run Tryd.prog 47 #[v6_] h4_ fun v7_ h8_ => ∃ s9_, v7_ = (Value.string s9_) ∧ ∃ v10_, ldv true 8 h8_ (Addr.add (⟨Array.size h, 0, none⟩) 4) = some v10_ ∧ Ext h8_ h8_ ∧ (Run Tryd.prog 10 #[v10_] h8_ fun v11_ h12_ => ∃ s13_, v11_ = (Value.string s13_) ∧ ByteArray.size s9_ + ByteArray.size s13_ ≤ 9223372036854775807 ∧ (ByteArray.size s3 + ByteArray.size (s9_ ++ s13_) ≤ 9223372036854775807 ∧ (f10.l2 R (s3 ++ (s9_ ++ s13_)) A62 n62 c62 x63 (IntKind.wrap .i64 (x64 + (1 : Int))) h12_)))) ∧ (∃ v14_, ldv true 8 h4_ (Addr.add (⟨Array.size h, 0, none⟩) 4) = some v14_ ∧ Ext h4_ h4_ ∧ (Run Tryd.prog 47 #[v6_] h4_ fun v15_ h16_ => ∃ s17_, v15_ = (Value.string s17_) ∧ Run Tryd.prog 10 #[v14_] h16_ fun v18_ h19_ => ∃ s20_, v18_ = (Value.string s20_) ∧ ByteArray.size s17_ + ByteArray.size s20_ ≤ 9223372036854775807 ∧ (ByteArray.size s3 + ByteArray.size (s17_ ++ s20_) ≤ 9223372036854775807 ∧ (f10.l2 R (s3 ++ (s17_ ++ s20_)) A62 n62 c62 x63 (IntKind.wrap .i64 (x64 + (1 : Int))) h19_)))))) (R (Value.string s3) h)
set_option maxRecDepth 100000 in
theorem f10.l2_in {R : Value → Heap → Prop} {s3 : ByteArray} {A62 : Option Addr} {n62 : Nat} {c62 : Nat} {x63 : Int} {x64 : Int} {h : Heap} (H : f10.l2T R s3 A62 n62 c62 x63 x64 h) : f10.l2 R s3 A62 n62 c62 x63 x64 h :=
  pt_intro mixed f10.good (Eq.mpr (show (Fwd Tryd.prog f10.T f10.kp Tryd.f10 R [false, false, true, false, true, true, true, true] (mkFr [(3, (Value.string s3)), (62, (Value.slice A62 n62 c62)), (63, (Value.int .i64 x63)), (64, (Value.int .i64 x64))]) h) = (f10.l2T R s3 A62 n62 c62 x63 x64 h) by kernel_rfl) H)
set_option maxRecDepth 100000 in
def f10.runT (R : Value → Heap → Prop) (v0 : Value) (h : Heap) : Prop :=
  newH h (Obj.cells ((v0).cells) 40) fun h1_ => ∃ v2_, ldv false 1 h1_ (⟨Array.size h, 0, none⟩) = some v2_ ∧ ∃ x3_, v2_ = (Value.int .i64 x3_) ∧ ∃ v4_, ldv false 1 h1_ (Addr.add (⟨Array.size h, 0, none⟩) 1) = some v4_ ∧ ∃ x5_, v4_ = (Value.int .i64 x5_) ∧ ∃ v6_, ldv false 1 h1_ (Addr.add (⟨Array.size h, 0, none⟩) 3) = some v6_ ∧ ∃ A7_, ∃ n7_, ∃ c7_, v6_ = (Value.slice A7_ n7_ c7_) ∧ ∃ v8_, ldv false 1 h1_ (Addr.add (⟨Array.size h, 0, none⟩) 4) = some v8_ ∧ ∃ A9_, ∃ n9_, ∃ c9_, v8_ = (Value.slice A9_ n9_ c9_) ∧ ∃ v10_, ldv false 1 h1_ (Addr.add (⟨Array.size h, 0, none⟩) 5) = some v10_ ∧ ∃ A11_, ∃ n11_, ∃ c11_, v10_ = (Value.slice A11_ n11_ c11_) ∧ ∃ v12_, ldv false 1 h1_ (Addr.add (⟨Array.size h, 0, none⟩) 6) = some v12_ ∧ ∃ A13_, ∃ n13_, ∃ c13_, v12_ = (Value.slice A13_ n13_ c13_) ∧ ∃ v14_, ldv false 1 h1_ (Addr.add (⟨Array.size h, 0, none⟩) 2) = some v14_ ∧ ∃ s15_, v14_ = (Value.string s15_) ∧ ∃ v16_, ldv false 1 h1_ (Addr.add (⟨Array.size h, 0, none⟩) 3) = some v16_ ∧ ∃ A17_, ∃ n17_, ∃ c17_, v16_ = (Value.slice A17_ n17_ c17_) ∧ (newH h1_ (Obj.cells #[(Value.int .i64 x3_), (Value.int .i64 x5_), (Value.int .i64 ((n7_ : Nat) : Int)), (Value.int .i64 ((n9_ : Nat) : Int)), (Value.int .i64 ((n11_ : Nat) : Int)), (Value.int .i64 ((n13_ : Nat) : Int))] 3) fun h18_ => Ext h1_ h18_ ∧ ((Run Tryd.prog 42 #[(Value.slice (some ⟨Array.size h1_, 0, none⟩) 6 6)] h18_ fun v19_ h20_ => ∃ s21_, v19_ = (Value.string s21_) ∧ Ext h18_ h20_ ∧ (newH h20_ (Obj.cells #[(Value.string s15_)] 9) fun h22_ => Ext h20_ h22_ ∧ (Run Tryd.prog 41 #[(Value.slice (some ⟨Array.size h20_, 0, none⟩) 1 1)] h22_ fun v23_ h24_ => ∃ s25_, v23_ = (Value.string s25_) ∧ Ext h22_ h24_ ∧ (ByteArray.size s21_ + ByteArray.size s25_ ≤ 9223372036854775807 ∧ (Run Tryd.prog 41 #[(Value.slice A17_ n17_ c17_)] h24_ fun v26_ h27_ => ∃ s28_, v26_ = (Value.string s28_) ∧ ByteArray.size (s21_ ++ s25_) + ByteArray.size s28_ ≤ 9223372036854775807 ∧ (f10.j0 R (⟨Array.size h, 0, none⟩) ((s21_ ++ s25_) ++ s28_) h27_)))))) ∧ (newH h18_ (Obj.cells #[(Value.string s15_)] 9) fun h29_ => Ext h18_ h29_ ∧ (Run Tryd.prog 42 #[(Value.slice (some ⟨Array.size h1_, 0, none⟩) 6 6)] h29_ fun v30_ h31_ => ∃ s32_, v30_ = (Value.string s32_) ∧ Ext h29_ h31_ ∧ (Run Tryd.prog 41 #[(Value.slice (some ⟨Array.size h18_, 0, none⟩) 1 1)] h31_ fun v33_ h34_ => ∃ s35_, v33_ = (Value.string s35_) ∧ Ext h31_ h34_ ∧ (ByteArray.size s32_ + ByteArray.size s35_ ≤ 9223372036854775807 ∧ (Run Tryd.prog 41 #[(Value.slice A17_ n17_ c17_)] h34_ fun v36_ h37_ => ∃ s38_, v36_ = (Value.string s38_) ∧ ByteArray.size (s32_ ++ s35_) + ByteArray.size s38_ ≤ 9223372036854775807 ∧ (f10.j0 R (⟨Array.size h, 0, none⟩) ((s32_ ++ s35_) ++ s38_) h37_)))))))) ∧ (newH h1_ (Obj.cells #[(Value.string s15_)] 9) fun h39_ => Ext h1_ h39_ ∧ (newH h39_ (Obj.cells #[(Value.int .i64 x3_), (Value.int .i64 x5_), (Value.int .i64 ((n7_ : Nat) : Int)), (Value.int .i64 ((n9_ : Nat) : Int)), (Value.int .i64 ((n11_ : Nat) : Int)), (Value.int .i64 ((n13_ : Nat) : Int))] 3) fun h40_ => Ext h39_ h40_ ∧ (Run Tryd.prog 42 #[(Value.slice (some ⟨Array.size h39_, 0, none⟩) 6 6)] h40_ fun v41_ h42_ => ∃ s43_, v41_ = (Value.string s43_) ∧ Ext h40_ h42_ ∧ (Run Tryd.prog 41 #[(Value.slice (some ⟨Array.size h1_, 0, none⟩) 1 1)] h42_ fun v44_ h45_ => ∃ s46_, v44_ = (Value.string s46_) ∧ Ext h42_ h45_ ∧ (ByteArray.size s43_ + ByteArray.size s46_ ≤ 9223372036854775807 ∧ (Run Tryd.prog 41 #[(Value.slice A17_ n17_ c17_)] h45_ fun v47_ h48_ => ∃ s49_, v47_ = (Value.string s49_) ∧ ByteArray.size (s43_ ++ s46_) + ByteArray.size s49_ ≤ 9223372036854775807 ∧ (f10.j0 R (⟨Array.size h, 0, none⟩) ((s43_ ++ s46_) ++ s49_) h48_)))))))
set_option maxRecDepth 100000 in
theorem f10.run {R : Value → Heap → Prop} {v0 : Value} {h : Heap} (H : f10.runT R v0 h) : Run Tryd.prog 10 #[v0] h R :=
  run_of mixed Tryd.func10 (by kernel_rfl) (by kernel_rfl) f10.good (Eq.mpr (show (Fwd Tryd.prog f10.T f10.kp Tryd.f10 R [] (mkFr (argL [v0] 0)) h) = (f10.runT R v0 h) by kernel_rfl) H)
def f20.T : Tab := { sh := tSh, tup := tTup, keep := [], plan := [(6, (.take 0 (.take 1 (.take 2 (.take 4 (.take 5 (.take 6 (.take 3 (.take 7 (.take 8 .done))))))))))] }
def f20.kp : Keep := [([false, false, true, false, true, true], [0, 1, 12, 13])]
theorem f20.good : goodCode Tryd.prog f20.T (rootOf Tryd.f20) = true := by kernel_rfl
def f20.l0 (R : Value → Heap → Prop) (A0 : Option Addr) (n0 : Nat) (c0 : Nat) (A1 : Option Addr) (n1 : Nat) (c1 : Nat) (x12 : Int) (x13 : Int) (h : Heap) : Prop := Pt Tryd.prog Tryd.f20 R [false, false, true, false, true, true] (mkFr [(0, (Value.slice A0 n0 c0)), (1, (Value.slice A1 n1 c1)), (12, (Value.int .i64 x12)), (13, (Value.int .i64 x13))]) h
set_option maxRecDepth 100000 in
def f20.l0T (R : Value → Heap → Prop) (A0 : Option Addr) (n0 : Nat) (c0 : Nat) (A1 : Option Addr) (n1 : Nat) (c1 : Nat) (x12 : Int) (x13 : Int) (h : Heap) : Prop :=
  splitB (decide (x13 < x12)) (ptrOk A0 fun a1_ => 0 ≤ x13 ∧ x13 < ((n0 : Nat) : Int) ∧ (ptrOk A1 fun a2_ => 0 ≤ x13 ∧ x13 < ((n1 : Nat) : Int) ∧ (∃ v3_, ldv false 1 h (Addr.add a1_ (Int.toNat x13 * 1)) = some v3_ ∧ ∃ s4_, v3_ = (Value.string s4_) ∧ ∃ v5_, ldv false 1 h (Addr.add a2_ (Int.toNat x13 * 1)) = some v5_ ∧ ∃ s6_, v5_ = (Value.string s6_) ∧ splitB (!(ByteArray.toList s4_ == ByteArray.toList s6_)) (R (Value.bool false) h) (f20.l0 R A0 n0 c0 A1 n1 c1 x12 (IntKind.wrap .i64 (x13 + (1 : Int))) h)))) (R (Value.bool true) h)
set_option maxRecDepth 100000 in
theorem f20.l0_in {R : Value → Heap → Prop} {A0 : Option Addr} {n0 : Nat} {c0 : Nat} {A1 : Option Addr} {n1 : Nat} {c1 : Nat} {x12 : Int} {x13 : Int} {h : Heap} (H : f20.l0T R A0 n0 c0 A1 n1 c1 x12 x13 h) : f20.l0 R A0 n0 c0 A1 n1 c1 x12 x13 h :=
  pt_intro mixed f20.good (Eq.mpr (show (Fwd Tryd.prog f20.T f20.kp Tryd.f20 R [false, false, true, false, true, true] (mkFr [(0, (Value.slice A0 n0 c0)), (1, (Value.slice A1 n1 c1)), (12, (Value.int .i64 x12)), (13, (Value.int .i64 x13))]) h) = (f20.l0T R A0 n0 c0 A1 n1 c1 x12 x13 h) by kernel_rfl) H)
set_option maxRecDepth 100000 in
def f20.runT (R : Value → Heap → Prop) (A0 : Option Addr) (n0 : Nat) (c0 : Nat) (A1 : Option Addr) (n1 : Nat) (c1 : Nat) (h : Heap) : Prop :=
  splitB (((n0 : Nat) : Int) != ((n1 : Nat) : Int)) (R (Value.bool false) h) (f20.l0 R A0 n0 c0 A1 n1 c1 ((n0 : Nat) : Int) (0 : Int) h)
set_option maxRecDepth 100000 in
theorem f20.run {R : Value → Heap → Prop} {A0 : Option Addr} {n0 : Nat} {c0 : Nat} {A1 : Option Addr} {n1 : Nat} {c1 : Nat} {h : Heap} (H : f20.runT R A0 n0 c0 A1 n1 c1 h) : Run Tryd.prog 20 #[(Value.slice A0 n0 c0), (Value.slice A1 n1 c1)] h R :=
  run_of mixed Tryd.func20 (by kernel_rfl) (by kernel_rfl) f20.good (Eq.mpr (show (Fwd Tryd.prog f20.T f20.kp Tryd.f20 R [] (mkFr (argL [(Value.slice A0 n0 c0), (Value.slice A1 n1 c1)] 0)) h) = (f20.runT R A0 n0 c0 A1 n1 c1 h) by kernel_rfl) H)
def f26.T : Tab := { sh := tSh, tup := tTup, keep := [], plan := [] }
def f26.kp : Keep := [([false, false, true, false, true, true], [1, 2, 15, 16, 17])]
theorem f26.good : goodCode Tryd.prog f26.T (rootOf Tryd.f26) = true := by kernel_rfl
def f26.l0 (R : Value → Heap → Prop) (A1 : Option Addr) (n1 : Nat) (c1 : Nat) (v2 : Value) (A15 : Option Addr) (n15 : Nat) (c15 : Nat) (x16 : Int) (x17 : Int) (h : Heap) : Prop := Pt Tryd.prog Tryd.f26 R [false, false, true, false, true, true] (mkFr [(1, (Value.slice A1 n1 c1)), (2, v2), (15, (Value.slice A15 n15 c15)), (16, (Value.int .i64 x16)), (17, (Value.int .i64 x17))]) h
set_option maxRecDepth 100000 in
def f26.l0T (R : Value → Heap → Prop) (A1 : Option Addr) (n1 : Nat) (c1 : Nat) (v2 : Value) (A15 : Option Addr) (n15 : Nat) (c15 : Nat) (x16 : Int) (x17 : Int) (h : Heap) : Prop :=
  splitB (decide (x17 < x16)) (ptrOk A15 fun a1_ => 0 ≤ x17 ∧ x17 < ((n15 : Nat) : Int) ∧ (∃ v2_, ldv true 8 h (Addr.add a1_ (Int.toNat x17 * 8)) = some v2_ ∧ newH h (Obj.cells #[(Value.int .i64 (0 : Int)), (Value.int .i64 (0 : Int)), (Value.string (ByteArray.mk #[])), (Value.slice none 0 0), (Value.slice none 0 0), (Value.slice none 0 0), (Value.slice none 0 0), (Value.int .i64 (0 : Int))] 40) fun h3_ => ∃ l5_ : List Value, v2_ = Value.agg l5_.toArray ∧ l5_.length = 8 ∧ ∃ h4_, stH h3_ (⟨Array.size h, 0, none⟩) l5_ 0 = some h4_ ∧ ptrOk A1 fun a6_ => 0 ≤ x17 ∧ x17 < ((n1 : Nat) : Int) ∧ (∃ v7_, ldv true 8 h4_ (Addr.add a6_ (Int.toNat x17 * 8)) = some v7_ ∧ newH h4_ (Obj.cells #[(Value.int .i64 (0 : Int)), (Value.int .i64 (0 : Int)), (Value.string (ByteArray.mk #[])), (Value.slice none 0 0), (Value.slice none 0 0), (Value.slice none 0 0), (Value.slice none 0 0), (Value.int .i64 (0 : Int))] 40) fun h8_ => ∃ l10_ : List Value, v7_ = Value.agg l10_.toArray ∧ l10_.length = 8 ∧ ∃ h9_, stH h8_ (⟨Array.size h4_, 0, none⟩) l10_ 0 = some h9_ ∧ ∃ v11_, ldv true 8 h9_ (⟨Array.size h, 0, none⟩) = some v11_ ∧ ∃ v12_, ldv true 8 h9_ (⟨Array.size h4_, 0, none⟩) = some v12_ ∧ CallF Tryd.prog v2 [v11_, v12_] h9_ fun v13_ h14_ => ∃ b15_, v13_ = (Value.bool b15_) ∧ splitB (!b15_) (R (Value.bool false) h14_) (f26.l0 R A1 n1 c1 v2 A15 n15 c15 x16 (IntKind.wrap .i64 (x17 + (1 : Int))) h14_)))) (R (Value.bool true) h)
set_option maxRecDepth 100000 in
theorem f26.l0_in {R : Value → Heap → Prop} {A1 : Option Addr} {n1 : Nat} {c1 : Nat} {v2 : Value} {A15 : Option Addr} {n15 : Nat} {c15 : Nat} {x16 : Int} {x17 : Int} {h : Heap} (H : f26.l0T R A1 n1 c1 v2 A15 n15 c15 x16 x17 h) : f26.l0 R A1 n1 c1 v2 A15 n15 c15 x16 x17 h :=
  pt_intro mixed f26.good (Eq.mpr (show (Fwd Tryd.prog f26.T f26.kp Tryd.f26 R [false, false, true, false, true, true] (mkFr [(1, (Value.slice A1 n1 c1)), (2, v2), (15, (Value.slice A15 n15 c15)), (16, (Value.int .i64 x16)), (17, (Value.int .i64 x17))]) h) = (f26.l0T R A1 n1 c1 v2 A15 n15 c15 x16 x17 h) by kernel_rfl) H)
set_option maxRecDepth 100000 in
def f26.runT (R : Value → Heap → Prop) (A0 : Option Addr) (n0 : Nat) (c0 : Nat) (A1 : Option Addr) (n1 : Nat) (c1 : Nat) (v2 : Value) (h : Heap) : Prop :=
  splitB (((n0 : Nat) : Int) != ((n1 : Nat) : Int)) (R (Value.bool false) h) (f26.l0 R A1 n1 c1 v2 A0 n0 c0 ((n0 : Nat) : Int) (0 : Int) h)
set_option maxRecDepth 100000 in
theorem f26.run {R : Value → Heap → Prop} {A0 : Option Addr} {n0 : Nat} {c0 : Nat} {A1 : Option Addr} {n1 : Nat} {c1 : Nat} {v2 : Value} {h : Heap} (H : f26.runT R A0 n0 c0 A1 n1 c1 v2 h) : Run Tryd.prog 26 #[(Value.slice A0 n0 c0), (Value.slice A1 n1 c1), v2] h R :=
  run_of mixed Tryd.func26 (by kernel_rfl) (by kernel_rfl) f26.good (Eq.mpr (show (Fwd Tryd.prog f26.T f26.kp Tryd.f26 R [] (mkFr (argL [(Value.slice A0 n0 c0), (Value.slice A1 n1 c1), v2] 0)) h) = (f26.runT R A0 n0 c0 A1 n1 c1 v2 h) by kernel_rfl) H)
def f48.T : Tab := { sh := tSh, tup := tTup, keep := [], plan := [] }
def f48.kp : Keep := [([false, false, true, false, true, true], [1, 2, 15, 16, 17])]
theorem f48.good : goodCode Tryd.prog f48.T (rootOf Tryd.f48) = true := by kernel_rfl
def f48.l0 (R : Value → Heap → Prop) (A1 : Option Addr) (n1 : Nat) (c1 : Nat) (v2 : Value) (A15 : Option Addr) (n15 : Nat) (c15 : Nat) (x16 : Int) (x17 : Int) (h : Heap) : Prop := Pt Tryd.prog Tryd.f48 R [false, false, true, false, true, true] (mkFr [(1, (Value.slice A1 n1 c1)), (2, v2), (15, (Value.slice A15 n15 c15)), (16, (Value.int .i64 x16)), (17, (Value.int .i64 x17))]) h
set_option maxRecDepth 100000 in
def f48.l0T (R : Value → Heap → Prop) (A1 : Option Addr) (n1 : Nat) (c1 : Nat) (v2 : Value) (A15 : Option Addr) (n15 : Nat) (c15 : Nat) (x16 : Int) (x17 : Int) (h : Heap) : Prop :=
  splitB (decide (x17 < x16)) (ptrOk A15 fun a1_ => 0 ≤ x17 ∧ x17 < ((n15 : Nat) : Int) ∧ (∃ v2_, ldv true 3 h (Addr.add a1_ (Int.toNat x17 * 3)) = some v2_ ∧ newH h (Obj.cells #[(Value.int .i64 (0 : Int)), (Value.string (ByteArray.mk #[])), (Value.slice none 0 0)] 59) fun h3_ => ∃ l5_ : List Value, v2_ = Value.agg l5_.toArray ∧ l5_.length = 3 ∧ ∃ h4_, stH h3_ (⟨Array.size h, 0, none⟩) l5_ 0 = some h4_ ∧ ptrOk A1 fun a6_ => 0 ≤ x17 ∧ x17 < ((n1 : Nat) : Int) ∧ (∃ v7_, ldv true 3 h4_ (Addr.add a6_ (Int.toNat x17 * 3)) = some v7_ ∧ newH h4_ (Obj.cells #[(Value.int .i64 (0 : Int)), (Value.string (ByteArray.mk #[])), (Value.slice none 0 0)] 59) fun h8_ => ∃ l10_ : List Value, v7_ = Value.agg l10_.toArray ∧ l10_.length = 3 ∧ ∃ h9_, stH h8_ (⟨Array.size h4_, 0, none⟩) l10_ 0 = some h9_ ∧ ∃ v11_, ldv true 3 h9_ (⟨Array.size h, 0, none⟩) = some v11_ ∧ ∃ v12_, ldv true 3 h9_ (⟨Array.size h4_, 0, none⟩) = some v12_ ∧ CallF Tryd.prog v2 [v11_, v12_] h9_ fun v13_ h14_ => ∃ b15_, v13_ = (Value.bool b15_) ∧ splitB (!b15_) (R (Value.bool false) h14_) (f48.l0 R A1 n1 c1 v2 A15 n15 c15 x16 (IntKind.wrap .i64 (x17 + (1 : Int))) h14_)))) (R (Value.bool true) h)
set_option maxRecDepth 100000 in
theorem f48.l0_in {R : Value → Heap → Prop} {A1 : Option Addr} {n1 : Nat} {c1 : Nat} {v2 : Value} {A15 : Option Addr} {n15 : Nat} {c15 : Nat} {x16 : Int} {x17 : Int} {h : Heap} (H : f48.l0T R A1 n1 c1 v2 A15 n15 c15 x16 x17 h) : f48.l0 R A1 n1 c1 v2 A15 n15 c15 x16 x17 h :=
  pt_intro mixed f48.good (Eq.mpr (show (Fwd Tryd.prog f48.T f48.kp Tryd.f48 R [false, false, true, false, true, true] (mkFr [(1, (Value.slice A1 n1 c1)), (2, v2), (15, (Value.slice A15 n15 c15)), (16, (Value.int .i64 x16)), (17, (Value.int .i64 x17))]) h) = (f48.l0T R A1 n1 c1 v2 A15 n15 c15 x16 x17 h) by kernel_rfl) H)
set_option maxRecDepth 100000 in
def f48.runT (R : Value → Heap → Prop) (A0 : Option Addr) (n0 : Nat) (c0 : Nat) (A1 : Option Addr) (n1 : Nat) (c1 : Nat) (v2 : Value) (h : Heap) : Prop :=
  splitB (((n0 : Nat) : Int) != ((n1 : Nat) : Int)) (R (Value.bool false) h) (f48.l0 R A1 n1 c1 v2 A0 n0 c0 ((n0 : Nat) : Int) (0 : Int) h)
set_option maxRecDepth 100000 in
theorem f48.run {R : Value → Heap → Prop} {A0 : Option Addr} {n0 : Nat} {c0 : Nat} {A1 : Option Addr} {n1 : Nat} {c1 : Nat} {v2 : Value} {h : Heap} (H : f48.runT R A0 n0 c0 A1 n1 c1 v2 h) : Run Tryd.prog 48 #[(Value.slice A0 n0 c0), (Value.slice A1 n1 c1), v2] h R :=
  run_of mixed Tryd.func48 (by kernel_rfl) (by kernel_rfl) f48.good (Eq.mpr (show (Fwd Tryd.prog f48.T f48.kp Tryd.f48 R [] (mkFr (argL [(Value.slice A0 n0 c0), (Value.slice A1 n1 c1), v2] 0)) h) = (f48.runT R A0 n0 c0 A1 n1 c1 v2 h) by kernel_rfl) H)
def f49.T : Tab := { sh := tSh, tup := tTup, keep := [], plan := [] }
def f49.kp : Keep := []
theorem f49.good : goodCode Tryd.prog f49.T (rootOf Tryd.f49) = true := by kernel_rfl
set_option maxRecDepth 100000 in
theorem f49.ok : calleeOk Tryd.prog 49 = true := by kernel_rfl
set_option maxRecDepth 100000 in
def f49.runT (R : Value → Heap → Prop) (v0 : Value) (v1 : Value) (h : Heap) : Prop :=
  newH h (Obj.cells ((v0).cells) 59) fun h1_ => newH h1_ (Obj.cells ((v1).cells) 59) fun h2_ => ∃ v3_, ldv false 1 h2_ (⟨Array.size h, 0, none⟩) = some v3_ ∧ ∃ x4_, v3_ = (Value.int .i64 x4_) ∧ ∃ v5_, ldv false 1 h2_ (⟨Array.size h1_, 0, none⟩) = some v5_ ∧ ∃ x6_, v5_ = (Value.int .i64 x6_) ∧ splitB (x4_ == x6_) (∃ v7_, ldv false 1 h2_ (Addr.add (⟨Array.size h, 0, none⟩) 1) = some v7_ ∧ ∃ s8_, v7_ = (Value.string s8_) ∧ ∃ v9_, ldv false 1 h2_ (Addr.add (⟨Array.size h1_, 0, none⟩) 1) = some v9_ ∧ ∃ s10_, v9_ = (Value.string s10_) ∧ splitB (ByteArray.toList s8_ == ByteArray.toList s10_) (∃ v11_, ldv false 1 h2_ (Addr.add (⟨Array.size h, 0, none⟩) 2) = some v11_ ∧ ∃ A12_, ∃ n12_, ∃ c12_, v11_ = (Value.slice A12_ n12_ c12_) ∧ ∃ v13_, ldv false 1 h2_ (Addr.add (⟨Array.size h1_, 0, none⟩) 2) = some v13_ ∧ ∃ A14_, ∃ n14_, ∃ c14_, v13_ = (Value.slice A14_ n14_ c14_) ∧ Run Tryd.prog 48 #[(Value.slice A12_ n12_ c12_), (Value.slice A14_ n14_ c14_), (Value.func (.func 49) #[] #[])] h2_ fun v15_ h16_ => ∃ b17_, v15_ = (Value.bool b17_) ∧ R (Value.bool b17_) h16_) (R (Value.bool false) h2_)) (R (Value.bool false) h2_)
set_option maxRecDepth 100000 in
theorem f49.run {R : Value → Heap → Prop} {v0 : Value} {v1 : Value} {h : Heap} (H : f49.runT R v0 v1 h) : Run Tryd.prog 49 #[v0, v1] h R :=
  run_of mixed Tryd.func49 (by kernel_rfl) (by kernel_rfl) f49.good (Eq.mpr (show (Fwd Tryd.prog f49.T f49.kp Tryd.f49 R [] (mkFr (argL [v0, v1] 0)) h) = (f49.runT R v0 v1 h) by kernel_rfl) H)
def f50.T : Tab := { sh := tSh, tup := tTup, keep := [], plan := [] }
def f50.kp : Keep := [([false, false, true, false, true, true], [1, 2, 15, 16, 17])]
theorem f50.good : goodCode Tryd.prog f50.T (rootOf Tryd.f50) = true := by kernel_rfl
def f50.l0 (R : Value → Heap → Prop) (A1 : Option Addr) (n1 : Nat) (c1 : Nat) (v2 : Value) (A15 : Option Addr) (n15 : Nat) (c15 : Nat) (x16 : Int) (x17 : Int) (h : Heap) : Prop := Pt Tryd.prog Tryd.f50 R [false, false, true, false, true, true] (mkFr [(1, (Value.slice A1 n1 c1)), (2, v2), (15, (Value.slice A15 n15 c15)), (16, (Value.int .i64 x16)), (17, (Value.int .i64 x17))]) h
set_option maxRecDepth 100000 in
def f50.l0T (R : Value → Heap → Prop) (A1 : Option Addr) (n1 : Nat) (c1 : Nat) (v2 : Value) (A15 : Option Addr) (n15 : Nat) (c15 : Nat) (x16 : Int) (x17 : Int) (h : Heap) : Prop :=
  splitB (decide (x17 < x16)) (ptrOk A15 fun a1_ => 0 ≤ x17 ∧ x17 < ((n15 : Nat) : Int) ∧ (∃ v2_, ldv true 12 h (Addr.add a1_ (Int.toNat x17 * 12)) = some v2_ ∧ newH h (Obj.cells #[(Value.int .i64 (0 : Int)), (Value.int .i64 (0 : Int)), (Value.string (ByteArray.mk #[])), (Value.slice none 0 0), (Value.int .i64 (0 : Int)), (Value.int .i64 (0 : Int)), (Value.string (ByteArray.mk #[])), (Value.slice none 0 0), (Value.slice none 0 0), (Value.slice none 0 0), (Value.slice none 0 0), (Value.int .i64 (0 : Int))] 50) fun h3_ => ∃ l5_ : List Value, v2_ = Value.agg l5_.toArray ∧ l5_.length = 12 ∧ ∃ h4_, stH h3_ (⟨Array.size h, 0, none⟩) l5_ 0 = some h4_ ∧ ptrOk A1 fun a6_ => 0 ≤ x17 ∧ x17 < ((n1 : Nat) : Int) ∧ (∃ v7_, ldv true 12 h4_ (Addr.add a6_ (Int.toNat x17 * 12)) = some v7_ ∧ newH h4_ (Obj.cells #[(Value.int .i64 (0 : Int)), (Value.int .i64 (0 : Int)), (Value.string (ByteArray.mk #[])), (Value.slice none 0 0), (Value.int .i64 (0 : Int)), (Value.int .i64 (0 : Int)), (Value.string (ByteArray.mk #[])), (Value.slice none 0 0), (Value.slice none 0 0), (Value.slice none 0 0), (Value.slice none 0 0), (Value.int .i64 (0 : Int))] 50) fun h8_ => ∃ l10_ : List Value, v7_ = Value.agg l10_.toArray ∧ l10_.length = 12 ∧ ∃ h9_, stH h8_ (⟨Array.size h4_, 0, none⟩) l10_ 0 = some h9_ ∧ ∃ v11_, ldv true 12 h9_ (⟨Array.size h, 0, none⟩) = some v11_ ∧ ∃ v12_, ldv true 12 h9_ (⟨Array.size h4_, 0, none⟩) = some v12_ ∧ CallF Tryd.prog v2 [v11_, v12_] h9_ fun v13_ h14_ => ∃ b15_, v13_ = (Value.bool b15_) ∧ splitB (!b15_) (R (Value.bool false) h14_) (f50.l0 R A1 n1 c1 v2 A15 n15 c15 x16 (IntKind.wrap .i64 (x17 + (1 : Int))) h14_)))) (R (Value.bool true) h)
set_option maxRecDepth 100000 in
theorem f50.l0_in {R : Value → Heap → Prop} {A1 : Option Addr} {n1 : Nat} {c1 : Nat} {v2 : Value} {A15 : Option Addr} {n15 : Nat} {c15 : Nat} {x16 : Int} {x17 : Int} {h : Heap} (H : f50.l0T R A1 n1 c1 v2 A15 n15 c15 x16 x17 h) : f50.l0 R A1 n1 c1 v2 A15 n15 c15 x16 x17 h :=
  pt_intro mixed f50.good (Eq.mpr (show (Fwd Tryd.prog f50.T f50.kp Tryd.f50 R [false, false, true, false, true, true] (mkFr [(1, (Value.slice A1 n1 c1)), (2, v2), (15, (Value.slice A15 n15 c15)), (16, (Value.int .i64 x16)), (17, (Value.int .i64 x17))]) h) = (f50.l0T R A1 n1 c1 v2 A15 n15 c15 x16 x17 h) by kernel_rfl) H)
set_option maxRecDepth 100000 in
def f50.runT (R : Value → Heap → Prop) (A0 : Option Addr) (n0 : Nat) (c0 : Nat) (A1 : Option Addr) (n1 : Nat) (c1 : Nat) (v2 : Value) (h : Heap) : Prop :=
  splitB (((n0 : Nat) : Int) != ((n1 : Nat) : Int)) (R (Value.bool false) h) (f50.l0 R A1 n1 c1 v2 A0 n0 c0 ((n0 : Nat) : Int) (0 : Int) h)
set_option maxRecDepth 100000 in
theorem f50.run {R : Value → Heap → Prop} {A0 : Option Addr} {n0 : Nat} {c0 : Nat} {A1 : Option Addr} {n1 : Nat} {c1 : Nat} {v2 : Value} {h : Heap} (H : f50.runT R A0 n0 c0 A1 n1 c1 v2 h) : Run Tryd.prog 50 #[(Value.slice A0 n0 c0), (Value.slice A1 n1 c1), v2] h R :=
  run_of mixed Tryd.func50 (by kernel_rfl) (by kernel_rfl) f50.good (Eq.mpr (show (Fwd Tryd.prog f50.T f50.kp Tryd.f50 R [] (mkFr (argL [(Value.slice A0 n0 c0), (Value.slice A1 n1 c1), v2] 0)) h) = (f50.runT R A0 n0 c0 A1 n1 c1 v2 h) by kernel_rfl) H)
def f68.T : Tab := { sh := tSh, tup := tTup, keep := [], plan := [] }
def f68.kp : Keep := [([false, false, true, false, true, true], [1, 2, 15, 16, 17])]
theorem f68.good : goodCode Tryd.prog f68.T (rootOf Tryd.f68) = true := by kernel_rfl
def f68.l0 (R : Value → Heap → Prop) (A1 : Option Addr) (n1 : Nat) (c1 : Nat) (v2 : Value) (A15 : Option Addr) (n15 : Nat) (c15 : Nat) (x16 : Int) (x17 : Int) (h : Heap) : Prop := Pt Tryd.prog Tryd.f68 R [false, false, true, false, true, true] (mkFr [(1, (Value.slice A1 n1 c1)), (2, v2), (15, (Value.slice A15 n15 c15)), (16, (Value.int .i64 x16)), (17, (Value.int .i64 x17))]) h
set_option maxRecDepth 100000 in
def f68.l0T (R : Value → Heap → Prop) (A1 : Option Addr) (n1 : Nat) (c1 : Nat) (v2 : Value) (A15 : Option Addr) (n15 : Nat) (c15 : Nat) (x16 : Int) (x17 : Int) (h : Heap) : Prop :=
  splitB (decide (x17 < x16)) (ptrOk A15 fun a1_ => 0 ≤ x17 ∧ x17 < ((n15 : Nat) : Int) ∧ (∃ v2_, ldv true 4 h (Addr.add a1_ (Int.toNat x17 * 4)) = some v2_ ∧ newH h (Obj.cells #[(Value.int .i64 (0 : Int)), (Value.int .i64 (0 : Int)), (Value.string (ByteArray.mk #[])), (Value.slice none 0 0)] 48) fun h3_ => ∃ l5_ : List Value, v2_ = Value.agg l5_.toArray ∧ l5_.length = 4 ∧ ∃ h4_, stH h3_ (⟨Array.size h, 0, none⟩) l5_ 0 = some h4_ ∧ ptrOk A1 fun a6_ => 0 ≤ x17 ∧ x17 < ((n1 : Nat) : Int) ∧ (∃ v7_, ldv true 4 h4_ (Addr.add a6_ (Int.toNat x17 * 4)) = some v7_ ∧ newH h4_ (Obj.cells #[(Value.int .i64 (0 : Int)), (Value.int .i64 (0 : Int)), (Value.string (ByteArray.mk #[])), (Value.slice none 0 0)] 48) fun h8_ => ∃ l10_ : List Value, v7_ = Value.agg l10_.toArray ∧ l10_.length = 4 ∧ ∃ h9_, stH h8_ (⟨Array.size h4_, 0, none⟩) l10_ 0 = some h9_ ∧ ∃ v11_, ldv true 4 h9_ (⟨Array.size h, 0, none⟩) = some v11_ ∧ ∃ v12_, ldv true 4 h9_ (⟨Array.size h4_, 0, none⟩) = some v12_ ∧ CallF Tryd.prog v2 [v11_, v12_] h9_ fun v13_ h14_ => ∃ b15_, v13_ = (Value.bool b15_) ∧ splitB (!b15_) (R (Value.bool false) h14_) (f68.l0 R A1 n1 c1 v2 A15 n15 c15 x16 (IntKind.wrap .i64 (x17 + (1 : Int))) h14_)))) (R (Value.bool true) h)
set_option maxRecDepth 100000 in
theorem f68.l0_in {R : Value → Heap → Prop} {A1 : Option Addr} {n1 : Nat} {c1 : Nat} {v2 : Value} {A15 : Option Addr} {n15 : Nat} {c15 : Nat} {x16 : Int} {x17 : Int} {h : Heap} (H : f68.l0T R A1 n1 c1 v2 A15 n15 c15 x16 x17 h) : f68.l0 R A1 n1 c1 v2 A15 n15 c15 x16 x17 h :=
  pt_intro mixed f68.good (Eq.mpr (show (Fwd Tryd.prog f68.T f68.kp Tryd.f68 R [false, false, true, false, true, true] (mkFr [(1, (Value.slice A1 n1 c1)), (2, v2), (15, (Value.slice A15 n15 c15)), (16, (Value.int .i64 x16)), (17, (Value.int .i64 x17))]) h) = (f68.l0T R A1 n1 c1 v2 A15 n15 c15 x16 x17 h) by kernel_rfl) H)
set_option maxRecDepth 100000 in
def f68.runT (R : Value → Heap → Prop) (A0 : Option Addr) (n0 : Nat) (c0 : Nat) (A1 : Option Addr) (n1 : Nat) (c1 : Nat) (v2 : Value) (h : Heap) : Prop :=
  splitB (((n0 : Nat) : Int) != ((n1 : Nat) : Int)) (R (Value.bool false) h) (f68.l0 R A1 n1 c1 v2 A0 n0 c0 ((n0 : Nat) : Int) (0 : Int) h)
set_option maxRecDepth 100000 in
theorem f68.run {R : Value → Heap → Prop} {A0 : Option Addr} {n0 : Nat} {c0 : Nat} {A1 : Option Addr} {n1 : Nat} {c1 : Nat} {v2 : Value} {h : Heap} (H : f68.runT R A0 n0 c0 A1 n1 c1 v2 h) : Run Tryd.prog 68 #[(Value.slice A0 n0 c0), (Value.slice A1 n1 c1), v2] h R :=
  run_of mixed Tryd.func68 (by kernel_rfl) (by kernel_rfl) f68.good (Eq.mpr (show (Fwd Tryd.prog f68.T f68.kp Tryd.f68 R [] (mkFr (argL [(Value.slice A0 n0 c0), (Value.slice A1 n1 c1), v2] 0)) h) = (f68.runT R A0 n0 c0 A1 n1 c1 v2 h) by kernel_rfl) H)
def f65.T : Tab := { sh := tSh, tup := tTup, keep := [], plan := [] }
def f65.kp : Keep := []
theorem f65.good : goodCode Tryd.prog f65.T (rootOf Tryd.f65) = true := by kernel_rfl
set_option maxRecDepth 100000 in
theorem f65.ok : calleeOk Tryd.prog 65 = true := by kernel_rfl
set_option maxRecDepth 100000 in
def f65.runT (R : Value → Heap → Prop) (v0 : Value) (v1 : Value) (h : Heap) : Prop :=
  newH h (Obj.cells ((v0).cells) 48) fun h1_ => newH h1_ (Obj.cells ((v1).cells) 48) fun h2_ => ∃ v3_, ldv false 1 h2_ (⟨Array.size h, 0, none⟩) = some v3_ ∧ ∃ x4_, v3_ = (Value.int .i64 x4_) ∧ ∃ v5_, ldv false 1 h2_ (⟨Array.size h1_, 0, none⟩) = some v5_ ∧ ∃ x6_, v5_ = (Value.int .i64 x6_) ∧ splitB (x4_ == x6_) (∃ v7_, ldv false 1 h2_ (Addr.add (⟨Array.size h, 0, none⟩) 1) = some v7_ ∧ ∃ x8_, v7_ = (Value.int .i64 x8_) ∧ ∃ v9_, ldv false 1 h2_ (Addr.add (⟨Array.size h1_, 0, none⟩) 1) = some v9_ ∧ ∃ x10_, v9_ = (Value.int .i64 x10_) ∧ splitB (x8_ == x10_) (∃ v11_, ldv false 1 h2_ (Addr.add (⟨Array.size h, 0, none⟩) 2) = some v11_ ∧ ∃ s12_, v11_ = (Value.string s12_) ∧ ∃ v13_, ldv false 1 h2_ (Addr.add (⟨Array.size h1_, 0, none⟩) 2) = some v13_ ∧ ∃ s14_, v13_ = (Value.string s14_) ∧ splitB (ByteArray.toList s12_ == ByteArray.toList s14_) (∃ v15_, ldv false 1 h2_ (Addr.add (⟨Array.size h, 0, none⟩) 3) = some v15_ ∧ ∃ A16_, ∃ n16_, ∃ c16_, v15_ = (Value.slice A16_ n16_ c16_) ∧ ∃ v17_, ldv false 1 h2_ (Addr.add (⟨Array.size h1_, 0, none⟩) 3) = some v17_ ∧ ∃ A18_, ∃ n18_, ∃ c18_, v17_ = (Value.slice A18_ n18_ c18_) ∧ Run Tryd.prog 68 #[(Value.slice A16_ n16_ c16_), (Value.slice A18_ n18_ c18_), (Value.func (.func 65) #[] #[])] h2_ fun v19_ h20_ => ∃ b21_, v19_ = (Value.bool b21_) ∧ R (Value.bool b21_) h20_) (R (Value.bool false) h2_)) (R (Value.bool false) h2_)) (R (Value.bool false) h2_)
set_option maxRecDepth 100000 in
theorem f65.run {R : Value → Heap → Prop} {v0 : Value} {v1 : Value} {h : Heap} (H : f65.runT R v0 v1 h) : Run Tryd.prog 65 #[v0, v1] h R :=
  run_of mixed Tryd.func65 (by kernel_rfl) (by kernel_rfl) f65.good (Eq.mpr (show (Fwd Tryd.prog f65.T f65.kp Tryd.f65 R [] (mkFr (argL [v0, v1] 0)) h) = (f65.runT R v0 v1 h) by kernel_rfl) H)
def f51.T : Tab := { sh := tSh, tup := tTup, keep := [], plan := [] }
def f51.kp : Keep := []
theorem f51.good : goodCode Tryd.prog f51.T (rootOf Tryd.f51) = true := by kernel_rfl
set_option maxRecDepth 100000 in
theorem f51.ok : calleeOk Tryd.prog 51 = true := by kernel_rfl
set_option maxRecDepth 100000 in
def f51.runT (R : Value → Heap → Prop) (v0 : Value) (v1 : Value) (h : Heap) : Prop :=
  newH h (Obj.cells ((v0).cells) 50) fun h1_ => newH h1_ (Obj.cells ((v1).cells) 50) fun h2_ => ∃ v3_, ldv true 4 h2_ (⟨Array.size h, 0, none⟩) = some v3_ ∧ ∃ v4_, ldv true 4 h2_ (⟨Array.size h1_, 0, none⟩) = some v4_ ∧ Run Tryd.prog 65 #[v3_, v4_] h2_ fun v5_ h6_ => ∃ b7_, v5_ = (Value.bool b7_) ∧ splitB b7_ (∃ v8_, ldv true 8 h6_ (Addr.add (⟨Array.size h, 0, none⟩) 4) = some v8_ ∧ ∃ v9_, ldv true 8 h6_ (Addr.add (⟨Array.size h1_, 0, none⟩) 4) = some v9_ ∧ Run Tryd.prog 11 #[v8_, v9_] h6_ fun v10_ h11_ => ∃ b12_, v10_ = (Value.bool b12_) ∧ R (Value.bool b12_) h11_) (R (Value.bool false) h6_)
set_option maxRecDepth 100000 in
theorem f51.run {R : Value → Heap → Prop} {v0 : Value} {v1 : Value} {h : Heap} (H : f51.runT R v0 v1 h) : Run Tryd.prog 51 #[v0, v1] h R :=
  run_of mixed Tryd.func51 (by kernel_rfl) (by kernel_rfl) f51.good (Eq.mpr (show (Fwd Tryd.prog f51.T f51.kp Tryd.f51 R [] (mkFr (argL [v0, v1] 0)) h) = (f51.runT R v0 v1 h) by kernel_rfl) H)
def f11.T : Tab := { sh := tSh, tup := tTup, keep := [], plan := [] }
def f11.kp : Keep := []
theorem f11.good : goodCode Tryd.prog f11.T (rootOf Tryd.f11) = true := by kernel_rfl
set_option maxRecDepth 100000 in
theorem f11.ok : calleeOk Tryd.prog 11 = true := by kernel_rfl
set_option maxRecDepth 100000 in
def f11.runT (R : Value → Heap → Prop) (v0 : Value) (v1 : Value) (h : Heap) : Prop :=
  newH h (Obj.cells ((v0).cells) 40) fun h1_ => newH h1_ (Obj.cells ((v1).cells) 40) fun h2_ => ∃ v3_, ldv false 1 h2_ (⟨Array.size h, 0, none⟩) = some v3_ ∧ ∃ x4_, v3_ = (Value.int .i64 x4_) ∧ ∃ v5_, ldv false 1 h2_ (⟨Array.size h1_, 0, none⟩) = some v5_ ∧ ∃ x6_, v5_ = (Value.int .i64 x6_) ∧ splitB (x4_ == x6_) (∃ v7_, ldv false 1 h2_ (Addr.add (⟨Array.size h, 0, none⟩) 1) = some v7_ ∧ ∃ x8_, v7_ = (Value.int .i64 x8_) ∧ ∃ v9_, ldv false 1 h2_ (Addr.add (⟨Array.size h1_, 0, none⟩) 1) = some v9_ ∧ ∃ x10_, v9_ = (Value.int .i64 x10_) ∧ splitB (x8_ == x10_) (∃ v11_, ldv false 1 h2_ (Addr.add (⟨Array.size h, 0, none⟩) 2) = some v11_ ∧ ∃ s12_, v11_ = (Value.string s12_) ∧ ∃ v13_, ldv false 1 h2_ (Addr.add (⟨Array.size h1_, 0, none⟩) 2) = some v13_ ∧ ∃ s14_, v13_ = (Value.string s14_) ∧ splitB (ByteArray.toList s12_ == ByteArray.toList s14_) (∃ v15_, ldv false 1 h2_ (Addr.add (⟨Array.size h, 0, none⟩) 3) = some v15_ ∧ ∃ A16_, ∃ n16_, ∃ c16_, v15_ = (Value.slice A16_ n16_ c16_) ∧ ∃ v17_, ldv false 1 h2_ (Addr.add (⟨Array.size h1_, 0, none⟩) 3) = some v17_ ∧ ∃ A18_, ∃ n18_, ∃ c18_, v17_ = (Value.slice A18_ n18_ c18_) ∧ Run Tryd.prog 20 #[(Value.slice A16_ n16_ c16_), (Value.slice A18_ n18_ c18_)] h2_ fun v19_ h20_ => ∃ b21_, v19_ = (Value.bool b21_) ∧ splitB b21_ (∃ v22_, ldv false 1 h20_ (Addr.add (⟨Array.size h, 0, none⟩) 4) = some v22_ ∧ ∃ A23_, ∃ n23_, ∃ c23_, v22_ = (Value.slice A23_ n23_ c23_) ∧ ∃ v24_, ldv false 1 h20_ (Addr.add (⟨Array.size h1_, 0, none⟩) 4) = some v24_ ∧ ∃ A25_, ∃ n25_, ∃ c25_, v24_ = (Value.slice A25_ n25_ c25_) ∧ Run Tryd.prog 48 #[(Value.slice A23_ n23_ c23_), (Value.slice A25_ n25_ c25_), (Value.func (.func 49) #[] #[])] h20_ fun v26_ h27_ => ∃ b28_, v26_ = (Value.bool b28_) ∧ splitB b28_ (∃ v29_, ldv false 1 h27_ (Addr.add (⟨Array.size h, 0, none⟩) 5) = some v29_ ∧ ∃ A30_, ∃ n30_, ∃ c30_, v29_ = (Value.slice A30_ n30_ c30_) ∧ ∃ v31_, ldv false 1 h27_ (Addr.add (⟨Array.size h1_, 0, none⟩) 5) = some v31_ ∧ ∃ A32_, ∃ n32_, ∃ c32_, v31_ = (Value.slice A32_ n32_ c32_) ∧ Run Tryd.prog 26 #[(Value.slice A30_ n30_ c30_), (Value.slice A32_ n32_ c32_), (Value.func (.func 11) #[] #[])] h27_ fun v33_ h34_ => ∃ b35_, v33_ = (Value.bool b35_) ∧ splitB b35_ (∃ v36_, ldv false 1 h34_ (Addr.add (⟨Array.size h, 0, none⟩) 6) = some v36_ ∧ ∃ A37_, ∃ n37_, ∃ c37_, v36_ = (Value.slice A37_ n37_ c37_) ∧ ∃ v38_, ldv false 1 h34_ (Addr.add (⟨Array.size h1_, 0, none⟩) 6) = some v38_ ∧ ∃ A39_, ∃ n39_, ∃ c39_, v38_ = (Value.slice A39_ n39_ c39_) ∧ Run Tryd.prog 50 #[(Value.slice A37_ n37_ c37_), (Value.slice A39_ n39_ c39_), (Value.func (.func 51) #[] #[])] h34_ fun v40_ h41_ => ∃ b42_, v40_ = (Value.bool b42_) ∧ R (Value.bool b42_) h41_) (R (Value.bool false) h34_)) (R (Value.bool false) h27_)) (R (Value.bool false) h20_)) (R (Value.bool false) h2_)) (R (Value.bool false) h2_)) (R (Value.bool false) h2_)
set_option maxRecDepth 100000 in
theorem f11.run {R : Value → Heap → Prop} {v0 : Value} {v1 : Value} {h : Heap} (H : f11.runT R v0 v1 h) : Run Tryd.prog 11 #[v0, v1] h R :=
  run_of mixed Tryd.func11 (by kernel_rfl) (by kernel_rfl) f11.good (Eq.mpr (show (Fwd Tryd.prog f11.T f11.kp Tryd.f11 R [] (mkFr (argL [v0, v1] 0)) h) = (f11.runT R v0 v1 h) by kernel_rfl) H)
def f14.T : Tab := { sh := tSh, tup := tTup, keep := [], plan := [] }
def f14.kp : Keep := [([false, false, false, true, true, true], [3, 4]), ([false, false, true, false, true, true, true, false, true, false, false, false, true, true, true], [3, 4, 5, 6]), ([false, false, true, true, true, true, true, false, true, false, false, false, true, true, true], [3, 4, 5, 7])]
theorem f14.good : goodCode Tryd.prog f14.T (rootOf Tryd.f14) = true := by kernel_rfl
def f14.l0 (R : Value → Heap → Prop) (A3 : Option Addr) (n3 : Nat) (c3 : Nat) (A4 : Option Addr) (n4 : Nat) (c4 : Nat) (h : Heap) : Prop := Pt Tryd.prog Tryd.f14 R [false, false, false, true, true, true] (mkFr [(3, (Value.slice A3 n3 c3)), (4, (Value.slice A4 n4 c4))]) h
def f14.l1 (R : Value → Heap → Prop) (A3 : Option Addr) (n3 : Nat) (c3 : Nat) (A4 : Option Addr) (n4 : Nat) (c4 : Nat) (a5 : Addr) (x6 : Int) (h : Heap) : Prop := Pt Tryd.prog Tryd.f14 R [false, false, true, false, true, true, true, false, true, false, false, false, true, true, true] (mkFr [(3, (Value.slice A3 n3 c3)), (4, (Value.slice A4 n4 c4)), (5, (Value.pointer (some a5))), (6, (Value.int .i64 x6))]) h
def f14.l2 (R : Value → Heap → Prop) (A3 : Option Addr) (n3 : Nat) (c3 : Nat) (A4 : Option Addr) (n4 : Nat) (c4 : Nat) (a5 : Addr) (x7 : Int) (h : Heap) : Prop := Pt Tryd.prog Tryd.f14 R [false, false, true, true, true, true, true, false, true, false, false, false, true, true, true] (mkFr [(3, (Value.slice A3 n3 c3)), (4, (Value.slice A4 n4 c4)), (5, (Value.pointer (some a5))), (7, (Value.int .i64 x7))]) h
set_option maxRecDepth 100000 in
def f14.l0T (R : Value → Heap → Prop) (A3 : Option Addr) (n3 : Nat) (c3 : Nat) (A4 : Option Addr) (n4 : Nat) (c4 : Nat) (h : Heap) : Prop :=
  splitB (decide (((n3 : Nat) : Int) > (0 : Int))) (ptrOk A3 fun a1_ => 0 ≤ (IntKind.wrap .i64 (((n3 : Nat) : Int) - (1 : Int))) ∧ (IntKind.wrap .i64 (((n3 : Nat) : Int) - (1 : Int))) < ((n3 : Nat) : Int) ∧ (∃ v2_, ldv true 8 h (Addr.add a1_ (Int.toNat (IntKind.wrap .i64 (((n3 : Nat) : Int) - (1 : Int))) * 8)) = some v2_ ∧ newH h (Obj.cells #[(Value.int .i64 (0 : Int)), (Value.int .i64 (0 : Int)), (Value.string (ByteArray.mk #[])), (Value.slice none 0 0), (Value.slice none 0 0), (Value.slice none 0 0), (Value.slice none 0 0), (Value.int .i64 (0 : Int))] 40) fun h3_ => ∃ l5_ : List Value, v2_ = Value.agg l5_.toArray ∧ l5_.length = 8 ∧ ∃ h4_, stH h3_ (⟨Array.size h, 0, none⟩) l5_ 0 = some h4_ ∧ 0 ≤ (0 : Int) ∧ (0 : Int) ≤ (IntKind.wrap .i64 (((n3 : Nat) : Int) - (1 : Int))) ∧ (IntKind.wrap .i64 (((n3 : Nat) : Int) - (1 : Int))) ≤ ((c3 : Nat) : Int) ∧ (∃ v6_, ldv true 8 h4_ (⟨Array.size h, 0, none⟩) = some v6_ ∧ ∃ l7_ : List Value, v6_ = Value.agg l7_.toArray ∧ l7_.length = 8 ∧ (newH h4_ (Obj.cells ((List.take 0 ([(Value.int .i64 (0 : Int)), (Value.int .i64 (0 : Int)), (Value.string (ByteArray.mk #[])), (Value.slice none 0 0), (Value.slice none 0 0), (Value.slice none 0 0), (Value.slice none 0 0), (Value.int .i64 (0 : Int))]) ++ l7_ ++ List.drop 8 ([(Value.int .i64 (0 : Int)), (Value.int .i64 (0 : Int)), (Value.string (ByteArray.mk #[])), (Value.slice none 0 0), (Value.slice none 0 0), (Value.slice none 0 0), (Value.slice none 0 0), (Value.int .i64 (0 : Int))])).toArray) 40) fun h8_ => AppW 40 8 136 #[(Value.int .i64 (0 : Int)), (Value.int .i64 (0 : Int)), (Value.string (ByteArray.mk #[])), (Value.slice none 0 0), (Value.slice none 0 0), (Value.slice none 0 0), (Value.slice none 0 0), (Value.int .i64 (0 : Int))] A4 n4 c4 (Value.slice (some ⟨Array.size h4_, 0, none⟩) 1 1) h8_ fun v9_ h10_ => ∃ A11_, ∃ n11_, ∃ c11_, v9_ = (Value.slice A11_ n11_ c11_) ∧ ∃ v12_, ldv false 1 h10_ (Addr.add (⟨Array.size h, 0, none⟩) 6) = some v12_ ∧ ∃ A13_, ∃ n13_, ∃ c13_, v12_ = (Value.slice A13_ n13_ c13_) ∧ f14.l1 R (sliceA A3 (Int.toNat (0 : Int)) c3 8) (Int.toNat (IntKind.wrap .i64 (((n3 : Nat) : Int) - (1 : Int))) - Int.toNat (0 : Int)) (c3 - Int.toNat (0 : Int)) A11_ n11_ c11_ (⟨Array.size h, 0, none⟩) (IntKind.wrap .i64 (((n13_ : Nat) : Int) - (1 : Int))) h10_)))) (R (Value.slice A4 n4 c4) h)
set_option maxRecDepth 100000 in
theorem f14.l0_in {R : Value → Heap → Prop} {A3 : Option Addr} {n3 : Nat} {c3 : Nat} {A4 : Option Addr} {n4 : Nat} {c4 : Nat} {h : Heap} (H : f14.l0T R A3 n3 c3 A4 n4 c4 h) : f14.l0 R A3 n3 c3 A4 n4 c4 h :=
  pt_intro mixed f14.good (Eq.mpr (show (Fwd Tryd.prog f14.T f14.kp Tryd.f14 R [false, false, false, true, true, true] (mkFr [(3, (Value.slice A3 n3 c3)), (4, (Value.slice A4 n4 c4))]) h) = (f14.l0T R A3 n3 c3 A4 n4 c4 h) by kernel_rfl) H)
set_option maxRecDepth 100000 in
def f14.l1T (R : Value → Heap → Prop) (A3 : Option Addr) (n3 : Nat) (c3 : Nat) (A4 : Option Addr) (n4 : Nat) (c4 : Nat) (a5 : Addr) (x6 : Int) (h : Heap) : Prop :=
  splitB (decide (x6 ≥ (0 : Int))) (∃ v1_, ldv false 1 h (Addr.add a5 6) = some v1_ ∧ ∃ A2_, ∃ n2_, ∃ c2_, v1_ = (Value.slice A2_ n2_ c2_) ∧ ptrOk A2_ fun a3_ => 0 ≤ x6 ∧ x6 < ((n2_ : Nat) : Int) ∧ (∃ v4_, ldv true 8 h (Addr.add (Addr.add a3_ (Int.toNat x6 * 12)) 4) = some v4_ ∧ ∃ l5_ : List Value, v4_ = Value.agg l5_.toArray ∧ l5_.length = 8 ∧ (newH h (Obj.cells ((List.take 0 ([(Value.int .i64 (0 : Int)), (Value.int .i64 (0 : Int)), (Value.string (ByteArray.mk #[])), (Value.slice none 0 0), (Value.slice none 0 0), (Value.slice none 0 0), (Value.slice none 0 0), (Value.int .i64 (0 : Int))]) ++ l5_ ++ List.drop 8 ([(Value.int .i64 (0 : Int)), (Value.int .i64 (0 : Int)), (Value.string (ByteArray.mk #[])), (Value.slice none 0 0), (Value.slice none 0 0), (Value.slice none 0 0), (Value.slice none 0 0), (Value.int .i64 (0 : Int))])).toArray) 40) fun h6_ => AppW 40 8 136 #[(Value.int .i64 (0 : Int)), (Value.int .i64 (0 : Int)), (Value.string (ByteArray.mk #[])), (Value.slice none 0 0), (Value.slice none 0 0), (Value.slice none 0 0), (Value.slice none 0 0), (Value.int .i64 (0 : Int))] A3 n3 c3 (Value.slice (some ⟨Array.size h, 0, none⟩) 1 1) h6_ fun v7_ h8_ => ∃ A9_, ∃ n9_, ∃ c9_, v7_ = (Value.slice A9_ n9_ c9_) ∧ f14.l1 R A9_ n9_ c9_ A4 n4 c4 a5 (IntKind.wrap .i64 (x6 - (1 : Int))) h8_))) (∃ v10_, ldv false 1 h (Addr.add a5 5) = some v10_ ∧ ∃ A11_, ∃ n11_, ∃ c11_, v10_ = (Value.slice A11_ n11_ c11_) ∧ f14.l2 R A3 n3 c3 A4 n4 c4 a5 (IntKind.wrap .i64 (((n11_ : Nat) : Int) - (1 : Int))) h)
set_option maxRecDepth 100000 in
theorem f14.l1_in {R : Value → Heap → Prop} {A3 : Option Addr} {n3 : Nat} {c3 : Nat} {A4 : Option Addr} {n4 : Nat} {c4 : Nat} {a5 : Addr} {x6 : Int} {h : Heap} (H : f14.l1T R A3 n3 c3 A4 n4 c4 a5 x6 h) : f14.l1 R A3 n3 c3 A4 n4 c4 a5 x6 h :=
  pt_intro mixed f14.good (Eq.mpr (show (Fwd Tryd.prog f14.T f14.kp Tryd.f14 R [false, false, true, false, true, true, true, false, true, false, false, false, true, true, true] (mkFr [(3, (Value.slice A3 n3 c3)), (4, (Value.slice A4 n4 c4)), (5, (Value.pointer (some a5))), (6, (Value.int .i64 x6))]) h) = (f14.l1T R A3 n3 c3 A4 n4 c4 a5 x6 h) by kernel_rfl) H)
set_option maxRecDepth 100000 in
def f14.l2T (R : Value → Heap → Prop) (A3 : Option Addr) (n3 : Nat) (c3 : Nat) (A4 : Option Addr) (n4 : Nat) (c4 : Nat) (a5 : Addr) (x7 : Int) (h : Heap) : Prop :=
  splitB (decide (x7 ≥ (0 : Int))) (∃ v1_, ldv false 1 h (Addr.add a5 5) = some v1_ ∧ ∃ A2_, ∃ n2_, ∃ c2_, v1_ = (Value.slice A2_ n2_ c2_) ∧ ptrOk A2_ fun a3_ => 0 ≤ x7 ∧ x7 < ((n2_ : Nat) : Int) ∧ (∃ v4_, ldv true 8 h (Addr.add a3_ (Int.toNat x7 * 8)) = some v4_ ∧ ∃ l5_ : List Value, v4_ = Value.agg l5_.toArray ∧ l5_.length = 8 ∧ (newH h (Obj.cells ((List.take 0 ([(Value.int .i64 (0 : Int)), (Value.int .i64 (0 : Int)), (Value.string (ByteArray.mk #[])), (Value.slice none 0 0), (Value.slice none 0 0), (Value.slice none 0 0), (Value.slice none 0 0), (Value.int .i64 (0 : Int))]) ++ l5_ ++ List.drop 8 ([(Value.int .i64 (0 : Int)), (Value.int .i64 (0 : Int)), (Value.string (ByteArray.mk #[])), (Value.slice none 0 0), (Value.slice none 0 0), (Value.slice none 0 0), (Value.slice none 0 0), (Value.int .i64 (0 : Int))])).toArray) 40) fun h6_ => AppW 40 8 136 #[(Value.int .i64 (0 : Int)), (Value.int .i64 (0 : Int)), (Value.string (ByteArray.mk #[])), (Value.slice none 0 0), (Value.slice none 0 0), (Value.slice none 0 0), (Value.slice none 0 0), (Value.int .i64 (0 : Int))] A3 n3 c3 (Value.slice (some ⟨Array.size h, 0, none⟩) 1 1) h6_ fun v7_ h8_ => ∃ A9_, ∃ n9_, ∃ c9_, v7_ = (Value.slice A9_ n9_ c9_) ∧ f14.l2 R A9_ n9_ c9_ A4 n4 c4 a5 (IntKind.wrap .i64 (x7 - (1 : Int))) h8_))) (f14.l0 R A3 n3 c3 A4 n4 c4 h)
set_option maxRecDepth 100000 in
theorem f14.l2_in {R : Value → Heap → Prop} {A3 : Option Addr} {n3 : Nat} {c3 : Nat} {A4 : Option Addr} {n4 : Nat} {c4 : Nat} {a5 : Addr} {x7 : Int} {h : Heap} (H : f14.l2T R A3 n3 c3 A4 n4 c4 a5 x7 h) : f14.l2 R A3 n3 c3 A4 n4 c4 a5 x7 h :=
  pt_intro mixed f14.good (Eq.mpr (show (Fwd Tryd.prog f14.T f14.kp Tryd.f14 R [false, false, true, true, true, true, true, false, true, false, false, false, true, true, true] (mkFr [(3, (Value.slice A3 n3 c3)), (4, (Value.slice A4 n4 c4)), (5, (Value.pointer (some a5))), (7, (Value.int .i64 x7))]) h) = (f14.l2T R A3 n3 c3 A4 n4 c4 a5 x7 h) by kernel_rfl) H)
set_option maxRecDepth 100000 in
def f14.runT (R : Value → Heap → Prop) (v0 : Value) (h : Heap) : Prop :=
  newH h (Obj.cells ((v0).cells) 40) fun h1_ => ∃ v2_, ldv true 8 h1_ (⟨Array.size h, 0, none⟩) = some v2_ ∧ ∃ l3_ : List Value, v2_ = Value.agg l3_.toArray ∧ l3_.length = 8 ∧ (newH h1_ (Obj.cells ((List.take 0 ([(Value.int .i64 (0 : Int)), (Value.int .i64 (0 : Int)), (Value.string (ByteArray.mk #[])), (Value.slice none 0 0), (Value.slice none 0 0), (Value.slice none 0 0), (Value.slice none 0 0), (Value.int .i64 (0 : Int))]) ++ l3_ ++ List.drop 8 ([(Value.int .i64 (0 : Int)), (Value.int .i64 (0 : Int)), (Value.string (ByteArray.mk #[])), (Value.slice none 0 0), (Value.slice none 0 0), (Value.slice none 0 0), (Value.slice none 0 0), (Value.int .i64 (0 : Int))])).toArray) 40) fun h4_ => f14.l0 R (some ⟨Array.size h1_, 0, none⟩) 1 1 none 0 0 h4_)
set_option maxRecDepth 100000 in
theorem f14.run {R : Value → Heap → Prop} {v0 : Value} {h : Heap} (H : f14.runT R v0 h) : Run Tryd.prog 14 #[v0] h R :=
  run_of mixed Tryd.func14 (by kernel_rfl) (by kernel_rfl) f14.good (Eq.mpr (show (Fwd Tryd.prog f14.T f14.kp Tryd.f14 R [] (mkFr (argL [v0] 0)) h) = (f14.runT R v0 h) by kernel_rfl) H)
def f52.T : Tab := { sh := tSh, tup := tTup, keep := [], plan := [] }
def f52.kp : Keep := [([false, false, true, false, true, true], [3, 4])]
theorem f52.good : goodCode Tryd.prog f52.T (rootOf Tryd.f52) = true := by kernel_rfl
def f52.l0 (R : Value → Heap → Prop) (A3 : Option Addr) (n3 : Nat) (c3 : Nat) (x4 : Int) (h : Heap) : Prop := Pt Tryd.prog Tryd.f52 R [false, false, true, false, true, true] (mkFr [(3, (Value.slice A3 n3 c3)), (4, (Value.int .i64 x4))]) h
set_option maxRecDepth 100000 in
def f52.l0T (R : Value → Heap → Prop) (A3 : Option Addr) (n3 : Nat) (c3 : Nat) (x4 : Int) (h : Heap) : Prop :=
  splitB (decide (x4 < ((n3 : Nat) : Int))) (ptrOk A3 fun a1_ => 0 ≤ x4 ∧ x4 < ((n3 : Nat) : Int) ∧ (∃ v2_, ldv false 1 h (Addr.add (Addr.add a1_ (Int.toNat x4 * 4)) 3) = some v2_ ∧ ∃ A3_, ∃ n3_, ∃ c3_, v2_ = (Value.slice A3_ n3_ c3_) ∧ AppW 48 4 56 #[(Value.int .i64 (0 : Int)), (Value.int .i64 (0 : Int)), (Value.string (ByteArray.mk #[])), (Value.slice none 0 0)] A3 n3 c3 (Value.slice A3_ n3_ c3_) h fun v4_ h5_ => ∃ A6_, ∃ n6_, ∃ c6_, v4_ = (Value.slice A6_ n6_ c6_) ∧ f52.l0 R A6_ n6_ c6_ (IntKind.wrap .i64 (x4 + (1 : Int))) h5_)) (R (Value.slice A3 n3 c3) h)
set_option maxRecDepth 100000 in
theorem f52.l0_in {R : Value → Heap → Prop} {A3 : Option Addr} {n3 : Nat} {c3 : Nat} {x4 : Int} {h : Heap} (H : f52.l0T R A3 n3 c3 x4 h) : f52.l0 R A3 n3 c3 x4 h :=
  pt_intro mixed f52.good (Eq.mpr (show (Fwd Tryd.prog f52.T f52.kp Tryd.f52 R [false, false, true, false, true, true] (mkFr [(3, (Value.slice A3 n3 c3)), (4, (Value.int .i64 x4))]) h) = (f52.l0T R A3 n3 c3 x4 h) by kernel_rfl) H)
set_option maxRecDepth 100000 in
def f52.runT (R : Value → Heap → Prop) (v0 : Value) (h : Heap) : Prop :=
  newH h (Obj.cells ((v0).cells) 48) fun h1_ => ∃ v2_, ldv true 4 h1_ (⟨Array.size h, 0, none⟩) = some v2_ ∧ ∃ l3_ : List Value, v2_ = Value.agg l3_.toArray ∧ l3_.length = 4 ∧ (newH h1_ (Obj.cells ((List.take 0 ([(Value.int .i64 (0 : Int)), (Value.int .i64 (0 : Int)), (Value.string (ByteArray.mk #[])), (Value.slice none 0 0)]) ++ l3_ ++ List.drop 4 ([(Value.int .i64 (0 : Int)), (Value.int .i64 (0 : Int)), (Value.string (ByteArray.mk #[])), (Value.slice none 0 0)])).toArray) 48) fun h4_ => f52.l0 R (some ⟨Array.size h1_, 0, none⟩) 1 1 (0 : Int) h4_)
set_option maxRecDepth 100000 in
theorem f52.run {R : Value → Heap → Prop} {v0 : Value} {h : Heap} (H : f52.runT R v0 h) : Run Tryd.prog 52 #[v0] h R :=
  run_of mixed Tryd.func52 (by kernel_rfl) (by kernel_rfl) f52.good (Eq.mpr (show (Fwd Tryd.prog f52.T f52.kp Tryd.f52 R [] (mkFr (argL [v0] 0)) h) = (f52.runT R v0 h) by kernel_rfl) H)
def f12.T : Tab := { sh := tSh, tup := tTup, keep := [], plan := [] }
def f12.kp : Keep := [([false, false, true, false, true, true], [3, 9, 10, 11]), ([false, false, true, true, true, false, false, true, true, false, false, true, false, true, true], [3, 9, 10, 11, 18, 19, 20])]
theorem f12.good : goodCode Tryd.prog f12.T (rootOf Tryd.f12) = true := by kernel_rfl
def f12.l0 (R : Value → Heap → Prop) (x3 : Int) (A9 : Option Addr) (n9 : Nat) (c9 : Nat) (x10 : Int) (x11 : Int) (h : Heap) : Prop := Pt Tryd.prog Tryd.f12 R [false, false, true, false, true, true] (mkFr [(3, (Value.int .i64 x3)), (9, (Value.slice A9 n9 c9)), (10, (Value.int .i64 x10)), (11, (Value.int .i64 x11))]) h
def f12.l1 (R : Value → Heap → Prop) (x3 : Int) (A9 : Option Addr) (n9 : Nat) (c9 : Nat) (x10 : Int) (x11 : Int) (A18 : Option Addr) (n18 : Nat) (c18 : Nat) (x19 : Int) (x20 : Int) (h : Heap) : Prop := Pt Tryd.prog Tryd.f12 R [false, false, true, true, true, false, false, true, true, false, false, true, false, true, true] (mkFr [(3, (Value.int .i64 x3)), (9, (Value.slice A9 n9 c9)), (10, (Value.int .i64 x10)), (11, (Value.int .i64 x11)), (18, (Value.slice A18 n18 c18)), (19, (Value.int .i64 x19)), (20, (Value.int .i64 x20))]) h
set_option maxRecDepth 100000 in
def f12.l0T (R : Value → Heap → Prop) (x3 : Int) (A9 : Option Addr) (n9 : Nat) (c9 : Nat) (x10 : Int) (x11 : Int) (h : Heap) : Prop :=
  splitB (decide (x11 < x10)) (ptrOk A9 fun a1_ => 0 ≤ x11 ∧ x11 < ((n9 : Nat) : Int) ∧ (∃ v2_, ldv true 8 h (Addr.add a1_ (Int.toNat x11 * 8)) = some v2_ ∧ newH h (Obj.cells #[(Value.int .i64 (0 : Int)), (Value.int .i64 (0 : Int)), (Value.string (ByteArray.mk #[])), (Value.slice none 0 0), (Value.slice none 0 0), (Value.slice none 0 0), (Value.slice none 0 0), (Value.int .i64 (0 : Int))] 40) fun h3_ => ∃ l5_ : List Value, v2_ = Value.agg l5_.toArray ∧ l5_.length = 8 ∧ ∃ h4_, stH h3_ (⟨Array.size h, 0, none⟩) l5_ 0 = some h4_ ∧ ∃ v6_, ldv false 1 h4_ (Addr.add (⟨Array.size h, 0, none⟩) 6) = some v6_ ∧ ∃ A7_, ∃ n7_, ∃ c7_, v6_ = (Value.slice A7_ n7_ c7_) ∧ f12.l1 R (IntKind.wrap .i64 (x3 + (1 : Int))) A9 n9 c9 x10 x11 A7_ n7_ c7_ ((n7_ : Nat) : Int) (0 : Int) h4_)) (R (Value.int .i64 x3) h)
set_option maxRecDepth 100000 in
theorem f12.l0_in {R : Value → Heap → Prop} {x3 : Int} {A9 : Option Addr} {n9 : Nat} {c9 : Nat} {x10 : Int} {x11 : Int} {h : Heap} (H : f12.l0T R x3 A9 n9 c9 x10 x11 h) : f12.l0 R x3 A9 n9 c9 x10 x11 h :=
  pt_intro mixed f12.good (Eq.mpr (show (Fwd Tryd.prog f12.T f12.kp Tryd.f12 R [false, false, true, false, true, true] (mkFr [(3, (Value.int .i64 x3)), (9, (Value.slice A9 n9 c9)), (10, (Value.int .i64 x10)), (11, (Value.int .i64 x11))]) h) = (f12.l0T R x3 A9 n9 c9 x10 x11 h) by kernel_rfl) H)
set_option maxRecDepth 100000 in
def f12.l1T (R : Value → Heap → Prop) (x3 : Int) (A9 : Option Addr) (n9 : Nat) (c9 : Nat) (x10 : Int) (x11 : Int) (A18 : Option Addr) (n18 : Nat) (c18 : Nat) (x19 : Int) (x20 : Int) (h : Heap) : Prop :=
  splitB (decide (x20 < x19)) (ptrOk A18 fun a1_ => 0 ≤ x20 ∧ x20 < ((n18 : Nat) : Int) ∧ (∃ v2_, ldv true 12 h (Addr.add a1_ (Int.toNat x20 * 12)) = some v2_ ∧ newH h (Obj.cells #[(Value.int .i64 (0 : Int)), (Value.int .i64 (0 : Int)), (Value.string (ByteArray.mk #[])), (Value.slice none 0 0), (Value.int .i64 (0 : Int)), (Value.int .i64 (0 : Int)), (Value.string (ByteArray.mk #[])), (Value.slice none 0 0), (Value.slice none 0 0), (Value.slice none 0 0), (Value.slice none 0 0), (Value.int .i64 (0 : Int))] 50) fun h3_ => ∃ l5_ : List Value, v2_ = Value.agg l5_.toArray ∧ l5_.length = 12 ∧ ∃ h4_, stH h3_ (⟨Array.size h, 0, none⟩) l5_ 0 = some h4_ ∧ ∃ v6_, ldv true 4 h4_ (⟨Array.size h, 0, none⟩) = some v6_ ∧ Run Tryd.prog 52 #[v6_] h4_ fun v7_ h8_ => ∃ A9_, ∃ n9_, ∃ c9_, v7_ = (Value.slice A9_ n9_ c9_) ∧ f12.l1 R (IntKind.wrap .i64 (x3 + ((n9_ : Nat) : Int))) A9 n9 c9 x10 x11 A18 n18 c18 x19 (IntKind.wrap .i64 (x20 + (1 : Int))) h8_)) (f12.l0 R x3 A9 n9 c9 x10 (IntKind.wrap .i64 (x11 + (1 : Int))) h)
set_option maxRecDepth 100000 in
theorem f12.l1_in {R : Value → Heap → Prop} {x3 : Int} {A9 : Option Addr} {n9 : Nat} {c9 : Nat} {x10 : Int} {x11 : Int} {A18 : Option Addr} {n18 : Nat} {c18 : Nat} {x19 : Int} {x20 : Int} {h : Heap} (H : f12.l1T R x3 A9 n9 c9 x10 x11 A18 n18 c18 x19 x20 h) : f12.l1 R x3 A9 n9 c9 x10 x11 A18 n18 c18 x19 x20 h :=
  pt_intro mixed f12.good (Eq.mpr (show (Fwd Tryd.prog f12.T f12.kp Tryd.f12 R [false, false, true, true, true, false, false, true, true, false, false, true, false, true, true] (mkFr [(3, (Value.int .i64 x3)), (9, (Value.slice A9 n9 c9)), (10, (Value.int .i64 x10)), (11, (Value.int .i64 x11)), (18, (Value.slice A18 n18 c18)), (19, (Value.int .i64 x19)), (20, (Value.int .i64 x20))]) h) = (f12.l1T R x3 A9 n9 c9 x10 x11 A18 n18 c18 x19 x20 h) by kernel_rfl) H)
set_option maxRecDepth 100000 in
def f12.runT (R : Value → Heap → Prop) (v0 : Value) (h : Heap) : Prop :=
  newH h (Obj.cells ((v0).cells) 40) fun h1_ => ∃ v2_, ldv true 8 h1_ (⟨Array.size h, 0, none⟩) = some v2_ ∧ Run Tryd.prog 14 #[v2_] h1_ fun v3_ h4_ => ∃ A5_, ∃ n5_, ∃ c5_, v3_ = (Value.slice A5_ n5_ c5_) ∧ f12.l0 R (0 : Int) A5_ n5_ c5_ ((n5_ : Nat) : Int) (0 : Int) h4_
set_option maxRecDepth 100000 in
theorem f12.run {R : Value → Heap → Prop} {v0 : Value} {h : Heap} (H : f12.runT R v0 h) : Run Tryd.prog 12 #[v0] h R :=
  run_of mixed Tryd.func12 (by kernel_rfl) (by kernel_rfl) f12.good (Eq.mpr (show (Fwd Tryd.prog f12.T f12.kp Tryd.f12 R [] (mkFr (argL [v0] 0)) h) = (f12.runT R v0 h) by kernel_rfl) H)
def f28.T : Tab := { sh := tSh, tup := tTup, keep := [], plan := [] }
def f28.kp : Keep := []
theorem f28.good : goodCode Tryd.prog f28.T (rootOf Tryd.f28) = true := by kernel_rfl
set_option maxRecDepth 100000 in
def f28.runT (R : Value → Heap → Prop) (A0 : Option Addr) (n0 : Nat) (c0 : Nat) (h : Heap) : Prop :=
  splitB (Option.isNone A0) (R (Value.slice none 0 0) h) (newH h (Obj.cells #[] 40) fun h1_ => AppW 40 8 136 #[(Value.int .i64 (0 : Int)), (Value.int .i64 (0 : Int)), (Value.string (ByteArray.mk #[])), (Value.slice none 0 0), (Value.slice none 0 0), (Value.slice none 0 0), (Value.slice none 0 0), (Value.int .i64 (0 : Int))] (some ⟨Array.size h, 0, none⟩) 0 0 (Value.slice A0 n0 c0) h1_ fun v2_ h3_ => ∃ A4_, ∃ n4_, ∃ c4_, v2_ = (Value.slice A4_ n4_ c4_) ∧ R (Value.slice A4_ n4_ c4_) h3_)
set_option maxRecDepth 100000 in
theorem f28.run {R : Value → Heap → Prop} {A0 : Option Addr} {n0 : Nat} {c0 : Nat} {h : Heap} (H : f28.runT R A0 n0 c0 h) : Run Tryd.prog 28 #[(Value.slice A0 n0 c0)] h R :=
  run_of mixed Tryd.func28 (by kernel_rfl) (by kernel_rfl) f28.good (Eq.mpr (show (Fwd Tryd.prog f28.T f28.kp Tryd.f28 R [] (mkFr (argL [(Value.slice A0 n0 c0)] 0)) h) = (f28.runT R A0 n0 c0 h) by kernel_rfl) H)
def f27.T : Tab := { sh := tSh, tup := tTup, keep := [], plan := [] }
def f27.kp : Keep := [([false, false, true, false, true, true], [3, 10, 11, 12])]
theorem f27.good : goodCode Tryd.prog f27.T (rootOf Tryd.f27) = true := by kernel_rfl
def f27.l0 (R : Value → Heap → Prop) (A3 : Option Addr) (n3 : Nat) (c3 : Nat) (A10 : Option Addr) (n10 : Nat) (c10 : Nat) (x11 : Int) (x12 : Int) (h : Heap) : Prop := Pt Tryd.prog Tryd.f27 R [false, false, true, false, true, true] (mkFr [(3, (Value.slice A3 n3 c3)), (10, (Value.slice A10 n10 c10)), (11, (Value.int .i64 x11)), (12, (Value.int .i64 x12))]) h
set_option maxRecDepth 100000 in
def f27.l0T (R : Value → Heap → Prop) (A3 : Option Addr) (n3 : Nat) (c3 : Nat) (A10 : Option Addr) (n10 : Nat) (c10 : Nat) (x11 : Int) (x12 : Int) (h : Heap) : Prop :=
  splitB (decide (x12 < x11)) (ptrOk A10 fun a1_ => 0 ≤ x12 ∧ x12 < ((n10 : Nat) : Int) ∧ (∃ v2_, ldv true 12 h (Addr.add a1_ (Int.toNat x12 * 12)) = some v2_ ∧ newH h (Obj.cells #[(Value.int .i64 (0 : Int)), (Value.int .i64 (0 : Int)), (Value.string (ByteArray.mk #[])), (Value.slice none 0 0), (Value.int .i64 (0 : Int)), (Value.int .i64 (0 : Int)), (Value.string (ByteArray.mk #[])), (Value.slice none 0 0), (Value.slice none 0 0), (Value.slice none 0 0), (Value.slice none 0 0), (Value.int .i64 (0 : Int))] 50) fun h3_ => ∃ l5_ : List Value, v2_ = Value.agg l5_.toArray ∧ l5_.length = 12 ∧ ∃ h4_, stH h3_ (⟨Array.size h, 0, none⟩) l5_ 0 = some h4_ ∧ ∃ v6_, ldv true 8 h4_ (Addr.add (⟨Array.size h, 0, none⟩) 4) = some v6_ ∧ ∃ l7_ : List Value, v6_ = Value.agg l7_.toArray ∧ l7_.length = 8 ∧ (newH h4_ (Obj.cells ((List.take 0 ([(Value.int .i64 (0 : Int)), (Value.int .i64 (0 : Int)), (Value.string (ByteArray.mk #[])), (Value.slice none 0 0), (Value.slice none 0 0), (Value.slice none 0 0), (Value.slice none 0 0), (Value.int .i64 (0 : Int))]) ++ l7_ ++ List.drop 8 ([(Value.int .i64 (0 : Int)), (Value.int .i64 (0 : Int)), (Value.string (ByteArray.mk #[])), (Value.slice none 0 0), (Value.slice none 0 0), (Value.slice none 0 0), (Value.slice none 0 0), (Value.int .i64 (0 : Int))])).toArray) 40) fun h8_ => AppW 40 8 136 #[(Value.int .i64 (0 : Int)), (Value.int .i64 (0 : Int)), (Value.string (ByteArray.mk #[])), (Value.slice none 0 0), (Value.slice none 0 0), (Value.slice none 0 0), (Value.slice none 0 0), (Value.int .i64 (0 : Int))] A3 n3 c3 (Value.slice (some ⟨Array.size h4_, 0, none⟩) 1 1) h8_ fun v9_ h10_ => ∃ A11_, ∃ n11_, ∃ c11_, v9_ = (Value.slice A11_ n11_ c11_) ∧ f27.l0 R A11_ n11_ c11_ A10 n10 c10 x11 (IntKind.wrap .i64 (x12 + (1 : Int))) h10_))) (R (Value.slice A3 n3 c3) h)
set_option maxRecDepth 100000 in
theorem f27.l0_in {R : Value → Heap → Prop} {A3 : Option Addr} {n3 : Nat} {c3 : Nat} {A10 : Option Addr} {n10 : Nat} {c10 : Nat} {x11 : Int} {x12 : Int} {h : Heap} (H : f27.l0T R A3 n3 c3 A10 n10 c10 x11 x12 h) : f27.l0 R A3 n3 c3 A10 n10 c10 x11 x12 h :=
  pt_intro mixed f27.good (Eq.mpr (show (Fwd Tryd.prog f27.T f27.kp Tryd.f27 R [false, false, true, false, true, true] (mkFr [(3, (Value.slice A3 n3 c3)), (10, (Value.slice A10 n10 c10)), (11, (Value.int .i64 x11)), (12, (Value.int .i64 x12))]) h) = (f27.l0T R A3 n3 c3 A10 n10 c10 x11 x12 h) by kernel_rfl) H)
set_option maxRecDepth 100000 in
def f27.runT (R : Value → Heap → Prop) (v0 : Value) (h : Heap) : Prop :=
  newH h (Obj.cells ((v0).cells) 40) fun h1_ => ∃ v2_, ldv false 1 h1_ (Addr.add (⟨Array.size h, 0, none⟩) 5) = some v2_ ∧ ∃ A3_, ∃ n3_, ∃ c3_, v2_ = (Value.slice A3_ n3_ c3_) ∧ Run Tryd.prog 28 #[(Value.slice A3_ n3_ c3_)] h1_ fun v4_ h5_ => ∃ A6_, ∃ n6_, ∃ c6_, v4_ = (Value.slice A6_ n6_ c6_) ∧ ∃ v7_, ldv false 1 h5_ (Addr.add (⟨Array.size h, 0, none⟩) 6) = some v7_ ∧ ∃ A8_, ∃ n8_, ∃ c8_, v7_ = (Value.slice A8_ n8_ c8_) ∧ f27.l0 R A6_ n6_ c6_ A8_ n8_ c8_ ((n8_ : Nat) : Int) (0 : Int) h5_
set_option maxRecDepth 100000 in
theorem f27.run {R : Value → Heap → Prop} {v0 : Value} {h : Heap} (H : f27.runT R v0 h) : Run Tryd.prog 27 #[v0] h R :=
  run_of mixed Tryd.func27 (by kernel_rfl) (by kernel_rfl) f27.good (Eq.mpr (show (Fwd Tryd.prog f27.T f27.kp Tryd.f27 R [] (mkFr (argL [v0] 0)) h) = (f27.runT R v0 h) by kernel_rfl) H)
def f13.T : Tab := { sh := tSh, tup := tTup, keep := [], plan := [] }
def f13.kp : Keep := [([false, false, true, false, true, true], [3, 9, 10, 11])]
theorem f13.good : goodCode Tryd.prog f13.T (rootOf Tryd.f13) = true := by kernel_rfl
def f13.l0 (R : Value → Heap → Prop) (A3 : Option Addr) (n3 : Nat) (c3 : Nat) (A9 : Option Addr) (n9 : Nat) (c9 : Nat) (x10 : Int) (x11 : Int) (h : Heap) : Prop := Pt Tryd.prog Tryd.f13 R [false, false, true, false, true, true] (mkFr [(3, (Value.slice A3 n3 c3)), (9, (Value.slice A9 n9 c9)), (10, (Value.int .i64 x10)), (11, (Value.int .i64 x11))]) h
set_option maxRecDepth 100000 in
def f13.l0T (R : Value → Heap → Prop) (A3 : Option Addr) (n3 : Nat) (c3 : Nat) (A9 : Option Addr) (n9 : Nat) (c9 : Nat) (x10 : Int) (x11 : Int) (h : Heap) : Prop :=
  splitB (decide (x11 < x10)) (ptrOk A9 fun a1_ => 0 ≤ x11 ∧ x11 < ((n9 : Nat) : Int) ∧ (∃ v2_, ldv true 8 h (Addr.add a1_ (Int.toNat x11 * 8)) = some v2_ ∧ newH h (Obj.cells #[(Value.int .i64 (0 : Int)), (Value.int .i64 (0 : Int)), (Value.string (ByteArray.mk #[])), (Value.slice none 0 0), (Value.slice none 0 0), (Value.slice none 0 0), (Value.slice none 0 0), (Value.int .i64 (0 : Int))] 40) fun h3_ => ∃ l5_ : List Value, v2_ = Value.agg l5_.toArray ∧ l5_.length = 8 ∧ ∃ h4_, stH h3_ (⟨Array.size h, 0, none⟩) l5_ 0 = some h4_ ∧ ∃ v6_, ldv true 8 h4_ (⟨Array.size h, 0, none⟩) = some v6_ ∧ Run Tryd.prog 13 #[v6_] h4_ fun v7_ h8_ => ∃ A9_, ∃ n9_, ∃ c9_, v7_ = (Value.slice A9_ n9_ c9_) ∧ AppW 40 8 136 #[(Value.int .i64 (0 : Int)), (Value.int .i64 (0 : Int)), (Value.string (ByteArray.mk #[])), (Value.slice none 0 0), (Value.slice none 0 0), (Value.slice none 0 0), (Value.slice none 0 0), (Value.int .i64 (0 : Int))] A3 n3 c3 (Value.slice A9_ n9_ c9_) h8_ fun v10_ h11_ => ∃ A12_, ∃ n12_, ∃ c12_, v10_ = (Value.slice A12_ n12_ c12_) ∧ f13.l0 R A12_ n12_ c12_ A9 n9 c9 x10 (IntKind.wrap .i64 (x11 + (1 : Int))) h11_)) (R (Value.slice A3 n3 c3) h)
set_option maxRecDepth 100000 in
theorem f13.l0_in {R : Value → Heap → Prop} {A3 : Option Addr} {n3 : Nat} {c3 : Nat} {A9 : Option Addr} {n9 : Nat} {c9 : Nat} {x10 : Int} {x11 : Int} {h : Heap} (H : f13.l0T R A3 n3 c3 A9 n9 c9 x10 x11 h) : f13.l0 R A3 n3 c3 A9 n9 c9 x10 x11 h :=
  pt_intro mixed f13.good (Eq.mpr (show (Fwd Tryd.prog f13.T f13.kp Tryd.f13 R [false, false, true, false, true, true] (mkFr [(3, (Value.slice A3 n3 c3)), (9, (Value.slice A9 n9 c9)), (10, (Value.int .i64 x10)), (11, (Value.int .i64 x11))]) h) = (f13.l0T R A3 n3 c3 A9 n9 c9 x10 x11 h) by kernel_rfl) H)
set_option maxRecDepth 100000 in
def f13.runT (R : Value → Heap → Prop) (v0 : Value) (h : Heap) : Prop :=
  newH h (Obj.cells ((v0).cells) 40) fun h1_ => ∃ v2_, ldv true 8 h1_ (⟨Array.size h, 0, none⟩) = some v2_ ∧ ∃ l3_ : List Value, v2_ = Value.agg l3_.toArray ∧ l3_.length = 8 ∧ (newH h1_ (Obj.cells ((List.take 0 ([(Value.int .i64 (0 : Int)), (Value.int .i64 (0 : Int)), (Value.string (ByteArray.mk #[])), (Value.slice none 0 0), (Value.slice none 0 0), (Value.slice none 0 0), (Value.slice none 0 0), (Value.int .i64 (0 : Int))]) ++ l3_ ++ List.drop 8 ([(Value.int .i64 (0 : Int)), (Value.int .i64 (0 : Int)), (Value.string (ByteArray.mk #[])), (Value.slice none 0 0), (Value.slice none 0 0), (Value.slice none 0 0), (Value.slice none 0 0), (Value.int .i64 (0 : Int))])).toArray) 40) fun h4_ => ∃ v5_, ldv true 8 h4_ (⟨Array.size h, 0, none⟩) = some v5_ ∧ Run Tryd.prog 27 #[v5_] h4_ fun v6_ h7_ => ∃ A8_, ∃ n8_, ∃ c8_, v6_ = (Value.slice A8_ n8_ c8_) ∧ f13.l0 R (some ⟨Array.size h1_, 0, none⟩) 1 1 A8_ n8_ c8_ ((n8_ : Nat) : Int) (0 : Int) h7_)
set_option maxRecDepth 100000 in
theorem f13.run {R : Value → Heap → Prop} {v0 : Value} {h : Heap} (H : f13.runT R v0 h) : Run Tryd.prog 13 #[v0] h R :=
  run_of mixed Tryd.func13 (by kernel_rfl) (by kernel_rfl) f13.good (Eq.mpr (show (Fwd Tryd.prog f13.T f13.kp Tryd.f13 R [] (mkFr (argL [v0] 0)) h) = (f13.runT R v0 h) by kernel_rfl) H)
def f53.T : Tab := { sh := tSh, tup := tTup, keep := [], plan := [] }
def f53.kp : Keep := [([false, false, true, false, true, true], [3, 7, 8, 9])]
theorem f53.good : goodCode Tryd.prog f53.T (rootOf Tryd.f53) = true := by kernel_rfl
def f53.l0 (R : Value → Heap → Prop) (x3 : Int) (A7 : Option Addr) (n7 : Nat) (c7 : Nat) (x8 : Int) (x9 : Int) (h : Heap) : Prop := Pt Tryd.prog Tryd.f53 R [false, false, true, false, true, true] (mkFr [(3, (Value.int .i64 x3)), (7, (Value.slice A7 n7 c7)), (8, (Value.int .i64 x8)), (9, (Value.int .i64 x9))]) h
set_option maxRecDepth 100000 in
def f53.l0T (R : Value → Heap → Prop) (x3 : Int) (A7 : Option Addr) (n7 : Nat) (c7 : Nat) (x8 : Int) (x9 : Int) (h : Heap) : Prop :=
  splitB (decide (x9 < x8)) (ptrOk A7 fun a1_ => 0 ≤ x9 ∧ x9 < ((n7 : Nat) : Int) ∧ (∃ v2_, ldv true 4 h (Addr.add a1_ (Int.toNat x9 * 4)) = some v2_ ∧ newH h (Obj.cells #[(Value.int .i64 (0 : Int)), (Value.int .i64 (0 : Int)), (Value.string (ByteArray.mk #[])), (Value.slice none 0 0)] 48) fun h3_ => ∃ l5_ : List Value, v2_ = Value.agg l5_.toArray ∧ l5_.length = 4 ∧ ∃ h4_, stH h3_ (⟨Array.size h, 0, none⟩) l5_ 0 = some h4_ ∧ ∃ v6_, ldv true 4 h4_ (⟨Array.size h, 0, none⟩) = some v6_ ∧ Run Tryd.prog 53 #[v6_] h4_ fun v7_ h8_ => ∃ x9_, v7_ = (Value.int .i64 x9_) ∧ f53.l0 R (IntKind.wrap .i64 (x3 + x9_)) A7 n7 c7 x8 (IntKind.wrap .i64 (x9 + (1 : Int))) h8_)) (R (Value.int .i64 x3) h)
set_option maxRecDepth 100000 in
theorem f53.l0_in {R : Value → Heap → Prop} {x3 : Int} {A7 : Option Addr} {n7 : Nat} {c7 : Nat} {x8 : Int} {x9 : Int} {h : Heap} (H : f53.l0T R x3 A7 n7 c7 x8 x9 h) : f53.l0 R x3 A7 n7 c7 x8 x9 h :=
  pt_intro mixed f53.good (Eq.mpr (show (Fwd Tryd.prog f53.T f53.kp Tryd.f53 R [false, false, true, false, true, true] (mkFr [(3, (Value.int .i64 x3)), (7, (Value.slice A7 n7 c7)), (8, (Value.int .i64 x8)), (9, (Value.int .i64 x9))]) h) = (f53.l0T R x3 A7 n7 c7 x8 x9 h) by kernel_rfl) H)
set_option maxRecDepth 100000 in
def f53.runT (R : Value → Heap → Prop) (v0 : Value) (h : Heap) : Prop :=
  newH h (Obj.cells ((v0).cells) 48) fun h1_ => ∃ v2_, ldv false 1 h1_ (Addr.add (⟨Array.size h, 0, none⟩) 3) = some v2_ ∧ ∃ A3_, ∃ n3_, ∃ c3_, v2_ = (Value.slice A3_ n3_ c3_) ∧ f53.l0 R (1 : Int) A3_ n3_ c3_ ((n3_ : Nat) : Int) (0 : Int) h1_
set_option maxRecDepth 100000 in
theorem f53.run {R : Value → Heap → Prop} {v0 : Value} {h : Heap} (H : f53.runT R v0 h) : Run Tryd.prog 53 #[v0] h R :=
  run_of mixed Tryd.func53 (by kernel_rfl) (by kernel_rfl) f53.good (Eq.mpr (show (Fwd Tryd.prog f53.T f53.kp Tryd.f53 R [] (mkFr (argL [v0] 0)) h) = (f53.runT R v0 h) by kernel_rfl) H)
def f15.T : Tab := { sh := tSh, tup := tTup, keep := [], plan := [(10, (.take 0 (.take 1 (.take 4 (.take 2 (.take 5 (.eff true 3 (.eff false 6 (.take 7 (.take 8 (.take 9 .done)))))))))))] }
def f15.kp : Keep := [([false, false, true, false, true, true], [1, 3, 9, 10, 11]), ([false, false, true, false, true, true, true], [3, 21, 22, 23])]
theorem f15.good : goodCode Tryd.prog f15.T (rootOf Tryd.f15) = true := by kernel_rfl
def f15.l0 (R : Value → Heap → Prop) (a1 : Addr) (x3 : Int) (A9 : Option Addr) (n9 : Nat) (c9 : Nat) (x10 : Int) (x11 : Int) (h : Heap) : Prop := Pt Tryd.prog Tryd.f15 R [false, false, true, false, true, true] (mkFr [(1, (Value.pointer (some a1))), (3, (Value.int .i64 x3)), (9, (Value.slice A9 n9 c9)), (10, (Value.int .i64 x10)), (11, (Value.int .i64 x11))]) h
def f15.l1 (R : Value → Heap → Prop) (x3 : Int) (A21 : Option Addr) (n21 : Nat) (c21 : Nat) (x22 : Int) (x23 : Int) (h : Heap) : Prop := Pt Tryd.prog Tryd.f15 R [false, false, true, false, true, true, true] (mkFr [(3, (Value.int .i64 x3)), (21, (Value.slice A21 n21 c21)), (22, (Value.int .i64 x22)), (23, (Value.int .i64 x23))]) h
set_option maxRecDepth 100000 in
def f15.l0T (R : Value → Heap → Prop) (a1 : Addr) (x3 : Int) (A9 : Option Addr) (n9 : Nat) (c9 : Nat) (x10 : Int) (x11 : Int) (h : Heap) : Prop :=
  splitB (decide (x11 < x10)) (ptrOk A9 fun a1_ => 0 ≤ x11 ∧ x11 < ((n9 : Nat) : Int) ∧ (∃ v2_, ldv true 8 h (Addr.add a1_ (Int.toNat x11 * 8)) = some v2_ ∧ newH h (Obj.cells #[(Value.int .i64 (0 : Int)), (Value.int .i64 (0 : Int)), (Value.string (ByteArray.mk #[])), (Value.slice none 0 0), (Value.slice none 0 0), (Value.slice none 0 0), (Value.slice none 0 0), (Value.int .i64 (0 : Int))] 40) fun h3_ => ∃ l5_ : List Value, v2_ = Value.agg l5_.toArray ∧ l5_.length = 8 ∧ ∃ h4_, stH h3_ (⟨Array.size h, 0, none⟩) l5_ 0 = some h4_ ∧ ∃ v6_, ldv true 8 h4_ (⟨Array.size h, 0, none⟩) = some v6_ ∧ Run Tryd.prog 15 #[v6_] h4_ fun v7_ h8_ => ∃ x9_, v7_ = (Value.int .i64 x9_) ∧ f15.l0 R a1 (IntKind.wrap .i64 (x3 + x9_)) A9 n9 c9 x10 (IntKind.wrap .i64 (x11 + (1 : Int))) h8_)) (∃ v10_, ldv false 1 h (Addr.add a1 6) = some v10_ ∧ ∃ A11_, ∃ n11_, ∃ c11_, v10_ = (Value.slice A11_ n11_ c11_) ∧ f15.l1 R x3 A11_ n11_ c11_ ((n11_ : Nat) : Int) (0 : Int) h)
set_option maxRecDepth 100000 in
theorem f15.l0_in {R : Value → Heap → Prop} {a1 : Addr} {x3 : Int} {A9 : Option Addr} {n9 : Nat} {c9 : Nat} {x10 : Int} {x11 : Int} {h : Heap} (H : f15.l0T R a1 x3 A9 n9 c9 x10 x11 h) : f15.l0 R a1 x3 A9 n9 c9 x10 x11 h :=
  pt_intro mixed f15.good (Eq.mpr (show (Fwd Tryd.prog f15.T f15.kp Tryd.f15 R [false, false, true, false, true, true] (mkFr [(1, (Value.pointer (some a1))), (3, (Value.int .i64 x3)), (9, (Value.slice A9 n9 c9)), (10, (Value.int .i64 x10)), (11, (Value.int .i64 x11))]) h) = (f15.l0T R a1 x3 A9 n9 c9 x10 x11 h) by kernel_rfl) H)
set_option maxRecDepth 100000 in
def f15.l1T (R : Value → Heap → Prop) (x3 : Int) (A21 : Option Addr) (n21 : Nat) (c21 : Nat) (x22 : Int) (x23 : Int) (h : Heap) : Prop :=
  splitB (decide (x23 < x22)) (ptrOk A21 fun a1_ => 0 ≤ x23 ∧ x23 < ((n21 : Nat) : Int) ∧ (∃ v2_, ldv true 12 h (Addr.add a1_ (Int.toNat x23 * 12)) = some v2_ ∧ newH h (Obj.cells #[(Value.int .i64 (0 : Int)), (Value.int .i64 (0 : Int)), (Value.string (ByteArray.mk #[])), (Value.slice none 0 0), (Value.int .i64 (0 : Int)), (Value.int .i64 (0 : Int)), (Value.string (ByteArray.mk #[])), (Value.slice none 0 0), (Value.slice none 0 0), (Value.slice none 0 0), (Value.slice none 0 0), (Value.int .i64 (0 : Int))] 50) fun h3_ => ∃ l5_ : List Value, v2_ = Value.agg l5_.toArray ∧ l5_.length = 12 ∧ ∃ h4_, stH h3_ (⟨Array.size h, 0, none⟩) l5_ 0 = some h4_ ∧ ∃ v6_, ldv true 8 h4_ (Addr.add (⟨Array.size h, 0, none⟩) 4) = some v6_ ∧ ∃ v7_, ldv true 4 h4_ (⟨Array.size h, 0, none⟩) = some v7_ ∧ Run Tryd.prog 15 #[v6_] h4_ fun v8_ h9_ => ∃ x10_, v8_ = (Value.int .i64 x10_) ∧ Ext h4_ h9_ ∧ (Run Tryd.prog 53 #[v7_] h9_ fun v11_ h12_ => ∃ x13_, v11_ = (Value.int .i64 x13_) ∧ f15.l1 R (IntKind.wrap .i64 (x3 + (IntKind.wrap .i64 (x10_ + x13_)))) A21 n21 c21 x22 (IntKind.wrap .i64 (x23 + (1 : Int))) h12_))) (R (Value.int .i64 x3) h)
set_option maxRecDepth 100000 in
theorem f15.l1_in {R : Value → Heap → Prop} {x3 : Int} {A21 : Option Addr} {n21 : Nat} {c21 : Nat} {x22 : Int} {x23 : Int} {h : Heap} (H : f15.l1T R x3 A21 n21 c21 x22 x23 h) : f15.l1 R x3 A21 n21 c21 x22 x23 h :=
  pt_intro mixed f15.good (Eq.mpr (show (Fwd Tryd.prog f15.T f15.kp Tryd.f15 R [false, false, true, false, true, true, true] (mkFr [(3, (Value.int .i64 x3)), (21, (Value.slice A21 n21 c21)), (22, (Value.int .i64 x22)), (23, (Value.int .i64 x23))]) h) = (f15.l1T R x3 A21 n21 c21 x22 x23 h) by kernel_rfl) H)
set_option maxRecDepth 100000 in
def f15.runT (R : Value → Heap → Prop) (v0 : Value) (h : Heap) : Prop :=
  newH h (Obj.cells ((v0).cells) 40) fun h1_ => ∃ v2_, ldv false 1 h1_ (Addr.add (⟨Array.size h, 0, none⟩) 5) = some v2_ ∧ ∃ A3_, ∃ n3_, ∃ c3_, v2_ = (Value.slice A3_ n3_ c3_) ∧ f15.l0 R (⟨Array.size h, 0, none⟩) (1 : Int) A3_ n3_ c3_ ((n3_ : Nat) : Int) (0 : Int) h1_
set_option maxRecDepth 100000 in
theorem f15.run {R : Value → Heap → Prop} {v0 : Value} {h : Heap} (H : f15.runT R v0 h) : Run Tryd.prog 15 #[v0] h R :=
  run_of mixed Tryd.func15 (by kernel_rfl) (by kernel_rfl) f15.good (Eq.mpr (show (Fwd Tryd.prog f15.T f15.kp Tryd.f15 R [] (mkFr (argL [v0] 0)) h) = (f15.runT R v0 h) by kernel_rfl) H)
def f54.T : Tab := { sh := tSh, tup := tTup, keep := [], plan := [] }
def f54.kp : Keep := [([false, false, true, false, true, true], [3, 7, 8, 9])]
theorem f54.good : goodCode Tryd.prog f54.T (rootOf Tryd.f54) = true := by kernel_rfl
def f54.l0 (R : Value → Heap → Prop) (x3 : Int) (A7 : Option Addr) (n7 : Nat) (c7 : Nat) (x8 : Int) (x9 : Int) (h : Heap) : Prop := Pt Tryd.prog Tryd.f54 R [false, false, true, false, true, true] (mkFr [(3, (Value.int .i64 x3)), (7, (Value.slice A7 n7 c7)), (8, (Value.int .i64 x8)), (9, (Value.int .i64 x9))]) h
set_option maxRecDepth 100000 in
def f54.l0T (R : Value → Heap → Prop) (x3 : Int) (A7 : Option Addr) (n7 : Nat) (c7 : Nat) (x8 : Int) (x9 : Int) (h : Heap) : Prop :=
  splitB (decide (x9 < x8)) (ptrOk A7 fun a1_ => 0 ≤ x9 ∧ x9 < ((n7 : Nat) : Int) ∧ (∃ v2_, ldv true 4 h (Addr.add a1_ (Int.toNat x9 * 4)) = some v2_ ∧ newH h (Obj.cells #[(Value.int .i64 (0 : Int)), (Value.int .i64 (0 : Int)), (Value.string (ByteArray.mk #[])), (Value.slice none 0 0)] 48) fun h3_ => ∃ l5_ : List Value, v2_ = Value.agg l5_.toArray ∧ l5_.length = 4 ∧ ∃ h4_, stH h3_ (⟨Array.size h, 0, none⟩) l5_ 0 = some h4_ ∧ ∃ v6_, ldv true 4 h4_ (⟨Array.size h, 0, none⟩) = some v6_ ∧ Run Tryd.prog 54 #[v6_] h4_ fun v7_ h8_ => ∃ x9_, v7_ = (Value.int .i64 x9_) ∧ f54.l0 R (if x9_ > x3 then x9_ else x3) A7 n7 c7 x8 (IntKind.wrap .i64 (x9 + (1 : Int))) h8_)) (R (Value.int .i64 (IntKind.wrap .i64 (x3 + (1 : Int)))) h)
set_option maxRecDepth 100000 in
theorem f54.l0_in {R : Value → Heap → Prop} {x3 : Int} {A7 : Option Addr} {n7 : Nat} {c7 : Nat} {x8 : Int} {x9 : Int} {h : Heap} (H : f54.l0T R x3 A7 n7 c7 x8 x9 h) : f54.l0 R x3 A7 n7 c7 x8 x9 h :=
  pt_intro mixed f54.good (Eq.mpr (show (Fwd Tryd.prog f54.T f54.kp Tryd.f54 R [false, false, true, false, true, true] (mkFr [(3, (Value.int .i64 x3)), (7, (Value.slice A7 n7 c7)), (8, (Value.int .i64 x8)), (9, (Value.int .i64 x9))]) h) = (f54.l0T R x3 A7 n7 c7 x8 x9 h) by kernel_rfl) H)
set_option maxRecDepth 100000 in
def f54.runT (R : Value → Heap → Prop) (v0 : Value) (h : Heap) : Prop :=
  newH h (Obj.cells ((v0).cells) 48) fun h1_ => ∃ v2_, ldv false 1 h1_ (Addr.add (⟨Array.size h, 0, none⟩) 3) = some v2_ ∧ ∃ A3_, ∃ n3_, ∃ c3_, v2_ = (Value.slice A3_ n3_ c3_) ∧ f54.l0 R (0 : Int) A3_ n3_ c3_ ((n3_ : Nat) : Int) (0 : Int) h1_
set_option maxRecDepth 100000 in
theorem f54.run {R : Value → Heap → Prop} {v0 : Value} {h : Heap} (H : f54.runT R v0 h) : Run Tryd.prog 54 #[v0] h R :=
  run_of mixed Tryd.func54 (by kernel_rfl) (by kernel_rfl) f54.good (Eq.mpr (show (Fwd Tryd.prog f54.T f54.kp Tryd.f54 R [] (mkFr (argL [v0] 0)) h) = (f54.runT R v0 h) by kernel_rfl) H)
def f16.T : Tab := { sh := tSh, tup := tTup, keep := [], plan := [(10, (.take 0 (.take 1 (.take 4 (.take 2 (.take 5 (.eff true 3 (.eff false 6 (.take 7 (.take 8 .done))))))))))] }
def f16.kp : Keep := [([false, false, true, false, true, true], [1, 3, 9, 10, 11]), ([false, false, true, false, true, true, true], [3, 21, 22, 23])]
theorem f16.good : goodCode Tryd.prog f16.T (rootOf Tryd.f16) = true := by kernel_rfl
def f16.l0 (R : Value → Heap → Prop) (a1 : Addr) (x3 : Int) (A9 : Option Addr) (n9 : Nat) (c9 : Nat) (x10 : Int) (x11 : Int) (h : Heap) : Prop := Pt Tryd.prog Tryd.f16 R [false, false, true, false, true, true] (mkFr [(1, (Value.pointer (some a1))), (3, (Value.int .i64 x3)), (9, (Value.slice A9 n9 c9)), (10, (Value.int .i64 x10)), (11, (Value.int .i64 x11))]) h
def f16.l1 (R : Value → Heap → Prop) (x3 : Int) (A21 : Option Addr) (n21 : Nat) (c21 : Nat) (x22 : Int) (x23 : Int) (h : Heap) : Prop := Pt Tryd.prog Tryd.f16 R [false, false, true, false, true, true, true] (mkFr [(3, (Value.int .i64 x3)), (21, (Value.slice A21 n21 c21)), (22, (Value.int .i64 x22)), (23, (Value.int .i64 x23))]) h
set_option maxRecDepth 100000 in
def f16.l0T (R : Value → Heap → Prop) (a1 : Addr) (x3 : Int) (A9 : Option Addr) (n9 : Nat) (c9 : Nat) (x10 : Int) (x11 : Int) (h : Heap) : Prop :=
  splitB (decide (x11 < x10)) (ptrOk A9 fun a1_ => 0 ≤ x11 ∧ x11 < ((n9 : Nat) : Int) ∧ (∃ v2_, ldv true 8 h (Addr.add a1_ (Int.toNat x11 * 8)) = some v2_ ∧ newH h (Obj.cells #[(Value.int .i64 (0 : Int)), (Value.int .i64 (0 : Int)), (Value.string (ByteArray.mk #[])), (Value.slice none 0 0), (Value.slice none 0 0), (Value.slice none 0 0), (Value.slice none 0 0), (Value.int .i64 (0 : Int))] 40) fun h3_ => ∃ l5_ : List Value, v2_ = Value.agg l5_.toArray ∧ l5_.length = 8 ∧ ∃ h4_, stH h3_ (⟨Array.size h, 0, none⟩) l5_ 0 = some h4_ ∧ ∃ v6_, ldv true 8 h4_ (⟨Array.size h, 0, none⟩) = some v6_ ∧ Run Tryd.prog 16 #[v6_] h4_ fun v7_ h8_ => ∃ x9_, v7_ = (Value.int .i64 x9_) ∧ f16.l0 R a1 (if x9_ > x3 then x9_ else x3) A9 n9 c9 x10 (IntKind.wrap .i64 (x11 + (1 : Int))) h8_)) (∃ v10_, ldv false 1 h (Addr.add a1 6) = some v10_ ∧ ∃ A11_, ∃ n11_, ∃ c11_, v10_ = (Value.slice A11_ n11_ c11_) ∧ f16.l1 R x3 A11_ n11_ c11_ ((n11_ : Nat) : Int) (0 : Int) h)
set_option maxRecDepth 100000 in
theorem f16.l0_in {R : Value → Heap → Prop} {a1 : Addr} {x3 : Int} {A9 : Option Addr} {n9 : Nat} {c9 : Nat} {x10 : Int} {x11 : Int} {h : Heap} (H : f16.l0T R a1 x3 A9 n9 c9 x10 x11 h) : f16.l0 R a1 x3 A9 n9 c9 x10 x11 h :=
  pt_intro mixed f16.good (Eq.mpr (show (Fwd Tryd.prog f16.T f16.kp Tryd.f16 R [false, false, true, false, true, true] (mkFr [(1, (Value.pointer (some a1))), (3, (Value.int .i64 x3)), (9, (Value.slice A9 n9 c9)), (10, (Value.int .i64 x10)), (11, (Value.int .i64 x11))]) h) = (f16.l0T R a1 x3 A9 n9 c9 x10 x11 h) by kernel_rfl) H)
set_option maxRecDepth 100000 in
def f16.l1T (R : Value → Heap → Prop) (x3 : Int) (A21 : Option Addr) (n21 : Nat) (c21 : Nat) (x22 : Int) (x23 : Int) (h : Heap) : Prop :=
  splitB (decide (x23 < x22)) (ptrOk A21 fun a1_ => 0 ≤ x23 ∧ x23 < ((n21 : Nat) : Int) ∧ (∃ v2_, ldv true 12 h (Addr.add a1_ (Int.toNat x23 * 12)) = some v2_ ∧ newH h (Obj.cells #[(Value.int .i64 (0 : Int)), (Value.int .i64 (0 : Int)), (Value.string (ByteArray.mk #[])), (Value.slice none 0 0), (Value.int .i64 (0 : Int)), (Value.int .i64 (0 : Int)), (Value.string (ByteArray.mk #[])), (Value.slice none 0 0), (Value.slice none 0 0), (Value.slice none 0 0), (Value.slice none 0 0), (Value.int .i64 (0 : Int))] 50) fun h3_ => ∃ l5_ : List Value, v2_ = Value.agg l5_.toArray ∧ l5_.length = 12 ∧ ∃ h4_, stH h3_ (⟨Array.size h, 0, none⟩) l5_ 0 = some h4_ ∧ ∃ v6_, ldv true 8 h4_ (Addr.add (⟨Array.size h, 0, none⟩) 4) = some v6_ ∧ ∃ v7_, ldv true 4 h4_ (⟨Array.size h, 0, none⟩) = some v7_ ∧ Run Tryd.prog 16 #[v6_] h4_ fun v8_ h9_ => ∃ x10_, v8_ = (Value.int .i64 x10_) ∧ Ext h4_ h9_ ∧ (Run Tryd.prog 54 #[v7_] h9_ fun v11_ h12_ => ∃ x13_, v11_ = (Value.int .i64 x13_) ∧ f16.l1 R (if x13_ > (if x10_ > x3 then x10_ else x3) then x13_ else (if x10_ > x3 then x10_ else x3)) A21 n21 c21 x22 (IntKind.wrap .i64 (x23 + (1 : Int))) h12_))) (R (Value.int .i64 (IntKind.wrap .i64 (x3 + (1 : Int)))) h)
set_option maxRecDepth 100000 in
theorem f16.l1_in {R : Value → Heap → Prop} {x3 : Int} {A21 : Option Addr} {n21 : Nat} {c21 : Nat} {x22 : Int} {x23 : Int} {h : Heap} (H : f16.l1T R x3 A21 n21 c21 x22 x23 h) : f16.l1 R x3 A21 n21 c21 x22 x23 h :=
  pt_intro mixed f16.good (Eq.mpr (show (Fwd Tryd.prog f16.T f16.kp Tryd.f16 R [false, false, true, false, true, true, true] (mkFr [(3, (Value.int .i64 x3)), (21, (Value.slice A21 n21 c21)), (22, (Value.int .i64 x22)), (23, (Value.int .i64 x23))]) h) = (f16.l1T R x3 A21 n21 c21 x22 x23 h) by kernel_rfl) H)
set_option maxRecDepth 100000 in
def f16.runT (R : Value → Heap → Prop) (v0 : Value) (h : Heap) : Prop :=
  newH h (Obj.cells ((v0).cells) 40) fun h1_ => ∃ v2_, ldv false 1 h1_ (Addr.add (⟨Array.size h, 0, none⟩) 5) = some v2_ ∧ ∃ A3_, ∃ n3_, ∃ c3_, v2_ = (Value.slice A3_ n3_ c3_) ∧ f16.l0 R (⟨Array.size h, 0, none⟩) (0 : Int) A3_ n3_ c3_ ((n3_ : Nat) : Int) (0 : Int) h1_
set_option maxRecDepth 100000 in
theorem f16.run {R : Value → Heap → Prop} {v0 : Value} {h : Heap} (H : f16.runT R v0 h) : Run Tryd.prog 16 #[v0] h R :=
  run_of mixed Tryd.func16 (by kernel_rfl) (by kernel_rfl) f16.good (Eq.mpr (show (Fwd Tryd.prog f16.T f16.kp Tryd.f16 R [] (mkFr (argL [v0] 0)) h) = (f16.runT R v0 h) by kernel_rfl) H)
def f55.T : Tab := { sh := tSh, tup := tTup, keep := [], plan := [] }
def f55.kp : Keep := [([false, false, true, false, true, true], [3, 7, 8, 9])]
theorem f55.good : goodCode Tryd.prog f55.T (rootOf Tryd.f55) = true := by kernel_rfl
def f55.l0 (R : Value → Heap → Prop) (x3 : Int) (A7 : Option Addr) (n7 : Nat) (c7 : Nat) (x8 : Int) (x9 : Int) (h : Heap) : Prop := Pt Tryd.prog Tryd.f55 R [false, false, true, false, true, true] (mkFr [(3, (Value.int .i64 x3)), (7, (Value.slice A7 n7 c7)), (8, (Value.int .i64 x8)), (9, (Value.int .i64 x9))]) h
set_option maxRecDepth 100000 in
def f55.l0T (R : Value → Heap → Prop) (x3 : Int) (A7 : Option Addr) (n7 : Nat) (c7 : Nat) (x8 : Int) (x9 : Int) (h : Heap) : Prop :=
  splitB (decide (x9 < x8)) (ptrOk A7 fun a1_ => 0 ≤ x9 ∧ x9 < ((n7 : Nat) : Int) ∧ (∃ v2_, ldv true 4 h (Addr.add a1_ (Int.toNat x9 * 4)) = some v2_ ∧ newH h (Obj.cells #[(Value.int .i64 (0 : Int)), (Value.int .i64 (0 : Int)), (Value.string (ByteArray.mk #[])), (Value.slice none 0 0)] 48) fun h3_ => ∃ l5_ : List Value, v2_ = Value.agg l5_.toArray ∧ l5_.length = 4 ∧ ∃ h4_, stH h3_ (⟨Array.size h, 0, none⟩) l5_ 0 = some h4_ ∧ ∃ v6_, ldv true 4 h4_ (⟨Array.size h, 0, none⟩) = some v6_ ∧ Run Tryd.prog 55 #[v6_] h4_ fun v7_ h8_ => ∃ x9_, v7_ = (Value.int .i64 x9_) ∧ f55.l0 R (if (IntKind.wrap .i64 ((1 : Int) + x9_)) > x3 then (IntKind.wrap .i64 ((1 : Int) + x9_)) else x3) A7 n7 c7 x8 (IntKind.wrap .i64 (x9 + (1 : Int))) h8_)) (R (Value.int .i64 x3) h)
set_option maxRecDepth 100000 in
theorem f55.l0_in {R : Value → Heap → Prop} {x3 : Int} {A7 : Option Addr} {n7 : Nat} {c7 : Nat} {x8 : Int} {x9 : Int} {h : Heap} (H : f55.l0T R x3 A7 n7 c7 x8 x9 h) : f55.l0 R x3 A7 n7 c7 x8 x9 h :=
  pt_intro mixed f55.good (Eq.mpr (show (Fwd Tryd.prog f55.T f55.kp Tryd.f55 R [false, false, true, false, true, true] (mkFr [(3, (Value.int .i64 x3)), (7, (Value.slice A7 n7 c7)), (8, (Value.int .i64 x8)), (9, (Value.int .i64 x9))]) h) = (f55.l0T R x3 A7 n7 c7 x8 x9 h) by kernel_rfl) H)
set_option maxRecDepth 100000 in
def f55.runT (R : Value → Heap → Prop) (v0 : Value) (h : Heap) : Prop :=
  newH h (Obj.cells ((v0).cells) 48) fun h1_ => ∃ v2_, ldv false 1 h1_ (Addr.add (⟨Array.size h, 0, none⟩) 3) = some v2_ ∧ ∃ A3_, ∃ n3_, ∃ c3_, v2_ = (Value.slice A3_ n3_ c3_) ∧ f55.l0 R (1 : Int) A3_ n3_ c3_ ((n3_ : Nat) : Int) (0 : Int) h1_
set_option maxRecDepth 100000 in
theorem f55.run {R : Value → Heap → Prop} {v0 : Value} {h : Heap} (H : f55.runT R v0 h) : Run Tryd.prog 55 #[v0] h R :=
  run_of mixed Tryd.func55 (by kernel_rfl) (by kernel_rfl) f55.good (Eq.mpr (show (Fwd Tryd.prog f55.T f55.kp Tryd.f55 R [] (mkFr (argL [v0] 0)) h) = (f55.runT R v0 h) by kernel_rfl) H)
def f17.T : Tab := { sh := tSh, tup := tTup, keep := [], plan := [(10, (.take 0 (.take 1 (.take 5 (.take 2 (.take 6 (.eff true 3 (.take 4 (.eff false 7 (.take 8 (.take 9 (.take 10 .done))))))))))))] }
def f17.kp : Keep := [([false, false, true, false, true, true], [1, 3, 9, 10, 11]), ([false, false, true, false, true, true, true], [3, 22, 23, 24])]
theorem f17.good : goodCode Tryd.prog f17.T (rootOf Tryd.f17) = true := by kernel_rfl
def f17.l0 (R : Value → Heap → Prop) (a1 : Addr) (x3 : Int) (A9 : Option Addr) (n9 : Nat) (c9 : Nat) (x10 : Int) (x11 : Int) (h : Heap) : Prop := Pt Tryd.prog Tryd.f17 R [false, false, true, false, true, true] (mkFr [(1, (Value.pointer (some a1))), (3, (Value.int .i64 x3)), (9, (Value.slice A9 n9 c9)), (10, (Value.int .i64 x10)), (11, (Value.int .i64 x11))]) h
def f17.l1 (R : Value → Heap → Prop) (x3 : Int) (A22 : Option Addr) (n22 : Nat) (c22 : Nat) (x23 : Int) (x24 : Int) (h : Heap) : Prop := Pt Tryd.prog Tryd.f17 R [false, false, true, false, true, true, true] (mkFr [(3, (Value.int .i64 x3)), (22, (Value.slice A22 n22 c22)), (23, (Value.int .i64 x23)), (24, (Value.int .i64 x24))]) h
set_option maxRecDepth 100000 in
def f17.l0T (R : Value → Heap → Prop) (a1 : Addr) (x3 : Int) (A9 : Option Addr) (n9 : Nat) (c9 : Nat) (x10 : Int) (x11 : Int) (h : Heap) : Prop :=
  splitB (decide (x11 < x10)) (ptrOk A9 fun a1_ => 0 ≤ x11 ∧ x11 < ((n9 : Nat) : Int) ∧ (∃ v2_, ldv true 8 h (Addr.add a1_ (Int.toNat x11 * 8)) = some v2_ ∧ newH h (Obj.cells #[(Value.int .i64 (0 : Int)), (Value.int .i64 (0 : Int)), (Value.string (ByteArray.mk #[])), (Value.slice none 0 0), (Value.slice none 0 0), (Value.slice none 0 0), (Value.slice none 0 0), (Value.int .i64 (0 : Int))] 40) fun h3_ => ∃ l5_ : List Value, v2_ = Value.agg l5_.toArray ∧ l5_.length = 8 ∧ ∃ h4_, stH h3_ (⟨Array.size h, 0, none⟩) l5_ 0 = some h4_ ∧ ∃ v6_, ldv true 8 h4_ (⟨Array.size h, 0, none⟩) = some v6_ ∧ Run Tryd.prog 17 #[v6_] h4_ fun v7_ h8_ => ∃ x9_, v7_ = (Value.int .i64 x9_) ∧ f17.l0 R a1 (if (IntKind.wrap .i64 ((1 : Int) + x9_)) > x3 then (IntKind.wrap .i64 ((1 : Int) + x9_)) else x3) A9 n9 c9 x10 (IntKind.wrap .i64 (x11 + (1 : Int))) h8_)) (∃ v10_, ldv false 1 h (Addr.add a1 6) = some v10_ ∧ ∃ A11_, ∃ n11_, ∃ c11_, v10_ = (Value.slice A11_ n11_ c11_) ∧ f17.l1 R x3 A11_ n11_ c11_ ((n11_ : Nat) : Int) (0 : Int) h)
set_option maxRecDepth 100000 in
theorem f17.l0_in {R : Value → Heap → Prop} {a1 : Addr} {x3 : Int} {A9 : Option Addr} {n9 : Nat} {c9 : Nat} {x10 : Int} {x11 : Int} {h : Heap} (H : f17.l0T R a1 x3 A9 n9 c9 x10 x11 h) : f17.l0 R a1 x3 A9 n9 c9 x10 x11 h :=
  pt_intro mixed f17.good (Eq.mpr (show (Fwd Tryd.prog f17.T f17.kp Tryd.f17 R [false, false, true, false, true, true] (mkFr [(1, (Value.pointer (some a1))), (3, (Value.int .i64 x3)), (9, (Value.slice A9 n9 c9)), (10, (Value.int .i64 x10)), (11, (Value.int .i64 x11))]) h) = (f17.l0T R a1 x3 A9 n9 c9 x10 x11 h) by kernel_rfl) H)
set_option maxRecDepth 100000 in
def f17.l1T (R : Value → Heap → Prop) (x3 : Int) (A22 : Option Addr) (n22 : Nat) (c22 : Nat) (x23 : Int) (x24 : Int) (h : Heap) : Prop :=
  splitB (decide (x24 < x23)) (ptrOk A22 fun a1_ => 0 ≤ x24 ∧ x24 < ((n22 : Nat) : Int) ∧ (∃ v2_, ldv true 12 h (Addr.add a1_ (Int.toNat x24 * 12)) = some v2_ ∧ newH h (Obj.cells #[(Value.int .i64 (0 : Int)), (Value.int .i64 (0 : Int)), (Value.string (ByteArray.mk #[])), (Value.slice none 0 0), (Value.int .i64 (0 : Int)), (Value.int .i64 (0 : Int)), (Value.string (ByteArray.mk #[])), (Value.slice none 0 0), (Value.slice none 0 0), (Value.slice none 0 0), (Value.slice none 0 0), (Value.int .i64 (0 : Int))] 50) fun h3_ => ∃ l5_ : List Value, v2_ = Value.agg l5_.toArray ∧ l5_.length = 12 ∧ ∃ h4_, stH h3_ (⟨Array.size h, 0, none⟩) l5_ 0 = some h4_ ∧ ∃ v6_, ldv true 8 h4_ (Addr.add (⟨Array.size h, 0, none⟩) 4) = some v6_ ∧ ∃ v7_, ldv true 4 h4_ (⟨Array.size h, 0, none⟩) = some v7_ ∧ Run Tryd.prog 17 #[v6_] h4_ fun v8_ h9_ => ∃ x10_, v8_ = (Value.int .i64 x10_) ∧ Ext h4_ h9_ ∧ (Run Tryd.prog 55 #[v7_] h9_ fun v11_ h12_ => ∃ x13_, v11_ = (Value.int .i64 x13_) ∧ f17.l1 R (if (IntKind.wrap .i64 ((1 : Int) + x13_)) > (if (IntKind.wrap .i64 ((1 : Int) + x10_)) > x3 then (IntKind.wrap .i64 ((1 : Int) + x10_)) else x3) then (IntKind.wrap .i64 ((1 : Int) + x13_)) else (if (IntKind.wrap .i64 ((1 : Int) + x10_)) > x3 then (IntKind.wrap .i64 ((1 : Int) + x10_)) else x3)) A22 n22 c22 x23 (IntKind.wrap .i64 (x24 + (1 : Int))) h12_))) (R (Value.int .i64 x3) h)
set_option maxRecDepth 100000 in
theorem f17.l1_in {R : Value → Heap → Prop} {x3 : Int} {A22 : Option Addr} {n22 : Nat} {c22 : Nat} {x23 : Int} {x24 : Int} {h : Heap} (H : f17.l1T R x3 A22 n22 c22 x23 x24 h) : f17.l1 R x3 A22 n22 c22 x23 x24 h :=
  pt_intro mixed f17.good (Eq.mpr (show (Fwd Tryd.prog f17.T f17.kp Tryd.f17 R [false, false, true, false, true, true, true] (mkFr [(3, (Value.int .i64 x3)), (22, (Value.slice A22 n22 c22)), (23, (Value.int .i64 x23)), (24, (Value.int .i64 x24))]) h) = (f17.l1T R x3 A22 n22 c22 x23 x24 h) by kernel_rfl) H)
set_option maxRecDepth 100000 in
def f17.runT (R : Value → Heap → Prop) (v0 : Value) (h : Heap) : Prop :=
  newH h (Obj.cells ((v0).cells) 40) fun h1_ => ∃ v2_, ldv false 1 h1_ (Addr.add (⟨Array.size h, 0, none⟩) 5) = some v2_ ∧ ∃ A3_, ∃ n3_, ∃ c3_, v2_ = (Value.slice A3_ n3_ c3_) ∧ f17.l0 R (⟨Array.size h, 0, none⟩) (1 : Int) A3_ n3_ c3_ ((n3_ : Nat) : Int) (0 : Int) h1_
set_option maxRecDepth 100000 in
theorem f17.run {R : Value → Heap → Prop} {v0 : Value} {h : Heap} (H : f17.runT R v0 h) : Run Tryd.prog 17 #[v0] h R :=
  run_of mixed Tryd.func17 (by kernel_rfl) (by kernel_rfl) f17.good (Eq.mpr (show (Fwd Tryd.prog f17.T f17.kp Tryd.f17 R [] (mkFr (argL [v0] 0)) h) = (f17.runT R v0 h) by kernel_rfl) H)
def f18.T : Tab := { sh := tSh, tup := tTup, keep := [], plan := [] }
def f18.kp : Keep := [([true, false, true, false, true], [1, 4, 5]), ([true, true, true, false, true, false, true], [1, 4, 12]), ([true, true, true, true, true, true, true, false, true, false, true], [1, 4, 18]), ([true, true, true, true, true, true, true, true, true, true, true, true, true, false, true, false, true], [1, 38])]
theorem f18.good : goodCode Tryd.prog f18.T (rootOf Tryd.f18) = true := by kernel_rfl
def f18.j0 (R : Value → Heap → Prop) (a1 : Addr) (x4 : Int) (b5 : Bool) (h : Heap) : Prop := Pt Tryd.prog Tryd.f18 R [true, false, true, false, true] (mkFr [(1, (Value.pointer (some a1))), (4, (Value.int .i64 x4)), (5, (Value.bool b5))]) h
def f18.j1 (R : Value → Heap → Prop) (a1 : Addr) (x4 : Int) (b12 : Bool) (h : Heap) : Prop := Pt Tryd.prog Tryd.f18 R [true, true, true, false, true, false, true] (mkFr [(1, (Value.pointer (some a1))), (4, (Value.int .i64 x4)), (12, (Value.bool b12))]) h
def f18.j2 (R : Value → Heap → Prop) (a1 : Addr) (x4 : Int) (b18 : Bool) (h : Heap) : Prop := Pt Tryd.prog Tryd.f18 R [true, true, true, true, true, true, true, false, true, false, true] (mkFr [(1, (Value.pointer (some a1))), (4, (Value.int .i64 x4)), (18, (Value.bool b18))]) h
def f18.j3 (R : Value → Heap → Prop) (a1 : Addr) (b38 : Bool) (h : Heap) : Prop := Pt Tryd.prog Tryd.f18 R [true, true, true, true, true, true, true, true, true, true, true, true, true, false, true, false, true] (mkFr [(1, (Value.pointer (some a1))), (38, (Value.bool b38))]) h
set_option maxRecDepth 100000 in
def f18.j0T (R : Value → Heap → Prop) (a1 : Addr) (x4 : Int) (b5 : Bool) (h : Heap) : Prop :=
  splitB b5 (R (Value.int .i64 (0 : Int)) h) (splitB (x4 == (6 : Int)) (f18.j1 R a1 x4 (x4 == (6 : Int)) h) (splitB (x4 == (15 : Int)) (f18.j1 R a1 x4 (x4 == (15 : Int)) h) (f18.j1 R a1 x4 (x4 == (23 : Int)) h)))
set_option maxRecDepth 100000 in
theorem f18.j0_in {R : Value → Heap → Prop} {a1 : Addr} {x4 : Int} {b5 : Bool} {h : Heap} (H : f18.j0T R a1 x4 b5 h) : f18.j0 R a1 x4 b5 h :=
  pt_intro mixed f18.good (Eq.mpr (show (Fwd Tryd.prog f18.T f18.kp Tryd.f18 R [true, false, true, false, true] (mkFr [(1, (Value.pointer (some a1))), (4, (Value.int .i64 x4)), (5, (Value.bool b5))]) h) = (f18.j0T R a1 x4 b5 h) by kernel_rfl) H)
set_option maxRecDepth 100000 in
def f18.j1T (R : Value → Heap → Prop) (a1 : Addr) (x4 : Int) (b12 : Bool) (h : Heap) : Prop :=
  splitB b12 (R (Value.int .i64 (2 : Int)) h) (splitB (x4 == (7 : Int)) (R (Value.int .i64 (3 : Int)) h) (splitB (x4 == (10 : Int)) (f18.j2 R a1 x4 (x4 == (10 : Int)) h) (splitB (x4 == (13 : Int)) (f18.j2 R a1 x4 (x4 == (13 : Int)) h) (splitB (x4 == (19 : Int)) (f18.j2 R a1 x4 (x4 == (19 : Int)) h) (splitB (x4 == (20 : Int)) (f18.j2 R a1 x4 (x4 == (20 : Int)) h) (splitB (x4 == (21 : Int)) (f18.j2 R a1 x4 (x4 == (21 : Int)) h) (splitB (x4 == (22 : Int)) (f18.j2 R a1 x4 (x4 == (22 : Int)) h) (splitB (x4 == (24 : Int)) (f18.j2 R a1 x4 (x4 == (24 : Int)) h) (f18.j2 R a1 x4 (x4 == (25 : Int)) h)))))))))
set_option maxRecDepth 100000 in
theorem f18.j1_in {R : Value → Heap → Prop} {a1 : Addr} {x4 : Int} {b12 : Bool} {h : Heap} (H : f18.j1T R a1 x4 b12 h) : f18.j1 R a1 x4 b12 h :=
  pt_intro mixed f18.good (Eq.mpr (show (Fwd Tryd.prog f18.T f18.kp Tryd.f18 R [true, true, true, false, true, false, true] (mkFr [(1, (Value.pointer (some a1))), (4, (Value.int .i64 x4)), (12, (Value.bool b12))]) h) = (f18.j1T R a1 x4 b12 h) by kernel_rfl) H)
set_option maxRecDepth 100000 in
def f18.j2T (R : Value → Heap → Prop) (a1 : Addr) (x4 : Int) (b18 : Bool) (h : Heap) : Prop :=
  splitB b18 (R (Value.int .i64 (1 : Int)) h) (splitB (x4 == (18 : Int)) (∃ v1_, ldv false 1 h (Addr.add a1 1) = some v1_ ∧ ∃ x2_, v1_ = (Value.int .i64 x2_) ∧ splitB (decide (x2_ ≥ (0 : Int))) (R (Value.int .i64 (1 : Int)) h) (R (Value.int .i64 (0 : Int)) h)) (splitB (x4 == (11 : Int)) (∃ v3_, ldv false 1 h (Addr.add a1 5) = some v3_ ∧ ∃ A4_, ∃ n4_, ∃ c4_, v3_ = (Value.slice A4_ n4_ c4_) ∧ R (Value.int .i64 (if ((n4_ : Nat) : Int) > (1 : Int) then ((n4_ : Nat) : Int) else (1 : Int))) h) (splitB (x4 == (8 : Int)) (f18.j3 R a1 (x4 == (8 : Int)) h) (splitB (x4 == (9 : Int)) (f18.j3 R a1 (x4 == (9 : Int)) h) (splitB (x4 == (12 : Int)) (f18.j3 R a1 (x4 == (12 : Int)) h) (splitB (x4 == (14 : Int)) (f18.j3 R a1 (x4 == (14 : Int)) h) (f18.j3 R a1 (x4 == (17 : Int)) h)))))))
set_option maxRecDepth 100000 in
theorem f18.j2_in {R : Value → Heap → Prop} {a1 : Addr} {x4 : Int} {b18 : Bool} {h : Heap} (H : f18.j2T R a1 x4 b18 h) : f18.j2 R a1 x4 b18 h :=
  pt_intro mixed f18.good (Eq.mpr (show (Fwd Tryd.prog f18.T f18.kp Tryd.f18 R [true, true, true, true, true, true, true, false, true, false, true] (mkFr [(1, (Value.pointer (some a1))), (4, (Value.int .i64 x4)), (18, (Value.bool b18))]) h) = (f18.j2T R a1 x4 b18 h) by kernel_rfl) H)
set_option maxRecDepth 100000 in
def f18.j3T (R : Value → Heap → Prop) (a1 : Addr) (b38 : Bool) (h : Heap) : Prop :=
  splitB b38 (∃ v1_, ldv false 1 h (Addr.add a1 5) = some v1_ ∧ ∃ A2_, ∃ n2_, ∃ c2_, v1_ = (Value.slice A2_ n2_ c2_) ∧ R (Value.int .i64 ((n2_ : Nat) : Int)) h) (R (Value.int .i64 (-1 : Int)) h)
set_option maxRecDepth 100000 in
theorem f18.j3_in {R : Value → Heap → Prop} {a1 : Addr} {b38 : Bool} {h : Heap} (H : f18.j3T R a1 b38 h) : f18.j3 R a1 b38 h :=
  pt_intro mixed f18.good (Eq.mpr (show (Fwd Tryd.prog f18.T f18.kp Tryd.f18 R [true, true, true, true, true, true, true, true, true, true, true, true, true, false, true, false, true] (mkFr [(1, (Value.pointer (some a1))), (38, (Value.bool b38))]) h) = (f18.j3T R a1 b38 h) by kernel_rfl) H)
set_option maxRecDepth 100000 in
def f18.runT (R : Value → Heap → Prop) (v0 : Value) (h : Heap) : Prop :=
  newH h (Obj.cells ((v0).cells) 40) fun h1_ => ∃ v2_, ldv false 1 h1_ (⟨Array.size h, 0, none⟩) = some v2_ ∧ ∃ x3_, v2_ = (Value.int .i64 x3_) ∧ splitB (x3_ == (1 : Int)) (f18.j0 R (⟨Array.size h, 0, none⟩) x3_ (x3_ == (1 : Int)) h1_) (splitB (x3_ == (2 : Int)) (f18.j0 R (⟨Array.size h, 0, none⟩) x3_ (x3_ == (2 : Int)) h1_) (splitB (x3_ == (3 : Int)) (f18.j0 R (⟨Array.size h, 0, none⟩) x3_ (x3_ == (3 : Int)) h1_) (splitB (x3_ == (4 : Int)) (f18.j0 R (⟨Array.size h, 0, none⟩) x3_ (x3_ == (4 : Int)) h1_) (splitB (x3_ == (5 : Int)) (f18.j0 R (⟨Array.size h, 0, none⟩) x3_ (x3_ == (5 : Int)) h1_) (f18.j0 R (⟨Array.size h, 0, none⟩) x3_ (x3_ == (16 : Int)) h1_)))))
set_option maxRecDepth 100000 in
theorem f18.run {R : Value → Heap → Prop} {v0 : Value} {h : Heap} (H : f18.runT R v0 h) : Run Tryd.prog 18 #[v0] h R :=
  run_of mixed Tryd.func18 (by kernel_rfl) (by kernel_rfl) f18.good (Eq.mpr (show (Fwd Tryd.prog f18.T f18.kp Tryd.f18 R [] (mkFr (argL [v0] 0)) h) = (f18.runT R v0 h) by kernel_rfl) H)
def f19.T : Tab := { sh := tSh, tup := tTup, keep := [], plan := [] }
def f19.kp : Keep := [([true, false, true, false, true], [1, 4, 5]), ([true, true, true, false, true, false, true], [1, 4, 12]), ([true, true, true, true, true, false, true, false, true], [1, 4, 21]), ([true, true, true, true, true, true, true, true, true, true, true, false, true, false, true], [1, 4, 32])]
theorem f19.good : goodCode Tryd.prog f19.T (rootOf Tryd.f19) = true := by kernel_rfl
def f19.j0 (R : Value → Heap → Prop) (a1 : Addr) (x4 : Int) (b5 : Bool) (h : Heap) : Prop := Pt Tryd.prog Tryd.f19 R [true, false, true, false, true] (mkFr [(1, (Value.pointer (some a1))), (4, (Value.int .i64 x4)), (5, (Value.bool b5))]) h
def f19.j1 (R : Value → Heap → Prop) (a1 : Addr) (x4 : Int) (b12 : Bool) (h : Heap) : Prop := Pt Tryd.prog Tryd.f19 R [true, true, true, false, true, false, true] (mkFr [(1, (Value.pointer (some a1))), (4, (Value.int .i64 x4)), (12, (Value.bool b12))]) h
def f19.j2 (R : Value → Heap → Prop) (a1 : Addr) (x4 : Int) (b21 : Bool) (h : Heap) : Prop := Pt Tryd.prog Tryd.f19 R [true, true, true, true, true, false, true, false, true] (mkFr [(1, (Value.pointer (some a1))), (4, (Value.int .i64 x4)), (21, (Value.bool b21))]) h
def f19.j3 (R : Value → Heap → Prop) (a1 : Addr) (x4 : Int) (b32 : Bool) (h : Heap) : Prop := Pt Tryd.prog Tryd.f19 R [true, true, true, true, true, true, true, true, true, true, true, false, true, false, true] (mkFr [(1, (Value.pointer (some a1))), (4, (Value.int .i64 x4)), (32, (Value.bool b32))]) h
set_option maxRecDepth 100000 in
def f19.j0T (R : Value → Heap → Prop) (a1 : Addr) (x4 : Int) (b5 : Bool) (h : Heap) : Prop :=
  splitB b5 (R (Value.int .i64 (0 : Int)) h) (splitB (x4 == (10 : Int)) (f19.j1 R a1 x4 (x4 == (10 : Int)) h) (splitB (x4 == (13 : Int)) (f19.j1 R a1 x4 (x4 == (13 : Int)) h) (splitB (x4 == (19 : Int)) (f19.j1 R a1 x4 (x4 == (19 : Int)) h) (splitB (x4 == (20 : Int)) (f19.j1 R a1 x4 (x4 == (20 : Int)) h) (splitB (x4 == (21 : Int)) (f19.j1 R a1 x4 (x4 == (21 : Int)) h) (splitB (x4 == (22 : Int)) (f19.j1 R a1 x4 (x4 == (22 : Int)) h) (splitB (x4 == (24 : Int)) (f19.j1 R a1 x4 (x4 == (24 : Int)) h) (f19.j1 R a1 x4 (x4 == (25 : Int)) h))))))))
set_option maxRecDepth 100000 in
theorem f19.j0_in {R : Value → Heap → Prop} {a1 : Addr} {x4 : Int} {b5 : Bool} {h : Heap} (H : f19.j0T R a1 x4 b5 h) : f19.j0 R a1 x4 b5 h :=
  pt_intro mixed f19.good (Eq.mpr (show (Fwd Tryd.prog f19.T f19.kp Tryd.f19 R [true, false, true, false, true] (mkFr [(1, (Value.pointer (some a1))), (4, (Value.int .i64 x4)), (5, (Value.bool b5))]) h) = (f19.j0T R a1 x4 b5 h) by kernel_rfl) H)
set_option maxRecDepth 100000 in
def f19.j1T (R : Value → Heap → Prop) (a1 : Addr) (x4 : Int) (b12 : Bool) (h : Heap) : Prop :=
  splitB b12 (R (Value.int .i64 (1 : Int)) h) (splitB (x4 == (6 : Int)) (f19.j2 R a1 x4 (x4 == (6 : Int)) h) (splitB (x4 == (15 : Int)) (f19.j2 R a1 x4 (x4 == (15 : Int)) h) (f19.j2 R a1 x4 (x4 == (23 : Int)) h)))
set_option maxRecDepth 100000 in
theorem f19.j1_in {R : Value → Heap → Prop} {a1 : Addr} {x4 : Int} {b12 : Bool} {h : Heap} (H : f19.j1T R a1 x4 b12 h) : f19.j1 R a1 x4 b12 h :=
  pt_intro mixed f19.good (Eq.mpr (show (Fwd Tryd.prog f19.T f19.kp Tryd.f19 R [true, true, true, false, true, false, true] (mkFr [(1, (Value.pointer (some a1))), (4, (Value.int .i64 x4)), (12, (Value.bool b12))]) h) = (f19.j1T R a1 x4 b12 h) by kernel_rfl) H)
set_option maxRecDepth 100000 in
def f19.j2T (R : Value → Heap → Prop) (a1 : Addr) (x4 : Int) (b21 : Bool) (h : Heap) : Prop :=
  splitB b21 (R (Value.int .i64 (2 : Int)) h) (splitB (x4 == (7 : Int)) (R (Value.int .i64 (3 : Int)) h) (splitB (x4 == (18 : Int)) (∃ v1_, ldv false 1 h (Addr.add a1 1) = some v1_ ∧ ∃ x2_, v1_ = (Value.int .i64 x2_) ∧ splitB (decide (x2_ < (0 : Int))) (R (Value.int .i64 (0 : Int)) h) (R (Value.int .i64 (1 : Int)) h)) (splitB (x4 == (8 : Int)) (f19.j3 R a1 x4 (x4 == (8 : Int)) h) (splitB (x4 == (9 : Int)) (f19.j3 R a1 x4 (x4 == (9 : Int)) h) (splitB (x4 == (12 : Int)) (f19.j3 R a1 x4 (x4 == (12 : Int)) h) (splitB (x4 == (14 : Int)) (f19.j3 R a1 x4 (x4 == (14 : Int)) h) (f19.j3 R a1 x4 (x4 == (17 : Int)) h)))))))
set_option maxRecDepth 100000 in
theorem f19.j2_in {R : Value → Heap → Prop} {a1 : Addr} {x4 : Int} {b21 : Bool} {h : Heap} (H : f19.j2T R a1 x4 b21 h) : f19.j2 R a1 x4 b21 h :=
  pt_intro mixed f19.good (Eq.mpr (show (Fwd Tryd.prog f19.T f19.kp Tryd.f19 R [true, true, true, true, true, false, true, false, true] (mkFr [(1, (Value.pointer (some a1))), (4, (Value.int .i64 x4)), (21, (Value.bool b21))]) h) = (f19.j2T R a1 x4 b21 h) by kernel_rfl) H)
set_option maxRecDepth 100000 in
def f19.j3T (R : Value → Heap → Prop) (a1 : Addr) (x4 : Int) (b32 : Bool) (h : Heap) : Prop :=
  splitB b32 (∃ v1_, ldv false 1 h (Addr.add a1 5) = some v1_ ∧ ∃ A2_, ∃ n2_, ∃ c2_, v1_ = (Value.slice A2_ n2_ c2_) ∧ R (Value.int .i64 ((n2_ : Nat) : Int)) h) (splitB (x4 == (11 : Int)) (∃ v3_, ldv false 1 h (Addr.add a1 5) = some v3_ ∧ ∃ A4_, ∃ n4_, ∃ c4_, v3_ = (Value.slice A4_ n4_ c4_) ∧ R (Value.int .i64 (if ((n4_ : Nat) : Int) > (1 : Int) then ((n4_ : Nat) : Int) else (1 : Int))) h) (R (Value.int .i64 (-1 : Int)) h))
set_option maxRecDepth 100000 in
theorem f19.j3_in {R : Value → Heap → Prop} {a1 : Addr} {x4 : Int} {b32 : Bool} {h : Heap} (H : f19.j3T R a1 x4 b32 h) : f19.j3 R a1 x4 b32 h :=
  pt_intro mixed f19.good (Eq.mpr (show (Fwd Tryd.prog f19.T f19.kp Tryd.f19 R [true, true, true, true, true, true, true, true, true, true, true, false, true, false, true] (mkFr [(1, (Value.pointer (some a1))), (4, (Value.int .i64 x4)), (32, (Value.bool b32))]) h) = (f19.j3T R a1 x4 b32 h) by kernel_rfl) H)
set_option maxRecDepth 100000 in
def f19.runT (R : Value → Heap → Prop) (v0 : Value) (h : Heap) : Prop :=
  newH h (Obj.cells ((v0).cells) 40) fun h1_ => ∃ v2_, ldv false 1 h1_ (⟨Array.size h, 0, none⟩) = some v2_ ∧ ∃ x3_, v2_ = (Value.int .i64 x3_) ∧ splitB (x3_ == (1 : Int)) (f19.j0 R (⟨Array.size h, 0, none⟩) x3_ (x3_ == (1 : Int)) h1_) (splitB (x3_ == (2 : Int)) (f19.j0 R (⟨Array.size h, 0, none⟩) x3_ (x3_ == (2 : Int)) h1_) (splitB (x3_ == (3 : Int)) (f19.j0 R (⟨Array.size h, 0, none⟩) x3_ (x3_ == (3 : Int)) h1_) (splitB (x3_ == (4 : Int)) (f19.j0 R (⟨Array.size h, 0, none⟩) x3_ (x3_ == (4 : Int)) h1_) (splitB (x3_ == (5 : Int)) (f19.j0 R (⟨Array.size h, 0, none⟩) x3_ (x3_ == (5 : Int)) h1_) (f19.j0 R (⟨Array.size h, 0, none⟩) x3_ (x3_ == (16 : Int)) h1_)))))
set_option maxRecDepth 100000 in
theorem f19.run {R : Value → Heap → Prop} {v0 : Value} {h : Heap} (H : f19.runT R v0 h) : Run Tryd.prog 19 #[v0] h R :=
  run_of mixed Tryd.func19 (by kernel_rfl) (by kernel_rfl) f19.good (Eq.mpr (show (Fwd Tryd.prog f19.T f19.kp Tryd.f19 R [] (mkFr (argL [v0] 0)) h) = (f19.runT R v0 h) by kernel_rfl) H)
def f23.T : Tab := { sh := tSh, tup := tTup, keep := [], plan := [] }
def f23.kp : Keep := [([false, false, true, false, true, false, true, true, true, false, true, false, true], [3, 16, 17, 18])]
theorem f23.good : goodCode Tryd.prog f23.T (rootOf Tryd.f23) = true := by kernel_rfl
def f23.l0 (R : Value → Heap → Prop) (A3 : Option Addr) (n3 : Nat) (c3 : Nat) (A16 : Option Addr) (n16 : Nat) (c16 : Nat) (x17 : Int) (x18 : Int) (h : Heap) : Prop := Pt Tryd.prog Tryd.f23 R [false, false, true, false, true, false, true, true, true, false, true, false, true] (mkFr [(3, (Value.slice A3 n3 c3)), (16, (Value.slice A16 n16 c16)), (17, (Value.int .i64 x17)), (18, (Value.int .i64 x18))]) h
set_option maxRecDepth 100000 in
def f23.l0T (R : Value → Heap → Prop) (A3 : Option Addr) (n3 : Nat) (c3 : Nat) (A16 : Option Addr) (n16 : Nat) (c16 : Nat) (x17 : Int) (x18 : Int) (h : Heap) : Prop :=
  splitB (decide (x18 < x17)) (ptrOk A16 fun a1_ => 0 ≤ x18 ∧ x18 < ((n16 : Nat) : Int) ∧ (∃ v2_, ldv true 4 h (Addr.add a1_ (Int.toNat x18 * 4)) = some v2_ ∧ newH h (Obj.cells #[(Value.int .i64 (0 : Int)), (Value.int .i64 (0 : Int)), (Value.string (ByteArray.mk #[])), (Value.slice none 0 0)] 48) fun h3_ => ∃ l5_ : List Value, v2_ = Value.agg l5_.toArray ∧ l5_.length = 4 ∧ ∃ h4_, stH h3_ (⟨Array.size h, 0, none⟩) l5_ 0 = some h4_ ∧ ∃ v6_, ldv true 4 h4_ (⟨Array.size h, 0, none⟩) = some v6_ ∧ Run Tryd.prog 23 #[v6_] h4_ fun v7_ h8_ => ∃ A9_, ∃ n9_, ∃ c9_, v7_ = (Value.slice A9_ n9_ c9_) ∧ AppW 9 1 16 #[(Value.string (ByteArray.mk #[]))] A3 n3 c3 (Value.slice A9_ n9_ c9_) h8_ fun v10_ h11_ => ∃ A12_, ∃ n12_, ∃ c12_, v10_ = (Value.slice A12_ n12_ c12_) ∧ f23.l0 R A12_ n12_ c12_ A16 n16 c16 x17 (IntKind.wrap .i64 (x18 + (1 : Int))) h11_)) (R (Value.slice A3 n3 c3) h)
set_option maxRecDepth 100000 in
theorem f23.l0_in {R : Value → Heap → Prop} {A3 : Option Addr} {n3 : Nat} {c3 : Nat} {A16 : Option Addr} {n16 : Nat} {c16 : Nat} {x17 : Int} {x18 : Int} {h : Heap} (H : f23.l0T R A3 n3 c3 A16 n16 c16 x17 x18 h) : f23.l0 R A3 n3 c3 A16 n16 c16 x17 x18 h :=
  pt_intro mixed f23.good (Eq.mpr (show (Fwd Tryd.prog f23.T f23.kp Tryd.f23 R [false, false, true, false, true, false, true, true, true, false, true, false, true] (mkFr [(3, (Value.slice A3 n3 c3)), (16, (Value.slice A16 n16 c16)), (17, (Value.int .i64 x17)), (18, (Value.int .i64 x18))]) h) = (f23.l0T R A3 n3 c3 A16 n16 c16 x17 x18 h) by kernel_rfl) H)
set_option maxRecDepth 100000 in
def f23.runT (R : Value → Heap → Prop) (v0 : Value) (h : Heap) : Prop :=
  newH h (Obj.cells ((v0).cells) 48) fun h1_ => ∃ v2_, ldv false 1 h1_ (⟨Array.size h, 0, none⟩) = some v2_ ∧ ∃ x3_, v2_ = (Value.int .i64 x3_) ∧ splitB (x3_ == (2 : Int)) (∃ v4_, ldv false 1 h1_ (Addr.add (⟨Array.size h, 0, none⟩) 2) = some v4_ ∧ ∃ s5_, v4_ = (Value.string s5_) ∧ newH h1_ (Obj.cells #[(Value.string s5_)] 9) fun h6_ => R (Value.slice (some ⟨Array.size h1_, 0, none⟩) 1 1) h6_) (splitB (x3_ == (6 : Int)) (∃ v7_, ldv false 1 h1_ (Addr.add (⟨Array.size h, 0, none⟩) 3) = some v7_ ∧ ∃ A8_, ∃ n8_, ∃ c8_, v7_ = (Value.slice A8_ n8_ c8_) ∧ f23.l0 R none 0 0 A8_ n8_ c8_ ((n8_ : Nat) : Int) (0 : Int) h1_) (R (Value.slice none 0 0) h1_))
set_option maxRecDepth 100000 in
theorem f23.run {R : Value → Heap → Prop} {v0 : Value} {h : Heap} (H : f23.runT R v0 h) : Run Tryd.prog 23 #[v0] h R :=
  run_of mixed Tryd.func23 (by kernel_rfl) (by kernel_rfl) f23.good (Eq.mpr (show (Fwd Tryd.prog f23.T f23.kp Tryd.f23 R [] (mkFr (argL [v0] 0)) h) = (f23.runT R v0 h) by kernel_rfl) H)
def f66.T : Tab := { sh := tSh, tup := tTup, keep := [], plan := [] }
def f66.kp : Keep := [([false, false, true, false, true], [0, 1, 7, 8])]
theorem f66.good : goodCode Tryd.prog f66.T (rootOf Tryd.f66) = true := by kernel_rfl
def f66.l0 (R : Value → Heap → Prop) (A0 : Option Addr) (n0 : Nat) (c0 : Nat) (s1 : ByteArray) (x7 : Int) (x8 : Int) (h : Heap) : Prop := Pt Tryd.prog Tryd.f66 R [false, false, true, false, true] (mkFr [(0, (Value.slice A0 n0 c0)), (1, (Value.string s1)), (7, (Value.int .i64 x7)), (8, (Value.int .i64 x8))]) h
set_option maxRecDepth 100000 in
def f66.l0T (R : Value → Heap → Prop) (A0 : Option Addr) (n0 : Nat) (c0 : Nat) (s1 : ByteArray) (x7 : Int) (x8 : Int) (h : Heap) : Prop :=
  splitB (decide (x8 < x7)) (ptrOk A0 fun a1_ => 0 ≤ x8 ∧ x8 < ((n0 : Nat) : Int) ∧ (∃ v2_, ldv false 1 h (Addr.add a1_ (Int.toNat x8 * 1)) = some v2_ ∧ ∃ s3_, v2_ = (Value.string s3_) ∧ splitB (ByteArray.toList s1 == ByteArray.toList s3_) (R (Value.int .i64 x8) h) (f66.l0 R A0 n0 c0 s1 x7 (IntKind.wrap .i64 (x8 + (1 : Int))) h))) (R (Value.int .i64 (-1 : Int)) h)
set_option maxRecDepth 100000 in
theorem f66.l0_in {R : Value → Heap → Prop} {A0 : Option Addr} {n0 : Nat} {c0 : Nat} {s1 : ByteArray} {x7 : Int} {x8 : Int} {h : Heap} (H : f66.l0T R A0 n0 c0 s1 x7 x8 h) : f66.l0 R A0 n0 c0 s1 x7 x8 h :=
  pt_intro mixed f66.good (Eq.mpr (show (Fwd Tryd.prog f66.T f66.kp Tryd.f66 R [false, false, true, false, true] (mkFr [(0, (Value.slice A0 n0 c0)), (1, (Value.string s1)), (7, (Value.int .i64 x7)), (8, (Value.int .i64 x8))]) h) = (f66.l0T R A0 n0 c0 s1 x7 x8 h) by kernel_rfl) H)
set_option maxRecDepth 100000 in
def f66.runT (R : Value → Heap → Prop) (A0 : Option Addr) (n0 : Nat) (c0 : Nat) (s1 : ByteArray) (h : Heap) : Prop :=
  f66.l0 R A0 n0 c0 s1 ((n0 : Nat) : Int) (0 : Int) h
set_option maxRecDepth 100000 in
theorem f66.run {R : Value → Heap → Prop} {A0 : Option Addr} {n0 : Nat} {c0 : Nat} {s1 : ByteArray} {h : Heap} (H : f66.runT R A0 n0 c0 s1 h) : Run Tryd.prog 66 #[(Value.slice A0 n0 c0), (Value.string s1)] h R :=
  run_of mixed Tryd.func66 (by kernel_rfl) (by kernel_rfl) f66.good (Eq.mpr (show (Fwd Tryd.prog f66.T f66.kp Tryd.f66 R [] (mkFr (argL [(Value.slice A0 n0 c0), (Value.string s1)] 0)) h) = (f66.runT R A0 n0 c0 s1 h) by kernel_rfl) H)
def f58.T : Tab := { sh := tSh, tup := tTup, keep := [], plan := [] }
def f58.kp : Keep := []
theorem f58.good : goodCode Tryd.prog f58.T (rootOf Tryd.f58) = true := by kernel_rfl
set_option maxRecDepth 100000 in
def f58.runT (R : Value → Heap → Prop) (A0 : Option Addr) (n0 : Nat) (c0 : Nat) (s1 : ByteArray) (h : Heap) : Prop :=
  Run Tryd.prog 66 #[(Value.slice A0 n0 c0), (Value.string s1)] h fun v1_ h2_ => ∃ x3_, v1_ = (Value.int .i64 x3_) ∧ R (Value.bool (decide (x3_ ≥ (0 : Int)))) h2_
set_option maxRecDepth 100000 in
theorem f58.run {R : Value → Heap → Prop} {A0 : Option Addr} {n0 : Nat} {c0 : Nat} {s1 : ByteArray} {h : Heap} (H : f58.runT R A0 n0 c0 s1 h) : Run Tryd.prog 58 #[(Value.slice A0 n0 c0), (Value.string s1)] h R :=
  run_of mixed Tryd.func58 (by kernel_rfl) (by kernel_rfl) f58.good (Eq.mpr (show (Fwd Tryd.prog f58.T f58.kp Tryd.f58 R [] (mkFr (argL [(Value.slice A0 n0 c0), (Value.string s1)] 0)) h) = (f58.runT R A0 n0 c0 s1 h) by kernel_rfl) H)
def f59.T : Tab := { sh := tSh, tup := tTup, keep := [], plan := [] }
def f59.kp : Keep := []
theorem f59.good : goodCode Tryd.prog f59.T (rootOf Tryd.f59) = true := by kernel_rfl
set_option maxRecDepth 100000 in
def f59.runT (R : Value → Heap → Prop) (A0 : Option Addr) (n0 : Nat) (c0 : Nat) (h : Heap) : Prop :=
  splitB (Option.isNone A0) (R (Value.slice none 0 0) h) (newH h (Obj.cells #[] 9) fun h1_ => AppW 9 1 16 #[(Value.string (ByteArray.mk #[]))] (some ⟨Array.size h, 0, none⟩) 0 0 (Value.slice A0 n0 c0) h1_ fun v2_ h3_ => ∃ A4_, ∃ n4_, ∃ c4_, v2_ = (Value.slice A4_ n4_ c4_) ∧ R (Value.slice A4_ n4_ c4_) h3_)
set_option maxRecDepth 100000 in
theorem f59.run {R : Value → Heap → Prop} {A0 : Option Addr} {n0 : Nat} {c0 : Nat} {h : Heap} (H : f59.runT R A0 n0 c0 h) : Run Tryd.prog 59 #[(Value.slice A0 n0 c0)] h R :=
  run_of mixed Tryd.func59 (by kernel_rfl) (by kernel_rfl) f59.good (Eq.mpr (show (Fwd Tryd.prog f59.T f59.kp Tryd.f59 R [] (mkFr (argL [(Value.slice A0 n0 c0)] 0)) h) = (f59.runT R A0 n0 c0 h) by kernel_rfl) H)
def f56.T : Tab := { sh := tSh, tup := tTup, keep := [], plan := [(20, (.take 0 (.take 2 (.take 3 (.alt true 1 (.eff false 4 (.eff false 5 (.take 6 .done))) (.eff false 4 (.eff true 1 (.eff false 5 (.take 6 .done))))))))), (22, (.take 0 (.take 2 (.take 3 (.eff true 1 (.eff false 4 (.take 5 .done))))))), (29, (.take 0 (.take 2 (.take 4 (.take 8 (.take 5 (.alt true 1 (.eff true 3 (.eff false 6 (.eff false 7 (.eff false 9 (.take 10 .done))))) (.eff true 3 (.alt true 1 (.eff false 6 (.eff false 7 (.eff false 9 (.take 10 .done)))) (.eff false 6 (.alt true 1 (.eff false 7 (.eff false 9 (.take 10 .done))) (.eff false 7 (.eff true 1 (.eff false 9 (.take 10 .done)))))))))))))))] }
def f56.kp : Keep := [([true, false, false, true, true, true, false, false, true, true], [2, 3, 36]), ([false, false, true, false, false, true, true, true, true, true, false, false, true, true], [1, 2, 50, 51, 52]), ([false, false, true, false, true, true, true], [1, 2, 3, 65, 66, 67]), ([true, false, true, true, false, false, true, true, false, false, true, false, true, true, true], [1, 2, 3, 11, 12, 65, 66, 67, 79]), ([true, true, true, false, false, true, true, false, false, true, false, true, true, true], [1, 2, 3, 11, 12, 65, 66, 67]), ([true, true, true, true, false, false, true, true, false, false, true, false, true, true, true], [1, 2, 3, 11, 12, 65, 66, 67]), ([true, false, true, true, true, true], [1, 2, 3, 106]), ([false, false, true, false, true, false, true, true, true, true], [1, 2, 108, 109, 110])]
theorem f56.good : goodCode Tryd.prog f56.T (rootOf Tryd.f56) = true := by kernel_rfl
def f56.j1 (R : Value → Heap → Prop) (A2 : Option Addr) (n2 : Nat) (c2 : Nat) (a3 : Addr) (b36 : Bool) (h : Heap) : Prop := Pt Tryd.prog Tryd.f56 R [true, false, false, true, true, true, false, false, true, true] (mkFr [(2, (Value.slice A2 n2 c2)), (3, (Value.pointer (some a3))), (36, (Value.bool b36))]) h
def f56.l2 (R : Value → Heap → Prop) (A1 : Option Addr) (n1 : Nat) (c1 : Nat) (A2 : Option Addr) (n2 : Nat) (c2 : Nat) (A50 : Option Addr) (n50 : Nat) (c50 : Nat) (x51 : Int) (x52 : Int) (h : Heap) : Prop := Pt Tryd.prog Tryd.f56 R [false, false, true, false, false, true, true, true, true, true, false, false, true, true] (mkFr [(1, (Value.slice A1 n1 c1)), (2, (Value.slice A2 n2 c2)), (50, (Value.slice A50 n50 c50)), (51, (Value.int .i64 x51)), (52, (Value.int .i64 x52))]) h
def f56.l0 (R : Value → Heap → Prop) (A1 : Option Addr) (n1 : Nat) (c1 : Nat) (A2 : Option Addr) (n2 : Nat) (c2 : Nat) (a3 : Addr) (A65 : Option Addr) (n65 : Nat) (c65 : Nat) (x66 : Int) (x67 : Int) (h : Heap) : Prop := Pt Tryd.prog Tryd.f56 R [false, false, true, false, true, true, true] (mkFr [(1, (Value.slice A1 n1 c1)), (2, (Value.slice A2 n2 c2)), (3, (Value.pointer (some a3))), (65, (Value.slice A65 n65 c65)), (66, (Value.int .i64 x66)), (67, (Value.int .i64 x67))]) h
def f56.j3 (R : Value → Heap → Prop) (A1 : Option Addr) (n1 : Nat) (c1 : Nat) (A2 : Option Addr) (n2 : Nat) (c2 : Nat) (a3 : Addr) (a11 : Addr) (A12 : Option Addr) (n12 : Nat) (c12 : Nat) (A65 : Option Addr) (n65 : Nat) (c65 : Nat) (x66 : Int) (x67 : Int) (b79 : Bool) (h : Heap) : Prop := Pt Tryd.prog Tryd.f56 R [true, false, true, true, false, false, true, true, false, false, true, false, true, true, true] (mkFr [(1, (Value.slice A1 n1 c1)), (2, (Value.slice A2 n2 c2)), (3, (Value.pointer (some a3))), (11, (Value.pointer (some a11))), (12, (Value.slice A12 n12 c12)), (65, (Value.slice A65 n65 c65)), (66, (Value.int .i64 x66)), (67, (Value.int .i64 x67)), (79, (Value.bool b79))]) h
def f56.j0 (R : Value → Heap → Prop) (A1 : Option Addr) (n1 : Nat) (c1 : Nat) (A2 : Option Addr) (n2 : Nat) (c2 : Nat) (a3 : Addr) (b106 : Bool) (h : Heap) : Prop := Pt Tryd.prog Tryd.f56 R [true, false, true, true, true, true] (mkFr [(1, (Value.slice A1 n1 c1)), (2, (Value.slice A2 n2 c2)), (3, (Value.pointer (some a3))), (106, (Value.bool b106))]) h
def f56.j2 (R : Value → Heap → Prop) (A1 : Option Addr) (n1 : Nat) (c1 : Nat) (A2 : Option Addr) (n2 : Nat) (c2 : Nat) (a3 : Addr) (a11 : Addr) (A12 : Option Addr) (n12 : Nat) (c12 : Nat) (A65 : Option Addr) (n65 : Nat) (c65 : Nat) (x66 : Int) (x67 : Int) (h : Heap) : Prop := Pt Tryd.prog Tryd.f56 R [true, true, true, false, false, true, true, false, false, true, false, true, true, true] (mkFr [(1, (Value.slice A1 n1 c1)), (2, (Value.slice A2 n2 c2)), (3, (Value.pointer (some a3))), (11, (Value.pointer (some a11))), (12, (Value.slice A12 n12 c12)), (65, (Value.slice A65 n65 c65)), (66, (Value.int .i64 x66)), (67, (Value.int .i64 x67))]) h
def f56.l1 (R : Value → Heap → Prop) (A1 : Option Addr) (n1 : Nat) (c1 : Nat) (A2 : Option Addr) (n2 : Nat) (c2 : Nat) (A108 : Option Addr) (n108 : Nat) (c108 : Nat) (x109 : Int) (x110 : Int) (h : Heap) : Prop := Pt Tryd.prog Tryd.f56 R [false, false, true, false, true, false, true, true, true, true] (mkFr [(1, (Value.slice A1 n1 c1)), (2, (Value.slice A2 n2 c2)), (108, (Value.slice A108 n108 c108)), (109, (Value.int .i64 x109)), (110, (Value.int .i64 x110))]) h
def f56.j4 (R : Value → Heap → Prop) (A1 : Option Addr) (n1 : Nat) (c1 : Nat) (A2 : Option Addr) (n2 : Nat) (c2 : Nat) (a3 : Addr) (a11 : Addr) (A12 : Option Addr) (n12 : Nat) (c12 : Nat) (A65 : Option Addr) (n65 : Nat) (c65 : Nat) (x66 : Int) (x67 : Int) (h : Heap) : Prop := Pt Tryd.prog Tryd.f56 R [true, true, true, true, false, false, true, true, false, false, true, false, true, true, true] (mkFr [(1, (Value.slice A1 n1 c1)), (2, (Value.slice A2 n2 c2)), (3, (Value.pointer (some a3))), (11, (Value.pointer (some a11))), (12, (Value.slice A12 n12 c12)), (65, (Value.slice A65 n65 c65)), (66, (Value.int .i64 x66)), (67, (Value.int .i64 x67))]) h
set_option maxRecDepth 100000 in
def f56.j1T (R : Value → Heap → Prop) (A2 : Option Addr) (n2 : Nat) (c2 : Nat) (a3 : Addr) (b36 : Bool) (h : Heap) : Prop :=
  splitB b36 (∃ v1_, ldv false 1 h (Addr.add a3 2) = some v1_ ∧ ∃ s2_, v1_ = (Value.string s2_) ∧ newH h (Obj.cells #[(Value.string s2_)] 9) fun h3_ => AppW 9 1 16 #[(Value.string (ByteArray.mk #[]))] A2 n2 c2 (Value.slice (some ⟨Array.size h, 0, none⟩) 1 1) h3_ fun v4_ h5_ => ∃ A6_, ∃ n6_, ∃ c6_, v4_ = (Value.slice A6_ n6_ c6_) ∧ R (Value.slice A6_ n6_ c6_) h5_) (R (Value.slice A2 n2 c2) h)
set_option maxRecDepth 100000 in
theorem f56.j1_in {R : Value → Heap → Prop} {A2 : Option Addr} {n2 : Nat} {c2 : Nat} {a3 : Addr} {b36 : Bool} {h : Heap} (H : f56.j1T R A2 n2 c2 a3 b36 h) : f56.j1 R A2 n2 c2 a3 b36 h :=
  pt_intro mixed f56.good (Eq.mpr (show (Fwd Tryd.prog f56.T f56.kp Tryd.f56 R [true, false, false, true, true, true, false, false, true, true] (mkFr [(2, (Value.slice A2 n2 c2)), (3, (Value.pointer (some a3))), (36, (Value.bool b36))]) h) = (f56.j1T R A2 n2 c2 a3 b36 h) by kernel_rfl) H)
set_option maxRecDepth 100000 in
def f56.l2T (R : Value → Heap → Prop) (A1 : Option Addr) (n1 : Nat) (c1 : Nat) (A2 : Option Addr) (n2 : Nat) (c2 : Nat) (A50 : Option Addr) (n50 : Nat) (c50 : Nat) (x51 : Int) (x52 : Int) (h : Heap) : Prop :=
  splitB (decide (x52 < x51)) (ptrOk A50 fun a1_ => 0 ≤ x52 ∧ x52 < ((n50 : Nat) : Int) ∧ (∃ v2_, ldv true 8 h (Addr.add a1_ (Int.toNat x52 * 8)) = some v2_ ∧ newH h (Obj.cells #[(Value.int .i64 (0 : Int)), (Value.int .i64 (0 : Int)), (Value.string (ByteArray.mk #[])), (Value.slice none 0 0), (Value.slice none 0 0), (Value.slice none 0 0), (Value.slice none 0 0), (Value.int .i64 (0 : Int))] 40) fun h3_ => ∃ l5_ : List Value, v2_ = Value.agg l5_.toArray ∧ l5_.length = 8 ∧ ∃ h4_, stH h3_ (⟨Array.size h, 0, none⟩) l5_ 0 = some h4_ ∧ ∃ v6_, ldv true 8 h4_ (⟨Array.size h, 0, none⟩) = some v6_ ∧ Run Tryd.prog 56 #[v6_, (Value.slice A1 n1 c1), (Value.slice A2 n2 c2)] h4_ fun v7_ h8_ => ∃ A9_, ∃ n9_, ∃ c9_, v7_ = (Value.slice A9_ n9_ c9_) ∧ f56.l2 R A1 n1 c1 A9_ n9_ c9_ A50 n50 c50 x51 (IntKind.wrap .i64 (x52 + (1 : Int))) h8_)) (R (Value.slice A2 n2 c2) h)
set_option maxRecDepth 100000 in
theorem f56.l2_in {R : Value → Heap → Prop} {A1 : Option Addr} {n1 : Nat} {c1 : Nat} {A2 : Option Addr} {n2 : Nat} {c2 : Nat} {A50 : Option Addr} {n50 : Nat} {c50 : Nat} {x51 : Int} {x52 : Int} {h : Heap} (H : f56.l2T R A1 n1 c1 A2 n2 c2 A50 n50 c50 x51 x52 h) : f56.l2 R A1 n1 c1 A2 n2 c2 A50 n50 c50 x51 x52 h :=
  pt_intro mixed f56.good (Eq.mpr (show (Fwd Tryd.prog f56.T f56.kp Tryd.f56 R [false, false, true, false, false, true, true, true, true, true, false, false, true, true] (mkFr [(1, (Value.slice A1 n1 c1)), (2, (Value.slice A2 n2 c2)), (50, (Value.slice A50 n50 c50)), (51, (Value.int .i64 x51)), (52, (Value.int .i64 x52))]) h) = (f56.l2T R A1 n1 c1 A2 n2 c2 A50 n50 c50 x51 x52 h) by kernel_rfl) H)
set_option maxRecDepth 100000 in
def f56.l0T (R : Value → Heap → Prop) (A1 : Option Addr) (n1 : Nat) (c1 : Nat) (A2 : Option Addr) (n2 : Nat) (c2 : Nat) (a3 : Addr) (A65 : Option Addr) (n65 : Nat) (c65 : Nat) (x66 : Int) (x67 : Int) (h : Heap) : Prop :=
  splitB (decide (x67 < x66)) (ptrOk A65 fun a1_ => 0 ≤ x67 ∧ x67 < ((n65 : Nat) : Int) ∧ (∃ v2_, ldv true 8 h (Addr.add a1_ (Int.toNat x67 * 8)) = some v2_ ∧ newH h (Obj.cells #[(Value.int .i64 (0 : Int)), (Value.int .i64 (0 : Int)), (Value.string (ByteArray.mk #[])), (Value.slice none 0 0), (Value.slice none 0 0), (Value.slice none 0 0), (Value.slice none 0 0), (Value.int .i64 (0 : Int))] 40) fun h3_ => ∃ l5_ : List Value, v2_ = Value.agg l5_.toArray ∧ l5_.length = 8 ∧ ∃ h4_, stH h3_ (⟨Array.size h, 0, none⟩) l5_ 0 = some h4_ ∧ ∃ v6_, ldv false 1 h4_ a3 = some v6_ ∧ ∃ x7_, v6_ = (Value.int .i64 x7_) ∧ splitB (x7_ == (6 : Int)) (f56.j3 R A1 n1 c1 A2 n2 c2 a3 (⟨Array.size h, 0, none⟩) A1 n1 c1 A65 n65 c65 x66 x67 (x67 == (1 : Int)) h4_) (f56.j3 R A1 n1 c1 A2 n2 c2 a3 (⟨Array.size h, 0, none⟩) A1 n1 c1 A65 n65 c65 x66 x67 false h4_))) (∃ v8_, ldv false 1 h a3 = some v8_ ∧ ∃ x9_, v8_ = (Value.int .i64 x9_) ∧ splitB (x9_ == (13 : Int)) (f56.j0 R A1 n1 c1 A2 n2 c2 a3 true h) (∃ v10_, ldv false 1 h a3 = some v10_ ∧ ∃ x11_, v10_ = (Value.int .i64 x11_) ∧ f56.j0 R A1 n1 c1 A2 n2 c2 a3 (x11_ == (18 : Int)) h))
set_option maxRecDepth 100000 in
theorem f56.l0_in {R : Value → Heap → Prop} {A1 : Option Addr} {n1 : Nat} {c1 : Nat} {A2 : Option Addr} {n2 : Nat} {c2 : Nat} {a3 : Addr} {A65 : Option Addr} {n65 : Nat} {c65 : Nat} {x66 : Int} {x67 : Int} {h : Heap} (H : f56.l0T R A1 n1 c1 A2 n2 c2 a3 A65 n65 c65 x66 x67 h) : f56.l0 R A1 n1 c1 A2 n2 c2 a3 A65 n65 c65 x66 x67 h :=
  pt_intro mixed f56.good (Eq.mpr (show (Fwd Tryd.prog f56.T f56.kp Tryd.f56 R [false, false, true, false, true, true, true] (mkFr [(1, (Value.slice A1 n1 c1)), (2, (Value.slice A2 n2 c2)), (3, (Value.pointer (some a3))), (65, (Value.slice A65 n65 c65)), (66, (Value.int .i64 x66)), (67, (Value.int .i64 x67))]) h) = (f56.l0T R A1 n1 c1 A2 n2 c2 a3 A65 n65 c65 x66 x67 h) by kernel_rfl) H)
set_option maxRecDepth 100000 in
def f56.j3T (R : Value → Heap → Prop) (A1 : Option Addr) (n1 : Nat) (c1 : Nat) (A2 : Option Addr) (n2 : Nat) (c2 : Nat) (a3 : Addr) (a11 : Addr) (A12 : Option Addr) (n12 : Nat) (c12 : Nat) (A65 : Option Addr) (n65 : Nat) (c65 : Nat) (x66 : Int) (x67 : Int) (b79 : Bool) (h : Heap) : Prop :=
  splitB b79 (∃ v1_, ldv false 1 h (Addr.add a3 2) = some v1_ ∧ ∃ s2_, v1_ = (Value.string s2_) ∧ (Run Tryd.prog 59 #[(Value.slice A1 n1 c1)] h fun v3_ h4_ => ∃ A5_, ∃ n5_, ∃ c5_, v3_ = (Value.slice A5_ n5_ c5_) ∧ Ext h h4_ ∧ (newH h4_ (Obj.cells #[(Value.string s2_)] 9) fun h6_ => AppW 9 1 16 #[(Value.string (ByteArray.mk #[]))] A5_ n5_ c5_ (Value.slice (some ⟨Array.size h4_, 0, none⟩) 1 1) h6_ fun v7_ h8_ => ∃ A9_, ∃ n9_, ∃ c9_, v7_ = (Value.slice A9_ n9_ c9_) ∧ f56.j2 R A1 n1 c1 A2 n2 c2 a3 a11 A9_ n9_ c9_ A65 n65 c65 x66 x67 h8_)) ∧ (newH h (Obj.cells #[(Value.string s2_)] 9) fun h10_ => Run Tryd.prog 59 #[(Value.slice A1 n1 c1)] h10_ fun v11_ h12_ => ∃ A13_, ∃ n13_, ∃ c13_, v11_ = (Value.slice A13_ n13_ c13_) ∧ Ext h10_ h12_ ∧ (AppW 9 1 16 #[(Value.string (ByteArray.mk #[]))] A13_ n13_ c13_ (Value.slice (some ⟨Array.size h, 0, none⟩) 1 1) h12_ fun v14_ h15_ => ∃ A16_, ∃ n16_, ∃ c16_, v14_ = (Value.slice A16_ n16_ c16_) ∧ f56.j2 R A1 n1 c1 A2 n2 c2 a3 a11 A16_ n16_ c16_ A65 n65 c65 x66 x67 h15_))) (f56.j2 R A1 n1 c1 A2 n2 c2 a3 a11 A12 n12 c12 A65 n65 c65 x66 x67 h)
set_option maxRecDepth 100000 in
theorem f56.j3_in {R : Value → Heap → Prop} {A1 : Option Addr} {n1 : Nat} {c1 : Nat} {A2 : Option Addr} {n2 : Nat} {c2 : Nat} {a3 : Addr} {a11 : Addr} {A12 : Option Addr} {n12 : Nat} {c12 : Nat} {A65 : Option Addr} {n65 : Nat} {c65 : Nat} {x66 : Int} {x67 : Int} {b79 : Bool} {h : Heap} (H : f56.j3T R A1 n1 c1 A2 n2 c2 a3 a11 A12 n12 c12 A65 n65 c65 x66 x67 b79 h) : f56.j3 R A1 n1 c1 A2 n2 c2 a3 a11 A12 n12 c12 A65 n65 c65 x66 x67 b79 h :=
  pt_intro mixed f56.good (Eq.mpr (show (Fwd Tryd.prog f56.T f56.kp Tryd.f56 R [true, false, true, true, false, false, true, true, false, false, true, false, true, true, true] (mkFr [(1, (Value.slice A1 n1 c1)), (2, (Value.slice A2 n2 c2)), (3, (Value.pointer (some a3))), (11, (Value.pointer (some a11))), (12, (Value.slice A12 n12 c12)), (65, (Value.slice A65 n65 c65)), (66, (Value.int .i64 x66)), (67, (Value.int .i64 x67)), (79, (Value.bool b79))]) h) = (f56.j3T R A1 n1 c1 A2 n2 c2 a3 a11 A12 n12 c12 A65 n65 c65 x66 x67 b79 h) by kernel_rfl) H)
set_option maxRecDepth 100000 in
def f56.j0T (R : Value → Heap → Prop) (A1 : Option Addr) (n1 : Nat) (c1 : Nat) (A2 : Option Addr) (n2 : Nat) (c2 : Nat) (a3 : Addr) (b106 : Bool) (h : Heap) : Prop :=
  splitB b106 (∃ v1_, ldv false 1 h (Addr.add a3 6) = some v1_ ∧ ∃ A2_, ∃ n2_, ∃ c2_, v1_ = (Value.slice A2_ n2_ c2_) ∧ f56.l1 R A1 n1 c1 A2 n2 c2 A2_ n2_ c2_ ((n2_ : Nat) : Int) (0 : Int) h) (R (Value.slice A2 n2 c2) h)
set_option maxRecDepth 100000 in
theorem f56.j0_in {R : Value → Heap → Prop} {A1 : Option Addr} {n1 : Nat} {c1 : Nat} {A2 : Option Addr} {n2 : Nat} {c2 : Nat} {a3 : Addr} {b106 : Bool} {h : Heap} (H : f56.j0T R A1 n1 c1 A2 n2 c2 a3 b106 h) : f56.j0 R A1 n1 c1 A2 n2 c2 a3 b106 h :=
  pt_intro mixed f56.good (Eq.mpr (show (Fwd Tryd.prog f56.T f56.kp Tryd.f56 R [true, false, true, true, true, true] (mkFr [(1, (Value.slice A1 n1 c1)), (2, (Value.slice A2 n2 c2)), (3, (Value.pointer (some a3))), (106, (Value.bool b106))]) h) = (f56.j0T R A1 n1 c1 A2 n2 c2 a3 b106 h) by kernel_rfl) H)
set_option maxRecDepth 100000 in
def f56.j2T (R : Value → Heap → Prop) (A1 : Option Addr) (n1 : Nat) (c1 : Nat) (A2 : Option Addr) (n2 : Nat) (c2 : Nat) (a3 : Addr) (a11 : Addr) (A12 : Option Addr) (n12 : Nat) (c12 : Nat) (A65 : Option Addr) (n65 : Nat) (c65 : Nat) (x66 : Int) (x67 : Int) (h : Heap) : Prop :=
  ∃ v1_, ldv false 1 h a3 = some v1_ ∧ ∃ x2_, v1_ = (Value.int .i64 x2_) ∧ splitB (x2_ == (10 : Int)) (∃ v3_, ldv false 1 h (Addr.add a3 3) = some v3_ ∧ ∃ A4_, ∃ n4_, ∃ c4_, v3_ = (Value.slice A4_ n4_ c4_) ∧ Run Tryd.prog 59 #[(Value.slice A1 n1 c1)] h fun v5_ h6_ => ∃ A7_, ∃ n7_, ∃ c7_, v5_ = (Value.slice A7_ n7_ c7_) ∧ Ext h h6_ ∧ (AppW 9 1 16 #[(Value.string (ByteArray.mk #[]))] A7_ n7_ c7_ (Value.slice A4_ n4_ c4_) h6_ fun v8_ h9_ => ∃ A10_, ∃ n10_, ∃ c10_, v8_ = (Value.slice A10_ n10_ c10_) ∧ f56.j4 R A1 n1 c1 A2 n2 c2 a3 a11 A10_ n10_ c10_ A65 n65 c65 x66 x67 h9_)) (f56.j4 R A1 n1 c1 A2 n2 c2 a3 a11 A12 n12 c12 A65 n65 c65 x66 x67 h)
set_option maxRecDepth 100000 in
theorem f56.j2_in {R : Value → Heap → Prop} {A1 : Option Addr} {n1 : Nat} {c1 : Nat} {A2 : Option Addr} {n2 : Nat} {c2 : Nat} {a3 : Addr} {a11 : Addr} {A12 : Option Addr} {n12 : Nat} {c12 : Nat} {A65 : Option Addr} {n65 : Nat} {c65 : Nat} {x66 : Int} {x67 : Int} {h : Heap} (H : f56.j2T R A1 n1 c1 A2 n2 c2 a3 a11 A12 n12 c12 A65 n65 c65 x66 x67 h) : f56.j2 R A1 n1 c1 A2 n2 c2 a3 a11 A12 n12 c12 A65 n65 c65 x66 x67 h :=
  pt_intro mixed f56.good (Eq.mpr (show (Fwd Tryd.prog f56.T f56.kp Tryd.f56 R [true, true, true, false, false, true, true, false, false, true, false, true, true, true] (mkFr [(1, (Value.slice A1 n1 c1)), (2, (Value.slice A2 n2 c2)), (3, (Value.pointer (some a3))), (11, (Value.pointer (some a11))), (12, (Value.slice A12 n12 c12)), (65, (Value.slice A65 n65 c65)), (66, (Value.int .i64 x66)), (67, (Value.int .i64 x67))]) h) = (f56.j2T R A1 n1 c1 A2 n2 c2 a3 a11 A12 n12 c12 A65 n65 c65 x66 x67 h) by kernel_rfl) H)
set_option maxRecDepth 100000 in
def f56.l1T (R : Value → Heap → Prop) (A1 : Option Addr) (n1 : Nat) (c1 : Nat) (A2 : Option Addr) (n2 : Nat) (c2 : Nat) (A108 : Option Addr) (n108 : Nat) (c108 : Nat) (x109 : Int) (x110 : Int) (h : Heap) : Prop :=
  splitB (decide (x110 < x109)) (ptrOk A108 fun a1_ => 0 ≤ x110 ∧ x110 < ((n108 : Nat) : Int) ∧ (∃ v2_, ldv true 12 h (Addr.add a1_ (Int.toNat x110 * 12)) = some v2_ ∧ newH h (Obj.cells #[(Value.int .i64 (0 : Int)), (Value.int .i64 (0 : Int)), (Value.string (ByteArray.mk #[])), (Value.slice none 0 0), (Value.int .i64 (0 : Int)), (Value.int .i64 (0 : Int)), (Value.string (ByteArray.mk #[])), (Value.slice none 0 0), (Value.slice none 0 0), (Value.slice none 0 0), (Value.slice none 0 0), (Value.int .i64 (0 : Int))] 50) fun h3_ => ∃ l5_ : List Value, v2_ = Value.agg l5_.toArray ∧ l5_.length = 12 ∧ ∃ h4_, stH h3_ (⟨Array.size h, 0, none⟩) l5_ 0 = some h4_ ∧ ∃ v6_, ldv true 4 h4_ (⟨Array.size h, 0, none⟩) = some v6_ ∧ (∃ v7_, ldv true 8 h4_ (Addr.add (⟨Array.size h, 0, none⟩) 4) = some v7_ ∧ Ext h4_ h4_ ∧ (Run Tryd.prog 59 #[(Value.slice A1 n1 c1)] h4_ fun v8_ h9_ => ∃ A10_, ∃ n10_, ∃ c10_, v8_ = (Value.slice A10_ n10_ c10_) ∧ Ext h4_ h9_ ∧ (Run Tryd.prog 23 #[v6_] h9_ fun v11_ h12_ => ∃ A13_, ∃ n13_, ∃ c13_, v11_ = (Value.slice A13_ n13_ c13_) ∧ AppW 9 1 16 #[(Value.string (ByteArray.mk #[]))] A10_ n10_ c10_ (Value.slice A13_ n13_ c13_) h12_ fun v14_ h15_ => ∃ A16_, ∃ n16_, ∃ c16_, v14_ = (Value.slice A16_ n16_ c16_) ∧ Run Tryd.prog 56 #[v7_, (Value.slice A16_ n16_ c16_), (Value.slice A2 n2 c2)] h15_ fun v17_ h18_ => ∃ A19_, ∃ n19_, ∃ c19_, v17_ = (Value.slice A19_ n19_ c19_) ∧ f56.l1 R A1 n1 c1 A19_ n19_ c19_ A108 n108 c108 x109 (IntKind.wrap .i64 (x110 + (1 : Int))) h18_))) ∧ (Run Tryd.prog 59 #[(Value.slice A1 n1 c1)] h4_ fun v20_ h21_ => ∃ A22_, ∃ n22_, ∃ c22_, v20_ = (Value.slice A22_ n22_ c22_) ∧ Ext h4_ h21_ ∧ ((∃ v23_, ldv true 8 h21_ (Addr.add (⟨Array.size h, 0, none⟩) 4) = some v23_ ∧ Ext h21_ h21_ ∧ (Run Tryd.prog 23 #[v6_] h21_ fun v24_ h25_ => ∃ A26_, ∃ n26_, ∃ c26_, v24_ = (Value.slice A26_ n26_ c26_) ∧ AppW 9 1 16 #[(Value.string (ByteArray.mk #[]))] A22_ n22_ c22_ (Value.slice A26_ n26_ c26_) h25_ fun v27_ h28_ => ∃ A29_, ∃ n29_, ∃ c29_, v27_ = (Value.slice A29_ n29_ c29_) ∧ Run Tryd.prog 56 #[v23_, (Value.slice A29_ n29_ c29_), (Value.slice A2 n2 c2)] h28_ fun v30_ h31_ => ∃ A32_, ∃ n32_, ∃ c32_, v30_ = (Value.slice A32_ n32_ c32_) ∧ f56.l1 R A1 n1 c1 A32_ n32_ c32_ A108 n108 c108 x109 (IntKind.wrap .i64 (x110 + (1 : Int))) h31_)) ∧ (Run Tryd.prog 23 #[v6_] h21_ fun v33_ h34_ => ∃ A35_, ∃ n35_, ∃ c35_, v33_ = (Value.slice A35_ n35_ c35_) ∧ (∃ v36_, ldv true 8 h34_ (Addr.add (⟨Array.size h, 0, none⟩) 4) = some v36_ ∧ Ext h34_ h34_ ∧ (AppW 9 1 16 #[(Value.string (ByteArray.mk #[]))] A22_ n22_ c22_ (Value.slice A35_ n35_ c35_) h34_ fun v37_ h38_ => ∃ A39_, ∃ n39_, ∃ c39_, v37_ = (Value.slice A39_ n39_ c39_) ∧ Run Tryd.prog 56 #[v36_, (Value.slice A39_ n39_ c39_), (Value.slice A2 n2 c2)] h38_ fun v40_ h41_ => ∃ A42_, ∃ n42_, ∃ c42_, v40_ = (Value.slice A42_ n42_ c42_) ∧ f56.l1 R A1 n1 c1 A42_ n42_ c42_ A108 n108 c108 x109 (IntKind.wrap .i64 (x110 + (1 : Int))) h41_)) ∧ (AppW 9 1 16 #[(Value.string (ByteArray.mk #[]))] A22_ n22_ c22_ (Value.slice A35_ n35_ c35_) h34_ fun v43_ h44_ => ∃ A45_, ∃ n45_, ∃ c45_, v43_ = (Value.slice A45_ n45_ c45_) ∧ ∃ v46_, ldv true 8 h44_ (Addr.add (⟨Array.size h, 0, none⟩) 4) = some v46_ ∧ Ext h44_ h44_ ∧ (Run Tryd.prog 56 #[v46_, (Value.slice A45_ n45_ c45_), (Value.slice A2 n2 c2)] h44_ fun v47_ h48_ => ∃ A49_, ∃ n49_, ∃ c49_, v47_ = (Value.slice A49_ n49_ c49_) ∧ f56.l1 R A1 n1 c1 A49_ n49_ c49_ A108 n108 c108 x109 (IntKind.wrap .i64 (x110 + (1 : Int))) h48_))))))) (R (Value.slice A2 n2 c2) h)
set_option maxRecDepth 100000 in
theorem f56.l1_in {R : Value → Heap → Prop} {A1 : Option Addr} {n1 : Nat} {c1 : Nat} {A2 : Option Addr} {n2 : Nat} {c2 : Nat} {A108 : Option Addr} {n108 : Nat} {c108 : Nat} {x109 : Int} {x110 : Int} {h : Heap} (H : f56.l1T R A1 n1 c1 A2 n2 c2 A108 n108 c108 x109 x110 h) : f56.l1 R A1 n1 c1 A2 n2 c2 A108 n108 c108 x109 x110 h :=
  pt_intro mixed f56.good (Eq.mpr (show (Fwd Tryd.prog f56.T f56.kp Tryd.f56 R [false, false, true, false, true, false, true, true, true, true] (mkFr [(1, (Value.slice A1 n1 c1)), (2, (Value.slice A2 n2 c2)), (108, (Value.slice A108 n108 c108)), (109, (Value.int .i64 x109)), (110, (Value.int .i64 x110))]) h) = (f56.l1T R A1 n1 c1 A2 n2 c2 A108 n108 c108 x109 x110 h) by kernel_rfl) H)
set_option maxRecDepth 100000 in
def f56.j4T (R : Value → Heap → Prop) (A1 : Option Addr) (n1 : Nat) (c1 : Nat) (A2 : Option Addr) (n2 : Nat) (c2 : Nat) (a3 : Addr) (a11 : Addr) (A12 : Option Addr) (n12 : Nat) (c12 : Nat) (A65 : Option Addr) (n65 : Nat) (c65 : Nat) (x66 : Int) (x67 : Int) (h : Heap) : Prop :=
  ∃ v1_, ldv true 8 h a11 = some v1_ ∧ Run Tryd.prog 56 #[v1_, (Value.slice A12 n12 c12), (Value.slice A2 n2 c2)] h fun v2_ h3_ => ∃ A4_, ∃ n4_, ∃ c4_, v2_ = (Value.slice A4_ n4_ c4_) ∧ f56.l0 R A1 n1 c1 A4_ n4_ c4_ a3 A65 n65 c65 x66 (IntKind.wrap .i64 (x67 + (1 : Int))) h3_
set_option maxRecDepth 100000 in
theorem f56.j4_in {R : Value → Heap → Prop} {A1 : Option Addr} {n1 : Nat} {c1 : Nat} {A2 : Option Addr} {n2 : Nat} {c2 : Nat} {a3 : Addr} {a11 : Addr} {A12 : Option Addr} {n12 : Nat} {c12 : Nat} {A65 : Option Addr} {n65 : Nat} {c65 : Nat} {x66 : Int} {x67 : Int} {h : Heap} (H : f56.j4T R A1 n1 c1 A2 n2 c2 a3 a11 A12 n12 c12 A65 n65 c65 x66 x67 h) : f56.j4 R A1 n1 c1 A2 n2 c2 a3 a11 A12 n12 c12 A65 n65 c65 x66 x67 h :=
  pt_intro mixed f56.good (Eq.mpr (show (Fwd Tryd.prog f56.T f56.kp Tryd.f56 R [true, true, true, true, false, false, true, true, false, false, true, false, true, true, true] (mkFr [(1, (Value.slice A1 n1 c1)), (2, (Value.slice A2 n2 c2)), (3, (Value.pointer (some a3))), (11, (Value.pointer (some a11))), (12, (Value.slice A12 n12 c12)), (65, (Value.slice A65 n65 c65)), (66, (Value.int .i64 x66)), (67, (Value.int .i64 x67))]) h) = (f56.j4T R A1 n1 c1 A2 n2 c2 a3 a11 A12 n12 c12 A65 n65 c65 x66 x67 h) by kernel_rfl) H)
set_option maxRecDepth 100000 in
def f56.runT (R : Value → Heap → Prop) (v0 : Value) (A1 : Option Addr) (n1 : Nat) (c1 : Nat) (A2 : Option Addr) (n2 : Nat) (c2 : Nat) (h : Heap) : Prop :=
  newH h (Obj.cells ((v0).cells) 40) fun h1_ => ∃ v2_, ldv true 8 h1_ (⟨Array.size h, 0, none⟩) = some v2_ ∧ Run Tryd.prog 18 #[v2_] h1_ fun v3_ h4_ => ∃ x5_, v3_ = (Value.int .i64 x5_) ∧ splitB (decide (x5_ < (0 : Int))) (R (Value.slice A2 n2 c2) h4_) (∃ v6_, ldv false 1 h4_ (⟨Array.size h, 0, none⟩) = some v6_ ∧ ∃ x7_, v6_ = (Value.int .i64 x7_) ∧ splitB (x7_ == (5 : Int)) (∃ v8_, ldv false 1 h4_ (Addr.add (⟨Array.size h, 0, none⟩) 2) = some v8_ ∧ ∃ s9_, v8_ = (Value.string s9_) ∧ Run Tryd.prog 58 #[(Value.slice A1 n1 c1), (Value.string s9_)] h4_ fun v10_ h11_ => ∃ b12_, v10_ = (Value.bool b12_) ∧ splitB (!b12_) (∃ v13_, ldv false 1 h11_ (Addr.add (⟨Array.size h, 0, none⟩) 2) = some v13_ ∧ ∃ s14_, v13_ = (Value.string s14_) ∧ Run Tryd.prog 58 #[(Value.slice A2 n2 c2), (Value.string s14_)] h11_ fun v15_ h16_ => ∃ b17_, v15_ = (Value.bool b17_) ∧ f56.j1 R A2 n2 c2 (⟨Array.size h, 0, none⟩) (!b17_) h16_) (f56.j1 R A2 n2 c2 (⟨Array.size h, 0, none⟩) false h11_)) (∃ v18_, ldv false 1 h4_ (Addr.add (⟨Array.size h, 0, none⟩) 5) = some v18_ ∧ ∃ A19_, ∃ n19_, ∃ c19_, v18_ = (Value.slice A19_ n19_ c19_) ∧ splitB (decide (((n19_ : Nat) : Int) < x5_)) (∃ v20_, ldv false 1 h4_ (Addr.add (⟨Array.size h, 0, none⟩) 5) = some v20_ ∧ ∃ A21_, ∃ n21_, ∃ c21_, v20_ = (Value.slice A21_ n21_ c21_) ∧ f56.l2 R A1 n1 c1 A2 n2 c2 A21_ n21_ c21_ ((n21_ : Nat) : Int) (0 : Int) h4_) (∃ v22_, ldv false 1 h4_ (Addr.add (⟨Array.size h, 0, none⟩) 5) = some v22_ ∧ ∃ A23_, ∃ n23_, ∃ c23_, v22_ = (Value.slice A23_ n23_ c23_) ∧ 0 ≤ (0 : Int) ∧ (0 : Int) ≤ x5_ ∧ x5_ ≤ ((c23_ : Nat) : Int) ∧ (f56.l0 R A1 n1 c1 A2 n2 c2 (⟨Array.size h, 0, none⟩) (sliceA A23_ (Int.toNat (0 : Int)) c23_ 8) (Int.toNat x5_ - Int.toNat (0 : Int)) (c23_ - Int.toNat (0 : Int)) (((Int.toNat x5_ - Int.toNat (0 : Int)) : Nat) : Int) (0 : Int) h4_))))
set_option maxRecDepth 100000 in
theorem f56.run {R : Value → Heap → Prop} {v0 : Value} {A1 : Option Addr} {n1 : Nat} {c1 : Nat} {A2 : Option Addr} {n2 : Nat} {c2 : Nat} {h : Heap} (H : f56.runT R v0 A1 n1 c1 A2 n2 c2 h) : Run Tryd.prog 56 #[v0, (Value.slice A1 n1 c1), (Value.slice A2 n2 c2)] h R :=
  run_of mixed Tryd.func56 (by kernel_rfl) (by kernel_rfl) f56.good (Eq.mpr (show (Fwd Tryd.prog f56.T f56.kp Tryd.f56 R [] (mkFr (argL [v0, (Value.slice A1 n1 c1), (Value.slice A2 n2 c2)] 0)) h) = (f56.runT R v0 A1 n1 c1 A2 n2 c2 h) by kernel_rfl) H)
def f21.T : Tab := { sh := tSh, tup := tTup, keep := [], plan := [] }
def f21.kp : Keep := []
theorem f21.good : goodCode Tryd.prog f21.T (rootOf Tryd.f21) = true := by kernel_rfl
set_option maxRecDepth 100000 in
def f21.runT (R : Value → Heap → Prop) (v0 : Value) (h : Heap) : Prop :=
  newH h (Obj.cells ((v0).cells) 40) fun h1_ => ∃ v2_, ldv true 8 h1_ (⟨Array.size h, 0, none⟩) = some v2_ ∧ Run Tryd.prog 56 #[v2_, (Value.slice none 0 0), (Value.slice none 0 0)] h1_ fun v3_ h4_ => ∃ A5_, ∃ n5_, ∃ c5_, v3_ = (Value.slice A5_ n5_ c5_) ∧ R (Value.slice A5_ n5_ c5_) h4_
set_option maxRecDepth 100000 in
theorem f21.run {R : Value → Heap → Prop} {v0 : Value} {h : Heap} (H : f21.runT R v0 h) : Run Tryd.prog 21 #[v0] h R :=
  run_of mixed Tryd.func21 (by kernel_rfl) (by kernel_rfl) f21.good (Eq.mpr (show (Fwd Tryd.prog f21.T f21.kp Tryd.f21 R [] (mkFr (argL [v0] 0)) h) = (f21.runT R v0 h) by kernel_rfl) H)
def f24.T : Tab := { sh := tSh, tup := tTup, keep := [], plan := [] }
def f24.kp : Keep := [([false, false, true, false, true, false, true, true, true], [3, 16, 17, 18])]
theorem f24.good : goodCode Tryd.prog f24.T (rootOf Tryd.f24) = true := by kernel_rfl
def f24.l0 (R : Value → Heap → Prop) (A3 : Option Addr) (n3 : Nat) (c3 : Nat) (A16 : Option Addr) (n16 : Nat) (c16 : Nat) (x17 : Int) (x18 : Int) (h : Heap) : Prop := Pt Tryd.prog Tryd.f24 R [false, false, true, false, true, false, true, true, true] (mkFr [(3, (Value.slice A3 n3 c3)), (16, (Value.slice A16 n16 c16)), (17, (Value.int .i64 x17)), (18, (Value.int .i64 x18))]) h
set_option maxRecDepth 100000 in
def f24.l0T (R : Value → Heap → Prop) (A3 : Option Addr) (n3 : Nat) (c3 : Nat) (A16 : Option Addr) (n16 : Nat) (c16 : Nat) (x17 : Int) (x18 : Int) (h : Heap) : Prop :=
  splitB (decide (x18 < x17)) (ptrOk A16 fun a1_ => 0 ≤ x18 ∧ x18 < ((n16 : Nat) : Int) ∧ (∃ v2_, ldv true 4 h (Addr.add a1_ (Int.toNat x18 * 4)) = some v2_ ∧ newH h (Obj.cells #[(Value.int .i64 (0 : Int)), (Value.int .i64 (0 : Int)), (Value.string (ByteArray.mk #[])), (Value.slice none 0 0)] 48) fun h3_ => ∃ l5_ : List Value, v2_ = Value.agg l5_.toArray ∧ l5_.length = 4 ∧ ∃ h4_, stH h3_ (⟨Array.size h, 0, none⟩) l5_ 0 = some h4_ ∧ ∃ v6_, ldv true 4 h4_ (⟨Array.size h, 0, none⟩) = some v6_ ∧ Run Tryd.prog 24 #[v6_] h4_ fun v7_ h8_ => ∃ A9_, ∃ n9_, ∃ c9_, v7_ = (Value.slice A9_ n9_ c9_) ∧ AppW 9 1 16 #[(Value.string (ByteArray.mk #[]))] A3 n3 c3 (Value.slice A9_ n9_ c9_) h8_ fun v10_ h11_ => ∃ A12_, ∃ n12_, ∃ c12_, v10_ = (Value.slice A12_ n12_ c12_) ∧ f24.l0 R A12_ n12_ c12_ A16 n16 c16 x17 (IntKind.wrap .i64 (x18 + (1 : Int))) h11_)) (R (Value.slice A3 n3 c3) h)
set_option maxRecDepth 100000 in
theorem f24.l0_in {R : Value → Heap → Prop} {A3 : Option Addr} {n3 : Nat} {c3 : Nat} {A16 : Option Addr} {n16 : Nat} {c16 : Nat} {x17 : Int} {x18 : Int} {h : Heap} (H : f24.l0T R A3 n3 c3 A16 n16 c16 x17 x18 h) : f24.l0 R A3 n3 c3 A16 n16 c16 x17 x18 h :=
  pt_intro mixed f24.good (Eq.mpr (show (Fwd Tryd.prog f24.T f24.kp Tryd.f24 R [false, false, true, false, true, false, true, true, true] (mkFr [(3, (Value.slice A3 n3 c3)), (16, (Value.slice A16 n16 c16)), (17, (Value.int .i64 x17)), (18, (Value.int .i64 x18))]) h) = (f24.l0T R A3 n3 c3 A16 n16 c16 x17 x18 h) by kernel_rfl) H)
set_option maxRecDepth 100000 in
def f24.runT (R : Value → Heap → Prop) (v0 : Value) (h : Heap) : Prop :=
  newH h (Obj.cells ((v0).cells) 48) fun h1_ => ∃ v2_, ldv false 1 h1_ (⟨Array.size h, 0, none⟩) = some v2_ ∧ ∃ x3_, v2_ = (Value.int .i64 x3_) ∧ splitB (x3_ == (2 : Int)) (∃ v4_, ldv false 1 h1_ (Addr.add (⟨Array.size h, 0, none⟩) 2) = some v4_ ∧ ∃ s5_, v4_ = (Value.string s5_) ∧ newH h1_ (Obj.cells #[(Value.string s5_)] 9) fun h6_ => R (Value.slice (some ⟨Array.size h1_, 0, none⟩) 1 1) h6_) (∃ v7_, ldv false 1 h1_ (⟨Array.size h, 0, none⟩) = some v7_ ∧ ∃ x8_, v7_ = (Value.int .i64 x8_) ∧ splitB (x8_ == (6 : Int)) (∃ v9_, ldv false 1 h1_ (Addr.add (⟨Array.size h, 0, none⟩) 3) = some v9_ ∧ ∃ A10_, ∃ n10_, ∃ c10_, v9_ = (Value.slice A10_ n10_ c10_) ∧ f24.l0 R none 0 0 A10_ n10_ c10_ ((n10_ : Nat) : Int) (0 : Int) h1_) (R (Value.slice none 0 0) h1_))
set_option maxRecDepth 100000 in
theorem f24.run {R : Value → Heap → Prop} {v0 : Value} {h : Heap} (H : f24.runT R v0 h) : Run Tryd.prog 24 #[v0] h R :=
  run_of mixed Tryd.func24 (by kernel_rfl) (by kernel_rfl) f24.good (Eq.mpr (show (Fwd Tryd.prog f24.T f24.kp Tryd.f24 R [] (mkFr (argL [v0] 0)) h) = (f24.runT R v0 h) by kernel_rfl) H)
def f57.T : Tab := { sh := tSh, tup := tTup, keep := [], plan := [(24, (.take 0 (.take 1 (.take 3 (.take 2 (.take 4 (.eff true 5 (.eff false 6 (.eff false 7 (.eff false 8 (.take 9 .done)))))))))))] }
def f57.kp : Keep := [([false, false, true, false, false, true, false, true, true, true], [4, 19, 20, 21]), ([false, false, true, false, true, true, true, true], [1, 4, 33, 34]), ([true, false, true, true, false, false, true, true, false, false, true, false, true, true, true, true], [1, 4, 7, 8, 33, 34, 43]), ([true, true, true, false, false, true, true, false, false, true, false, true, true, true, true], [1, 4, 7, 8, 33, 34]), ([true, true, true, true, false, false, true, true, false, false, true, false, true, true, true, true], [1, 4, 7, 8, 33, 34]), ([true, false, true, true, true, true, true], [1, 4, 70]), ([false, false, true, false, true, false, true, true, true, true, true], [4, 72, 73, 74])]
theorem f57.good : goodCode Tryd.prog f57.T (rootOf Tryd.f57) = true := by kernel_rfl
def f57.l1 (R : Value → Heap → Prop) (A4 : Option Addr) (n4 : Nat) (c4 : Nat) (A19 : Option Addr) (n19 : Nat) (c19 : Nat) (x20 : Int) (x21 : Int) (h : Heap) : Prop := Pt Tryd.prog Tryd.f57 R [false, false, true, false, false, true, false, true, true, true] (mkFr [(4, (Value.slice A4 n4 c4)), (19, (Value.slice A19 n19 c19)), (20, (Value.int .i64 x20)), (21, (Value.int .i64 x21))]) h
def f57.l0 (R : Value → Heap → Prop) (a1 : Addr) (A4 : Option Addr) (n4 : Nat) (c4 : Nat) (x33 : Int) (x34 : Int) (h : Heap) : Prop := Pt Tryd.prog Tryd.f57 R [false, false, true, false, true, true, true, true] (mkFr [(1, (Value.pointer (some a1))), (4, (Value.slice A4 n4 c4)), (33, (Value.int .i64 x33)), (34, (Value.int .i64 x34))]) h
def f57.j2 (R : Value → Heap → Prop) (a1 : Addr) (A4 : Option Addr) (n4 : Nat) (c4 : Nat) (x7 : Int) (A8 : Option Addr) (n8 : Nat) (c8 : Nat) (x33 : Int) (x34 : Int) (b43 : Bool) (h : Heap) : Prop := Pt Tryd.prog Tryd.f57 R [true, false, true, true, false, false, true, true, false, false, true, false, true, true, true, true] (mkFr [(1, (Value.pointer (some a1))), (4, (Value.slice A4 n4 c4)), (7, (Value.int .i64 x7)), (8, (Value.slice A8 n8 c8)), (33, (Value.int .i64 x33)), (34, (Value.int .i64 x34)), (43, (Value.bool b43))]) h
def f57.j0 (R : Value → Heap → Prop) (a1 : Addr) (A4 : Option Addr) (n4 : Nat) (c4 : Nat) (b70 : Bool) (h : Heap) : Prop := Pt Tryd.prog Tryd.f57 R [true, false, true, true, true, true, true] (mkFr [(1, (Value.pointer (some a1))), (4, (Value.slice A4 n4 c4)), (70, (Value.bool b70))]) h
def f57.j1 (R : Value → Heap → Prop) (a1 : Addr) (A4 : Option Addr) (n4 : Nat) (c4 : Nat) (x7 : Int) (A8 : Option Addr) (n8 : Nat) (c8 : Nat) (x33 : Int) (x34 : Int) (h : Heap) : Prop := Pt Tryd.prog Tryd.f57 R [true, true, true, false, false, true, true, false, false, true, false, true, true, true, true] (mkFr [(1, (Value.pointer (some a1))), (4, (Value.slice A4 n4 c4)), (7, (Value.int .i64 x7)), (8, (Value.slice A8 n8 c8)), (33, (Value.int .i64 x33)), (34, (Value.int .i64 x34))]) h
def f57.l2 (R : Value → Heap → Prop) (A4 : Option Addr) (n4 : Nat) (c4 : Nat) (A72 : Option Addr) (n72 : Nat) (c72 : Nat) (x73 : Int) (x74 : Int) (h : Heap) : Prop := Pt Tryd.prog Tryd.f57 R [false, false, true, false, true, false, true, true, true, true, true] (mkFr [(4, (Value.slice A4 n4 c4)), (72, (Value.slice A72 n72 c72)), (73, (Value.int .i64 x73)), (74, (Value.int .i64 x74))]) h
def f57.j3 (R : Value → Heap → Prop) (a1 : Addr) (A4 : Option Addr) (n4 : Nat) (c4 : Nat) (x7 : Int) (A8 : Option Addr) (n8 : Nat) (c8 : Nat) (x33 : Int) (x34 : Int) (h : Heap) : Prop := Pt Tryd.prog Tryd.f57 R [true, true, true, true, false, false, true, true, false, false, true, false, true, true, true, true] (mkFr [(1, (Value.pointer (some a1))), (4, (Value.slice A4 n4 c4)), (7, (Value.int .i64 x7)), (8, (Value.slice A8 n8 c8)), (33, (Value.int .i64 x33)), (34, (Value.int .i64 x34))]) h
set_option maxRecDepth 100000 in
def f57.l1T (R : Value → Heap → Prop) (A4 : Option Addr) (n4 : Nat) (c4 : Nat) (A19 : Option Addr) (n19 : Nat) (c19 : Nat) (x20 : Int) (x21 : Int) (h : Heap) : Prop :=
  splitB (decide (x21 < x20)) (ptrOk A19 fun a1_ => 0 ≤ x21 ∧ x21 < ((n19 : Nat) : Int) ∧ (∃ v2_, ldv true 8 h (Addr.add a1_ (Int.toNat x21 * 8)) = some v2_ ∧ newH h (Obj.cells #[(Value.int .i64 (0 : Int)), (Value.int .i64 (0 : Int)), (Value.string (ByteArray.mk #[])), (Value.slice none 0 0), (Value.slice none 0 0), (Value.slice none 0 0), (Value.slice none 0 0), (Value.int .i64 (0 : Int))] 40) fun h3_ => ∃ l5_ : List Value, v2_ = Value.agg l5_.toArray ∧ l5_.length = 8 ∧ ∃ h4_, stH h3_ (⟨Array.size h, 0, none⟩) l5_ 0 = some h4_ ∧ ∃ v6_, ldv true 8 h4_ (⟨Array.size h, 0, none⟩) = some v6_ ∧ ∃ l7_ : List Value, v6_ = Value.agg l7_.toArray ∧ l7_.length = 8 ∧ (∃ l8_ : List Value, (Value.agg (List.set (List.take 0 ([(Value.int .i64 (0 : Int)), (Value.int .i64 (0 : Int)), (Value.string (ByteArray.mk #[])), (Value.slice none 0 0), (Value.slice none 0 0), (Value.slice none 0 0), (Value.slice none 0 0), (Value.int .i64 (0 : Int)), (Value.slice none 0 0)]) ++ l7_ ++ List.drop 8 ([(Value.int .i64 (0 : Int)), (Value.int .i64 (0 : Int)), (Value.string (ByteArray.mk #[])), (Value.slice none 0 0), (Value.slice none 0 0), (Value.slice none 0 0), (Value.slice none 0 0), (Value.int .i64 (0 : Int)), (Value.slice none 0 0)])) 8 (Value.slice none 0 0)).toArray) = Value.agg l8_.toArray ∧ l8_.length = 9 ∧ (newH h4_ (Obj.cells ((List.take 0 ([(Value.int .i64 (0 : Int)), (Value.int .i64 (0 : Int)), (Value.string (ByteArray.mk #[])), (Value.slice none 0 0), (Value.slice none 0 0), (Value.slice none 0 0), (Value.slice none 0 0), (Value.int .i64 (0 : Int)), (Value.slice none 0 0)]) ++ l8_ ++ List.drop 9 ([(Value.int .i64 (0 : Int)), (Value.int .i64 (0 : Int)), (Value.string (ByteArray.mk #[])), (Value.slice none 0 0), (Value.slice none 0 0), (Value.slice none 0 0), (Value.slice none 0 0), (Value.int .i64 (0 : Int)), (Value.slice none 0 0)])).toArray) 102) fun h9_ => AppW 102 9 160 #[(Value.int .i64 (0 : Int)), (Value.int .i64 (0 : Int)), (Value.string (ByteArray.mk #[])), (Value.slice none 0 0), (Value.slice none 0 0), (Value.slice none 0 0), (Value.slice none 0 0), (Value.int .i64 (0 : Int)), (Value.slice none 0 0)] A4 n4 c4 (Value.slice (some ⟨Array.size h4_, 0, none⟩) 1 1) h9_ fun v10_ h11_ => ∃ A12_, ∃ n12_, ∃ c12_, v10_ = (Value.slice A12_ n12_ c12_) ∧ f57.l1 R A12_ n12_ c12_ A19 n19 c19 x20 (IntKind.wrap .i64 (x21 + (1 : Int))) h11_)))) (R (Value.slice A4 n4 c4) h)
set_option maxRecDepth 100000 in
theorem f57.l1_in {R : Value → Heap → Prop} {A4 : Option Addr} {n4 : Nat} {c4 : Nat} {A19 : Option Addr} {n19 : Nat} {c19 : Nat} {x20 : Int} {x21 : Int} {h : Heap} (H : f57.l1T R A4 n4 c4 A19 n19 c19 x20 x21 h) : f57.l1 R A4 n4 c4 A19 n19 c19 x20 x21 h :=
  pt_intro mixed f57.good (Eq.mpr (show (Fwd Tryd.prog f57.T f57.kp Tryd.f57 R [false, false, true, false, false, true, false, true, true, true] (mkFr [(4, (Value.slice A4 n4 c4)), (19, (Value.slice A19 n19 c19)), (20, (Value.int .i64 x20)), (21, (Value.int .i64 x21))]) h) = (f57.l1T R A4 n4 c4 A19 n19 c19 x20 x21 h) by kernel_rfl) H)
set_option maxRecDepth 100000 in
def f57.l0T (R : Value → Heap → Prop) (a1 : Addr) (A4 : Option Addr) (n4 : Nat) (c4 : Nat) (x33 : Int) (x34 : Int) (h : Heap) : Prop :=
  splitB (decide (x34 < x33)) (∃ v1_, ldv false 1 h a1 = some v1_ ∧ ∃ x2_, v1_ = (Value.int .i64 x2_) ∧ splitB (x2_ == (6 : Int)) (f57.j2 R a1 A4 n4 c4 x34 none 0 0 x33 x34 (x34 == (1 : Int)) h) (f57.j2 R a1 A4 n4 c4 x34 none 0 0 x33 x34 false h)) (∃ v3_, ldv false 1 h a1 = some v3_ ∧ ∃ x4_, v3_ = (Value.int .i64 x4_) ∧ splitB (x4_ == (13 : Int)) (f57.j0 R a1 A4 n4 c4 true h) (∃ v5_, ldv false 1 h a1 = some v5_ ∧ ∃ x6_, v5_ = (Value.int .i64 x6_) ∧ f57.j0 R a1 A4 n4 c4 (x6_ == (18 : Int)) h))
set_option maxRecDepth 100000 in
theorem f57.l0_in {R : Value → Heap → Prop} {a1 : Addr} {A4 : Option Addr} {n4 : Nat} {c4 : Nat} {x33 : Int} {x34 : Int} {h : Heap} (H : f57.l0T R a1 A4 n4 c4 x33 x34 h) : f57.l0 R a1 A4 n4 c4 x33 x34 h :=
  pt_intro mixed f57.good (Eq.mpr (show (Fwd Tryd.prog f57.T f57.kp Tryd.f57 R [false, false, true, false, true, true, true, true] (mkFr [(1, (Value.pointer (some a1))), (4, (Value.slice A4 n4 c4)), (33, (Value.int .i64 x33)), (34, (Value.int .i64 x34))]) h) = (f57.l0T R a1 A4 n4 c4 x33 x34 h) by kernel_rfl) H)
set_option maxRecDepth 100000 in
def f57.j2T (R : Value → Heap → Prop) (a1 : Addr) (A4 : Option Addr) (n4 : Nat) (c4 : Nat) (x7 : Int) (A8 : Option Addr) (n8 : Nat) (c8 : Nat) (x33 : Int) (x34 : Int) (b43 : Bool) (h : Heap) : Prop :=
  splitB b43 (∃ v1_, ldv false 1 h (Addr.add a1 2) = some v1_ ∧ ∃ s2_, v1_ = (Value.string s2_) ∧ newH h (Obj.cells #[(Value.string s2_)] 9) fun h3_ => f57.j1 R a1 A4 n4 c4 x7 (some ⟨Array.size h, 0, none⟩) 1 1 x33 x34 h3_) (f57.j1 R a1 A4 n4 c4 x7 A8 n8 c8 x33 x34 h)
set_option maxRecDepth 100000 in
theorem f57.j2_in {R : Value → Heap → Prop} {a1 : Addr} {A4 : Option Addr} {n4 : Nat} {c4 : Nat} {x7 : Int} {A8 : Option Addr} {n8 : Nat} {c8 : Nat} {x33 : Int} {x34 : Int} {b43 : Bool} {h : Heap} (H : f57.j2T R a1 A4 n4 c4 x7 A8 n8 c8 x33 x34 b43 h) : f57.j2 R a1 A4 n4 c4 x7 A8 n8 c8 x33 x34 b43 h :=
  pt_intro mixed f57.good (Eq.mpr (show (Fwd Tryd.prog f57.T f57.kp Tryd.f57 R [true, false, true, true, false, false, true, true, false, false, true, false, true, true, true, true] (mkFr [(1, (Value.pointer (some a1))), (4, (Value.slice A4 n4 c4)), (7, (Value.int .i64 x7)), (8, (Value.slice A8 n8 c8)), (33, (Value.int .i64 x33)), (34, (Value.int .i64 x34)), (43, (Value.bool b43))]) h) = (f57.j2T R a1 A4 n4 c4 x7 A8 n8 c8 x33 x34 b43 h) by kernel_rfl) H)
set_option maxRecDepth 100000 in
def f57.j0T (R : Value → Heap → Prop) (a1 : Addr) (A4 : Option Addr) (n4 : Nat) (c4 : Nat) (b70 : Bool) (h : Heap) : Prop :=
  splitB b70 (∃ v1_, ldv false 1 h (Addr.add a1 6) = some v1_ ∧ ∃ A2_, ∃ n2_, ∃ c2_, v1_ = (Value.slice A2_ n2_ c2_) ∧ f57.l2 R A4 n4 c4 A2_ n2_ c2_ ((n2_ : Nat) : Int) (0 : Int) h) (R (Value.slice A4 n4 c4) h)
set_option maxRecDepth 100000 in
theorem f57.j0_in {R : Value → Heap → Prop} {a1 : Addr} {A4 : Option Addr} {n4 : Nat} {c4 : Nat} {b70 : Bool} {h : Heap} (H : f57.j0T R a1 A4 n4 c4 b70 h) : f57.j0 R a1 A4 n4 c4 b70 h :=
  pt_intro mixed f57.good (Eq.mpr (show (Fwd Tryd.prog f57.T f57.kp Tryd.f57 R [true, false, true, true, true, true, true] (mkFr [(1, (Value.pointer (some a1))), (4, (Value.slice A4 n4 c4)), (70, (Value.bool b70))]) h) = (f57.j0T R a1 A4 n4 c4 b70 h) by kernel_rfl) H)
set_option maxRecDepth 100000 in
def f57.j1T (R : Value → Heap → Prop) (a1 : Addr) (A4 : Option Addr) (n4 : Nat) (c4 : Nat) (x7 : Int) (A8 : Option Addr) (n8 : Nat) (c8 : Nat) (x33 : Int) (x34 : Int) (h : Heap) : Prop :=
  ∃ v1_, ldv false 1 h a1 = some v1_ ∧ ∃ x2_, v1_ = (Value.int .i64 x2_) ∧ splitB (x2_ == (10 : Int)) (∃ v3_, ldv false 1 h (Addr.add a1 3) = some v3_ ∧ ∃ A4_, ∃ n4_, ∃ c4_, v3_ = (Value.slice A4_ n4_ c4_) ∧ f57.j3 R a1 A4 n4 c4 x7 A4_ n4_ c4_ x33 x34 h) (f57.j3 R a1 A4 n4 c4 x7 A8 n8 c8 x33 x34 h)
set_option maxRecDepth 100000 in
theorem f57.j1_in {R : Value → Heap → Prop} {a1 : Addr} {A4 : Option Addr} {n4 : Nat} {c4 : Nat} {x7 : Int} {A8 : Option Addr} {n8 : Nat} {c8 : Nat} {x33 : Int} {x34 : Int} {h : Heap} (H : f57.j1T R a1 A4 n4 c4 x7 A8 n8 c8 x33 x34 h) : f57.j1 R a1 A4 n4 c4 x7 A8 n8 c8 x33 x34 h :=
  pt_intro mixed f57.good (Eq.mpr (show (Fwd Tryd.prog f57.T f57.kp Tryd.f57 R [true, true, true, false, false, true, true, false, false, true, false, true, true, true, true] (mkFr [(1, (Value.pointer (some a1))), (4, (Value.slice A4 n4 c4)), (7, (Value.int .i64 x7)), (8, (Value.slice A8 n8 c8)), (33, (Value.int .i64 x33)), (34, (Value.int .i64 x34))]) h) = (f57.j1T R a1 A4 n4 c4 x7 A8 n8 c8 x33 x34 h) by kernel_rfl) H)
set_option maxRecDepth 100000 in
def f57.l2T (R : Value → Heap → Prop) (A4 : Option Addr) (n4 : Nat) (c4 : Nat) (A72 : Option Addr) (n72 : Nat) (c72 : Nat) (x73 : Int) (x74 : Int) (h : Heap) : Prop :=
  splitB (decide (x74 < x73)) (ptrOk A72 fun a1_ => 0 ≤ x74 ∧ x74 < ((n72 : Nat) : Int) ∧ (∃ v2_, ldv true 12 h (Addr.add a1_ (Int.toNat x74 * 12)) = some v2_ ∧ newH h (Obj.cells #[(Value.int .i64 (0 : Int)), (Value.int .i64 (0 : Int)), (Value.string (ByteArray.mk #[])), (Value.slice none 0 0), (Value.int .i64 (0 : Int)), (Value.int .i64 (0 : Int)), (Value.string (ByteArray.mk #[])), (Value.slice none 0 0), (Value.slice none 0 0), (Value.slice none 0 0), (Value.slice none 0 0), (Value.int .i64 (0 : Int))] 50) fun h3_ => ∃ l5_ : List Value, v2_ = Value.agg l5_.toArray ∧ l5_.length = 12 ∧ ∃ h4_, stH h3_ (⟨Array.size h, 0, none⟩) l5_ 0 = some h4_ ∧ ∃ v6_, ldv true 8 h4_ (Addr.add (⟨Array.size h, 0, none⟩) 4) = some v6_ ∧ ∃ v7_, ldv true 4 h4_ (⟨Array.size h, 0, none⟩) = some v7_ ∧ Run Tryd.prog 24 #[v7_] h4_ fun v8_ h9_ => ∃ A10_, ∃ n10_, ∃ c10_, v8_ = (Value.slice A10_ n10_ c10_) ∧ Ext h4_ h9_ ∧ (∃ l11_ : List Value, v6_ = Value.agg l11_.toArray ∧ l11_.length = 8 ∧ (∃ l12_ : List Value, (Value.agg (List.set (List.take 0 ([(Value.int .i64 (0 : Int)), (Value.int .i64 (0 : Int)), (Value.string (ByteArray.mk #[])), (Value.slice none 0 0), (Value.slice none 0 0), (Value.slice none 0 0), (Value.slice none 0 0), (Value.int .i64 (0 : Int)), (Value.slice none 0 0)]) ++ l11_ ++ List.drop 8 ([(Value.int .i64 (0 : Int)), (Value.int .i64 (0 : Int)), (Value.string (ByteArray.mk #[])), (Value.slice none 0 0), (Value.slice none 0 0), (Value.slice none 0 0), (Value.slice none 0 0), (Value.int .i64 (0 : Int)), (Value.slice none 0 0)])) 8 (Value.slice A10_ n10_ c10_)).toArray) = Value.agg l12_.toArray ∧ l12_.length = 9 ∧ (newH h9_ (Obj.cells ((List.take 0 ([(Value.int .i64 (0 : Int)), (Value.int .i64 (0 : Int)), (Value.string (ByteArray.mk #[])), (Value.slice none 0 0), (Value.slice none 0 0), (Value.slice none 0 0), (Value.slice none 0 0), (Value.int .i64 (0 : Int)), (Value.slice none 0 0)]) ++ l12_ ++ List.drop 9 ([(Value.int .i64 (0 : Int)), (Value.int .i64 (0 : Int)), (Value.string (ByteArray.mk #[])), (Value.slice none 0 0), (Value.slice none 0 0), (Value.slice none 0 0), (Value.slice none 0 0), (Value.int .i64 (0 : Int)), (Value.slice none 0 0)])).toArray) 102) fun h13_ => AppW 102 9 160 #[(Value.int .i64 (0 : Int)), (Value.int .i64 (0 : Int)), (Value.string (ByteArray.mk #[])), (Value.slice none 0 0), (Value.slice none 0 0), (Value.slice none 0 0), (Value.slice none 0 0), (Value.int .i64 (0 : Int)), (Value.slice none 0 0)] A4 n4 c4 (Value.slice (some ⟨Array.size h9_, 0, none⟩) 1 1) h13_ fun v14_ h15_ => ∃ A16_, ∃ n16_, ∃ c16_, v14_ = (Value.slice A16_ n16_ c16_) ∧ f57.l2 R A16_ n16_ c16_ A72 n72 c72 x73 (IntKind.wrap .i64 (x74 + (1 : Int))) h15_))))) (R (Value.slice A4 n4 c4) h)
set_option maxRecDepth 100000 in
theorem f57.l2_in {R : Value → Heap → Prop} {A4 : Option Addr} {n4 : Nat} {c4 : Nat} {A72 : Option Addr} {n72 : Nat} {c72 : Nat} {x73 : Int} {x74 : Int} {h : Heap} (H : f57.l2T R A4 n4 c4 A72 n72 c72 x73 x74 h) : f57.l2 R A4 n4 c4 A72 n72 c72 x73 x74 h :=
  pt_intro mixed f57.good (Eq.mpr (show (Fwd Tryd.prog f57.T f57.kp Tryd.f57 R [false, false, true, false, true, false, true, true, true, true, true] (mkFr [(4, (Value.slice A4 n4 c4)), (72, (Value.slice A72 n72 c72)), (73, (Value.int .i64 x73)), (74, (Value.int .i64 x74))]) h) = (f57.l2T R A4 n4 c4 A72 n72 c72 x73 x74 h) by kernel_rfl) H)
set_option maxRecDepth 100000 in
def f57.j3T (R : Value → Heap → Prop) (a1 : Addr) (A4 : Option Addr) (n4 : Nat) (c4 : Nat) (x7 : Int) (A8 : Option Addr) (n8 : Nat) (c8 : Nat) (x33 : Int) (x34 : Int) (h : Heap) : Prop :=
  ∃ v1_, ldv false 1 h (Addr.add a1 5) = some v1_ ∧ ∃ A2_, ∃ n2_, ∃ c2_, v1_ = (Value.slice A2_ n2_ c2_) ∧ ptrOk A2_ fun a3_ => 0 ≤ x7 ∧ x7 < ((n2_ : Nat) : Int) ∧ (∃ v4_, ldv true 8 h (Addr.add a3_ (Int.toNat x7 * 8)) = some v4_ ∧ ∃ l5_ : List Value, v4_ = Value.agg l5_.toArray ∧ l5_.length = 8 ∧ (∃ l6_ : List Value, (Value.agg (List.set (List.take 0 ([(Value.int .i64 (0 : Int)), (Value.int .i64 (0 : Int)), (Value.string (ByteArray.mk #[])), (Value.slice none 0 0), (Value.slice none 0 0), (Value.slice none 0 0), (Value.slice none 0 0), (Value.int .i64 (0 : Int)), (Value.slice none 0 0)]) ++ l5_ ++ List.drop 8 ([(Value.int .i64 (0 : Int)), (Value.int .i64 (0 : Int)), (Value.string (ByteArray.mk #[])), (Value.slice none 0 0), (Value.slice none 0 0), (Value.slice none 0 0), (Value.slice none 0 0), (Value.int .i64 (0 : Int)), (Value.slice none 0 0)])) 8 (Value.slice A8 n8 c8)).toArray) = Value.agg l6_.toArray ∧ l6_.length = 9 ∧ (newH h (Obj.cells ((List.take 0 ([(Value.int .i64 (0 : Int)), (Value.int .i64 (0 : Int)), (Value.string (ByteArray.mk #[])), (Value.slice none 0 0), (Value.slice none 0 0), (Value.slice none 0 0), (Value.slice none 0 0), (Value.int .i64 (0 : Int)), (Value.slice none 0 0)]) ++ l6_ ++ List.drop 9 ([(Value.int .i64 (0 : Int)), (Value.int .i64 (0 : Int)), (Value.string (ByteArray.mk #[])), (Value.slice none 0 0), (Value.slice none 0 0), (Value.slice none 0 0), (Value.slice none 0 0), (Value.int .i64 (0 : Int)), (Value.slice none 0 0)])).toArray) 102) fun h7_ => AppW 102 9 160 #[(Value.int .i64 (0 : Int)), (Value.int .i64 (0 : Int)), (Value.string (ByteArray.mk #[])), (Value.slice none 0 0), (Value.slice none 0 0), (Value.slice none 0 0), (Value.slice none 0 0), (Value.int .i64 (0 : Int)), (Value.slice none 0 0)] A4 n4 c4 (Value.slice (some ⟨Array.size h, 0, none⟩) 1 1) h7_ fun v8_ h9_ => ∃ A10_, ∃ n10_, ∃ c10_, v8_ = (Value.slice A10_ n10_ c10_) ∧ f57.l0 R a1 A10_ n10_ c10_ x33 (IntKind.wrap .i64 (x34 + (1 : Int))) h9_)))
set_option maxRecDepth 100000 in
theorem f57.j3_in {R : Value → Heap → Prop} {a1 : Addr} {A4 : Option Addr} {n4 : Nat} {c4 : Nat} {x7 : Int} {A8 : Option Addr} {n8 : Nat} {c8 : Nat} {x33 : Int} {x34 : Int} {h : Heap} (H : f57.j3T R a1 A4 n4 c4 x7 A8 n8 c8 x33 x34 h) : f57.j3 R a1 A4 n4 c4 x7 A8 n8 c8 x33 x34 h :=
  pt_intro mixed f57.good (Eq.mpr (show (Fwd Tryd.prog f57.T f57.kp Tryd.f57 R [true, true, true, true, false, false, true, true, false, false, true, false, true, true, true, true] (mkFr [(1, (Value.pointer (some a1))), (4, (Value.slice A4 n4 c4)), (7, (Value.int .i64 x7)), (8, (Value.slice A8 n8 c8)), (33, (Value.int .i64 x33)), (34, (Value.int .i64 x34))]) h) = (f57.j3T R a1 A4 n4 c4 x7 A8 n8 c8 x33 x34 h) by kernel_rfl) H)
set_option maxRecDepth 100000 in
def f57.runT (R : Value → Heap → Prop) (v0 : Value) (h : Heap) : Prop :=
  newH h (Obj.cells ((v0).cells) 40) fun h1_ => ∃ v2_, ldv true 8 h1_ (⟨Array.size h, 0, none⟩) = some v2_ ∧ Run Tryd.prog 19 #[v2_] h1_ fun v3_ h4_ => ∃ x5_, v3_ = (Value.int .i64 x5_) ∧ ∃ v6_, ldv false 1 h4_ (Addr.add (⟨Array.size h, 0, none⟩) 5) = some v6_ ∧ ∃ A7_, ∃ n7_, ∃ c7_, v6_ = (Value.slice A7_ n7_ c7_) ∧ splitB (decide (x5_ > ((n7_ : Nat) : Int))) (∃ v8_, ldv false 1 h4_ (Addr.add (⟨Array.size h, 0, none⟩) 5) = some v8_ ∧ ∃ A9_, ∃ n9_, ∃ c9_, v8_ = (Value.slice A9_ n9_ c9_) ∧ f57.l1 R none 0 0 A9_ n9_ c9_ ((n9_ : Nat) : Int) (0 : Int) h4_) (f57.l0 R (⟨Array.size h, 0, none⟩) none 0 0 (if (0 : Int) > x5_ then (0 : Int) else x5_) (0 : Int) h4_)
set_option maxRecDepth 100000 in
theorem f57.run {R : Value → Heap → Prop} {v0 : Value} {h : Heap} (H : f57.runT R v0 h) : Run Tryd.prog 57 #[v0] h R :=
  run_of mixed Tryd.func57 (by kernel_rfl) (by kernel_rfl) f57.good (Eq.mpr (show (Fwd Tryd.prog f57.T f57.kp Tryd.f57 R [] (mkFr (argL [v0] 0)) h) = (f57.runT R v0 h) by kernel_rfl) H)
def f22.T : Tab := { sh := tSh, tup := tTup, keep := [], plan := [] }
def f22.kp : Keep := [([false, false, true, false, true, true, true], [3, 15, 16, 17]), ([false, false, true, true, false, false, true, true, false, false, true, false, true, true, true], [3, 5, 15, 16, 17, 23, 24, 25]), ([true, true, false, false, true, true, false, false, true, true, false, false, true, true, false, false, true, false, true, true, true], [3, 5, 7, 15, 16, 17, 23, 24, 25, 39])]
theorem f22.good : goodCode Tryd.prog f22.T (rootOf Tryd.f22) = true := by kernel_rfl
def f22.l0 (R : Value → Heap → Prop) (A3 : Option Addr) (n3 : Nat) (c3 : Nat) (A15 : Option Addr) (n15 : Nat) (c15 : Nat) (x16 : Int) (x17 : Int) (h : Heap) : Prop := Pt Tryd.prog Tryd.f22 R [false, false, true, false, true, true, true] (mkFr [(3, (Value.slice A3 n3 c3)), (15, (Value.slice A15 n15 c15)), (16, (Value.int .i64 x16)), (17, (Value.int .i64 x17))]) h
def f22.l1 (R : Value → Heap → Prop) (A3 : Option Addr) (n3 : Nat) (c3 : Nat) (a5 : Addr) (A15 : Option Addr) (n15 : Nat) (c15 : Nat) (x16 : Int) (x17 : Int) (A23 : Option Addr) (n23 : Nat) (c23 : Nat) (x24 : Int) (x25 : Int) (h : Heap) : Prop := Pt Tryd.prog Tryd.f22 R [false, false, true, true, false, false, true, true, false, false, true, false, true, true, true] (mkFr [(3, (Value.slice A3 n3 c3)), (5, (Value.pointer (some a5))), (15, (Value.slice A15 n15 c15)), (16, (Value.int .i64 x16)), (17, (Value.int .i64 x17)), (23, (Value.slice A23 n23 c23)), (24, (Value.int .i64 x24)), (25, (Value.int .i64 x25))]) h
def f22.j0 (R : Value → Heap → Prop) (A3 : Option Addr) (n3 : Nat) (c3 : Nat) (a5 : Addr) (s7 : ByteArray) (A15 : Option Addr) (n15 : Nat) (c15 : Nat) (x16 : Int) (x17 : Int) (A23 : Option Addr) (n23 : Nat) (c23 : Nat) (x24 : Int) (x25 : Int) (b39 : Bool) (h : Heap) : Prop := Pt Tryd.prog Tryd.f22 R [true, true, false, false, true, true, false, false, true, true, false, false, true, true, false, false, true, false, true, true, true] (mkFr [(3, (Value.slice A3 n3 c3)), (5, (Value.pointer (some a5))), (7, (Value.string s7)), (15, (Value.slice A15 n15 c15)), (16, (Value.int .i64 x16)), (17, (Value.int .i64 x17)), (23, (Value.slice A23 n23 c23)), (24, (Value.int .i64 x24)), (25, (Value.int .i64 x25)), (39, (Value.bool b39))]) h
set_option maxRecDepth 100000 in
def f22.l0T (R : Value → Heap → Prop) (A3 : Option Addr) (n3 : Nat) (c3 : Nat) (A15 : Option Addr) (n15 : Nat) (c15 : Nat) (x16 : Int) (x17 : Int) (h : Heap) : Prop :=
  splitB (decide (x17 < x16)) (ptrOk A15 fun a1_ => 0 ≤ x17 ∧ x17 < ((n15 : Nat) : Int) ∧ (∃ v2_, ldv true 9 h (Addr.add a1_ (Int.toNat x17 * 9)) = some v2_ ∧ newH h (Obj.cells #[(Value.int .i64 (0 : Int)), (Value.int .i64 (0 : Int)), (Value.string (ByteArray.mk #[])), (Value.slice none 0 0), (Value.slice none 0 0), (Value.slice none 0 0), (Value.slice none 0 0), (Value.int .i64 (0 : Int)), (Value.slice none 0 0)] 102) fun h3_ => ∃ l5_ : List Value, v2_ = Value.agg l5_.toArray ∧ l5_.length = 9 ∧ ∃ h4_, stH h3_ (⟨Array.size h, 0, none⟩) l5_ 0 = some h4_ ∧ ∃ v6_, ldv true 8 h4_ (⟨Array.size h, 0, none⟩) = some v6_ ∧ Run Tryd.prog 22 #[v6_] h4_ fun v7_ h8_ => ∃ A9_, ∃ n9_, ∃ c9_, v7_ = (Value.slice A9_ n9_ c9_) ∧ f22.l1 R A3 n3 c3 (⟨Array.size h, 0, none⟩) A15 n15 c15 x16 x17 A9_ n9_ c9_ ((n9_ : Nat) : Int) (0 : Int) h8_)) (R (Value.slice A3 n3 c3) h)
set_option maxRecDepth 100000 in
theorem f22.l0_in {R : Value → Heap → Prop} {A3 : Option Addr} {n3 : Nat} {c3 : Nat} {A15 : Option Addr} {n15 : Nat} {c15 : Nat} {x16 : Int} {x17 : Int} {h : Heap} (H : f22.l0T R A3 n3 c3 A15 n15 c15 x16 x17 h) : f22.l0 R A3 n3 c3 A15 n15 c15 x16 x17 h :=
  pt_intro mixed f22.good (Eq.mpr (show (Fwd Tryd.prog f22.T f22.kp Tryd.f22 R [false, false, true, false, true, true, true] (mkFr [(3, (Value.slice A3 n3 c3)), (15, (Value.slice A15 n15 c15)), (16, (Value.int .i64 x16)), (17, (Value.int .i64 x17))]) h) = (f22.l0T R A3 n3 c3 A15 n15 c15 x16 x17 h) by kernel_rfl) H)
set_option maxRecDepth 100000 in
def f22.l1T (R : Value → Heap → Prop) (A3 : Option Addr) (n3 : Nat) (c3 : Nat) (a5 : Addr) (A15 : Option Addr) (n15 : Nat) (c15 : Nat) (x16 : Int) (x17 : Int) (A23 : Option Addr) (n23 : Nat) (c23 : Nat) (x24 : Int) (x25 : Int) (h : Heap) : Prop :=
  splitB (decide (x25 < x24)) (ptrOk A23 fun a1_ => 0 ≤ x25 ∧ x25 < ((n23 : Nat) : Int) ∧ (∃ v2_, ldv false 1 h (Addr.add a1_ (Int.toNat x25 * 1)) = some v2_ ∧ ∃ s3_, v2_ = (Value.string s3_) ∧ ∃ v4_, ldv false 1 h (Addr.add a5 8) = some v4_ ∧ ∃ A5_, ∃ n5_, ∃ c5_, v4_ = (Value.slice A5_ n5_ c5_) ∧ Run Tryd.prog 58 #[(Value.slice A5_ n5_ c5_), (Value.string s3_)] h fun v6_ h7_ => ∃ b8_, v6_ = (Value.bool b8_) ∧ splitB (!b8_) (Run Tryd.prog 58 #[(Value.slice A3 n3 c3), (Value.string s3_)] h7_ fun v9_ h10_ => ∃ b11_, v9_ = (Value.bool b11_) ∧ f22.j0 R A3 n3 c3 a5 s3_ A15 n15 c15 x16 x17 A23 n23 c23 x24 x25 (!b11_) h10_) (f22.j0 R A3 n3 c3 a5 s3_ A15 n15 c15 x16 x17 A23 n23 c23 x24 x25 false h7_))) (f22.l0 R A3 n3 c3 A15 n15 c15 x16 (IntKind.wrap .i64 (x17 + (1 : Int))) h)
set_option maxRecDepth 100000 in
theorem f22.l1_in {R : Value → Heap → Prop} {A3 : Option Addr} {n3 : Nat} {c3 : Nat} {a5 : Addr} {A15 : Option Addr} {n15 : Nat} {c15 : Nat} {x16 : Int} {x17 : Int} {A23 : Option Addr} {n23 : Nat} {c23 : Nat} {x24 : Int} {x25 : Int} {h : Heap} (H : f22.l1T R A3 n3 c3 a5 A15 n15 c15 x16 x17 A23 n23 c23 x24 x25 h) : f22.l1 R A3 n3 c3 a5 A15 n15 c15 x16 x17 A23 n23 c23 x24 x25 h :=
  pt_intro mixed f22.good (Eq.mpr (show (Fwd Tryd.prog f22.T f22.kp Tryd.f22 R [false, false, true, true, false, false, true, true, false, false, true, false, true, true, true] (mkFr [(3, (Value.slice A3 n3 c3)), (5, (Value.pointer (some a5))), (15, (Value.slice A15 n15 c15)), (16, (Value.int .i64 x16)), (17, (Value.int .i64 x17)), (23, (Value.slice A23 n23 c23)), (24, (Value.int .i64 x24)), (25, (Value.int .i64 x25))]) h) = (f22.l1T R A3 n3 c3 a5 A15 n15 c15 x16 x17 A23 n23 c23 x24 x25 h) by kernel_rfl) H)
set_option maxRecDepth 100000 in
def f22.j0T (R : Value → Heap → Prop) (A3 : Option Addr) (n3 : Nat) (c3 : Nat) (a5 : Addr) (s7 : ByteArray) (A15 : Option Addr) (n15 : Nat) (c15 : Nat) (x16 : Int) (x17 : Int) (A23 : Option Addr) (n23 : Nat) (c23 : Nat) (x24 : Int) (x25 : Int) (b39 : Bool) (h : Heap) : Prop :=
  splitB b39 (newH h (Obj.cells #[(Value.string s7)] 9) fun h1_ => AppW 9 1 16 #[(Value.string (ByteArray.mk #[]))] A3 n3 c3 (Value.slice (some ⟨Array.size h, 0, none⟩) 1 1) h1_ fun v2_ h3_ => ∃ A4_, ∃ n4_, ∃ c4_, v2_ = (Value.slice A4_ n4_ c4_) ∧ f22.l1 R A4_ n4_ c4_ a5 A15 n15 c15 x16 x17 A23 n23 c23 x24 (IntKind.wrap .i64 (x25 + (1 : Int))) h3_) (f22.l1 R A3 n3 c3 a5 A15 n15 c15 x16 x17 A23 n23 c23 x24 (IntKind.wrap .i64 (x25 + (1 : Int))) h)
set_option maxRecDepth 100000 in
theorem f22.j0_in {R : Value → Heap → Prop} {A3 : Option Addr} {n3 : Nat} {c3 : Nat} {a5 : Addr} {s7 : ByteArray} {A15 : Option Addr} {n15 : Nat} {c15 : Nat} {x16 : Int} {x17 : Int} {A23 : Option Addr} {n23 : Nat} {c23 : Nat} {x24 : Int} {x25 : Int} {b39 : Bool} {h : Heap} (H : f22.j0T R A3 n3 c3 a5 s7 A15 n15 c15 x16 x17 A23 n23 c23 x24 x25 b39 h) : f22.j0 R A3 n3 c3 a5 s7 A15 n15 c15 x16 x17 A23 n23 c23 x24 x25 b39 h :=
  pt_intro mixed f22.good (Eq.mpr (show (Fwd Tryd.prog f22.T f22.kp Tryd.f22 R [true, true, false, false, true, true, false, false, true, true, false, false, true, true, false, false, true, false, true, true, true] (mkFr [(3, (Value.slice A3 n3 c3)), (5, (Value.pointer (some a5))), (7, (Value.string s7)), (15, (Value.slice A15 n15 c15)), (16, (Value.int .i64 x16)), (17, (Value.int .i64 x17)), (23, (Value.slice A23 n23 c23)), (24, (Value.int .i64 x24)), (25, (Value.int .i64 x25)), (39, (Value.bool b39))]) h) = (f22.j0T R A3 n3 c3 a5 s7 A15 n15 c15 x16 x17 A23 n23 c23 x24 x25 b39 h) by kernel_rfl) H)
set_option maxRecDepth 100000 in
def f22.runT (R : Value → Heap → Prop) (v0 : Value) (h : Heap) : Prop :=
  newH h (Obj.cells ((v0).cells) 40) fun h1_ => ∃ v2_, ldv false 1 h1_ (⟨Array.size h, 0, none⟩) = some v2_ ∧ ∃ x3_, v2_ = (Value.int .i64 x3_) ∧ splitB (x3_ == (5 : Int)) (∃ v4_, ldv false 1 h1_ (Addr.add (⟨Array.size h, 0, none⟩) 2) = some v4_ ∧ ∃ s5_, v4_ = (Value.string s5_) ∧ newH h1_ (Obj.cells #[(Value.string s5_)] 9) fun h6_ => R (Value.slice (some ⟨Array.size h1_, 0, none⟩) 1 1) h6_) (∃ v7_, ldv true 8 h1_ (⟨Array.size h, 0, none⟩) = some v7_ ∧ Run Tryd.prog 57 #[v7_] h1_ fun v8_ h9_ => ∃ A10_, ∃ n10_, ∃ c10_, v8_ = (Value.slice A10_ n10_ c10_) ∧ f22.l0 R none 0 0 A10_ n10_ c10_ ((n10_ : Nat) : Int) (0 : Int) h9_)
set_option maxRecDepth 100000 in
theorem f22.run {R : Value → Heap → Prop} {v0 : Value} {h : Heap} (H : f22.runT R v0 h) : Run Tryd.prog 22 #[v0] h R :=
  run_of mixed Tryd.func22 (by kernel_rfl) (by kernel_rfl) f22.good (Eq.mpr (show (Fwd Tryd.prog f22.T f22.kp Tryd.f22 R [] (mkFr (argL [v0] 0)) h) = (f22.runT R v0 h) by kernel_rfl) H)
def f60.T : Tab := { sh := tSh, tup := tTup, keep := [], plan := [] }
def f60.kp : Keep := [([false, false, true, false, true, true], [3, 6, 7, 8])]
theorem f60.good : goodCode Tryd.prog f60.T (rootOf Tryd.f60) = true := by kernel_rfl
def f60.l0 (R : Value → Heap → Prop) (A3 : Option Addr) (n3 : Nat) (c3 : Nat) (A6 : Option Addr) (n6 : Nat) (c6 : Nat) (x7 : Int) (x8 : Int) (h : Heap) : Prop := Pt Tryd.prog Tryd.f60 R [false, false, true, false, true, true] (mkFr [(3, (Value.slice A3 n3 c3)), (6, (Value.slice A6 n6 c6)), (7, (Value.int .i64 x7)), (8, (Value.int .i64 x8))]) h
set_option maxRecDepth 100000 in
def f60.l0T (R : Value → Heap → Prop) (A3 : Option Addr) (n3 : Nat) (c3 : Nat) (A6 : Option Addr) (n6 : Nat) (c6 : Nat) (x7 : Int) (x8 : Int) (h : Heap) : Prop :=
  splitB (decide (x8 < x7)) (ptrOk A6 fun a1_ => 0 ≤ x8 ∧ x8 < ((n6 : Nat) : Int) ∧ (∃ v2_, ldv true 3 h (Addr.add a1_ (Int.toNat x8 * 3)) = some v2_ ∧ newH h (Obj.cells #[(Value.int .i64 (0 : Int)), (Value.string (ByteArray.mk #[])), (Value.slice none 0 0)] 59) fun h3_ => ∃ l5_ : List Value, v2_ = Value.agg l5_.toArray ∧ l5_.length = 3 ∧ ∃ h4_, stH h3_ (⟨Array.size h, 0, none⟩) l5_ 0 = some h4_ ∧ ∃ v6_, ldv false 1 h4_ (Addr.add (⟨Array.size h, 0, none⟩) 2) = some v6_ ∧ ∃ A7_, ∃ n7_, ∃ c7_, v6_ = (Value.slice A7_ n7_ c7_) ∧ Run Tryd.prog 60 #[(Value.slice A7_ n7_ c7_)] h4_ fun v8_ h9_ => ∃ A10_, ∃ n10_, ∃ c10_, v8_ = (Value.slice A10_ n10_ c10_) ∧ ∃ h11_, st1 h9_ (Addr.add (⟨Array.size h, 0, none⟩) 2) (Value.slice A10_ n10_ c10_) = some h11_ ∧ ∃ v12_, ldv true 3 h11_ (⟨Array.size h, 0, none⟩) = some v12_ ∧ ∃ l13_ : List Value, v12_ = Value.agg l13_.toArray ∧ l13_.length = 3 ∧ (newH h11_ (Obj.cells ((List.take 0 ([(Value.int .i64 (0 : Int)), (Value.string (ByteArray.mk #[])), (Value.slice none 0 0)]) ++ l13_ ++ List.drop 3 ([(Value.int .i64 (0 : Int)), (Value.string (ByteArray.mk #[])), (Value.slice none 0 0)])).toArray) 59) fun h14_ => AppW 59 3 48 #[(Value.int .i64 (0 : Int)), (Value.string (ByteArray.mk #[])), (Value.slice none 0 0)] A3 n3 c3 (Value.slice (some ⟨Array.size h11_, 0, none⟩) 1 1) h14_ fun v15_ h16_ => ∃ A17_, ∃ n17_, ∃ c17_, v15_ = (Value.slice A17_ n17_ c17_) ∧ f60.l0 R A17_ n17_ c17_ A6 n6 c6 x7 (IntKind.wrap .i64 (x8 + (1 : Int))) h16_))) (R (Value.slice A3 n3 c3) h)
set_option maxRecDepth 100000 in
theorem f60.l0_in {R : Value → Heap → Prop} {A3 : Option Addr} {n3 : Nat} {c3 : Nat} {A6 : Option Addr} {n6 : Nat} {c6 : Nat} {x7 : Int} {x8 : Int} {h : Heap} (H : f60.l0T R A3 n3 c3 A6 n6 c6 x7 x8 h) : f60.l0 R A3 n3 c3 A6 n6 c6 x7 x8 h :=
  pt_intro mixed f60.good (Eq.mpr (show (Fwd Tryd.prog f60.T f60.kp Tryd.f60 R [false, false, true, false, true, true] (mkFr [(3, (Value.slice A3 n3 c3)), (6, (Value.slice A6 n6 c6)), (7, (Value.int .i64 x7)), (8, (Value.int .i64 x8))]) h) = (f60.l0T R A3 n3 c3 A6 n6 c6 x7 x8 h) by kernel_rfl) H)
set_option maxRecDepth 100000 in
def f60.runT (R : Value → Heap → Prop) (A0 : Option Addr) (n0 : Nat) (c0 : Nat) (h : Heap) : Prop :=
  f60.l0 R none 0 0 A0 n0 c0 ((n0 : Nat) : Int) (0 : Int) h
set_option maxRecDepth 100000 in
theorem f60.run {R : Value → Heap → Prop} {A0 : Option Addr} {n0 : Nat} {c0 : Nat} {h : Heap} (H : f60.runT R A0 n0 c0 h) : Run Tryd.prog 60 #[(Value.slice A0 n0 c0)] h R :=
  run_of mixed Tryd.func60 (by kernel_rfl) (by kernel_rfl) f60.good (Eq.mpr (show (Fwd Tryd.prog f60.T f60.kp Tryd.f60 R [] (mkFr (argL [(Value.slice A0 n0 c0)] 0)) h) = (f60.runT R A0 n0 c0 h) by kernel_rfl) H)
def f61.T : Tab := { sh := tSh, tup := tTup, keep := [], plan := [] }
def f61.kp : Keep := [([false, false, true, false, true, true], [1, 2, 3, 7, 8, 9])]
theorem f61.good : goodCode Tryd.prog f61.T (rootOf Tryd.f61) = true := by kernel_rfl
def f61.l0 (R : Value → Heap → Prop) (a1 : Addr) (a2 : Addr) (A3 : Option Addr) (n3 : Nat) (c3 : Nat) (A7 : Option Addr) (n7 : Nat) (c7 : Nat) (x8 : Int) (x9 : Int) (h : Heap) : Prop := Pt Tryd.prog Tryd.f61 R [false, false, true, false, true, true] (mkFr [(1, (Value.pointer (some a1))), (2, (Value.pointer (some a2))), (3, (Value.slice A3 n3 c3)), (7, (Value.slice A7 n7 c7)), (8, (Value.int .i64 x8)), (9, (Value.int .i64 x9))]) h
set_option maxRecDepth 100000 in
def f61.l0T (R : Value → Heap → Prop) (a1 : Addr) (a2 : Addr) (A3 : Option Addr) (n3 : Nat) (c3 : Nat) (A7 : Option Addr) (n7 : Nat) (c7 : Nat) (x8 : Int) (x9 : Int) (h : Heap) : Prop :=
  splitB (decide (x9 < x8)) (ptrOk A7 fun a1_ => 0 ≤ x9 ∧ x9 < ((n7 : Nat) : Int) ∧ (∃ v2_, ldv true 4 h (Addr.add a1_ (Int.toNat x9 * 4)) = some v2_ ∧ newH h (Obj.cells #[(Value.int .i64 (0 : Int)), (Value.int .i64 (0 : Int)), (Value.string (ByteArray.mk #[])), (Value.slice none 0 0)] 48) fun h3_ => ∃ l5_ : List Value, v2_ = Value.agg l5_.toArray ∧ l5_.length = 4 ∧ ∃ h4_, stH h3_ (⟨Array.size h, 0, none⟩) l5_ 0 = some h4_ ∧ ∃ v6_, ldv true 4 h4_ (⟨Array.size h, 0, none⟩) = some v6_ ∧ Run Tryd.prog 61 #[v6_] h4_ fun v7_ h8_ => ∃ l9_ : List Value, v7_ = Value.agg l9_.toArray ∧ l9_.length = 4 ∧ (newH h8_ (Obj.cells ((List.take 0 ([(Value.int .i64 (0 : Int)), (Value.int .i64 (0 : Int)), (Value.string (ByteArray.mk #[])), (Value.slice none 0 0)]) ++ l9_ ++ List.drop 4 ([(Value.int .i64 (0 : Int)), (Value.int .i64 (0 : Int)), (Value.string (ByteArray.mk #[])), (Value.slice none 0 0)])).toArray) 48) fun h10_ => AppW 48 4 56 #[(Value.int .i64 (0 : Int)), (Value.int .i64 (0 : Int)), (Value.string (ByteArray.mk #[])), (Value.slice none 0 0)] A3 n3 c3 (Value.slice (some ⟨Array.size h8_, 0, none⟩) 1 1) h10_ fun v11_ h12_ => ∃ A13_, ∃ n13_, ∃ c13_, v11_ = (Value.slice A13_ n13_ c13_) ∧ f61.l0 R a1 a2 A13_ n13_ c13_ A7 n7 c7 x8 (IntKind.wrap .i64 (x9 + (1 : Int))) h12_))) (∃ h14_, st1 h (Addr.add a1 3) (Value.slice A3 n3 c3) = some h14_ ∧ ∃ v15_, ldv true 4 h14_ a1 = some v15_ ∧ ∃ l17_ : List Value, v15_ = Value.agg l17_.toArray ∧ l17_.length = 4 ∧ ∃ h16_, stH h14_ a2 l17_ 0 = some h16_ ∧ ∃ v18_, ldv true 4 h16_ a2 = some v18_ ∧ R v18_ h16_)
set_option maxRecDepth 100000 in
theorem f61.l0_in {R : Value → Heap → Prop} {a1 : Addr} {a2 : Addr} {A3 : Option Addr} {n3 : Nat} {c3 : Nat} {A7 : Option Addr} {n7 : Nat} {c7 : Nat} {x8 : Int} {x9 : Int} {h : Heap} (H : f61.l0T R a1 a2 A3 n3 c3 A7 n7 c7 x8 x9 h) : f61.l0 R a1 a2 A3 n3 c3 A7 n7 c7 x8 x9 h :=
  pt_intro mixed f61.good (Eq.mpr (show (Fwd Tryd.prog f61.T f61.kp Tryd.f61 R [false, false, true, false, true, true] (mkFr [(1, (Value.pointer (some a1))), (2, (Value.pointer (some a2))), (3, (Value.slice A3 n3 c3)), (7, (Value.slice A7 n7 c7)), (8, (Value.int .i64 x8)), (9, (Value.int .i64 x9))]) h) = (f61.l0T R a1 a2 A3 n3 c3 A7 n7 c7 x8 x9 h) by kernel_rfl) H)
set_option maxRecDepth 100000 in
def f61.runT (R : Value → Heap → Prop) (v0 : Value) (h : Heap) : Prop :=
  newH h (Obj.cells ((v0).cells) 48) fun h1_ => newH h1_ (Obj.cells #[(Value.int .i64 (0 : Int)), (Value.int .i64 (0 : Int)), (Value.string (ByteArray.mk #[])), (Value.slice none 0 0)] 48) fun h2_ => ∃ v3_, ldv false 1 h2_ (Addr.add (⟨Array.size h, 0, none⟩) 3) = some v3_ ∧ ∃ A4_, ∃ n4_, ∃ c4_, v3_ = (Value.slice A4_ n4_ c4_) ∧ f61.l0 R (⟨Array.size h, 0, none⟩) (⟨Array.size h1_, 0, none⟩) none 0 0 A4_ n4_ c4_ ((n4_ : Nat) : Int) (0 : Int) h2_
set_option maxRecDepth 100000 in
theorem f61.run {R : Value → Heap → Prop} {v0 : Value} {h : Heap} (H : f61.runT R v0 h) : Run Tryd.prog 61 #[v0] h R :=
  run_of mixed Tryd.func61 (by kernel_rfl) (by kernel_rfl) f61.good (Eq.mpr (show (Fwd Tryd.prog f61.T f61.kp Tryd.f61 R [] (mkFr (argL [v0] 0)) h) = (f61.runT R v0 h) by kernel_rfl) H)
def f25.T : Tab := { sh := tSh, tup := tTup, keep := [], plan := [(2, (.take 0 (.take 3 (.take 1 (.take 4 (.eff true 2 (.take 6 (.eff false 5 (.eff false 7 (.take 8 (.eff false 9 .done))))))))))), (13, (.take 0 (.take 1 (.take 4 (.take 2 (.take 5 (.eff true 3 (.eff false 6 (.eff false 7 (.eff false 8 (.eff false 9 (.take 10 .done))))))))))))] }
def f25.kp : Keep := [([false, false, true, false, true, true, true, true], [1, 2, 3, 19, 20, 21]), ([false, false, true, false, true, true, true, true, true, true], [1, 2, 3, 6, 32, 33, 34])]
theorem f25.good : goodCode Tryd.prog f25.T (rootOf Tryd.f25) = true := by kernel_rfl
def f25.l0 (R : Value → Heap → Prop) (a1 : Addr) (a2 : Addr) (A3 : Option Addr) (n3 : Nat) (c3 : Nat) (A19 : Option Addr) (n19 : Nat) (c19 : Nat) (x20 : Int) (x21 : Int) (h : Heap) : Prop := Pt Tryd.prog Tryd.f25 R [false, false, true, false, true, true, true, true] (mkFr [(1, (Value.pointer (some a1))), (2, (Value.pointer (some a2))), (3, (Value.slice A3 n3 c3)), (19, (Value.slice A19 n19 c19)), (20, (Value.int .i64 x20)), (21, (Value.int .i64 x21))]) h
def f25.l1 (R : Value → Heap → Prop) (a1 : Addr) (a2 : Addr) (A3 : Option Addr) (n3 : Nat) (c3 : Nat) (A6 : Option Addr) (n6 : Nat) (c6 : Nat) (A32 : Option Addr) (n32 : Nat) (c32 : Nat) (x33 : Int) (x34 : Int) (h : Heap) : Prop := Pt Tryd.prog Tryd.f25 R [false, false, true, false, true, true, true, true, true, true] (mkFr [(1, (Value.pointer (some a1))), (2, (Value.pointer (some a2))), (3, (Value.slice A3 n3 c3)), (6, (Value.slice A6 n6 c6)), (32, (Value.slice A32 n32 c32)), (33, (Value.int .i64 x33)), (34, (Value.int .i64 x34))]) h
set_option maxRecDepth 100000 in
def f25.l0T (R : Value → Heap → Prop) (a1 : Addr) (a2 : Addr) (A3 : Option Addr) (n3 : Nat) (c3 : Nat) (A19 : Option Addr) (n19 : Nat) (c19 : Nat) (x20 : Int) (x21 : Int) (h : Heap) : Prop :=
  splitB (decide (x21 < x20)) (ptrOk A19 fun a1_ => 0 ≤ x21 ∧ x21 < ((n19 : Nat) : Int) ∧ (∃ v2_, ldv true 8 h (Addr.add a1_ (Int.toNat x21 * 8)) = some v2_ ∧ newH h (Obj.cells #[(Value.int .i64 (0 : Int)), (Value.int .i64 (0 : Int)), (Value.string (ByteArray.mk #[])), (Value.slice none 0 0), (Value.slice none 0 0), (Value.slice none 0 0), (Value.slice none 0 0), (Value.int .i64 (0 : Int))] 40) fun h3_ => ∃ l5_ : List Value, v2_ = Value.agg l5_.toArray ∧ l5_.length = 8 ∧ ∃ h4_, stH h3_ (⟨Array.size h, 0, none⟩) l5_ 0 = some h4_ ∧ ∃ v6_, ldv true 8 h4_ (⟨Array.size h, 0, none⟩) = some v6_ ∧ Run Tryd.prog 25 #[v6_] h4_ fun v7_ h8_ => ∃ l9_ : List Value, v7_ = Value.agg l9_.toArray ∧ l9_.length = 8 ∧ (newH h8_ (Obj.cells ((List.take 0 ([(Value.int .i64 (0 : Int)), (Value.int .i64 (0 : Int)), (Value.string (ByteArray.mk #[])), (Value.slice none 0 0), (Value.slice none 0 0), (Value.slice none 0 0), (Value.slice none 0 0), (Value.int .i64 (0 : Int))]) ++ l9_ ++ List.drop 8 ([(Value.int .i64 (0 : Int)), (Value.int .i64 (0 : Int)), (Value.string (ByteArray.mk #[])), (Value.slice none 0 0), (Value.slice none 0 0), (Value.slice none 0 0), (Value.slice none 0 0), (Value.int .i64 (0 : Int))])).toArray) 40) fun h10_ => AppW 40 8 136 #[(Value.int .i64 (0 : Int)), (Value.int .i64 (0 : Int)), (Value.string (ByteArray.mk #[])), (Value.slice none 0 0), (Value.slice none 0 0), (Value.slice none 0 0), (Value.slice none 0 0), (Value.int .i64 (0 : Int))] A3 n3 c3 (Value.slice (some ⟨Array.size h8_, 0, none⟩) 1 1) h10_ fun v11_ h12_ => ∃ A13_, ∃ n13_, ∃ c13_, v11_ = (Value.slice A13_ n13_ c13_) ∧ f25.l0 R a1 a2 A13_ n13_ c13_ A19 n19 c19 x20 (IntKind.wrap .i64 (x21 + (1 : Int))) h12_))) (∃ v14_, ldv false 1 h (Addr.add a1 6) = some v14_ ∧ ∃ A15_, ∃ n15_, ∃ c15_, v14_ = (Value.slice A15_ n15_ c15_) ∧ f25.l1 R a1 a2 A3 n3 c3 none 0 0 A15_ n15_ c15_ ((n15_ : Nat) : Int) (0 : Int) h)
set_option maxRecDepth 100000 in
theorem f25.l0_in {R : Value → Heap → Prop} {a1 : Addr} {a2 : Addr} {A3 : Option Addr} {n3 : Nat} {c3 : Nat} {A19 : Option Addr} {n19 : Nat} {c19 : Nat} {x20 : Int} {x21 : Int} {h : Heap} (H : f25.l0T R a1 a2 A3 n3 c3 A19 n19 c19 x20 x21 h) : f25.l0 R a1 a2 A3 n3 c3 A19 n19 c19 x20 x21 h :=
  pt_intro mixed f25.good (Eq.mpr (show (Fwd Tryd.prog f25.T f25.kp Tryd.f25 R [false, false, true, false, true, true, true, true] (mkFr [(1, (Value.pointer (some a1))), (2, (Value.pointer (some a2))), (3, (Value.slice A3 n3 c3)), (19, (Value.slice A19 n19 c19)), (20, (Value.int .i64 x20)), (21, (Value.int .i64 x21))]) h) = (f25.l0T R a1 a2 A3 n3 c3 A19 n19 c19 x20 x21 h) by kernel_rfl) H)
set_option maxRecDepth 100000 in
def f25.l1T (R : Value → Heap → Prop) (a1 : Addr) (a2 : Addr) (A3 : Option Addr) (n3 : Nat) (c3 : Nat) (A6 : Option Addr) (n6 : Nat) (c6 : Nat) (A32 : Option Addr) (n32 : Nat) (c32 : Nat) (x33 : Int) (x34 : Int) (h : Heap) : Prop :=
  splitB (decide (x34 < x33)) (ptrOk A32 fun a1_ => 0 ≤ x34 ∧ x34 < ((n32 : Nat) : Int) ∧ (∃ v2_, ldv true 12 h (Addr.add a1_ (Int.toNat x34 * 12)) = some v2_ ∧ newH h (Obj.cells #[(Value.int .i64 (0 : Int)), (Value.int .i64 (0 : Int)), (Value.string (ByteArray.mk #[])), (Value.slice none 0 0), (Value.int .i64 (0 : Int)), (Value.int .i64 (0 : Int)), (Value.string (ByteArray.mk #[])), (Value.slice none 0 0), (Value.slice none 0 0), (Value.slice none 0 0), (Value.slice none 0 0), (Value.int .i64 (0 : Int))] 50) fun h3_ => ∃ l5_ : List Value, v2_ = Value.agg l5_.toArray ∧ l5_.length = 12 ∧ ∃ h4_, stH h3_ (⟨Array.size h, 0, none⟩) l5_ 0 = some h4_ ∧ ∃ v6_, ldv true 4 h4_ (⟨Array.size h, 0, none⟩) = some v6_ ∧ ∃ v7_, ldv true 8 h4_ (Addr.add (⟨Array.size h, 0, none⟩) 4) = some v7_ ∧ Run Tryd.prog 61 #[v6_] h4_ fun v8_ h9_ => Ext h4_ h9_ ∧ (Run Tryd.prog 25 #[v7_] h9_ fun v10_ h11_ => ∃ l12_ : List Value, v8_ = Value.agg l12_.toArray ∧ l12_.length = 4 ∧ (∃ l13_ : List Value, v10_ = Value.agg l13_.toArray ∧ l13_.length = 8 ∧ (∃ l14_ : List Value, (Value.agg (List.take 4 (List.take 0 ([(Value.int .i64 (0 : Int)), (Value.int .i64 (0 : Int)), (Value.string (ByteArray.mk #[])), (Value.slice none 0 0), (Value.int .i64 (0 : Int)), (Value.int .i64 (0 : Int)), (Value.string (ByteArray.mk #[])), (Value.slice none 0 0), (Value.slice none 0 0), (Value.slice none 0 0), (Value.slice none 0 0), (Value.int .i64 (0 : Int))]) ++ l12_ ++ List.drop 4 ([(Value.int .i64 (0 : Int)), (Value.int .i64 (0 : Int)), (Value.string (ByteArray.mk #[])), (Value.slice none 0 0), (Value.int .i64 (0 : Int)), (Value.int .i64 (0 : Int)), (Value.string (ByteArray.mk #[])), (Value.slice none 0 0), (Value.slice none 0 0), (Value.slice none 0 0), (Value.slice none 0 0), (Value.int .i64 (0 : Int))])) ++ l13_ ++ List.drop 12 (List.take 0 ([(Value.int .i64 (0 : Int)), (Value.int .i64 (0 : Int)), (Value.string (ByteArray.mk #[])), (Value.slice none 0 0), (Value.int .i64 (0 : Int)), (Value.int .i64 (0 : Int)), (Value.string (ByteArray.mk #[])), (Value.slice none 0 0), (Value.slice none 0 0), (Value.slice none 0 0), (Value.slice none 0 0), (Value.int .i64 (0 : Int))]) ++ l12_ ++ List.drop 4 ([(Value.int .i64 (0 : Int)), (Value.int .i64 (0 : Int)), (Value.string (ByteArray.mk #[])), (Value.slice none 0 0), (Value.int .i64 (0 : Int)), (Value.int .i64 (0 : Int)), (Value.string (ByteArray.mk #[])), (Value.slice none 0 0), (Value.slice none 0 0), (Value.slice none 0 0), (Value.slice none 0 0), (Value.int .i64 (0 : Int))]))).toArray) = Value.agg l14_.toArray ∧ l14_.length = 12 ∧ (newH h11_ (Obj.cells ((List.take 0 ([(Value.int .i64 (0 : Int)), (Value.int .i64 (0 : Int)), (Value.string (ByteArray.mk #[])), (Value.slice none 0 0), (Value.int .i64 (0 : Int)), (Value.int .i64 (0 : Int)), (Value.string (ByteArray.mk #[])), (Value.slice none 0 0), (Value.slice none 0 0), (Value.slice none 0 0), (Value.slice none 0 0), (Value.int .i64 (0 : Int))]) ++ l14_ ++ List.drop 12 ([(Value.int .i64 (0 : Int)), (Value.int .i64 (0 : Int)), (Value.string (ByteArray.mk #[])), (Value.slice none 0 0), (Value.int .i64 (0 : Int)), (Value.int .i64 (0 : Int)), (Value.string (ByteArray.mk #[])), (Value.slice none 0 0), (Value.slice none 0 0), (Value.slice none 0 0), (Value.slice none 0 0), (Value.int .i64 (0 : Int))])).toArray) 50) fun h15_ => AppW 50 12 192 #[(Value.int .i64 (0 : Int)), (Value.int .i64 (0 : Int)), (Value.string (ByteArray.mk #[])), (Value.slice none 0 0), (Value.int .i64 (0 : Int)), (Value.int .i64 (0 : Int)), (Value.string (ByteArray.mk #[])), (Value.slice none 0 0), (Value.slice none 0 0), (Value.slice none 0 0), (Value.slice none 0 0), (Value.int .i64 (0 : Int))] A6 n6 c6 (Value.slice (some ⟨Array.size h11_, 0, none⟩) 1 1) h15_ fun v16_ h17_ => ∃ A18_, ∃ n18_, ∃ c18_, v16_ = (Value.slice A18_ n18_ c18_) ∧ f25.l1 R a1 a2 A3 n3 c3 A18_ n18_ c18_ A32 n32 c32 x33 (IntKind.wrap .i64 (x34 + (1 : Int))) h17_)))))) (∃ h19_, st1 h (Addr.add a1 5) (Value.slice A3 n3 c3) = some h19_ ∧ ∃ h20_, st1 h19_ (Addr.add a1 6) (Value.slice A6 n6 c6) = some h20_ ∧ ∃ v21_, ldv true 8 h20_ a1 = some v21_ ∧ ∃ l23_ : List Value, v21_ = Value.agg l23_.toArray ∧ l23_.length = 8 ∧ ∃ h22_, stH h20_ a2 l23_ 0 = some h22_ ∧ ∃ v24_, ldv true 8 h22_ a2 = some v24_ ∧ R v24_ h22_)
set_option maxRecDepth 100000 in
theorem f25.l1_in {R : Value → Heap → Prop} {a1 : Addr} {a2 : Addr} {A3 : Option Addr} {n3 : Nat} {c3 : Nat} {A6 : Option Addr} {n6 : Nat} {c6 : Nat} {A32 : Option Addr} {n32 : Nat} {c32 : Nat} {x33 : Int} {x34 : Int} {h : Heap} (H : f25.l1T R a1 a2 A3 n3 c3 A6 n6 c6 A32 n32 c32 x33 x34 h) : f25.l1 R a1 a2 A3 n3 c3 A6 n6 c6 A32 n32 c32 x33 x34 h :=
  pt_intro mixed f25.good (Eq.mpr (show (Fwd Tryd.prog f25.T f25.kp Tryd.f25 R [false, false, true, false, true, true, true, true, true, true] (mkFr [(1, (Value.pointer (some a1))), (2, (Value.pointer (some a2))), (3, (Value.slice A3 n3 c3)), (6, (Value.slice A6 n6 c6)), (32, (Value.slice A32 n32 c32)), (33, (Value.int .i64 x33)), (34, (Value.int .i64 x34))]) h) = (f25.l1T R a1 a2 A3 n3 c3 A6 n6 c6 A32 n32 c32 x33 x34 h) by kernel_rfl) H)
set_option maxRecDepth 100000 in
def f25.runT (R : Value → Heap → Prop) (v0 : Value) (h : Heap) : Prop :=
  newH h (Obj.cells ((v0).cells) 40) fun h1_ => newH h1_ (Obj.cells #[(Value.int .i64 (0 : Int)), (Value.int .i64 (0 : Int)), (Value.string (ByteArray.mk #[])), (Value.slice none 0 0), (Value.slice none 0 0), (Value.slice none 0 0), (Value.slice none 0 0), (Value.int .i64 (0 : Int))] 40) fun h2_ => ∃ h3_, st1 h2_ (Addr.add (⟨Array.size h, 0, none⟩) 7) (Value.int .i64 (0 : Int)) = some h3_ ∧ ∃ v4_, ldv false 1 h3_ (Addr.add (⟨Array.size h, 0, none⟩) 3) = some v4_ ∧ ∃ A5_, ∃ n5_, ∃ c5_, v4_ = (Value.slice A5_ n5_ c5_) ∧ ∃ v6_, ldv false 1 h3_ (Addr.add (⟨Array.size h, 0, none⟩) 4) = some v6_ ∧ ∃ A7_, ∃ n7_, ∃ c7_, v6_ = (Value.slice A7_ n7_ c7_) ∧ Run Tryd.prog 59 #[(Value.slice A5_ n5_ c5_)] h3_ fun v8_ h9_ => ∃ A10_, ∃ n10_, ∃ c10_, v8_ = (Value.slice A10_ n10_ c10_) ∧ Ext h3_ h9_ ∧ (Run Tryd.prog 60 #[(Value.slice A7_ n7_ c7_)] h9_ fun v11_ h12_ => ∃ A13_, ∃ n13_, ∃ c13_, v11_ = (Value.slice A13_ n13_ c13_) ∧ ∃ h14_, st1 h12_ (Addr.add (⟨Array.size h, 0, none⟩) 3) (Value.slice A10_ n10_ c10_) = some h14_ ∧ ∃ h15_, st1 h14_ (Addr.add (⟨Array.size h, 0, none⟩) 4) (Value.slice A13_ n13_ c13_) = some h15_ ∧ ∃ v16_, ldv false 1 h15_ (Addr.add (⟨Array.size h, 0, none⟩) 5) = some v16_ ∧ ∃ A17_, ∃ n17_, ∃ c17_, v16_ = (Value.slice A17_ n17_ c17_) ∧ f25.l0 R (⟨Array.size h, 0, none⟩) (⟨Array.size h1_, 0, none⟩) none 0 0 A17_ n17_ c17_ ((n17_ : Nat) : Int) (0 : Int) h15_)
set_option maxRecDepth 100000 in
theorem f25.run {R : Value → Heap → Prop} {v0 : Value} {h : Heap} (H : f25.runT R v0 h) : Run Tryd.prog 25 #[v0] h R :=
  run_of mixed Tryd.func25 (by kernel_rfl) (by kernel_rfl) f25.good (Eq.mpr (show (Fwd Tryd.prog f25.T f25.kp Tryd.f25 R [] (mkFr (argL [v0] 0)) h) = (f25.runT R v0 h) by kernel_rfl) H)
def f4.T : Tab := { sh := tSh, tup := tTup, keep := [], plan := [(5, (.take 0 (.take 1 (.take 2 (.take 3 (.take 4 (.take 5 (.split 5 (.take 6 (.take 7 (.take 8 (.take 9 (.take 10 (.split 10 (.take 11 (.take 13 (.eff true 12 (.eff false 14 (.take 15 (.take 16 (.take 17 (.split 17 (.take 18 (.take 20 (.eff true 19 (.eff false 21 (.take 22 (.take 23 (.take 24 (.split 24 (.take 25 (.take 27 (.eff true 26 (.eff false 28 (.take 29 (.take 30 (.take 31 (.split 31 (.take 32 (.take 34 (.eff true 33 (.eff false 35 (.eff false 36 (.take 37 (.take 38 .done))))))))))))))))))))))))))))))))))))))))))))), (10, (.take 0 (.take 1 (.take 2 (.take 5 (.take 6 (.take 7 (.take 3 (.alt false 4 (.eff true 8 (.eff false 9 (.take 10 (.take 11 (.split 11 (.take 12 (.take 13 (.take 14 (.take 15 (.take 17 (.take 18 (.take 19 (.take 20 (.take 16 (.take 21 (.take 22 (.take 23 .done))))))))))))))))) (.eff true 8 (.eff false 4 (.eff false 9 (.take 10 (.take 11 (.split 11 (.take 12 (.take 13 (.take 14 (.take 15 (.take 17 (.take 18 (.take 19 (.take 20 (.take 16 (.take 21 (.take 22 (.take 23 .done))))))))))))))))))))))))))), (18, (.take 0 (.take 3 (.take 1 (.take 4 (.eff true 2 (.eff false 5 (.eff false 6 (.take 7 .done))))))))), (28, (.take 2 (.take 5 (.take 0 (.take 3 (.eff true 1 (.eff false 4 (.eff false 6 (.eff false 7 (.take 8 (.split 8 (.take 9 (.alt false 10 (.eff true 11 (.eff false 12 (.take 13 (.take 14 (.take 15 .done))))) (.eff true 11 (.eff false 10 (.eff false 12 (.take 13 (.take 14 (.take 15 .done)))))))))))))))))))] }
def f4.kp : Keep := [([true, true, true, true, true], [1, 3, 4]), ([false, false, true, false, true, true, true, true, true], [1, 3, 4, 59, 60]), ([false, false, true, false, true, true, true, true, true, true, true], [1, 6, 89, 90, 91]), ([false, false, true, false, true, true, true, true, true, true, true, true, true], [1, 6, 9, 112, 113, 114])]
theorem f4.good : goodCode Tryd.prog f4.T (rootOf Tryd.f4) = true := by kernel_rfl
def f4.j0 (R : Value → Heap → Prop) (a1 : Addr) (A3 : Option Addr) (n3 : Nat) (c3 : Nat) (A4 : Option Addr) (n4 : Nat) (c4 : Nat) (h : Heap) : Prop := Pt Tryd.prog Tryd.f4 R [true, true, true, true, true] (mkFr [(1, (Value.pointer (some a1))), (3, (Value.slice A3 n3 c3)), (4, (Value.slice A4 n4 c4))]) h
def f4.l0 (R : Value → Heap → Prop) (a1 : Addr) (A3 : Option Addr) (n3 : Nat) (c3 : Nat) (A4 : Option Addr) (n4 : Nat) (c4 : Nat) (x59 : Int) (x60 : Int) (h : Heap) : Prop := Pt Tryd.prog Tryd.f4 R [false, false, true, false, true, true, true, true, true] (mkFr [(1, (Value.pointer (some a1))), (3, (Value.slice A3 n3 c3)), (4, (Value.slice A4 n4 c4)), (59, (Value.int .i64 x59)), (60, (Value.int .i64 x60))]) h
def f4.l1 (R : Value → Heap → Prop) (a1 : Addr) (A6 : Option Addr) (n6 : Nat) (c6 : Nat) (A89 : Option Addr) (n89 : Nat) (c89 : Nat) (x90 : Int) (x91 : Int) (h : Heap) : Prop := Pt Tryd.prog Tryd.f4 R [false, false, true, false, true, true, true, true, true, true, true] (mkFr [(1, (Value.pointer (some a1))), (6, (Value.slice A6 n6 c6)), (89, (Value.slice A89 n89 c89)), (90, (Value.int .i64 x90)), (91, (Value.int .i64 x91))]) h
def f4.l2 (R : Value → Heap → Prop) (a1 : Addr) (A6 : Option Addr) (n6 : Nat) (c6 : Nat) (a9 : Addr) (A112 : Option Addr) (n112 : Nat) (c112 : Nat) (x113 : Int) (x114 : Int) (h : Heap) : Prop := Pt Tryd.prog Tryd.f4 R [false, false, true, false, true, true, true, true, true, true, true, true, true] (mkFr [(1, (Value.pointer (some a1))), (6, (Value.slice A6 n6 c6)), (9, (Value.pointer (some a9))), (112, (Value.slice A112 n112 c112)), (113, (Value.int .i64 x113)), (114, (Value.int .i64 x114))]) h
set_option maxRecDepth 100000 in
def f4.j0T (R : Value → Heap → Prop) (a1 : Addr) (A3 : Option Addr) (n3 : Nat) (c3 : Nat) (A4 : Option Addr) (n4 : Nat) (c4 : Nat) (h : Heap) : Prop :=
  f4.l0 R a1 A3 n3 c3 A4 n4 c4 ((n3 : Nat) : Int) (0 : Int) h
set_option maxRecDepth 100000 in
theorem f4.j0_in {R : Value → Heap → Prop} {a1 : Addr} {A3 : Option Addr} {n3 : Nat} {c3 : Nat} {A4 : Option Addr} {n4 : Nat} {c4 : Nat} {h : Heap} (H : f4.j0T R a1 A3 n3 c3 A4 n4 c4 h) : f4.j0 R a1 A3 n3 c3 A4 n4 c4 h :=
  pt_intro mixed f4.good (Eq.mpr (show (Fwd Tryd.prog f4.T f4.kp Tryd.f4 R [true, true, true, true, true] (mkFr [(1, (Value.pointer (some a1))), (3, (Value.slice A3 n3 c3)), (4, (Value.slice A4 n4 c4))]) h) = (f4.j0T R a1 A3 n3 c3 A4 n4 c4 h) by kernel_rfl) H)
set_option maxRecDepth 100000 in
def f4.l0T (R : Value → Heap → Prop) (a1 : Addr) (A3 : Option Addr) (n3 : Nat) (c3 : Nat) (A4 : Option Addr) (n4 : Nat) (c4 : Nat) (x59 : Int) (x60 : Int) (h : Heap) : Prop :=
  splitB (decide (x60 < x59)) (ptrOk A3 fun a1_ => 0 ≤ x60 ∧ x60 < ((n3 : Nat) : Int) ∧ (ptrOk A4 fun a2_ => 0 ≤ x60 ∧ x60 < ((n4 : Nat) : Int) ∧ (∃ v3_, ldv true 8 h (Addr.add a1_ (Int.toNat x60 * 8)) = some v3_ ∧ (Run Tryd.prog 10 #[v3_] h fun v4_ h5_ => ∃ s6_, v4_ = (Value.string s6_) ∧ ∃ v7_, ldv true 8 h5_ (Addr.add a2_ (Int.toNat x60 * 8)) = some v7_ ∧ Ext h5_ h5_ ∧ (Run Tryd.prog 10 #[v7_] h5_ fun v8_ h9_ => ∃ s10_, v8_ = (Value.string s10_) ∧ splitB (!(ByteArray.toList s6_ == ByteArray.toList s10_)) (R (Value.bool false) h9_) (ptrOk A3 fun a11_ => 0 ≤ x60 ∧ x60 < ((n3 : Nat) : Int) ∧ (ptrOk A4 fun a12_ => 0 ≤ x60 ∧ x60 < ((n4 : Nat) : Int) ∧ (∃ v13_, ldv false 1 h9_ (Addr.add (Addr.add a11_ (Int.toNat x60 * 8)) 7) = some v13_ ∧ ∃ x14_, v13_ = (Value.int .i64 x14_) ∧ ∃ v15_, ldv false 1 h9_ (Addr.add (Addr.add a12_ (Int.toNat x60 * 8)) 7) = some v15_ ∧ ∃ x16_, v15_ = (Value.int .i64 x16_) ∧ splitB (x14_ != x16_) (R (Value.bool false) h9_) (f4.l0 R a1 A3 n3 c3 A4 n4 c4 x59 (IntKind.wrap .i64 (x60 + (1 : Int))) h9_)))))) ∧ (∃ v17_, ldv true 8 h (Addr.add a2_ (Int.toNat x60 * 8)) = some v17_ ∧ Ext h h ∧ (Run Tryd.prog 10 #[v3_] h fun v18_ h19_ => ∃ s20_, v18_ = (Value.string s20_) ∧ Run Tryd.prog 10 #[v17_] h19_ fun v21_ h22_ => ∃ s23_, v21_ = (Value.string s23_) ∧ splitB (!(ByteArray.toList s20_ == ByteArray.toList s23_)) (R (Value.bool false) h22_) (ptrOk A3 fun a24_ => 0 ≤ x60 ∧ x60 < ((n3 : Nat) : Int) ∧ (ptrOk A4 fun a25_ => 0 ≤ x60 ∧ x60 < ((n4 : Nat) : Int) ∧ (∃ v26_, ldv false 1 h22_ (Addr.add (Addr.add a24_ (Int.toNat x60 * 8)) 7) = some v26_ ∧ ∃ x27_, v26_ = (Value.int .i64 x27_) ∧ ∃ v28_, ldv false 1 h22_ (Addr.add (Addr.add a25_ (Int.toNat x60 * 8)) 7) = some v28_ ∧ ∃ x29_, v28_ = (Value.int .i64 x29_) ∧ splitB (x27_ != x29_) (R (Value.bool false) h22_) (f4.l0 R a1 A3 n3 c3 A4 n4 c4 x59 (IntKind.wrap .i64 (x60 + (1 : Int))) h22_))))))))) (∃ v30_, ldv false 1 h (Addr.add a1 6) = some v30_ ∧ ∃ A31_, ∃ n31_, ∃ c31_, v30_ = (Value.slice A31_ n31_ c31_) ∧ f4.l1 R a1 none 0 0 A31_ n31_ c31_ ((n31_ : Nat) : Int) (0 : Int) h)
set_option maxRecDepth 100000 in
theorem f4.l0_in {R : Value → Heap → Prop} {a1 : Addr} {A3 : Option Addr} {n3 : Nat} {c3 : Nat} {A4 : Option Addr} {n4 : Nat} {c4 : Nat} {x59 : Int} {x60 : Int} {h : Heap} (H : f4.l0T R a1 A3 n3 c3 A4 n4 c4 x59 x60 h) : f4.l0 R a1 A3 n3 c3 A4 n4 c4 x59 x60 h :=
  pt_intro mixed f4.good (Eq.mpr (show (Fwd Tryd.prog f4.T f4.kp Tryd.f4 R [false, false, true, false, true, true, true, true, true] (mkFr [(1, (Value.pointer (some a1))), (3, (Value.slice A3 n3 c3)), (4, (Value.slice A4 n4 c4)), (59, (Value.int .i64 x59)), (60, (Value.int .i64 x60))]) h) = (f4.l0T R a1 A3 n3 c3 A4 n4 c4 x59 x60 h) by kernel_rfl) H)
set_option maxRecDepth 100000 in
def f4.l1T (R : Value → Heap → Prop) (a1 : Addr) (A6 : Option Addr) (n6 : Nat) (c6 : Nat) (A89 : Option Addr) (n89 : Nat) (c89 : Nat) (x90 : Int) (x91 : Int) (h : Heap) : Prop :=
  splitB (decide (x91 < x90)) (ptrOk A89 fun a1_ => 0 ≤ x91 ∧ x91 < ((n89 : Nat) : Int) ∧ (∃ v2_, ldv true 12 h (Addr.add a1_ (Int.toNat x91 * 12)) = some v2_ ∧ newH h (Obj.cells #[(Value.int .i64 (0 : Int)), (Value.int .i64 (0 : Int)), (Value.string (ByteArray.mk #[])), (Value.slice none 0 0), (Value.int .i64 (0 : Int)), (Value.int .i64 (0 : Int)), (Value.string (ByteArray.mk #[])), (Value.slice none 0 0), (Value.slice none 0 0), (Value.slice none 0 0), (Value.slice none 0 0), (Value.int .i64 (0 : Int))] 50) fun h3_ => ∃ l5_ : List Value, v2_ = Value.agg l5_.toArray ∧ l5_.length = 12 ∧ ∃ h4_, stH h3_ (⟨Array.size h, 0, none⟩) l5_ 0 = some h4_ ∧ ∃ v6_, ldv true 8 h4_ (Addr.add (⟨Array.size h, 0, none⟩) 4) = some v6_ ∧ ∃ l7_ : List Value, v6_ = Value.agg l7_.toArray ∧ l7_.length = 8 ∧ (newH h4_ (Obj.cells ((List.take 0 ([(Value.int .i64 (0 : Int)), (Value.int .i64 (0 : Int)), (Value.string (ByteArray.mk #[])), (Value.slice none 0 0), (Value.slice none 0 0), (Value.slice none 0 0), (Value.slice none 0 0), (Value.int .i64 (0 : Int))]) ++ l7_ ++ List.drop 8 ([(Value.int .i64 (0 : Int)), (Value.int .i64 (0 : Int)), (Value.string (ByteArray.mk #[])), (Value.slice none 0 0), (Value.slice none 0 0), (Value.slice none 0 0), (Value.slice none 0 0), (Value.int .i64 (0 : Int))])).toArray) 40) fun h8_ => AppW 40 8 136 #[(Value.int .i64 (0 : Int)), (Value.int .i64 (0 : Int)), (Value.string (ByteArray.mk #[])), (Value.slice none 0 0), (Value.slice none 0 0), (Value.slice none 0 0), (Value.slice none 0 0), (Value.int .i64 (0 : Int))] A6 n6 c6 (Value.slice (some ⟨Array.size h4_, 0, none⟩) 1 1) h8_ fun v9_ h10_ => ∃ A11_, ∃ n11_, ∃ c11_, v9_ = (Value.slice A11_ n11_ c11_) ∧ ∃ v12_, ldv true 4 h10_ (⟨Array.size h, 0, none⟩) = some v12_ ∧ ∃ v13_, ldv true 4 h10_ (⟨Array.size h, 0, none⟩) = some v13_ ∧ Run Tryd.prog 23 #[v12_] h10_ fun v14_ h15_ => ∃ A16_, ∃ n16_, ∃ c16_, v14_ = (Value.slice A16_ n16_ c16_) ∧ Ext h10_ h15_ ∧ (Run Tryd.prog 24 #[v13_] h15_ fun v17_ h18_ => ∃ A19_, ∃ n19_, ∃ c19_, v17_ = (Value.slice A19_ n19_ c19_) ∧ Run Tryd.prog 20 #[(Value.slice A16_ n16_ c16_), (Value.slice A19_ n19_ c19_)] h18_ fun v20_ h21_ => ∃ b22_, v20_ = (Value.bool b22_) ∧ splitB (!b22_) (R (Value.bool false) h21_) (f4.l1 R a1 A11_ n11_ c11_ A89 n89 c89 x90 (IntKind.wrap .i64 (x91 + (1 : Int))) h21_))))) (∃ v23_, ldv true 8 h a1 = some v23_ ∧ Run Tryd.prog 25 #[v23_] h fun v24_ h25_ => newH h25_ (Obj.cells #[(Value.int .i64 (0 : Int)), (Value.int .i64 (0 : Int)), (Value.string (ByteArray.mk #[])), (Value.slice none 0 0), (Value.slice none 0 0), (Value.slice none 0 0), (Value.slice none 0 0), (Value.int .i64 (0 : Int))] 40) fun h26_ => ∃ l28_ : List Value, v24_ = Value.agg l28_.toArray ∧ l28_.length = 8 ∧ ∃ h27_, stH h26_ (⟨Array.size h25_, 0, none⟩) l28_ 0 = some h27_ ∧ ∃ v29_, ldv true 8 h27_ (⟨Array.size h25_, 0, none⟩) = some v29_ ∧ Run Tryd.prog 14 #[v29_] h27_ fun v30_ h31_ => ∃ A32_, ∃ n32_, ∃ c32_, v30_ = (Value.slice A32_ n32_ c32_) ∧ f4.l2 R a1 A6 n6 c6 (⟨Array.size h25_, 0, none⟩) A32_ n32_ c32_ ((n32_ : Nat) : Int) (0 : Int) h31_)
set_option maxRecDepth 100000 in
theorem f4.l1_in {R : Value → Heap → Prop} {a1 : Addr} {A6 : Option Addr} {n6 : Nat} {c6 : Nat} {A89 : Option Addr} {n89 : Nat} {c89 : Nat} {x90 : Int} {x91 : Int} {h : Heap} (H : f4.l1T R a1 A6 n6 c6 A89 n89 c89 x90 x91 h) : f4.l1 R a1 A6 n6 c6 A89 n89 c89 x90 x91 h :=
  pt_intro mixed f4.good (Eq.mpr (show (Fwd Tryd.prog f4.T f4.kp Tryd.f4 R [false, false, true, false, true, true, true, true, true, true, true] (mkFr [(1, (Value.pointer (some a1))), (6, (Value.slice A6 n6 c6)), (89, (Value.slice A89 n89 c89)), (90, (Value.int .i64 x90)), (91, (Value.int .i64 x91))]) h) = (f4.l1T R a1 A6 n6 c6 A89 n89 c89 x90 x91 h) by kernel_rfl) H)
set_option maxRecDepth 100000 in
def f4.l2T (R : Value → Heap → Prop) (a1 : Addr) (A6 : Option Addr) (n6 : Nat) (c6 : Nat) (a9 : Addr) (A112 : Option Addr) (n112 : Nat) (c112 : Nat) (x113 : Int) (x114 : Int) (h : Heap) : Prop :=
  splitB (decide (x114 < x113)) (ptrOk A112 fun a1_ => 0 ≤ x114 ∧ x114 < ((n112 : Nat) : Int) ∧ (∃ v2_, ldv true 8 h (Addr.add a1_ (Int.toNat x114 * 8)) = some v2_ ∧ newH h (Obj.cells #[(Value.int .i64 (0 : Int)), (Value.int .i64 (0 : Int)), (Value.string (ByteArray.mk #[])), (Value.slice none 0 0), (Value.slice none 0 0), (Value.slice none 0 0), (Value.slice none 0 0), (Value.int .i64 (0 : Int))] 40) fun h3_ => ∃ l5_ : List Value, v2_ = Value.agg l5_.toArray ∧ l5_.length = 8 ∧ ∃ h4_, stH h3_ (⟨Array.size h, 0, none⟩) l5_ 0 = some h4_ ∧ ∃ v6_, ldv false 1 h4_ (Addr.add (⟨Array.size h, 0, none⟩) 7) = some v6_ ∧ ∃ x7_, v6_ = (Value.int .i64 x7_) ∧ splitB (x7_ != (0 : Int)) (R (Value.bool false) h4_) (f4.l2 R a1 A6 n6 c6 a9 A112 n112 c112 x113 (IntKind.wrap .i64 (x114 + (1 : Int))) h4_))) (∃ v8_, ldv true 8 h a1 = some v8_ ∧ ∃ v9_, ldv false 1 h (Addr.add a1 5) = some v9_ ∧ ∃ A10_, ∃ n10_, ∃ c10_, v9_ = (Value.slice A10_ n10_ c10_) ∧ Run Tryd.prog 27 #[v8_] h fun v11_ h12_ => ∃ A13_, ∃ n13_, ∃ c13_, v11_ = (Value.slice A13_ n13_ c13_) ∧ Ext h h12_ ∧ (Run Tryd.prog 28 #[(Value.slice A10_ n10_ c10_)] h12_ fun v14_ h15_ => ∃ A16_, ∃ n16_, ∃ c16_, v14_ = (Value.slice A16_ n16_ c16_) ∧ AppW 40 8 136 #[(Value.int .i64 (0 : Int)), (Value.int .i64 (0 : Int)), (Value.string (ByteArray.mk #[])), (Value.slice none 0 0), (Value.slice none 0 0), (Value.slice none 0 0), (Value.slice none 0 0), (Value.int .i64 (0 : Int))] A16_ n16_ c16_ (Value.slice A6 n6 c6) h15_ fun v17_ h18_ => ∃ A19_, ∃ n19_, ∃ c19_, v17_ = (Value.slice A19_ n19_ c19_) ∧ Run Tryd.prog 26 #[(Value.slice A13_ n13_ c13_), (Value.slice A19_ n19_ c19_), (Value.func (.func 11) #[] #[])] h18_ fun v20_ h21_ => ∃ b22_, v20_ = (Value.bool b22_) ∧ splitB b22_ (∃ v23_, ldv true 8 h21_ a9 = some v23_ ∧ (Run Tryd.prog 10 #[v23_] h21_ fun v24_ h25_ => ∃ s26_, v24_ = (Value.string s26_) ∧ ∃ v27_, ldv true 8 h25_ a1 = some v27_ ∧ Ext h25_ h25_ ∧ (Run Tryd.prog 10 #[v27_] h25_ fun v28_ h29_ => ∃ s30_, v28_ = (Value.string s30_) ∧ R (Value.bool (ByteArray.toList s26_ == ByteArray.toList s30_)) h29_)) ∧ (∃ v31_, ldv true 8 h21_ a1 = some v31_ ∧ Ext h21_ h21_ ∧ (Run Tryd.prog 10 #[v23_] h21_ fun v32_ h33_ => ∃ s34_, v32_ = (Value.string s34_) ∧ Run Tryd.prog 10 #[v31_] h33_ fun v35_ h36_ => ∃ s37_, v35_ = (Value.string s37_) ∧ R (Value.bool (ByteArray.toList s34_ == ByteArray.toList s37_)) h36_))) ((Ext h21_ h21_ ∧ (R (Value.bool false) h21_)) ∧ (Ext h21_ h21_ ∧ (R (Value.bool false) h21_)))))
set_option maxRecDepth 100000 in
theorem f4.l2_in {R : Value → Heap → Prop} {a1 : Addr} {A6 : Option Addr} {n6 : Nat} {c6 : Nat} {a9 : Addr} {A112 : Option Addr} {n112 : Nat} {c112 : Nat} {x113 : Int} {x114 : Int} {h : Heap} (H : f4.l2T R a1 A6 n6 c6 a9 A112 n112 c112 x113 x114 h) : f4.l2 R a1 A6 n6 c6 a9 A112 n112 c112 x113 x114 h :=
  pt_intro mixed f4.good (Eq.mpr (show (Fwd Tryd.prog f4.T f4.kp Tryd.f4 R [false, false, true, false, true, true, true, true, true, true, true, true, true] (mkFr [(1, (Value.pointer (some a1))), (6, (Value.slice A6 n6 c6)), (9, (Value.pointer (some a9))), (112, (Value.slice A112 n112 c112)), (113, (Value.int .i64 x113)), (114, (Value.int .i64 x114))]) h) = (f4.l2T R a1 A6 n6 c6 a9 A112 n112 c112 x113 x114 h) by kernel_rfl) H)
set_option maxRecDepth 100000 in
def f4.runT (R : Value → Heap → Prop) (v0 : Value) (h : Heap) : Prop :=
  newH h (Obj.cells ((v0).cells) 40) fun h1_ => ∃ v2_, ldv true 8 h1_ (⟨Array.size h, 0, none⟩) = some v2_ ∧ Run Tryd.prog 12 #[v2_] h1_ fun v3_ h4_ => ∃ x5_, v3_ = (Value.int .i64 x5_) ∧ splitB (decide (x5_ > (400 : Int))) (R (Value.bool true) h4_) (∃ v6_, ldv true 8 h4_ (⟨Array.size h, 0, none⟩) = some v6_ ∧ Run Tryd.prog 13 #[v6_] h4_ fun v7_ h8_ => ∃ A9_, ∃ n9_, ∃ c9_, v7_ = (Value.slice A9_ n9_ c9_) ∧ ∃ v10_, ldv true 8 h8_ (⟨Array.size h, 0, none⟩) = some v10_ ∧ Run Tryd.prog 14 #[v10_] h8_ fun v11_ h12_ => ∃ A13_, ∃ n13_, ∃ c13_, v11_ = (Value.slice A13_ n13_ c13_) ∧ splitB (((n9_ : Nat) : Int) != ((n13_ : Nat) : Int)) (Ext h12_ h12_ ∧ (Ext h12_ h12_ ∧ (Ext h12_ h12_ ∧ (Ext h12_ h12_ ∧ (R (Value.bool false) h12_))))) (splitB (((n9_ : Nat) : Int) == (0 : Int)) (Ext h12_ h12_ ∧ (Ext h12_ h12_ ∧ (Ext h12_ h12_ ∧ (Ext h12_ h12_ ∧ (R (Value.bool false) h12_))))) (∃ v14_, ldv true 8 h12_ (⟨Array.size h, 0, none⟩) = some v14_ ∧ ∃ v15_, ldv true 8 h12_ (⟨Array.size h, 0, none⟩) = some v15_ ∧ Run Tryd.prog 15 #[v14_] h12_ fun v16_ h17_ => ∃ x18_, v16_ = (Value.int .i64 x18_) ∧ Ext h12_ h17_ ∧ (Run Tryd.prog 12 #[v15_] h17_ fun v19_ h20_ => ∃ x21_, v19_ = (Value.int .i64 x21_) ∧ splitB (x18_ != x21_) (Ext h20_ h20_ ∧ (Ext h20_ h20_ ∧ (Ext h20_ h20_ ∧ (R (Value.bool false) h20_)))) (∃ v22_, ldv true 8 h20_ (⟨Array.size h, 0, none⟩) = some v22_ ∧ ∃ v23_, ldv true 8 h20_ (⟨Array.size h, 0, none⟩) = some v23_ ∧ Run Tryd.prog 16 #[v22_] h20_ fun v24_ h25_ => ∃ x26_, v24_ = (Value.int .i64 x26_) ∧ Ext h20_ h25_ ∧ (Run Tryd.prog 17 #[v23_] h25_ fun v27_ h28_ => ∃ x29_, v27_ = (Value.int .i64 x29_) ∧ splitB (x26_ != x29_) (Ext h28_ h28_ ∧ (Ext h28_ h28_ ∧ (R (Value.bool false) h28_))) (∃ v30_, ldv true 8 h28_ (⟨Array.size h, 0, none⟩) = some v30_ ∧ ∃ v31_, ldv true 8 h28_ (⟨Array.size h, 0, none⟩) = some v31_ ∧ Run Tryd.prog 18 #[v30_] h28_ fun v32_ h33_ => ∃ x34_, v32_ = (Value.int .i64 x34_) ∧ Ext h28_ h33_ ∧ (Run Tryd.prog 19 #[v31_] h33_ fun v35_ h36_ => ∃ x37_, v35_ = (Value.int .i64 x37_) ∧ splitB (x34_ != x37_) (Ext h36_ h36_ ∧ (R (Value.bool false) h36_)) (∃ v38_, ldv true 8 h36_ (⟨Array.size h, 0, none⟩) = some v38_ ∧ ∃ v39_, ldv true 8 h36_ (⟨Array.size h, 0, none⟩) = some v39_ ∧ Run Tryd.prog 21 #[v38_] h36_ fun v40_ h41_ => ∃ A42_, ∃ n42_, ∃ c42_, v40_ = (Value.slice A42_ n42_ c42_) ∧ Ext h36_ h41_ ∧ (Run Tryd.prog 22 #[v39_] h41_ fun v43_ h44_ => ∃ A45_, ∃ n45_, ∃ c45_, v43_ = (Value.slice A45_ n45_ c45_) ∧ Run Tryd.prog 20 #[(Value.slice A42_ n42_ c42_), (Value.slice A45_ n45_ c45_)] h44_ fun v46_ h47_ => ∃ b48_, v46_ = (Value.bool b48_) ∧ splitB (!b48_) (R (Value.bool false) h47_) (f4.j0 R (⟨Array.size h, 0, none⟩) A9_ n9_ c9_ A13_ n13_ c13_ h47_)))))))))))
set_option maxRecDepth 100000 in
theorem f4.run {R : Value → Heap → Prop} {v0 : Value} {h : Heap} (H : f4.runT R v0 h) : Run Tryd.prog 4 #[v0] h R :=
  run_of mixed Tryd.func4 (by kernel_rfl) (by kernel_rfl) f4.good (Eq.mpr (show (Fwd Tryd.prog f4.T f4.kp Tryd.f4 R [] (mkFr (argL [v0] 0)) h) = (f4.runT R v0 h) by kernel_rfl) H)
end Go.Proofs.YtnlocljmalhddabDoor.Fw

end
section
namespace Go.Hw
open Go
section tests
variable {A B : Prop}
theorem split_not {b : Bool} (h : splitB b B A) : splitB (!b) A B := by cases b <;> exact h
theorem split_t (h : A) : splitB true A B := h
theorem split_f (h : B) : splitB false A B := h
end tests
theorem wrap_in {n : Int} (h0 : -9223372036854775808 ≤ n) (h1 : n ≤ 9223372036854775807) : IntKind.wrap .i64 n = n := by
  rcases Int.le_total 0 n with h | h
  · exact wrap_nat h h1
  · rcases (show n = 0 ∨ n < 0 by omega) with h2 | h2
    · subst h2; rfl
    have e : n % (2 ^ 64 : Int) = n + 2 ^ 64 := by omega
    simp only [IntKind.wrap, IntKind.signed, IntKind.bits, e, Bool.true_and]
    rw [if_pos (by simp only [decide_eq_true_eq]; omega)]
    omega
theorem add_add (a : Addr) (m n : Nat) : (a.add m).add n = a.add (m + n) := by
  unfold Addr.add
  by_cases h1 : m = 0
  · subst h1; simp
  · by_cases h2 : n = 0
    · subst h2; simp
    · have h3 : m + n ≠ 0 := by omega
      simp only [if_neg h1, if_neg h2, if_neg h3]
      rw [Nat.add_assoc]
theorem add_block (a : Addr) (n : Nat) : (a.add n).block = a.block := by unfold Addr.add; split <;> rfl
theorem add_off (a : Addr) (n : Nat) : (a.add n).off = a.off + n := by
  unfold Addr.add
  split
  · rename_i h; subst h; rfl
  · rfl
theorem add_spot {a : Addr} (n : Nat) (h : a.spot = none) : (a.add n).spot = none := by unfold Addr.add; split; exact h; rfl
def Blk (h : Heap) (b : Nat) (c : List Value) (t : TypeId) : Prop := h[b]? = some (.cells c.toArray t (0, 0))
def Only (h h' : Heap) (b : Nat) : Prop := h'.size = h.size ∧ ∀ i, i ≠ b → h'[i]? = h[i]?
section
variable {h h' : Heap} {b : Nat} {c : List Value} {t : TypeId}
theorem Blk.lt (hb : Blk h b c t) : b < h.size := (Array.getElem?_eq_some_iff.1 hb).1
theorem Blk.cell (hb : Blk h b c t) {a : Addr} {v : Value} (h1 : a.block = b) (h2 : a.spot = none) (h3 : c[a.off]? = some v) : cellH h a = some v := by
  unfold cellH Blk at *
  rw [h1, hb, h2]
  simpa using h3
theorem Blk.cells (hb : Blk h b c t) {a : Addr} (h1 : a.block = b) (h2 : a.spot = none) : ∀ (n i : Nat), a.off + i + n ≤ c.length → cellsH h a i n = some ((c.drop (a.off + i)).take n) := by
  intro n
  induction n with
  | zero => intro i _; simp [cellsH]
  | succ n ih =>
    intro i hle
    have hlt : a.off + i < c.length := by omega
    have h3 : c[(a.add i).off]? = some c[a.off + i] := by rw [add_off]; exact List.getElem?_eq_getElem hlt
    simp only [cellsH, hb.cell (a := a.add i) (by rw [add_block]; exact h1) (add_spot i h2) h3, ih (i + 1) (by omega)]
    rw [List.drop_eq_getElem_cons hlt, List.take_succ_cons]
    rfl
theorem Blk.st (hb : Blk h b c t) {a : Addr} {v : Value} (h1 : a.block = b) (h2 : a.spot = none) (h3 : a.off < c.length) (h4 : oneCell v True) :
    ∃ h', st1 h a v = some h' ∧ Blk h' b (c.set a.off v) t ∧ Only h h' b := by
  have hc : cellH h a = some c[a.off] := hb.cell h1 h2 (List.getElem?_eq_getElem h3)
  have hf : frozenH h a = false := by
    unfold frozenH
    rw [h1, show h[b]? = some (.cells c.toArray t (0, 0)) from hb]
    simp
  refine ⟨setH h a v, ?_, ?_, ?_⟩
  · cases v <;> simp_all [st1, oneCell]
  · unfold Blk setH
    rw [Array.getElem?_modify, if_pos h1.symm.symm, show h[b]? = some (.cells c.toArray t (0, 0)) from hb]
    simp [h2]
  · refine ⟨by simp [setH], fun i hi => ?_⟩
    unfold setH
    rw [Array.getElem?_modify, if_neg (by rw [h1]; exact fun e => hi e.symm)]
theorem Blk.new (h : Heap) (c : Array Value) (t : TypeId) : Blk (h.push (.cells c t)) h.size c.toList t := by
  unfold Blk; simp
theorem Ext.push (h : Heap) (o : Obj) : Ext h (h.push o) := ⟨by simp, fun i hi => by rw [Array.getElem?_push, if_neg (by omega)]⟩
theorem Only.refl (h : Heap) (b : Nat) : Only h h b := ⟨rfl, fun _ _ => rfl⟩
theorem Only.trans {h'' : Heap} {b : Nat} (o : Only h h' b) (p : Only h' h'' b) : Only h h'' b := ⟨p.1.trans o.1, fun i hi => (p.2 i hi).trans (o.2 i hi)⟩
end
def Rd {α : Type} (sz : Nat) (E : Heap → α → List Value → Prop) (h : Heap) (A : Option Addr) (l : List α) : Prop :=
  ∀ i (hi : i < l.length), ∃ a cs, A = some a ∧ cellsH h (a.add (i * sz)) 0 sz = some cs ∧ E h l[i] cs
def eInt (k : IntKind) (_ : Heap) (x : Int) (cs : List Value) : Prop := cs = [.int k x]
def eStr (_ : Heap) (x : ByteArray) (cs : List Value) : Prop := cs = [.string x]
def eRow {α : Type} (sz : Nat) (E : Heap → α → List Value → Prop) (h : Heap) (l : List α) (cs : List Value) : Prop := ∃ A c, cs = [.slice A l.length c] ∧ l.length ≤ c ∧ Rd sz E h A l
section
variable {α : Type} {sz : Nat} {E : Heap → α → List Value → Prop} {h h' : Heap} {A : Option Addr} {l : List α}
theorem Rd.nil : Rd sz E h A ([] : List α) := fun i hi => by cases hi
end
theorem CallF.of {P : Program} {f : FuncId} {first captured : Array Value} {args : List Value} {h : Heap} {R : Value → Heap → Prop} (l : List Value) (hc : calleeOk P f = true) (hl : first.toList ++ args ++ captured.toList = l) (hr : Run P f l.toArray h R) :
    CallF P (.func (.func f) first captured) args h R := by
  unfold CallF
  simp only [hc, hl]
  exact hr
theorem newH_in {h : Heap} {c : Array Value} {t : TypeId} {K : Heap → Prop} (H : ∀ h', Blk h' h.size c.toList t → Ext h h' → h'.size = h.size + 1 → K h') : newH h (.cells c t) K :=
  H _ (Blk.new _ _ _) (Ext.push _ _) (by simp)
end Go.Hw

end
section
namespace Go.Hw
open Go Go.RowKit
theorem below_of {W W' : World} (e : Ext W.heap W'.heap) (s : Same W W') : Below W.heap.size W W' := ⟨s.os, s.tape, s.output, e.1, e.2⟩
section
variable {H : Type} {enc : TypeId × Value → H} {P : Program} {W : World}
theorem cells_of {base : Nat} {a : Addr} {n : Nat} {cs : List Value} (hc : W.cells? base a n = some cs) : cellsH W.heap a 0 n = some cs := by
  obtain ⟨_, hlen, hget⟩ := World.cells?_some hc
  have key : ∀ (m i : Nat), i + m = n → cellsH W.heap a i m = some (cs.drop i) := by
    intro m
    induction m with
    | zero =>
      intro i hi
      rw [List.drop_eq_nil_of_le (by omega)]
      rfl
    | succ m ih =>
      intro i hi
      have hlt : i < cs.length := by omega
      have h1 : cellH W.heap (a.add i) = some cs[i] := (hget i (by omega)).trans (List.getElem?_eq_getElem hlt)
      simp only [cellsH, h1, ih (i + 1) (by omega)]
      rw [List.drop_eq_getElem_cons hlt]
  simpa using key n 0 (by omega)
def Tells {α : Type} (enc : TypeId × Value → H) (P : Program) (W : World) (t : TypeId) (E : Heap → α → List Value → Prop) (Q : α → Prop) : Prop :=
  ∀ (fuel : Nat) (cs : List Value) (x : DataW H × List MemPlace), DataW.trod enc P W 0 (fun _ => true) true fuel t cs = some x → (x.1.weights P t).all (· ≤ reachBytes) = true → ∃ a, E W.heap a cs ∧ Q a
theorem tells_int {t : TypeId} {k : IntKind} (hu : P.underlying t = some (.int k)) : Tells enc P W t (eInt k) (fun x => (Lit.int k x).wf = true) := by
  intro fuel cs x h _
  obtain ⟨n, h1, _, h3⟩ := DataW.trod_int hu h
  exact ⟨n, h1, h3⟩
theorem tells_str {t : TypeId} (hu : P.underlying t = some .string) : Tells enc P W t eStr (fun s => s.size ≤ reachBytes) := by
  intro fuel cs x h hw
  obtain ⟨s, h1, h2, _⟩ := DataW.trod_string hu h
  refine ⟨s, h1, ?_⟩
  rw [h2] at hw
  simp only [DataW.weights, List.all_cons, List.all_nil, Bool.and_true, decide_eq_true_eq] at hw
  simpa using hw
theorem weightsAll_all {e : TypeId} : ∀ (l : List (DataW H)), (DataW.weightsAll P e l).all (· ≤ reachBytes) = true → ∀ d ∈ l, (d.weights P e).all (· ≤ reachBytes) = true := by
  intro l
  induction l with
  | nil => intro _ d hd; cases hd
  | cons x l ih =>
    intro h d hd
    simp only [DataW.weightsAll, List.all_append, Bool.and_eq_true] at h
    rcases List.mem_cons.1 hd with rfl | hd
    · exact h.1
    · exact ih h.2 d hd
theorem list_choose {α : Type} {n : Nat} {p : Nat → α → Prop} (h : ∀ i, i < n → ∃ x, p i x) : ∃ l : List α, l.length = n ∧ ∀ i (hi : i < l.length), p i l[i] := by
  induction n with
  | zero => exact ⟨[], rfl, fun i hi => by cases hi⟩
  | succ n ih =>
    obtain ⟨l, h1, h2⟩ := ih fun i hi => h i (by omega)
    obtain ⟨x, hx⟩ := h n (by omega)
    refine ⟨l ++ [x], by simp [h1], fun i hi => ?_⟩
    rw [List.length_append, List.length_singleton] at hi
    by_cases hin : i < l.length
    · rw [List.getElem_append_left hin]; exact h2 i hin
    · have : i = l.length := by omega
      subst this
      rw [List.getElem_append_right (Nat.le_refl _)]
      simp only [Nat.sub_self, List.getElem_cons_zero]
      rw [h1]; exact hx
theorem tells_slice {α : Type} {t e : TypeId} {sz B : Nat} {E : Heap → α → List Value → Prop} {Q : α → Prop} (hu : P.underlying t = some (.slice e)) (hc : P.cellsOf e = sz) (hB : P.bytesOf e = B) (he : Tells enc P W e E Q) :
    Tells enc P W t (eRow sz E) (fun l => l.length * B ≤ reachBytes ∧ ∀ a ∈ l, Q a) := by
  intro fuel cs x h hw
  rcases DataW.trod_slice hu h with ⟨h1, h2⟩ | ⟨a, len, cap, elems, rest, n, _, h1, h2, _, hl, hm, hlen, hel, _, _⟩
  · exact ⟨[], ⟨none, 0, h1, Nat.le_refl _, Rd.nil⟩, by simp, fun a ha => by cases ha⟩
  · rw [h2] at hw
    simp only [DataW.weights, hu, List.all_cons, List.all_append, Bool.and_eq_true, decide_eq_true_eq] at hw
    obtain ⟨hw1, hw2, _⟩ := hw
    have hall := weightsAll_all _ hw2
    obtain ⟨l, h3, h4⟩ := list_choose (n := len) (p := fun i x => (∃ cs', cellsH W.heap (a.add (i * sz)) 0 sz = some cs' ∧ E W.heap x cs') ∧ Q x) (fun i hi => by
      have h5 := hel i hi
      have hlt : i < elems.length := by omega
      rw [List.getElem?_eq_getElem hlt] at h5
      obtain ⟨cs', h6, h7⟩ := Option.bind_eq_some_iff.1 h5
      obtain ⟨x, h8, h9⟩ := he _ _ _ h7 (hall _ (List.mem_map.2 ⟨_, List.getElem_mem hlt, rfl⟩))
      rw [hc] at h6
      exact ⟨x, ⟨cs', cells_of h6, h8⟩, h9⟩)
    refine ⟨l, ⟨some a, cap, by rw [h1, h3], by omega, fun i hi => ?_⟩, ?_, fun x hx => ?_⟩
    · obtain ⟨⟨cs', h5, h6⟩, _⟩ := h4 i hi
      exact ⟨a, cs', rfl, h5, h6⟩
    · rw [hB] at hw1
      have : l.length ≤ (List.map (·.1) elems).length + (List.map (·.1) rest).length := by simp; omega
      exact Nat.le_trans (Nat.mul_le_mul_right _ this) hw1
    · obtain ⟨i, hi, rfl⟩ := List.getElem_of_mem hx
      exact (h4 i hi).2
end
theorem wf_i64 {x : Int} (h : (Lit.int .i64 x).wf = true) : -9223372036854775808 ≤ x ∧ x ≤ 9223372036854775807 := by
  simpa [Lit.wf, IntKind.min, IntKind.max, IntKind.signed, IntKind.bits] using h
end Go.Hw

end
section
namespace Go.Hw
open Go
def Flat (v : Value) : Prop := oneCell v True
theorem Blk.stH {b : Nat} {t : TypeId} : ∀ (xs : List Value) {h : Heap} {p q r : List Value} {a : Addr} {i : Nat}, Blk h b (p ++ q ++ r) t → a.block = b → a.spot = none → a.off + i = p.length → q.length = xs.length → (∀ v ∈ xs, Flat v) →
    ∃ h', stH h a xs i = some h' ∧ Blk h' b (p ++ xs ++ r) t ∧ Only h h' b := by
  intro xs
  induction xs with
  | nil =>
    intro h p q r a i hb h1 h2 h3 h4 h5
    rw [List.length_eq_zero_iff.1 h4] at hb
    exact ⟨h, rfl, hb, .refl _ _⟩
  | cons v xs ih =>
    intro h p q r a i hb h1 h2 h3 h4 h5
    obtain ⟨u, q', rfl⟩ : ∃ u q', q = u :: q' := by cases q with | nil => cases h4 | cons u q' => exact ⟨u, q', rfl⟩
    have hoff : (a.add i).off = p.length := by rw [add_off, h3]
    obtain ⟨h', s1, b1, o1⟩ := hb.st (a := a.add i) (v := v) (by rw [add_block, h1]) (add_spot _ h2) (by rw [hoff]; simp) (h5 v (List.mem_cons_self ..))
    rw [hoff] at b1
    have e : (p ++ u :: q' ++ r).set p.length v = (p ++ [v]) ++ q' ++ r := by
      rw [List.append_assoc, List.set_append_right _ _ (Nat.le_refl _)]; simp
    rw [e] at b1
    obtain ⟨h'', s2, b2, o2⟩ := ih (p := p ++ [v]) (q := q') (r := r) (a := a) (i := i + 1) b1 h1 h2 (by simp; omega) (by simpa using h4) (fun x hx => h5 x (List.mem_cons_of_mem _ hx))
    refine ⟨h'', ?_, by simpa using b2, o1.trans o2⟩
    simp only [Go.Hw.stH, s1, s2]
theorem zcells_size (z : Array Value) (n : Nat) : (zcells z n).size = n * z.size := by
  unfold zcells Builtin.zeroCells
  simp
end Go.Hw

end
section
namespace Go.Hw
open Go Go.RowKit
theorem cellsH_get {h : Heap} {a : Addr} : ∀ {n i : Nat} {cs : List Value} {k : Nat} {v : Value}, cellsH h a i n = some cs → cs[k]? = some v → cellH h (a.add (i + k)) = some v := by
  intro n
  induction n with
  | zero => intro i cs k v hc hv; simp only [cellsH, Option.some.injEq] at hc; subst hc; cases hv
  | succ n ih =>
    intro i cs k v hc hv
    simp only [cellsH] at hc
    split at hc
    · rename_i u hu
      split at hc
      · rename_i vs hvs
        cases hc
        cases k with
        | zero => cases hv; exact hu
        | succ k => rw [show i + (k + 1) = i + 1 + k by omega]; exact ih hvs (by simpa using hv)
      · cases hc
    · cases hc
section
variable {α : Type} {sz : Nat} {E : Heap → α → List Value → Prop} {h h' : Heap} {A : Option Addr} {l : List α}
theorem cellsH_append {h : Heap} {a : Addr} : ∀ {m i n : Nat} {cs ds : List Value}, cellsH h a i m = some cs → cellsH h a (i + m) n = some ds → cellsH h a i (m + n) = some (cs ++ ds) := by
  intro m
  induction m with
  | zero => intro i n cs ds h1 h2; simp only [cellsH, Option.some.injEq] at h1; subst h1; simpa using h2
  | succ m ih =>
    intro i n cs ds h1 h2
    simp only [cellsH] at h1
    split at h1
    · rename_i u hu
      split at h1
      · rename_i vs hvs
        cases h1
        rw [show m + 1 + n = (m + n) + 1 by omega]
        have h3 := ih hvs (n := n) (ds := ds) (by rw [show i + 1 + m = i + (m + 1) by omega]; exact h2)
        simp only [cellsH, hu, h3, List.cons_append]
      · cases h1
    · cases h1
theorem cellsH_shift {h : Heap} {a : Addr} {j : Nat} : ∀ {n i : Nat}, cellsH h (a.add j) i n = cellsH h a (j + i) n := by
  intro n
  induction n with
  | zero => intro i; rfl
  | succ n ih =>
    intro i
    simp only [cellsH, add_add]
    rw [ih, Nat.add_assoc]
end
theorem Blk.stAll {h : Heap} {b : Nat} {c : List Value} {t : TypeId} (hb : Blk h b c t) (l : List Value) (hn : l.length = c.length) (hf : ∀ v ∈ l, Flat v) :
    ∃ h', Go.Hw.stH h ⟨b, 0, none⟩ l 0 = some h' ∧ Blk h' b l t ∧ Only h h' b := by
  obtain ⟨h', s1, b1, o1⟩ := Blk.stH l (p := []) (q := c) (r := []) (a := ⟨b, 0, none⟩) (i := 0) (by simpa using hb) rfl rfl rfl hn.symm hf
  exact ⟨h', s1, by simpa using b1, o1⟩
section
variable {P : Program} {d : Nat} {t : TypeId}
def flatB (P : Program) (t : TypeId) (x y : Value) : Option Bool :=
  match P.underlying t, x, y with
  | some (.int _), .int k a, .int k' b => match kindB k k' with | true => some (a == b) | false => none
  | some .bool, .bool a, .bool b => some (a == b)
  | some .string, .string a, .string b => some (a == b)
  | _, _, _ => none
end
section
variable {H : Type} {enc : TypeId × Value → H} {P : Program} {W : World}
def eNil (_ : Heap) (_ : Unit) (cs : List Value) : Prop := cs = []
def eCons {α β : Type} (E : Heap → α → List Value → Prop) (F : Heap → β → List Value → Prop) (h : Heap) (x : α × β) (cs : List Value) : Prop := ∃ c1 c2, cs = c1 ++ c2 ∧ E h x.1 c1 ∧ F h x.2 c2
def shapeOf (P : Program) (t : TypeId) : Option (List (TypeId × Nat)) := match P.underlying t with | some (.struct fs) => some (fs.toList.map fun f => (f.type, f.offset)) | _ => none
theorem tells_map {α β : Type} {E : Heap → α → List Value → Prop} {F : Heap → β → List Value → Prop} {Q : α → Prop} {Q' : β → Prop} {t : TypeId} (he : Tells enc P W t E Q) (hm : ∀ a cs, E W.heap a cs → Q a → ∃ b, F W.heap b cs ∧ Q' b) : Tells enc P W t F Q' :=
  fun fuel cs x h hw => let ⟨a, ha, qa⟩ := he fuel cs x h hw; hm a cs ha qa
theorem okWide_agg_of {t : TypeId} {fs : List (TypeId × Nat)} {v : Value} {r : Reach} {base : Nat} (hs : shapeOf P t = some fs) (h : Value.okWide P W r base t v) : ∃ cs : List Value, v = .agg cs.toArray := by
  unfold shapeOf at hs
  split at hs
  · rename_i fa hu
    simp only [Value.okWide, hu] at h
    cases v <;> simp_all
    rename_i xs
    exact ⟨xs.toList, by simp⟩
  · cases hs
end
end Go.Hw

end
section
namespace Go.Hw
open Go
theorem ba_toList {a b : ByteArray} (h : a.toList = b.toList) : a = b := by
  rw [ByteArray.toList_eq, ByteArray.toList_eq] at h
  obtain ⟨⟨x⟩⟩ := a
  obtain ⟨⟨y⟩⟩ := b
  have : x = y := h
  rw [this]
end Go.Hw

end
section
namespace Go.Hw
open Go
end Go.Hw

end
section
namespace Go.Hw
open Go
end Go.Hw

end
section
namespace Go.Hw
open Go
def dead : Obj := .cells #[] 0 (0, 0)
def Live (m : Heap) (b : Nat) : Prop := ∃ o, m[b]? = some o ∧ o ≠ dead
def Sub (m h : Heap) : Prop := ∀ (b : Nat) (o : Obj), m[b]? = some o → o ≠ dead → h[b]? = some o
abbrev No : Nat → Prop := fun _ => False
section
variable {m m' h h' k h0 m0 : Heap} {b : Nat} {W W' : Nat → Prop}
theorem Sub.refl (h : Heap) : Sub h h := fun _ _ h _ => h
theorem Sub.trans (s : Sub m h) (t : Sub h k) : Sub m k := fun b o h1 h2 => t b o (s b o h1 h2) h2
theorem Sub.lt (s : Sub m h) (l : Live m b) : b < h.size := by
  obtain ⟨o, h1, h2⟩ := l
  exact (Array.getElem?_eq_some_iff.1 (s b o h1 h2)).1
theorem Sub.ext (s : Sub m h) (e : Ext h h') : Sub m h' := fun b o h1 h2 => by rw [e.2 b (s.lt ⟨o, h1, h2⟩)]; exact s b o h1 h2
theorem Sub.cell (s : Sub m h) {a : Addr} {v : Value} (hc : cellH m a = some v) : cellH h a = some v := by
  unfold cellH at hc
  split at hc
  · rename_i c e f hm
    have hne : (Obj.cells c e f) ≠ dead := by
      intro hd
      unfold dead at hd
      cases hd
      split at hc <;> simp at hc
    unfold cellH
    rw [s _ _ hm hne]; exact hc
  · cases hc
theorem Sub.cells (s : Sub m h) {a : Addr} : ∀ (n i : Nat) {vs : List Value}, cellsH m a i n = some vs → cellsH h a i n = some vs := by
  intro n
  induction n with
  | zero => intro i vs hc; exact hc
  | succ n ih =>
    intro i vs hc
    simp only [cellsH] at hc ⊢
    split at hc
    · rename_i v hv
      rw [s.cell hv]
      split at hc
      · rename_i us hu
        rw [ih _ hu]; exact hc
      · cases hc
    · cases hc
end
structure Tell {α : Type} (sz : Nat) (E : Heap → α → List Value → Prop) : Prop where
  mono : ∀ m h x cs, Sub m h → E m x cs → E h x cs
  len : ∀ h x cs, E h x cs → cs.length = sz
  flat : ∀ h x cs, E h x cs → ∀ v ∈ cs, Flat v
theorem Flats.nil : ∀ v ∈ ([] : List Value), Flat v := fun v hv => by cases hv
theorem Flats.cons {x : Value} {l : List Value} (h : Flat x) (t : ∀ v ∈ l, Flat v) : ∀ v ∈ x :: l, Flat v := fun v hv => by
  rcases List.mem_cons.1 hv with rfl | hv
  · exact h
  · exact t v hv
theorem tell_int (k : IntKind) : Tell 1 (eInt k) := ⟨fun _ _ _ _ _ h => h, fun _ _ _ h => by rw [h]; rfl, fun _ _ _ h => by rw [h]; exact Flats.cons trivial Flats.nil⟩
theorem tell_str : Tell 1 eStr := ⟨fun _ _ _ _ _ h => h, fun _ _ _ h => by rw [h]; rfl, fun _ _ _ h => by rw [h]; exact Flats.cons trivial Flats.nil⟩
section
variable {α : Type} {sz : Nat} {E : Heap → α → List Value → Prop} {m m' h h' : Heap} {A : Option Addr} {l : List α} {c : Nat}
theorem Rd.sub (r : Rd sz E m A l) (T : Tell sz E) (s : Sub m h) : Rd sz E h A l := fun i hi =>
  let ⟨a, cs, h1, h2, h3⟩ := r i hi
  ⟨a, cs, h1, s.cells _ _ h2, T.mono _ _ _ _ s h3⟩
theorem tell_row (T : Tell sz E) : Tell 1 (eRow sz E) := ⟨fun _ _ _ _ s ⟨A, c, h1, h2, h3⟩ => ⟨A, c, h1, h2, h3.sub T s⟩, fun _ _ _ ⟨A, c, h1, _, _⟩ => by rw [h1]; rfl, fun _ _ _ ⟨A, c, h1, _, _⟩ => by rw [h1]; exact Flats.cons trivial Flats.nil⟩
end
structure St (W : Nat → Prop) (h0 m0 h m : Heap) : Prop where
  up : Sub m0 m
  s : Sub m h
  size : h0.size ≤ h.size
  fr : ∀ b, b < h0.size → ¬ W b → h[b]? = h0[b]?
  lv : ∀ b, b < h0.size → Live m b → Live m0 b ∨ W b
def fb (b0 b : Nat) : Prop := b = b0
def fp (A : Option Addr) (c : Nat) (b : Nat) : Prop := c ≠ 0 ∧ ∃ a, A = some a ∧ a.block = b
def Dj (F G : Nat → Prop) : Prop := ∀ b, F b → G b → False
section
variable {m m' h h' h0 m0 : Heap} {b b' : Nat} {W W' F G G' : Nat → Prop}
theorem Dj.symm (d : Dj F G) : Dj G F := fun b h1 h2 => d b h2 h1
theorem Dj.no : Dj No F := fun _ h _ => h
theorem St.refl (s : Sub m h) : St W h m h m := ⟨.refl _, s, Nat.le_refl _, fun _ _ _ => rfl, fun _ _ h => .inl h⟩
theorem St.of_ext (s : Sub m h) (e : Ext h h') : St W h m h' m := ⟨.refl _, s.ext e, e.1, fun b hb _ => e.2 b hb, fun _ _ h => .inl h⟩
theorem St.ext (S : St No h m h' m') : Ext h h' := ⟨S.size, fun b hb => S.fr b hb (fun h => h)⟩
theorem St.then (S : St W h0 m0 h m) (T : St W' h m h' m') (hw : ∀ b, b < h.size → W' b → h0.size ≤ b ∨ W b) : St W h0 m0 h' m' where
  up := S.up.trans T.up
  s := T.s
  size := Nat.le_trans S.size T.size
  fr b hb hn := by
    rw [T.fr b (by have := S.size; omega) (fun hw' => (hw b (by have := S.size; omega) hw').elim (fun h => by omega) hn)]
    exact S.fr b hb hn
  lv b hb hl := by
    rcases T.lv b (by have := S.size; omega) hl with h1 | h1
    · exact S.lv b hb h1
    · exact .inr ((hw b (by have := S.size; omega) h1).elim (fun h => by omega) id)
theorem St.grow (S : St W h0 m0 h m) (T : St No h m h' m') : St W h0 m0 h' m' := S.then T fun _ _ h => h.elim
theorem St.notLive (s : Sub m h) : ¬ Live m h.size := fun l => by have := s.lt l; omega
theorem St.only (s : Sub m h) (hn : ¬ Live m b) (o : Only h h' b) : St (fb b) h m h' m where
  up := .refl _
  s i x h1 h2 := by
    rw [o.2 i (fun e => hn (e ▸ ⟨x, h1, h2⟩))]; exact s i x h1 h2
  size := by rw [o.1]; exact Nat.le_refl _
  fr i _ hw := o.2 i hw
  lv i _ hl := .inl hl
end
open Classical in
noncomputable def addV (m h : Heap) (F : Nat → Prop) : Heap := Array.ofFn (n := h.size) fun i => if Live m i.1 ∨ F i.1 then h[i.1] else dead
section
variable {m h : Heap} {b : Nat} {F : Nat → Prop}
theorem addV_get (hb : b < h.size) (hl : Live m b ∨ F b) : (addV m h F)[b]? = h[b]? := by
  unfold addV
  rw [Array.getElem?_ofFn, dif_pos hb, if_pos hl, Array.getElem?_eq_getElem hb]
theorem addV_live (hl : Live (addV m h F) b) : (Live m b ∨ F b) ∧ b < h.size := by
  obtain ⟨o, h1, h2⟩ := hl
  unfold addV at h1
  rw [Array.getElem?_ofFn] at h1
  split at h1
  · rename_i hb
    refine ⟨?_, hb⟩
    by_cases hc : Live m b ∨ F b
    · exact hc
    · rw [if_neg hc] at h1; cases h1; exact (h2 rfl).elim
  · cases h1
theorem addV_sub : Sub (addV m h F) h := fun b o h1 h2 => by
  have := addV_live ⟨o, h1, h2⟩
  rw [← addV_get this.2 this.1]; exact h1
theorem addV_up (s : Sub m h) : Sub m (addV m h F) := fun b o h1 h2 => by
  rw [addV_get (s.lt ⟨o, h1, h2⟩) (.inl ⟨o, h1, h2⟩)]; exact s b o h1 h2
theorem St.settle (s : Sub m h) (F : Nat → Prop) : St F h m h (addV m h F) := ⟨addV_up s, addV_sub, Nat.le_refl _, fun _ _ _ => rfl, fun _ _ hl => (addV_live hl).1⟩
theorem Blk.settle {c : List Value} {t : TypeId} (hb : Blk h b c t) (hF : F b) : Blk (addV m h F) b c t := by
  unfold Blk at *
  rw [addV_get (Blk.lt hb) (.inr hF)]; exact hb
end
section
variable {α : Type} {sz : Nat} {E : Heap → α → List Value → Prop} {m m' h h' h0 m0 : Heap} {A : Option Addr} {l l' : List α} {c : Nat} {cs ds : List Value} {x y : α} {W W' : Nat → Prop}
def CsE (sz : Nat) (E : Heap → α → List Value → Prop) (m : Heap) : List α → List Value → Prop
  | [], cs => cs = []
  | x :: l, cs => ∃ c1 c2, cs = c1 ++ c2 ∧ c1.length = sz ∧ E m x c1 ∧ CsE sz E m l c2
theorem CsE.nil : CsE sz E m ([] : List α) [] := rfl
theorem CsE.cons {c1 : List Value} (h1 : E m x c1) (h2 : c1.length = sz) (h : CsE sz E m l cs) : CsE sz E m (x :: l) (c1 ++ cs) := ⟨c1, cs, rfl, h2, h1, h⟩
theorem CsE.len : ∀ {l : List α} {cs : List Value}, CsE sz E m l cs → cs.length = l.length * sz := by
  intro l
  induction l with
  | nil => intro cs h; rw [show cs = [] from h]; simp
  | cons x l ih => rintro cs ⟨c1, c2, rfl, h1, h2, h3⟩; rw [List.length_append, ih h3, h1, List.length_cons, Nat.succ_mul, Nat.add_comm]
theorem CsE.get : ∀ {l : List α} {cs : List Value} {i : Nat}, CsE sz E m l cs → l[i]? = some y → E m y ((cs.drop (i * sz)).take sz) ∧ i * sz + sz ≤ cs.length := by
  intro l
  induction l with
  | nil => intro cs i h h'; cases h'
  | cons x l ih =>
    rintro cs i ⟨c1, c2, rfl, h1, h2, h3⟩ hy
    cases i with
    | zero =>
      cases hy
      simp only [Nat.zero_mul, List.drop_zero]
      rw [← h1, List.take_left]
      exact ⟨h2, by simp⟩
    | succ i =>
      have := ih (i := i) h3 (by simpa using hy)
      rw [show (i + 1) * sz = c1.length + i * sz by rw [h1, Nat.succ_mul, Nat.add_comm], ← List.drop_drop, List.drop_left, List.length_append]
      exact ⟨this.1, by omega⟩
theorem Rd.tail (r : Rd sz E m A (x :: l)) : ∀ a, A = some a → Rd sz E m (some (a.add sz)) l := by
  intro a ha i hi
  obtain ⟨a', cs, h1, h2, h3⟩ := r (i + 1) (by simpa using hi)
  rw [ha] at h1; cases h1
  refine ⟨_, cs, rfl, ?_, h3⟩
  rw [add_add, show sz + i * sz = (i + 1) * sz by rw [Nat.succ_mul, Nat.add_comm]]; exact h2
theorem Rd.cse (T : Tell sz E) : ∀ {l : List α} {a : Addr}, Rd sz E m (some a) l → ∃ cs, cellsH m a 0 (l.length * sz) = some cs ∧ CsE sz E m l cs := by
  intro l
  induction l with
  | nil => intro a r; exact ⟨[], by simp [cellsH], rfl⟩
  | cons x l ih =>
    intro a r
    obtain ⟨cs, h1, h2⟩ := ih (r.tail a rfl)
    obtain ⟨a', c1, h3, h4, h5⟩ := r 0 (by simp)
    cases h3
    rw [Nat.zero_mul, show a.add 0 = a from rfl] at h4
    refine ⟨c1 ++ cs, ?_, c1, cs, rfl, T.len _ _ _ h5, h5, h2⟩
    rw [List.length_cons, Nat.succ_mul, Nat.add_comm]
    refine cellsH_append h4 ?_
    rw [cellsH_shift] at h1
    simpa using h1
theorem CsE.rd {b : Nat} {t : TypeId} {pre rest : List Value} (hb : Blk h b (pre ++ cs ++ rest) t) (hc : CsE sz E m l cs) (hm : ∀ x cs, E m x cs → E h x cs) : Rd sz E h (some ⟨b, pre.length, none⟩) l := by
  intro i hi
  have hg := hc.get (List.getElem?_eq_getElem hi)
  refine ⟨_, _, rfl, ?_, hm _ _ hg.1⟩
  have := hb.cells (a := (⟨b, pre.length, none⟩ : Addr).add (i * sz)) (by rw [add_block]) (add_spot _ rfl) sz 0 (by rw [add_off, List.length_append, List.length_append]; simp only [Nat.add_zero]; omega)
  rw [this, add_off]
  simp only [Nat.add_zero]
  rw [List.append_assoc, ← List.drop_drop, List.drop_left, List.drop_append_of_le_length (by omega), List.take_append_of_le_length (by rw [List.length_drop]; omega)]
def OS (W : Nat → Prop) (h0 : Heap) (sz : Nat) (E : Heap → α → List Value → Prop) (h m : Heap) (A : Option Addr) (l : List α) (c : Nat) : Prop :=
  (l = [] ∧ c = 0) ∨ ∃ b t pre cs rest, A = some ⟨b, pre.length, none⟩ ∧ Blk h b (pre ++ cs ++ rest) t ∧ CsE sz E m l cs ∧ l.length ≤ c ∧ (c - l.length) * sz ≤ rest.length ∧ (h0.size ≤ b ∨ W b) ∧ ¬ Live m b
def OB (W : Nat → Prop) (h0 h m : Heap) (b : Nat) (cs : List Value) (t : TypeId) : Prop := Blk h b cs t ∧ (h0.size ≤ b ∨ W b) ∧ ¬ Live m b
variable {b : Nat} {t : TypeId}
theorem OB.all (o : OB W h0 h m b cs t) : cellsH h ⟨b, 0, none⟩ 0 cs.length = some cs := by
  have := o.1.cells (a := ⟨b, 0, none⟩) rfl rfl cs.length 0 (by simp)
  simpa using this
end
end Go.Hw

end
section
namespace Go.Hw
def LeO {β : Type} (a b : Option β) : Prop := ∀ r, a = some r → b = some r
theorem LeO.refl {β : Type} (a : Option β) : LeO a a := fun _ h => h
theorem LeO.bind {β γ : Type} {a b : Option β} {f g : β → Option γ} (h : LeO a b) (k : ∀ x, LeO (f x) (g x)) : LeO (a.bind f) (b.bind g) := by
  intro r hr
  cases a with
  | none => cases hr
  | some x => rw [h x rfl]; exact k x r hr
theorem LeO.ite {β : Type} {p : Prop} [Decidable p] {a b a' b' : Option β} (h : LeO a a') (k : LeO b b') : LeO (if p then a else b) (if p then a' else b') := by
  by_cases c : p
  · rw [if_pos c, if_pos c]; exact h
  · rw [if_neg c, if_neg c]; exact k
section
variable {α : Type} {β : α → Type} {F : ((x : α) → Option (β x)) → (x : α) → Option (β x)}
def MonoF (F : ((x : α) → Option (β x)) → (x : α) → Option (β x)) : Prop := ∀ f g, (∀ x, LeO (f x) (g x)) → ∀ x, LeO (F f x) (F g x)
def FixR (F : ((x : α) → Option (β x)) → (x : α) → Option (β x)) (x : α) (r : β x) : Prop :=
  ∀ I : (x : α) → β x → Prop, (∀ f, (∀ x r, f x = some r → I x r) → ∀ x r, F f x = some r → I x r) → I x r
theorem FixR.close {f : (x : α) → Option (β x)} (hf : ∀ x r, f x = some r → FixR F x r) {x : α} {r : β x} (h : F f x = some r) : FixR F x r :=
  fun I hI => hI f (fun y s hs => hf y s hs I hI) x r h
theorem FixR.uniq (M : MonoF F) {x : α} {r r' : β x} (h : FixR F x r) (h' : FixR F x r') : r = r' := by
  refine (h (fun x r => FixR F x r ∧ ∀ r', FixR F x r' → r = r') ?_).2 r' h'
  intro f hf x r hr
  refine ⟨FixR.close (fun y s hs => (hf y s hs).1) hr, fun s hs => ?_⟩
  have key := hs (fun y s => FixR F y s ∧ ∀ e : x = y, (e ▸ r) = s) ?_
  · exact key.2 rfl
  intro f' hf' y t ht
  refine ⟨FixR.close (fun z s hs => (hf' z s hs).1) ht, ?_⟩
  rintro rfl
  let g : (x : α) → Option (β x) := fun z => match f z with | some u => some u | none => f' z
  have hfg : ∀ z, LeO (f z) (g z) := fun z u hu => by simp only [g, hu]
  have hfg' : ∀ z, LeO (f' z) (g z) := by
    intro z u hu
    simp only [g]
    cases hz : f z with
    | none => exact hu
    | some w => simp only; rw [(hf z w hz).2 u (hf' z u hu).1]
  have e1 := M f g hfg _ _ hr
  have e2 := M f' g hfg' _ _ ht
  rw [e1] at e2
  exact Option.some.inj e2
open Classical in
noncomputable def fixF (F : ((x : α) → Option (β x)) → (x : α) → Option (β x)) (x : α) : Option (β x) := if h : ∃ r, FixR F x r then some (Classical.choose h) else none
theorem fixF_iff (M : MonoF F) {x : α} {r : β x} : fixF F x = some r ↔ FixR F x r := by
  unfold fixF
  constructor
  · intro h
    split at h
    · rename_i hx; cases h; exact Classical.choose_spec hx
    · cases h
  · intro h
    rw [dif_pos ⟨r, h⟩, FixR.uniq M (Classical.choose_spec (⟨r, h⟩ : ∃ r, FixR F x r)) h]
theorem fixF_eq (M : MonoF F) (x : α) : fixF F x = F (fixF F) x := by
  have h1 : ∀ r, fixF F x = some r → F (fixF F) x = some r := by
    intro r hr
    refine ((fixF_iff M).1 hr (fun x r => FixR F x r ∧ F (fixF F) x = some r) ?_).2
    intro f hf y s hs
    refine ⟨FixR.close (fun z s hs => (hf z s hs).1) hs, ?_⟩
    exact M f (fixF F) (fun z u hu => (fixF_iff M).2 (hf z u hu).1) _ _ hs
  have h2 : ∀ r, F (fixF F) x = some r → fixF F x = some r := fun r hr => (fixF_iff M).2 (FixR.close (fun y s hs => (fixF_iff M).1 hs) hr)
  cases h : fixF F x with
  | some r => exact (h1 r h).symm
  | none =>
    cases k : F (fixF F) x with
    | none => rfl
    | some r => rw [h2 r k] at h; cases h
theorem fixF_ind (M : MonoF F) {I : (x : α) → β x → Prop} (hI : ∀ f, (∀ x r, f x = some r → I x r) → ∀ x r, F f x = some r → I x r) {x : α} {r : β x} (h : fixF F x = some r) : I x r := (fixF_iff M).1 h I hI
end
end Go.Hw

end
section
namespace Go.Hw
open Go
section tests
variable {A B : Prop} {β γ : Type} {a b : Option β} {r : β}
theorem bind_e {a : Option γ} {f : γ → Option β} (e : a.bind f = some r) : ∃ x, a = some x ∧ f x = some r := by
  cases a with
  | none => cases e
  | some x => exact ⟨x, rfl, e⟩
theorem guard_e {p : Prop} [Decidable p] (e : (if p then a else none) = some r) : p ∧ a = some r := by
  by_cases h : p
  · rw [if_pos h] at e; exact ⟨h, e⟩
  · rw [if_neg h] at e; cases e
theorem split_dec_e {p : Prop} [Decidable p] (e : (if p then a else b) = some r) (hA : p → a = some r → A) (hB : ¬ p → b = some r → B) : splitB (decide p) A B := by
  by_cases h : p
  · rw [if_pos h] at e; rw [decide_eq_true h]; exact hA h e
  · rw [if_neg h] at e; rw [decide_eq_false h]; exact hB h e
theorem split_eq_e {x y : Int} (e : (if x = y then a else b) = some r) (hA : x = y → a = some r → A) (hB : x ≠ y → b = some r → B) : splitB (x == y) A B := by
  by_cases h : x = y
  · rw [if_pos h] at e; rw [show (x == y) = true from beq_iff_eq.2 h]; exact hA h e
  · rw [if_neg h] at e; rw [show (x == y) = false from beq_eq_false_iff_ne.2 h]; exact hB h e
theorem split_ne_e {x y : Int} (e : (if x = y then b else a) = some r) (hA : x ≠ y → a = some r → A) (hB : x = y → b = some r → B) : splitB (x != y) A B := by
  by_cases h : x = y
  · rw [if_pos h] at e; rw [show (x != y) = false from bne_eq_false_iff_eq.2 h]; exact hB h e
  · rw [if_neg h] at e; rw [show (x != y) = true from bne_iff_ne.2 h]; exact hA h e
theorem split_any_e {t : Bool} (e : (if t = true then a else b) = some r) (hA : t = true → a = some r → A) (hB : t = false → b = some r → B) : splitB t A B := by
  cases t
  · exact hB rfl e
  · exact hA rfl e
theorem ba_list (s t : ByteArray) : (ByteArray.toList s == ByteArray.toList t) = decide (s = t) := by
  by_cases h : s = t
  · subst h; simp
  · rw [decide_eq_false h]
    exact beq_eq_false_iff_ne.2 fun e => h (ba_toList e)
end tests
section
variable {α : Type} {l : List α} {x : Int} {y : α}
def gi (l : List α) (x : Int) : Option α := if 0 ≤ x then l[x.toNat]? else none
theorem gi_nat (l : List α) (k : Nat) : gi l (k : Int) = l[k]? := by unfold gi; rw [if_pos (by omega)]; rfl
theorem gi_le (g : gi l x = some y) : 0 ≤ x := by unfold gi at g; split at g; assumption; cases g
theorem gi_get (g : gi l x = some y) : l[x.toNat]? = some y := by unfold gi at g; split at g; exact g; cases g
theorem gi_lt (g : gi l x = some y) : x < (l.length : Int) := by
  have h1 := gi_get g
  have h2 := gi_le g
  have := (List.getElem?_eq_some_iff.1 h1).1
  omega
def gb (s : ByteArray) (x : Int) : Option Int := if 0 ≤ x then s[x.toNat]?.map fun b => ((UInt8.toNat b : Nat) : Int) else none
def sl (l : List α) (lo hi : Int) : List α := (l.take hi.toNat).drop lo.toNat
theorem sl_len {lo hi : Int} (h1 : 0 ≤ lo) (h2 : lo ≤ hi) (h3 : hi ≤ (l.length : Int)) : Int.toNat hi - Int.toNat lo = (sl l lo hi).length := by
  unfold sl; rw [List.length_drop, List.length_take]; omega
theorem sl_hi {hi : Int} : sl l 0 hi = l.take hi.toNat := by unfold sl; simp
end
section
variable {α : Type} {sz : Nat} {E : Heap → α → List Value → Prop} {m m' h h' h0 m0 : Heap} {A : Option Addr} {l : List α} {c n k : Nat} {cs : List Value} {x : Int} {y : α} {W : Nat → Prop} {a : Addr} {v : Value} {b : Nat} {t : TypeId}
theorem Rd.addr {K : Addr → Prop} (r : Rd sz E m A l) (hn : n = l.length) (g : gi l x = some y) (hk : ∀ a cs, A = some a → cellsH m (a.add (Int.toNat x * sz)) 0 sz = some cs → E m y cs → K a) : ptrOk A fun a => 0 ≤ x ∧ x < ((n : Nat) : Int) ∧ K a := by
  subst hn
  have h1 := gi_get g
  obtain ⟨hi, h2⟩ := List.getElem?_eq_some_iff.1 h1
  obtain ⟨a, cs, rfl, h3, h4⟩ := r _ hi
  rw [h2] at h4
  exact ⟨gi_le g, gi_lt g, hk a cs rfl h3 h4⟩
theorem OS.cellsAt (o : OS W h0 sz E h m A l c) (g : gi l x = some y) : ∃ a cs, A = some a ∧ cellsH h (a.add (Int.toNat x * sz)) 0 sz = some cs ∧ E m y cs := by
  have h1 := gi_get g
  rcases o with ⟨rfl, rfl⟩ | ⟨b, t, pre, cs, rest, rfl, h3, h4, h5, h6, h7⟩
  · cases h1
  have h8 := h4.get h1
  refine ⟨_, _, rfl, ?_, h8.1⟩
  have := h3.cells (a := (⟨b, pre.length, none⟩ : Addr).add (x.toNat * sz)) (by rw [add_block]) (add_spot _ rfl) sz 0 (by rw [add_off, List.length_append, List.length_append]; simp only [Nat.add_zero]; omega)
  rw [this, add_off]
  simp only [Nat.add_zero]
  rw [List.append_assoc, ← List.drop_drop, List.drop_left, List.drop_append_of_le_length (by omega), List.take_append_of_le_length (by rw [List.length_drop]; omega)]
theorem OS.addr {K : Addr → Prop} (o : OS W h0 sz E h m A l c) (hn : n = l.length) (g : gi l x = some y) (hk : ∀ a cs, A = some a → cellsH h (a.add (Int.toNat x * sz)) 0 sz = some cs → E m y cs → K a) : ptrOk A fun a => 0 ≤ x ∧ x < ((n : Nat) : Int) ∧ K a := by
  subst hn
  obtain ⟨a, cs, rfl, h1, h2⟩ := o.cellsAt g
  exact ⟨gi_le g, gi_lt g, hk a cs rfl h1 h2⟩
theorem ld0 (s : Sub m h) (hc : cellsH m a 0 n = some cs) (hv : cs[0]? = some v) : ldv false 1 h a = some v := by
  have h1 : cellH h (a.add 0) = some v := cellsH_get (s.cells _ _ hc) hv
  exact h1
theorem ldk (s : Sub m h) (hc : cellsH m a 0 n = some cs) (hv : cs[k]? = some v) : ldv false 1 h (Addr.add a k) = some v := by
  have := cellsH_get (s.cells _ _ hc) hv
  simpa [ldv] using this
theorem ldA (s : Sub m h) (hc : cellsH m a 0 n = some cs) : ldv true n h a = some (.agg cs.toArray) := by
  simp only [ldv, s.cells _ _ hc, Option.map_some]
theorem cellsH_part : ∀ {n i : Nat} {cs : List Value} (k j : Nat), cellsH h a i n = some cs → k + j ≤ n → cellsH h a (i + k) j = some ((cs.drop k).take j) := by
  intro n
  induction n with
  | zero =>
    intro i cs k j hc hk
    obtain ⟨rfl, rfl⟩ : k = 0 ∧ j = 0 := by omega
    simp [cellsH]
  | succ n ih =>
    intro i cs k j hc hk
    cases k with
    | succ k =>
      simp only [cellsH] at hc
      split at hc
      · split at hc
        · rename_i vs hvs
          cases hc
          have := ih k j hvs (by omega)
          rw [show i + (k + 1) = i + 1 + k by omega, this]; simp
        · cases hc
      · cases hc
    | zero =>
      cases j with
      | zero => simp [cellsH]
      | succ j =>
        simp only [cellsH] at hc
        split at hc
        · rename_i u hu
          split at hc
          · rename_i vs hvs
            cases hc
            have := ih 0 j hvs (by omega)
            simp only [Nat.add_zero, List.drop_zero] at this
            simp only [Nat.add_zero, cellsH, hu, this, List.drop_zero, List.take_succ_cons]
          · cases hc
        · cases hc
theorem ldAk {j : Nat} (s : Sub m h) (hc : cellsH m a 0 n = some cs) (hk : k + j ≤ n) : ldv true j h (Addr.add a k) = some (.agg ((cs.drop k).take j).toArray) := by
  have := cellsH_part k j (s.cells _ _ hc) hk
  simp only [ldv, cellsH_shift]
  simp only [Nat.zero_add] at this
  simp only [Nat.add_zero, this, Option.map_some]
theorem OB.st (o : OB W h0 h m b cs t) (s : Sub m h) (hk : k < cs.length) (hf : Flat v) : ∃ h', st1 h (Addr.add ⟨b, 0, none⟩ k) v = some h' ∧ OB W h0 h' m b (cs.set k v) t ∧ St (fb b) h m h' m := by
  obtain ⟨h', h1, h2, h3⟩ := o.1.st (a := Addr.add ⟨b, 0, none⟩ k) (v := v) (add_block _ _) (add_spot _ rfl) (by rw [add_off]; simpa using hk) hf
  rw [add_off, Nat.zero_add] at h2
  exact ⟨h', h1, ⟨h2, o.2⟩, .only s o.2.2 h3⟩
theorem OB.stA (o : OB W h0 h m b cs t) (s : Sub m h) (l : List Value) (hn : l.length = cs.length) (hf : ∀ v ∈ l, Flat v) : ∃ h', stH h ⟨b, 0, none⟩ l 0 = some h' ∧ OB W h0 h' m b l t ∧ St (fb b) h m h' m := by
  obtain ⟨h', h1, h2, h3⟩ := o.1.stAll l hn hf
  exact ⟨h', h1, ⟨h2, o.2⟩, .only s o.2.2 h3⟩
theorem cap_in {hi : Int} (h1 : hi ≤ (l.length : Int)) (h2 : l.length ≤ c) : hi ≤ ((c : Nat) : Int) := by omega
theorem Rd.sl {lo hi : Int} {mx : Nat} (r : Rd sz E m A l) (h1 : 0 ≤ lo) (h2 : lo ≤ hi) (h3 : hi ≤ (l.length : Int)) (h4 : hi.toNat ≤ mx) : Rd sz E m (sliceA A (Int.toNat lo) mx sz) (sl l lo hi) := by
  intro i hi'
  rw [← sl_len h1 h2 h3] at hi'
  obtain ⟨a, cs, e1, e2, e3⟩ := r (lo.toNat + i) (by omega)
  refine ⟨a.add (lo.toNat * sz), cs, ?_, ?_, ?_⟩
  · unfold sliceA; rw [if_neg (by omega), e1]; rfl
  · rw [add_add, ← Nat.add_mul]; exact e2
  · simpa [Hw.sl] using e3
theorem sl_cap {lo hi : Int} {mx : Nat} (h1 : 0 ≤ lo) (h2 : lo ≤ hi) (h3 : hi ≤ (l.length : Int)) (h4 : hi.toNat ≤ mx) : (sl l lo hi).length ≤ mx - Int.toNat lo := by rw [← sl_len h1 h2 h3]; omega
theorem zc_len {z : Array Value} {n : Nat} : (zcells z n).toList.length = n * z.size := by rw [Array.length_toList, zcells_size]
def Src (sz : Nat) (E : Heap → α → List Value → Prop) (h m : Heap) (x : Value) (xs : List α) : Prop := ∃ es, srcCells sz x h = some (xs.length, es) ∧ CsE sz E m xs es
theorem Rd.srcE (r : Rd sz E m A l) (T : Tell sz E) (s : Sub m h) (hn : n = l.length) : Src sz E h m (.slice A n c) l := by
  subst hn
  cases A with
  | none =>
    have : l = [] := by
      cases l with
      | nil => rfl
      | cons x l => obtain ⟨a, _, h1, _⟩ := r 0 (by simp); cases h1
    subst this
    exact ⟨[], rfl, rfl⟩
  | some a =>
    obtain ⟨es, h1, h2⟩ := Rd.cse T r
    exact ⟨es, by simp only [srcCells, s.cells _ _ h1, Option.map_some], h2⟩
theorem OS.srcE {c' : Nat} (o : OS W h0 sz E h m A l c) (hn : n = l.length) : Src sz E h m (.slice A n c') l := by
  subst hn
  rcases o with ⟨rfl, rfl⟩ | ⟨b, t, pre, cs, rest, rfl, k1, k2, k3, k4, k5⟩
  · refine ⟨[], ?_, rfl⟩
    cases A with
    | none => rfl
    | some a => simp [srcCells, cellsH]
  · refine ⟨cs, ?_, k2⟩
    have hl := k2.len
    have := k1.cells (a := ⟨b, pre.length, none⟩) rfl rfl (l.length * sz) 0 (by simp [hl])
    simp only [srcCells, this, Nat.add_zero]
    rw [List.append_assoc, List.drop_left, List.take_append_of_le_length (by omega), List.take_of_length_le (by omega)]; rfl
def ap (B : Nat) (l xs : List α) : Option (List α) := if (l.length + xs.length) * B ≤ 140737488355328 then some (l ++ xs) else none
theorem ap_e {B : Nat} {l xs l' : List α} (g : ap B l xs = some l') : (l.length + xs.length) * B ≤ 140737488355328 ∧ l ++ xs = l' := by
  unfold ap at g
  obtain ⟨h, k⟩ := guard_e g
  exact ⟨h, Option.some.inj k⟩
def sls (l : List α) (lo hi : Int) : Option (List α) := if 0 ≤ lo ∧ lo ≤ hi ∧ hi ≤ (l.length : Int) then some (sl l lo hi) else none
theorem sls_e {lo hi : Int} {l' : List α} (g : sls l lo hi = some l') : 0 ≤ lo ∧ lo ≤ hi ∧ hi ≤ (l.length : Int) ∧ Int.toNat hi - Int.toNat lo = l'.length ∧ l' = Hw.sl l lo hi := by
  unfold sls at g
  obtain ⟨h, k⟩ := guard_e g
  cases k
  exact ⟨h.1, h.2.1, h.2.2, sl_len h.1 h.2.1 h.2.2, rfl⟩
theorem Rd.sls {lo hi : Int} {mx : Nat} {l' : List α} (r : Rd sz E m A l) (g : sls l lo hi = some l') (h4 : hi.toNat ≤ mx) : Rd sz E m (sliceA A (Int.toNat lo) mx sz) l' := by
  obtain ⟨h1, h2, h3, _, rfl⟩ := sls_e g
  exact r.sl h1 h2 h3 h4
theorem le_mx {hi : Int} (h1 : hi ≤ (l.length : Int)) (h2 : l.length ≤ c) : hi.toNat ≤ c := by omega
theorem sls_cap {lo hi : Int} {l' : List α} (g : Hw.sls l lo hi = some l') (h2 : l.length ≤ c) : l'.length ≤ c - Int.toNat lo := by
  obtain ⟨h1, h3, h4, h5, _⟩ := sls_e g
  omega
end
end Go.Hw

end
section
namespace Go.Hw
open Go
section
variable {α : Type} {sz : Nat} {E : Heap → α → List Value → Prop} {m m' h h' h0 m0 : Heap} {A : Option Addr} {l : List α} {c n k : Nat} {x : Int} {W : Nat → Prop}
theorem Rd.void (r : Rd sz E m none l) : l = [] := by
  cases l with
  | nil => rfl
  | cons x l => obtain ⟨a, _, h1, _⟩ := r 0 (by simp); cases h1
end
section
variable {α : Type} {sz : Nat} {E : Heap → α → List Value → Prop} {m m' mL h h' h0 m0 : Heap} {A : Option Addr} {l : List α} {c b : Nat} {cs : List Value} {t : TypeId} {W W' : Nat → Prop}
theorem St.unlend (T : St W' h mL h' m') (s : Sub m h) (hd : ∀ b, W' b → ¬ Live m b) : St W' h m h' m where
  up := .refl _
  s b o h1 h2 := by
    rw [T.fr b (s.lt ⟨o, h1, h2⟩) (fun hw => hd b hw ⟨o, h1, h2⟩)]; exact s b o h1 h2
  size := T.size
  fr := T.fr
  lv b _ hl := .inl hl
end
section
variable {κ ν : Type} [DecidableEq κ] {h h' m m' h0 m0 : Heap} {b : Nat} {W W' : Nat → Prop} {kv : κ → Value} {es : List (κ × ν)} {vs : List (κ × Value)} {k : κ} {x zv : ν} {v z : Value} {P : Program} {t elem : TypeId} {sz : Nat}
def MonoV (EV : Heap → ν → Value → Prop) : Prop := ∀ m h x v, Sub m h → EV m x v → EV h x v
variable {EV : Heap → ν → Value → Prop}
end
section
variable {H : Type} {enc : TypeId × Value → H} {P : Program} {W : World}
theorem tells_i64 {t : TypeId} (hu : P.underlying t = some (.int .i64)) : Tells enc P W t (eInt .i64) (fun x => -9223372036854775808 ≤ x ∧ x ≤ 9223372036854775807) := tells_map (tells_int hu) fun a _ h q => ⟨a, h, wf_i64 q⟩
theorem tells_strL {t : TypeId} (hu : P.underlying t = some .string) : Tells enc P W t eStr (fun s => s.size ≤ 140737488351232) := tells_map (tells_str hu) fun a _ h q => ⟨a, h, q⟩
theorem tells_sliceL {α : Type} {t e : TypeId} {sz B : Nat} {E : Heap → α → List Value → Prop} {Q : α → Prop} (hu : P.underlying t = some (.slice e)) (hc : P.cellsOf e = sz) (hB : P.bytesOf e = B) (he : Tells enc P W e E Q) :
    Tells enc P W t (eRow sz E) (fun l => l.length * B ≤ 140737488351232 ∧ ∀ a ∈ l, Q a) := tells_map (tells_slice hu hc hB he) fun a _ h q => ⟨a, h, q⟩
end
end Go.Hw

end
