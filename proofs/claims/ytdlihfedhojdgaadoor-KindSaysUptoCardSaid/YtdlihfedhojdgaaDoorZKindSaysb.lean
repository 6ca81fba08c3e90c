/- Part 2: what the law KindSays needs, put together out of texts of this session. -/
import Derived.ProofKit
import Derived.OpenShut
import Derived.ShutString
import Derived.ChangeOld
import Derived.Below
import Derived.SizedLaws
import Derived.ChangeArms
import Derived.Laws.StructEq
import Derived.Test.YtdlihfedhojdgaaDoorZKindSaysa
section
namespace Go.Proofs.YtdlihfedhojdgaaDoor.Fw
open Go Go.Hw Go.Proofs
set_option linter.unusedVariables false
def f35.T : Tab := { sh := tSh, tup := tTup, keep := [], plan := [] }
def f35.kp : Keep := [([false, false, true, false, true, true], [3, 6, 7, 8])]
theorem f35.good : goodCode Tryd.prog f35.T (rootOf Tryd.f35) = true := by kernel_rfl
def f35.l0 (R : Value → Heap → Prop) (s3 : ByteArray) (A6 : Option Addr) (n6 : Nat) (c6 : Nat) (x7 : Int) (x8 : Int) (h : Heap) : Prop := Pt Tryd.prog Tryd.f35 R [false, false, true, false, true, true] (mkFr [(3, (Value.string s3)), (6, (Value.slice A6 n6 c6)), (7, (Value.int .i64 x7)), (8, (Value.int .i64 x8))]) h
set_option maxRecDepth 100000 in
def f35.l0T (R : Value → Heap → Prop) (s3 : ByteArray) (A6 : Option Addr) (n6 : Nat) (c6 : Nat) (x7 : Int) (x8 : Int) (h : Heap) : Prop :=
  splitB (decide (x8 < x7)) (ptrOk A6 fun a1_ => 0 ≤ x8 ∧ x8 < ((n6 : Nat) : Int) ∧ (∃ v2_, ldv false 1 h (Addr.add a1_ (Int.toNat x8 * 1)) = some v2_ ∧ ∃ x3_, v2_ = (Value.int .i64 x3_) ∧ Run Tryd.prog 16 #[(Value.int .i64 x3_)] h fun v4_ h5_ => ∃ s6_, v4_ = (Value.string s6_) ∧ ByteArray.size s6_ + ByteArray.size (ByteArray.mk #[44]) ≤ 9223372036854775807 ∧ (ByteArray.size s3 + ByteArray.size (s6_ ++ (ByteArray.mk #[44])) ≤ 9223372036854775807 ∧ (f35.l0 R (s3 ++ (s6_ ++ (ByteArray.mk #[44]))) A6 n6 c6 x7 (IntKind.wrap .i64 (x8 + (1 : Int))) h5_)))) (R (Value.string s3) h)
set_option maxRecDepth 100000 in
theorem f35.l0_in {R : Value → Heap → Prop} {s3 : ByteArray} {A6 : Option Addr} {n6 : Nat} {c6 : Nat} {x7 : Int} {x8 : Int} {h : Heap} (H : f35.l0T R s3 A6 n6 c6 x7 x8 h) : f35.l0 R s3 A6 n6 c6 x7 x8 h :=
  pt_intro mixed f35.good (Eq.mpr (show (Fwd Tryd.prog f35.T f35.kp Tryd.f35 R [false, false, true, false, true, true] (mkFr [(3, (Value.string s3)), (6, (Value.slice A6 n6 c6)), (7, (Value.int .i64 x7)), (8, (Value.int .i64 x8))]) h) = (f35.l0T R s3 A6 n6 c6 x7 x8 h) by kernel_rfl) H)
set_option maxRecDepth 100000 in
def f35.runT (R : Value → Heap → Prop) (A0 : Option Addr) (n0 : Nat) (c0 : Nat) (h : Heap) : Prop :=
  f35.l0 R (ByteArray.mk #[]) A0 n0 c0 ((n0 : Nat) : Int) (0 : Int) h
set_option maxRecDepth 100000 in
theorem f35.run {R : Value → Heap → Prop} {A0 : Option Addr} {n0 : Nat} {c0 : Nat} {h : Heap} (H : f35.runT R A0 n0 c0 h) : Run Tryd.prog 35 #[(Value.slice A0 n0 c0)] h R :=
  run_of mixed Tryd.func35 (by kernel_rfl) (by kernel_rfl) f35.good (Eq.mpr (show (Fwd Tryd.prog f35.T f35.kp Tryd.f35 R [] (mkFr (argL [(Value.slice A0 n0 c0)] 0)) h) = (f35.runT R A0 n0 c0 h) by kernel_rfl) H)
def f36.T : Tab := { sh := tSh, tup := tTup, keep := [], plan := [] }
def f36.kp : Keep := [([false, false, true, false, true, true], [3, 6, 7, 8])]
theorem f36.good : goodCode Tryd.prog f36.T (rootOf Tryd.f36) = true := by kernel_rfl
def f36.l0 (R : Value → Heap → Prop) (s3 : ByteArray) (A6 : Option Addr) (n6 : Nat) (c6 : Nat) (x7 : Int) (x8 : Int) (h : Heap) : Prop := Pt Tryd.prog Tryd.f36 R [false, false, true, false, true, true] (mkFr [(3, (Value.string s3)), (6, (Value.slice A6 n6 c6)), (7, (Value.int .i64 x7)), (8, (Value.int .i64 x8))]) h
set_option maxRecDepth 100000 in
def f36.l0T (R : Value → Heap → Prop) (s3 : ByteArray) (A6 : Option Addr) (n6 : Nat) (c6 : Nat) (x7 : Int) (x8 : Int) (h : Heap) : Prop :=
  splitB (decide (x8 < x7)) (ptrOk A6 fun a1_ => 0 ≤ x8 ∧ x8 < ((n6 : Nat) : Int) ∧ (∃ v2_, ldv false 1 h (Addr.add a1_ (Int.toNat x8 * 1)) = some v2_ ∧ ∃ s3_, v2_ = (Value.string s3_) ∧ newH h (Obj.cells #[(Value.int .i64 ((ByteArray.size s3_ : Nat) : Int))] 3) fun h4_ => Run Tryd.prog 35 #[(Value.slice (some ⟨Array.size h, 0, none⟩) 1 1)] h4_ fun v5_ h6_ => ∃ s7_, v5_ = (Value.string s7_) ∧ ByteArray.size s7_ + ByteArray.size s3_ ≤ 9223372036854775807 ∧ (ByteArray.size s3 + ByteArray.size (s7_ ++ s3_) ≤ 9223372036854775807 ∧ (f36.l0 R (s3 ++ (s7_ ++ s3_)) A6 n6 c6 x7 (IntKind.wrap .i64 (x8 + (1 : Int))) h6_)))) (R (Value.string s3) h)
set_option maxRecDepth 100000 in
theorem f36.l0_in {R : Value → Heap → Prop} {s3 : ByteArray} {A6 : Option Addr} {n6 : Nat} {c6 : Nat} {x7 : Int} {x8 : Int} {h : Heap} (H : f36.l0T R s3 A6 n6 c6 x7 x8 h) : f36.l0 R s3 A6 n6 c6 x7 x8 h :=
  pt_intro mixed f36.good (Eq.mpr (show (Fwd Tryd.prog f36.T f36.kp Tryd.f36 R [false, false, true, false, true, true] (mkFr [(3, (Value.string s3)), (6, (Value.slice A6 n6 c6)), (7, (Value.int .i64 x7)), (8, (Value.int .i64 x8))]) h) = (f36.l0T R s3 A6 n6 c6 x7 x8 h) by kernel_rfl) H)
set_option maxRecDepth 100000 in
def f36.runT (R : Value → Heap → Prop) (A0 : Option Addr) (n0 : Nat) (c0 : Nat) (h : Heap) : Prop :=
  f36.l0 R (ByteArray.mk #[]) A0 n0 c0 ((n0 : Nat) : Int) (0 : Int) h
set_option maxRecDepth 100000 in
theorem f36.run {R : Value → Heap → Prop} {A0 : Option Addr} {n0 : Nat} {c0 : Nat} {h : Heap} (H : f36.runT R A0 n0 c0 h) : Run Tryd.prog 36 #[(Value.slice A0 n0 c0)] h R :=
  run_of mixed Tryd.func36 (by kernel_rfl) (by kernel_rfl) f36.good (Eq.mpr (show (Fwd Tryd.prog f36.T f36.kp Tryd.f36 R [] (mkFr (argL [(Value.slice A0 n0 c0)] 0)) h) = (f36.runT R A0 n0 c0 h) by kernel_rfl) H)
def f10.T : Tab := { sh := tSh, tup := tTup, keep := [], plan := [(1, (.take 0 (.take 2 (.take 7 (.take 1 (.take 3 (.take 4 (.alt false 5 (.alt false 6 (.eff true 8 (.eff true 9 (.eff false 10 (.take 11 (.take 12 .done))))) (.eff true 8 (.alt false 6 (.eff true 9 (.eff false 10 (.take 11 (.take 12 .done)))) (.eff true 9 (.eff false 6 (.eff false 10 (.take 11 (.take 12 .done)))))))) (.eff true 8 (.alt false 5 (.alt false 6 (.eff true 9 (.eff false 10 (.take 11 (.take 12 .done)))) (.eff true 9 (.eff false 6 (.eff false 10 (.take 11 (.take 12 .done)))))) (.eff true 9 (.eff false 5 (.eff false 6 (.eff false 10 (.take 11 (.take 12 .done))))))))))))))))] }
def f10.kp : Keep := [([true, true], [1, 3]), ([false, false, true, false, true, true], [3, 19, 20, 21])]
theorem f10.good : goodCode Tryd.prog f10.T (rootOf Tryd.f10) = true := by kernel_rfl
def f10.j0 (R : Value → Heap → Prop) (a1 : Addr) (s3 : ByteArray) (h : Heap) : Prop := Pt Tryd.prog Tryd.f10 R [true, true] (mkFr [(1, (Value.pointer (some a1))), (3, (Value.string s3))]) h
def f10.l0 (R : Value → Heap → Prop) (s3 : ByteArray) (A19 : Option Addr) (n19 : Nat) (c19 : Nat) (x20 : Int) (x21 : Int) (h : Heap) : Prop := Pt Tryd.prog Tryd.f10 R [false, false, true, false, true, true] (mkFr [(3, (Value.string s3)), (19, (Value.slice A19 n19 c19)), (20, (Value.int .i64 x20)), (21, (Value.int .i64 x21))]) h
set_option maxRecDepth 100000 in
def f10.j0T (R : Value → Heap → Prop) (a1 : Addr) (s3 : ByteArray) (h : Heap) : Prop :=
  ∃ v1_, ldv false 1 h (Addr.add a1 2) = some v1_ ∧ ∃ A2_, ∃ n2_, ∃ c2_, v1_ = (Value.slice A2_ n2_ c2_) ∧ f10.l0 R s3 A2_ n2_ c2_ ((n2_ : Nat) : Int) (0 : Int) h
set_option maxRecDepth 100000 in
theorem f10.j0_in {R : Value → Heap → Prop} {a1 : Addr} {s3 : ByteArray} {h : Heap} (H : f10.j0T R a1 s3 h) : f10.j0 R a1 s3 h :=
  pt_intro mixed f10.good (Eq.mpr (show (Fwd Tryd.prog f10.T f10.kp Tryd.f10 R [true, true] (mkFr [(1, (Value.pointer (some a1))), (3, (Value.string s3))]) h) = (f10.j0T R a1 s3 h) by kernel_rfl) H)
set_option maxRecDepth 100000 in
def f10.l0T (R : Value → Heap → Prop) (s3 : ByteArray) (A19 : Option Addr) (n19 : Nat) (c19 : Nat) (x20 : Int) (x21 : Int) (h : Heap) : Prop :=
  splitB (decide (x21 < x20)) (ptrOk A19 fun a1_ => 0 ≤ x21 ∧ x21 < ((n19 : Nat) : Int) ∧ (∃ v2_, ldv true 3 h (Addr.add a1_ (Int.toNat x21 * 3)) = some v2_ ∧ newH h (Obj.cells #[(Value.int .i64 (0 : Int)), (Value.string (ByteArray.mk #[])), (Value.slice none 0 0)] 25) fun h3_ => ∃ l5_ : List Value, v2_ = Value.agg l5_.toArray ∧ l5_.length = 3 ∧ ∃ h4_, stH h3_ (⟨Array.size h, 0, none⟩) l5_ 0 = some h4_ ∧ ∃ v6_, ldv true 3 h4_ (⟨Array.size h, 0, none⟩) = some v6_ ∧ Run Tryd.prog 10 #[v6_] h4_ fun v7_ h8_ => ∃ s9_, v7_ = (Value.string s9_) ∧ ByteArray.size s3 + ByteArray.size s9_ ≤ 9223372036854775807 ∧ (f10.l0 R (s3 ++ s9_) A19 n19 c19 x20 (IntKind.wrap .i64 (x21 + (1 : Int))) h8_))) (R (Value.string s3) h)
set_option maxRecDepth 100000 in
theorem f10.l0_in {R : Value → Heap → Prop} {s3 : ByteArray} {A19 : Option Addr} {n19 : Nat} {c19 : Nat} {x20 : Int} {x21 : Int} {h : Heap} (H : f10.l0T R s3 A19 n19 c19 x20 x21 h) : f10.l0 R s3 A19 n19 c19 x20 x21 h :=
  pt_intro mixed f10.good (Eq.mpr (show (Fwd Tryd.prog f10.T f10.kp Tryd.f10 R [false, false, true, false, true, true] (mkFr [(3, (Value.string s3)), (19, (Value.slice A19 n19 c19)), (20, (Value.int .i64 x20)), (21, (Value.int .i64 x21))]) h) = (f10.l0T R s3 A19 n19 c19 x20 x21 h) by kernel_rfl) H)
set_option maxRecDepth 100000 in
def f10.runT (R : Value → Heap → Prop) (v0 : Value) (h : Heap) : Prop :=
  newH h (Obj.cells ((v0).cells) 25) fun h1_ => ∃ v2_, ldv false 1 h1_ (⟨Array.size h, 0, none⟩) = some v2_ ∧ ∃ x3_, v2_ = (Value.int .i64 x3_) ∧ ∃ v4_, ldv false 1 h1_ (Addr.add (⟨Array.size h, 0, none⟩) 2) = some v4_ ∧ ∃ A5_, ∃ n5_, ∃ c5_, v4_ = (Value.slice A5_ n5_ c5_) ∧ (newH h1_ (Obj.cells #[(Value.int .i64 x3_), (Value.int .i64 ((n5_ : Nat) : Int))] 3) fun h6_ => (Run Tryd.prog 35 #[(Value.slice (some ⟨Array.size h1_, 0, none⟩) 2 2)] h6_ fun v7_ h8_ => ∃ s9_, v7_ = (Value.string s9_) ∧ ∃ v10_, ldv false 1 h8_ (Addr.add (⟨Array.size h, 0, none⟩) 1) = some v10_ ∧ ∃ s11_, v10_ = (Value.string s11_) ∧ Ext h8_ h8_ ∧ (newH h8_ (Obj.cells #[(Value.string s11_)] 9) fun h12_ => Ext h8_ h12_ ∧ (Run Tryd.prog 36 #[(Value.slice (some ⟨Array.size h8_, 0, none⟩) 1 1)] h12_ fun v13_ h14_ => ∃ s15_, v13_ = (Value.string s15_) ∧ ByteArray.size s9_ + ByteArray.size s15_ ≤ 9223372036854775807 ∧ (f10.j0 R (⟨Array.size h, 0, none⟩) (s9_ ++ s15_) h14_)))) ∧ (∃ v16_, ldv false 1 h6_ (Addr.add (⟨Array.size h, 0, none⟩) 1) = some v16_ ∧ ∃ s17_, v16_ = (Value.string s17_) ∧ Ext h6_ h6_ ∧ ((Run Tryd.prog 35 #[(Value.slice (some ⟨Array.size h1_, 0, none⟩) 2 2)] h6_ fun v18_ h19_ => ∃ s20_, v18_ = (Value.string s20_) ∧ newH h19_ (Obj.cells #[(Value.string s17_)] 9) fun h21_ => Ext h19_ h21_ ∧ (Run Tryd.prog 36 #[(Value.slice (some ⟨Array.size h19_, 0, none⟩) 1 1)] h21_ fun v22_ h23_ => ∃ s24_, v22_ = (Value.string s24_) ∧ ByteArray.size s20_ + ByteArray.size s24_ ≤ 9223372036854775807 ∧ (f10.j0 R (⟨Array.size h, 0, none⟩) (s20_ ++ s24_) h23_))) ∧ (newH h6_ (Obj.cells #[(Value.string s17_)] 9) fun h25_ => Ext h6_ h25_ ∧ (Run Tryd.prog 35 #[(Value.slice (some ⟨Array.size h1_, 0, none⟩) 2 2)] h25_ fun v26_ h27_ => ∃ s28_, v26_ = (Value.string s28_) ∧ Run Tryd.prog 36 #[(Value.slice (some ⟨Array.size h6_, 0, none⟩) 1 1)] h27_ fun v29_ h30_ => ∃ s31_, v29_ = (Value.string s31_) ∧ ByteArray.size s28_ + ByteArray.size s31_ ≤ 9223372036854775807 ∧ (f10.j0 R (⟨Array.size h, 0, none⟩) (s28_ ++ s31_) h30_)))))) ∧ (∃ v32_, ldv false 1 h1_ (Addr.add (⟨Array.size h, 0, none⟩) 1) = some v32_ ∧ ∃ s33_, v32_ = (Value.string s33_) ∧ Ext h1_ h1_ ∧ ((newH h1_ (Obj.cells #[(Value.int .i64 x3_), (Value.int .i64 ((n5_ : Nat) : Int))] 3) fun h34_ => (Run Tryd.prog 35 #[(Value.slice (some ⟨Array.size h1_, 0, none⟩) 2 2)] h34_ fun v35_ h36_ => ∃ s37_, v35_ = (Value.string s37_) ∧ newH h36_ (Obj.cells #[(Value.string s33_)] 9) fun h38_ => Ext h36_ h38_ ∧ (Run Tryd.prog 36 #[(Value.slice (some ⟨Array.size h36_, 0, none⟩) 1 1)] h38_ fun v39_ h40_ => ∃ s41_, v39_ = (Value.string s41_) ∧ ByteArray.size s37_ + ByteArray.size s41_ ≤ 9223372036854775807 ∧ (f10.j0 R (⟨Array.size h, 0, none⟩) (s37_ ++ s41_) h40_))) ∧ (newH h34_ (Obj.cells #[(Value.string s33_)] 9) fun h42_ => Ext h34_ h42_ ∧ (Run Tryd.prog 35 #[(Value.slice (some ⟨Array.size h1_, 0, none⟩) 2 2)] h42_ fun v43_ h44_ => ∃ s45_, v43_ = (Value.string s45_) ∧ Run Tryd.prog 36 #[(Value.slice (some ⟨Array.size h34_, 0, none⟩) 1 1)] h44_ fun v46_ h47_ => ∃ s48_, v46_ = (Value.string s48_) ∧ ByteArray.size s45_ + ByteArray.size s48_ ≤ 9223372036854775807 ∧ (f10.j0 R (⟨Array.size h, 0, none⟩) (s45_ ++ s48_) h47_)))) ∧ (newH h1_ (Obj.cells #[(Value.string s33_)] 9) fun h49_ => Ext h1_ h49_ ∧ (newH h49_ (Obj.cells #[(Value.int .i64 x3_), (Value.int .i64 ((n5_ : Nat) : Int))] 3) fun h50_ => Run Tryd.prog 35 #[(Value.slice (some ⟨Array.size h49_, 0, none⟩) 2 2)] h50_ fun v51_ h52_ => ∃ s53_, v51_ = (Value.string s53_) ∧ Run Tryd.prog 36 #[(Value.slice (some ⟨Array.size h1_, 0, none⟩) 1 1)] h52_ fun v54_ h55_ => ∃ s56_, v54_ = (Value.string s56_) ∧ ByteArray.size s53_ + ByteArray.size s56_ ≤ 9223372036854775807 ∧ (f10.j0 R (⟨Array.size h, 0, none⟩) (s53_ ++ s56_) h55_)))))
set_option maxRecDepth 100000 in
theorem f10.run {R : Value → Heap → Prop} {v0 : Value} {h : Heap} (H : f10.runT R v0 h) : Run Tryd.prog 10 #[v0] h R :=
  run_of mixed Tryd.func10 (by kernel_rfl) (by kernel_rfl) f10.good (Eq.mpr (show (Fwd Tryd.prog f10.T f10.kp Tryd.f10 R [] (mkFr (argL [v0] 0)) h) = (f10.runT R v0 h) by kernel_rfl) H)
def f33.T : Tab := { sh := tSh, tup := tTup, keep := [], plan := [] }
def f33.kp : Keep := [([false, false, true, false, true], [0, 1, 7, 8])]
theorem f33.good : goodCode Tryd.prog f33.T (rootOf Tryd.f33) = true := by kernel_rfl
def f33.l0 (R : Value → Heap → Prop) (A0 : Option Addr) (n0 : Nat) (c0 : Nat) (s1 : ByteArray) (x7 : Int) (x8 : Int) (h : Heap) : Prop := Pt Tryd.prog Tryd.f33 R [false, false, true, false, true] (mkFr [(0, (Value.slice A0 n0 c0)), (1, (Value.string s1)), (7, (Value.int .i64 x7)), (8, (Value.int .i64 x8))]) h
set_option maxRecDepth 100000 in
def f33.l0T (R : Value → Heap → Prop) (A0 : Option Addr) (n0 : Nat) (c0 : Nat) (s1 : ByteArray) (x7 : Int) (x8 : Int) (h : Heap) : Prop :=
  splitB (decide (x8 < x7)) (ptrOk A0 fun a1_ => 0 ≤ x8 ∧ x8 < ((n0 : Nat) : Int) ∧ (∃ v2_, ldv false 1 h (Addr.add a1_ (Int.toNat x8 * 1)) = some v2_ ∧ ∃ s3_, v2_ = (Value.string s3_) ∧ splitB (ByteArray.toList s1 == ByteArray.toList s3_) (R (Value.int .i64 x8) h) (f33.l0 R A0 n0 c0 s1 x7 (IntKind.wrap .i64 (x8 + (1 : Int))) h))) (R (Value.int .i64 (-1 : Int)) h)
set_option maxRecDepth 100000 in
theorem f33.l0_in {R : Value → Heap → Prop} {A0 : Option Addr} {n0 : Nat} {c0 : Nat} {s1 : ByteArray} {x7 : Int} {x8 : Int} {h : Heap} (H : f33.l0T R A0 n0 c0 s1 x7 x8 h) : f33.l0 R A0 n0 c0 s1 x7 x8 h :=
  pt_intro mixed f33.good (Eq.mpr (show (Fwd Tryd.prog f33.T f33.kp Tryd.f33 R [false, false, true, false, true] (mkFr [(0, (Value.slice A0 n0 c0)), (1, (Value.string s1)), (7, (Value.int .i64 x7)), (8, (Value.int .i64 x8))]) h) = (f33.l0T R A0 n0 c0 s1 x7 x8 h) by kernel_rfl) H)
set_option maxRecDepth 100000 in
def f33.runT (R : Value → Heap → Prop) (A0 : Option Addr) (n0 : Nat) (c0 : Nat) (s1 : ByteArray) (h : Heap) : Prop :=
  f33.l0 R A0 n0 c0 s1 ((n0 : Nat) : Int) (0 : Int) h
set_option maxRecDepth 100000 in
theorem f33.run {R : Value → Heap → Prop} {A0 : Option Addr} {n0 : Nat} {c0 : Nat} {s1 : ByteArray} {h : Heap} (H : f33.runT R A0 n0 c0 s1 h) : Run Tryd.prog 33 #[(Value.slice A0 n0 c0), (Value.string s1)] h R :=
  run_of mixed Tryd.func33 (by kernel_rfl) (by kernel_rfl) f33.good (Eq.mpr (show (Fwd Tryd.prog f33.T f33.kp Tryd.f33 R [] (mkFr (argL [(Value.slice A0 n0 c0), (Value.string s1)] 0)) h) = (f33.runT R A0 n0 c0 s1 h) by kernel_rfl) H)
def f13.T : Tab := { sh := tSh, tup := tTup, keep := [], plan := [(8, (.take 0 (.take 3 (.take 4 (.take 1 (.take 2 (.eff true 5 (.eff true 6 (.eff false 7 (.take 8 (.eff false 9 .done)))))))))))] }
def f13.kp : Keep := [([true, false, true, true], [1, 2, 3, 6, 7, 27]), ([true, true, true], [1, 2, 3, 6]), ([false, false, true, false, true, true, true, true], [1, 2, 6, 8, 39, 40, 41])]
theorem f13.good : goodCode Tryd.prog f13.T (rootOf Tryd.f13) = true := by kernel_rfl
def f13.j1 (R : Value → Heap → Prop) (A1 : Option Addr) (n1 : Nat) (c1 : Nat) (A2 : Option Addr) (n2 : Nat) (c2 : Nat) (a3 : Addr) (a6 : Addr) (x7 : Int) (b27 : Bool) (h : Heap) : Prop := Pt Tryd.prog Tryd.f13 R [true, false, true, true] (mkFr [(1, (Value.slice A1 n1 c1)), (2, (Value.slice A2 n2 c2)), (3, (Value.pointer (some a3))), (6, (Value.pointer (some a6))), (7, (Value.int .i64 x7)), (27, (Value.bool b27))]) h
def f13.j0 (R : Value → Heap → Prop) (A1 : Option Addr) (n1 : Nat) (c1 : Nat) (A2 : Option Addr) (n2 : Nat) (c2 : Nat) (a3 : Addr) (a6 : Addr) (h : Heap) : Prop := Pt Tryd.prog Tryd.f13 R [true, true, true] (mkFr [(1, (Value.slice A1 n1 c1)), (2, (Value.slice A2 n2 c2)), (3, (Value.pointer (some a3))), (6, (Value.pointer (some a6)))]) h
def f13.l0 (R : Value → Heap → Prop) (A1 : Option Addr) (n1 : Nat) (c1 : Nat) (A2 : Option Addr) (n2 : Nat) (c2 : Nat) (a6 : Addr) (a8 : Addr) (A39 : Option Addr) (n39 : Nat) (c39 : Nat) (x40 : Int) (x41 : Int) (h : Heap) : Prop := Pt Tryd.prog Tryd.f13 R [false, false, true, false, true, true, true, true] (mkFr [(1, (Value.slice A1 n1 c1)), (2, (Value.slice A2 n2 c2)), (6, (Value.pointer (some a6))), (8, (Value.pointer (some a8))), (39, (Value.slice A39 n39 c39)), (40, (Value.int .i64 x40)), (41, (Value.int .i64 x41))]) h
set_option maxRecDepth 100000 in
def f13.j1T (R : Value → Heap → Prop) (A1 : Option Addr) (n1 : Nat) (c1 : Nat) (A2 : Option Addr) (n2 : Nat) (c2 : Nat) (a3 : Addr) (a6 : Addr) (x7 : Int) (b27 : Bool) (h : Heap) : Prop :=
  splitB b27 (ptrOk A2 fun a1_ => 0 ≤ x7 ∧ x7 < ((n2 : Nat) : Int) ∧ (∃ v2_, ldv true 3 h (Addr.add a1_ (Int.toNat x7 * 3)) = some v2_ ∧ Run Tryd.prog 13 #[v2_, (Value.slice none 0 0), (Value.slice none 0 0)] h fun v3_ h4_ => ∃ l6_ : List Value, v3_ = Value.agg l6_.toArray ∧ l6_.length = 3 ∧ ∃ h5_, stH h4_ a6 l6_ 0 = some h5_ ∧ ∃ v7_, ldv true 3 h5_ a6 = some v7_ ∧ R v7_ h5_)) (f13.j0 R A1 n1 c1 A2 n2 c2 a3 a6 h)
set_option maxRecDepth 100000 in
theorem f13.j1_in {R : Value → Heap → Prop} {A1 : Option Addr} {n1 : Nat} {c1 : Nat} {A2 : Option Addr} {n2 : Nat} {c2 : Nat} {a3 : Addr} {a6 : Addr} {x7 : Int} {b27 : Bool} {h : Heap} (H : f13.j1T R A1 n1 c1 A2 n2 c2 a3 a6 x7 b27 h) : f13.j1 R A1 n1 c1 A2 n2 c2 a3 a6 x7 b27 h :=
  pt_intro mixed f13.good (Eq.mpr (show (Fwd Tryd.prog f13.T f13.kp Tryd.f13 R [true, false, true, true] (mkFr [(1, (Value.slice A1 n1 c1)), (2, (Value.slice A2 n2 c2)), (3, (Value.pointer (some a3))), (6, (Value.pointer (some a6))), (7, (Value.int .i64 x7)), (27, (Value.bool b27))]) h) = (f13.j1T R A1 n1 c1 A2 n2 c2 a3 a6 x7 b27 h) by kernel_rfl) H)
set_option maxRecDepth 100000 in
def f13.j0T (R : Value → Heap → Prop) (A1 : Option Addr) (n1 : Nat) (c1 : Nat) (A2 : Option Addr) (n2 : Nat) (c2 : Nat) (a3 : Addr) (a6 : Addr) (h : Heap) : Prop :=
  ∃ v1_, ldv false 1 h a3 = some v1_ ∧ ∃ x2_, v1_ = (Value.int .i64 x2_) ∧ ∃ v3_, ldv false 1 h (Addr.add a3 1) = some v3_ ∧ ∃ s4_, v3_ = (Value.string s4_) ∧ newH h (Obj.cells #[(Value.int .i64 (0 : Int)), (Value.string (ByteArray.mk #[])), (Value.slice none 0 0)] 25) fun h5_ => ∃ l7_ : List Value, (Value.agg #[(Value.int .i64 x2_), (Value.string s4_), (Value.slice none 0 0)]) = Value.agg l7_.toArray ∧ l7_.length = 3 ∧ ∃ h6_, stH h5_ (⟨Array.size h, 0, none⟩) l7_ 0 = some h6_ ∧ ∃ v8_, ldv false 1 h6_ (Addr.add a3 2) = some v8_ ∧ ∃ A9_, ∃ n9_, ∃ c9_, v8_ = (Value.slice A9_ n9_ c9_) ∧ f13.l0 R A1 n1 c1 A2 n2 c2 a6 (⟨Array.size h, 0, none⟩) A9_ n9_ c9_ ((n9_ : Nat) : Int) (0 : Int) h6_
set_option maxRecDepth 100000 in
theorem f13.j0_in {R : Value → Heap → Prop} {A1 : Option Addr} {n1 : Nat} {c1 : Nat} {A2 : Option Addr} {n2 : Nat} {c2 : Nat} {a3 : Addr} {a6 : Addr} {h : Heap} (H : f13.j0T R A1 n1 c1 A2 n2 c2 a3 a6 h) : f13.j0 R A1 n1 c1 A2 n2 c2 a3 a6 h :=
  pt_intro mixed f13.good (Eq.mpr (show (Fwd Tryd.prog f13.T f13.kp Tryd.f13 R [true, true, true] (mkFr [(1, (Value.slice A1 n1 c1)), (2, (Value.slice A2 n2 c2)), (3, (Value.pointer (some a3))), (6, (Value.pointer (some a6)))]) h) = (f13.j0T R A1 n1 c1 A2 n2 c2 a3 a6 h) by kernel_rfl) H)
set_option maxRecDepth 100000 in
def f13.l0T (R : Value → Heap → Prop) (A1 : Option Addr) (n1 : Nat) (c1 : Nat) (A2 : Option Addr) (n2 : Nat) (c2 : Nat) (a6 : Addr) (a8 : Addr) (A39 : Option Addr) (n39 : Nat) (c39 : Nat) (x40 : Int) (x41 : Int) (h : Heap) : Prop :=
  splitB (decide (x41 < x40)) (ptrOk A39 fun a1_ => 0 ≤ x41 ∧ x41 < ((n39 : Nat) : Int) ∧ (∃ v2_, ldv true 3 h (Addr.add a1_ (Int.toNat x41 * 3)) = some v2_ ∧ newH h (Obj.cells #[(Value.int .i64 (0 : Int)), (Value.string (ByteArray.mk #[])), (Value.slice none 0 0)] 25) fun h3_ => ∃ l5_ : List Value, v2_ = Value.agg l5_.toArray ∧ l5_.length = 3 ∧ ∃ h4_, stH h3_ (⟨Array.size h, 0, none⟩) l5_ 0 = some h4_ ∧ ∃ v6_, ldv false 1 h4_ (Addr.add a8 2) = some v6_ ∧ ∃ A7_, ∃ n7_, ∃ c7_, v6_ = (Value.slice A7_ n7_ c7_) ∧ ∃ v8_, ldv true 3 h4_ (⟨Array.size h, 0, none⟩) = some v8_ ∧ Run Tryd.prog 13 #[v8_, (Value.slice A1 n1 c1), (Value.slice A2 n2 c2)] h4_ fun v9_ h10_ => Ext h4_ h10_ ∧ (∃ l11_ : List Value, v9_ = Value.agg l11_.toArray ∧ l11_.length = 3 ∧ (newH h10_ (Obj.cells ((List.take 0 ([(Value.int .i64 (0 : Int)), (Value.string (ByteArray.mk #[])), (Value.slice none 0 0)]) ++ l11_ ++ List.drop 3 ([(Value.int .i64 (0 : Int)), (Value.string (ByteArray.mk #[])), (Value.slice none 0 0)])).toArray) 25) fun h12_ => Ext h10_ h12_ ∧ (AppW 25 3 48 #[(Value.int .i64 (0 : Int)), (Value.string (ByteArray.mk #[])), (Value.slice none 0 0)] A7_ n7_ c7_ (Value.slice (some ⟨Array.size h10_, 0, none⟩) 1 1) h12_ fun v13_ h14_ => ∃ A15_, ∃ n15_, ∃ c15_, v13_ = (Value.slice A15_ n15_ c15_) ∧ ∃ h16_, st1 h14_ (Addr.add a8 2) (Value.slice A15_ n15_ c15_) = some h16_ ∧ f13.l0 R A1 n1 c1 A2 n2 c2 a6 a8 A39 n39 c39 x40 (IntKind.wrap .i64 (x41 + (1 : Int))) h16_))))) (∃ v17_, ldv true 3 h a8 = some v17_ ∧ ∃ l19_ : List Value, v17_ = Value.agg l19_.toArray ∧ l19_.length = 3 ∧ ∃ h18_, stH h a6 l19_ 0 = some h18_ ∧ ∃ v20_, ldv true 3 h18_ a6 = some v20_ ∧ R v20_ h18_)
set_option maxRecDepth 100000 in
theorem f13.l0_in {R : Value → Heap → Prop} {A1 : Option Addr} {n1 : Nat} {c1 : Nat} {A2 : Option Addr} {n2 : Nat} {c2 : Nat} {a6 : Addr} {a8 : Addr} {A39 : Option Addr} {n39 : Nat} {c39 : Nat} {x40 : Int} {x41 : Int} {h : Heap} (H : f13.l0T R A1 n1 c1 A2 n2 c2 a6 a8 A39 n39 c39 x40 x41 h) : f13.l0 R A1 n1 c1 A2 n2 c2 a6 a8 A39 n39 c39 x40 x41 h :=
  pt_intro mixed f13.good (Eq.mpr (show (Fwd Tryd.prog f13.T f13.kp Tryd.f13 R [false, false, true, false, true, true, true, true] (mkFr [(1, (Value.slice A1 n1 c1)), (2, (Value.slice A2 n2 c2)), (6, (Value.pointer (some a6))), (8, (Value.pointer (some a8))), (39, (Value.slice A39 n39 c39)), (40, (Value.int .i64 x40)), (41, (Value.int .i64 x41))]) h) = (f13.l0T R A1 n1 c1 A2 n2 c2 a6 a8 A39 n39 c39 x40 x41 h) by kernel_rfl) H)
set_option maxRecDepth 100000 in
def f13.runT (R : Value → Heap → Prop) (v0 : Value) (A1 : Option Addr) (n1 : Nat) (c1 : Nat) (A2 : Option Addr) (n2 : Nat) (c2 : Nat) (h : Heap) : Prop :=
  newH h (Obj.cells ((v0).cells) 25) fun h1_ => newH h1_ (Obj.cells #[(Value.int .i64 (0 : Int)), (Value.string (ByteArray.mk #[])), (Value.slice none 0 0)] 25) fun h2_ => ∃ v3_, ldv false 1 h2_ (Addr.add (⟨Array.size h, 0, none⟩) 1) = some v3_ ∧ ∃ s4_, v3_ = (Value.string s4_) ∧ Run Tryd.prog 33 #[(Value.slice A1 n1 c1), (Value.string s4_)] h2_ fun v5_ h6_ => ∃ x7_, v5_ = (Value.int .i64 x7_) ∧ ∃ v8_, ldv false 1 h6_ (⟨Array.size h, 0, none⟩) = some v8_ ∧ ∃ x9_, v8_ = (Value.int .i64 x9_) ∧ splitB (x9_ == (5 : Int)) (splitB (decide (x7_ ≥ (0 : Int))) (f13.j1 R A1 n1 c1 A2 n2 c2 (⟨Array.size h, 0, none⟩) (⟨Array.size h1_, 0, none⟩) x7_ (decide (x7_ < ((n2 : Nat) : Int))) h6_) (f13.j1 R A1 n1 c1 A2 n2 c2 (⟨Array.size h, 0, none⟩) (⟨Array.size h1_, 0, none⟩) x7_ false h6_)) (f13.j1 R A1 n1 c1 A2 n2 c2 (⟨Array.size h, 0, none⟩) (⟨Array.size h1_, 0, none⟩) x7_ false h6_)
set_option maxRecDepth 100000 in
theorem f13.run {R : Value → Heap → Prop} {v0 : Value} {A1 : Option Addr} {n1 : Nat} {c1 : Nat} {A2 : Option Addr} {n2 : Nat} {c2 : Nat} {h : Heap} (H : f13.runT R v0 A1 n1 c1 A2 n2 c2 h) : Run Tryd.prog 13 #[v0, (Value.slice A1 n1 c1), (Value.slice A2 n2 c2)] h R :=
  run_of mixed Tryd.func13 (by kernel_rfl) (by kernel_rfl) f13.good (Eq.mpr (show (Fwd Tryd.prog f13.T f13.kp Tryd.f13 R [] (mkFr (argL [v0, (Value.slice A1 n1 c1), (Value.slice A2 n2 c2)] 0)) h) = (f13.runT R v0 A1 n1 c1 A2 n2 c2 h) by kernel_rfl) H)
def f45.T : Tab := { sh := tSh, tup := tTup, keep := [], plan := [] }
def f45.kp : Keep := [([false, false, true, false, true, true], [1, 3, 7, 8, 9])]
theorem f45.good : goodCode Tryd.prog f45.T (rootOf Tryd.f45) = true := by kernel_rfl
def f45.l0 (R : Value → Heap → Prop) (a1 : Addr) (A3 : Option Addr) (n3 : Nat) (c3 : Nat) (A7 : Option Addr) (n7 : Nat) (c7 : Nat) (x8 : Int) (x9 : Int) (h : Heap) : Prop := Pt Tryd.prog Tryd.f45 R [false, false, true, false, true, true] (mkFr [(1, (Value.pointer (some a1))), (3, (Value.slice A3 n3 c3)), (7, (Value.slice A7 n7 c7)), (8, (Value.int .i64 x8)), (9, (Value.int .i64 x9))]) h
set_option maxRecDepth 100000 in
def f45.l0T (R : Value → Heap → Prop) (a1 : Addr) (A3 : Option Addr) (n3 : Nat) (c3 : Nat) (A7 : Option Addr) (n7 : Nat) (c7 : Nat) (x8 : Int) (x9 : Int) (h : Heap) : Prop :=
  splitB (decide (x9 < x8)) (ptrOk A7 fun a1_ => 0 ≤ x9 ∧ x9 < ((n7 : Nat) : Int) ∧ (∃ v2_, ldv true 3 h (Addr.add a1_ (Int.toNat x9 * 3)) = some v2_ ∧ newH h (Obj.cells #[(Value.string (ByteArray.mk #[])), (Value.string (ByteArray.mk #[])), (Value.slice none 0 0)] 95) fun h3_ => ∃ l5_ : List Value, v2_ = Value.agg l5_.toArray ∧ l5_.length = 3 ∧ ∃ h4_, stH h3_ (⟨Array.size h, 0, none⟩) l5_ 0 = some h4_ ∧ ∃ v6_, ldv false 1 h4_ (Addr.add (⟨Array.size h, 0, none⟩) 2) = some v6_ ∧ ∃ A7_, ∃ n7_, ∃ c7_, v6_ = (Value.slice A7_ n7_ c7_) ∧ AppW 101 15 272 #[(Value.string (ByteArray.mk #[])), (Value.slice none 0 0), (Value.slice none 0 0), (Value.slice none 0 0), (Value.int .i64 (0 : Int)), (Value.string (ByteArray.mk #[])), (Value.slice none 0 0), (Value.int .i64 (0 : Int)), (Value.int .i64 (0 : Int)), (Value.string (ByteArray.mk #[])), (Value.slice none 0 0), (Value.slice none 0 0), (Value.slice none 0 0), (Value.slice none 0 0), (Value.int .i64 (0 : Int))] A3 n3 c3 (Value.slice A7_ n7_ c7_) h4_ fun v8_ h9_ => ∃ A10_, ∃ n10_, ∃ c10_, v8_ = (Value.slice A10_ n10_ c10_) ∧ f45.l0 R a1 A10_ n10_ c10_ A7 n7 c7 x8 (IntKind.wrap .i64 (x9 + (1 : Int))) h9_)) (∃ v11_, ldv false 1 h (Addr.add a1 6) = some v11_ ∧ ∃ A12_, ∃ n12_, ∃ c12_, v11_ = (Value.slice A12_ n12_ c12_) ∧ AppW 101 15 272 #[(Value.string (ByteArray.mk #[])), (Value.slice none 0 0), (Value.slice none 0 0), (Value.slice none 0 0), (Value.int .i64 (0 : Int)), (Value.string (ByteArray.mk #[])), (Value.slice none 0 0), (Value.int .i64 (0 : Int)), (Value.int .i64 (0 : Int)), (Value.string (ByteArray.mk #[])), (Value.slice none 0 0), (Value.slice none 0 0), (Value.slice none 0 0), (Value.slice none 0 0), (Value.int .i64 (0 : Int))] A3 n3 c3 (Value.slice A12_ n12_ c12_) h fun v13_ h14_ => ∃ A15_, ∃ n15_, ∃ c15_, v13_ = (Value.slice A15_ n15_ c15_) ∧ R (Value.slice A15_ n15_ c15_) h14_)
set_option maxRecDepth 100000 in
theorem f45.l0_in {R : Value → Heap → Prop} {a1 : Addr} {A3 : Option Addr} {n3 : Nat} {c3 : Nat} {A7 : Option Addr} {n7 : Nat} {c7 : Nat} {x8 : Int} {x9 : Int} {h : Heap} (H : f45.l0T R a1 A3 n3 c3 A7 n7 c7 x8 x9 h) : f45.l0 R a1 A3 n3 c3 A7 n7 c7 x8 x9 h :=
  pt_intro mixed f45.good (Eq.mpr (show (Fwd Tryd.prog f45.T f45.kp Tryd.f45 R [false, false, true, false, true, true] (mkFr [(1, (Value.pointer (some a1))), (3, (Value.slice A3 n3 c3)), (7, (Value.slice A7 n7 c7)), (8, (Value.int .i64 x8)), (9, (Value.int .i64 x9))]) h) = (f45.l0T R a1 A3 n3 c3 A7 n7 c7 x8 x9 h) by kernel_rfl) H)
set_option maxRecDepth 100000 in
def f45.runT (R : Value → Heap → Prop) (v0 : Value) (h : Heap) : Prop :=
  newH h (Obj.cells ((v0).cells) 54) fun h1_ => ∃ v2_, ldv false 1 h1_ (Addr.add (⟨Array.size h, 0, none⟩) 5) = some v2_ ∧ ∃ A3_, ∃ n3_, ∃ c3_, v2_ = (Value.slice A3_ n3_ c3_) ∧ f45.l0 R (⟨Array.size h, 0, none⟩) none 0 0 A3_ n3_ c3_ ((n3_ : Nat) : Int) (0 : Int) h1_
set_option maxRecDepth 100000 in
theorem f45.run {R : Value → Heap → Prop} {v0 : Value} {h : Heap} (H : f45.runT R v0 h) : Run Tryd.prog 45 #[v0] h R :=
  run_of mixed Tryd.func45 (by kernel_rfl) (by kernel_rfl) f45.good (Eq.mpr (show (Fwd Tryd.prog f45.T f45.kp Tryd.f45 R [] (mkFr (argL [v0] 0)) h) = (f45.runT R v0 h) by kernel_rfl) H)
def f39.T : Tab := { sh := tSh, tup := tTup, keep := [], plan := [] }
def f39.kp : Keep := [([false, false, true, false, true, true], [1, 3, 9, 10, 11]), ([false, false, true, false, true, true, true], [3, 22, 23, 24])]
theorem f39.good : goodCode Tryd.prog f39.T (rootOf Tryd.f39) = true := by kernel_rfl
def f39.l0 (R : Value → Heap → Prop) (a1 : Addr) (A3 : Option Addr) (n3 : Nat) (c3 : Nat) (A9 : Option Addr) (n9 : Nat) (c9 : Nat) (x10 : Int) (x11 : Int) (h : Heap) : Prop := Pt Tryd.prog Tryd.f39 R [false, false, true, false, true, true] (mkFr [(1, (Value.pointer (some a1))), (3, (Value.slice A3 n3 c3)), (9, (Value.slice A9 n9 c9)), (10, (Value.int .i64 x10)), (11, (Value.int .i64 x11))]) h
def f39.l1 (R : Value → Heap → Prop) (A3 : Option Addr) (n3 : Nat) (c3 : Nat) (A22 : Option Addr) (n22 : Nat) (c22 : Nat) (x23 : Int) (x24 : Int) (h : Heap) : Prop := Pt Tryd.prog Tryd.f39 R [false, false, true, false, true, true, true] (mkFr [(3, (Value.slice A3 n3 c3)), (22, (Value.slice A22 n22 c22)), (23, (Value.int .i64 x23)), (24, (Value.int .i64 x24))]) h
set_option maxRecDepth 100000 in
def f39.l0T (R : Value → Heap → Prop) (a1 : Addr) (A3 : Option Addr) (n3 : Nat) (c3 : Nat) (A9 : Option Addr) (n9 : Nat) (c9 : Nat) (x10 : Int) (x11 : Int) (h : Heap) : Prop :=
  splitB (decide (x11 < x10)) (ptrOk A9 fun a1_ => 0 ≤ x11 ∧ x11 < ((n9 : Nat) : Int) ∧ (∃ v2_, ldv true 15 h (Addr.add a1_ (Int.toNat x11 * 15)) = some v2_ ∧ newH h (Obj.cells #[(Value.string (ByteArray.mk #[])), (Value.slice none 0 0), (Value.slice none 0 0), (Value.slice none 0 0), (Value.int .i64 (0 : Int)), (Value.string (ByteArray.mk #[])), (Value.slice none 0 0), (Value.int .i64 (0 : Int)), (Value.int .i64 (0 : Int)), (Value.string (ByteArray.mk #[])), (Value.slice none 0 0), (Value.slice none 0 0), (Value.slice none 0 0), (Value.slice none 0 0), (Value.int .i64 (0 : Int))] 101) fun h3_ => ∃ l5_ : List Value, v2_ = Value.agg l5_.toArray ∧ l5_.length = 15 ∧ ∃ h4_, stH h3_ (⟨Array.size h, 0, none⟩) l5_ 0 = some h4_ ∧ ∃ v6_, ldv true 8 h4_ (Addr.add (⟨Array.size h, 0, none⟩) 7) = some v6_ ∧ ∃ l7_ : List Value, v6_ = Value.agg l7_.toArray ∧ l7_.length = 8 ∧ (newH h4_ (Obj.cells ((List.take 0 ([(Value.int .i64 (0 : Int)), (Value.int .i64 (0 : Int)), (Value.string (ByteArray.mk #[])), (Value.slice none 0 0), (Value.slice none 0 0), (Value.slice none 0 0), (Value.slice none 0 0), (Value.int .i64 (0 : Int))]) ++ l7_ ++ List.drop 8 ([(Value.int .i64 (0 : Int)), (Value.int .i64 (0 : Int)), (Value.string (ByteArray.mk #[])), (Value.slice none 0 0), (Value.slice none 0 0), (Value.slice none 0 0), (Value.slice none 0 0), (Value.int .i64 (0 : Int))])).toArray) 87) fun h8_ => AppW 87 8 136 #[(Value.int .i64 (0 : Int)), (Value.int .i64 (0 : Int)), (Value.string (ByteArray.mk #[])), (Value.slice none 0 0), (Value.slice none 0 0), (Value.slice none 0 0), (Value.slice none 0 0), (Value.int .i64 (0 : Int))] A3 n3 c3 (Value.slice (some ⟨Array.size h4_, 0, none⟩) 1 1) h8_ fun v9_ h10_ => ∃ A11_, ∃ n11_, ∃ c11_, v9_ = (Value.slice A11_ n11_ c11_) ∧ f39.l0 R a1 A11_ n11_ c11_ A9 n9 c9 x10 (IntKind.wrap .i64 (x11 + (1 : Int))) h10_))) (∃ v12_, ldv false 1 h (Addr.add a1 7) = some v12_ ∧ ∃ A13_, ∃ n13_, ∃ c13_, v12_ = (Value.slice A13_ n13_ c13_) ∧ f39.l1 R A3 n3 c3 A13_ n13_ c13_ ((n13_ : Nat) : Int) (0 : Int) h)
set_option maxRecDepth 100000 in
theorem f39.l0_in {R : Value → Heap → Prop} {a1 : Addr} {A3 : Option Addr} {n3 : Nat} {c3 : Nat} {A9 : Option Addr} {n9 : Nat} {c9 : Nat} {x10 : Int} {x11 : Int} {h : Heap} (H : f39.l0T R a1 A3 n3 c3 A9 n9 c9 x10 x11 h) : f39.l0 R a1 A3 n3 c3 A9 n9 c9 x10 x11 h :=
  pt_intro mixed f39.good (Eq.mpr (show (Fwd Tryd.prog f39.T f39.kp Tryd.f39 R [false, false, true, false, true, true] (mkFr [(1, (Value.pointer (some a1))), (3, (Value.slice A3 n3 c3)), (9, (Value.slice A9 n9 c9)), (10, (Value.int .i64 x10)), (11, (Value.int .i64 x11))]) h) = (f39.l0T R a1 A3 n3 c3 A9 n9 c9 x10 x11 h) by kernel_rfl) H)
set_option maxRecDepth 100000 in
def f39.l1T (R : Value → Heap → Prop) (A3 : Option Addr) (n3 : Nat) (c3 : Nat) (A22 : Option Addr) (n22 : Nat) (c22 : Nat) (x23 : Int) (x24 : Int) (h : Heap) : Prop :=
  splitB (decide (x24 < x23)) (ptrOk A22 fun a1_ => 0 ≤ x24 ∧ x24 < ((n22 : Nat) : Int) ∧ (∃ v2_, ldv true 14 h (Addr.add a1_ (Int.toNat x24 * 14)) = some v2_ ∧ newH h (Obj.cells #[(Value.string (ByteArray.mk #[])), (Value.slice none 0 0), (Value.slice none 0 0), (Value.int .i64 (0 : Int)), (Value.string (ByteArray.mk #[])), (Value.slice none 0 0), (Value.int .i64 (0 : Int)), (Value.int .i64 (0 : Int)), (Value.string (ByteArray.mk #[])), (Value.slice none 0 0), (Value.slice none 0 0), (Value.slice none 0 0), (Value.slice none 0 0), (Value.int .i64 (0 : Int))] 97) fun h3_ => ∃ l5_ : List Value, v2_ = Value.agg l5_.toArray ∧ l5_.length = 14 ∧ ∃ h4_, stH h3_ (⟨Array.size h, 0, none⟩) l5_ 0 = some h4_ ∧ ∃ v6_, ldv true 8 h4_ (Addr.add (⟨Array.size h, 0, none⟩) 6) = some v6_ ∧ ∃ l7_ : List Value, v6_ = Value.agg l7_.toArray ∧ l7_.length = 8 ∧ (newH h4_ (Obj.cells ((List.take 0 ([(Value.int .i64 (0 : Int)), (Value.int .i64 (0 : Int)), (Value.string (ByteArray.mk #[])), (Value.slice none 0 0), (Value.slice none 0 0), (Value.slice none 0 0), (Value.slice none 0 0), (Value.int .i64 (0 : Int))]) ++ l7_ ++ List.drop 8 ([(Value.int .i64 (0 : Int)), (Value.int .i64 (0 : Int)), (Value.string (ByteArray.mk #[])), (Value.slice none 0 0), (Value.slice none 0 0), (Value.slice none 0 0), (Value.slice none 0 0), (Value.int .i64 (0 : Int))])).toArray) 87) fun h8_ => AppW 87 8 136 #[(Value.int .i64 (0 : Int)), (Value.int .i64 (0 : Int)), (Value.string (ByteArray.mk #[])), (Value.slice none 0 0), (Value.slice none 0 0), (Value.slice none 0 0), (Value.slice none 0 0), (Value.int .i64 (0 : Int))] A3 n3 c3 (Value.slice (some ⟨Array.size h4_, 0, none⟩) 1 1) h8_ fun v9_ h10_ => ∃ A11_, ∃ n11_, ∃ c11_, v9_ = (Value.slice A11_ n11_ c11_) ∧ f39.l1 R A11_ n11_ c11_ A22 n22 c22 x23 (IntKind.wrap .i64 (x24 + (1 : Int))) h10_))) (R (Value.slice A3 n3 c3) h)
set_option maxRecDepth 100000 in
theorem f39.l1_in {R : Value → Heap → Prop} {A3 : Option Addr} {n3 : Nat} {c3 : Nat} {A22 : Option Addr} {n22 : Nat} {c22 : Nat} {x23 : Int} {x24 : Int} {h : Heap} (H : f39.l1T R A3 n3 c3 A22 n22 c22 x23 x24 h) : f39.l1 R A3 n3 c3 A22 n22 c22 x23 x24 h :=
  pt_intro mixed f39.good (Eq.mpr (show (Fwd Tryd.prog f39.T f39.kp Tryd.f39 R [false, false, true, false, true, true, true] (mkFr [(3, (Value.slice A3 n3 c3)), (22, (Value.slice A22 n22 c22)), (23, (Value.int .i64 x23)), (24, (Value.int .i64 x24))]) h) = (f39.l1T R A3 n3 c3 A22 n22 c22 x23 x24 h) by kernel_rfl) H)
set_option maxRecDepth 100000 in
def f39.runT (R : Value → Heap → Prop) (v0 : Value) (h : Heap) : Prop :=
  newH h (Obj.cells ((v0).cells) 54) fun h1_ => ∃ v2_, ldv true 8 h1_ (⟨Array.size h, 0, none⟩) = some v2_ ∧ Run Tryd.prog 45 #[v2_] h1_ fun v3_ h4_ => ∃ A5_, ∃ n5_, ∃ c5_, v3_ = (Value.slice A5_ n5_ c5_) ∧ f39.l0 R (⟨Array.size h, 0, none⟩) none 0 0 A5_ n5_ c5_ ((n5_ : Nat) : Int) (0 : Int) h4_
set_option maxRecDepth 100000 in
theorem f39.run {R : Value → Heap → Prop} {v0 : Value} {h : Heap} (H : f39.runT R v0 h) : Run Tryd.prog 39 #[v0] h R :=
  run_of mixed Tryd.func39 (by kernel_rfl) (by kernel_rfl) f39.good (Eq.mpr (show (Fwd Tryd.prog f39.T f39.kp Tryd.f39 R [] (mkFr (argL [v0] 0)) h) = (f39.runT R v0 h) by kernel_rfl) H)
def f53.T : Tab := { sh := tSh, tup := tTup, keep := [], plan := [] }
def f53.kp : Keep := [([false, false, false, true, true, true], [3, 4]), ([false, false, true, false, true, true, true, false, true, false, false, false, true, true, true], [3, 4, 5, 6]), ([false, false, true, true, true, true, true, false, true, false, false, false, true, true, true], [3, 4, 5, 7])]
theorem f53.good : goodCode Tryd.prog f53.T (rootOf Tryd.f53) = true := by kernel_rfl
def f53.l0 (R : Value → Heap → Prop) (A3 : Option Addr) (n3 : Nat) (c3 : Nat) (A4 : Option Addr) (n4 : Nat) (c4 : Nat) (h : Heap) : Prop := Pt Tryd.prog Tryd.f53 R [false, false, false, true, true, true] (mkFr [(3, (Value.slice A3 n3 c3)), (4, (Value.slice A4 n4 c4))]) h
def f53.l1 (R : Value → Heap → Prop) (A3 : Option Addr) (n3 : Nat) (c3 : Nat) (A4 : Option Addr) (n4 : Nat) (c4 : Nat) (a5 : Addr) (x6 : Int) (h : Heap) : Prop := Pt Tryd.prog Tryd.f53 R [false, false, true, false, true, true, true, false, true, false, false, false, true, true, true] (mkFr [(3, (Value.slice A3 n3 c3)), (4, (Value.slice A4 n4 c4)), (5, (Value.pointer (some a5))), (6, (Value.int .i64 x6))]) h
def f53.l2 (R : Value → Heap → Prop) (A3 : Option Addr) (n3 : Nat) (c3 : Nat) (A4 : Option Addr) (n4 : Nat) (c4 : Nat) (a5 : Addr) (x7 : Int) (h : Heap) : Prop := Pt Tryd.prog Tryd.f53 R [false, false, true, true, true, true, true, false, true, false, false, false, true, true, true] (mkFr [(3, (Value.slice A3 n3 c3)), (4, (Value.slice A4 n4 c4)), (5, (Value.pointer (some a5))), (7, (Value.int .i64 x7))]) h
set_option maxRecDepth 100000 in
def f53.l0T (R : Value → Heap → Prop) (A3 : Option Addr) (n3 : Nat) (c3 : Nat) (A4 : Option Addr) (n4 : Nat) (c4 : Nat) (h : Heap) : Prop :=
  splitB (decide (((n3 : Nat) : Int) > (0 : Int))) (ptrOk A3 fun a1_ => 0 ≤ (IntKind.wrap .i64 (((n3 : Nat) : Int) - (1 : Int))) ∧ (IntKind.wrap .i64 (((n3 : Nat) : Int) - (1 : Int))) < ((n3 : Nat) : Int) ∧ (∃ v2_, ldv true 8 h (Addr.add a1_ (Int.toNat (IntKind.wrap .i64 (((n3 : Nat) : Int) - (1 : Int))) * 8)) = some v2_ ∧ newH h (Obj.cells #[(Value.int .i64 (0 : Int)), (Value.int .i64 (0 : Int)), (Value.string (ByteArray.mk #[])), (Value.slice none 0 0), (Value.slice none 0 0), (Value.slice none 0 0), (Value.slice none 0 0), (Value.int .i64 (0 : Int))] 87) fun h3_ => ∃ l5_ : List Value, v2_ = Value.agg l5_.toArray ∧ l5_.length = 8 ∧ ∃ h4_, stH h3_ (⟨Array.size h, 0, none⟩) l5_ 0 = some h4_ ∧ 0 ≤ (0 : Int) ∧ (0 : Int) ≤ (IntKind.wrap .i64 (((n3 : Nat) : Int) - (1 : Int))) ∧ (IntKind.wrap .i64 (((n3 : Nat) : Int) - (1 : Int))) ≤ ((c3 : Nat) : Int) ∧ (∃ v6_, ldv true 8 h4_ (⟨Array.size h, 0, none⟩) = some v6_ ∧ ∃ l7_ : List Value, v6_ = Value.agg l7_.toArray ∧ l7_.length = 8 ∧ (newH h4_ (Obj.cells ((List.take 0 ([(Value.int .i64 (0 : Int)), (Value.int .i64 (0 : Int)), (Value.string (ByteArray.mk #[])), (Value.slice none 0 0), (Value.slice none 0 0), (Value.slice none 0 0), (Value.slice none 0 0), (Value.int .i64 (0 : Int))]) ++ l7_ ++ List.drop 8 ([(Value.int .i64 (0 : Int)), (Value.int .i64 (0 : Int)), (Value.string (ByteArray.mk #[])), (Value.slice none 0 0), (Value.slice none 0 0), (Value.slice none 0 0), (Value.slice none 0 0), (Value.int .i64 (0 : Int))])).toArray) 87) fun h8_ => AppW 87 8 136 #[(Value.int .i64 (0 : Int)), (Value.int .i64 (0 : Int)), (Value.string (ByteArray.mk #[])), (Value.slice none 0 0), (Value.slice none 0 0), (Value.slice none 0 0), (Value.slice none 0 0), (Value.int .i64 (0 : Int))] A4 n4 c4 (Value.slice (some ⟨Array.size h4_, 0, none⟩) 1 1) h8_ fun v9_ h10_ => ∃ A11_, ∃ n11_, ∃ c11_, v9_ = (Value.slice A11_ n11_ c11_) ∧ ∃ v12_, ldv false 1 h10_ (Addr.add (⟨Array.size h, 0, none⟩) 6) = some v12_ ∧ ∃ A13_, ∃ n13_, ∃ c13_, v12_ = (Value.slice A13_ n13_ c13_) ∧ f53.l1 R (sliceA A3 (Int.toNat (0 : Int)) c3 8) (Int.toNat (IntKind.wrap .i64 (((n3 : Nat) : Int) - (1 : Int))) - Int.toNat (0 : Int)) (c3 - Int.toNat (0 : Int)) A11_ n11_ c11_ (⟨Array.size h, 0, none⟩) (IntKind.wrap .i64 (((n13_ : Nat) : Int) - (1 : Int))) h10_)))) (R (Value.slice A4 n4 c4) h)
set_option maxRecDepth 100000 in
theorem f53.l0_in {R : Value → Heap → Prop} {A3 : Option Addr} {n3 : Nat} {c3 : Nat} {A4 : Option Addr} {n4 : Nat} {c4 : Nat} {h : Heap} (H : f53.l0T R A3 n3 c3 A4 n4 c4 h) : f53.l0 R A3 n3 c3 A4 n4 c4 h :=
  pt_intro mixed f53.good (Eq.mpr (show (Fwd Tryd.prog f53.T f53.kp Tryd.f53 R [false, false, false, true, true, true] (mkFr [(3, (Value.slice A3 n3 c3)), (4, (Value.slice A4 n4 c4))]) h) = (f53.l0T R A3 n3 c3 A4 n4 c4 h) by kernel_rfl) H)
set_option maxRecDepth 100000 in
def f53.l1T (R : Value → Heap → Prop) (A3 : Option Addr) (n3 : Nat) (c3 : Nat) (A4 : Option Addr) (n4 : Nat) (c4 : Nat) (a5 : Addr) (x6 : Int) (h : Heap) : Prop :=
  splitB (decide (x6 ≥ (0 : Int))) (∃ v1_, ldv false 1 h (Addr.add a5 6) = some v1_ ∧ ∃ A2_, ∃ n2_, ∃ c2_, v1_ = (Value.slice A2_ n2_ c2_) ∧ ptrOk A2_ fun a3_ => 0 ≤ x6 ∧ x6 < ((n2_ : Nat) : Int) ∧ (∃ v4_, ldv true 8 h (Addr.add (Addr.add a3_ (Int.toNat x6 * 12)) 4) = some v4_ ∧ ∃ l5_ : List Value, v4_ = Value.agg l5_.toArray ∧ l5_.length = 8 ∧ (newH h (Obj.cells ((List.take 0 ([(Value.int .i64 (0 : Int)), (Value.int .i64 (0 : Int)), (Value.string (ByteArray.mk #[])), (Value.slice none 0 0), (Value.slice none 0 0), (Value.slice none 0 0), (Value.slice none 0 0), (Value.int .i64 (0 : Int))]) ++ l5_ ++ List.drop 8 ([(Value.int .i64 (0 : Int)), (Value.int .i64 (0 : Int)), (Value.string (ByteArray.mk #[])), (Value.slice none 0 0), (Value.slice none 0 0), (Value.slice none 0 0), (Value.slice none 0 0), (Value.int .i64 (0 : Int))])).toArray) 87) fun h6_ => AppW 87 8 136 #[(Value.int .i64 (0 : Int)), (Value.int .i64 (0 : Int)), (Value.string (ByteArray.mk #[])), (Value.slice none 0 0), (Value.slice none 0 0), (Value.slice none 0 0), (Value.slice none 0 0), (Value.int .i64 (0 : Int))] A3 n3 c3 (Value.slice (some ⟨Array.size h, 0, none⟩) 1 1) h6_ fun v7_ h8_ => ∃ A9_, ∃ n9_, ∃ c9_, v7_ = (Value.slice A9_ n9_ c9_) ∧ f53.l1 R A9_ n9_ c9_ A4 n4 c4 a5 (IntKind.wrap .i64 (x6 - (1 : Int))) h8_))) (∃ v10_, ldv false 1 h (Addr.add a5 5) = some v10_ ∧ ∃ A11_, ∃ n11_, ∃ c11_, v10_ = (Value.slice A11_ n11_ c11_) ∧ f53.l2 R A3 n3 c3 A4 n4 c4 a5 (IntKind.wrap .i64 (((n11_ : Nat) : Int) - (1 : Int))) h)
set_option maxRecDepth 100000 in
theorem f53.l1_in {R : Value → Heap → Prop} {A3 : Option Addr} {n3 : Nat} {c3 : Nat} {A4 : Option Addr} {n4 : Nat} {c4 : Nat} {a5 : Addr} {x6 : Int} {h : Heap} (H : f53.l1T R A3 n3 c3 A4 n4 c4 a5 x6 h) : f53.l1 R A3 n3 c3 A4 n4 c4 a5 x6 h :=
  pt_intro mixed f53.good (Eq.mpr (show (Fwd Tryd.prog f53.T f53.kp Tryd.f53 R [false, false, true, false, true, true, true, false, true, false, false, false, true, true, true] (mkFr [(3, (Value.slice A3 n3 c3)), (4, (Value.slice A4 n4 c4)), (5, (Value.pointer (some a5))), (6, (Value.int .i64 x6))]) h) = (f53.l1T R A3 n3 c3 A4 n4 c4 a5 x6 h) by kernel_rfl) H)
set_option maxRecDepth 100000 in
def f53.l2T (R : Value → Heap → Prop) (A3 : Option Addr) (n3 : Nat) (c3 : Nat) (A4 : Option Addr) (n4 : Nat) (c4 : Nat) (a5 : Addr) (x7 : Int) (h : Heap) : Prop :=
  splitB (decide (x7 ≥ (0 : Int))) (∃ v1_, ldv false 1 h (Addr.add a5 5) = some v1_ ∧ ∃ A2_, ∃ n2_, ∃ c2_, v1_ = (Value.slice A2_ n2_ c2_) ∧ ptrOk A2_ fun a3_ => 0 ≤ x7 ∧ x7 < ((n2_ : Nat) : Int) ∧ (∃ v4_, ldv true 8 h (Addr.add a3_ (Int.toNat x7 * 8)) = some v4_ ∧ ∃ l5_ : List Value, v4_ = Value.agg l5_.toArray ∧ l5_.length = 8 ∧ (newH h (Obj.cells ((List.take 0 ([(Value.int .i64 (0 : Int)), (Value.int .i64 (0 : Int)), (Value.string (ByteArray.mk #[])), (Value.slice none 0 0), (Value.slice none 0 0), (Value.slice none 0 0), (Value.slice none 0 0), (Value.int .i64 (0 : Int))]) ++ l5_ ++ List.drop 8 ([(Value.int .i64 (0 : Int)), (Value.int .i64 (0 : Int)), (Value.string (ByteArray.mk #[])), (Value.slice none 0 0), (Value.slice none 0 0), (Value.slice none 0 0), (Value.slice none 0 0), (Value.int .i64 (0 : Int))])).toArray) 87) fun h6_ => AppW 87 8 136 #[(Value.int .i64 (0 : Int)), (Value.int .i64 (0 : Int)), (Value.string (ByteArray.mk #[])), (Value.slice none 0 0), (Value.slice none 0 0), (Value.slice none 0 0), (Value.slice none 0 0), (Value.int .i64 (0 : Int))] A3 n3 c3 (Value.slice (some ⟨Array.size h, 0, none⟩) 1 1) h6_ fun v7_ h8_ => ∃ A9_, ∃ n9_, ∃ c9_, v7_ = (Value.slice A9_ n9_ c9_) ∧ f53.l2 R A9_ n9_ c9_ A4 n4 c4 a5 (IntKind.wrap .i64 (x7 - (1 : Int))) h8_))) (f53.l0 R A3 n3 c3 A4 n4 c4 h)
set_option maxRecDepth 100000 in
theorem f53.l2_in {R : Value → Heap → Prop} {A3 : Option Addr} {n3 : Nat} {c3 : Nat} {A4 : Option Addr} {n4 : Nat} {c4 : Nat} {a5 : Addr} {x7 : Int} {h : Heap} (H : f53.l2T R A3 n3 c3 A4 n4 c4 a5 x7 h) : f53.l2 R A3 n3 c3 A4 n4 c4 a5 x7 h :=
  pt_intro mixed f53.good (Eq.mpr (show (Fwd Tryd.prog f53.T f53.kp Tryd.f53 R [false, false, true, true, true, true, true, false, true, false, false, false, true, true, true] (mkFr [(3, (Value.slice A3 n3 c3)), (4, (Value.slice A4 n4 c4)), (5, (Value.pointer (some a5))), (7, (Value.int .i64 x7))]) h) = (f53.l2T R A3 n3 c3 A4 n4 c4 a5 x7 h) by kernel_rfl) H)
set_option maxRecDepth 100000 in
def f53.runT (R : Value → Heap → Prop) (v0 : Value) (h : Heap) : Prop :=
  newH h (Obj.cells ((v0).cells) 87) fun h1_ => ∃ v2_, ldv true 8 h1_ (⟨Array.size h, 0, none⟩) = some v2_ ∧ ∃ l3_ : List Value, v2_ = Value.agg l3_.toArray ∧ l3_.length = 8 ∧ (newH h1_ (Obj.cells ((List.take 0 ([(Value.int .i64 (0 : Int)), (Value.int .i64 (0 : Int)), (Value.string (ByteArray.mk #[])), (Value.slice none 0 0), (Value.slice none 0 0), (Value.slice none 0 0), (Value.slice none 0 0), (Value.int .i64 (0 : Int))]) ++ l3_ ++ List.drop 8 ([(Value.int .i64 (0 : Int)), (Value.int .i64 (0 : Int)), (Value.string (ByteArray.mk #[])), (Value.slice none 0 0), (Value.slice none 0 0), (Value.slice none 0 0), (Value.slice none 0 0), (Value.int .i64 (0 : Int))])).toArray) 87) fun h4_ => f53.l0 R (some ⟨Array.size h1_, 0, none⟩) 1 1 none 0 0 h4_)
set_option maxRecDepth 100000 in
theorem f53.run {R : Value → Heap → Prop} {v0 : Value} {h : Heap} (H : f53.runT R v0 h) : Run Tryd.prog 53 #[v0] h R :=
  run_of mixed Tryd.func53 (by kernel_rfl) (by kernel_rfl) f53.good (Eq.mpr (show (Fwd Tryd.prog f53.T f53.kp Tryd.f53 R [] (mkFr (argL [v0] 0)) h) = (f53.runT R v0 h) by kernel_rfl) H)
def f54.T : Tab := { sh := tSh, tup := tTup, keep := [], plan := [] }
def f54.kp : Keep := [([false, false, true, false, true, true], [3, 4])]
theorem f54.good : goodCode Tryd.prog f54.T (rootOf Tryd.f54) = true := by kernel_rfl
def f54.l0 (R : Value → Heap → Prop) (A3 : Option Addr) (n3 : Nat) (c3 : Nat) (x4 : Int) (h : Heap) : Prop := Pt Tryd.prog Tryd.f54 R [false, false, true, false, true, true] (mkFr [(3, (Value.slice A3 n3 c3)), (4, (Value.int .i64 x4))]) h
set_option maxRecDepth 100000 in
def f54.l0T (R : Value → Heap → Prop) (A3 : Option Addr) (n3 : Nat) (c3 : Nat) (x4 : Int) (h : Heap) : Prop :=
  splitB (decide (x4 < ((n3 : Nat) : Int))) (ptrOk A3 fun a1_ => 0 ≤ x4 ∧ x4 < ((n3 : Nat) : Int) ∧ (∃ v2_, ldv false 1 h (Addr.add (Addr.add a1_ (Int.toNat x4 * 4)) 3) = some v2_ ∧ ∃ A3_, ∃ n3_, ∃ c3_, v2_ = (Value.slice A3_ n3_ c3_) ∧ AppW 117 4 56 #[(Value.int .i64 (0 : Int)), (Value.int .i64 (0 : Int)), (Value.string (ByteArray.mk #[])), (Value.slice none 0 0)] A3 n3 c3 (Value.slice A3_ n3_ c3_) h fun v4_ h5_ => ∃ A6_, ∃ n6_, ∃ c6_, v4_ = (Value.slice A6_ n6_ c6_) ∧ f54.l0 R A6_ n6_ c6_ (IntKind.wrap .i64 (x4 + (1 : Int))) h5_)) (R (Value.slice A3 n3 c3) h)
set_option maxRecDepth 100000 in
theorem f54.l0_in {R : Value → Heap → Prop} {A3 : Option Addr} {n3 : Nat} {c3 : Nat} {x4 : Int} {h : Heap} (H : f54.l0T R A3 n3 c3 x4 h) : f54.l0 R A3 n3 c3 x4 h :=
  pt_intro mixed f54.good (Eq.mpr (show (Fwd Tryd.prog f54.T f54.kp Tryd.f54 R [false, false, true, false, true, true] (mkFr [(3, (Value.slice A3 n3 c3)), (4, (Value.int .i64 x4))]) h) = (f54.l0T R A3 n3 c3 x4 h) by kernel_rfl) H)
set_option maxRecDepth 100000 in
def f54.runT (R : Value → Heap → Prop) (v0 : Value) (h : Heap) : Prop :=
  newH h (Obj.cells ((v0).cells) 117) fun h1_ => ∃ v2_, ldv true 4 h1_ (⟨Array.size h, 0, none⟩) = some v2_ ∧ ∃ l3_ : List Value, v2_ = Value.agg l3_.toArray ∧ l3_.length = 4 ∧ (newH h1_ (Obj.cells ((List.take 0 ([(Value.int .i64 (0 : Int)), (Value.int .i64 (0 : Int)), (Value.string (ByteArray.mk #[])), (Value.slice none 0 0)]) ++ l3_ ++ List.drop 4 ([(Value.int .i64 (0 : Int)), (Value.int .i64 (0 : Int)), (Value.string (ByteArray.mk #[])), (Value.slice none 0 0)])).toArray) 117) fun h4_ => f54.l0 R (some ⟨Array.size h1_, 0, none⟩) 1 1 (0 : Int) h4_)
set_option maxRecDepth 100000 in
theorem f54.run {R : Value → Heap → Prop} {v0 : Value} {h : Heap} (H : f54.runT R v0 h) : Run Tryd.prog 54 #[v0] h R :=
  run_of mixed Tryd.func54 (by kernel_rfl) (by kernel_rfl) f54.good (Eq.mpr (show (Fwd Tryd.prog f54.T f54.kp Tryd.f54 R [] (mkFr (argL [v0] 0)) h) = (f54.runT R v0 h) by kernel_rfl) H)
def f40.T : Tab := { sh := tSh, tup := tTup, keep := [], plan := [] }
def f40.kp : Keep := [([false, false, true, false, true, true], [3, 9, 10, 11]), ([false, false, true, true, true, false, false, true, true, false, false, true, false, true, true], [3, 9, 10, 11, 18, 19, 20])]
theorem f40.good : goodCode Tryd.prog f40.T (rootOf Tryd.f40) = true := by kernel_rfl
def f40.l0 (R : Value → Heap → Prop) (x3 : Int) (A9 : Option Addr) (n9 : Nat) (c9 : Nat) (x10 : Int) (x11 : Int) (h : Heap) : Prop := Pt Tryd.prog Tryd.f40 R [false, false, true, false, true, true] (mkFr [(3, (Value.int .i64 x3)), (9, (Value.slice A9 n9 c9)), (10, (Value.int .i64 x10)), (11, (Value.int .i64 x11))]) h
def f40.l1 (R : Value → Heap → Prop) (x3 : Int) (A9 : Option Addr) (n9 : Nat) (c9 : Nat) (x10 : Int) (x11 : Int) (A18 : Option Addr) (n18 : Nat) (c18 : Nat) (x19 : Int) (x20 : Int) (h : Heap) : Prop := Pt Tryd.prog Tryd.f40 R [false, false, true, true, true, false, false, true, true, false, false, true, false, true, true] (mkFr [(3, (Value.int .i64 x3)), (9, (Value.slice A9 n9 c9)), (10, (Value.int .i64 x10)), (11, (Value.int .i64 x11)), (18, (Value.slice A18 n18 c18)), (19, (Value.int .i64 x19)), (20, (Value.int .i64 x20))]) h
set_option maxRecDepth 100000 in
def f40.l0T (R : Value → Heap → Prop) (x3 : Int) (A9 : Option Addr) (n9 : Nat) (c9 : Nat) (x10 : Int) (x11 : Int) (h : Heap) : Prop :=
  splitB (decide (x11 < x10)) (ptrOk A9 fun a1_ => 0 ≤ x11 ∧ x11 < ((n9 : Nat) : Int) ∧ (∃ v2_, ldv true 8 h (Addr.add a1_ (Int.toNat x11 * 8)) = some v2_ ∧ newH h (Obj.cells #[(Value.int .i64 (0 : Int)), (Value.int .i64 (0 : Int)), (Value.string (ByteArray.mk #[])), (Value.slice none 0 0), (Value.slice none 0 0), (Value.slice none 0 0), (Value.slice none 0 0), (Value.int .i64 (0 : Int))] 87) fun h3_ => ∃ l5_ : List Value, v2_ = Value.agg l5_.toArray ∧ l5_.length = 8 ∧ ∃ h4_, stH h3_ (⟨Array.size h, 0, none⟩) l5_ 0 = some h4_ ∧ ∃ v6_, ldv false 1 h4_ (Addr.add (⟨Array.size h, 0, none⟩) 6) = some v6_ ∧ ∃ A7_, ∃ n7_, ∃ c7_, v6_ = (Value.slice A7_ n7_ c7_) ∧ f40.l1 R (IntKind.wrap .i64 (x3 + (1 : Int))) A9 n9 c9 x10 x11 A7_ n7_ c7_ ((n7_ : Nat) : Int) (0 : Int) h4_)) (R (Value.int .i64 x3) h)
set_option maxRecDepth 100000 in
theorem f40.l0_in {R : Value → Heap → Prop} {x3 : Int} {A9 : Option Addr} {n9 : Nat} {c9 : Nat} {x10 : Int} {x11 : Int} {h : Heap} (H : f40.l0T R x3 A9 n9 c9 x10 x11 h) : f40.l0 R x3 A9 n9 c9 x10 x11 h :=
  pt_intro mixed f40.good (Eq.mpr (show (Fwd Tryd.prog f40.T f40.kp Tryd.f40 R [false, false, true, false, true, true] (mkFr [(3, (Value.int .i64 x3)), (9, (Value.slice A9 n9 c9)), (10, (Value.int .i64 x10)), (11, (Value.int .i64 x11))]) h) = (f40.l0T R x3 A9 n9 c9 x10 x11 h) by kernel_rfl) H)
set_option maxRecDepth 100000 in
def f40.l1T (R : Value → Heap → Prop) (x3 : Int) (A9 : Option Addr) (n9 : Nat) (c9 : Nat) (x10 : Int) (x11 : Int) (A18 : Option Addr) (n18 : Nat) (c18 : Nat) (x19 : Int) (x20 : Int) (h : Heap) : Prop :=
  splitB (decide (x20 < x19)) (ptrOk A18 fun a1_ => 0 ≤ x20 ∧ x20 < ((n18 : Nat) : Int) ∧ (∃ v2_, ldv true 12 h (Addr.add a1_ (Int.toNat x20 * 12)) = some v2_ ∧ newH h (Obj.cells #[(Value.int .i64 (0 : Int)), (Value.int .i64 (0 : Int)), (Value.string (ByteArray.mk #[])), (Value.slice none 0 0), (Value.int .i64 (0 : Int)), (Value.int .i64 (0 : Int)), (Value.string (ByteArray.mk #[])), (Value.slice none 0 0), (Value.slice none 0 0), (Value.slice none 0 0), (Value.slice none 0 0), (Value.int .i64 (0 : Int))] 119) fun h3_ => ∃ l5_ : List Value, v2_ = Value.agg l5_.toArray ∧ l5_.length = 12 ∧ ∃ h4_, stH h3_ (⟨Array.size h, 0, none⟩) l5_ 0 = some h4_ ∧ ∃ v6_, ldv true 4 h4_ (⟨Array.size h, 0, none⟩) = some v6_ ∧ Run Tryd.prog 54 #[v6_] h4_ fun v7_ h8_ => ∃ A9_, ∃ n9_, ∃ c9_, v7_ = (Value.slice A9_ n9_ c9_) ∧ f40.l1 R (IntKind.wrap .i64 (x3 + ((n9_ : Nat) : Int))) A9 n9 c9 x10 x11 A18 n18 c18 x19 (IntKind.wrap .i64 (x20 + (1 : Int))) h8_)) (f40.l0 R x3 A9 n9 c9 x10 (IntKind.wrap .i64 (x11 + (1 : Int))) h)
set_option maxRecDepth 100000 in
theorem f40.l1_in {R : Value → Heap → Prop} {x3 : Int} {A9 : Option Addr} {n9 : Nat} {c9 : Nat} {x10 : Int} {x11 : Int} {A18 : Option Addr} {n18 : Nat} {c18 : Nat} {x19 : Int} {x20 : Int} {h : Heap} (H : f40.l1T R x3 A9 n9 c9 x10 x11 A18 n18 c18 x19 x20 h) : f40.l1 R x3 A9 n9 c9 x10 x11 A18 n18 c18 x19 x20 h :=
  pt_intro mixed f40.good (Eq.mpr (show (Fwd Tryd.prog f40.T f40.kp Tryd.f40 R [false, false, true, true, true, false, false, true, true, false, false, true, false, true, true] (mkFr [(3, (Value.int .i64 x3)), (9, (Value.slice A9 n9 c9)), (10, (Value.int .i64 x10)), (11, (Value.int .i64 x11)), (18, (Value.slice A18 n18 c18)), (19, (Value.int .i64 x19)), (20, (Value.int .i64 x20))]) h) = (f40.l1T R x3 A9 n9 c9 x10 x11 A18 n18 c18 x19 x20 h) by kernel_rfl) H)
set_option maxRecDepth 100000 in
def f40.runT (R : Value → Heap → Prop) (v0 : Value) (h : Heap) : Prop :=
  newH h (Obj.cells ((v0).cells) 87) fun h1_ => ∃ v2_, ldv true 8 h1_ (⟨Array.size h, 0, none⟩) = some v2_ ∧ Run Tryd.prog 53 #[v2_] h1_ fun v3_ h4_ => ∃ A5_, ∃ n5_, ∃ c5_, v3_ = (Value.slice A5_ n5_ c5_) ∧ f40.l0 R (0 : Int) A5_ n5_ c5_ ((n5_ : Nat) : Int) (0 : Int) h4_
set_option maxRecDepth 100000 in
theorem f40.run {R : Value → Heap → Prop} {v0 : Value} {h : Heap} (H : f40.runT R v0 h) : Run Tryd.prog 40 #[v0] h R :=
  run_of mixed Tryd.func40 (by kernel_rfl) (by kernel_rfl) f40.good (Eq.mpr (show (Fwd Tryd.prog f40.T f40.kp Tryd.f40 R [] (mkFr (argL [v0] 0)) h) = (f40.runT R v0 h) by kernel_rfl) H)
def f20.T : Tab := { sh := tSh, tup := tTup, keep := [], plan := [] }
def f20.kp : Keep := [([false, false, true, false, true, true], [3, 7, 8, 9])]
theorem f20.good : goodCode Tryd.prog f20.T (rootOf Tryd.f20) = true := by kernel_rfl
def f20.l0 (R : Value → Heap → Prop) (x3 : Int) (A7 : Option Addr) (n7 : Nat) (c7 : Nat) (x8 : Int) (x9 : Int) (h : Heap) : Prop := Pt Tryd.prog Tryd.f20 R [false, false, true, false, true, true] (mkFr [(3, (Value.int .i64 x3)), (7, (Value.slice A7 n7 c7)), (8, (Value.int .i64 x8)), (9, (Value.int .i64 x9))]) h
set_option maxRecDepth 100000 in
def f20.l0T (R : Value → Heap → Prop) (x3 : Int) (A7 : Option Addr) (n7 : Nat) (c7 : Nat) (x8 : Int) (x9 : Int) (h : Heap) : Prop :=
  splitB (decide (x9 < x8)) (ptrOk A7 fun a1_ => 0 ≤ x9 ∧ x9 < ((n7 : Nat) : Int) ∧ (∃ v2_, ldv true 8 h (Addr.add a1_ (Int.toNat x9 * 8)) = some v2_ ∧ newH h (Obj.cells #[(Value.int .i64 (0 : Int)), (Value.int .i64 (0 : Int)), (Value.string (ByteArray.mk #[])), (Value.slice none 0 0), (Value.slice none 0 0), (Value.slice none 0 0), (Value.slice none 0 0), (Value.int .i64 (0 : Int))] 87) fun h3_ => ∃ l5_ : List Value, v2_ = Value.agg l5_.toArray ∧ l5_.length = 8 ∧ ∃ h4_, stH h3_ (⟨Array.size h, 0, none⟩) l5_ 0 = some h4_ ∧ ∃ v6_, ldv true 8 h4_ (⟨Array.size h, 0, none⟩) = some v6_ ∧ Run Tryd.prog 40 #[v6_] h4_ fun v7_ h8_ => ∃ x9_, v7_ = (Value.int .i64 x9_) ∧ f20.l0 R (IntKind.wrap .i64 (x3 + x9_)) A7 n7 c7 x8 (IntKind.wrap .i64 (x9 + (1 : Int))) h8_)) (R (Value.bool (decide (x3 ≤ (400 : Int)))) h)
set_option maxRecDepth 100000 in
theorem f20.l0_in {R : Value → Heap → Prop} {x3 : Int} {A7 : Option Addr} {n7 : Nat} {c7 : Nat} {x8 : Int} {x9 : Int} {h : Heap} (H : f20.l0T R x3 A7 n7 c7 x8 x9 h) : f20.l0 R x3 A7 n7 c7 x8 x9 h :=
  pt_intro mixed f20.good (Eq.mpr (show (Fwd Tryd.prog f20.T f20.kp Tryd.f20 R [false, false, true, false, true, true] (mkFr [(3, (Value.int .i64 x3)), (7, (Value.slice A7 n7 c7)), (8, (Value.int .i64 x8)), (9, (Value.int .i64 x9))]) h) = (f20.l0T R x3 A7 n7 c7 x8 x9 h) by kernel_rfl) H)
set_option maxRecDepth 100000 in
def f20.runT (R : Value → Heap → Prop) (v0 : Value) (h : Heap) : Prop :=
  newH h (Obj.cells ((v0).cells) 54) fun h1_ => ∃ v2_, ldv true 8 h1_ (⟨Array.size h, 0, none⟩) = some v2_ ∧ Run Tryd.prog 39 #[v2_] h1_ fun v3_ h4_ => ∃ A5_, ∃ n5_, ∃ c5_, v3_ = (Value.slice A5_ n5_ c5_) ∧ f20.l0 R (0 : Int) A5_ n5_ c5_ ((n5_ : Nat) : Int) (0 : Int) h4_
set_option maxRecDepth 100000 in
theorem f20.run {R : Value → Heap → Prop} {v0 : Value} {h : Heap} (H : f20.runT R v0 h) : Run Tryd.prog 20 #[v0] h R :=
  run_of mixed Tryd.func20 (by kernel_rfl) (by kernel_rfl) f20.good (Eq.mpr (show (Fwd Tryd.prog f20.T f20.kp Tryd.f20 R [] (mkFr (argL [v0] 0)) h) = (f20.runT R v0 h) by kernel_rfl) H)
def f6.T : Tab := { sh := tSh, tup := tTup, keep := [], plan := [] }
def f6.kp : Keep := []
theorem f6.good : goodCode Tryd.prog f6.T (rootOf Tryd.f6) = true := by kernel_rfl
set_option maxRecDepth 100000 in
def f6.runT (R : Value → Heap → Prop) (A0 : Option Addr) (n0 : Nat) (c0 : Nat) (s1 : ByteArray) (h : Heap) : Prop :=
  Run Tryd.prog 33 #[(Value.slice A0 n0 c0), (Value.string s1)] h fun v1_ h2_ => ∃ x3_, v1_ = (Value.int .i64 x3_) ∧ R (Value.bool (decide (x3_ ≥ (0 : Int)))) h2_
set_option maxRecDepth 100000 in
theorem f6.run {R : Value → Heap → Prop} {A0 : Option Addr} {n0 : Nat} {c0 : Nat} {s1 : ByteArray} {h : Heap} (H : f6.runT R A0 n0 c0 s1 h) : Run Tryd.prog 6 #[(Value.slice A0 n0 c0), (Value.string s1)] h R :=
  run_of mixed Tryd.func6 (by kernel_rfl) (by kernel_rfl) f6.good (Eq.mpr (show (Fwd Tryd.prog f6.T f6.kp Tryd.f6 R [] (mkFr (argL [(Value.slice A0 n0 c0), (Value.string s1)] 0)) h) = (f6.runT R A0 n0 c0 s1 h) by kernel_rfl) H)
def f23.T : Tab := { sh := tSh, tup := tTup, keep := [], plan := [] }
def f23.kp : Keep := [([false, false, true, false, true], [1, 4, 9, 10, 11])]
theorem f23.good : goodCode Tryd.prog f23.T (rootOf Tryd.f23) = true := by kernel_rfl
def f23.l0 (R : Value → Heap → Prop) (s1 : ByteArray) (a4 : Addr) (A9 : Option Addr) (n9 : Nat) (c9 : Nat) (x10 : Int) (x11 : Int) (h : Heap) : Prop := Pt Tryd.prog Tryd.f23 R [false, false, true, false, true] (mkFr [(1, (Value.string s1)), (4, (Value.pointer (some a4))), (9, (Value.slice A9 n9 c9)), (10, (Value.int .i64 x10)), (11, (Value.int .i64 x11))]) h
set_option maxRecDepth 100000 in
def f23.l0T (R : Value → Heap → Prop) (s1 : ByteArray) (a4 : Addr) (A9 : Option Addr) (n9 : Nat) (c9 : Nat) (x10 : Int) (x11 : Int) (h : Heap) : Prop :=
  splitB (decide (x11 < x10)) (ptrOk A9 fun a1_ => 0 ≤ x11 ∧ x11 < ((n9 : Nat) : Int) ∧ (∃ v2_, ldv true 3 h (Addr.add a1_ (Int.toNat x11 * 3)) = some v2_ ∧ newH h (Obj.cells #[(Value.string (ByteArray.mk #[])), (Value.slice none 0 0), (Value.slice none 0 0)] 63) fun h3_ => ∃ l5_ : List Value, v2_ = Value.agg l5_.toArray ∧ l5_.length = 3 ∧ ∃ h4_, stH h3_ (⟨Array.size h, 0, none⟩) l5_ 0 = some h4_ ∧ ∃ v6_, ldv false 1 h4_ (⟨Array.size h, 0, none⟩) = some v6_ ∧ ∃ s7_, v6_ = (Value.string s7_) ∧ splitB (ByteArray.toList s7_ == ByteArray.toList s1) (∃ v8_, ldv true 3 h4_ (⟨Array.size h, 0, none⟩) = some v8_ ∧ ∃ l10_ : List Value, v8_ = Value.agg l10_.toArray ∧ l10_.length = 3 ∧ ∃ h9_, stH h4_ a4 l10_ 0 = some h9_ ∧ ∃ v11_, ldv true 3 h9_ a4 = some v11_ ∧ R (Value.tuple #[v11_, (Value.int .i64 (0 : Int))]) h9_) (f23.l0 R s1 a4 A9 n9 c9 x10 (IntKind.wrap .i64 (x11 + (1 : Int))) h4_))) (∃ l13_ : List Value, (Value.agg #[(Value.string (ByteArray.mk #[])), (Value.slice none 0 0), (Value.slice none 0 0)]) = Value.agg l13_.toArray ∧ l13_.length = 3 ∧ ∃ h12_, stH h a4 l13_ 0 = some h12_ ∧ ∃ v14_, ldv true 3 h12_ a4 = some v14_ ∧ R (Value.tuple #[v14_, (Value.int .i64 (11 : Int))]) h12_)
set_option maxRecDepth 100000 in
theorem f23.l0_in {R : Value → Heap → Prop} {s1 : ByteArray} {a4 : Addr} {A9 : Option Addr} {n9 : Nat} {c9 : Nat} {x10 : Int} {x11 : Int} {h : Heap} (H : f23.l0T R s1 a4 A9 n9 c9 x10 x11 h) : f23.l0 R s1 a4 A9 n9 c9 x10 x11 h :=
  pt_intro mixed f23.good (Eq.mpr (show (Fwd Tryd.prog f23.T f23.kp Tryd.f23 R [false, false, true, false, true] (mkFr [(1, (Value.string s1)), (4, (Value.pointer (some a4))), (9, (Value.slice A9 n9 c9)), (10, (Value.int .i64 x10)), (11, (Value.int .i64 x11))]) h) = (f23.l0T R s1 a4 A9 n9 c9 x10 x11 h) by kernel_rfl) H)
set_option maxRecDepth 100000 in
def f23.runT (R : Value → Heap → Prop) (v0 : Value) (s1 : ByteArray) (h : Heap) : Prop :=
  newH h (Obj.cells ((v0).cells) 54) fun h1_ => newH h1_ (Obj.cells #[(Value.string (ByteArray.mk #[])), (Value.slice none 0 0), (Value.slice none 0 0)] 63) fun h2_ => ∃ v3_, ldv false 1 h2_ (Addr.add (⟨Array.size h, 0, none⟩) 3) = some v3_ ∧ ∃ A4_, ∃ n4_, ∃ c4_, v3_ = (Value.slice A4_ n4_ c4_) ∧ f23.l0 R s1 (⟨Array.size h1_, 0, none⟩) A4_ n4_ c4_ ((n4_ : Nat) : Int) (0 : Int) h2_
set_option maxRecDepth 100000 in
theorem f23.run {R : Value → Heap → Prop} {v0 : Value} {s1 : ByteArray} {h : Heap} (H : f23.runT R v0 s1 h) : Run Tryd.prog 23 #[v0, (Value.string s1)] h R :=
  run_of mixed Tryd.func23 (by kernel_rfl) (by kernel_rfl) f23.good (Eq.mpr (show (Fwd Tryd.prog f23.T f23.kp Tryd.f23 R [] (mkFr (argL [v0, (Value.string s1)] 0)) h) = (f23.runT R v0 s1 h) by kernel_rfl) H)
def f26.T : Tab := { sh := tSh, tup := tTup, keep := [], plan := [] }
def f26.kp : Keep := [([true, true], [1, 3, 5])]
theorem f26.good : goodCode Tryd.prog f26.T (rootOf Tryd.f26) = true := by kernel_rfl
def f26.j0 (R : Value → Heap → Prop) (A1 : Option Addr) (n1 : Nat) (c1 : Nat) (a3 : Addr) (a5 : Addr) (h : Heap) : Prop := Pt Tryd.prog Tryd.f26 R [true, true] (mkFr [(1, (Value.slice A1 n1 c1)), (3, (Value.pointer (some a3))), (5, (Value.pointer (some a5)))]) h
set_option maxRecDepth 100000 in
def f26.j0T (R : Value → Heap → Prop) (A1 : Option Addr) (n1 : Nat) (c1 : Nat) (a3 : Addr) (a5 : Addr) (h : Heap) : Prop :=
  ∃ v1_, ldv true 8 h a3 = some v1_ ∧ ∃ v2_, ldv false 1 h (Addr.add a5 2) = some v2_ ∧ ∃ A3_, ∃ n3_, ∃ c3_, v2_ = (Value.slice A3_ n3_ c3_) ∧ Run Tryd.prog 28 #[v1_, (Value.slice A1 n1 c1), (Value.slice A3_ n3_ c3_)] h fun v4_ h5_ => ∃ x6_, v4_ = (Value.int .i64 x6_) ∧ R (Value.int .i64 x6_) h5_
set_option maxRecDepth 100000 in
theorem f26.j0_in {R : Value → Heap → Prop} {A1 : Option Addr} {n1 : Nat} {c1 : Nat} {a3 : Addr} {a5 : Addr} {h : Heap} (H : f26.j0T R A1 n1 c1 a3 a5 h) : f26.j0 R A1 n1 c1 a3 a5 h :=
  pt_intro mixed f26.good (Eq.mpr (show (Fwd Tryd.prog f26.T f26.kp Tryd.f26 R [true, true] (mkFr [(1, (Value.slice A1 n1 c1)), (3, (Value.pointer (some a3))), (5, (Value.pointer (some a5)))]) h) = (f26.j0T R A1 n1 c1 a3 a5 h) by kernel_rfl) H)
set_option maxRecDepth 100000 in
def f26.runT (R : Value → Heap → Prop) (v0 : Value) (A1 : Option Addr) (n1 : Nat) (c1 : Nat) (v2 : Value) (h : Heap) : Prop :=
  newH h (Obj.cells ((v0).cells) 54) fun h1_ => newH h1_ (Obj.cells ((v2).cells) 25) fun h2_ => ∃ v3_, ldv false 1 h2_ (⟨Array.size h1_, 0, none⟩) = some v3_ ∧ ∃ x4_, v3_ = (Value.int .i64 x4_) ∧ splitB (x4_ == (5 : Int)) (∃ v5_, ldv false 1 h2_ (Addr.add (⟨Array.size h1_, 0, none⟩) 1) = some v5_ ∧ ∃ s6_, v5_ = (Value.string s6_) ∧ Run Tryd.prog 6 #[(Value.slice A1 n1 c1), (Value.string s6_)] h2_ fun v7_ h8_ => ∃ b9_, v7_ = (Value.bool b9_) ∧ splitB (!b9_) (R (Value.int .i64 (11 : Int)) h8_) (f26.j0 R A1 n1 c1 (⟨Array.size h, 0, none⟩) (⟨Array.size h1_, 0, none⟩) h8_)) (splitB (x4_ == (6 : Int)) (∃ v10_, ldv true 8 h2_ (⟨Array.size h, 0, none⟩) = some v10_ ∧ ∃ v11_, ldv false 1 h2_ (Addr.add (⟨Array.size h1_, 0, none⟩) 1) = some v11_ ∧ ∃ s12_, v11_ = (Value.string s12_) ∧ Run Tryd.prog 23 #[v10_, (Value.string s12_)] h2_ fun v13_ h14_ => ∃ v15_, ∃ x16_, v13_ = (Value.tuple #[v15_, (Value.int .i64 x16_)]) ∧ newH h14_ (Obj.cells #[(Value.string (ByteArray.mk #[])), (Value.slice none 0 0), (Value.slice none 0 0)] 63) fun h17_ => ∃ l19_ : List Value, v15_ = Value.agg l19_.toArray ∧ l19_.length = 3 ∧ ∃ h18_, stH h17_ (⟨Array.size h14_, 0, none⟩) l19_ 0 = some h18_ ∧ splitB (x16_ != (0 : Int)) (R (Value.int .i64 x16_) h18_) (∃ v20_, ldv false 1 h18_ (Addr.add (⟨Array.size h14_, 0, none⟩) 1) = some v20_ ∧ ∃ A21_, ∃ n21_, ∃ c21_, v20_ = (Value.slice A21_ n21_ c21_) ∧ ∃ v22_, ldv false 1 h18_ (Addr.add (⟨Array.size h1_, 0, none⟩) 2) = some v22_ ∧ ∃ A23_, ∃ n23_, ∃ c23_, v22_ = (Value.slice A23_ n23_ c23_) ∧ splitB (((n21_ : Nat) : Int) != ((n23_ : Nat) : Int)) (R (Value.int .i64 (13 : Int)) h18_) (f26.j0 R A1 n1 c1 (⟨Array.size h, 0, none⟩) (⟨Array.size h1_, 0, none⟩) h18_))) (f26.j0 R A1 n1 c1 (⟨Array.size h, 0, none⟩) (⟨Array.size h1_, 0, none⟩) h2_))
set_option maxRecDepth 100000 in
theorem f26.run {R : Value → Heap → Prop} {v0 : Value} {A1 : Option Addr} {n1 : Nat} {c1 : Nat} {v2 : Value} {h : Heap} (H : f26.runT R v0 A1 n1 c1 v2 h) : Run Tryd.prog 26 #[v0, (Value.slice A1 n1 c1), v2] h R :=
  run_of mixed Tryd.func26 (by kernel_rfl) (by kernel_rfl) f26.good (Eq.mpr (show (Fwd Tryd.prog f26.T f26.kp Tryd.f26 R [] (mkFr (argL [v0, (Value.slice A1 n1 c1), v2] 0)) h) = (f26.runT R v0 A1 n1 c1 v2 h) by kernel_rfl) H)
def f28.T : Tab := { sh := tSh, tup := tTup, keep := [], plan := [] }
def f28.kp : Keep := [([false, false, true, false, true], [1, 3, 10, 11, 12])]
theorem f28.good : goodCode Tryd.prog f28.T (rootOf Tryd.f28) = true := by kernel_rfl
def f28.l0 (R : Value → Heap → Prop) (A1 : Option Addr) (n1 : Nat) (c1 : Nat) (a3 : Addr) (A10 : Option Addr) (n10 : Nat) (c10 : Nat) (x11 : Int) (x12 : Int) (h : Heap) : Prop := Pt Tryd.prog Tryd.f28 R [false, false, true, false, true] (mkFr [(1, (Value.slice A1 n1 c1)), (3, (Value.pointer (some a3))), (10, (Value.slice A10 n10 c10)), (11, (Value.int .i64 x11)), (12, (Value.int .i64 x12))]) h
set_option maxRecDepth 100000 in
def f28.l0T (R : Value → Heap → Prop) (A1 : Option Addr) (n1 : Nat) (c1 : Nat) (a3 : Addr) (A10 : Option Addr) (n10 : Nat) (c10 : Nat) (x11 : Int) (x12 : Int) (h : Heap) : Prop :=
  splitB (decide (x12 < x11)) (ptrOk A10 fun a1_ => 0 ≤ x12 ∧ x12 < ((n10 : Nat) : Int) ∧ (∃ v2_, ldv true 3 h (Addr.add a1_ (Int.toNat x12 * 3)) = some v2_ ∧ newH h (Obj.cells #[(Value.int .i64 (0 : Int)), (Value.string (ByteArray.mk #[])), (Value.slice none 0 0)] 25) fun h3_ => ∃ l5_ : List Value, v2_ = Value.agg l5_.toArray ∧ l5_.length = 3 ∧ ∃ h4_, stH h3_ (⟨Array.size h, 0, none⟩) l5_ 0 = some h4_ ∧ ∃ v6_, ldv true 8 h4_ a3 = some v6_ ∧ ∃ v7_, ldv true 3 h4_ (⟨Array.size h, 0, none⟩) = some v7_ ∧ Run Tryd.prog 26 #[v6_, (Value.slice A1 n1 c1), v7_] h4_ fun v8_ h9_ => ∃ x10_, v8_ = (Value.int .i64 x10_) ∧ splitB (x10_ != (0 : Int)) (R (Value.int .i64 x10_) h9_) (f28.l0 R A1 n1 c1 a3 A10 n10 c10 x11 (IntKind.wrap .i64 (x12 + (1 : Int))) h9_))) (R (Value.int .i64 (0 : Int)) h)
set_option maxRecDepth 100000 in
theorem f28.l0_in {R : Value → Heap → Prop} {A1 : Option Addr} {n1 : Nat} {c1 : Nat} {a3 : Addr} {A10 : Option Addr} {n10 : Nat} {c10 : Nat} {x11 : Int} {x12 : Int} {h : Heap} (H : f28.l0T R A1 n1 c1 a3 A10 n10 c10 x11 x12 h) : f28.l0 R A1 n1 c1 a3 A10 n10 c10 x11 x12 h :=
  pt_intro mixed f28.good (Eq.mpr (show (Fwd Tryd.prog f28.T f28.kp Tryd.f28 R [false, false, true, false, true] (mkFr [(1, (Value.slice A1 n1 c1)), (3, (Value.pointer (some a3))), (10, (Value.slice A10 n10 c10)), (11, (Value.int .i64 x11)), (12, (Value.int .i64 x12))]) h) = (f28.l0T R A1 n1 c1 a3 A10 n10 c10 x11 x12 h) by kernel_rfl) H)
set_option maxRecDepth 100000 in
def f28.runT (R : Value → Heap → Prop) (v0 : Value) (A1 : Option Addr) (n1 : Nat) (c1 : Nat) (A2 : Option Addr) (n2 : Nat) (c2 : Nat) (h : Heap) : Prop :=
  newH h (Obj.cells ((v0).cells) 54) fun h1_ => f28.l0 R A1 n1 c1 (⟨Array.size h, 0, none⟩) A2 n2 c2 ((n2 : Nat) : Int) (0 : Int) h1_
set_option maxRecDepth 100000 in
theorem f28.run {R : Value → Heap → Prop} {v0 : Value} {A1 : Option Addr} {n1 : Nat} {c1 : Nat} {A2 : Option Addr} {n2 : Nat} {c2 : Nat} {h : Heap} (H : f28.runT R v0 A1 n1 c1 A2 n2 c2 h) : Run Tryd.prog 28 #[v0, (Value.slice A1 n1 c1), (Value.slice A2 n2 c2)] h R :=
  run_of mixed Tryd.func28 (by kernel_rfl) (by kernel_rfl) f28.good (Eq.mpr (show (Fwd Tryd.prog f28.T f28.kp Tryd.f28 R [] (mkFr (argL [v0, (Value.slice A1 n1 c1), (Value.slice A2 n2 c2)] 0)) h) = (f28.runT R v0 A1 n1 c1 A2 n2 c2 h) by kernel_rfl) H)
def f42.T : Tab := { sh := tSh, tup := tTup, keep := [], plan := [] }
def f42.kp : Keep := []
theorem f42.good : goodCode Tryd.prog f42.T (rootOf Tryd.f42) = true := by kernel_rfl
set_option maxRecDepth 100000 in
def f42.runT (R : Value → Heap → Prop) (A0 : Option Addr) (n0 : Nat) (c0 : Nat) (h : Heap) : Prop :=
  splitB (Option.isNone A0) (R (Value.slice none 0 0) h) (newH h (Obj.cells #[] 25) fun h1_ => AppW 25 3 48 #[(Value.int .i64 (0 : Int)), (Value.string (ByteArray.mk #[])), (Value.slice none 0 0)] (some ⟨Array.size h, 0, none⟩) 0 0 (Value.slice A0 n0 c0) h1_ fun v2_ h3_ => ∃ A4_, ∃ n4_, ∃ c4_, v2_ = (Value.slice A4_ n4_ c4_) ∧ R (Value.slice A4_ n4_ c4_) h3_)
set_option maxRecDepth 100000 in
theorem f42.run {R : Value → Heap → Prop} {A0 : Option Addr} {n0 : Nat} {c0 : Nat} {h : Heap} (H : f42.runT R A0 n0 c0 h) : Run Tryd.prog 42 #[(Value.slice A0 n0 c0)] h R :=
  run_of mixed Tryd.func42 (by kernel_rfl) (by kernel_rfl) f42.good (Eq.mpr (show (Fwd Tryd.prog f42.T f42.kp Tryd.f42 R [] (mkFr (argL [(Value.slice A0 n0 c0)] 0)) h) = (f42.runT R A0 n0 c0 h) by kernel_rfl) H)
def f73.T : Tab := { sh := tSh, tup := tTup, keep := [], plan := [] }
def f73.kp : Keep := []
theorem f73.good : goodCode Tryd.prog f73.T (rootOf Tryd.f73) = true := by kernel_rfl
set_option maxRecDepth 100000 in
def f73.runT (R : Value → Heap → Prop) (A0 : Option Addr) (n0 : Nat) (c0 : Nat) (h : Heap) : Prop :=
  splitB (Option.isNone A0) (R (Value.slice none 0 0) h) (newH h (Obj.cells #[] 87) fun h1_ => AppW 87 8 136 #[(Value.int .i64 (0 : Int)), (Value.int .i64 (0 : Int)), (Value.string (ByteArray.mk #[])), (Value.slice none 0 0), (Value.slice none 0 0), (Value.slice none 0 0), (Value.slice none 0 0), (Value.int .i64 (0 : Int))] (some ⟨Array.size h, 0, none⟩) 0 0 (Value.slice A0 n0 c0) h1_ fun v2_ h3_ => ∃ A4_, ∃ n4_, ∃ c4_, v2_ = (Value.slice A4_ n4_ c4_) ∧ R (Value.slice A4_ n4_ c4_) h3_)
set_option maxRecDepth 100000 in
theorem f73.run {R : Value → Heap → Prop} {A0 : Option Addr} {n0 : Nat} {c0 : Nat} {h : Heap} (H : f73.runT R A0 n0 c0 h) : Run Tryd.prog 73 #[(Value.slice A0 n0 c0)] h R :=
  run_of mixed Tryd.func73 (by kernel_rfl) (by kernel_rfl) f73.good (Eq.mpr (show (Fwd Tryd.prog f73.T f73.kp Tryd.f73 R [] (mkFr (argL [(Value.slice A0 n0 c0)] 0)) h) = (f73.runT R A0 n0 c0 h) by kernel_rfl) H)
def f66.T : Tab := { sh := tSh, tup := tTup, keep := [], plan := [] }
def f66.kp : Keep := [([false, false, true, false, true, true], [3, 10, 11, 12])]
theorem f66.good : goodCode Tryd.prog f66.T (rootOf Tryd.f66) = true := by kernel_rfl
def f66.l0 (R : Value → Heap → Prop) (A3 : Option Addr) (n3 : Nat) (c3 : Nat) (A10 : Option Addr) (n10 : Nat) (c10 : Nat) (x11 : Int) (x12 : Int) (h : Heap) : Prop := Pt Tryd.prog Tryd.f66 R [false, false, true, false, true, true] (mkFr [(3, (Value.slice A3 n3 c3)), (10, (Value.slice A10 n10 c10)), (11, (Value.int .i64 x11)), (12, (Value.int .i64 x12))]) h
set_option maxRecDepth 100000 in
def f66.l0T (R : Value → Heap → Prop) (A3 : Option Addr) (n3 : Nat) (c3 : Nat) (A10 : Option Addr) (n10 : Nat) (c10 : Nat) (x11 : Int) (x12 : Int) (h : Heap) : Prop :=
  splitB (decide (x12 < x11)) (ptrOk A10 fun a1_ => 0 ≤ x12 ∧ x12 < ((n10 : Nat) : Int) ∧ (∃ v2_, ldv true 12 h (Addr.add a1_ (Int.toNat x12 * 12)) = some v2_ ∧ newH h (Obj.cells #[(Value.int .i64 (0 : Int)), (Value.int .i64 (0 : Int)), (Value.string (ByteArray.mk #[])), (Value.slice none 0 0), (Value.int .i64 (0 : Int)), (Value.int .i64 (0 : Int)), (Value.string (ByteArray.mk #[])), (Value.slice none 0 0), (Value.slice none 0 0), (Value.slice none 0 0), (Value.slice none 0 0), (Value.int .i64 (0 : Int))] 119) fun h3_ => ∃ l5_ : List Value, v2_ = Value.agg l5_.toArray ∧ l5_.length = 12 ∧ ∃ h4_, stH h3_ (⟨Array.size h, 0, none⟩) l5_ 0 = some h4_ ∧ ∃ v6_, ldv true 8 h4_ (Addr.add (⟨Array.size h, 0, none⟩) 4) = some v6_ ∧ ∃ l7_ : List Value, v6_ = Value.agg l7_.toArray ∧ l7_.length = 8 ∧ (newH h4_ (Obj.cells ((List.take 0 ([(Value.int .i64 (0 : Int)), (Value.int .i64 (0 : Int)), (Value.string (ByteArray.mk #[])), (Value.slice none 0 0), (Value.slice none 0 0), (Value.slice none 0 0), (Value.slice none 0 0), (Value.int .i64 (0 : Int))]) ++ l7_ ++ List.drop 8 ([(Value.int .i64 (0 : Int)), (Value.int .i64 (0 : Int)), (Value.string (ByteArray.mk #[])), (Value.slice none 0 0), (Value.slice none 0 0), (Value.slice none 0 0), (Value.slice none 0 0), (Value.int .i64 (0 : Int))])).toArray) 87) fun h8_ => AppW 87 8 136 #[(Value.int .i64 (0 : Int)), (Value.int .i64 (0 : Int)), (Value.string (ByteArray.mk #[])), (Value.slice none 0 0), (Value.slice none 0 0), (Value.slice none 0 0), (Value.slice none 0 0), (Value.int .i64 (0 : Int))] A3 n3 c3 (Value.slice (some ⟨Array.size h4_, 0, none⟩) 1 1) h8_ fun v9_ h10_ => ∃ A11_, ∃ n11_, ∃ c11_, v9_ = (Value.slice A11_ n11_ c11_) ∧ f66.l0 R A11_ n11_ c11_ A10 n10 c10 x11 (IntKind.wrap .i64 (x12 + (1 : Int))) h10_))) (R (Value.slice A3 n3 c3) h)
set_option maxRecDepth 100000 in
theorem f66.l0_in {R : Value → Heap → Prop} {A3 : Option Addr} {n3 : Nat} {c3 : Nat} {A10 : Option Addr} {n10 : Nat} {c10 : Nat} {x11 : Int} {x12 : Int} {h : Heap} (H : f66.l0T R A3 n3 c3 A10 n10 c10 x11 x12 h) : f66.l0 R A3 n3 c3 A10 n10 c10 x11 x12 h :=
  pt_intro mixed f66.good (Eq.mpr (show (Fwd Tryd.prog f66.T f66.kp Tryd.f66 R [false, false, true, false, true, true] (mkFr [(3, (Value.slice A3 n3 c3)), (10, (Value.slice A10 n10 c10)), (11, (Value.int .i64 x11)), (12, (Value.int .i64 x12))]) h) = (f66.l0T R A3 n3 c3 A10 n10 c10 x11 x12 h) by kernel_rfl) H)
set_option maxRecDepth 100000 in
def f66.runT (R : Value → Heap → Prop) (v0 : Value) (h : Heap) : Prop :=
  newH h (Obj.cells ((v0).cells) 87) fun h1_ => ∃ v2_, ldv false 1 h1_ (Addr.add (⟨Array.size h, 0, none⟩) 5) = some v2_ ∧ ∃ A3_, ∃ n3_, ∃ c3_, v2_ = (Value.slice A3_ n3_ c3_) ∧ Run Tryd.prog 73 #[(Value.slice A3_ n3_ c3_)] h1_ fun v4_ h5_ => ∃ A6_, ∃ n6_, ∃ c6_, v4_ = (Value.slice A6_ n6_ c6_) ∧ ∃ v7_, ldv false 1 h5_ (Addr.add (⟨Array.size h, 0, none⟩) 6) = some v7_ ∧ ∃ A8_, ∃ n8_, ∃ c8_, v7_ = (Value.slice A8_ n8_ c8_) ∧ f66.l0 R A6_ n6_ c6_ A8_ n8_ c8_ ((n8_ : Nat) : Int) (0 : Int) h5_
set_option maxRecDepth 100000 in
theorem f66.run {R : Value → Heap → Prop} {v0 : Value} {h : Heap} (H : f66.runT R v0 h) : Run Tryd.prog 66 #[v0] h R :=
  run_of mixed Tryd.func66 (by kernel_rfl) (by kernel_rfl) f66.good (Eq.mpr (show (Fwd Tryd.prog f66.T f66.kp Tryd.f66 R [] (mkFr (argL [v0] 0)) h) = (f66.runT R v0 h) by kernel_rfl) H)
def f56.T : Tab := { sh := tSh, tup := tTup, keep := [], plan := [] }
def f56.kp : Keep := [([false, false, true, false, true, true], [3, 9, 10, 11])]
theorem f56.good : goodCode Tryd.prog f56.T (rootOf Tryd.f56) = true := by kernel_rfl
def f56.l0 (R : Value → Heap → Prop) (A3 : Option Addr) (n3 : Nat) (c3 : Nat) (A9 : Option Addr) (n9 : Nat) (c9 : Nat) (x10 : Int) (x11 : Int) (h : Heap) : Prop := Pt Tryd.prog Tryd.f56 R [false, false, true, false, true, true] (mkFr [(3, (Value.slice A3 n3 c3)), (9, (Value.slice A9 n9 c9)), (10, (Value.int .i64 x10)), (11, (Value.int .i64 x11))]) h
set_option maxRecDepth 100000 in
def f56.l0T (R : Value → Heap → Prop) (A3 : Option Addr) (n3 : Nat) (c3 : Nat) (A9 : Option Addr) (n9 : Nat) (c9 : Nat) (x10 : Int) (x11 : Int) (h : Heap) : Prop :=
  splitB (decide (x11 < x10)) (ptrOk A9 fun a1_ => 0 ≤ x11 ∧ x11 < ((n9 : Nat) : Int) ∧ (∃ v2_, ldv true 8 h (Addr.add a1_ (Int.toNat x11 * 8)) = some v2_ ∧ newH h (Obj.cells #[(Value.int .i64 (0 : Int)), (Value.int .i64 (0 : Int)), (Value.string (ByteArray.mk #[])), (Value.slice none 0 0), (Value.slice none 0 0), (Value.slice none 0 0), (Value.slice none 0 0), (Value.int .i64 (0 : Int))] 87) fun h3_ => ∃ l5_ : List Value, v2_ = Value.agg l5_.toArray ∧ l5_.length = 8 ∧ ∃ h4_, stH h3_ (⟨Array.size h, 0, none⟩) l5_ 0 = some h4_ ∧ ∃ v6_, ldv true 8 h4_ (⟨Array.size h, 0, none⟩) = some v6_ ∧ Run Tryd.prog 56 #[v6_] h4_ fun v7_ h8_ => ∃ A9_, ∃ n9_, ∃ c9_, v7_ = (Value.slice A9_ n9_ c9_) ∧ AppW 87 8 136 #[(Value.int .i64 (0 : Int)), (Value.int .i64 (0 : Int)), (Value.string (ByteArray.mk #[])), (Value.slice none 0 0), (Value.slice none 0 0), (Value.slice none 0 0), (Value.slice none 0 0), (Value.int .i64 (0 : Int))] A3 n3 c3 (Value.slice A9_ n9_ c9_) h8_ fun v10_ h11_ => ∃ A12_, ∃ n12_, ∃ c12_, v10_ = (Value.slice A12_ n12_ c12_) ∧ f56.l0 R A12_ n12_ c12_ A9 n9 c9 x10 (IntKind.wrap .i64 (x11 + (1 : Int))) h11_)) (R (Value.slice A3 n3 c3) h)
set_option maxRecDepth 100000 in
theorem f56.l0_in {R : Value → Heap → Prop} {A3 : Option Addr} {n3 : Nat} {c3 : Nat} {A9 : Option Addr} {n9 : Nat} {c9 : Nat} {x10 : Int} {x11 : Int} {h : Heap} (H : f56.l0T R A3 n3 c3 A9 n9 c9 x10 x11 h) : f56.l0 R A3 n3 c3 A9 n9 c9 x10 x11 h :=
  pt_intro mixed f56.good (Eq.mpr (show (Fwd Tryd.prog f56.T f56.kp Tryd.f56 R [false, false, true, false, true, true] (mkFr [(3, (Value.slice A3 n3 c3)), (9, (Value.slice A9 n9 c9)), (10, (Value.int .i64 x10)), (11, (Value.int .i64 x11))]) h) = (f56.l0T R A3 n3 c3 A9 n9 c9 x10 x11 h) by kernel_rfl) H)
set_option maxRecDepth 100000 in
def f56.runT (R : Value → Heap → Prop) (v0 : Value) (h : Heap) : Prop :=
  newH h (Obj.cells ((v0).cells) 87) fun h1_ => ∃ v2_, ldv true 8 h1_ (⟨Array.size h, 0, none⟩) = some v2_ ∧ ∃ l3_ : List Value, v2_ = Value.agg l3_.toArray ∧ l3_.length = 8 ∧ (newH h1_ (Obj.cells ((List.take 0 ([(Value.int .i64 (0 : Int)), (Value.int .i64 (0 : Int)), (Value.string (ByteArray.mk #[])), (Value.slice none 0 0), (Value.slice none 0 0), (Value.slice none 0 0), (Value.slice none 0 0), (Value.int .i64 (0 : Int))]) ++ l3_ ++ List.drop 8 ([(Value.int .i64 (0 : Int)), (Value.int .i64 (0 : Int)), (Value.string (ByteArray.mk #[])), (Value.slice none 0 0), (Value.slice none 0 0), (Value.slice none 0 0), (Value.slice none 0 0), (Value.int .i64 (0 : Int))])).toArray) 87) fun h4_ => ∃ v5_, ldv true 8 h4_ (⟨Array.size h, 0, none⟩) = some v5_ ∧ Run Tryd.prog 66 #[v5_] h4_ fun v6_ h7_ => ∃ A8_, ∃ n8_, ∃ c8_, v6_ = (Value.slice A8_ n8_ c8_) ∧ f56.l0 R (some ⟨Array.size h1_, 0, none⟩) 1 1 A8_ n8_ c8_ ((n8_ : Nat) : Int) (0 : Int) h7_)
set_option maxRecDepth 100000 in
theorem f56.run {R : Value → Heap → Prop} {v0 : Value} {h : Heap} (H : f56.runT R v0 h) : Run Tryd.prog 56 #[v0] h R :=
  run_of mixed Tryd.func56 (by kernel_rfl) (by kernel_rfl) f56.good (Eq.mpr (show (Fwd Tryd.prog f56.T f56.kp Tryd.f56 R [] (mkFr (argL [v0] 0)) h) = (f56.runT R v0 h) by kernel_rfl) H)
def f43.T : Tab := { sh := tSh, tup := tTup, keep := [], plan := [(6, (.take 0 (.take 1 (.take 3 (.take 2 (.take 4 .done))))))] }
def f43.kp : Keep := [([false, false, true, false, true], [1, 3, 12, 13, 14])]
theorem f43.good : goodCode Tryd.prog f43.T (rootOf Tryd.f43) = true := by kernel_rfl
def f43.l0 (R : Value → Heap → Prop) (A1 : Option Addr) (n1 : Nat) (c1 : Nat) (a3 : Addr) (A12 : Option Addr) (n12 : Nat) (c12 : Nat) (x13 : Int) (x14 : Int) (h : Heap) : Prop := Pt Tryd.prog Tryd.f43 R [false, false, true, false, true] (mkFr [(1, (Value.slice A1 n1 c1)), (3, (Value.pointer (some a3))), (12, (Value.slice A12 n12 c12)), (13, (Value.int .i64 x13)), (14, (Value.int .i64 x14))]) h
set_option maxRecDepth 100000 in
def f43.l0T (R : Value → Heap → Prop) (A1 : Option Addr) (n1 : Nat) (c1 : Nat) (a3 : Addr) (A12 : Option Addr) (n12 : Nat) (c12 : Nat) (x13 : Int) (x14 : Int) (h : Heap) : Prop :=
  splitB (decide (x14 < x13)) (ptrOk A12 fun a1_ => 0 ≤ x14 ∧ x14 < ((n12 : Nat) : Int) ∧ (∃ v2_, ldv true 8 h (Addr.add a1_ (Int.toNat x14 * 8)) = some v2_ ∧ newH h (Obj.cells #[(Value.int .i64 (0 : Int)), (Value.int .i64 (0 : Int)), (Value.string (ByteArray.mk #[])), (Value.slice none 0 0), (Value.slice none 0 0), (Value.slice none 0 0), (Value.slice none 0 0), (Value.int .i64 (0 : Int))] 87) fun h3_ => ∃ l5_ : List Value, v2_ = Value.agg l5_.toArray ∧ l5_.length = 8 ∧ ∃ h4_, stH h3_ (⟨Array.size h, 0, none⟩) l5_ 0 = some h4_ ∧ ∃ v6_, ldv true 8 h4_ a3 = some v6_ ∧ ∃ v7_, ldv false 1 h4_ (Addr.add (⟨Array.size h, 0, none⟩) 4) = some v7_ ∧ ∃ A8_, ∃ n8_, ∃ c8_, v7_ = (Value.slice A8_ n8_ c8_) ∧ Run Tryd.prog 28 #[v6_, (Value.slice A1 n1 c1), (Value.slice A8_ n8_ c8_)] h4_ fun v9_ h10_ => ∃ x11_, v9_ = (Value.int .i64 x11_) ∧ splitB (x11_ != (0 : Int)) (∃ v12_, ldv false 1 h10_ (Addr.add (⟨Array.size h, 0, none⟩) 7) = some v12_ ∧ ∃ x13_, v12_ = (Value.int .i64 x13_) ∧ R (Value.tuple #[(Value.int .i64 x11_), (Value.int .i64 x13_)]) h10_) (f43.l0 R A1 n1 c1 a3 A12 n12 c12 x13 (IntKind.wrap .i64 (x14 + (1 : Int))) h10_))) (R (Value.tuple #[(Value.int .i64 (0 : Int)), (Value.int .i64 (0 : Int))]) h)
set_option maxRecDepth 100000 in
theorem f43.l0_in {R : Value → Heap → Prop} {A1 : Option Addr} {n1 : Nat} {c1 : Nat} {a3 : Addr} {A12 : Option Addr} {n12 : Nat} {c12 : Nat} {x13 : Int} {x14 : Int} {h : Heap} (H : f43.l0T R A1 n1 c1 a3 A12 n12 c12 x13 x14 h) : f43.l0 R A1 n1 c1 a3 A12 n12 c12 x13 x14 h :=
  pt_intro mixed f43.good (Eq.mpr (show (Fwd Tryd.prog f43.T f43.kp Tryd.f43 R [false, false, true, false, true] (mkFr [(1, (Value.slice A1 n1 c1)), (3, (Value.pointer (some a3))), (12, (Value.slice A12 n12 c12)), (13, (Value.int .i64 x13)), (14, (Value.int .i64 x14))]) h) = (f43.l0T R A1 n1 c1 a3 A12 n12 c12 x13 x14 h) by kernel_rfl) H)
set_option maxRecDepth 100000 in
def f43.runT (R : Value → Heap → Prop) (v0 : Value) (A1 : Option Addr) (n1 : Nat) (c1 : Nat) (v2 : Value) (h : Heap) : Prop :=
  newH h (Obj.cells ((v0).cells) 54) fun h1_ => newH h1_ (Obj.cells ((v2).cells) 87) fun h2_ => ∃ v3_, ldv true 8 h2_ (⟨Array.size h1_, 0, none⟩) = some v3_ ∧ Run Tryd.prog 56 #[v3_] h2_ fun v4_ h5_ => ∃ A6_, ∃ n6_, ∃ c6_, v4_ = (Value.slice A6_ n6_ c6_) ∧ f43.l0 R A1 n1 c1 (⟨Array.size h, 0, none⟩) A6_ n6_ c6_ ((n6_ : Nat) : Int) (0 : Int) h5_
set_option maxRecDepth 100000 in
theorem f43.run {R : Value → Heap → Prop} {v0 : Value} {A1 : Option Addr} {n1 : Nat} {c1 : Nat} {v2 : Value} {h : Heap} (H : f43.runT R v0 A1 n1 c1 v2 h) : Run Tryd.prog 43 #[v0, (Value.slice A1 n1 c1), v2] h R :=
  run_of mixed Tryd.func43 (by kernel_rfl) (by kernel_rfl) f43.good (Eq.mpr (show (Fwd Tryd.prog f43.T f43.kp Tryd.f43 R [] (mkFr (argL [v0, (Value.slice A1 n1 c1), v2] 0)) h) = (f43.runT R v0 A1 n1 c1 v2 h) by kernel_rfl) H)
def f55.T : Tab := { sh := tSh, tup := tTup, keep := [], plan := [] }
def f55.kp : Keep := []
theorem f55.good : goodCode Tryd.prog f55.T (rootOf Tryd.f55) = true := by kernel_rfl
set_option maxRecDepth 100000 in
def f55.runT (R : Value → Heap → Prop) (A0 : Option Addr) (n0 : Nat) (c0 : Nat) (h : Heap) : Prop :=
  splitB (Option.isNone A0) (R (Value.slice none 0 0) h) (newH h (Obj.cells #[] 9) fun h1_ => AppW 9 1 16 #[(Value.string (ByteArray.mk #[]))] (some ⟨Array.size h, 0, none⟩) 0 0 (Value.slice A0 n0 c0) h1_ fun v2_ h3_ => ∃ A4_, ∃ n4_, ∃ c4_, v2_ = (Value.slice A4_ n4_ c4_) ∧ R (Value.slice A4_ n4_ c4_) h3_)
set_option maxRecDepth 100000 in
theorem f55.run {R : Value → Heap → Prop} {A0 : Option Addr} {n0 : Nat} {c0 : Nat} {h : Heap} (H : f55.runT R A0 n0 c0 h) : Run Tryd.prog 55 #[(Value.slice A0 n0 c0)] h R :=
  run_of mixed Tryd.func55 (by kernel_rfl) (by kernel_rfl) f55.good (Eq.mpr (show (Fwd Tryd.prog f55.T f55.kp Tryd.f55 R [] (mkFr (argL [(Value.slice A0 n0 c0)] 0)) h) = (f55.runT R A0 n0 c0 h) by kernel_rfl) H)
def f41.T : Tab := { sh := tSh, tup := tTup, keep := [], plan := [(4, (.take 0 (.take 2 (.take 3 (.eff true 1 (.eff false 4 (.take 5 .done))))))), (5, (.take 1 (.take 2 (.take 5 (.take 3 (.take 6 (.alt true 0 (.alt true 4 (.eff true 7 (.eff false 8 (.eff false 9 (.take 10 .done)))) (.eff true 7 (.eff true 4 (.eff false 8 (.eff false 9 (.take 10 .done)))))) (.alt true 4 (.alt true 0 (.eff true 7 (.eff false 8 (.eff false 9 (.take 10 .done)))) (.eff true 7 (.alt true 0 (.eff false 8 (.eff false 9 (.take 10 .done))) (.eff false 8 (.eff true 0 (.eff false 9 (.take 10 .done))))))) (.eff true 7 (.alt true 0 (.eff true 4 (.eff false 8 (.eff false 9 (.take 10 .done)))) (.eff true 4 (.alt true 0 (.eff false 8 (.eff false 9 (.take 10 .done))) (.eff false 8 (.eff true 0 (.eff false 9 (.take 10 .done))))))))))))))))] }
def f41.kp : Keep := [([false, false, true, false, true], [2, 3, 14, 15, 16]), ([true, false, true, true, false, false, true, true, false, false, true, false, true], [2, 3, 9, 10, 11, 14, 15, 16]), ([true, true, true, false, false, true, true, false, false, true, false, true], [2, 3, 9, 10, 14, 15, 16])]
theorem f41.good : goodCode Tryd.prog f41.T (rootOf Tryd.f41) = true := by kernel_rfl
def f41.l0 (R : Value → Heap → Prop) (A2 : Option Addr) (n2 : Nat) (c2 : Nat) (a3 : Addr) (A14 : Option Addr) (n14 : Nat) (c14 : Nat) (x15 : Int) (x16 : Int) (h : Heap) : Prop := Pt Tryd.prog Tryd.f41 R [false, false, true, false, true] (mkFr [(2, (Value.slice A2 n2 c2)), (3, (Value.pointer (some a3))), (14, (Value.slice A14 n14 c14)), (15, (Value.int .i64 x15)), (16, (Value.int .i64 x16))]) h
def f41.j1 (R : Value → Heap → Prop) (A2 : Option Addr) (n2 : Nat) (c2 : Nat) (a3 : Addr) (a9 : Addr) (A10 : Option Addr) (n10 : Nat) (c10 : Nat) (x11 : Int) (A14 : Option Addr) (n14 : Nat) (c14 : Nat) (x15 : Int) (x16 : Int) (h : Heap) : Prop := Pt Tryd.prog Tryd.f41 R [true, false, true, true, false, false, true, true, false, false, true, false, true] (mkFr [(2, (Value.slice A2 n2 c2)), (3, (Value.pointer (some a3))), (9, (Value.pointer (some a9))), (10, (Value.slice A10 n10 c10)), (11, (Value.int .i64 x11)), (14, (Value.slice A14 n14 c14)), (15, (Value.int .i64 x15)), (16, (Value.int .i64 x16))]) h
def f41.j0 (R : Value → Heap → Prop) (A2 : Option Addr) (n2 : Nat) (c2 : Nat) (a3 : Addr) (a9 : Addr) (A10 : Option Addr) (n10 : Nat) (c10 : Nat) (A14 : Option Addr) (n14 : Nat) (c14 : Nat) (x15 : Int) (x16 : Int) (h : Heap) : Prop := Pt Tryd.prog Tryd.f41 R [true, true, true, false, false, true, true, false, false, true, false, true] (mkFr [(2, (Value.slice A2 n2 c2)), (3, (Value.pointer (some a3))), (9, (Value.pointer (some a9))), (10, (Value.slice A10 n10 c10)), (14, (Value.slice A14 n14 c14)), (15, (Value.int .i64 x15)), (16, (Value.int .i64 x16))]) h
set_option maxRecDepth 100000 in
def f41.l0T (R : Value → Heap → Prop) (A2 : Option Addr) (n2 : Nat) (c2 : Nat) (a3 : Addr) (A14 : Option Addr) (n14 : Nat) (c14 : Nat) (x15 : Int) (x16 : Int) (h : Heap) : Prop :=
  splitB (decide (x16 < x15)) (ptrOk A14 fun a1_ => 0 ≤ x16 ∧ x16 < ((n14 : Nat) : Int) ∧ (∃ v2_, ldv true 15 h (Addr.add a1_ (Int.toNat x16 * 15)) = some v2_ ∧ newH h (Obj.cells #[(Value.string (ByteArray.mk #[])), (Value.slice none 0 0), (Value.slice none 0 0), (Value.slice none 0 0), (Value.int .i64 (0 : Int)), (Value.string (ByteArray.mk #[])), (Value.slice none 0 0), (Value.int .i64 (0 : Int)), (Value.int .i64 (0 : Int)), (Value.string (ByteArray.mk #[])), (Value.slice none 0 0), (Value.slice none 0 0), (Value.slice none 0 0), (Value.slice none 0 0), (Value.int .i64 (0 : Int))] 101) fun h3_ => ∃ l5_ : List Value, v2_ = Value.agg l5_.toArray ∧ l5_.length = 15 ∧ ∃ h4_, stH h3_ (⟨Array.size h, 0, none⟩) l5_ 0 = some h4_ ∧ ∃ v6_, ldv false 1 h4_ (Addr.add (⟨Array.size h, 0, none⟩) 1) = some v6_ ∧ ∃ A7_, ∃ n7_, ∃ c7_, v6_ = (Value.slice A7_ n7_ c7_) ∧ Run Tryd.prog 55 #[(Value.slice A2 n2 c2)] h4_ fun v8_ h9_ => ∃ A10_, ∃ n10_, ∃ c10_, v8_ = (Value.slice A10_ n10_ c10_) ∧ Ext h4_ h9_ ∧ (AppW 9 1 16 #[(Value.string (ByteArray.mk #[]))] A10_ n10_ c10_ (Value.slice A7_ n7_ c7_) h9_ fun v11_ h12_ => ∃ A13_, ∃ n13_, ∃ c13_, v11_ = (Value.slice A13_ n13_ c13_) ∧ ∃ v14_, ldv false 1 h12_ (Addr.add (⟨Array.size h, 0, none⟩) 3) = some v14_ ∧ ∃ A15_, ∃ n15_, ∃ c15_, v14_ = (Value.slice A15_ n15_ c15_) ∧ ∃ v16_, ldv true 3 h12_ (Addr.add (⟨Array.size h, 0, none⟩) 4) = some v16_ ∧ (∃ v17_, ldv true 8 h12_ a3 = some v17_ ∧ Ext h12_ h12_ ∧ ((Run Tryd.prog 42 #[(Value.slice A15_ n15_ c15_)] h12_ fun v18_ h19_ => ∃ A20_, ∃ n20_, ∃ c20_, v18_ = (Value.slice A20_ n20_ c20_) ∧ Ext h12_ h19_ ∧ (∃ l21_ : List Value, v16_ = Value.agg l21_.toArray ∧ l21_.length = 3 ∧ (newH h19_ (Obj.cells ((List.take 0 ([(Value.int .i64 (0 : Int)), (Value.string (ByteArray.mk #[])), (Value.slice none 0 0)]) ++ l21_ ++ List.drop 3 ([(Value.int .i64 (0 : Int)), (Value.string (ByteArray.mk #[])), (Value.slice none 0 0)])).toArray) 25) fun h22_ => Ext h19_ h22_ ∧ (AppW 25 3 48 #[(Value.int .i64 (0 : Int)), (Value.string (ByteArray.mk #[])), (Value.slice none 0 0)] A20_ n20_ c20_ (Value.slice (some ⟨Array.size h19_, 0, none⟩) 1 1) h22_ fun v23_ h24_ => ∃ A25_, ∃ n25_, ∃ c25_, v23_ = (Value.slice A25_ n25_ c25_) ∧ Run Tryd.prog 28 #[v17_, (Value.slice A13_ n13_ c13_), (Value.slice A25_ n25_ c25_)] h24_ fun v26_ h27_ => ∃ x28_, v26_ = (Value.int .i64 x28_) ∧ f41.j1 R A2 n2 c2 a3 (⟨Array.size h, 0, none⟩) A13_ n13_ c13_ x28_ A14 n14 c14 x15 x16 h27_)))) ∧ (∃ l29_ : List Value, v16_ = Value.agg l29_.toArray ∧ l29_.length = 3 ∧ (newH h12_ (Obj.cells ((List.take 0 ([(Value.int .i64 (0 : Int)), (Value.string (ByteArray.mk #[])), (Value.slice none 0 0)]) ++ l29_ ++ List.drop 3 ([(Value.int .i64 (0 : Int)), (Value.string (ByteArray.mk #[])), (Value.slice none 0 0)])).toArray) 25) fun h30_ => Ext h12_ h30_ ∧ (Run Tryd.prog 42 #[(Value.slice A15_ n15_ c15_)] h30_ fun v31_ h32_ => ∃ A33_, ∃ n33_, ∃ c33_, v31_ = (Value.slice A33_ n33_ c33_) ∧ Ext h30_ h32_ ∧ (AppW 25 3 48 #[(Value.int .i64 (0 : Int)), (Value.string (ByteArray.mk #[])), (Value.slice none 0 0)] A33_ n33_ c33_ (Value.slice (some ⟨Array.size h12_, 0, none⟩) 1 1) h32_ fun v34_ h35_ => ∃ A36_, ∃ n36_, ∃ c36_, v34_ = (Value.slice A36_ n36_ c36_) ∧ Run Tryd.prog 28 #[v17_, (Value.slice A13_ n13_ c13_), (Value.slice A36_ n36_ c36_)] h35_ fun v37_ h38_ => ∃ x39_, v37_ = (Value.int .i64 x39_) ∧ f41.j1 R A2 n2 c2 a3 (⟨Array.size h, 0, none⟩) A13_ n13_ c13_ x39_ A14 n14 c14 x15 x16 h38_)))))) ∧ ((Run Tryd.prog 42 #[(Value.slice A15_ n15_ c15_)] h12_ fun v40_ h41_ => ∃ A42_, ∃ n42_, ∃ c42_, v40_ = (Value.slice A42_ n42_ c42_) ∧ Ext h12_ h41_ ∧ ((∃ v43_, ldv true 8 h41_ a3 = some v43_ ∧ Ext h41_ h41_ ∧ (∃ l44_ : List Value, v16_ = Value.agg l44_.toArray ∧ l44_.length = 3 ∧ (newH h41_ (Obj.cells ((List.take 0 ([(Value.int .i64 (0 : Int)), (Value.string (ByteArray.mk #[])), (Value.slice none 0 0)]) ++ l44_ ++ List.drop 3 ([(Value.int .i64 (0 : Int)), (Value.string (ByteArray.mk #[])), (Value.slice none 0 0)])).toArray) 25) fun h45_ => Ext h41_ h45_ ∧ (AppW 25 3 48 #[(Value.int .i64 (0 : Int)), (Value.string (ByteArray.mk #[])), (Value.slice none 0 0)] A42_ n42_ c42_ (Value.slice (some ⟨Array.size h41_, 0, none⟩) 1 1) h45_ fun v46_ h47_ => ∃ A48_, ∃ n48_, ∃ c48_, v46_ = (Value.slice A48_ n48_ c48_) ∧ Run Tryd.prog 28 #[v43_, (Value.slice A13_ n13_ c13_), (Value.slice A48_ n48_ c48_)] h47_ fun v49_ h50_ => ∃ x51_, v49_ = (Value.int .i64 x51_) ∧ f41.j1 R A2 n2 c2 a3 (⟨Array.size h, 0, none⟩) A13_ n13_ c13_ x51_ A14 n14 c14 x15 x16 h50_)))) ∧ (∃ l52_ : List Value, v16_ = Value.agg l52_.toArray ∧ l52_.length = 3 ∧ (newH h41_ (Obj.cells ((List.take 0 ([(Value.int .i64 (0 : Int)), (Value.string (ByteArray.mk #[])), (Value.slice none 0 0)]) ++ l52_ ++ List.drop 3 ([(Value.int .i64 (0 : Int)), (Value.string (ByteArray.mk #[])), (Value.slice none 0 0)])).toArray) 25) fun h53_ => Ext h41_ h53_ ∧ ((∃ v54_, ldv true 8 h53_ a3 = some v54_ ∧ Ext h53_ h53_ ∧ (AppW 25 3 48 #[(Value.int .i64 (0 : Int)), (Value.string (ByteArray.mk #[])), (Value.slice none 0 0)] A42_ n42_ c42_ (Value.slice (some ⟨Array.size h41_, 0, none⟩) 1 1) h53_ fun v55_ h56_ => ∃ A57_, ∃ n57_, ∃ c57_, v55_ = (Value.slice A57_ n57_ c57_) ∧ Run Tryd.prog 28 #[v54_, (Value.slice A13_ n13_ c13_), (Value.slice A57_ n57_ c57_)] h56_ fun v58_ h59_ => ∃ x60_, v58_ = (Value.int .i64 x60_) ∧ f41.j1 R A2 n2 c2 a3 (⟨Array.size h, 0, none⟩) A13_ n13_ c13_ x60_ A14 n14 c14 x15 x16 h59_)) ∧ (AppW 25 3 48 #[(Value.int .i64 (0 : Int)), (Value.string (ByteArray.mk #[])), (Value.slice none 0 0)] A42_ n42_ c42_ (Value.slice (some ⟨Array.size h41_, 0, none⟩) 1 1) h53_ fun v61_ h62_ => ∃ A63_, ∃ n63_, ∃ c63_, v61_ = (Value.slice A63_ n63_ c63_) ∧ ∃ v64_, ldv true 8 h62_ a3 = some v64_ ∧ Ext h62_ h62_ ∧ (Run Tryd.prog 28 #[v64_, (Value.slice A13_ n13_ c13_), (Value.slice A63_ n63_ c63_)] h62_ fun v65_ h66_ => ∃ x67_, v65_ = (Value.int .i64 x67_) ∧ f41.j1 R A2 n2 c2 a3 (⟨Array.size h, 0, none⟩) A13_ n13_ c13_ x67_ A14 n14 c14 x15 x16 h66_))))))) ∧ (∃ l68_ : List Value, v16_ = Value.agg l68_.toArray ∧ l68_.length = 3 ∧ (newH h12_ (Obj.cells ((List.take 0 ([(Value.int .i64 (0 : Int)), (Value.string (ByteArray.mk #[])), (Value.slice none 0 0)]) ++ l68_ ++ List.drop 3 ([(Value.int .i64 (0 : Int)), (Value.string (ByteArray.mk #[])), (Value.slice none 0 0)])).toArray) 25) fun h69_ => Ext h12_ h69_ ∧ ((∃ v70_, ldv true 8 h69_ a3 = some v70_ ∧ Ext h69_ h69_ ∧ (Run Tryd.prog 42 #[(Value.slice A15_ n15_ c15_)] h69_ fun v71_ h72_ => ∃ A73_, ∃ n73_, ∃ c73_, v71_ = (Value.slice A73_ n73_ c73_) ∧ Ext h69_ h72_ ∧ (AppW 25 3 48 #[(Value.int .i64 (0 : Int)), (Value.string (ByteArray.mk #[])), (Value.slice none 0 0)] A73_ n73_ c73_ (Value.slice (some ⟨Array.size h12_, 0, none⟩) 1 1) h72_ fun v74_ h75_ => ∃ A76_, ∃ n76_, ∃ c76_, v74_ = (Value.slice A76_ n76_ c76_) ∧ Run Tryd.prog 28 #[v70_, (Value.slice A13_ n13_ c13_), (Value.slice A76_ n76_ c76_)] h75_ fun v77_ h78_ => ∃ x79_, v77_ = (Value.int .i64 x79_) ∧ f41.j1 R A2 n2 c2 a3 (⟨Array.size h, 0, none⟩) A13_ n13_ c13_ x79_ A14 n14 c14 x15 x16 h78_))) ∧ (Run Tryd.prog 42 #[(Value.slice A15_ n15_ c15_)] h69_ fun v80_ h81_ => ∃ A82_, ∃ n82_, ∃ c82_, v80_ = (Value.slice A82_ n82_ c82_) ∧ Ext h69_ h81_ ∧ ((∃ v83_, ldv true 8 h81_ a3 = some v83_ ∧ Ext h81_ h81_ ∧ (AppW 25 3 48 #[(Value.int .i64 (0 : Int)), (Value.string (ByteArray.mk #[])), (Value.slice none 0 0)] A82_ n82_ c82_ (Value.slice (some ⟨Array.size h12_, 0, none⟩) 1 1) h81_ fun v84_ h85_ => ∃ A86_, ∃ n86_, ∃ c86_, v84_ = (Value.slice A86_ n86_ c86_) ∧ Run Tryd.prog 28 #[v83_, (Value.slice A13_ n13_ c13_), (Value.slice A86_ n86_ c86_)] h85_ fun v87_ h88_ => ∃ x89_, v87_ = (Value.int .i64 x89_) ∧ f41.j1 R A2 n2 c2 a3 (⟨Array.size h, 0, none⟩) A13_ n13_ c13_ x89_ A14 n14 c14 x15 x16 h88_)) ∧ (AppW 25 3 48 #[(Value.int .i64 (0 : Int)), (Value.string (ByteArray.mk #[])), (Value.slice none 0 0)] A82_ n82_ c82_ (Value.slice (some ⟨Array.size h12_, 0, none⟩) 1 1) h81_ fun v90_ h91_ => ∃ A92_, ∃ n92_, ∃ c92_, v90_ = (Value.slice A92_ n92_ c92_) ∧ ∃ v93_, ldv true 8 h91_ a3 = some v93_ ∧ Ext h91_ h91_ ∧ (Run Tryd.prog 28 #[v93_, (Value.slice A13_ n13_ c13_), (Value.slice A92_ n92_ c92_)] h91_ fun v94_ h95_ => ∃ x96_, v94_ = (Value.int .i64 x96_) ∧ f41.j1 R A2 n2 c2 a3 (⟨Array.size h, 0, none⟩) A13_ n13_ c13_ x96_ A14 n14 c14 x15 x16 h95_))))))))))) (R (Value.tuple #[(Value.int .i64 (0 : Int)), (Value.int .i64 (0 : Int))]) h)
set_option maxRecDepth 100000 in
theorem f41.l0_in {R : Value → Heap → Prop} {A2 : Option Addr} {n2 : Nat} {c2 : Nat} {a3 : Addr} {A14 : Option Addr} {n14 : Nat} {c14 : Nat} {x15 : Int} {x16 : Int} {h : Heap} (H : f41.l0T R A2 n2 c2 a3 A14 n14 c14 x15 x16 h) : f41.l0 R A2 n2 c2 a3 A14 n14 c14 x15 x16 h :=
  pt_intro mixed f41.good (Eq.mpr (show (Fwd Tryd.prog f41.T f41.kp Tryd.f41 R [false, false, true, false, true] (mkFr [(2, (Value.slice A2 n2 c2)), (3, (Value.pointer (some a3))), (14, (Value.slice A14 n14 c14)), (15, (Value.int .i64 x15)), (16, (Value.int .i64 x16))]) h) = (f41.l0T R A2 n2 c2 a3 A14 n14 c14 x15 x16 h) by kernel_rfl) H)
set_option maxRecDepth 100000 in
def f41.j1T (R : Value → Heap → Prop) (A2 : Option Addr) (n2 : Nat) (c2 : Nat) (a3 : Addr) (a9 : Addr) (A10 : Option Addr) (n10 : Nat) (c10 : Nat) (x11 : Int) (A14 : Option Addr) (n14 : Nat) (c14 : Nat) (x15 : Int) (x16 : Int) (h : Heap) : Prop :=
  splitB (x11 != (0 : Int)) (R (Value.tuple #[(Value.int .i64 x11), (Value.int .i64 (0 : Int))]) h) (f41.j0 R A2 n2 c2 a3 a9 A10 n10 c10 A14 n14 c14 x15 x16 h)
set_option maxRecDepth 100000 in
theorem f41.j1_in {R : Value → Heap → Prop} {A2 : Option Addr} {n2 : Nat} {c2 : Nat} {a3 : Addr} {a9 : Addr} {A10 : Option Addr} {n10 : Nat} {c10 : Nat} {x11 : Int} {A14 : Option Addr} {n14 : Nat} {c14 : Nat} {x15 : Int} {x16 : Int} {h : Heap} (H : f41.j1T R A2 n2 c2 a3 a9 A10 n10 c10 x11 A14 n14 c14 x15 x16 h) : f41.j1 R A2 n2 c2 a3 a9 A10 n10 c10 x11 A14 n14 c14 x15 x16 h :=
  pt_intro mixed f41.good (Eq.mpr (show (Fwd Tryd.prog f41.T f41.kp Tryd.f41 R [true, false, true, true, false, false, true, true, false, false, true, false, true] (mkFr [(2, (Value.slice A2 n2 c2)), (3, (Value.pointer (some a3))), (9, (Value.pointer (some a9))), (10, (Value.slice A10 n10 c10)), (11, (Value.int .i64 x11)), (14, (Value.slice A14 n14 c14)), (15, (Value.int .i64 x15)), (16, (Value.int .i64 x16))]) h) = (f41.j1T R A2 n2 c2 a3 a9 A10 n10 c10 x11 A14 n14 c14 x15 x16 h) by kernel_rfl) H)
set_option maxRecDepth 100000 in
def f41.j0T (R : Value → Heap → Prop) (A2 : Option Addr) (n2 : Nat) (c2 : Nat) (a3 : Addr) (a9 : Addr) (A10 : Option Addr) (n10 : Nat) (c10 : Nat) (A14 : Option Addr) (n14 : Nat) (c14 : Nat) (x15 : Int) (x16 : Int) (h : Heap) : Prop :=
  ∃ v1_, ldv false 1 h (Addr.add a9 7) = some v1_ ∧ ∃ x2_, v1_ = (Value.int .i64 x2_) ∧ splitB (x2_ == (0 : Int)) (f41.l0 R A2 n2 c2 a3 A14 n14 c14 x15 (IntKind.wrap .i64 (x16 + (1 : Int))) h) (∃ v3_, ldv true 8 h a3 = some v3_ ∧ ∃ v4_, ldv true 8 h (Addr.add a9 7) = some v4_ ∧ Run Tryd.prog 43 #[v3_, (Value.slice A10 n10 c10), v4_] h fun v5_ h6_ => ∃ x7_, ∃ x8_, v5_ = (Value.tuple #[(Value.int .i64 x7_), (Value.int .i64 x8_)]) ∧ splitB (x7_ != (0 : Int)) (R (Value.tuple #[(Value.int .i64 x7_), (Value.int .i64 x8_)]) h6_) (f41.l0 R A2 n2 c2 a3 A14 n14 c14 x15 (IntKind.wrap .i64 (x16 + (1 : Int))) h6_))
set_option maxRecDepth 100000 in
theorem f41.j0_in {R : Value → Heap → Prop} {A2 : Option Addr} {n2 : Nat} {c2 : Nat} {a3 : Addr} {a9 : Addr} {A10 : Option Addr} {n10 : Nat} {c10 : Nat} {A14 : Option Addr} {n14 : Nat} {c14 : Nat} {x15 : Int} {x16 : Int} {h : Heap} (H : f41.j0T R A2 n2 c2 a3 a9 A10 n10 c10 A14 n14 c14 x15 x16 h) : f41.j0 R A2 n2 c2 a3 a9 A10 n10 c10 A14 n14 c14 x15 x16 h :=
  pt_intro mixed f41.good (Eq.mpr (show (Fwd Tryd.prog f41.T f41.kp Tryd.f41 R [true, true, true, false, false, true, true, false, false, true, false, true] (mkFr [(2, (Value.slice A2 n2 c2)), (3, (Value.pointer (some a3))), (9, (Value.pointer (some a9))), (10, (Value.slice A10 n10 c10)), (14, (Value.slice A14 n14 c14)), (15, (Value.int .i64 x15)), (16, (Value.int .i64 x16))]) h) = (f41.j0T R A2 n2 c2 a3 a9 A10 n10 c10 A14 n14 c14 x15 x16 h) by kernel_rfl) H)
set_option maxRecDepth 100000 in
def f41.runT (R : Value → Heap → Prop) (v0 : Value) (A1 : Option Addr) (n1 : Nat) (c1 : Nat) (A2 : Option Addr) (n2 : Nat) (c2 : Nat) (h : Heap) : Prop :=
  newH h (Obj.cells ((v0).cells) 54) fun h1_ => f41.l0 R A2 n2 c2 (⟨Array.size h, 0, none⟩) A1 n1 c1 ((n1 : Nat) : Int) (0 : Int) h1_
set_option maxRecDepth 100000 in
theorem f41.run {R : Value → Heap → Prop} {v0 : Value} {A1 : Option Addr} {n1 : Nat} {c1 : Nat} {A2 : Option Addr} {n2 : Nat} {c2 : Nat} {h : Heap} (H : f41.runT R v0 A1 n1 c1 A2 n2 c2 h) : Run Tryd.prog 41 #[v0, (Value.slice A1 n1 c1), (Value.slice A2 n2 c2)] h R :=
  run_of mixed Tryd.func41 (by kernel_rfl) (by kernel_rfl) f41.good (Eq.mpr (show (Fwd Tryd.prog f41.T f41.kp Tryd.f41 R [] (mkFr (argL [v0, (Value.slice A1 n1 c1), (Value.slice A2 n2 c2)] 0)) h) = (f41.runT R v0 A1 n1 c1 A2 n2 c2 h) by kernel_rfl) H)
def f21.T : Tab := { sh := tSh, tup := tTup, keep := [], plan := [(32, (.take 1 (.take 4 (.take 2 (.take 5 (.alt true 0 (.alt true 3 (.eff true 6 (.eff false 7 (.eff false 8 (.take 9 .done)))) (.eff true 6 (.eff true 3 (.eff false 7 (.eff false 8 (.take 9 .done)))))) (.alt true 3 (.alt true 0 (.eff true 6 (.eff false 7 (.eff false 8 (.take 9 .done)))) (.eff true 6 (.alt true 0 (.eff false 7 (.eff false 8 (.take 9 .done))) (.eff false 7 (.eff true 0 (.eff false 8 (.take 9 .done))))))) (.eff true 6 (.alt true 0 (.eff true 3 (.eff false 7 (.eff false 8 (.take 9 .done)))) (.eff true 3 (.alt true 0 (.eff false 7 (.eff false 8 (.take 9 .done))) (.eff false 7 (.eff true 0 (.eff false 8 (.take 9 .done)))))))))))))))] }
def f21.kp : Keep := [([false, false, true, false, true], [1, 25, 26, 27]), ([false, false, true, true, false, false, true, true, false, false, true, false, true], [1, 5, 25, 26, 27, 32, 33, 34]), ([false, false, true, false, true, true], [1, 50, 51, 52]), ([false, false, true, false, true, true, true], [1, 70, 71, 72]), ([false, false, true, false, true, true, true, true, true], [1, 100, 101, 102]), ([true, false, true, false, false, true, true, false, false, true, false, true, true, true, true, true], [1, 20, 21, 100, 101, 102]), ([true, true, false, false, true, true, false, false, true, false, true, true, true, true, true], [1, 20, 100, 101, 102])]
theorem f21.good : goodCode Tryd.prog f21.T (rootOf Tryd.f21) = true := by kernel_rfl
def f21.l0 (R : Value → Heap → Prop) (a1 : Addr) (A25 : Option Addr) (n25 : Nat) (c25 : Nat) (x26 : Int) (x27 : Int) (h : Heap) : Prop := Pt Tryd.prog Tryd.f21 R [false, false, true, false, true] (mkFr [(1, (Value.pointer (some a1))), (25, (Value.slice A25 n25 c25)), (26, (Value.int .i64 x26)), (27, (Value.int .i64 x27))]) h
def f21.l4 (R : Value → Heap → Prop) (a1 : Addr) (a5 : Addr) (A25 : Option Addr) (n25 : Nat) (c25 : Nat) (x26 : Int) (x27 : Int) (A32 : Option Addr) (n32 : Nat) (c32 : Nat) (x33 : Int) (x34 : Int) (h : Heap) : Prop := Pt Tryd.prog Tryd.f21 R [false, false, true, true, false, false, true, true, false, false, true, false, true] (mkFr [(1, (Value.pointer (some a1))), (5, (Value.pointer (some a5))), (25, (Value.slice A25 n25 c25)), (26, (Value.int .i64 x26)), (27, (Value.int .i64 x27)), (32, (Value.slice A32 n32 c32)), (33, (Value.int .i64 x33)), (34, (Value.int .i64 x34))]) h
def f21.l1 (R : Value → Heap → Prop) (a1 : Addr) (A50 : Option Addr) (n50 : Nat) (c50 : Nat) (x51 : Int) (x52 : Int) (h : Heap) : Prop := Pt Tryd.prog Tryd.f21 R [false, false, true, false, true, true] (mkFr [(1, (Value.pointer (some a1))), (50, (Value.slice A50 n50 c50)), (51, (Value.int .i64 x51)), (52, (Value.int .i64 x52))]) h
def f21.l2 (R : Value → Heap → Prop) (a1 : Addr) (A70 : Option Addr) (n70 : Nat) (c70 : Nat) (x71 : Int) (x72 : Int) (h : Heap) : Prop := Pt Tryd.prog Tryd.f21 R [false, false, true, false, true, true, true] (mkFr [(1, (Value.pointer (some a1))), (70, (Value.slice A70 n70 c70)), (71, (Value.int .i64 x71)), (72, (Value.int .i64 x72))]) h
def f21.l3 (R : Value → Heap → Prop) (a1 : Addr) (A100 : Option Addr) (n100 : Nat) (c100 : Nat) (x101 : Int) (x102 : Int) (h : Heap) : Prop := Pt Tryd.prog Tryd.f21 R [false, false, true, false, true, true, true, true, true] (mkFr [(1, (Value.pointer (some a1))), (100, (Value.slice A100 n100 c100)), (101, (Value.int .i64 x101)), (102, (Value.int .i64 x102))]) h
def f21.j1 (R : Value → Heap → Prop) (a1 : Addr) (a20 : Addr) (x21 : Int) (A100 : Option Addr) (n100 : Nat) (c100 : Nat) (x101 : Int) (x102 : Int) (h : Heap) : Prop := Pt Tryd.prog Tryd.f21 R [true, false, true, false, false, true, true, false, false, true, false, true, true, true, true, true] (mkFr [(1, (Value.pointer (some a1))), (20, (Value.pointer (some a20))), (21, (Value.int .i64 x21)), (100, (Value.slice A100 n100 c100)), (101, (Value.int .i64 x101)), (102, (Value.int .i64 x102))]) h
def f21.j0 (R : Value → Heap → Prop) (a1 : Addr) (a20 : Addr) (A100 : Option Addr) (n100 : Nat) (c100 : Nat) (x101 : Int) (x102 : Int) (h : Heap) : Prop := Pt Tryd.prog Tryd.f21 R [true, true, false, false, true, true, false, false, true, false, true, true, true, true, true] (mkFr [(1, (Value.pointer (some a1))), (20, (Value.pointer (some a20))), (100, (Value.slice A100 n100 c100)), (101, (Value.int .i64 x101)), (102, (Value.int .i64 x102))]) h
set_option maxRecDepth 100000 in
def f21.l0T (R : Value → Heap → Prop) (a1 : Addr) (A25 : Option Addr) (n25 : Nat) (c25 : Nat) (x26 : Int) (x27 : Int) (h : Heap) : Prop :=
  splitB (decide (x27 < x26)) (ptrOk A25 fun a1_ => 0 ≤ x27 ∧ x27 < ((n25 : Nat) : Int) ∧ (∃ v2_, ldv true 3 h (Addr.add a1_ (Int.toNat x27 * 3)) = some v2_ ∧ newH h (Obj.cells #[(Value.string (ByteArray.mk #[])), (Value.slice none 0 0), (Value.slice none 0 0)] 63) fun h3_ => ∃ l5_ : List Value, v2_ = Value.agg l5_.toArray ∧ l5_.length = 3 ∧ ∃ h4_, stH h3_ (⟨Array.size h, 0, none⟩) l5_ 0 = some h4_ ∧ ∃ v6_, ldv false 1 h4_ (Addr.add (⟨Array.size h, 0, none⟩) 2) = some v6_ ∧ ∃ A7_, ∃ n7_, ∃ c7_, v6_ = (Value.slice A7_ n7_ c7_) ∧ f21.l4 R a1 (⟨Array.size h, 0, none⟩) A25 n25 c25 x26 x27 A7_ n7_ c7_ ((n7_ : Nat) : Int) (0 : Int) h4_)) (∃ v8_, ldv false 1 h (Addr.add a1 4) = some v8_ ∧ ∃ A9_, ∃ n9_, ∃ c9_, v8_ = (Value.slice A9_ n9_ c9_) ∧ f21.l1 R a1 A9_ n9_ c9_ ((n9_ : Nat) : Int) (0 : Int) h)
set_option maxRecDepth 100000 in
theorem f21.l0_in {R : Value → Heap → Prop} {a1 : Addr} {A25 : Option Addr} {n25 : Nat} {c25 : Nat} {x26 : Int} {x27 : Int} {h : Heap} (H : f21.l0T R a1 A25 n25 c25 x26 x27 h) : f21.l0 R a1 A25 n25 c25 x26 x27 h :=
  pt_intro mixed f21.good (Eq.mpr (show (Fwd Tryd.prog f21.T f21.kp Tryd.f21 R [false, false, true, false, true] (mkFr [(1, (Value.pointer (some a1))), (25, (Value.slice A25 n25 c25)), (26, (Value.int .i64 x26)), (27, (Value.int .i64 x27))]) h) = (f21.l0T R a1 A25 n25 c25 x26 x27 h) by kernel_rfl) H)
set_option maxRecDepth 100000 in
def f21.l4T (R : Value → Heap → Prop) (a1 : Addr) (a5 : Addr) (A25 : Option Addr) (n25 : Nat) (c25 : Nat) (x26 : Int) (x27 : Int) (A32 : Option Addr) (n32 : Nat) (c32 : Nat) (x33 : Int) (x34 : Int) (h : Heap) : Prop :=
  splitB (decide (x34 < x33)) (ptrOk A32 fun a1_ => 0 ≤ x34 ∧ x34 < ((n32 : Nat) : Int) ∧ (∃ v2_, ldv true 2 h (Addr.add a1_ (Int.toNat x34 * 2)) = some v2_ ∧ newH h (Obj.cells #[(Value.string (ByteArray.mk #[])), (Value.slice none 0 0)] 90) fun h3_ => ∃ l5_ : List Value, v2_ = Value.agg l5_.toArray ∧ l5_.length = 2 ∧ ∃ h4_, stH h3_ (⟨Array.size h, 0, none⟩) l5_ 0 = some h4_ ∧ ∃ v6_, ldv true 8 h4_ a1 = some v6_ ∧ ∃ v7_, ldv false 1 h4_ (Addr.add a5 1) = some v7_ ∧ ∃ A8_, ∃ n8_, ∃ c8_, v7_ = (Value.slice A8_ n8_ c8_) ∧ ∃ v9_, ldv false 1 h4_ (Addr.add (⟨Array.size h, 0, none⟩) 1) = some v9_ ∧ ∃ A10_, ∃ n10_, ∃ c10_, v9_ = (Value.slice A10_ n10_ c10_) ∧ Run Tryd.prog 28 #[v6_, (Value.slice A8_ n8_ c8_), (Value.slice A10_ n10_ c10_)] h4_ fun v11_ h12_ => ∃ x13_, v11_ = (Value.int .i64 x13_) ∧ splitB (x13_ != (0 : Int)) (R (Value.tuple #[(Value.int .i64 x13_), (Value.int .i64 (0 : Int))]) h12_) (f21.l4 R a1 a5 A25 n25 c25 x26 x27 A32 n32 c32 x33 (IntKind.wrap .i64 (x34 + (1 : Int))) h12_))) (f21.l0 R a1 A25 n25 c25 x26 (IntKind.wrap .i64 (x27 + (1 : Int))) h)
set_option maxRecDepth 100000 in
theorem f21.l4_in {R : Value → Heap → Prop} {a1 : Addr} {a5 : Addr} {A25 : Option Addr} {n25 : Nat} {c25 : Nat} {x26 : Int} {x27 : Int} {A32 : Option Addr} {n32 : Nat} {c32 : Nat} {x33 : Int} {x34 : Int} {h : Heap} (H : f21.l4T R a1 a5 A25 n25 c25 x26 x27 A32 n32 c32 x33 x34 h) : f21.l4 R a1 a5 A25 n25 c25 x26 x27 A32 n32 c32 x33 x34 h :=
  pt_intro mixed f21.good (Eq.mpr (show (Fwd Tryd.prog f21.T f21.kp Tryd.f21 R [false, false, true, true, false, false, true, true, false, false, true, false, true] (mkFr [(1, (Value.pointer (some a1))), (5, (Value.pointer (some a5))), (25, (Value.slice A25 n25 c25)), (26, (Value.int .i64 x26)), (27, (Value.int .i64 x27)), (32, (Value.slice A32 n32 c32)), (33, (Value.int .i64 x33)), (34, (Value.int .i64 x34))]) h) = (f21.l4T R a1 a5 A25 n25 c25 x26 x27 A32 n32 c32 x33 x34 h) by kernel_rfl) H)
set_option maxRecDepth 100000 in
def f21.l1T (R : Value → Heap → Prop) (a1 : Addr) (A50 : Option Addr) (n50 : Nat) (c50 : Nat) (x51 : Int) (x52 : Int) (h : Heap) : Prop :=
  splitB (decide (x52 < x51)) (ptrOk A50 fun a1_ => 0 ≤ x52 ∧ x52 < ((n50 : Nat) : Int) ∧ (∃ v2_, ldv true 2 h (Addr.add a1_ (Int.toNat x52 * 2)) = some v2_ ∧ newH h (Obj.cells #[(Value.string (ByteArray.mk #[])), (Value.slice none 0 0)] 92) fun h3_ => ∃ l5_ : List Value, v2_ = Value.agg l5_.toArray ∧ l5_.length = 2 ∧ ∃ h4_, stH h3_ (⟨Array.size h, 0, none⟩) l5_ 0 = some h4_ ∧ ∃ v6_, ldv true 8 h4_ a1 = some v6_ ∧ ∃ v7_, ldv false 1 h4_ (Addr.add (⟨Array.size h, 0, none⟩) 1) = some v7_ ∧ ∃ A8_, ∃ n8_, ∃ c8_, v7_ = (Value.slice A8_ n8_ c8_) ∧ newH h4_ (Obj.cells #[(Value.string (ByteArray.mk #[115, 101, 108, 102]))] 9) fun h9_ => Run Tryd.prog 41 #[v6_, (Value.slice A8_ n8_ c8_), (Value.slice (some ⟨Array.size h4_, 0, none⟩) 1 1)] h9_ fun v10_ h11_ => ∃ x12_, ∃ x13_, v10_ = (Value.tuple #[(Value.int .i64 x12_), (Value.int .i64 x13_)]) ∧ splitB (x12_ != (0 : Int)) (R (Value.tuple #[(Value.int .i64 x12_), (Value.int .i64 x13_)]) h11_) (f21.l1 R a1 A50 n50 c50 x51 (IntKind.wrap .i64 (x52 + (1 : Int))) h11_))) (∃ v14_, ldv false 1 h (Addr.add a1 5) = some v14_ ∧ ∃ A15_, ∃ n15_, ∃ c15_, v14_ = (Value.slice A15_ n15_ c15_) ∧ f21.l2 R a1 A15_ n15_ c15_ ((n15_ : Nat) : Int) (0 : Int) h)
set_option maxRecDepth 100000 in
theorem f21.l1_in {R : Value → Heap → Prop} {a1 : Addr} {A50 : Option Addr} {n50 : Nat} {c50 : Nat} {x51 : Int} {x52 : Int} {h : Heap} (H : f21.l1T R a1 A50 n50 c50 x51 x52 h) : f21.l1 R a1 A50 n50 c50 x51 x52 h :=
  pt_intro mixed f21.good (Eq.mpr (show (Fwd Tryd.prog f21.T f21.kp Tryd.f21 R [false, false, true, false, true, true] (mkFr [(1, (Value.pointer (some a1))), (50, (Value.slice A50 n50 c50)), (51, (Value.int .i64 x51)), (52, (Value.int .i64 x52))]) h) = (f21.l1T R a1 A50 n50 c50 x51 x52 h) by kernel_rfl) H)
set_option maxRecDepth 100000 in
def f21.l2T (R : Value → Heap → Prop) (a1 : Addr) (A70 : Option Addr) (n70 : Nat) (c70 : Nat) (x71 : Int) (x72 : Int) (h : Heap) : Prop :=
  splitB (decide (x72 < x71)) (ptrOk A70 fun a1_ => 0 ≤ x72 ∧ x72 < ((n70 : Nat) : Int) ∧ (∃ v2_, ldv true 3 h (Addr.add a1_ (Int.toNat x72 * 3)) = some v2_ ∧ newH h (Obj.cells #[(Value.string (ByteArray.mk #[])), (Value.string (ByteArray.mk #[])), (Value.slice none 0 0)] 95) fun h3_ => ∃ l5_ : List Value, v2_ = Value.agg l5_.toArray ∧ l5_.length = 3 ∧ ∃ h4_, stH h3_ (⟨Array.size h, 0, none⟩) l5_ 0 = some h4_ ∧ ∃ v6_, ldv true 8 h4_ a1 = some v6_ ∧ ∃ v7_, ldv false 1 h4_ (Addr.add (⟨Array.size h, 0, none⟩) 2) = some v7_ ∧ ∃ A8_, ∃ n8_, ∃ c8_, v7_ = (Value.slice A8_ n8_ c8_) ∧ Run Tryd.prog 41 #[v6_, (Value.slice A8_ n8_ c8_), (Value.slice none 0 0)] h4_ fun v9_ h10_ => ∃ x11_, ∃ x12_, v9_ = (Value.tuple #[(Value.int .i64 x11_), (Value.int .i64 x12_)]) ∧ splitB (x11_ != (0 : Int)) (R (Value.tuple #[(Value.int .i64 x11_), (Value.int .i64 x12_)]) h10_) (f21.l2 R a1 A70 n70 c70 x71 (IntKind.wrap .i64 (x72 + (1 : Int))) h10_))) (∃ v13_, ldv true 8 h a1 = some v13_ ∧ ∃ v14_, ldv false 1 h (Addr.add a1 6) = some v14_ ∧ ∃ A15_, ∃ n15_, ∃ c15_, v14_ = (Value.slice A15_ n15_ c15_) ∧ Run Tryd.prog 41 #[v13_, (Value.slice A15_ n15_ c15_), (Value.slice none 0 0)] h fun v16_ h17_ => ∃ x18_, ∃ x19_, v16_ = (Value.tuple #[(Value.int .i64 x18_), (Value.int .i64 x19_)]) ∧ splitB (x18_ != (0 : Int)) (R (Value.tuple #[(Value.int .i64 x18_), (Value.int .i64 x19_)]) h17_) (∃ v20_, ldv false 1 h17_ (Addr.add a1 7) = some v20_ ∧ ∃ A21_, ∃ n21_, ∃ c21_, v20_ = (Value.slice A21_ n21_ c21_) ∧ f21.l3 R a1 A21_ n21_ c21_ ((n21_ : Nat) : Int) (0 : Int) h17_))
set_option maxRecDepth 100000 in
theorem f21.l2_in {R : Value → Heap → Prop} {a1 : Addr} {A70 : Option Addr} {n70 : Nat} {c70 : Nat} {x71 : Int} {x72 : Int} {h : Heap} (H : f21.l2T R a1 A70 n70 c70 x71 x72 h) : f21.l2 R a1 A70 n70 c70 x71 x72 h :=
  pt_intro mixed f21.good (Eq.mpr (show (Fwd Tryd.prog f21.T f21.kp Tryd.f21 R [false, false, true, false, true, true, true] (mkFr [(1, (Value.pointer (some a1))), (70, (Value.slice A70 n70 c70)), (71, (Value.int .i64 x71)), (72, (Value.int .i64 x72))]) h) = (f21.l2T R a1 A70 n70 c70 x71 x72 h) by kernel_rfl) H)
set_option maxRecDepth 100000 in
def f21.l3T (R : Value → Heap → Prop) (a1 : Addr) (A100 : Option Addr) (n100 : Nat) (c100 : Nat) (x101 : Int) (x102 : Int) (h : Heap) : Prop :=
  splitB (decide (x102 < x101)) (ptrOk A100 fun a1_ => 0 ≤ x102 ∧ x102 < ((n100 : Nat) : Int) ∧ (∃ v2_, ldv true 14 h (Addr.add a1_ (Int.toNat x102 * 14)) = some v2_ ∧ newH h (Obj.cells #[(Value.string (ByteArray.mk #[])), (Value.slice none 0 0), (Value.slice none 0 0), (Value.int .i64 (0 : Int)), (Value.string (ByteArray.mk #[])), (Value.slice none 0 0), (Value.int .i64 (0 : Int)), (Value.int .i64 (0 : Int)), (Value.string (ByteArray.mk #[])), (Value.slice none 0 0), (Value.slice none 0 0), (Value.slice none 0 0), (Value.slice none 0 0), (Value.int .i64 (0 : Int))] 97) fun h3_ => ∃ l5_ : List Value, v2_ = Value.agg l5_.toArray ∧ l5_.length = 14 ∧ ∃ h4_, stH h3_ (⟨Array.size h, 0, none⟩) l5_ 0 = some h4_ ∧ ∃ v6_, ldv false 1 h4_ (Addr.add (⟨Array.size h, 0, none⟩) 2) = some v6_ ∧ ∃ A7_, ∃ n7_, ∃ c7_, v6_ = (Value.slice A7_ n7_ c7_) ∧ ∃ v8_, ldv true 3 h4_ (Addr.add (⟨Array.size h, 0, none⟩) 3) = some v8_ ∧ (∃ v9_, ldv true 8 h4_ a1 = some v9_ ∧ Ext h4_ h4_ ∧ ((Run Tryd.prog 42 #[(Value.slice A7_ n7_ c7_)] h4_ fun v10_ h11_ => ∃ A12_, ∃ n12_, ∃ c12_, v10_ = (Value.slice A12_ n12_ c12_) ∧ Ext h4_ h11_ ∧ (∃ l13_ : List Value, v8_ = Value.agg l13_.toArray ∧ l13_.length = 3 ∧ (newH h11_ (Obj.cells ((List.take 0 ([(Value.int .i64 (0 : Int)), (Value.string (ByteArray.mk #[])), (Value.slice none 0 0)]) ++ l13_ ++ List.drop 3 ([(Value.int .i64 (0 : Int)), (Value.string (ByteArray.mk #[])), (Value.slice none 0 0)])).toArray) 25) fun h14_ => Ext h11_ h14_ ∧ (AppW 25 3 48 #[(Value.int .i64 (0 : Int)), (Value.string (ByteArray.mk #[])), (Value.slice none 0 0)] A12_ n12_ c12_ (Value.slice (some ⟨Array.size h11_, 0, none⟩) 1 1) h14_ fun v15_ h16_ => ∃ A17_, ∃ n17_, ∃ c17_, v15_ = (Value.slice A17_ n17_ c17_) ∧ Run Tryd.prog 28 #[v9_, (Value.slice none 0 0), (Value.slice A17_ n17_ c17_)] h16_ fun v18_ h19_ => ∃ x20_, v18_ = (Value.int .i64 x20_) ∧ f21.j1 R a1 (⟨Array.size h, 0, none⟩) x20_ A100 n100 c100 x101 x102 h19_)))) ∧ (∃ l21_ : List Value, v8_ = Value.agg l21_.toArray ∧ l21_.length = 3 ∧ (newH h4_ (Obj.cells ((List.take 0 ([(Value.int .i64 (0 : Int)), (Value.string (ByteArray.mk #[])), (Value.slice none 0 0)]) ++ l21_ ++ List.drop 3 ([(Value.int .i64 (0 : Int)), (Value.string (ByteArray.mk #[])), (Value.slice none 0 0)])).toArray) 25) fun h22_ => Ext h4_ h22_ ∧ (Run Tryd.prog 42 #[(Value.slice A7_ n7_ c7_)] h22_ fun v23_ h24_ => ∃ A25_, ∃ n25_, ∃ c25_, v23_ = (Value.slice A25_ n25_ c25_) ∧ Ext h22_ h24_ ∧ (AppW 25 3 48 #[(Value.int .i64 (0 : Int)), (Value.string (ByteArray.mk #[])), (Value.slice none 0 0)] A25_ n25_ c25_ (Value.slice (some ⟨Array.size h4_, 0, none⟩) 1 1) h24_ fun v26_ h27_ => ∃ A28_, ∃ n28_, ∃ c28_, v26_ = (Value.slice A28_ n28_ c28_) ∧ Run Tryd.prog 28 #[v9_, (Value.slice none 0 0), (Value.slice A28_ n28_ c28_)] h27_ fun v29_ h30_ => ∃ x31_, v29_ = (Value.int .i64 x31_) ∧ f21.j1 R a1 (⟨Array.size h, 0, none⟩) x31_ A100 n100 c100 x101 x102 h30_)))))) ∧ ((Run Tryd.prog 42 #[(Value.slice A7_ n7_ c7_)] h4_ fun v32_ h33_ => ∃ A34_, ∃ n34_, ∃ c34_, v32_ = (Value.slice A34_ n34_ c34_) ∧ Ext h4_ h33_ ∧ ((∃ v35_, ldv true 8 h33_ a1 = some v35_ ∧ Ext h33_ h33_ ∧ (∃ l36_ : List Value, v8_ = Value.agg l36_.toArray ∧ l36_.length = 3 ∧ (newH h33_ (Obj.cells ((List.take 0 ([(Value.int .i64 (0 : Int)), (Value.string (ByteArray.mk #[])), (Value.slice none 0 0)]) ++ l36_ ++ List.drop 3 ([(Value.int .i64 (0 : Int)), (Value.string (ByteArray.mk #[])), (Value.slice none 0 0)])).toArray) 25) fun h37_ => Ext h33_ h37_ ∧ (AppW 25 3 48 #[(Value.int .i64 (0 : Int)), (Value.string (ByteArray.mk #[])), (Value.slice none 0 0)] A34_ n34_ c34_ (Value.slice (some ⟨Array.size h33_, 0, none⟩) 1 1) h37_ fun v38_ h39_ => ∃ A40_, ∃ n40_, ∃ c40_, v38_ = (Value.slice A40_ n40_ c40_) ∧ Run Tryd.prog 28 #[v35_, (Value.slice none 0 0), (Value.slice A40_ n40_ c40_)] h39_ fun v41_ h42_ => ∃ x43_, v41_ = (Value.int .i64 x43_) ∧ f21.j1 R a1 (⟨Array.size h, 0, none⟩) x43_ A100 n100 c100 x101 x102 h42_)))) ∧ (∃ l44_ : List Value, v8_ = Value.agg l44_.toArray ∧ l44_.length = 3 ∧ (newH h33_ (Obj.cells ((List.take 0 ([(Value.int .i64 (0 : Int)), (Value.string (ByteArray.mk #[])), (Value.slice none 0 0)]) ++ l44_ ++ List.drop 3 ([(Value.int .i64 (0 : Int)), (Value.string (ByteArray.mk #[])), (Value.slice none 0 0)])).toArray) 25) fun h45_ => Ext h33_ h45_ ∧ ((∃ v46_, ldv true 8 h45_ a1 = some v46_ ∧ Ext h45_ h45_ ∧ (AppW 25 3 48 #[(Value.int .i64 (0 : Int)), (Value.string (ByteArray.mk #[])), (Value.slice none 0 0)] A34_ n34_ c34_ (Value.slice (some ⟨Array.size h33_, 0, none⟩) 1 1) h45_ fun v47_ h48_ => ∃ A49_, ∃ n49_, ∃ c49_, v47_ = (Value.slice A49_ n49_ c49_) ∧ Run Tryd.prog 28 #[v46_, (Value.slice none 0 0), (Value.slice A49_ n49_ c49_)] h48_ fun v50_ h51_ => ∃ x52_, v50_ = (Value.int .i64 x52_) ∧ f21.j1 R a1 (⟨Array.size h, 0, none⟩) x52_ A100 n100 c100 x101 x102 h51_)) ∧ (AppW 25 3 48 #[(Value.int .i64 (0 : Int)), (Value.string (ByteArray.mk #[])), (Value.slice none 0 0)] A34_ n34_ c34_ (Value.slice (some ⟨Array.size h33_, 0, none⟩) 1 1) h45_ fun v53_ h54_ => ∃ A55_, ∃ n55_, ∃ c55_, v53_ = (Value.slice A55_ n55_ c55_) ∧ ∃ v56_, ldv true 8 h54_ a1 = some v56_ ∧ Ext h54_ h54_ ∧ (Run Tryd.prog 28 #[v56_, (Value.slice none 0 0), (Value.slice A55_ n55_ c55_)] h54_ fun v57_ h58_ => ∃ x59_, v57_ = (Value.int .i64 x59_) ∧ f21.j1 R a1 (⟨Array.size h, 0, none⟩) x59_ A100 n100 c100 x101 x102 h58_))))))) ∧ (∃ l60_ : List Value, v8_ = Value.agg l60_.toArray ∧ l60_.length = 3 ∧ (newH h4_ (Obj.cells ((List.take 0 ([(Value.int .i64 (0 : Int)), (Value.string (ByteArray.mk #[])), (Value.slice none 0 0)]) ++ l60_ ++ List.drop 3 ([(Value.int .i64 (0 : Int)), (Value.string (ByteArray.mk #[])), (Value.slice none 0 0)])).toArray) 25) fun h61_ => Ext h4_ h61_ ∧ ((∃ v62_, ldv true 8 h61_ a1 = some v62_ ∧ Ext h61_ h61_ ∧ (Run Tryd.prog 42 #[(Value.slice A7_ n7_ c7_)] h61_ fun v63_ h64_ => ∃ A65_, ∃ n65_, ∃ c65_, v63_ = (Value.slice A65_ n65_ c65_) ∧ Ext h61_ h64_ ∧ (AppW 25 3 48 #[(Value.int .i64 (0 : Int)), (Value.string (ByteArray.mk #[])), (Value.slice none 0 0)] A65_ n65_ c65_ (Value.slice (some ⟨Array.size h4_, 0, none⟩) 1 1) h64_ fun v66_ h67_ => ∃ A68_, ∃ n68_, ∃ c68_, v66_ = (Value.slice A68_ n68_ c68_) ∧ Run Tryd.prog 28 #[v62_, (Value.slice none 0 0), (Value.slice A68_ n68_ c68_)] h67_ fun v69_ h70_ => ∃ x71_, v69_ = (Value.int .i64 x71_) ∧ f21.j1 R a1 (⟨Array.size h, 0, none⟩) x71_ A100 n100 c100 x101 x102 h70_))) ∧ (Run Tryd.prog 42 #[(Value.slice A7_ n7_ c7_)] h61_ fun v72_ h73_ => ∃ A74_, ∃ n74_, ∃ c74_, v72_ = (Value.slice A74_ n74_ c74_) ∧ Ext h61_ h73_ ∧ ((∃ v75_, ldv true 8 h73_ a1 = some v75_ ∧ Ext h73_ h73_ ∧ (AppW 25 3 48 #[(Value.int .i64 (0 : Int)), (Value.string (ByteArray.mk #[])), (Value.slice none 0 0)] A74_ n74_ c74_ (Value.slice (some ⟨Array.size h4_, 0, none⟩) 1 1) h73_ fun v76_ h77_ => ∃ A78_, ∃ n78_, ∃ c78_, v76_ = (Value.slice A78_ n78_ c78_) ∧ Run Tryd.prog 28 #[v75_, (Value.slice none 0 0), (Value.slice A78_ n78_ c78_)] h77_ fun v79_ h80_ => ∃ x81_, v79_ = (Value.int .i64 x81_) ∧ f21.j1 R a1 (⟨Array.size h, 0, none⟩) x81_ A100 n100 c100 x101 x102 h80_)) ∧ (AppW 25 3 48 #[(Value.int .i64 (0 : Int)), (Value.string (ByteArray.mk #[])), (Value.slice none 0 0)] A74_ n74_ c74_ (Value.slice (some ⟨Array.size h4_, 0, none⟩) 1 1) h73_ fun v82_ h83_ => ∃ A84_, ∃ n84_, ∃ c84_, v82_ = (Value.slice A84_ n84_ c84_) ∧ ∃ v85_, ldv true 8 h83_ a1 = some v85_ ∧ Ext h83_ h83_ ∧ (Run Tryd.prog 28 #[v85_, (Value.slice none 0 0), (Value.slice A84_ n84_ c84_)] h83_ fun v86_ h87_ => ∃ x88_, v86_ = (Value.int .i64 x88_) ∧ f21.j1 R a1 (⟨Array.size h, 0, none⟩) x88_ A100 n100 c100 x101 x102 h87_)))))))))) (R (Value.tuple #[(Value.int .i64 (0 : Int)), (Value.int .i64 (0 : Int))]) h)
set_option maxRecDepth 100000 in
theorem f21.l3_in {R : Value → Heap → Prop} {a1 : Addr} {A100 : Option Addr} {n100 : Nat} {c100 : Nat} {x101 : Int} {x102 : Int} {h : Heap} (H : f21.l3T R a1 A100 n100 c100 x101 x102 h) : f21.l3 R a1 A100 n100 c100 x101 x102 h :=
  pt_intro mixed f21.good (Eq.mpr (show (Fwd Tryd.prog f21.T f21.kp Tryd.f21 R [false, false, true, false, true, true, true, true, true] (mkFr [(1, (Value.pointer (some a1))), (100, (Value.slice A100 n100 c100)), (101, (Value.int .i64 x101)), (102, (Value.int .i64 x102))]) h) = (f21.l3T R a1 A100 n100 c100 x101 x102 h) by kernel_rfl) H)
set_option maxRecDepth 100000 in
def f21.j1T (R : Value → Heap → Prop) (a1 : Addr) (a20 : Addr) (x21 : Int) (A100 : Option Addr) (n100 : Nat) (c100 : Nat) (x101 : Int) (x102 : Int) (h : Heap) : Prop :=
  splitB (x21 != (0 : Int)) (R (Value.tuple #[(Value.int .i64 x21), (Value.int .i64 (0 : Int))]) h) (f21.j0 R a1 a20 A100 n100 c100 x101 x102 h)
set_option maxRecDepth 100000 in
theorem f21.j1_in {R : Value → Heap → Prop} {a1 : Addr} {a20 : Addr} {x21 : Int} {A100 : Option Addr} {n100 : Nat} {c100 : Nat} {x101 : Int} {x102 : Int} {h : Heap} (H : f21.j1T R a1 a20 x21 A100 n100 c100 x101 x102 h) : f21.j1 R a1 a20 x21 A100 n100 c100 x101 x102 h :=
  pt_intro mixed f21.good (Eq.mpr (show (Fwd Tryd.prog f21.T f21.kp Tryd.f21 R [true, false, true, false, false, true, true, false, false, true, false, true, true, true, true, true] (mkFr [(1, (Value.pointer (some a1))), (20, (Value.pointer (some a20))), (21, (Value.int .i64 x21)), (100, (Value.slice A100 n100 c100)), (101, (Value.int .i64 x101)), (102, (Value.int .i64 x102))]) h) = (f21.j1T R a1 a20 x21 A100 n100 c100 x101 x102 h) by kernel_rfl) H)
set_option maxRecDepth 100000 in
def f21.j0T (R : Value → Heap → Prop) (a1 : Addr) (a20 : Addr) (A100 : Option Addr) (n100 : Nat) (c100 : Nat) (x101 : Int) (x102 : Int) (h : Heap) : Prop :=
  ∃ v1_, ldv true 8 h a1 = some v1_ ∧ ∃ v2_, ldv true 8 h (Addr.add a20 6) = some v2_ ∧ Run Tryd.prog 43 #[v1_, (Value.slice none 0 0), v2_] h fun v3_ h4_ => ∃ x5_, ∃ x6_, v3_ = (Value.tuple #[(Value.int .i64 x5_), (Value.int .i64 x6_)]) ∧ splitB (x5_ != (0 : Int)) (R (Value.tuple #[(Value.int .i64 x5_), (Value.int .i64 x6_)]) h4_) (f21.l3 R a1 A100 n100 c100 x101 (IntKind.wrap .i64 (x102 + (1 : Int))) h4_)
set_option maxRecDepth 100000 in
theorem f21.j0_in {R : Value → Heap → Prop} {a1 : Addr} {a20 : Addr} {A100 : Option Addr} {n100 : Nat} {c100 : Nat} {x101 : Int} {x102 : Int} {h : Heap} (H : f21.j0T R a1 a20 A100 n100 c100 x101 x102 h) : f21.j0 R a1 a20 A100 n100 c100 x101 x102 h :=
  pt_intro mixed f21.good (Eq.mpr (show (Fwd Tryd.prog f21.T f21.kp Tryd.f21 R [true, true, false, false, true, true, false, false, true, false, true, true, true, true, true] (mkFr [(1, (Value.pointer (some a1))), (20, (Value.pointer (some a20))), (100, (Value.slice A100 n100 c100)), (101, (Value.int .i64 x101)), (102, (Value.int .i64 x102))]) h) = (f21.j0T R a1 a20 A100 n100 c100 x101 x102 h) by kernel_rfl) H)
set_option maxRecDepth 100000 in
def f21.runT (R : Value → Heap → Prop) (v0 : Value) (h : Heap) : Prop :=
  newH h (Obj.cells ((v0).cells) 54) fun h1_ => ∃ v2_, ldv false 1 h1_ (Addr.add (⟨Array.size h, 0, none⟩) 3) = some v2_ ∧ ∃ A3_, ∃ n3_, ∃ c3_, v2_ = (Value.slice A3_ n3_ c3_) ∧ f21.l0 R (⟨Array.size h, 0, none⟩) A3_ n3_ c3_ ((n3_ : Nat) : Int) (0 : Int) h1_
set_option maxRecDepth 100000 in
theorem f21.run {R : Value → Heap → Prop} {v0 : Value} {h : Heap} (H : f21.runT R v0 h) : Run Tryd.prog 21 #[v0] h R :=
  run_of mixed Tryd.func21 (by kernel_rfl) (by kernel_rfl) f21.good (Eq.mpr (show (Fwd Tryd.prog f21.T f21.kp Tryd.f21 R [] (mkFr (argL [v0] 0)) h) = (f21.runT R v0 h) by kernel_rfl) H)
def f48.T : Tab := { sh := tSh, tup := tTup, keep := [], plan := [] }
def f48.kp : Keep := [([true, true], [0, 1])]
theorem f48.good : goodCode Tryd.prog f48.T (rootOf Tryd.f48) = true := by kernel_rfl
def f48.j0 (R : Value → Heap → Prop) (A0 : Option Addr) (n0 : Nat) (c0 : Nat) (x1 : Int) (h : Heap) : Prop := Pt Tryd.prog Tryd.f48 R [true, true] (mkFr [(0, (Value.slice A0 n0 c0)), (1, (Value.int .i64 x1))]) h
set_option maxRecDepth 100000 in
def f48.j0T (R : Value → Heap → Prop) (A0 : Option Addr) (n0 : Nat) (c0 : Nat) (x1 : Int) (h : Heap) : Prop :=
  splitB (decide ((IntKind.wrap .i64 (x1 - (IntKind.wrap .i64 (((c0 : Nat) : Int) - ((n0 : Nat) : Int))))) > (0 : Int))) (0 ≤ (0 : Int) ∧ (0 : Int) ≤ ((c0 : Nat) : Int) ∧ ((c0 : Nat) : Int) ≤ ((c0 : Nat) : Int) ∧ (AppZ 25 3 48 #[(Value.int .i64 (0 : Int)), (Value.string (ByteArray.mk #[])), (Value.slice none 0 0)] (sliceA A0 (Int.toNat (0 : Int)) c0 3) (Int.toNat ((c0 : Nat) : Int) - Int.toNat (0 : Int)) (c0 - Int.toNat (0 : Int)) (Value.int .i64 (IntKind.wrap .i64 (x1 - (IntKind.wrap .i64 (((c0 : Nat) : Int) - ((n0 : Nat) : Int)))))) h fun v1_ h2_ => ∃ A3_, ∃ n3_, ∃ c3_, v1_ = (Value.slice A3_ n3_ c3_) ∧ 0 ≤ (0 : Int) ∧ (0 : Int) ≤ ((n0 : Nat) : Int) ∧ ((n0 : Nat) : Int) ≤ ((c3_ : Nat) : Int) ∧ (R (Value.slice (sliceA A3_ (Int.toNat (0 : Int)) c3_ 3) (Int.toNat ((n0 : Nat) : Int) - Int.toNat (0 : Int)) (c3_ - Int.toNat (0 : Int))) h2_))) (R (Value.slice A0 n0 c0) h)
set_option maxRecDepth 100000 in
theorem f48.j0_in {R : Value → Heap → Prop} {A0 : Option Addr} {n0 : Nat} {c0 : Nat} {x1 : Int} {h : Heap} (H : f48.j0T R A0 n0 c0 x1 h) : f48.j0 R A0 n0 c0 x1 h :=
  pt_intro mixed f48.good (Eq.mpr (show (Fwd Tryd.prog f48.T f48.kp Tryd.f48 R [true, true] (mkFr [(0, (Value.slice A0 n0 c0)), (1, (Value.int .i64 x1))]) h) = (f48.j0T R A0 n0 c0 x1 h) by kernel_rfl) H)
set_option maxRecDepth 100000 in
def f48.runT (R : Value → Heap → Prop) (A0 : Option Addr) (n0 : Nat) (c0 : Nat) (x1 : Int) (h : Heap) : Prop :=
  splitB (decide (x1 < (0 : Int))) (Gen Tryd.prog (Instr.makeInterface 9 (Value.string (ByteArray.mk #[99, 97, 110, 110, 111, 116, 32, 98, 101, 32, 110, 101, 103, 97, 116, 105, 118, 101]))) h fun v1_ h2_ => False) (f48.j0 R A0 n0 c0 x1 h)
set_option maxRecDepth 100000 in
theorem f48.run {R : Value → Heap → Prop} {A0 : Option Addr} {n0 : Nat} {c0 : Nat} {x1 : Int} {h : Heap} (H : f48.runT R A0 n0 c0 x1 h) : Run Tryd.prog 48 #[(Value.slice A0 n0 c0), (Value.int .i64 x1)] h R :=
  run_of mixed Tryd.func48 (by kernel_rfl) (by kernel_rfl) f48.good (Eq.mpr (show (Fwd Tryd.prog f48.T f48.kp Tryd.f48 R [] (mkFr (argL [(Value.slice A0 n0 c0), (Value.int .i64 x1)] 0)) h) = (f48.runT R A0 n0 c0 x1 h) by kernel_rfl) H)
def f31.T : Tab := { sh := tSh, tup := tTup, keep := [], plan := [] }
def f31.kp : Keep := [([false, false, true, false, true, true], [0, 3, 9, 10, 11]), ([false, false, true, false, true, true, true, true], [6, 25, 26, 27])]
theorem f31.good : goodCode Tryd.prog f31.T (rootOf Tryd.f31) = true := by kernel_rfl
def f31.l0 (R : Value → Heap → Prop) (A0 : Option Addr) (n0 : Nat) (c0 : Nat) (x3 : Int) (A9 : Option Addr) (n9 : Nat) (c9 : Nat) (x10 : Int) (x11 : Int) (h : Heap) : Prop := Pt Tryd.prog Tryd.f31 R [false, false, true, false, true, true] (mkFr [(0, (Value.slice A0 n0 c0)), (3, (Value.int .i64 x3)), (9, (Value.slice A9 n9 c9)), (10, (Value.int .i64 x10)), (11, (Value.int .i64 x11))]) h
def f31.l1 (R : Value → Heap → Prop) (A6 : Option Addr) (n6 : Nat) (c6 : Nat) (A25 : Option Addr) (n25 : Nat) (c25 : Nat) (x26 : Int) (x27 : Int) (h : Heap) : Prop := Pt Tryd.prog Tryd.f31 R [false, false, true, false, true, true, true, true] (mkFr [(6, (Value.slice A6 n6 c6)), (25, (Value.slice A25 n25 c25)), (26, (Value.int .i64 x26)), (27, (Value.int .i64 x27))]) h
set_option maxRecDepth 100000 in
def f31.l0T (R : Value → Heap → Prop) (A0 : Option Addr) (n0 : Nat) (c0 : Nat) (x3 : Int) (A9 : Option Addr) (n9 : Nat) (c9 : Nat) (x10 : Int) (x11 : Int) (h : Heap) : Prop :=
  splitB (decide (x11 < x10)) (ptrOk A9 fun a1_ => 0 ≤ x11 ∧ x11 < ((n9 : Nat) : Int) ∧ (∃ v2_, ldv false 1 h (Addr.add a1_ (Int.toNat x11 * 1)) = some v2_ ∧ ∃ A3_, ∃ n3_, ∃ c3_, v2_ = (Value.slice A3_ n3_ c3_) ∧ splitB (decide ((IntKind.wrap .i64 (x3 + ((n3_ : Nat) : Int))) < (0 : Int))) (Gen Tryd.prog (Instr.makeInterface 9 (Value.string (ByteArray.mk #[108, 101, 110, 32, 111, 117, 116, 32, 111, 102, 32, 114, 97, 110, 103, 101]))) h fun v4_ h5_ => False) (f31.l0 R A0 n0 c0 (IntKind.wrap .i64 (x3 + ((n3_ : Nat) : Int))) A9 n9 c9 x10 (IntKind.wrap .i64 (x11 + (1 : Int))) h))) (Run Tryd.prog 48 #[(Value.slice none 0 0), (Value.int .i64 x3)] h fun v6_ h7_ => ∃ A8_, ∃ n8_, ∃ c8_, v6_ = (Value.slice A8_ n8_ c8_) ∧ f31.l1 R A8_ n8_ c8_ A0 n0 c0 ((n0 : Nat) : Int) (0 : Int) h7_)
set_option maxRecDepth 100000 in
theorem f31.l0_in {R : Value → Heap → Prop} {A0 : Option Addr} {n0 : Nat} {c0 : Nat} {x3 : Int} {A9 : Option Addr} {n9 : Nat} {c9 : Nat} {x10 : Int} {x11 : Int} {h : Heap} (H : f31.l0T R A0 n0 c0 x3 A9 n9 c9 x10 x11 h) : f31.l0 R A0 n0 c0 x3 A9 n9 c9 x10 x11 h :=
  pt_intro mixed f31.good (Eq.mpr (show (Fwd Tryd.prog f31.T f31.kp Tryd.f31 R [false, false, true, false, true, true] (mkFr [(0, (Value.slice A0 n0 c0)), (3, (Value.int .i64 x3)), (9, (Value.slice A9 n9 c9)), (10, (Value.int .i64 x10)), (11, (Value.int .i64 x11))]) h) = (f31.l0T R A0 n0 c0 x3 A9 n9 c9 x10 x11 h) by kernel_rfl) H)
set_option maxRecDepth 100000 in
def f31.l1T (R : Value → Heap → Prop) (A6 : Option Addr) (n6 : Nat) (c6 : Nat) (A25 : Option Addr) (n25 : Nat) (c25 : Nat) (x26 : Int) (x27 : Int) (h : Heap) : Prop :=
  splitB (decide (x27 < x26)) (ptrOk A25 fun a1_ => 0 ≤ x27 ∧ x27 < ((n25 : Nat) : Int) ∧ (∃ v2_, ldv false 1 h (Addr.add a1_ (Int.toNat x27 * 1)) = some v2_ ∧ ∃ A3_, ∃ n3_, ∃ c3_, v2_ = (Value.slice A3_ n3_ c3_) ∧ AppW 25 3 48 #[(Value.int .i64 (0 : Int)), (Value.string (ByteArray.mk #[])), (Value.slice none 0 0)] A6 n6 c6 (Value.slice A3_ n3_ c3_) h fun v4_ h5_ => ∃ A6_, ∃ n6_, ∃ c6_, v4_ = (Value.slice A6_ n6_ c6_) ∧ f31.l1 R A6_ n6_ c6_ A25 n25 c25 x26 (IntKind.wrap .i64 (x27 + (1 : Int))) h5_)) (R (Value.slice A6 n6 c6) h)
set_option maxRecDepth 100000 in
theorem f31.l1_in {R : Value → Heap → Prop} {A6 : Option Addr} {n6 : Nat} {c6 : Nat} {A25 : Option Addr} {n25 : Nat} {c25 : Nat} {x26 : Int} {x27 : Int} {h : Heap} (H : f31.l1T R A6 n6 c6 A25 n25 c25 x26 x27 h) : f31.l1 R A6 n6 c6 A25 n25 c25 x26 x27 h :=
  pt_intro mixed f31.good (Eq.mpr (show (Fwd Tryd.prog f31.T f31.kp Tryd.f31 R [false, false, true, false, true, true, true, true] (mkFr [(6, (Value.slice A6 n6 c6)), (25, (Value.slice A25 n25 c25)), (26, (Value.int .i64 x26)), (27, (Value.int .i64 x27))]) h) = (f31.l1T R A6 n6 c6 A25 n25 c25 x26 x27 h) by kernel_rfl) H)
set_option maxRecDepth 100000 in
def f31.runT (R : Value → Heap → Prop) (A0 : Option Addr) (n0 : Nat) (c0 : Nat) (h : Heap) : Prop :=
  f31.l0 R A0 n0 c0 (0 : Int) A0 n0 c0 ((n0 : Nat) : Int) (0 : Int) h
set_option maxRecDepth 100000 in
theorem f31.run {R : Value → Heap → Prop} {A0 : Option Addr} {n0 : Nat} {c0 : Nat} {h : Heap} (H : f31.runT R A0 n0 c0 h) : Run Tryd.prog 31 #[(Value.slice A0 n0 c0)] h R :=
  run_of mixed Tryd.func31 (by kernel_rfl) (by kernel_rfl) f31.good (Eq.mpr (show (Fwd Tryd.prog f31.T f31.kp Tryd.f31 R [] (mkFr (argL [(Value.slice A0 n0 c0)] 0)) h) = (f31.runT R A0 n0 c0 h) by kernel_rfl) H)
def f24.T : Tab := { sh := tSh, tup := tTup, keep := [], plan := [] }
def f24.kp : Keep := [([false, false, true, false, true], [0, 1, 7, 8])]
theorem f24.good : goodCode Tryd.prog f24.T (rootOf Tryd.f24) = true := by kernel_rfl
def f24.l0 (R : Value → Heap → Prop) (A0 : Option Addr) (n0 : Nat) (c0 : Nat) (v1 : Value) (x7 : Int) (x8 : Int) (h : Heap) : Prop := Pt Tryd.prog Tryd.f24 R [false, false, true, false, true] (mkFr [(0, (Value.slice A0 n0 c0)), (1, v1), (7, (Value.int .i64 x7)), (8, (Value.int .i64 x8))]) h
set_option maxRecDepth 100000 in
def f24.l0T (R : Value → Heap → Prop) (A0 : Option Addr) (n0 : Nat) (c0 : Nat) (v1 : Value) (x7 : Int) (x8 : Int) (h : Heap) : Prop :=
  splitB (decide (x8 < x7)) (ptrOk A0 fun a1_ => 0 ≤ x8 ∧ x8 < ((n0 : Nat) : Int) ∧ (∃ v2_, ldv true 3 h (Addr.add a1_ (Int.toNat x8 * 3)) = some v2_ ∧ CallF Tryd.prog v1 [v2_] h fun v3_ h4_ => ∃ b5_, v3_ = (Value.bool b5_) ∧ splitB b5_ (R (Value.int .i64 x8) h4_) (f24.l0 R A0 n0 c0 v1 x7 (IntKind.wrap .i64 (x8 + (1 : Int))) h4_))) (R (Value.int .i64 (-1 : Int)) h)
set_option maxRecDepth 100000 in
theorem f24.l0_in {R : Value → Heap → Prop} {A0 : Option Addr} {n0 : Nat} {c0 : Nat} {v1 : Value} {x7 : Int} {x8 : Int} {h : Heap} (H : f24.l0T R A0 n0 c0 v1 x7 x8 h) : f24.l0 R A0 n0 c0 v1 x7 x8 h :=
  pt_intro mixed f24.good (Eq.mpr (show (Fwd Tryd.prog f24.T f24.kp Tryd.f24 R [false, false, true, false, true] (mkFr [(0, (Value.slice A0 n0 c0)), (1, v1), (7, (Value.int .i64 x7)), (8, (Value.int .i64 x8))]) h) = (f24.l0T R A0 n0 c0 v1 x7 x8 h) by kernel_rfl) H)
set_option maxRecDepth 100000 in
def f24.runT (R : Value → Heap → Prop) (A0 : Option Addr) (n0 : Nat) (c0 : Nat) (v1 : Value) (h : Heap) : Prop :=
  f24.l0 R A0 n0 c0 v1 ((n0 : Nat) : Int) (0 : Int) h
set_option maxRecDepth 100000 in
theorem f24.run {R : Value → Heap → Prop} {A0 : Option Addr} {n0 : Nat} {c0 : Nat} {v1 : Value} {h : Heap} (H : f24.runT R A0 n0 c0 v1 h) : Run Tryd.prog 24 #[(Value.slice A0 n0 c0), v1] h R :=
  run_of mixed Tryd.func24 (by kernel_rfl) (by kernel_rfl) f24.good (Eq.mpr (show (Fwd Tryd.prog f24.T f24.kp Tryd.f24 R [] (mkFr (argL [(Value.slice A0 n0 c0), v1] 0)) h) = (f24.runT R A0 n0 c0 v1 h) by kernel_rfl) H)
def f58.T : Tab := { sh := tSh, tup := tTup, keep := [], plan := [] }
def f58.kp : Keep := []
theorem f58.good : goodCode Tryd.prog f58.T (rootOf Tryd.f58) = true := by kernel_rfl
set_option maxRecDepth 100000 in
theorem f58.ok : calleeOk Tryd.prog 58 = true := by kernel_rfl
set_option maxRecDepth 100000 in
def f58.runT (R : Value → Heap → Prop) (v0 : Value) (a1 : Addr) (h : Heap) : Prop :=
  newH h (Obj.cells ((v0).cells) 63) fun h1_ => ∃ v2_, ldv false 1 h1_ (⟨Array.size h, 0, none⟩) = some v2_ ∧ ∃ s3_, v2_ = (Value.string s3_) ∧ ∃ v4_, ldv false 1 h1_ a1 = some v4_ ∧ ∃ s5_, v4_ = (Value.string s5_) ∧ R (Value.bool (ByteArray.toList s3_ == ByteArray.toList s5_)) h1_
set_option maxRecDepth 100000 in
theorem f58.run {R : Value → Heap → Prop} {v0 : Value} {a1 : Addr} {h : Heap} (H : f58.runT R v0 a1 h) : Run Tryd.prog 58 #[v0, (Value.pointer (some a1))] h R :=
  run_of mixed Tryd.func58 (by kernel_rfl) (by kernel_rfl) f58.good (Eq.mpr (show (Fwd Tryd.prog f58.T f58.kp Tryd.f58 R [] (mkFr (argL [v0, (Value.pointer (some a1))] 0)) h) = (f58.runT R v0 a1 h) by kernel_rfl) H)
def f47.T : Tab := { sh := tSh, tup := tTup, keep := [], plan := [] }
def f47.kp : Keep := []
theorem f47.good : goodCode Tryd.prog f47.T (rootOf Tryd.f47) = true := by kernel_rfl
set_option maxRecDepth 100000 in
def f47.runT (R : Value → Heap → Prop) (v0 : Value) (s1 : ByteArray) (h : Heap) : Prop :=
  newH h (Obj.cells ((v0).cells) 54) fun h1_ => newH h1_ (Obj.cells #[(Value.string s1)] 9) fun h2_ => ∃ v3_, ldv false 1 h2_ (Addr.add (⟨Array.size h, 0, none⟩) 3) = some v3_ ∧ ∃ A4_, ∃ n4_, ∃ c4_, v3_ = (Value.slice A4_ n4_ c4_) ∧ Run Tryd.prog 24 #[(Value.slice A4_ n4_ c4_), (Value.func (.func 58) #[] #[(Value.pointer (some ⟨Array.size h1_, 0, none⟩))])] h2_ fun v5_ h6_ => ∃ x7_, v5_ = (Value.int .i64 x7_) ∧ R (Value.int .i64 x7_) h6_
set_option maxRecDepth 100000 in
theorem f47.run {R : Value → Heap → Prop} {v0 : Value} {s1 : ByteArray} {h : Heap} (H : f47.runT R v0 s1 h) : Run Tryd.prog 47 #[v0, (Value.string s1)] h R :=
  run_of mixed Tryd.func47 (by kernel_rfl) (by kernel_rfl) f47.good (Eq.mpr (show (Fwd Tryd.prog f47.T f47.kp Tryd.f47 R [] (mkFr (argL [v0, (Value.string s1)] 0)) h) = (f47.runT R v0 s1 h) by kernel_rfl) H)
def f27.T : Tab := { sh := tSh, tup := tTup, keep := [], plan := [(4, (.take 0 (.take 2 (.take 3 (.take 1 (.eff false 4 (.eff false 5 (.take 6 .done)))))))), (9, (.take 0 (.take 1 (.take 2 (.take 3 (.split 3 (.take 4 (.take 6 (.take 11 (.take 5 (.take 7 (.take 8 (.take 9 (.take 10 (.take 12 (.take 13 (.take 14 (.take 15 (.take 16 .done)))))))))))))))))))] }
def f27.kp : Keep := [([false, false, false, true, true], [1, 3, 7]), ([true, false, false, true, true, true, false, true, false, false, false, true, true], [1, 3, 7, 8, 9, 28]), ([true, false, true, true, true, false, true, false, false, false, true, true], [1, 3, 7, 8, 9, 28])]
theorem f27.good : goodCode Tryd.prog f27.T (rootOf Tryd.f27) = true := by kernel_rfl
def f27.l0 (R : Value → Heap → Prop) (A1 : Option Addr) (n1 : Nat) (c1 : Nat) (a3 : Addr) (A7 : Option Addr) (n7 : Nat) (c7 : Nat) (h : Heap) : Prop := Pt Tryd.prog Tryd.f27 R [false, false, false, true, true] (mkFr [(1, (Value.slice A1 n1 c1)), (3, (Value.pointer (some a3))), (7, (Value.slice A7 n7 c7))]) h
def f27.j1 (R : Value → Heap → Prop) (A1 : Option Addr) (n1 : Nat) (c1 : Nat) (a3 : Addr) (A7 : Option Addr) (n7 : Nat) (c7 : Nat) (a8 : Addr) (x9 : Int) (b28 : Bool) (h : Heap) : Prop := Pt Tryd.prog Tryd.f27 R [true, false, false, true, true, true, false, true, false, false, false, true, true] (mkFr [(1, (Value.slice A1 n1 c1)), (3, (Value.pointer (some a3))), (7, (Value.slice A7 n7 c7)), (8, (Value.pointer (some a8))), (9, (Value.int .i64 x9)), (28, (Value.bool b28))]) h
def f27.j0 (R : Value → Heap → Prop) (A1 : Option Addr) (n1 : Nat) (c1 : Nat) (a3 : Addr) (A7 : Option Addr) (n7 : Nat) (c7 : Nat) (a8 : Addr) (x9 : Int) (b28 : Bool) (h : Heap) : Prop := Pt Tryd.prog Tryd.f27 R [true, false, true, true, true, false, true, false, false, false, true, true] (mkFr [(1, (Value.slice A1 n1 c1)), (3, (Value.pointer (some a3))), (7, (Value.slice A7 n7 c7)), (8, (Value.pointer (some a8))), (9, (Value.int .i64 x9)), (28, (Value.bool b28))]) h
set_option maxRecDepth 100000 in
def f27.l0T (R : Value → Heap → Prop) (A1 : Option Addr) (n1 : Nat) (c1 : Nat) (a3 : Addr) (A7 : Option Addr) (n7 : Nat) (c7 : Nat) (h : Heap) : Prop :=
  splitB (decide (((n7 : Nat) : Int) > (0 : Int))) (ptrOk A7 fun a1_ => 0 ≤ (0 : Int) ∧ (0 : Int) < ((n7 : Nat) : Int) ∧ (∃ v2_, ldv true 3 h (Addr.add a1_ (Int.toNat (0 : Int) * 3)) = some v2_ ∧ newH h (Obj.cells #[(Value.int .i64 (0 : Int)), (Value.string (ByteArray.mk #[])), (Value.slice none 0 0)] 25) fun h3_ => ∃ l5_ : List Value, v2_ = Value.agg l5_.toArray ∧ l5_.length = 3 ∧ ∃ h4_, stH h3_ (⟨Array.size h, 0, none⟩) l5_ 0 = some h4_ ∧ 0 ≤ (1 : Int) ∧ (1 : Int) ≤ ((n7 : Nat) : Int) ∧ ((n7 : Nat) : Int) ≤ ((c7 : Nat) : Int) ∧ (∃ v6_, ldv false 1 h4_ (Addr.add (⟨Array.size h, 0, none⟩) 2) = some v6_ ∧ ∃ A7_, ∃ n7_, ∃ c7_, v6_ = (Value.slice A7_ n7_ c7_) ∧ newH h4_ (Obj.cells #[(Value.slice A7_ n7_ c7_), (Value.slice (sliceA A7 (Int.toNat (1 : Int)) c7 3) (Int.toNat ((n7 : Nat) : Int) - Int.toNat (1 : Int)) (c7 - Int.toNat (1 : Int)))] 23) fun h8_ => Run Tryd.prog 31 #[(Value.slice (some ⟨Array.size h4_, 0, none⟩) 2 2)] h8_ fun v9_ h10_ => ∃ A11_, ∃ n11_, ∃ c11_, v9_ = (Value.slice A11_ n11_ c11_) ∧ ∃ v12_, ldv true 8 h10_ a3 = some v12_ ∧ ∃ v13_, ldv false 1 h10_ (Addr.add (⟨Array.size h, 0, none⟩) 1) = some v13_ ∧ ∃ s14_, v13_ = (Value.string s14_) ∧ Run Tryd.prog 47 #[v12_, (Value.string s14_)] h10_ fun v15_ h16_ => ∃ x17_, v15_ = (Value.int .i64 x17_) ∧ ∃ v18_, ldv false 1 h16_ (⟨Array.size h, 0, none⟩) = some v18_ ∧ ∃ x19_, v18_ = (Value.int .i64 x19_) ∧ splitB (x19_ == (5 : Int)) (∃ v20_, ldv false 1 h16_ (Addr.add (⟨Array.size h, 0, none⟩) 1) = some v20_ ∧ ∃ s21_, v20_ = (Value.string s21_) ∧ Run Tryd.prog 6 #[(Value.slice A1 n1 c1), (Value.string s21_)] h16_ fun v22_ h23_ => ∃ b24_, v22_ = (Value.bool b24_) ∧ f27.j1 R A1 n1 c1 a3 A11_ n11_ c11_ (⟨Array.size h, 0, none⟩) x17_ (!b24_) h23_) (f27.j1 R A1 n1 c1 a3 A11_ n11_ c11_ (⟨Array.size h, 0, none⟩) x17_ false h16_)))) (R (Value.int .i64 (0 : Int)) h)
set_option maxRecDepth 100000 in
theorem f27.l0_in {R : Value → Heap → Prop} {A1 : Option Addr} {n1 : Nat} {c1 : Nat} {a3 : Addr} {A7 : Option Addr} {n7 : Nat} {c7 : Nat} {h : Heap} (H : f27.l0T R A1 n1 c1 a3 A7 n7 c7 h) : f27.l0 R A1 n1 c1 a3 A7 n7 c7 h :=
  pt_intro mixed f27.good (Eq.mpr (show (Fwd Tryd.prog f27.T f27.kp Tryd.f27 R [false, false, false, true, true] (mkFr [(1, (Value.slice A1 n1 c1)), (3, (Value.pointer (some a3))), (7, (Value.slice A7 n7 c7))]) h) = (f27.l0T R A1 n1 c1 a3 A7 n7 c7 h) by kernel_rfl) H)
set_option maxRecDepth 100000 in
def f27.j1T (R : Value → Heap → Prop) (A1 : Option Addr) (n1 : Nat) (c1 : Nat) (a3 : Addr) (A7 : Option Addr) (n7 : Nat) (c7 : Nat) (a8 : Addr) (x9 : Int) (b28 : Bool) (h : Heap) : Prop :=
  splitB b28 (f27.j0 R A1 n1 c1 a3 A7 n7 c7 a8 x9 b28 h) (∃ v1_, ldv false 1 h a8 = some v1_ ∧ ∃ x2_, v1_ = (Value.int .i64 x2_) ∧ splitB (x2_ == (6 : Int)) (f27.j0 R A1 n1 c1 a3 A7 n7 c7 a8 x9 (decide (x9 < (0 : Int))) h) (f27.j0 R A1 n1 c1 a3 A7 n7 c7 a8 x9 false h))
set_option maxRecDepth 100000 in
theorem f27.j1_in {R : Value → Heap → Prop} {A1 : Option Addr} {n1 : Nat} {c1 : Nat} {a3 : Addr} {A7 : Option Addr} {n7 : Nat} {c7 : Nat} {a8 : Addr} {x9 : Int} {b28 : Bool} {h : Heap} (H : f27.j1T R A1 n1 c1 a3 A7 n7 c7 a8 x9 b28 h) : f27.j1 R A1 n1 c1 a3 A7 n7 c7 a8 x9 b28 h :=
  pt_intro mixed f27.good (Eq.mpr (show (Fwd Tryd.prog f27.T f27.kp Tryd.f27 R [true, false, false, true, true, true, false, true, false, false, false, true, true] (mkFr [(1, (Value.slice A1 n1 c1)), (3, (Value.pointer (some a3))), (7, (Value.slice A7 n7 c7)), (8, (Value.pointer (some a8))), (9, (Value.int .i64 x9)), (28, (Value.bool b28))]) h) = (f27.j1T R A1 n1 c1 a3 A7 n7 c7 a8 x9 b28 h) by kernel_rfl) H)
set_option maxRecDepth 100000 in
def f27.j0T (R : Value → Heap → Prop) (A1 : Option Addr) (n1 : Nat) (c1 : Nat) (a3 : Addr) (A7 : Option Addr) (n7 : Nat) (c7 : Nat) (a8 : Addr) (x9 : Int) (b28 : Bool) (h : Heap) : Prop :=
  splitB b28 (R (Value.int .i64 (11 : Int)) h) (∃ v1_, ldv false 1 h a8 = some v1_ ∧ ∃ x2_, v1_ = (Value.int .i64 x2_) ∧ splitB (x2_ == (6 : Int)) (∃ v3_, ldv false 1 h (Addr.add a3 3) = some v3_ ∧ ∃ A4_, ∃ n4_, ∃ c4_, v3_ = (Value.slice A4_ n4_ c4_) ∧ ptrOk A4_ fun a5_ => 0 ≤ x9 ∧ x9 < ((n4_ : Nat) : Int) ∧ (∃ v6_, ldv false 1 h (Addr.add (Addr.add a5_ (Int.toNat x9 * 3)) 1) = some v6_ ∧ ∃ A7_, ∃ n7_, ∃ c7_, v6_ = (Value.slice A7_ n7_ c7_) ∧ ∃ v8_, ldv false 1 h (Addr.add a8 2) = some v8_ ∧ ∃ A9_, ∃ n9_, ∃ c9_, v8_ = (Value.slice A9_ n9_ c9_) ∧ splitB (((n7_ : Nat) : Int) != ((n9_ : Nat) : Int)) (R (Value.int .i64 (13 : Int)) h) (f27.l0 R A1 n1 c1 a3 A7 n7 c7 h))) (f27.l0 R A1 n1 c1 a3 A7 n7 c7 h))
set_option maxRecDepth 100000 in
theorem f27.j0_in {R : Value → Heap → Prop} {A1 : Option Addr} {n1 : Nat} {c1 : Nat} {a3 : Addr} {A7 : Option Addr} {n7 : Nat} {c7 : Nat} {a8 : Addr} {x9 : Int} {b28 : Bool} {h : Heap} (H : f27.j0T R A1 n1 c1 a3 A7 n7 c7 a8 x9 b28 h) : f27.j0 R A1 n1 c1 a3 A7 n7 c7 a8 x9 b28 h :=
  pt_intro mixed f27.good (Eq.mpr (show (Fwd Tryd.prog f27.T f27.kp Tryd.f27 R [true, false, true, true, true, false, true, false, false, false, true, true] (mkFr [(1, (Value.slice A1 n1 c1)), (3, (Value.pointer (some a3))), (7, (Value.slice A7 n7 c7)), (8, (Value.pointer (some a8))), (9, (Value.int .i64 x9)), (28, (Value.bool b28))]) h) = (f27.j0T R A1 n1 c1 a3 A7 n7 c7 a8 x9 b28 h) by kernel_rfl) H)
set_option maxRecDepth 100000 in
def f27.runT (R : Value → Heap → Prop) (v0 : Value) (A1 : Option Addr) (n1 : Nat) (c1 : Nat) (A2 : Option Addr) (n2 : Nat) (c2 : Nat) (h : Heap) : Prop :=
  newH h (Obj.cells ((v0).cells) 54) fun h1_ => Run Tryd.prog 42 #[(Value.slice A2 n2 c2)] h1_ fun v2_ h3_ => ∃ A4_, ∃ n4_, ∃ c4_, v2_ = (Value.slice A4_ n4_ c4_) ∧ f27.l0 R A1 n1 c1 (⟨Array.size h, 0, none⟩) A4_ n4_ c4_ h3_
set_option maxRecDepth 100000 in
theorem f27.run {R : Value → Heap → Prop} {v0 : Value} {A1 : Option Addr} {n1 : Nat} {c1 : Nat} {A2 : Option Addr} {n2 : Nat} {c2 : Nat} {h : Heap} (H : f27.runT R v0 A1 n1 c1 A2 n2 c2 h) : Run Tryd.prog 27 #[v0, (Value.slice A1 n1 c1), (Value.slice A2 n2 c2)] h R :=
  run_of mixed Tryd.func27 (by kernel_rfl) (by kernel_rfl) f27.good (Eq.mpr (show (Fwd Tryd.prog f27.T f27.kp Tryd.f27 R [] (mkFr (argL [v0, (Value.slice A1 n1 c1), (Value.slice A2 n2 c2)] 0)) h) = (f27.runT R v0 A1 n1 c1 A2 n2 c2 h) by kernel_rfl) H)
def f46.T : Tab := { sh := tSh, tup := tTup, keep := [], plan := [] }
def f46.kp : Keep := [([false, false, true, false, true], [1, 3, 6, 11, 12, 13])]
theorem f46.good : goodCode Tryd.prog f46.T (rootOf Tryd.f46) = true := by kernel_rfl
def f46.l0 (R : Value → Heap → Prop) (A1 : Option Addr) (n1 : Nat) (c1 : Nat) (a3 : Addr) (a6 : Addr) (A11 : Option Addr) (n11 : Nat) (c11 : Nat) (x12 : Int) (x13 : Int) (h : Heap) : Prop := Pt Tryd.prog Tryd.f46 R [false, false, true, false, true] (mkFr [(1, (Value.slice A1 n1 c1)), (3, (Value.pointer (some a3))), (6, (Value.pointer (some a6))), (11, (Value.slice A11 n11 c11)), (12, (Value.int .i64 x12)), (13, (Value.int .i64 x13))]) h
set_option maxRecDepth 100000 in
def f46.l0T (R : Value → Heap → Prop) (A1 : Option Addr) (n1 : Nat) (c1 : Nat) (a3 : Addr) (a6 : Addr) (A11 : Option Addr) (n11 : Nat) (c11 : Nat) (x12 : Int) (x13 : Int) (h : Heap) : Prop :=
  splitB (decide (x13 < x12)) (ptrOk A11 fun a1_ => 0 ≤ x13 ∧ x13 < ((n11 : Nat) : Int) ∧ (∃ v2_, ldv true 8 h (Addr.add a1_ (Int.toNat x13 * 8)) = some v2_ ∧ newH h (Obj.cells #[(Value.int .i64 (0 : Int)), (Value.int .i64 (0 : Int)), (Value.string (ByteArray.mk #[])), (Value.slice none 0 0), (Value.slice none 0 0), (Value.slice none 0 0), (Value.slice none 0 0), (Value.int .i64 (0 : Int))] 87) fun h3_ => ∃ l5_ : List Value, v2_ = Value.agg l5_.toArray ∧ l5_.length = 8 ∧ ∃ h4_, stH h3_ (⟨Array.size h, 0, none⟩) l5_ 0 = some h4_ ∧ ∃ v6_, ldv true 8 h4_ a3 = some v6_ ∧ ∃ v7_, ldv false 1 h4_ (Addr.add (⟨Array.size h, 0, none⟩) 4) = some v7_ ∧ ∃ A8_, ∃ n8_, ∃ c8_, v7_ = (Value.slice A8_ n8_ c8_) ∧ Run Tryd.prog 27 #[v6_, (Value.slice A1 n1 c1), (Value.slice A8_ n8_ c8_)] h4_ fun v9_ h10_ => ∃ x11_, v9_ = (Value.int .i64 x11_) ∧ splitB (x11_ != (0 : Int)) (∃ v12_, ldv false 1 h10_ (Addr.add (⟨Array.size h, 0, none⟩) 7) = some v12_ ∧ ∃ x13_, v12_ = (Value.int .i64 x13_) ∧ ∃ l15_ : List Value, (Value.agg #[(Value.int .i64 x11_), (Value.int .i64 x13_)]) = Value.agg l15_.toArray ∧ l15_.length = 2 ∧ ∃ h14_, stH h10_ a6 l15_ 0 = some h14_ ∧ ∃ v16_, ldv true 2 h14_ a6 = some v16_ ∧ R v16_ h14_) (f46.l0 R A1 n1 c1 a3 a6 A11 n11 c11 x12 (IntKind.wrap .i64 (x13 + (1 : Int))) h10_))) (∃ l18_ : List Value, (Value.agg #[(Value.int .i64 (0 : Int)), (Value.int .i64 (0 : Int))]) = Value.agg l18_.toArray ∧ l18_.length = 2 ∧ ∃ h17_, stH h a6 l18_ 0 = some h17_ ∧ ∃ v19_, ldv true 2 h17_ a6 = some v19_ ∧ R v19_ h17_)
set_option maxRecDepth 100000 in
theorem f46.l0_in {R : Value → Heap → Prop} {A1 : Option Addr} {n1 : Nat} {c1 : Nat} {a3 : Addr} {a6 : Addr} {A11 : Option Addr} {n11 : Nat} {c11 : Nat} {x12 : Int} {x13 : Int} {h : Heap} (H : f46.l0T R A1 n1 c1 a3 a6 A11 n11 c11 x12 x13 h) : f46.l0 R A1 n1 c1 a3 a6 A11 n11 c11 x12 x13 h :=
  pt_intro mixed f46.good (Eq.mpr (show (Fwd Tryd.prog f46.T f46.kp Tryd.f46 R [false, false, true, false, true] (mkFr [(1, (Value.slice A1 n1 c1)), (3, (Value.pointer (some a3))), (6, (Value.pointer (some a6))), (11, (Value.slice A11 n11 c11)), (12, (Value.int .i64 x12)), (13, (Value.int .i64 x13))]) h) = (f46.l0T R A1 n1 c1 a3 a6 A11 n11 c11 x12 x13 h) by kernel_rfl) H)
set_option maxRecDepth 100000 in
def f46.runT (R : Value → Heap → Prop) (v0 : Value) (A1 : Option Addr) (n1 : Nat) (c1 : Nat) (v2 : Value) (h : Heap) : Prop :=
  newH h (Obj.cells ((v0).cells) 54) fun h1_ => newH h1_ (Obj.cells ((v2).cells) 87) fun h2_ => newH h2_ (Obj.cells #[(Value.int .i64 (0 : Int)), (Value.int .i64 (0 : Int))] 59) fun h3_ => ∃ v4_, ldv true 8 h3_ (⟨Array.size h1_, 0, none⟩) = some v4_ ∧ Run Tryd.prog 53 #[v4_] h3_ fun v5_ h6_ => ∃ A7_, ∃ n7_, ∃ c7_, v5_ = (Value.slice A7_ n7_ c7_) ∧ f46.l0 R A1 n1 c1 (⟨Array.size h, 0, none⟩) (⟨Array.size h2_, 0, none⟩) A7_ n7_ c7_ ((n7_ : Nat) : Int) (0 : Int) h6_
set_option maxRecDepth 100000 in
theorem f46.run {R : Value → Heap → Prop} {v0 : Value} {A1 : Option Addr} {n1 : Nat} {c1 : Nat} {v2 : Value} {h : Heap} (H : f46.runT R v0 A1 n1 c1 v2 h) : Run Tryd.prog 46 #[v0, (Value.slice A1 n1 c1), v2] h R :=
  run_of mixed Tryd.func46 (by kernel_rfl) (by kernel_rfl) f46.good (Eq.mpr (show (Fwd Tryd.prog f46.T f46.kp Tryd.f46 R [] (mkFr (argL [v0, (Value.slice A1 n1 c1), v2] 0)) h) = (f46.runT R v0 A1 n1 c1 v2 h) by kernel_rfl) H)
def f67.T : Tab := { sh := tSh, tup := tTup, keep := [], plan := [] }
def f67.kp : Keep := [([true, true], [0, 1])]
theorem f67.good : goodCode Tryd.prog f67.T (rootOf Tryd.f67) = true := by kernel_rfl
def f67.j0 (R : Value → Heap → Prop) (A0 : Option Addr) (n0 : Nat) (c0 : Nat) (x1 : Int) (h : Heap) : Prop := Pt Tryd.prog Tryd.f67 R [true, true] (mkFr [(0, (Value.slice A0 n0 c0)), (1, (Value.int .i64 x1))]) h
set_option maxRecDepth 100000 in
def f67.j0T (R : Value → Heap → Prop) (A0 : Option Addr) (n0 : Nat) (c0 : Nat) (x1 : Int) (h : Heap) : Prop :=
  splitB (decide ((IntKind.wrap .i64 (x1 - (IntKind.wrap .i64 (((c0 : Nat) : Int) - ((n0 : Nat) : Int))))) > (0 : Int))) (0 ≤ (0 : Int) ∧ (0 : Int) ≤ ((c0 : Nat) : Int) ∧ ((c0 : Nat) : Int) ≤ ((c0 : Nat) : Int) ∧ (AppZ 9 1 16 #[(Value.string (ByteArray.mk #[]))] (sliceA A0 (Int.toNat (0 : Int)) c0 1) (Int.toNat ((c0 : Nat) : Int) - Int.toNat (0 : Int)) (c0 - Int.toNat (0 : Int)) (Value.int .i64 (IntKind.wrap .i64 (x1 - (IntKind.wrap .i64 (((c0 : Nat) : Int) - ((n0 : Nat) : Int)))))) h fun v1_ h2_ => ∃ A3_, ∃ n3_, ∃ c3_, v1_ = (Value.slice A3_ n3_ c3_) ∧ 0 ≤ (0 : Int) ∧ (0 : Int) ≤ ((n0 : Nat) : Int) ∧ ((n0 : Nat) : Int) ≤ ((c3_ : Nat) : Int) ∧ (R (Value.slice (sliceA A3_ (Int.toNat (0 : Int)) c3_ 1) (Int.toNat ((n0 : Nat) : Int) - Int.toNat (0 : Int)) (c3_ - Int.toNat (0 : Int))) h2_))) (R (Value.slice A0 n0 c0) h)
set_option maxRecDepth 100000 in
theorem f67.j0_in {R : Value → Heap → Prop} {A0 : Option Addr} {n0 : Nat} {c0 : Nat} {x1 : Int} {h : Heap} (H : f67.j0T R A0 n0 c0 x1 h) : f67.j0 R A0 n0 c0 x1 h :=
  pt_intro mixed f67.good (Eq.mpr (show (Fwd Tryd.prog f67.T f67.kp Tryd.f67 R [true, true] (mkFr [(0, (Value.slice A0 n0 c0)), (1, (Value.int .i64 x1))]) h) = (f67.j0T R A0 n0 c0 x1 h) by kernel_rfl) H)
set_option maxRecDepth 100000 in
def f67.runT (R : Value → Heap → Prop) (A0 : Option Addr) (n0 : Nat) (c0 : Nat) (x1 : Int) (h : Heap) : Prop :=
  splitB (decide (x1 < (0 : Int))) (Gen Tryd.prog (Instr.makeInterface 9 (Value.string (ByteArray.mk #[99, 97, 110, 110, 111, 116, 32, 98, 101, 32, 110, 101, 103, 97, 116, 105, 118, 101]))) h fun v1_ h2_ => False) (f67.j0 R A0 n0 c0 x1 h)
set_option maxRecDepth 100000 in
theorem f67.run {R : Value → Heap → Prop} {A0 : Option Addr} {n0 : Nat} {c0 : Nat} {x1 : Int} {h : Heap} (H : f67.runT R A0 n0 c0 x1 h) : Run Tryd.prog 67 #[(Value.slice A0 n0 c0), (Value.int .i64 x1)] h R :=
  run_of mixed Tryd.func67 (by kernel_rfl) (by kernel_rfl) f67.good (Eq.mpr (show (Fwd Tryd.prog f67.T f67.kp Tryd.f67 R [] (mkFr (argL [(Value.slice A0 n0 c0), (Value.int .i64 x1)] 0)) h) = (f67.runT R A0 n0 c0 x1 h) by kernel_rfl) H)
def f57.T : Tab := { sh := tSh, tup := tTup, keep := [], plan := [] }
def f57.kp : Keep := [([false, false, true, false, true, true], [0, 3, 9, 10, 11]), ([false, false, true, false, true, true, true, true], [6, 25, 26, 27])]
theorem f57.good : goodCode Tryd.prog f57.T (rootOf Tryd.f57) = true := by kernel_rfl
def f57.l0 (R : Value → Heap → Prop) (A0 : Option Addr) (n0 : Nat) (c0 : Nat) (x3 : Int) (A9 : Option Addr) (n9 : Nat) (c9 : Nat) (x10 : Int) (x11 : Int) (h : Heap) : Prop := Pt Tryd.prog Tryd.f57 R [false, false, true, false, true, true] (mkFr [(0, (Value.slice A0 n0 c0)), (3, (Value.int .i64 x3)), (9, (Value.slice A9 n9 c9)), (10, (Value.int .i64 x10)), (11, (Value.int .i64 x11))]) h
def f57.l1 (R : Value → Heap → Prop) (A6 : Option Addr) (n6 : Nat) (c6 : Nat) (A25 : Option Addr) (n25 : Nat) (c25 : Nat) (x26 : Int) (x27 : Int) (h : Heap) : Prop := Pt Tryd.prog Tryd.f57 R [false, false, true, false, true, true, true, true] (mkFr [(6, (Value.slice A6 n6 c6)), (25, (Value.slice A25 n25 c25)), (26, (Value.int .i64 x26)), (27, (Value.int .i64 x27))]) h
set_option maxRecDepth 100000 in
def f57.l0T (R : Value → Heap → Prop) (A0 : Option Addr) (n0 : Nat) (c0 : Nat) (x3 : Int) (A9 : Option Addr) (n9 : Nat) (c9 : Nat) (x10 : Int) (x11 : Int) (h : Heap) : Prop :=
  splitB (decide (x11 < x10)) (ptrOk A9 fun a1_ => 0 ≤ x11 ∧ x11 < ((n9 : Nat) : Int) ∧ (∃ v2_, ldv false 1 h (Addr.add a1_ (Int.toNat x11 * 1)) = some v2_ ∧ ∃ A3_, ∃ n3_, ∃ c3_, v2_ = (Value.slice A3_ n3_ c3_) ∧ splitB (decide ((IntKind.wrap .i64 (x3 + ((n3_ : Nat) : Int))) < (0 : Int))) (Gen Tryd.prog (Instr.makeInterface 9 (Value.string (ByteArray.mk #[108, 101, 110, 32, 111, 117, 116, 32, 111, 102, 32, 114, 97, 110, 103, 101]))) h fun v4_ h5_ => False) (f57.l0 R A0 n0 c0 (IntKind.wrap .i64 (x3 + ((n3_ : Nat) : Int))) A9 n9 c9 x10 (IntKind.wrap .i64 (x11 + (1 : Int))) h))) (Run Tryd.prog 67 #[(Value.slice none 0 0), (Value.int .i64 x3)] h fun v6_ h7_ => ∃ A8_, ∃ n8_, ∃ c8_, v6_ = (Value.slice A8_ n8_ c8_) ∧ f57.l1 R A8_ n8_ c8_ A0 n0 c0 ((n0 : Nat) : Int) (0 : Int) h7_)
set_option maxRecDepth 100000 in
theorem f57.l0_in {R : Value → Heap → Prop} {A0 : Option Addr} {n0 : Nat} {c0 : Nat} {x3 : Int} {A9 : Option Addr} {n9 : Nat} {c9 : Nat} {x10 : Int} {x11 : Int} {h : Heap} (H : f57.l0T R A0 n0 c0 x3 A9 n9 c9 x10 x11 h) : f57.l0 R A0 n0 c0 x3 A9 n9 c9 x10 x11 h :=
  pt_intro mixed f57.good (Eq.mpr (show (Fwd Tryd.prog f57.T f57.kp Tryd.f57 R [false, false, true, false, true, true] (mkFr [(0, (Value.slice A0 n0 c0)), (3, (Value.int .i64 x3)), (9, (Value.slice A9 n9 c9)), (10, (Value.int .i64 x10)), (11, (Value.int .i64 x11))]) h) = (f57.l0T R A0 n0 c0 x3 A9 n9 c9 x10 x11 h) by kernel_rfl) H)
set_option maxRecDepth 100000 in
def f57.l1T (R : Value → Heap → Prop) (A6 : Option Addr) (n6 : Nat) (c6 : Nat) (A25 : Option Addr) (n25 : Nat) (c25 : Nat) (x26 : Int) (x27 : Int) (h : Heap) : Prop :=
  splitB (decide (x27 < x26)) (ptrOk A25 fun a1_ => 0 ≤ x27 ∧ x27 < ((n25 : Nat) : Int) ∧ (∃ v2_, ldv false 1 h (Addr.add a1_ (Int.toNat x27 * 1)) = some v2_ ∧ ∃ A3_, ∃ n3_, ∃ c3_, v2_ = (Value.slice A3_ n3_ c3_) ∧ AppW 9 1 16 #[(Value.string (ByteArray.mk #[]))] A6 n6 c6 (Value.slice A3_ n3_ c3_) h fun v4_ h5_ => ∃ A6_, ∃ n6_, ∃ c6_, v4_ = (Value.slice A6_ n6_ c6_) ∧ f57.l1 R A6_ n6_ c6_ A25 n25 c25 x26 (IntKind.wrap .i64 (x27 + (1 : Int))) h5_)) (R (Value.slice A6 n6 c6) h)
set_option maxRecDepth 100000 in
theorem f57.l1_in {R : Value → Heap → Prop} {A6 : Option Addr} {n6 : Nat} {c6 : Nat} {A25 : Option Addr} {n25 : Nat} {c25 : Nat} {x26 : Int} {x27 : Int} {h : Heap} (H : f57.l1T R A6 n6 c6 A25 n25 c25 x26 x27 h) : f57.l1 R A6 n6 c6 A25 n25 c25 x26 x27 h :=
  pt_intro mixed f57.good (Eq.mpr (show (Fwd Tryd.prog f57.T f57.kp Tryd.f57 R [false, false, true, false, true, true, true, true] (mkFr [(6, (Value.slice A6 n6 c6)), (25, (Value.slice A25 n25 c25)), (26, (Value.int .i64 x26)), (27, (Value.int .i64 x27))]) h) = (f57.l1T R A6 n6 c6 A25 n25 c25 x26 x27 h) by kernel_rfl) H)
set_option maxRecDepth 100000 in
def f57.runT (R : Value → Heap → Prop) (A0 : Option Addr) (n0 : Nat) (c0 : Nat) (h : Heap) : Prop :=
  f57.l0 R A0 n0 c0 (0 : Int) A0 n0 c0 ((n0 : Nat) : Int) (0 : Int) h
set_option maxRecDepth 100000 in
theorem f57.run {R : Value → Heap → Prop} {A0 : Option Addr} {n0 : Nat} {c0 : Nat} {h : Heap} (H : f57.runT R A0 n0 c0 h) : Run Tryd.prog 57 #[(Value.slice A0 n0 c0)] h R :=
  run_of mixed Tryd.func57 (by kernel_rfl) (by kernel_rfl) f57.good (Eq.mpr (show (Fwd Tryd.prog f57.T f57.kp Tryd.f57 R [] (mkFr (argL [(Value.slice A0 n0 c0)] 0)) h) = (f57.runT R A0 n0 c0 h) by kernel_rfl) H)
def f44.T : Tab := { sh := tSh, tup := tTup, keep := [], plan := [(2, (.take 1 (.take 2 (.take 4 (.take 0 (.take 3 (.take 5 (.eff true 6 (.eff true 7 (.eff true 8 (.eff false 9 (.take 10 .done))))))))))))] }
def f44.kp : Keep := []
theorem f44.good : goodCode Tryd.prog f44.T (rootOf Tryd.f44) = true := by kernel_rfl
set_option maxRecDepth 100000 in
def f44.runT (R : Value → Heap → Prop) (v0 : Value) (A1 : Option Addr) (n1 : Nat) (c1 : Nat) (v2 : Value) (h : Heap) : Prop :=
  newH h (Obj.cells ((v0).cells) 54) fun h1_ => newH h1_ (Obj.cells ((v2).cells) 101) fun h2_ => newH h2_ (Obj.cells #[(Value.int .i64 (0 : Int)), (Value.int .i64 (0 : Int))] 59) fun h3_ => ∃ v4_, ldv false 1 h3_ (Addr.add (⟨Array.size h1_, 0, none⟩) 1) = some v4_ ∧ ∃ A5_, ∃ n5_, ∃ c5_, v4_ = (Value.slice A5_ n5_ c5_) ∧ newH h3_ (Obj.cells #[(Value.slice A1 n1 c1), (Value.slice A5_ n5_ c5_)] 22) fun h6_ => Run Tryd.prog 57 #[(Value.slice (some ⟨Array.size h3_, 0, none⟩) 2 2)] h6_ fun v7_ h8_ => ∃ A9_, ∃ n9_, ∃ c9_, v7_ = (Value.slice A9_ n9_ c9_) ∧ ∃ v10_, ldv true 8 h8_ (⟨Array.size h, 0, none⟩) = some v10_ ∧ ∃ v11_, ldv false 1 h8_ (Addr.add (⟨Array.size h1_, 0, none⟩) 3) = some v11_ ∧ ∃ A12_, ∃ n12_, ∃ c12_, v11_ = (Value.slice A12_ n12_ c12_) ∧ ∃ v13_, ldv true 3 h8_ (Addr.add (⟨Array.size h1_, 0, none⟩) 4) = some v13_ ∧ ∃ l14_ : List Value, v13_ = Value.agg l14_.toArray ∧ l14_.length = 3 ∧ (newH h8_ (Obj.cells ((List.take 0 ([(Value.int .i64 (0 : Int)), (Value.string (ByteArray.mk #[])), (Value.slice none 0 0)]) ++ l14_ ++ List.drop 3 ([(Value.int .i64 (0 : Int)), (Value.string (ByteArray.mk #[])), (Value.slice none 0 0)])).toArray) 25) fun h15_ => Ext h8_ h15_ ∧ (newH h15_ (Obj.cells #[(Value.slice A12_ n12_ c12_), (Value.slice (some ⟨Array.size h8_, 0, none⟩) 1 1)] 23) fun h16_ => Ext h15_ h16_ ∧ (Run Tryd.prog 31 #[(Value.slice (some ⟨Array.size h15_, 0, none⟩) 2 2)] h16_ fun v17_ h18_ => ∃ A19_, ∃ n19_, ∃ c19_, v17_ = (Value.slice A19_ n19_ c19_) ∧ Ext h16_ h18_ ∧ (Run Tryd.prog 27 #[v10_, (Value.slice A9_ n9_ c9_), (Value.slice A19_ n19_ c19_)] h18_ fun v20_ h21_ => ∃ x22_, v20_ = (Value.int .i64 x22_) ∧ splitB (x22_ != (0 : Int)) (∃ l24_ : List Value, (Value.agg #[(Value.int .i64 x22_), (Value.int .i64 (0 : Int))]) = Value.agg l24_.toArray ∧ l24_.length = 2 ∧ ∃ h23_, stH h21_ (⟨Array.size h2_, 0, none⟩) l24_ 0 = some h23_ ∧ ∃ v25_, ldv true 2 h23_ (⟨Array.size h2_, 0, none⟩) = some v25_ ∧ R v25_ h23_) (∃ v26_, ldv false 1 h21_ (Addr.add (⟨Array.size h1_, 0, none⟩) 7) = some v26_ ∧ ∃ x27_, v26_ = (Value.int .i64 x27_) ∧ splitB (x27_ == (0 : Int)) (∃ l29_ : List Value, (Value.agg #[(Value.int .i64 (0 : Int)), (Value.int .i64 (0 : Int))]) = Value.agg l29_.toArray ∧ l29_.length = 2 ∧ ∃ h28_, stH h21_ (⟨Array.size h2_, 0, none⟩) l29_ 0 = some h28_ ∧ ∃ v30_, ldv true 2 h28_ (⟨Array.size h2_, 0, none⟩) = some v30_ ∧ R v30_ h28_) (∃ v31_, ldv true 8 h21_ (⟨Array.size h, 0, none⟩) = some v31_ ∧ ∃ v32_, ldv true 8 h21_ (Addr.add (⟨Array.size h1_, 0, none⟩) 7) = some v32_ ∧ Run Tryd.prog 46 #[v31_, (Value.slice A9_ n9_ c9_), v32_] h21_ fun v33_ h34_ => ∃ l36_ : List Value, v33_ = Value.agg l36_.toArray ∧ l36_.length = 2 ∧ ∃ h35_, stH h34_ (⟨Array.size h2_, 0, none⟩) l36_ 0 = some h35_ ∧ ∃ v37_, ldv true 2 h35_ (⟨Array.size h2_, 0, none⟩) = some v37_ ∧ R v37_ h35_))))))
set_option maxRecDepth 100000 in
theorem f44.run {R : Value → Heap → Prop} {v0 : Value} {A1 : Option Addr} {n1 : Nat} {c1 : Nat} {v2 : Value} {h : Heap} (H : f44.runT R v0 A1 n1 c1 v2 h) : Run Tryd.prog 44 #[v0, (Value.slice A1 n1 c1), v2] h R :=
  run_of mixed Tryd.func44 (by kernel_rfl) (by kernel_rfl) f44.good (Eq.mpr (show (Fwd Tryd.prog f44.T f44.kp Tryd.f44 R [] (mkFr (argL [v0, (Value.slice A1 n1 c1), v2] 0)) h) = (f44.runT R v0 A1 n1 c1 v2 h) by kernel_rfl) H)
def f22.T : Tab := { sh := tSh, tup := tTup, keep := [], plan := [(33, (.take 1 (.take 3 (.take 0 (.take 2 (.take 4 (.eff true 5 (.eff true 6 (.eff true 7 (.eff false 8 (.take 9 .done)))))))))))] }
def f22.kp : Keep := [([false, false, true, false, true], [1, 2, 21, 22, 23]), ([false, false, true, true, false, false, true, true, false, false, true, false, true], [1, 2, 4, 21, 22, 23, 28, 29, 30]), ([false, false, true, false, true, true], [1, 2, 47, 48, 49]), ([false, false, true, true, false, false, true, true, false, false, true, false, true, true], [1, 2, 47, 48, 49, 54, 55, 56]), ([false, false, true, false, true, true, true], [1, 2, 71, 72, 73]), ([false, false, true, false, true, true, true, true], [1, 2, 86, 87, 88])]
theorem f22.good : goodCode Tryd.prog f22.T (rootOf Tryd.f22) = true := by kernel_rfl
def f22.l0 (R : Value → Heap → Prop) (a1 : Addr) (a2 : Addr) (A21 : Option Addr) (n21 : Nat) (c21 : Nat) (x22 : Int) (x23 : Int) (h : Heap) : Prop := Pt Tryd.prog Tryd.f22 R [false, false, true, false, true] (mkFr [(1, (Value.pointer (some a1))), (2, (Value.pointer (some a2))), (21, (Value.slice A21 n21 c21)), (22, (Value.int .i64 x22)), (23, (Value.int .i64 x23))]) h
def f22.l4 (R : Value → Heap → Prop) (a1 : Addr) (a2 : Addr) (a4 : Addr) (A21 : Option Addr) (n21 : Nat) (c21 : Nat) (x22 : Int) (x23 : Int) (A28 : Option Addr) (n28 : Nat) (c28 : Nat) (x29 : Int) (x30 : Int) (h : Heap) : Prop := Pt Tryd.prog Tryd.f22 R [false, false, true, true, false, false, true, true, false, false, true, false, true] (mkFr [(1, (Value.pointer (some a1))), (2, (Value.pointer (some a2))), (4, (Value.pointer (some a4))), (21, (Value.slice A21 n21 c21)), (22, (Value.int .i64 x22)), (23, (Value.int .i64 x23)), (28, (Value.slice A28 n28 c28)), (29, (Value.int .i64 x29)), (30, (Value.int .i64 x30))]) h
def f22.l1 (R : Value → Heap → Prop) (a1 : Addr) (a2 : Addr) (A47 : Option Addr) (n47 : Nat) (c47 : Nat) (x48 : Int) (x49 : Int) (h : Heap) : Prop := Pt Tryd.prog Tryd.f22 R [false, false, true, false, true, true] (mkFr [(1, (Value.pointer (some a1))), (2, (Value.pointer (some a2))), (47, (Value.slice A47 n47 c47)), (48, (Value.int .i64 x48)), (49, (Value.int .i64 x49))]) h
def f22.l5 (R : Value → Heap → Prop) (a1 : Addr) (a2 : Addr) (A47 : Option Addr) (n47 : Nat) (c47 : Nat) (x48 : Int) (x49 : Int) (A54 : Option Addr) (n54 : Nat) (c54 : Nat) (x55 : Int) (x56 : Int) (h : Heap) : Prop := Pt Tryd.prog Tryd.f22 R [false, false, true, true, false, false, true, true, false, false, true, false, true, true] (mkFr [(1, (Value.pointer (some a1))), (2, (Value.pointer (some a2))), (47, (Value.slice A47 n47 c47)), (48, (Value.int .i64 x48)), (49, (Value.int .i64 x49)), (54, (Value.slice A54 n54 c54)), (55, (Value.int .i64 x55)), (56, (Value.int .i64 x56))]) h
def f22.l2 (R : Value → Heap → Prop) (a1 : Addr) (a2 : Addr) (A71 : Option Addr) (n71 : Nat) (c71 : Nat) (x72 : Int) (x73 : Int) (h : Heap) : Prop := Pt Tryd.prog Tryd.f22 R [false, false, true, false, true, true, true] (mkFr [(1, (Value.pointer (some a1))), (2, (Value.pointer (some a2))), (71, (Value.slice A71 n71 c71)), (72, (Value.int .i64 x72)), (73, (Value.int .i64 x73))]) h
def f22.l3 (R : Value → Heap → Prop) (a1 : Addr) (a2 : Addr) (A86 : Option Addr) (n86 : Nat) (c86 : Nat) (x87 : Int) (x88 : Int) (h : Heap) : Prop := Pt Tryd.prog Tryd.f22 R [false, false, true, false, true, true, true, true] (mkFr [(1, (Value.pointer (some a1))), (2, (Value.pointer (some a2))), (86, (Value.slice A86 n86 c86)), (87, (Value.int .i64 x87)), (88, (Value.int .i64 x88))]) h
set_option maxRecDepth 100000 in
def f22.l0T (R : Value → Heap → Prop) (a1 : Addr) (a2 : Addr) (A21 : Option Addr) (n21 : Nat) (c21 : Nat) (x22 : Int) (x23 : Int) (h : Heap) : Prop :=
  splitB (decide (x23 < x22)) (ptrOk A21 fun a1_ => 0 ≤ x23 ∧ x23 < ((n21 : Nat) : Int) ∧ (∃ v2_, ldv true 3 h (Addr.add a1_ (Int.toNat x23 * 3)) = some v2_ ∧ newH h (Obj.cells #[(Value.string (ByteArray.mk #[])), (Value.slice none 0 0), (Value.slice none 0 0)] 63) fun h3_ => ∃ l5_ : List Value, v2_ = Value.agg l5_.toArray ∧ l5_.length = 3 ∧ ∃ h4_, stH h3_ (⟨Array.size h, 0, none⟩) l5_ 0 = some h4_ ∧ ∃ v6_, ldv false 1 h4_ (Addr.add (⟨Array.size h, 0, none⟩) 2) = some v6_ ∧ ∃ A7_, ∃ n7_, ∃ c7_, v6_ = (Value.slice A7_ n7_ c7_) ∧ f22.l4 R a1 a2 (⟨Array.size h, 0, none⟩) A21 n21 c21 x22 x23 A7_ n7_ c7_ ((n7_ : Nat) : Int) (0 : Int) h4_)) (∃ v8_, ldv false 1 h (Addr.add a1 4) = some v8_ ∧ ∃ A9_, ∃ n9_, ∃ c9_, v8_ = (Value.slice A9_ n9_ c9_) ∧ f22.l1 R a1 a2 A9_ n9_ c9_ ((n9_ : Nat) : Int) (0 : Int) h)
set_option maxRecDepth 100000 in
theorem f22.l0_in {R : Value → Heap → Prop} {a1 : Addr} {a2 : Addr} {A21 : Option Addr} {n21 : Nat} {c21 : Nat} {x22 : Int} {x23 : Int} {h : Heap} (H : f22.l0T R a1 a2 A21 n21 c21 x22 x23 h) : f22.l0 R a1 a2 A21 n21 c21 x22 x23 h :=
  pt_intro mixed f22.good (Eq.mpr (show (Fwd Tryd.prog f22.T f22.kp Tryd.f22 R [false, false, true, false, true] (mkFr [(1, (Value.pointer (some a1))), (2, (Value.pointer (some a2))), (21, (Value.slice A21 n21 c21)), (22, (Value.int .i64 x22)), (23, (Value.int .i64 x23))]) h) = (f22.l0T R a1 a2 A21 n21 c21 x22 x23 h) by kernel_rfl) H)
set_option maxRecDepth 100000 in
def f22.l4T (R : Value → Heap → Prop) (a1 : Addr) (a2 : Addr) (a4 : Addr) (A21 : Option Addr) (n21 : Nat) (c21 : Nat) (x22 : Int) (x23 : Int) (A28 : Option Addr) (n28 : Nat) (c28 : Nat) (x29 : Int) (x30 : Int) (h : Heap) : Prop :=
  splitB (decide (x30 < x29)) (ptrOk A28 fun a1_ => 0 ≤ x30 ∧ x30 < ((n28 : Nat) : Int) ∧ (∃ v2_, ldv true 2 h (Addr.add a1_ (Int.toNat x30 * 2)) = some v2_ ∧ newH h (Obj.cells #[(Value.string (ByteArray.mk #[])), (Value.slice none 0 0)] 90) fun h3_ => ∃ l5_ : List Value, v2_ = Value.agg l5_.toArray ∧ l5_.length = 2 ∧ ∃ h4_, stH h3_ (⟨Array.size h, 0, none⟩) l5_ 0 = some h4_ ∧ ∃ v6_, ldv true 8 h4_ a1 = some v6_ ∧ ∃ v7_, ldv false 1 h4_ (Addr.add a4 1) = some v7_ ∧ ∃ A8_, ∃ n8_, ∃ c8_, v7_ = (Value.slice A8_ n8_ c8_) ∧ ∃ v9_, ldv false 1 h4_ (Addr.add (⟨Array.size h, 0, none⟩) 1) = some v9_ ∧ ∃ A10_, ∃ n10_, ∃ c10_, v9_ = (Value.slice A10_ n10_ c10_) ∧ Run Tryd.prog 27 #[v6_, (Value.slice A8_ n8_ c8_), (Value.slice A10_ n10_ c10_)] h4_ fun v11_ h12_ => ∃ x13_, v11_ = (Value.int .i64 x13_) ∧ splitB (x13_ != (0 : Int)) (∃ l15_ : List Value, (Value.agg #[(Value.int .i64 x13_), (Value.int .i64 (0 : Int))]) = Value.agg l15_.toArray ∧ l15_.length = 2 ∧ ∃ h14_, stH h12_ a2 l15_ 0 = some h14_ ∧ ∃ v16_, ldv true 2 h14_ a2 = some v16_ ∧ R v16_ h14_) (f22.l4 R a1 a2 a4 A21 n21 c21 x22 x23 A28 n28 c28 x29 (IntKind.wrap .i64 (x30 + (1 : Int))) h12_))) (f22.l0 R a1 a2 A21 n21 c21 x22 (IntKind.wrap .i64 (x23 + (1 : Int))) h)
set_option maxRecDepth 100000 in
theorem f22.l4_in {R : Value → Heap → Prop} {a1 : Addr} {a2 : Addr} {a4 : Addr} {A21 : Option Addr} {n21 : Nat} {c21 : Nat} {x22 : Int} {x23 : Int} {A28 : Option Addr} {n28 : Nat} {c28 : Nat} {x29 : Int} {x30 : Int} {h : Heap} (H : f22.l4T R a1 a2 a4 A21 n21 c21 x22 x23 A28 n28 c28 x29 x30 h) : f22.l4 R a1 a2 a4 A21 n21 c21 x22 x23 A28 n28 c28 x29 x30 h :=
  pt_intro mixed f22.good (Eq.mpr (show (Fwd Tryd.prog f22.T f22.kp Tryd.f22 R [false, false, true, true, false, false, true, true, false, false, true, false, true] (mkFr [(1, (Value.pointer (some a1))), (2, (Value.pointer (some a2))), (4, (Value.pointer (some a4))), (21, (Value.slice A21 n21 c21)), (22, (Value.int .i64 x22)), (23, (Value.int .i64 x23)), (28, (Value.slice A28 n28 c28)), (29, (Value.int .i64 x29)), (30, (Value.int .i64 x30))]) h) = (f22.l4T R a1 a2 a4 A21 n21 c21 x22 x23 A28 n28 c28 x29 x30 h) by kernel_rfl) H)
set_option maxRecDepth 100000 in
def f22.l1T (R : Value → Heap → Prop) (a1 : Addr) (a2 : Addr) (A47 : Option Addr) (n47 : Nat) (c47 : Nat) (x48 : Int) (x49 : Int) (h : Heap) : Prop :=
  splitB (decide (x49 < x48)) (ptrOk A47 fun a1_ => 0 ≤ x49 ∧ x49 < ((n47 : Nat) : Int) ∧ (∃ v2_, ldv true 2 h (Addr.add a1_ (Int.toNat x49 * 2)) = some v2_ ∧ newH h (Obj.cells #[(Value.string (ByteArray.mk #[])), (Value.slice none 0 0)] 92) fun h3_ => ∃ l5_ : List Value, v2_ = Value.agg l5_.toArray ∧ l5_.length = 2 ∧ ∃ h4_, stH h3_ (⟨Array.size h, 0, none⟩) l5_ 0 = some h4_ ∧ ∃ v6_, ldv false 1 h4_ (Addr.add (⟨Array.size h, 0, none⟩) 1) = some v6_ ∧ ∃ A7_, ∃ n7_, ∃ c7_, v6_ = (Value.slice A7_ n7_ c7_) ∧ f22.l5 R a1 a2 A47 n47 c47 x48 x49 A7_ n7_ c7_ ((n7_ : Nat) : Int) (0 : Int) h4_)) (∃ v8_, ldv true 8 h a1 = some v8_ ∧ Run Tryd.prog 45 #[v8_] h fun v9_ h10_ => ∃ A11_, ∃ n11_, ∃ c11_, v9_ = (Value.slice A11_ n11_ c11_) ∧ f22.l2 R a1 a2 A11_ n11_ c11_ ((n11_ : Nat) : Int) (0 : Int) h10_)
set_option maxRecDepth 100000 in
theorem f22.l1_in {R : Value → Heap → Prop} {a1 : Addr} {a2 : Addr} {A47 : Option Addr} {n47 : Nat} {c47 : Nat} {x48 : Int} {x49 : Int} {h : Heap} (H : f22.l1T R a1 a2 A47 n47 c47 x48 x49 h) : f22.l1 R a1 a2 A47 n47 c47 x48 x49 h :=
  pt_intro mixed f22.good (Eq.mpr (show (Fwd Tryd.prog f22.T f22.kp Tryd.f22 R [false, false, true, false, true, true] (mkFr [(1, (Value.pointer (some a1))), (2, (Value.pointer (some a2))), (47, (Value.slice A47 n47 c47)), (48, (Value.int .i64 x48)), (49, (Value.int .i64 x49))]) h) = (f22.l1T R a1 a2 A47 n47 c47 x48 x49 h) by kernel_rfl) H)
set_option maxRecDepth 100000 in
def f22.l5T (R : Value → Heap → Prop) (a1 : Addr) (a2 : Addr) (A47 : Option Addr) (n47 : Nat) (c47 : Nat) (x48 : Int) (x49 : Int) (A54 : Option Addr) (n54 : Nat) (c54 : Nat) (x55 : Int) (x56 : Int) (h : Heap) : Prop :=
  splitB (decide (x56 < x55)) (ptrOk A54 fun a1_ => 0 ≤ x56 ∧ x56 < ((n54 : Nat) : Int) ∧ (∃ v2_, ldv true 15 h (Addr.add a1_ (Int.toNat x56 * 15)) = some v2_ ∧ newH h (Obj.cells #[(Value.string (ByteArray.mk #[])), (Value.slice none 0 0), (Value.slice none 0 0), (Value.slice none 0 0), (Value.int .i64 (0 : Int)), (Value.string (ByteArray.mk #[])), (Value.slice none 0 0), (Value.int .i64 (0 : Int)), (Value.int .i64 (0 : Int)), (Value.string (ByteArray.mk #[])), (Value.slice none 0 0), (Value.slice none 0 0), (Value.slice none 0 0), (Value.slice none 0 0), (Value.int .i64 (0 : Int))] 101) fun h3_ => ∃ l5_ : List Value, v2_ = Value.agg l5_.toArray ∧ l5_.length = 15 ∧ ∃ h4_, stH h3_ (⟨Array.size h, 0, none⟩) l5_ 0 = some h4_ ∧ ∃ v6_, ldv true 8 h4_ a1 = some v6_ ∧ newH h4_ (Obj.cells #[(Value.string (ByteArray.mk #[115, 101, 108, 102]))] 9) fun h7_ => ∃ v8_, ldv true 15 h7_ (⟨Array.size h, 0, none⟩) = some v8_ ∧ Run Tryd.prog 44 #[v6_, (Value.slice (some ⟨Array.size h4_, 0, none⟩) 1 1), v8_] h7_ fun v9_ h10_ => newH h10_ (Obj.cells #[(Value.int .i64 (0 : Int)), (Value.int .i64 (0 : Int))] 59) fun h11_ => ∃ l13_ : List Value, v9_ = Value.agg l13_.toArray ∧ l13_.length = 2 ∧ ∃ h12_, stH h11_ (⟨Array.size h10_, 0, none⟩) l13_ 0 = some h12_ ∧ ∃ v14_, ldv false 1 h12_ (⟨Array.size h10_, 0, none⟩) = some v14_ ∧ ∃ x15_, v14_ = (Value.int .i64 x15_) ∧ splitB (x15_ != (0 : Int)) (∃ v16_, ldv true 2 h12_ (⟨Array.size h10_, 0, none⟩) = some v16_ ∧ ∃ l18_ : List Value, v16_ = Value.agg l18_.toArray ∧ l18_.length = 2 ∧ ∃ h17_, stH h12_ a2 l18_ 0 = some h17_ ∧ ∃ v19_, ldv true 2 h17_ a2 = some v19_ ∧ R v19_ h17_) (f22.l5 R a1 a2 A47 n47 c47 x48 x49 A54 n54 c54 x55 (IntKind.wrap .i64 (x56 + (1 : Int))) h12_))) (f22.l1 R a1 a2 A47 n47 c47 x48 (IntKind.wrap .i64 (x49 + (1 : Int))) h)
set_option maxRecDepth 100000 in
theorem f22.l5_in {R : Value → Heap → Prop} {a1 : Addr} {a2 : Addr} {A47 : Option Addr} {n47 : Nat} {c47 : Nat} {x48 : Int} {x49 : Int} {A54 : Option Addr} {n54 : Nat} {c54 : Nat} {x55 : Int} {x56 : Int} {h : Heap} (H : f22.l5T R a1 a2 A47 n47 c47 x48 x49 A54 n54 c54 x55 x56 h) : f22.l5 R a1 a2 A47 n47 c47 x48 x49 A54 n54 c54 x55 x56 h :=
  pt_intro mixed f22.good (Eq.mpr (show (Fwd Tryd.prog f22.T f22.kp Tryd.f22 R [false, false, true, true, false, false, true, true, false, false, true, false, true, true] (mkFr [(1, (Value.pointer (some a1))), (2, (Value.pointer (some a2))), (47, (Value.slice A47 n47 c47)), (48, (Value.int .i64 x48)), (49, (Value.int .i64 x49)), (54, (Value.slice A54 n54 c54)), (55, (Value.int .i64 x55)), (56, (Value.int .i64 x56))]) h) = (f22.l5T R a1 a2 A47 n47 c47 x48 x49 A54 n54 c54 x55 x56 h) by kernel_rfl) H)
set_option maxRecDepth 100000 in
def f22.l2T (R : Value → Heap → Prop) (a1 : Addr) (a2 : Addr) (A71 : Option Addr) (n71 : Nat) (c71 : Nat) (x72 : Int) (x73 : Int) (h : Heap) : Prop :=
  splitB (decide (x73 < x72)) (ptrOk A71 fun a1_ => 0 ≤ x73 ∧ x73 < ((n71 : Nat) : Int) ∧ (∃ v2_, ldv true 15 h (Addr.add a1_ (Int.toNat x73 * 15)) = some v2_ ∧ newH h (Obj.cells #[(Value.string (ByteArray.mk #[])), (Value.slice none 0 0), (Value.slice none 0 0), (Value.slice none 0 0), (Value.int .i64 (0 : Int)), (Value.string (ByteArray.mk #[])), (Value.slice none 0 0), (Value.int .i64 (0 : Int)), (Value.int .i64 (0 : Int)), (Value.string (ByteArray.mk #[])), (Value.slice none 0 0), (Value.slice none 0 0), (Value.slice none 0 0), (Value.slice none 0 0), (Value.int .i64 (0 : Int))] 101) fun h3_ => ∃ l5_ : List Value, v2_ = Value.agg l5_.toArray ∧ l5_.length = 15 ∧ ∃ h4_, stH h3_ (⟨Array.size h, 0, none⟩) l5_ 0 = some h4_ ∧ ∃ v6_, ldv true 8 h4_ a1 = some v6_ ∧ ∃ v7_, ldv true 15 h4_ (⟨Array.size h, 0, none⟩) = some v7_ ∧ Run Tryd.prog 44 #[v6_, (Value.slice none 0 0), v7_] h4_ fun v8_ h9_ => newH h9_ (Obj.cells #[(Value.int .i64 (0 : Int)), (Value.int .i64 (0 : Int))] 59) fun h10_ => ∃ l12_ : List Value, v8_ = Value.agg l12_.toArray ∧ l12_.length = 2 ∧ ∃ h11_, stH h10_ (⟨Array.size h9_, 0, none⟩) l12_ 0 = some h11_ ∧ ∃ v13_, ldv false 1 h11_ (⟨Array.size h9_, 0, none⟩) = some v13_ ∧ ∃ x14_, v13_ = (Value.int .i64 x14_) ∧ splitB (x14_ != (0 : Int)) (∃ v15_, ldv true 2 h11_ (⟨Array.size h9_, 0, none⟩) = some v15_ ∧ ∃ l17_ : List Value, v15_ = Value.agg l17_.toArray ∧ l17_.length = 2 ∧ ∃ h16_, stH h11_ a2 l17_ 0 = some h16_ ∧ ∃ v18_, ldv true 2 h16_ a2 = some v18_ ∧ R v18_ h16_) (f22.l2 R a1 a2 A71 n71 c71 x72 (IntKind.wrap .i64 (x73 + (1 : Int))) h11_))) (∃ v19_, ldv false 1 h (Addr.add a1 7) = some v19_ ∧ ∃ A20_, ∃ n20_, ∃ c20_, v19_ = (Value.slice A20_ n20_ c20_) ∧ f22.l3 R a1 a2 A20_ n20_ c20_ ((n20_ : Nat) : Int) (0 : Int) h)
set_option maxRecDepth 100000 in
theorem f22.l2_in {R : Value → Heap → Prop} {a1 : Addr} {a2 : Addr} {A71 : Option Addr} {n71 : Nat} {c71 : Nat} {x72 : Int} {x73 : Int} {h : Heap} (H : f22.l2T R a1 a2 A71 n71 c71 x72 x73 h) : f22.l2 R a1 a2 A71 n71 c71 x72 x73 h :=
  pt_intro mixed f22.good (Eq.mpr (show (Fwd Tryd.prog f22.T f22.kp Tryd.f22 R [false, false, true, false, true, true, true] (mkFr [(1, (Value.pointer (some a1))), (2, (Value.pointer (some a2))), (71, (Value.slice A71 n71 c71)), (72, (Value.int .i64 x72)), (73, (Value.int .i64 x73))]) h) = (f22.l2T R a1 a2 A71 n71 c71 x72 x73 h) by kernel_rfl) H)
set_option maxRecDepth 100000 in
def f22.l3T (R : Value → Heap → Prop) (a1 : Addr) (a2 : Addr) (A86 : Option Addr) (n86 : Nat) (c86 : Nat) (x87 : Int) (x88 : Int) (h : Heap) : Prop :=
  splitB (decide (x88 < x87)) (ptrOk A86 fun a1_ => 0 ≤ x88 ∧ x88 < ((n86 : Nat) : Int) ∧ (∃ v2_, ldv true 14 h (Addr.add a1_ (Int.toNat x88 * 14)) = some v2_ ∧ newH h (Obj.cells #[(Value.string (ByteArray.mk #[])), (Value.slice none 0 0), (Value.slice none 0 0), (Value.int .i64 (0 : Int)), (Value.string (ByteArray.mk #[])), (Value.slice none 0 0), (Value.int .i64 (0 : Int)), (Value.int .i64 (0 : Int)), (Value.string (ByteArray.mk #[])), (Value.slice none 0 0), (Value.slice none 0 0), (Value.slice none 0 0), (Value.slice none 0 0), (Value.int .i64 (0 : Int))] 97) fun h3_ => ∃ l5_ : List Value, v2_ = Value.agg l5_.toArray ∧ l5_.length = 14 ∧ ∃ h4_, stH h3_ (⟨Array.size h, 0, none⟩) l5_ 0 = some h4_ ∧ ∃ v6_, ldv true 8 h4_ a1 = some v6_ ∧ ∃ v7_, ldv false 1 h4_ (Addr.add (⟨Array.size h, 0, none⟩) 2) = some v7_ ∧ ∃ A8_, ∃ n8_, ∃ c8_, v7_ = (Value.slice A8_ n8_ c8_) ∧ ∃ v9_, ldv true 3 h4_ (Addr.add (⟨Array.size h, 0, none⟩) 3) = some v9_ ∧ ∃ l10_ : List Value, v9_ = Value.agg l10_.toArray ∧ l10_.length = 3 ∧ (newH h4_ (Obj.cells ((List.take 0 ([(Value.int .i64 (0 : Int)), (Value.string (ByteArray.mk #[])), (Value.slice none 0 0)]) ++ l10_ ++ List.drop 3 ([(Value.int .i64 (0 : Int)), (Value.string (ByteArray.mk #[])), (Value.slice none 0 0)])).toArray) 25) fun h11_ => Ext h4_ h11_ ∧ (newH h11_ (Obj.cells #[(Value.slice A8_ n8_ c8_), (Value.slice (some ⟨Array.size h4_, 0, none⟩) 1 1)] 23) fun h12_ => Ext h11_ h12_ ∧ (Run Tryd.prog 31 #[(Value.slice (some ⟨Array.size h11_, 0, none⟩) 2 2)] h12_ fun v13_ h14_ => ∃ A15_, ∃ n15_, ∃ c15_, v13_ = (Value.slice A15_ n15_ c15_) ∧ Ext h12_ h14_ ∧ (Run Tryd.prog 27 #[v6_, (Value.slice none 0 0), (Value.slice A15_ n15_ c15_)] h14_ fun v16_ h17_ => ∃ x18_, v16_ = (Value.int .i64 x18_) ∧ splitB (x18_ != (0 : Int)) (∃ l20_ : List Value, (Value.agg #[(Value.int .i64 x18_), (Value.int .i64 (0 : Int))]) = Value.agg l20_.toArray ∧ l20_.length = 2 ∧ ∃ h19_, stH h17_ a2 l20_ 0 = some h19_ ∧ ∃ v21_, ldv true 2 h19_ a2 = some v21_ ∧ R v21_ h19_) (∃ v22_, ldv true 8 h17_ a1 = some v22_ ∧ ∃ v23_, ldv true 8 h17_ (Addr.add (⟨Array.size h, 0, none⟩) 6) = some v23_ ∧ Run Tryd.prog 46 #[v22_, (Value.slice none 0 0), v23_] h17_ fun v24_ h25_ => newH h25_ (Obj.cells #[(Value.int .i64 (0 : Int)), (Value.int .i64 (0 : Int))] 59) fun h26_ => ∃ l28_ : List Value, v24_ = Value.agg l28_.toArray ∧ l28_.length = 2 ∧ ∃ h27_, stH h26_ (⟨Array.size h25_, 0, none⟩) l28_ 0 = some h27_ ∧ ∃ v29_, ldv false 1 h27_ (⟨Array.size h25_, 0, none⟩) = some v29_ ∧ ∃ x30_, v29_ = (Value.int .i64 x30_) ∧ splitB (x30_ != (0 : Int)) (∃ v31_, ldv true 2 h27_ (⟨Array.size h25_, 0, none⟩) = some v31_ ∧ ∃ l33_ : List Value, v31_ = Value.agg l33_.toArray ∧ l33_.length = 2 ∧ ∃ h32_, stH h27_ a2 l33_ 0 = some h32_ ∧ ∃ v34_, ldv true 2 h32_ a2 = some v34_ ∧ R v34_ h32_) (f22.l3 R a1 a2 A86 n86 c86 x87 (IntKind.wrap .i64 (x88 + (1 : Int))) h27_)))))))) (∃ l36_ : List Value, (Value.agg #[(Value.int .i64 (0 : Int)), (Value.int .i64 (0 : Int))]) = Value.agg l36_.toArray ∧ l36_.length = 2 ∧ ∃ h35_, stH h a2 l36_ 0 = some h35_ ∧ ∃ v37_, ldv true 2 h35_ a2 = some v37_ ∧ R v37_ h35_)
set_option maxRecDepth 100000 in
theorem f22.l3_in {R : Value → Heap → Prop} {a1 : Addr} {a2 : Addr} {A86 : Option Addr} {n86 : Nat} {c86 : Nat} {x87 : Int} {x88 : Int} {h : Heap} (H : f22.l3T R a1 a2 A86 n86 c86 x87 x88 h) : f22.l3 R a1 a2 A86 n86 c86 x87 x88 h :=
  pt_intro mixed f22.good (Eq.mpr (show (Fwd Tryd.prog f22.T f22.kp Tryd.f22 R [false, false, true, false, true, true, true, true] (mkFr [(1, (Value.pointer (some a1))), (2, (Value.pointer (some a2))), (86, (Value.slice A86 n86 c86)), (87, (Value.int .i64 x87)), (88, (Value.int .i64 x88))]) h) = (f22.l3T R a1 a2 A86 n86 c86 x87 x88 h) by kernel_rfl) H)
set_option maxRecDepth 100000 in
def f22.runT (R : Value → Heap → Prop) (v0 : Value) (h : Heap) : Prop :=
  newH h (Obj.cells ((v0).cells) 54) fun h1_ => newH h1_ (Obj.cells #[(Value.int .i64 (0 : Int)), (Value.int .i64 (0 : Int))] 59) fun h2_ => ∃ v3_, ldv false 1 h2_ (Addr.add (⟨Array.size h, 0, none⟩) 3) = some v3_ ∧ ∃ A4_, ∃ n4_, ∃ c4_, v3_ = (Value.slice A4_ n4_ c4_) ∧ f22.l0 R (⟨Array.size h, 0, none⟩) (⟨Array.size h1_, 0, none⟩) A4_ n4_ c4_ ((n4_ : Nat) : Int) (0 : Int) h2_
set_option maxRecDepth 100000 in
theorem f22.run {R : Value → Heap → Prop} {v0 : Value} {h : Heap} (H : f22.runT R v0 h) : Run Tryd.prog 22 #[v0] h R :=
  run_of mixed Tryd.func22 (by kernel_rfl) (by kernel_rfl) f22.good (Eq.mpr (show (Fwd Tryd.prog f22.T f22.kp Tryd.f22 R [] (mkFr (argL [v0] 0)) h) = (f22.runT R v0 h) by kernel_rfl) H)
def f25.T : Tab := { sh := tSh, tup := tTup, keep := [], plan := [] }
def f25.kp : Keep := []
theorem f25.good : goodCode Tryd.prog f25.T (rootOf Tryd.f25) = true := by kernel_rfl
set_option maxRecDepth 100000 in
theorem f25.ok : calleeOk Tryd.prog 25 = true := by kernel_rfl
set_option maxRecDepth 100000 in
def f25.runT (R : Value → Heap → Prop) (v0 : Value) (a1 : Addr) (h : Heap) : Prop :=
  newH h (Obj.cells ((v0).cells) 63) fun h1_ => ∃ v2_, ldv false 1 h1_ (⟨Array.size h, 0, none⟩) = some v2_ ∧ ∃ s3_, v2_ = (Value.string s3_) ∧ ∃ v4_, ldv false 1 h1_ a1 = some v4_ ∧ ∃ s5_, v4_ = (Value.string s5_) ∧ R (Value.bool (ByteArray.toList s3_ == ByteArray.toList s5_)) h1_
set_option maxRecDepth 100000 in
theorem f25.run {R : Value → Heap → Prop} {v0 : Value} {a1 : Addr} {h : Heap} (H : f25.runT R v0 a1 h) : Run Tryd.prog 25 #[v0, (Value.pointer (some a1))] h R :=
  run_of mixed Tryd.func25 (by kernel_rfl) (by kernel_rfl) f25.good (Eq.mpr (show (Fwd Tryd.prog f25.T f25.kp Tryd.f25 R [] (mkFr (argL [v0, (Value.pointer (some a1))] 0)) h) = (f25.runT R v0 a1 h) by kernel_rfl) H)
def f30.T : Tab := { sh := tSh, tup := tTup, keep := [], plan := [] }
def f30.kp : Keep := []
theorem f30.good : goodCode Tryd.prog f30.T (rootOf Tryd.f30) = true := by kernel_rfl
set_option maxRecDepth 100000 in
def f30.runT (R : Value → Heap → Prop) (v0 : Value) (h : Heap) : Prop :=
  newH h (Obj.cells ((v0).cells) 25) fun h1_ => newH h1_ (Obj.cells #[(Value.int .i64 (0 : Int)), (Value.string (ByteArray.mk #[])), (Value.slice none 0 0)] 25) fun h2_ => ∃ v3_, ldv true 3 h2_ (⟨Array.size h, 0, none⟩) = some v3_ ∧ Run Tryd.prog 29 #[v3_, (Value.slice none 0 0), (Value.slice none 0 0)] h2_ fun v4_ h5_ => ∃ l7_ : List Value, v4_ = Value.agg l7_.toArray ∧ l7_.length = 3 ∧ ∃ h6_, stH h5_ (⟨Array.size h1_, 0, none⟩) l7_ 0 = some h6_ ∧ ∃ v8_, ldv true 3 h6_ (⟨Array.size h1_, 0, none⟩) = some v8_ ∧ R v8_ h6_
set_option maxRecDepth 100000 in
theorem f30.run {R : Value → Heap → Prop} {v0 : Value} {h : Heap} (H : f30.runT R v0 h) : Run Tryd.prog 30 #[v0] h R :=
  run_of mixed Tryd.func30 (by kernel_rfl) (by kernel_rfl) f30.good (Eq.mpr (show (Fwd Tryd.prog f30.T f30.kp Tryd.f30 R [] (mkFr (argL [v0] 0)) h) = (f30.runT R v0 h) by kernel_rfl) H)
def f29.T : Tab := { sh := tSh, tup := tTup, keep := [], plan := [(5, (.take 0 (.take 2 (.take 4 (.take 1 (.take 3 (.take 5 (.eff true 6 (.eff false 7 (.eff false 8 .done)))))))))), (9, (.take 0 (.take 2 (.take 4 (.take 5 (.take 3 (.alt true 1 (.eff false 6 (.take 7 (.eff false 8 .done))) (.eff false 6 (.eff true 1 (.take 7 (.eff false 8 .done)))))))))))] }
def f29.kp : Keep := [([true, true, false, true, false, true], [1, 2, 3, 6, 7, 24]), ([true, true], [1, 2, 3, 6]), ([false, false, true, false, true, true, true], [1, 2, 3, 6, 39, 40, 41])]
theorem f29.good : goodCode Tryd.prog f29.T (rootOf Tryd.f29) = true := by kernel_rfl
def f29.j1 (R : Value → Heap → Prop) (A1 : Option Addr) (n1 : Nat) (c1 : Nat) (A2 : Option Addr) (n2 : Nat) (c2 : Nat) (a3 : Addr) (a6 : Addr) (x7 : Int) (b24 : Bool) (h : Heap) : Prop := Pt Tryd.prog Tryd.f29 R [true, true, false, true, false, true] (mkFr [(1, (Value.slice A1 n1 c1)), (2, (Value.slice A2 n2 c2)), (3, (Value.pointer (some a3))), (6, (Value.pointer (some a6))), (7, (Value.int .i64 x7)), (24, (Value.bool b24))]) h
def f29.j0 (R : Value → Heap → Prop) (A1 : Option Addr) (n1 : Nat) (c1 : Nat) (A2 : Option Addr) (n2 : Nat) (c2 : Nat) (a3 : Addr) (a6 : Addr) (h : Heap) : Prop := Pt Tryd.prog Tryd.f29 R [true, true] (mkFr [(1, (Value.slice A1 n1 c1)), (2, (Value.slice A2 n2 c2)), (3, (Value.pointer (some a3))), (6, (Value.pointer (some a6)))]) h
def f29.l0 (R : Value → Heap → Prop) (A1 : Option Addr) (n1 : Nat) (c1 : Nat) (A2 : Option Addr) (n2 : Nat) (c2 : Nat) (a3 : Addr) (a6 : Addr) (A39 : Option Addr) (n39 : Nat) (c39 : Nat) (x40 : Int) (x41 : Int) (h : Heap) : Prop := Pt Tryd.prog Tryd.f29 R [false, false, true, false, true, true, true] (mkFr [(1, (Value.slice A1 n1 c1)), (2, (Value.slice A2 n2 c2)), (3, (Value.pointer (some a3))), (6, (Value.pointer (some a6))), (39, (Value.slice A39 n39 c39)), (40, (Value.int .i64 x40)), (41, (Value.int .i64 x41))]) h
set_option maxRecDepth 100000 in
def f29.j1T (R : Value → Heap → Prop) (A1 : Option Addr) (n1 : Nat) (c1 : Nat) (A2 : Option Addr) (n2 : Nat) (c2 : Nat) (a3 : Addr) (a6 : Addr) (x7 : Int) (b24 : Bool) (h : Heap) : Prop :=
  splitB b24 (ptrOk A2 fun a1_ => 0 ≤ x7 ∧ x7 < ((n2 : Nat) : Int) ∧ (∃ v2_, ldv true 3 h (Addr.add a1_ (Int.toNat x7 * 3)) = some v2_ ∧ Run Tryd.prog 30 #[v2_] h fun v3_ h4_ => ∃ l6_ : List Value, v3_ = Value.agg l6_.toArray ∧ l6_.length = 3 ∧ ∃ h5_, stH h4_ a6 l6_ 0 = some h5_ ∧ ∃ v7_, ldv true 3 h5_ a6 = some v7_ ∧ R v7_ h5_)) (f29.j0 R A1 n1 c1 A2 n2 c2 a3 a6 h)
set_option maxRecDepth 100000 in
theorem f29.j1_in {R : Value → Heap → Prop} {A1 : Option Addr} {n1 : Nat} {c1 : Nat} {A2 : Option Addr} {n2 : Nat} {c2 : Nat} {a3 : Addr} {a6 : Addr} {x7 : Int} {b24 : Bool} {h : Heap} (H : f29.j1T R A1 n1 c1 A2 n2 c2 a3 a6 x7 b24 h) : f29.j1 R A1 n1 c1 A2 n2 c2 a3 a6 x7 b24 h :=
  pt_intro mixed f29.good (Eq.mpr (show (Fwd Tryd.prog f29.T f29.kp Tryd.f29 R [true, true, false, true, false, true] (mkFr [(1, (Value.slice A1 n1 c1)), (2, (Value.slice A2 n2 c2)), (3, (Value.pointer (some a3))), (6, (Value.pointer (some a6))), (7, (Value.int .i64 x7)), (24, (Value.bool b24))]) h) = (f29.j1T R A1 n1 c1 A2 n2 c2 a3 a6 x7 b24 h) by kernel_rfl) H)
set_option maxRecDepth 100000 in
def f29.j0T (R : Value → Heap → Prop) (A1 : Option Addr) (n1 : Nat) (c1 : Nat) (A2 : Option Addr) (n2 : Nat) (c2 : Nat) (a3 : Addr) (a6 : Addr) (h : Heap) : Prop :=
  ∃ v1_, ldv false 1 h a3 = some v1_ ∧ ∃ x2_, v1_ = (Value.int .i64 x2_) ∧ ∃ v3_, ldv false 1 h (Addr.add a3 1) = some v3_ ∧ ∃ s4_, v3_ = (Value.string s4_) ∧ ∃ v5_, ldv false 1 h (Addr.add a3 2) = some v5_ ∧ ∃ A6_, ∃ n6_, ∃ c6_, v5_ = (Value.slice A6_ n6_ c6_) ∧ Run Tryd.prog 42 #[(Value.slice A6_ n6_ c6_)] h fun v7_ h8_ => ∃ A9_, ∃ n9_, ∃ c9_, v7_ = (Value.slice A9_ n9_ c9_) ∧ Ext h h8_ ∧ (∃ l11_ : List Value, (Value.agg #[(Value.int .i64 x2_), (Value.string s4_), (Value.slice A9_ n9_ c9_)]) = Value.agg l11_.toArray ∧ l11_.length = 3 ∧ ∃ h10_, stH h8_ a3 l11_ 0 = some h10_ ∧ ∃ v12_, ldv false 1 h10_ (Addr.add a3 2) = some v12_ ∧ ∃ A13_, ∃ n13_, ∃ c13_, v12_ = (Value.slice A13_ n13_ c13_) ∧ f29.l0 R A1 n1 c1 A2 n2 c2 a3 a6 A13_ n13_ c13_ ((n13_ : Nat) : Int) (0 : Int) h10_)
set_option maxRecDepth 100000 in
theorem f29.j0_in {R : Value → Heap → Prop} {A1 : Option Addr} {n1 : Nat} {c1 : Nat} {A2 : Option Addr} {n2 : Nat} {c2 : Nat} {a3 : Addr} {a6 : Addr} {h : Heap} (H : f29.j0T R A1 n1 c1 A2 n2 c2 a3 a6 h) : f29.j0 R A1 n1 c1 A2 n2 c2 a3 a6 h :=
  pt_intro mixed f29.good (Eq.mpr (show (Fwd Tryd.prog f29.T f29.kp Tryd.f29 R [true, true] (mkFr [(1, (Value.slice A1 n1 c1)), (2, (Value.slice A2 n2 c2)), (3, (Value.pointer (some a3))), (6, (Value.pointer (some a6)))]) h) = (f29.j0T R A1 n1 c1 A2 n2 c2 a3 a6 h) by kernel_rfl) H)
set_option maxRecDepth 100000 in
def f29.l0T (R : Value → Heap → Prop) (A1 : Option Addr) (n1 : Nat) (c1 : Nat) (A2 : Option Addr) (n2 : Nat) (c2 : Nat) (a3 : Addr) (a6 : Addr) (A39 : Option Addr) (n39 : Nat) (c39 : Nat) (x40 : Int) (x41 : Int) (h : Heap) : Prop :=
  splitB (decide (x41 < x40)) (ptrOk A39 fun a1_ => 0 ≤ x41 ∧ x41 < ((n39 : Nat) : Int) ∧ (∃ v2_, ldv true 3 h (Addr.add a1_ (Int.toNat x41 * 3)) = some v2_ ∧ newH h (Obj.cells #[(Value.int .i64 (0 : Int)), (Value.string (ByteArray.mk #[])), (Value.slice none 0 0)] 25) fun h3_ => ∃ l5_ : List Value, v2_ = Value.agg l5_.toArray ∧ l5_.length = 3 ∧ ∃ h4_, stH h3_ (⟨Array.size h, 0, none⟩) l5_ 0 = some h4_ ∧ ∃ v6_, ldv true 3 h4_ (⟨Array.size h, 0, none⟩) = some v6_ ∧ (∃ v7_, ldv false 1 h4_ (Addr.add a3 2) = some v7_ ∧ ∃ A8_, ∃ n8_, ∃ c8_, v7_ = (Value.slice A8_ n8_ c8_) ∧ Ext h4_ h4_ ∧ (Run Tryd.prog 29 #[v6_, (Value.slice A1 n1 c1), (Value.slice A2 n2 c2)] h4_ fun v9_ h10_ => ptrOk A8_ fun a11_ => 0 ≤ x41 ∧ x41 < ((n8_ : Nat) : Int) ∧ (∃ l13_ : List Value, v9_ = Value.agg l13_.toArray ∧ l13_.length = 3 ∧ ∃ h12_, stH h10_ (Addr.add a11_ (Int.toNat x41 * 3)) l13_ 0 = some h12_ ∧ f29.l0 R A1 n1 c1 A2 n2 c2 a3 a6 A39 n39 c39 x40 (IntKind.wrap .i64 (x41 + (1 : Int))) h12_))) ∧ (Run Tryd.prog 29 #[v6_, (Value.slice A1 n1 c1), (Value.slice A2 n2 c2)] h4_ fun v14_ h15_ => ∃ v16_, ldv false 1 h15_ (Addr.add a3 2) = some v16_ ∧ ∃ A17_, ∃ n17_, ∃ c17_, v16_ = (Value.slice A17_ n17_ c17_) ∧ Ext h15_ h15_ ∧ (ptrOk A17_ fun a18_ => 0 ≤ x41 ∧ x41 < ((n17_ : Nat) : Int) ∧ (∃ l20_ : List Value, v14_ = Value.agg l20_.toArray ∧ l20_.length = 3 ∧ ∃ h19_, stH h15_ (Addr.add a18_ (Int.toNat x41 * 3)) l20_ 0 = some h19_ ∧ f29.l0 R A1 n1 c1 A2 n2 c2 a3 a6 A39 n39 c39 x40 (IntKind.wrap .i64 (x41 + (1 : Int))) h19_))))) (∃ v21_, ldv true 3 h a3 = some v21_ ∧ ∃ l23_ : List Value, v21_ = Value.agg l23_.toArray ∧ l23_.length = 3 ∧ ∃ h22_, stH h a6 l23_ 0 = some h22_ ∧ ∃ v24_, ldv true 3 h22_ a6 = some v24_ ∧ R v24_ h22_)
set_option maxRecDepth 100000 in
theorem f29.l0_in {R : Value → Heap → Prop} {A1 : Option Addr} {n1 : Nat} {c1 : Nat} {A2 : Option Addr} {n2 : Nat} {c2 : Nat} {a3 : Addr} {a6 : Addr} {A39 : Option Addr} {n39 : Nat} {c39 : Nat} {x40 : Int} {x41 : Int} {h : Heap} (H : f29.l0T R A1 n1 c1 A2 n2 c2 a3 a6 A39 n39 c39 x40 x41 h) : f29.l0 R A1 n1 c1 A2 n2 c2 a3 a6 A39 n39 c39 x40 x41 h :=
  pt_intro mixed f29.good (Eq.mpr (show (Fwd Tryd.prog f29.T f29.kp Tryd.f29 R [false, false, true, false, true, true, true] (mkFr [(1, (Value.slice A1 n1 c1)), (2, (Value.slice A2 n2 c2)), (3, (Value.pointer (some a3))), (6, (Value.pointer (some a6))), (39, (Value.slice A39 n39 c39)), (40, (Value.int .i64 x40)), (41, (Value.int .i64 x41))]) h) = (f29.l0T R A1 n1 c1 A2 n2 c2 a3 a6 A39 n39 c39 x40 x41 h) by kernel_rfl) H)
set_option maxRecDepth 100000 in
def f29.runT (R : Value → Heap → Prop) (v0 : Value) (A1 : Option Addr) (n1 : Nat) (c1 : Nat) (A2 : Option Addr) (n2 : Nat) (c2 : Nat) (h : Heap) : Prop :=
  newH h (Obj.cells ((v0).cells) 25) fun h1_ => newH h1_ (Obj.cells #[(Value.int .i64 (0 : Int)), (Value.string (ByteArray.mk #[])), (Value.slice none 0 0)] 25) fun h2_ => ∃ v3_, ldv false 1 h2_ (⟨Array.size h, 0, none⟩) = some v3_ ∧ ∃ x4_, v3_ = (Value.int .i64 x4_) ∧ splitB (x4_ == (5 : Int)) (∃ v5_, ldv false 1 h2_ (Addr.add (⟨Array.size h, 0, none⟩) 1) = some v5_ ∧ ∃ s6_, v5_ = (Value.string s6_) ∧ Run Tryd.prog 33 #[(Value.slice A1 n1 c1), (Value.string s6_)] h2_ fun v7_ h8_ => ∃ x9_, v7_ = (Value.int .i64 x9_) ∧ splitB (decide (x9_ ≥ (0 : Int))) (f29.j1 R A1 n1 c1 A2 n2 c2 (⟨Array.size h, 0, none⟩) (⟨Array.size h1_, 0, none⟩) x9_ (decide (x9_ < ((n2 : Nat) : Int))) h8_) (f29.j1 R A1 n1 c1 A2 n2 c2 (⟨Array.size h, 0, none⟩) (⟨Array.size h1_, 0, none⟩) x9_ false h8_)) (f29.j0 R A1 n1 c1 A2 n2 c2 (⟨Array.size h, 0, none⟩) (⟨Array.size h1_, 0, none⟩) h2_)
set_option maxRecDepth 100000 in
theorem f29.run {R : Value → Heap → Prop} {v0 : Value} {A1 : Option Addr} {n1 : Nat} {c1 : Nat} {A2 : Option Addr} {n2 : Nat} {c2 : Nat} {h : Heap} (H : f29.runT R v0 A1 n1 c1 A2 n2 c2 h) : Run Tryd.prog 29 #[v0, (Value.slice A1 n1 c1), (Value.slice A2 n2 c2)] h R :=
  run_of mixed Tryd.func29 (by kernel_rfl) (by kernel_rfl) f29.good (Eq.mpr (show (Fwd Tryd.prog f29.T f29.kp Tryd.f29 R [] (mkFr (argL [v0, (Value.slice A1 n1 c1), (Value.slice A2 n2 c2)] 0)) h) = (f29.runT R v0 A1 n1 c1 A2 n2 c2 h) by kernel_rfl) H)
def f4.T : Tab := { sh := tSh, tup := tTup, keep := [], plan := [(7, (.take 0 (.take 1 (.take 2 (.take 3 (.take 4 (.split 4 (.take 5 (.take 6 (.take 7 (.take 8 (.take 9 (.take 10 (.split 10 (.take 11 (.take 12 (.take 13 (.split 13 (.take 14 (.take 15 (.take 16 (.split 16 (.take 17 (.take 18 (.take 19 (.take 20 (.take 21 (.split 21 (.take 22 (.take 23 (.take 24 (.take 25 (.take 26 (.take 27 (.take 28 (.take 29 (.split 29 (.take 30 (.take 31 (.take 32 (.split 32 (.take 33 (.take 34 (.take 35 (.split 35 (.take 36 (.take 37 (.take 38 (.take 39 (.take 40 (.take 41 (.split 41 (.take 42 (.take 45 (.take 47 (.take 43 (.take 44 (.take 46 (.take 48 (.take 49 (.take 50 (.take 51 (.take 52 (.take 53 (.take 54 (.take 55 .done)))))))))))))))))))))))))))))))))))))))))))))))))))))))))))))))))), (9, (.take 1 (.take 5 (.take 0 (.take 2 (.take 4 (.take 6 (.alt true 3 (.eff true 7 (.eff false 8 (.take 9 (.take 10 (.split 10 (.take 12 (.take 18 (.take 11 (.take 13 (.take 14 (.take 17 (.take 19 (.take 20 (.alt true 15 (.alt true 16 (.eff true 21 (.eff false 22 (.take 23 (.take 24 .done)))) (.eff true 21 (.eff true 16 (.eff false 22 (.take 23 (.take 24 .done)))))) (.eff true 21 (.eff true 15 (.eff true 16 (.eff false 22 (.take 23 (.take 24 .done)))))))))))))))))))) (.eff true 7 (.eff true 3 (.eff false 8 (.take 9 (.take 10 (.split 10 (.take 12 (.take 18 (.take 11 (.take 13 (.take 14 (.take 17 (.take 19 (.take 20 (.alt true 15 (.alt true 16 (.eff true 21 (.eff false 22 (.take 23 (.take 24 .done)))) (.eff true 21 (.eff true 16 (.eff false 22 (.take 23 (.take 24 .done)))))) (.eff true 21 (.eff true 15 (.eff true 16 (.eff false 22 (.take 23 (.take 24 .done))))))))))))))))))))))))))))), (12, (.take 3 (.take 0 (.take 2 (.take 4 (.alt true 1 (.eff true 5 (.eff false 6 (.eff false 7 (.take 8 (.take 9 (.split 9 (.take 10 (.take 13 (.eff true 11 (.eff true 12 (.eff false 14 (.take 15 (.take 16 (.take 17 .done)))))))))))))) (.eff true 5 (.eff true 1 (.eff false 6 (.eff false 7 (.take 8 (.take 9 (.split 9 (.take 10 (.take 13 (.eff true 11 (.eff true 12 (.eff false 14 (.take 15 (.take 16 (.take 17 .done)))))))))))))))))))))] }
def f4.kp : Keep := [([true, true, true, true, true, true, true], [1, 5, 7, 8]), ([true, true, true, true, true, true, true, true], [1, 7, 8])]
theorem f4.good : goodCode Tryd.prog f4.T (rootOf Tryd.f4) = true := by kernel_rfl
def f4.j0 (R : Value → Heap → Prop) (A1 : Option Addr) (n1 : Nat) (c1 : Nat) (a5 : Addr) (a7 : Addr) (a8 : Addr) (h : Heap) : Prop := Pt Tryd.prog Tryd.f4 R [true, true, true, true, true, true, true] (mkFr [(1, (Value.slice A1 n1 c1)), (5, (Value.pointer (some a5))), (7, (Value.pointer (some a7))), (8, (Value.pointer (some a8)))]) h
def f4.j1 (R : Value → Heap → Prop) (A1 : Option Addr) (n1 : Nat) (c1 : Nat) (a7 : Addr) (a8 : Addr) (h : Heap) : Prop := Pt Tryd.prog Tryd.f4 R [true, true, true, true, true, true, true, true] (mkFr [(1, (Value.slice A1 n1 c1)), (7, (Value.pointer (some a7))), (8, (Value.pointer (some a8)))]) h
set_option maxRecDepth 100000 in
def f4.j0T (R : Value → Heap → Prop) (A1 : Option Addr) (n1 : Nat) (c1 : Nat) (a5 : Addr) (a7 : Addr) (a8 : Addr) (h : Heap) : Prop :=
  ∃ v1_, ldv true 8 h a5 = some v1_ ∧ ∃ v2_, ldv true 3 h a7 = some v2_ ∧ ∃ v3_, ldv true 8 h a5 = some v3_ ∧ ∃ v4_, ldv true 3 h a7 = some v4_ ∧ (Run Tryd.prog 26 #[v1_, (Value.slice A1 n1 c1), v2_] h fun v5_ h6_ => ∃ x7_, v5_ = (Value.int .i64 x7_) ∧ Ext h h6_ ∧ (∃ l8_ : List Value, v4_ = Value.agg l8_.toArray ∧ l8_.length = 3 ∧ (newH h6_ (Obj.cells ((List.take 0 ([(Value.int .i64 (0 : Int)), (Value.string (ByteArray.mk #[])), (Value.slice none 0 0)]) ++ l8_ ++ List.drop 3 ([(Value.int .i64 (0 : Int)), (Value.string (ByteArray.mk #[])), (Value.slice none 0 0)])).toArray) 25) fun h9_ => Ext h6_ h9_ ∧ (Run Tryd.prog 27 #[v3_, (Value.slice A1 n1 c1), (Value.slice (some ⟨Array.size h6_, 0, none⟩) 1 1)] h9_ fun v10_ h11_ => ∃ x12_, v10_ = (Value.int .i64 x12_) ∧ splitB (x7_ != x12_) ((Ext h11_ h11_ ∧ ((Ext h11_ h11_ ∧ (Ext h11_ h11_ ∧ (R (Value.bool false) h11_))) ∧ (Ext h11_ h11_ ∧ (Ext h11_ h11_ ∧ (R (Value.bool false) h11_))))) ∧ (Ext h11_ h11_ ∧ (Ext h11_ h11_ ∧ (Ext h11_ h11_ ∧ (R (Value.bool false) h11_))))) (∃ v13_, ldv true 8 h11_ a5 = some v13_ ∧ ∃ v14_, ldv true 3 h11_ a7 = some v14_ ∧ ∃ v15_, ldv true 3 h11_ a8 = some v15_ ∧ ∃ v16_, ldv true 8 h11_ a5 = some v16_ ∧ ∃ v17_, ldv true 3 h11_ a7 = some v17_ ∧ ∃ v18_, ldv true 3 h11_ a8 = some v18_ ∧ (∃ l19_ : List Value, v14_ = Value.agg l19_.toArray ∧ l19_.length = 3 ∧ (∃ l20_ : List Value, v15_ = Value.agg l20_.toArray ∧ l20_.length = 3 ∧ (newH h11_ (Obj.cells ((List.take 3 (List.take 0 ([(Value.int .i64 (0 : Int)), (Value.string (ByteArray.mk #[])), (Value.slice none 0 0), (Value.int .i64 (0 : Int)), (Value.string (ByteArray.mk #[])), (Value.slice none 0 0)]) ++ l19_ ++ List.drop 3 ([(Value.int .i64 (0 : Int)), (Value.string (ByteArray.mk #[])), (Value.slice none 0 0), (Value.int .i64 (0 : Int)), (Value.string (ByteArray.mk #[])), (Value.slice none 0 0)])) ++ l20_ ++ List.drop 6 (List.take 0 ([(Value.int .i64 (0 : Int)), (Value.string (ByteArray.mk #[])), (Value.slice none 0 0), (Value.int .i64 (0 : Int)), (Value.string (ByteArray.mk #[])), (Value.slice none 0 0)]) ++ l19_ ++ List.drop 3 ([(Value.int .i64 (0 : Int)), (Value.string (ByteArray.mk #[])), (Value.slice none 0 0), (Value.int .i64 (0 : Int)), (Value.string (ByteArray.mk #[])), (Value.slice none 0 0)]))).toArray) 25) fun h21_ => Ext h11_ h21_ ∧ ((Run Tryd.prog 28 #[v13_, (Value.slice A1 n1 c1), (Value.slice (some ⟨Array.size h11_, 0, none⟩) 2 2)] h21_ fun v22_ h23_ => ∃ x24_, v22_ = (Value.int .i64 x24_) ∧ Ext h21_ h23_ ∧ (∃ l25_ : List Value, v17_ = Value.agg l25_.toArray ∧ l25_.length = 3 ∧ (∃ l26_ : List Value, v18_ = Value.agg l26_.toArray ∧ l26_.length = 3 ∧ (newH h23_ (Obj.cells ((List.take 3 (List.take 0 ([(Value.int .i64 (0 : Int)), (Value.string (ByteArray.mk #[])), (Value.slice none 0 0), (Value.int .i64 (0 : Int)), (Value.string (ByteArray.mk #[])), (Value.slice none 0 0)]) ++ l25_ ++ List.drop 3 ([(Value.int .i64 (0 : Int)), (Value.string (ByteArray.mk #[])), (Value.slice none 0 0), (Value.int .i64 (0 : Int)), (Value.string (ByteArray.mk #[])), (Value.slice none 0 0)])) ++ l26_ ++ List.drop 6 (List.take 0 ([(Value.int .i64 (0 : Int)), (Value.string (ByteArray.mk #[])), (Value.slice none 0 0), (Value.int .i64 (0 : Int)), (Value.string (ByteArray.mk #[])), (Value.slice none 0 0)]) ++ l25_ ++ List.drop 3 ([(Value.int .i64 (0 : Int)), (Value.string (ByteArray.mk #[])), (Value.slice none 0 0), (Value.int .i64 (0 : Int)), (Value.string (ByteArray.mk #[])), (Value.slice none 0 0)]))).toArray) 25) fun h27_ => Ext h23_ h27_ ∧ (Run Tryd.prog 27 #[v16_, (Value.slice A1 n1 c1), (Value.slice (some ⟨Array.size h23_, 0, none⟩) 2 2)] h27_ fun v28_ h29_ => ∃ x30_, v28_ = (Value.int .i64 x30_) ∧ splitB (x24_ != x30_) (R (Value.bool false) h29_) (f4.j1 R A1 n1 c1 a7 a8 h29_)))))) ∧ (∃ l31_ : List Value, v17_ = Value.agg l31_.toArray ∧ l31_.length = 3 ∧ (∃ l32_ : List Value, v18_ = Value.agg l32_.toArray ∧ l32_.length = 3 ∧ (newH h21_ (Obj.cells ((List.take 3 (List.take 0 ([(Value.int .i64 (0 : Int)), (Value.string (ByteArray.mk #[])), (Value.slice none 0 0), (Value.int .i64 (0 : Int)), (Value.string (ByteArray.mk #[])), (Value.slice none 0 0)]) ++ l31_ ++ List.drop 3 ([(Value.int .i64 (0 : Int)), (Value.string (ByteArray.mk #[])), (Value.slice none 0 0), (Value.int .i64 (0 : Int)), (Value.string (ByteArray.mk #[])), (Value.slice none 0 0)])) ++ l32_ ++ List.drop 6 (List.take 0 ([(Value.int .i64 (0 : Int)), (Value.string (ByteArray.mk #[])), (Value.slice none 0 0), (Value.int .i64 (0 : Int)), (Value.string (ByteArray.mk #[])), (Value.slice none 0 0)]) ++ l31_ ++ List.drop 3 ([(Value.int .i64 (0 : Int)), (Value.string (ByteArray.mk #[])), (Value.slice none 0 0), (Value.int .i64 (0 : Int)), (Value.string (ByteArray.mk #[])), (Value.slice none 0 0)]))).toArray) 25) fun h33_ => Ext h21_ h33_ ∧ (Run Tryd.prog 28 #[v13_, (Value.slice A1 n1 c1), (Value.slice (some ⟨Array.size h11_, 0, none⟩) 2 2)] h33_ fun v34_ h35_ => ∃ x36_, v34_ = (Value.int .i64 x36_) ∧ Ext h33_ h35_ ∧ (Run Tryd.prog 27 #[v16_, (Value.slice A1 n1 c1), (Value.slice (some ⟨Array.size h21_, 0, none⟩) 2 2)] h35_ fun v37_ h38_ => ∃ x39_, v37_ = (Value.int .i64 x39_) ∧ splitB (x36_ != x39_) (R (Value.bool false) h38_) (f4.j1 R A1 n1 c1 a7 a8 h38_)))))))))) ∧ (∃ l40_ : List Value, v17_ = Value.agg l40_.toArray ∧ l40_.length = 3 ∧ (∃ l41_ : List Value, v18_ = Value.agg l41_.toArray ∧ l41_.length = 3 ∧ (newH h11_ (Obj.cells ((List.take 3 (List.take 0 ([(Value.int .i64 (0 : Int)), (Value.string (ByteArray.mk #[])), (Value.slice none 0 0), (Value.int .i64 (0 : Int)), (Value.string (ByteArray.mk #[])), (Value.slice none 0 0)]) ++ l40_ ++ List.drop 3 ([(Value.int .i64 (0 : Int)), (Value.string (ByteArray.mk #[])), (Value.slice none 0 0), (Value.int .i64 (0 : Int)), (Value.string (ByteArray.mk #[])), (Value.slice none 0 0)])) ++ l41_ ++ List.drop 6 (List.take 0 ([(Value.int .i64 (0 : Int)), (Value.string (ByteArray.mk #[])), (Value.slice none 0 0), (Value.int .i64 (0 : Int)), (Value.string (ByteArray.mk #[])), (Value.slice none 0 0)]) ++ l40_ ++ List.drop 3 ([(Value.int .i64 (0 : Int)), (Value.string (ByteArray.mk #[])), (Value.slice none 0 0), (Value.int .i64 (0 : Int)), (Value.string (ByteArray.mk #[])), (Value.slice none 0 0)]))).toArray) 25) fun h42_ => Ext h11_ h42_ ∧ (∃ l43_ : List Value, v14_ = Value.agg l43_.toArray ∧ l43_.length = 3 ∧ (∃ l44_ : List Value, v15_ = Value.agg l44_.toArray ∧ l44_.length = 3 ∧ (newH h42_ (Obj.cells ((List.take 3 (List.take 0 ([(Value.int .i64 (0 : Int)), (Value.string (ByteArray.mk #[])), (Value.slice none 0 0), (Value.int .i64 (0 : Int)), (Value.string (ByteArray.mk #[])), (Value.slice none 0 0)]) ++ l43_ ++ List.drop 3 ([(Value.int .i64 (0 : Int)), (Value.string (ByteArray.mk #[])), (Value.slice none 0 0), (Value.int .i64 (0 : Int)), (Value.string (ByteArray.mk #[])), (Value.slice none 0 0)])) ++ l44_ ++ List.drop 6 (List.take 0 ([(Value.int .i64 (0 : Int)), (Value.string (ByteArray.mk #[])), (Value.slice none 0 0), (Value.int .i64 (0 : Int)), (Value.string (ByteArray.mk #[])), (Value.slice none 0 0)]) ++ l43_ ++ List.drop 3 ([(Value.int .i64 (0 : Int)), (Value.string (ByteArray.mk #[])), (Value.slice none 0 0), (Value.int .i64 (0 : Int)), (Value.string (ByteArray.mk #[])), (Value.slice none 0 0)]))).toArray) 25) fun h45_ => Ext h42_ h45_ ∧ (Run Tryd.prog 28 #[v13_, (Value.slice A1 n1 c1), (Value.slice (some ⟨Array.size h42_, 0, none⟩) 2 2)] h45_ fun v46_ h47_ => ∃ x48_, v46_ = (Value.int .i64 x48_) ∧ Ext h45_ h47_ ∧ (Run Tryd.prog 27 #[v16_, (Value.slice A1 n1 c1), (Value.slice (some ⟨Array.size h11_, 0, none⟩) 2 2)] h47_ fun v49_ h50_ => ∃ x51_, v49_ = (Value.int .i64 x51_) ∧ splitB (x48_ != x51_) (R (Value.bool false) h50_) (f4.j1 R A1 n1 c1 a7 a8 h50_)))))))))))))) ∧ (∃ l52_ : List Value, v4_ = Value.agg l52_.toArray ∧ l52_.length = 3 ∧ (newH h (Obj.cells ((List.take 0 ([(Value.int .i64 (0 : Int)), (Value.string (ByteArray.mk #[])), (Value.slice none 0 0)]) ++ l52_ ++ List.drop 3 ([(Value.int .i64 (0 : Int)), (Value.string (ByteArray.mk #[])), (Value.slice none 0 0)])).toArray) 25) fun h53_ => Ext h h53_ ∧ (Run Tryd.prog 26 #[v1_, (Value.slice A1 n1 c1), v2_] h53_ fun v54_ h55_ => ∃ x56_, v54_ = (Value.int .i64 x56_) ∧ Ext h53_ h55_ ∧ (Run Tryd.prog 27 #[v3_, (Value.slice A1 n1 c1), (Value.slice (some ⟨Array.size h, 0, none⟩) 1 1)] h55_ fun v57_ h58_ => ∃ x59_, v57_ = (Value.int .i64 x59_) ∧ splitB (x56_ != x59_) ((Ext h58_ h58_ ∧ ((Ext h58_ h58_ ∧ (Ext h58_ h58_ ∧ (R (Value.bool false) h58_))) ∧ (Ext h58_ h58_ ∧ (Ext h58_ h58_ ∧ (R (Value.bool false) h58_))))) ∧ (Ext h58_ h58_ ∧ (Ext h58_ h58_ ∧ (Ext h58_ h58_ ∧ (R (Value.bool false) h58_))))) (∃ v60_, ldv true 8 h58_ a5 = some v60_ ∧ ∃ v61_, ldv true 3 h58_ a7 = some v61_ ∧ ∃ v62_, ldv true 3 h58_ a8 = some v62_ ∧ ∃ v63_, ldv true 8 h58_ a5 = some v63_ ∧ ∃ v64_, ldv true 3 h58_ a7 = some v64_ ∧ ∃ v65_, ldv true 3 h58_ a8 = some v65_ ∧ (∃ l66_ : List Value, v61_ = Value.agg l66_.toArray ∧ l66_.length = 3 ∧ (∃ l67_ : List Value, v62_ = Value.agg l67_.toArray ∧ l67_.length = 3 ∧ (newH h58_ (Obj.cells ((List.take 3 (List.take 0 ([(Value.int .i64 (0 : Int)), (Value.string (ByteArray.mk #[])), (Value.slice none 0 0), (Value.int .i64 (0 : Int)), (Value.string (ByteArray.mk #[])), (Value.slice none 0 0)]) ++ l66_ ++ List.drop 3 ([(Value.int .i64 (0 : Int)), (Value.string (ByteArray.mk #[])), (Value.slice none 0 0), (Value.int .i64 (0 : Int)), (Value.string (ByteArray.mk #[])), (Value.slice none 0 0)])) ++ l67_ ++ List.drop 6 (List.take 0 ([(Value.int .i64 (0 : Int)), (Value.string (ByteArray.mk #[])), (Value.slice none 0 0), (Value.int .i64 (0 : Int)), (Value.string (ByteArray.mk #[])), (Value.slice none 0 0)]) ++ l66_ ++ List.drop 3 ([(Value.int .i64 (0 : Int)), (Value.string (ByteArray.mk #[])), (Value.slice none 0 0), (Value.int .i64 (0 : Int)), (Value.string (ByteArray.mk #[])), (Value.slice none 0 0)]))).toArray) 25) fun h68_ => Ext h58_ h68_ ∧ ((Run Tryd.prog 28 #[v60_, (Value.slice A1 n1 c1), (Value.slice (some ⟨Array.size h58_, 0, none⟩) 2 2)] h68_ fun v69_ h70_ => ∃ x71_, v69_ = (Value.int .i64 x71_) ∧ Ext h68_ h70_ ∧ (∃ l72_ : List Value, v64_ = Value.agg l72_.toArray ∧ l72_.length = 3 ∧ (∃ l73_ : List Value, v65_ = Value.agg l73_.toArray ∧ l73_.length = 3 ∧ (newH h70_ (Obj.cells ((List.take 3 (List.take 0 ([(Value.int .i64 (0 : Int)), (Value.string (ByteArray.mk #[])), (Value.slice none 0 0), (Value.int .i64 (0 : Int)), (Value.string (ByteArray.mk #[])), (Value.slice none 0 0)]) ++ l72_ ++ List.drop 3 ([(Value.int .i64 (0 : Int)), (Value.string (ByteArray.mk #[])), (Value.slice none 0 0), (Value.int .i64 (0 : Int)), (Value.string (ByteArray.mk #[])), (Value.slice none 0 0)])) ++ l73_ ++ List.drop 6 (List.take 0 ([(Value.int .i64 (0 : Int)), (Value.string (ByteArray.mk #[])), (Value.slice none 0 0), (Value.int .i64 (0 : Int)), (Value.string (ByteArray.mk #[])), (Value.slice none 0 0)]) ++ l72_ ++ List.drop 3 ([(Value.int .i64 (0 : Int)), (Value.string (ByteArray.mk #[])), (Value.slice none 0 0), (Value.int .i64 (0 : Int)), (Value.string (ByteArray.mk #[])), (Value.slice none 0 0)]))).toArray) 25) fun h74_ => Ext h70_ h74_ ∧ (Run Tryd.prog 27 #[v63_, (Value.slice A1 n1 c1), (Value.slice (some ⟨Array.size h70_, 0, none⟩) 2 2)] h74_ fun v75_ h76_ => ∃ x77_, v75_ = (Value.int .i64 x77_) ∧ splitB (x71_ != x77_) (R (Value.bool false) h76_) (f4.j1 R A1 n1 c1 a7 a8 h76_)))))) ∧ (∃ l78_ : List Value, v64_ = Value.agg l78_.toArray ∧ l78_.length = 3 ∧ (∃ l79_ : List Value, v65_ = Value.agg l79_.toArray ∧ l79_.length = 3 ∧ (newH h68_ (Obj.cells ((List.take 3 (List.take 0 ([(Value.int .i64 (0 : Int)), (Value.string (ByteArray.mk #[])), (Value.slice none 0 0), (Value.int .i64 (0 : Int)), (Value.string (ByteArray.mk #[])), (Value.slice none 0 0)]) ++ l78_ ++ List.drop 3 ([(Value.int .i64 (0 : Int)), (Value.string (ByteArray.mk #[])), (Value.slice none 0 0), (Value.int .i64 (0 : Int)), (Value.string (ByteArray.mk #[])), (Value.slice none 0 0)])) ++ l79_ ++ List.drop 6 (List.take 0 ([(Value.int .i64 (0 : Int)), (Value.string (ByteArray.mk #[])), (Value.slice none 0 0), (Value.int .i64 (0 : Int)), (Value.string (ByteArray.mk #[])), (Value.slice none 0 0)]) ++ l78_ ++ List.drop 3 ([(Value.int .i64 (0 : Int)), (Value.string (ByteArray.mk #[])), (Value.slice none 0 0), (Value.int .i64 (0 : Int)), (Value.string (ByteArray.mk #[])), (Value.slice none 0 0)]))).toArray) 25) fun h80_ => Ext h68_ h80_ ∧ (Run Tryd.prog 28 #[v60_, (Value.slice A1 n1 c1), (Value.slice (some ⟨Array.size h58_, 0, none⟩) 2 2)] h80_ fun v81_ h82_ => ∃ x83_, v81_ = (Value.int .i64 x83_) ∧ Ext h80_ h82_ ∧ (Run Tryd.prog 27 #[v63_, (Value.slice A1 n1 c1), (Value.slice (some ⟨Array.size h68_, 0, none⟩) 2 2)] h82_ fun v84_ h85_ => ∃ x86_, v84_ = (Value.int .i64 x86_) ∧ splitB (x83_ != x86_) (R (Value.bool false) h85_) (f4.j1 R A1 n1 c1 a7 a8 h85_)))))))))) ∧ (∃ l87_ : List Value, v64_ = Value.agg l87_.toArray ∧ l87_.length = 3 ∧ (∃ l88_ : List Value, v65_ = Value.agg l88_.toArray ∧ l88_.length = 3 ∧ (newH h58_ (Obj.cells ((List.take 3 (List.take 0 ([(Value.int .i64 (0 : Int)), (Value.string (ByteArray.mk #[])), (Value.slice none 0 0), (Value.int .i64 (0 : Int)), (Value.string (ByteArray.mk #[])), (Value.slice none 0 0)]) ++ l87_ ++ List.drop 3 ([(Value.int .i64 (0 : Int)), (Value.string (ByteArray.mk #[])), (Value.slice none 0 0), (Value.int .i64 (0 : Int)), (Value.string (ByteArray.mk #[])), (Value.slice none 0 0)])) ++ l88_ ++ List.drop 6 (List.take 0 ([(Value.int .i64 (0 : Int)), (Value.string (ByteArray.mk #[])), (Value.slice none 0 0), (Value.int .i64 (0 : Int)), (Value.string (ByteArray.mk #[])), (Value.slice none 0 0)]) ++ l87_ ++ List.drop 3 ([(Value.int .i64 (0 : Int)), (Value.string (ByteArray.mk #[])), (Value.slice none 0 0), (Value.int .i64 (0 : Int)), (Value.string (ByteArray.mk #[])), (Value.slice none 0 0)]))).toArray) 25) fun h89_ => Ext h58_ h89_ ∧ (∃ l90_ : List Value, v61_ = Value.agg l90_.toArray ∧ l90_.length = 3 ∧ (∃ l91_ : List Value, v62_ = Value.agg l91_.toArray ∧ l91_.length = 3 ∧ (newH h89_ (Obj.cells ((List.take 3 (List.take 0 ([(Value.int .i64 (0 : Int)), (Value.string (ByteArray.mk #[])), (Value.slice none 0 0), (Value.int .i64 (0 : Int)), (Value.string (ByteArray.mk #[])), (Value.slice none 0 0)]) ++ l90_ ++ List.drop 3 ([(Value.int .i64 (0 : Int)), (Value.string (ByteArray.mk #[])), (Value.slice none 0 0), (Value.int .i64 (0 : Int)), (Value.string (ByteArray.mk #[])), (Value.slice none 0 0)])) ++ l91_ ++ List.drop 6 (List.take 0 ([(Value.int .i64 (0 : Int)), (Value.string (ByteArray.mk #[])), (Value.slice none 0 0), (Value.int .i64 (0 : Int)), (Value.string (ByteArray.mk #[])), (Value.slice none 0 0)]) ++ l90_ ++ List.drop 3 ([(Value.int .i64 (0 : Int)), (Value.string (ByteArray.mk #[])), (Value.slice none 0 0), (Value.int .i64 (0 : Int)), (Value.string (ByteArray.mk #[])), (Value.slice none 0 0)]))).toArray) 25) fun h92_ => Ext h89_ h92_ ∧ (Run Tryd.prog 28 #[v60_, (Value.slice A1 n1 c1), (Value.slice (some ⟨Array.size h89_, 0, none⟩) 2 2)] h92_ fun v93_ h94_ => ∃ x95_, v93_ = (Value.int .i64 x95_) ∧ Ext h92_ h94_ ∧ (Run Tryd.prog 27 #[v63_, (Value.slice A1 n1 c1), (Value.slice (some ⟨Array.size h58_, 0, none⟩) 2 2)] h94_ fun v96_ h97_ => ∃ x98_, v96_ = (Value.int .i64 x98_) ∧ splitB (x95_ != x98_) (R (Value.bool false) h97_) (f4.j1 R A1 n1 c1 a7 a8 h97_))))))))))))))
set_option maxRecDepth 100000 in
theorem f4.j0_in {R : Value → Heap → Prop} {A1 : Option Addr} {n1 : Nat} {c1 : Nat} {a5 : Addr} {a7 : Addr} {a8 : Addr} {h : Heap} (H : f4.j0T R A1 n1 c1 a5 a7 a8 h) : f4.j0 R A1 n1 c1 a5 a7 a8 h :=
  pt_intro mixed f4.good (Eq.mpr (show (Fwd Tryd.prog f4.T f4.kp Tryd.f4 R [true, true, true, true, true, true, true] (mkFr [(1, (Value.slice A1 n1 c1)), (5, (Value.pointer (some a5))), (7, (Value.pointer (some a7))), (8, (Value.pointer (some a8)))]) h) = (f4.j0T R A1 n1 c1 a5 a7 a8 h) by kernel_rfl) H)
set_option maxRecDepth 100000 in
def f4.j1T (R : Value → Heap → Prop) (A1 : Option Addr) (n1 : Nat) (c1 : Nat) (a7 : Addr) (a8 : Addr) (h : Heap) : Prop :=
  ∃ v1_, ldv true 3 h a7 = some v1_ ∧ ∃ v2_, ldv true 3 h a8 = some v2_ ∧ ∃ l3_ : List Value, v2_ = Value.agg l3_.toArray ∧ l3_.length = 3 ∧ (newH h (Obj.cells ((List.take 0 ([(Value.int .i64 (0 : Int)), (Value.string (ByteArray.mk #[])), (Value.slice none 0 0)]) ++ l3_ ++ List.drop 3 ([(Value.int .i64 (0 : Int)), (Value.string (ByteArray.mk #[])), (Value.slice none 0 0)])).toArray) 25) fun h4_ => Run Tryd.prog 29 #[v1_, (Value.slice A1 n1 c1), (Value.slice (some ⟨Array.size h, 0, none⟩) 1 1)] h4_ fun v5_ h6_ => newH h6_ (Obj.cells #[(Value.int .i64 (0 : Int)), (Value.string (ByteArray.mk #[])), (Value.slice none 0 0)] 25) fun h7_ => ∃ l9_ : List Value, v5_ = Value.agg l9_.toArray ∧ l9_.length = 3 ∧ ∃ h8_, stH h7_ (⟨Array.size h6_, 0, none⟩) l9_ 0 = some h8_ ∧ ∃ v10_, ldv true 3 h8_ (⟨Array.size h6_, 0, none⟩) = some v10_ ∧ ∃ v11_, ldv true 3 h8_ a7 = some v11_ ∧ ∃ v12_, ldv true 3 h8_ a8 = some v12_ ∧ (Run Tryd.prog 10 #[v10_] h8_ fun v13_ h14_ => ∃ s15_, v13_ = (Value.string s15_) ∧ Ext h8_ h14_ ∧ (∃ l16_ : List Value, v12_ = Value.agg l16_.toArray ∧ l16_.length = 3 ∧ (newH h14_ (Obj.cells ((List.take 0 ([(Value.int .i64 (0 : Int)), (Value.string (ByteArray.mk #[])), (Value.slice none 0 0)]) ++ l16_ ++ List.drop 3 ([(Value.int .i64 (0 : Int)), (Value.string (ByteArray.mk #[])), (Value.slice none 0 0)])).toArray) 25) fun h17_ => Ext h14_ h17_ ∧ (Run Tryd.prog 13 #[v11_, (Value.slice A1 n1 c1), (Value.slice (some ⟨Array.size h14_, 0, none⟩) 1 1)] h17_ fun v18_ h19_ => Run Tryd.prog 10 #[v18_] h19_ fun v20_ h21_ => ∃ s22_, v20_ = (Value.string s22_) ∧ splitB (ByteArray.toList s15_ == ByteArray.toList s22_) (∃ v23_, ldv true 3 h21_ a7 = some v23_ ∧ ∃ v24_, ldv true 3 h21_ a7 = some v24_ ∧ Run Tryd.prog 30 #[v23_] h21_ fun v25_ h26_ => Ext h21_ h26_ ∧ (Run Tryd.prog 10 #[v25_] h26_ fun v27_ h28_ => ∃ s29_, v27_ = (Value.string s29_) ∧ Ext h26_ h28_ ∧ (Run Tryd.prog 10 #[v24_] h28_ fun v30_ h31_ => ∃ s32_, v30_ = (Value.string s32_) ∧ R (Value.bool (ByteArray.toList s29_ == ByteArray.toList s32_)) h31_))) (Ext h21_ h21_ ∧ (Ext h21_ h21_ ∧ (R (Value.bool false) h21_))))))) ∧ (∃ l33_ : List Value, v12_ = Value.agg l33_.toArray ∧ l33_.length = 3 ∧ (newH h8_ (Obj.cells ((List.take 0 ([(Value.int .i64 (0 : Int)), (Value.string (ByteArray.mk #[])), (Value.slice none 0 0)]) ++ l33_ ++ List.drop 3 ([(Value.int .i64 (0 : Int)), (Value.string (ByteArray.mk #[])), (Value.slice none 0 0)])).toArray) 25) fun h34_ => Ext h8_ h34_ ∧ (Run Tryd.prog 10 #[v10_] h34_ fun v35_ h36_ => ∃ s37_, v35_ = (Value.string s37_) ∧ Ext h34_ h36_ ∧ (Run Tryd.prog 13 #[v11_, (Value.slice A1 n1 c1), (Value.slice (some ⟨Array.size h8_, 0, none⟩) 1 1)] h36_ fun v38_ h39_ => Run Tryd.prog 10 #[v38_] h39_ fun v40_ h41_ => ∃ s42_, v40_ = (Value.string s42_) ∧ splitB (ByteArray.toList s37_ == ByteArray.toList s42_) (∃ v43_, ldv true 3 h41_ a7 = some v43_ ∧ ∃ v44_, ldv true 3 h41_ a7 = some v44_ ∧ Run Tryd.prog 30 #[v43_] h41_ fun v45_ h46_ => Ext h41_ h46_ ∧ (Run Tryd.prog 10 #[v45_] h46_ fun v47_ h48_ => ∃ s49_, v47_ = (Value.string s49_) ∧ Ext h46_ h48_ ∧ (Run Tryd.prog 10 #[v44_] h48_ fun v50_ h51_ => ∃ s52_, v50_ = (Value.string s52_) ∧ R (Value.bool (ByteArray.toList s49_ == ByteArray.toList s52_)) h51_))) (Ext h41_ h41_ ∧ (Ext h41_ h41_ ∧ (R (Value.bool false) h41_))))))))
set_option maxRecDepth 100000 in
theorem f4.j1_in {R : Value → Heap → Prop} {A1 : Option Addr} {n1 : Nat} {c1 : Nat} {a7 : Addr} {a8 : Addr} {h : Heap} (H : f4.j1T R A1 n1 c1 a7 a8 h) : f4.j1 R A1 n1 c1 a7 a8 h :=
  pt_intro mixed f4.good (Eq.mpr (show (Fwd Tryd.prog f4.T f4.kp Tryd.f4 R [true, true, true, true, true, true, true, true] (mkFr [(1, (Value.slice A1 n1 c1)), (7, (Value.pointer (some a7))), (8, (Value.pointer (some a8)))]) h) = (f4.j1T R A1 n1 c1 a7 a8 h) by kernel_rfl) H)
set_option maxRecDepth 100000 in
def f4.runT (R : Value → Heap → Prop) (v0 : Value) (A1 : Option Addr) (n1 : Nat) (c1 : Nat) (v2 : Value) (v3 : Value) (s4 : ByteArray) (h : Heap) : Prop :=
  newH h (Obj.cells ((v0).cells) 54) fun h1_ => newH h1_ (Obj.cells ((v2).cells) 25) fun h2_ => newH h2_ (Obj.cells ((v3).cells) 25) fun h3_ => newH h3_ (Obj.cells #[(Value.string s4)] 9) fun h4_ => ∃ v5_, ldv true 8 h4_ (⟨Array.size h, 0, none⟩) = some v5_ ∧ Run Tryd.prog 20 #[v5_] h4_ fun v6_ h7_ => ∃ b8_, v6_ = (Value.bool b8_) ∧ splitB (!b8_) (R (Value.bool true) h7_) (∃ v9_, ldv true 8 h7_ (⟨Array.size h, 0, none⟩) = some v9_ ∧ Run Tryd.prog 21 #[v9_] h7_ fun v10_ h11_ => ∃ x12_, ∃ x13_, v10_ = (Value.tuple #[(Value.int .i64 x12_), (Value.int .i64 x13_)]) ∧ ∃ v14_, ldv true 8 h11_ (⟨Array.size h, 0, none⟩) = some v14_ ∧ Run Tryd.prog 22 #[v14_] h11_ fun v15_ h16_ => newH h16_ (Obj.cells #[(Value.int .i64 (0 : Int)), (Value.int .i64 (0 : Int))] 59) fun h17_ => ∃ l19_ : List Value, v15_ = Value.agg l19_.toArray ∧ l19_.length = 2 ∧ ∃ h18_, stH h17_ (⟨Array.size h16_, 0, none⟩) l19_ 0 = some h18_ ∧ ∃ v20_, ldv true 8 h18_ (⟨Array.size h, 0, none⟩) = some v20_ ∧ ∃ v21_, ldv false 1 h18_ (⟨Array.size h3_, 0, none⟩) = some v21_ ∧ ∃ s22_, v21_ = (Value.string s22_) ∧ Run Tryd.prog 23 #[v20_, (Value.string s22_)] h18_ fun v23_ h24_ => ∃ v25_, ∃ x26_, v23_ = (Value.tuple #[v25_, (Value.int .i64 x26_)]) ∧ newH h24_ (Obj.cells #[(Value.string (ByteArray.mk #[])), (Value.slice none 0 0), (Value.slice none 0 0)] 63) fun h27_ => ∃ l29_ : List Value, v25_ = Value.agg l29_.toArray ∧ l29_.length = 3 ∧ ∃ h28_, stH h27_ (⟨Array.size h24_, 0, none⟩) l29_ 0 = some h28_ ∧ ∃ v30_, ldv false 1 h28_ (Addr.add (⟨Array.size h, 0, none⟩) 3) = some v30_ ∧ ∃ A31_, ∃ n31_, ∃ c31_, v30_ = (Value.slice A31_ n31_ c31_) ∧ Run Tryd.prog 24 #[(Value.slice A31_ n31_ c31_), (Value.func (.func 25) #[] #[(Value.pointer (some ⟨Array.size h3_, 0, none⟩))])] h28_ fun v32_ h33_ => ∃ x34_, v32_ = (Value.int .i64 x34_) ∧ ∃ v35_, ldv false 1 h33_ (⟨Array.size h16_, 0, none⟩) = some v35_ ∧ ∃ x36_, v35_ = (Value.int .i64 x36_) ∧ splitB (x12_ != x36_) (R (Value.bool false) h33_) (∃ v37_, ldv false 1 h33_ (Addr.add (⟨Array.size h16_, 0, none⟩) 1) = some v37_ ∧ ∃ x38_, v37_ = (Value.int .i64 x38_) ∧ splitB (x13_ != x38_) (R (Value.bool false) h33_) (splitB (decide (x34_ < (0 : Int))) (splitB (x26_ != (11 : Int)) (R (Value.bool false) h33_) (∃ v39_, ldv false 1 h33_ (⟨Array.size h24_, 0, none⟩) = some v39_ ∧ ∃ s40_, v39_ = (Value.string s40_) ∧ splitB (!(ByteArray.toList s40_ == ByteArray.toList (ByteArray.mk #[]))) (R (Value.bool false) h33_) (∃ v41_, ldv false 1 h33_ (Addr.add (⟨Array.size h24_, 0, none⟩) 2) = some v41_ ∧ ∃ A42_, ∃ n42_, ∃ c42_, v41_ = (Value.slice A42_ n42_ c42_) ∧ splitB (decide (((n42_ : Nat) : Int) > (0 : Int))) (R (Value.bool false) h33_) (splitB (decide (x34_ ≥ (0 : Int))) (splitB (x26_ != (0 : Int)) (R (Value.bool false) h33_) (∃ v43_, ldv false 1 h33_ (⟨Array.size h24_, 0, none⟩) = some v43_ ∧ ∃ s44_, v43_ = (Value.string s44_) ∧ ∃ v45_, ldv false 1 h33_ (⟨Array.size h3_, 0, none⟩) = some v45_ ∧ ∃ s46_, v45_ = (Value.string s46_) ∧ splitB (!(ByteArray.toList s44_ == ByteArray.toList s46_)) (R (Value.bool false) h33_) (∃ v47_, ldv false 1 h33_ (Addr.add (⟨Array.size h24_, 0, none⟩) 2) = some v47_ ∧ ∃ A48_, ∃ n48_, ∃ c48_, v47_ = (Value.slice A48_ n48_ c48_) ∧ ∃ v49_, ldv false 1 h33_ (Addr.add (⟨Array.size h, 0, none⟩) 3) = some v49_ ∧ ∃ A50_, ∃ n50_, ∃ c50_, v49_ = (Value.slice A50_ n50_ c50_) ∧ ptrOk A50_ fun a51_ => 0 ≤ x34_ ∧ x34_ < ((n50_ : Nat) : Int) ∧ (∃ v52_, ldv false 1 h33_ (Addr.add (Addr.add a51_ (Int.toNat x34_ * 3)) 2) = some v52_ ∧ ∃ A53_, ∃ n53_, ∃ c53_, v52_ = (Value.slice A53_ n53_ c53_) ∧ splitB (((n48_ : Nat) : Int) != ((n53_ : Nat) : Int)) (R (Value.bool false) h33_) (f4.j0 R A1 n1 c1 (⟨Array.size h, 0, none⟩) (⟨Array.size h1_, 0, none⟩) (⟨Array.size h2_, 0, none⟩) h33_))))) (f4.j0 R A1 n1 c1 (⟨Array.size h, 0, none⟩) (⟨Array.size h1_, 0, none⟩) (⟨Array.size h2_, 0, none⟩) h33_))))) (splitB (decide (x34_ ≥ (0 : Int))) (splitB (x26_ != (0 : Int)) (R (Value.bool false) h33_) (∃ v54_, ldv false 1 h33_ (⟨Array.size h24_, 0, none⟩) = some v54_ ∧ ∃ s55_, v54_ = (Value.string s55_) ∧ ∃ v56_, ldv false 1 h33_ (⟨Array.size h3_, 0, none⟩) = some v56_ ∧ ∃ s57_, v56_ = (Value.string s57_) ∧ splitB (!(ByteArray.toList s55_ == ByteArray.toList s57_)) (R (Value.bool false) h33_) (∃ v58_, ldv false 1 h33_ (Addr.add (⟨Array.size h24_, 0, none⟩) 2) = some v58_ ∧ ∃ A59_, ∃ n59_, ∃ c59_, v58_ = (Value.slice A59_ n59_ c59_) ∧ ∃ v60_, ldv false 1 h33_ (Addr.add (⟨Array.size h, 0, none⟩) 3) = some v60_ ∧ ∃ A61_, ∃ n61_, ∃ c61_, v60_ = (Value.slice A61_ n61_ c61_) ∧ ptrOk A61_ fun a62_ => 0 ≤ x34_ ∧ x34_ < ((n61_ : Nat) : Int) ∧ (∃ v63_, ldv false 1 h33_ (Addr.add (Addr.add a62_ (Int.toNat x34_ * 3)) 2) = some v63_ ∧ ∃ A64_, ∃ n64_, ∃ c64_, v63_ = (Value.slice A64_ n64_ c64_) ∧ splitB (((n59_ : Nat) : Int) != ((n64_ : Nat) : Int)) (R (Value.bool false) h33_) (f4.j0 R A1 n1 c1 (⟨Array.size h, 0, none⟩) (⟨Array.size h1_, 0, none⟩) (⟨Array.size h2_, 0, none⟩) h33_))))) (f4.j0 R A1 n1 c1 (⟨Array.size h, 0, none⟩) (⟨Array.size h1_, 0, none⟩) (⟨Array.size h2_, 0, none⟩) h33_)))))
set_option maxRecDepth 100000 in
theorem f4.run {R : Value → Heap → Prop} {v0 : Value} {A1 : Option Addr} {n1 : Nat} {c1 : Nat} {v2 : Value} {v3 : Value} {s4 : ByteArray} {h : Heap} (H : f4.runT R v0 A1 n1 c1 v2 v3 s4 h) : Run Tryd.prog 4 #[v0, (Value.slice A1 n1 c1), v2, v3, (Value.string s4)] h R :=
  run_of mixed Tryd.func4 (by kernel_rfl) (by kernel_rfl) f4.good (Eq.mpr (show (Fwd Tryd.prog f4.T f4.kp Tryd.f4 R [] (mkFr (argL [v0, (Value.slice A1 n1 c1), v2, v3, (Value.string s4)] 0)) h) = (f4.runT R v0 A1 n1 c1 v2 v3 s4 h) by kernel_rfl) H)
end Go.Proofs.YtdlihfedhojdgaaDoor.Fw

end
section
namespace Go.Hw
open Go
section tests
variable {A B : Prop}
theorem split_dec {p : Prop} [Decidable p] (hA : p → A) (hB : ¬ p → B) : splitB (decide p) A B := by
  by_cases h : p
  · rw [decide_eq_true h]; exact hA h
  · rw [decide_eq_false h]; exact hB h
theorem split_not {b : Bool} (h : splitB b B A) : splitB (!b) A B := by cases b <;> exact h
theorem split_t (h : A) : splitB true A B := h
theorem split_f (h : B) : splitB false A B := h
end tests
theorem wrap_in {n : Int} (h0 : -9223372036854775808 ≤ n) (h1 : n ≤ 9223372036854775807) : IntKind.wrap .i64 n = n := by
  rcases Int.le_total 0 n with h | h
  · exact wrap_nat h h1
  · rcases (show n = 0 ∨ n < 0 by omega) with h2 | h2
    · subst h2; rfl
    have e : n % (2 ^ 64 : Int) = n + 2 ^ 64 := by omega
    simp only [IntKind.wrap, IntKind.signed, IntKind.bits, e, Bool.true_and]
    rw [if_pos (by simp only [decide_eq_true_eq]; omega)]
    omega
theorem add_add (a : Addr) (m n : Nat) : (a.add m).add n = a.add (m + n) := by
  unfold Addr.add
  by_cases h1 : m = 0
  · subst h1; simp
  · by_cases h2 : n = 0
    · subst h2; simp
    · have h3 : m + n ≠ 0 := by omega
      simp only [if_neg h1, if_neg h2, if_neg h3]
      rw [Nat.add_assoc]
theorem add_block (a : Addr) (n : Nat) : (a.add n).block = a.block := by unfold Addr.add; split <;> rfl
theorem add_off (a : Addr) (n : Nat) : (a.add n).off = a.off + n := by
  unfold Addr.add
  split
  · rename_i h; subst h; rfl
  · rfl
theorem add_spot {a : Addr} (n : Nat) (h : a.spot = none) : (a.add n).spot = none := by unfold Addr.add; split; exact h; rfl
def Blk (h : Heap) (b : Nat) (c : List Value) (t : TypeId) : Prop := h[b]? = some (.cells c.toArray t (0, 0))
def Only (h h' : Heap) (b : Nat) : Prop := h'.size = h.size ∧ ∀ i, i ≠ b → h'[i]? = h[i]?
section
variable {h h' : Heap} {b : Nat} {c : List Value} {t : TypeId}
theorem Blk.lt (hb : Blk h b c t) : b < h.size := (Array.getElem?_eq_some_iff.1 hb).1
theorem Blk.cell (hb : Blk h b c t) {a : Addr} {v : Value} (h1 : a.block = b) (h2 : a.spot = none) (h3 : c[a.off]? = some v) : cellH h a = some v := by
  unfold cellH Blk at *
  rw [h1, hb, h2]
  simpa using h3
theorem Blk.cells (hb : Blk h b c t) {a : Addr} (h1 : a.block = b) (h2 : a.spot = none) : ∀ (n i : Nat), a.off + i + n ≤ c.length → cellsH h a i n = some ((c.drop (a.off + i)).take n) := by
  intro n
  induction n with
  | zero => intro i _; simp [cellsH]
  | succ n ih =>
    intro i hle
    have hlt : a.off + i < c.length := by omega
    have h3 : c[(a.add i).off]? = some c[a.off + i] := by rw [add_off]; exact List.getElem?_eq_getElem hlt
    simp only [cellsH, hb.cell (a := a.add i) (by rw [add_block]; exact h1) (add_spot i h2) h3, ih (i + 1) (by omega)]
    rw [List.drop_eq_getElem_cons hlt, List.take_succ_cons]
    rfl
theorem Blk.st (hb : Blk h b c t) {a : Addr} {v : Value} (h1 : a.block = b) (h2 : a.spot = none) (h3 : a.off < c.length) (h4 : oneCell v True) :
    ∃ h', st1 h a v = some h' ∧ Blk h' b (c.set a.off v) t ∧ Only h h' b := by
  have hc : cellH h a = some c[a.off] := hb.cell h1 h2 (List.getElem?_eq_getElem h3)
  have hf : frozenH h a = false := by
    unfold frozenH
    rw [h1, show h[b]? = some (.cells c.toArray t (0, 0)) from hb]
    simp
  refine ⟨setH h a v, ?_, ?_, ?_⟩
  · cases v <;> simp_all [st1, oneCell]
  · unfold Blk setH
    rw [Array.getElem?_modify, if_pos h1.symm.symm, show h[b]? = some (.cells c.toArray t (0, 0)) from hb]
    simp [h2]
  · refine ⟨by simp [setH], fun i hi => ?_⟩
    unfold setH
    rw [Array.getElem?_modify, if_neg (by rw [h1]; exact fun e => hi e.symm)]
theorem Blk.new (h : Heap) (c : Array Value) (t : TypeId) : Blk (h.push (.cells c t)) h.size c.toList t := by
  unfold Blk; simp
theorem Ext.push (h : Heap) (o : Obj) : Ext h (h.push o) := ⟨by simp, fun i hi => by rw [Array.getElem?_push, if_neg (by omega)]⟩
theorem Only.refl (h : Heap) (b : Nat) : Only h h b := ⟨rfl, fun _ _ => rfl⟩
theorem Only.trans {h'' : Heap} {b : Nat} (o : Only h h' b) (p : Only h' h'' b) : Only h h'' b := ⟨p.1.trans o.1, fun i hi => (p.2 i hi).trans (o.2 i hi)⟩
end
def Rd {α : Type} (sz : Nat) (E : Heap → α → List Value → Prop) (h : Heap) (A : Option Addr) (l : List α) : Prop :=
  ∀ i (hi : i < l.length), ∃ a cs, A = some a ∧ cellsH h (a.add (i * sz)) 0 sz = some cs ∧ E h l[i] cs
def eInt (k : IntKind) (_ : Heap) (x : Int) (cs : List Value) : Prop := cs = [.int k x]
def eStr (_ : Heap) (x : ByteArray) (cs : List Value) : Prop := cs = [.string x]
def eRow {α : Type} (sz : Nat) (E : Heap → α → List Value → Prop) (h : Heap) (l : List α) (cs : List Value) : Prop := ∃ A c, cs = [.slice A l.length c] ∧ l.length ≤ c ∧ Rd sz E h A l
section
variable {α : Type} {sz : Nat} {E : Heap → α → List Value → Prop} {h h' : Heap} {A : Option Addr} {l : List α}
theorem Rd.nil : Rd sz E h A ([] : List α) := fun i hi => by cases hi
end
theorem CallF.of {P : Program} {f : FuncId} {first captured : Array Value} {args : List Value} {h : Heap} {R : Value → Heap → Prop} (l : List Value) (hc : calleeOk P f = true) (hl : first.toList ++ args ++ captured.toList = l) (hr : Run P f l.toArray h R) :
    CallF P (.func (.func f) first captured) args h R := by
  unfold CallF
  simp only [hc, hl]
  exact hr
theorem newH_in {h : Heap} {c : Array Value} {t : TypeId} {K : Heap → Prop} (H : ∀ h', Blk h' h.size c.toList t → Ext h h' → h'.size = h.size + 1 → K h') : newH h (.cells c t) K :=
  H _ (Blk.new _ _ _) (Ext.push _ _) (by simp)
theorem CallF.mono {P : Program} {v : Value} {args : List Value} {h : Heap} {R R' : Value → Heap → Prop} (hh : CallF P v args h R) (hr : ∀ v h, R v h → R' v h) : CallF P v args h R' := by
  unfold CallF at hh ⊢
  split at hh
  · split at hh
    · exact hh.mono hr
    · exact ExtF.mono hh hr
  · exact hh.elim
def idxOf {α : Type} (p : α → Bool) (l : List α) : Int := match l.findIdx? p with | some i => i | none => -1
theorem idxOf_ge {α : Type} (p : α → Bool) (l : List α) : decide (idxOf p l ≥ 0) = l.any p := by
  unfold idxOf
  cases h : l.findIdx? p with
  | none =>
    rw [List.findIdx?_eq_none_iff] at h
    have : l.any p = false := by simpa using h
    simp [this]
  | some i =>
    have hs : (l.findIdx? p).isSome = true := by rw [h]; rfl
    rw [List.findIdx?_isSome] at hs
    simp [hs]
end Go.Hw

end
section
namespace Go.Hw
open Go Go.RowKit
theorem below_of {W W' : World} (e : Ext W.heap W'.heap) (s : Same W W') : Below W.heap.size W W' := ⟨s.os, s.tape, s.output, e.1, e.2⟩
section
variable {H : Type} {enc : TypeId × Value → H} {P : Program} {W : World}
theorem cells_of {base : Nat} {a : Addr} {n : Nat} {cs : List Value} (hc : W.cells? base a n = some cs) : cellsH W.heap a 0 n = some cs := by
  obtain ⟨_, hlen, hget⟩ := World.cells?_some hc
  have key : ∀ (m i : Nat), i + m = n → cellsH W.heap a i m = some (cs.drop i) := by
    intro m
    induction m with
    | zero =>
      intro i hi
      rw [List.drop_eq_nil_of_le (by omega)]
      rfl
    | succ m ih =>
      intro i hi
      have hlt : i < cs.length := by omega
      have h1 : cellH W.heap (a.add i) = some cs[i] := (hget i (by omega)).trans (List.getElem?_eq_getElem hlt)
      simp only [cellsH, h1, ih (i + 1) (by omega)]
      rw [List.drop_eq_getElem_cons hlt]
  simpa using key n 0 (by omega)
def Tells {α : Type} (enc : TypeId × Value → H) (P : Program) (W : World) (t : TypeId) (E : Heap → α → List Value → Prop) (Q : α → Prop) : Prop :=
  ∀ (fuel : Nat) (cs : List Value) (x : DataW H × List MemPlace), DataW.trod enc P W 0 (fun _ => true) true fuel t cs = some x → (x.1.weights P t).all (· ≤ reachBytes) = true → ∃ a, E W.heap a cs ∧ Q a
theorem tells_int {t : TypeId} {k : IntKind} (hu : P.underlying t = some (.int k)) : Tells enc P W t (eInt k) (fun x => (Lit.int k x).wf = true) := by
  intro fuel cs x h _
  obtain ⟨n, h1, _, h3⟩ := DataW.trod_int hu h
  exact ⟨n, h1, h3⟩
theorem tells_str {t : TypeId} (hu : P.underlying t = some .string) : Tells enc P W t eStr (fun s => s.size ≤ reachBytes) := by
  intro fuel cs x h hw
  obtain ⟨s, h1, h2, _⟩ := DataW.trod_string hu h
  refine ⟨s, h1, ?_⟩
  rw [h2] at hw
  simp only [DataW.weights, List.all_cons, List.all_nil, Bool.and_true, decide_eq_true_eq] at hw
  simpa using hw
theorem weightsAll_all {e : TypeId} : ∀ (l : List (DataW H)), (DataW.weightsAll P e l).all (· ≤ reachBytes) = true → ∀ d ∈ l, (d.weights P e).all (· ≤ reachBytes) = true := by
  intro l
  induction l with
  | nil => intro _ d hd; cases hd
  | cons x l ih =>
    intro h d hd
    simp only [DataW.weightsAll, List.all_append, Bool.and_eq_true] at h
    rcases List.mem_cons.1 hd with rfl | hd
    · exact h.1
    · exact ih h.2 d hd
theorem list_choose {α : Type} {n : Nat} {p : Nat → α → Prop} (h : ∀ i, i < n → ∃ x, p i x) : ∃ l : List α, l.length = n ∧ ∀ i (hi : i < l.length), p i l[i] := by
  induction n with
  | zero => exact ⟨[], rfl, fun i hi => by cases hi⟩
  | succ n ih =>
    obtain ⟨l, h1, h2⟩ := ih fun i hi => h i (by omega)
    obtain ⟨x, hx⟩ := h n (by omega)
    refine ⟨l ++ [x], by simp [h1], fun i hi => ?_⟩
    rw [List.length_append, List.length_singleton] at hi
    by_cases hin : i < l.length
    · rw [List.getElem_append_left hin]; exact h2 i hin
    · have : i = l.length := by omega
      subst this
      rw [List.getElem_append_right (Nat.le_refl _)]
      simp only [Nat.sub_self, List.getElem_cons_zero]
      rw [h1]; exact hx
theorem tells_slice {α : Type} {t e : TypeId} {sz B : Nat} {E : Heap → α → List Value → Prop} {Q : α → Prop} (hu : P.underlying t = some (.slice e)) (hc : P.cellsOf e = sz) (hB : P.bytesOf e = B) (he : Tells enc P W e E Q) :
    Tells enc P W t (eRow sz E) (fun l => l.length * B ≤ reachBytes ∧ ∀ a ∈ l, Q a) := by
  intro fuel cs x h hw
  rcases DataW.trod_slice hu h with ⟨h1, h2⟩ | ⟨a, len, cap, elems, rest, n, _, h1, h2, _, hl, hm, hlen, hel, _, _⟩
  · exact ⟨[], ⟨none, 0, h1, Nat.le_refl _, Rd.nil⟩, by simp, fun a ha => by cases ha⟩
  · rw [h2] at hw
    simp only [DataW.weights, hu, List.all_cons, List.all_append, Bool.and_eq_true, decide_eq_true_eq] at hw
    obtain ⟨hw1, hw2, _⟩ := hw
    have hall := weightsAll_all _ hw2
    obtain ⟨l, h3, h4⟩ := list_choose (n := len) (p := fun i x => (∃ cs', cellsH W.heap (a.add (i * sz)) 0 sz = some cs' ∧ E W.heap x cs') ∧ Q x) (fun i hi => by
      have h5 := hel i hi
      have hlt : i < elems.length := by omega
      rw [List.getElem?_eq_getElem hlt] at h5
      obtain ⟨cs', h6, h7⟩ := Option.bind_eq_some_iff.1 h5
      obtain ⟨x, h8, h9⟩ := he _ _ _ h7 (hall _ (List.mem_map.2 ⟨_, List.getElem_mem hlt, rfl⟩))
      rw [hc] at h6
      exact ⟨x, ⟨cs', cells_of h6, h8⟩, h9⟩)
    refine ⟨l, ⟨some a, cap, by rw [h1, h3], by omega, fun i hi => ?_⟩, ?_, fun x hx => ?_⟩
    · obtain ⟨⟨cs', h5, h6⟩, _⟩ := h4 i hi
      exact ⟨a, cs', rfl, h5, h6⟩
    · rw [hB] at hw1
      have : l.length ≤ (List.map (·.1) elems).length + (List.map (·.1) rest).length := by simp; omega
      exact Nat.le_trans (Nat.mul_le_mul_right _ this) hw1
    · obtain ⟨i, hi, rfl⟩ := List.getElem_of_mem hx
      exact (h4 i hi).2
end
theorem wf_i64 {x : Int} (h : (Lit.int .i64 x).wf = true) : -9223372036854775808 ≤ x ∧ x ≤ 9223372036854775807 := by
  simpa [Lit.wf, IntKind.min, IntKind.max, IntKind.signed, IntKind.bits] using h
end Go.Hw

end
section
namespace Go.Hw
open Go
theorem cellsH_length {h : Heap} {a : Addr} : ∀ {n i : Nat} {cs : List Value}, cellsH h a i n = some cs → cs.length = n := by
  intro n
  induction n with
  | zero => intro i cs hc; simp only [cellsH, Option.some.injEq] at hc; subst hc; rfl
  | succ n ih =>
    intro i cs hc
    simp only [cellsH] at hc
    split at hc
    · split at hc
      · rename_i vs hv; cases hc; simp [ih hv]
      · cases hc
    · cases hc
def Flat (v : Value) : Prop := oneCell v True
theorem Blk.stH {b : Nat} {t : TypeId} : ∀ (xs : List Value) {h : Heap} {p q r : List Value} {a : Addr} {i : Nat}, Blk h b (p ++ q ++ r) t → a.block = b → a.spot = none → a.off + i = p.length → q.length = xs.length → (∀ v ∈ xs, Flat v) →
    ∃ h', stH h a xs i = some h' ∧ Blk h' b (p ++ xs ++ r) t ∧ Only h h' b := by
  intro xs
  induction xs with
  | nil =>
    intro h p q r a i hb h1 h2 h3 h4 h5
    rw [List.length_eq_zero_iff.1 h4] at hb
    exact ⟨h, rfl, hb, .refl _ _⟩
  | cons v xs ih =>
    intro h p q r a i hb h1 h2 h3 h4 h5
    obtain ⟨u, q', rfl⟩ : ∃ u q', q = u :: q' := by cases q with | nil => cases h4 | cons u q' => exact ⟨u, q', rfl⟩
    have hoff : (a.add i).off = p.length := by rw [add_off, h3]
    obtain ⟨h', s1, b1, o1⟩ := hb.st (a := a.add i) (v := v) (by rw [add_block, h1]) (add_spot _ h2) (by rw [hoff]; simp) (h5 v (List.mem_cons_self ..))
    rw [hoff] at b1
    have e : (p ++ u :: q' ++ r).set p.length v = (p ++ [v]) ++ q' ++ r := by
      rw [List.append_assoc, List.set_append_right _ _ (Nat.le_refl _)]; simp
    rw [e] at b1
    obtain ⟨h'', s2, b2, o2⟩ := ih (p := p ++ [v]) (q := q') (r := r) (a := a) (i := i + 1) b1 h1 h2 (by simp; omega) (by simpa using h4) (fun x hx => h5 x (List.mem_cons_of_mem _ hx))
    refine ⟨h'', ?_, by simpa using b2, o1.trans o2⟩
    simp only [Go.Hw.stH, s1, s2]
theorem zcells_size (z : Array Value) (n : Nat) : (zcells z n).size = n * z.size := by
  unfold zcells Builtin.zeroCells
  simp
end Go.Hw

end
section
namespace Go.Hw
open Go Go.RowKit
theorem cellsH_get {h : Heap} {a : Addr} : ∀ {n i : Nat} {cs : List Value} {k : Nat} {v : Value}, cellsH h a i n = some cs → cs[k]? = some v → cellH h (a.add (i + k)) = some v := by
  intro n
  induction n with
  | zero => intro i cs k v hc hv; simp only [cellsH, Option.some.injEq] at hc; subst hc; cases hv
  | succ n ih =>
    intro i cs k v hc hv
    simp only [cellsH] at hc
    split at hc
    · rename_i u hu
      split at hc
      · rename_i vs hvs
        cases hc
        cases k with
        | zero => cases hv; exact hu
        | succ k => rw [show i + (k + 1) = i + 1 + k by omega]; exact ih hvs (by simpa using hv)
      · cases hc
    · cases hc
section
variable {α : Type} {sz : Nat} {E : Heap → α → List Value → Prop} {h h' : Heap} {A : Option Addr} {l : List α}
theorem cellsH_append {h : Heap} {a : Addr} : ∀ {m i n : Nat} {cs ds : List Value}, cellsH h a i m = some cs → cellsH h a (i + m) n = some ds → cellsH h a i (m + n) = some (cs ++ ds) := by
  intro m
  induction m with
  | zero => intro i n cs ds h1 h2; simp only [cellsH, Option.some.injEq] at h1; subst h1; simpa using h2
  | succ m ih =>
    intro i n cs ds h1 h2
    simp only [cellsH] at h1
    split at h1
    · rename_i u hu
      split at h1
      · rename_i vs hvs
        cases h1
        rw [show m + 1 + n = (m + n) + 1 by omega]
        have h3 := ih hvs (n := n) (ds := ds) (by rw [show i + 1 + m = i + (m + 1) by omega]; exact h2)
        simp only [cellsH, hu, h3, List.cons_append]
      · cases h1
    · cases h1
theorem cellsH_shift {h : Heap} {a : Addr} {j : Nat} : ∀ {n i : Nat}, cellsH h (a.add j) i n = cellsH h a (j + i) n := by
  intro n
  induction n with
  | zero => intro i; rfl
  | succ n ih =>
    intro i
    simp only [cellsH, add_add]
    rw [ih, Nat.add_assoc]
end
theorem Blk.stAll {h : Heap} {b : Nat} {c : List Value} {t : TypeId} (hb : Blk h b c t) (l : List Value) (hn : l.length = c.length) (hf : ∀ v ∈ l, Flat v) :
    ∃ h', Go.Hw.stH h ⟨b, 0, none⟩ l 0 = some h' ∧ Blk h' b l t ∧ Only h h' b := by
  obtain ⟨h', s1, b1, o1⟩ := Blk.stH l (p := []) (q := c) (r := []) (a := ⟨b, 0, none⟩) (i := 0) (by simpa using hb) rfl rfl rfl hn.symm hf
  exact ⟨h', s1, by simpa using b1, o1⟩
section
variable {P : Program} {d : Nat} {t : TypeId}
def flatB (P : Program) (t : TypeId) (x y : Value) : Option Bool :=
  match P.underlying t, x, y with
  | some (.int _), .int k a, .int k' b => match kindB k k' with | true => some (a == b) | false => none
  | some .bool, .bool a, .bool b => some (a == b)
  | some .string, .string a, .string b => some (a == b)
  | _, _, _ => none
end
section
variable {H : Type} {enc : TypeId × Value → H} {P : Program} {W : World}
def TellsF {α : Type} (enc : TypeId × Value → H) (P : Program) (W : World) (T o : Nat) (fs : List (TypeId × Nat)) (F : Heap → α → List Value → Prop) (Q : α → Prop) : Prop :=
  ∀ (n : Nat) (cs : List Value) (xs : List (DataW H × List MemPlace)), cs.length = T → xs.length = fs.length → (∀ (i : Nat) (f : TypeId × Nat), fs[i]? = some f → DataW.trod enc P W 0 (fun _ => true) true n f.1 ((cs.drop f.2).take (P.cellsOf f.1)) = xs[i]?) →
    (DataW.weightsEach P (fs.map (·.1)) (xs.map (·.1))).all (· ≤ reachBytes) = true → ∃ b, F W.heap b (cs.drop o) ∧ Q b
def eNil (_ : Heap) (_ : Unit) (cs : List Value) : Prop := cs = []
def eCons {α β : Type} (E : Heap → α → List Value → Prop) (F : Heap → β → List Value → Prop) (h : Heap) (x : α × β) (cs : List Value) : Prop := ∃ c1 c2, cs = c1 ++ c2 ∧ E h x.1 c1 ∧ F h x.2 c2
theorem tf_nil {T : Nat} : TellsF enc P W T T [] eNil (fun _ => True) := fun n cs xs hl _ _ _ => ⟨(), by unfold eNil; rw [List.drop_eq_nil_of_le (by omega)], trivial⟩
theorem tf_cons {α β : Type} {E : Heap → α → List Value → Prop} {F : Heap → β → List Value → Prop} {Q : α → Prop} {Q' : β → Prop} {T o s : Nat} {f : TypeId} {fs : List (TypeId × Nat)} (hs : P.cellsOf f = s)
    (he : Tells enc P W f E Q) (hf : TellsF enc P W T (o + s) fs F Q') : TellsF enc P W T o ((f, o) :: fs) (eCons E F) (fun x => Q x.1 ∧ Q' x.2) := by
  intro n cs xs hl hx hi hw
  cases xs with
  | nil => cases hx
  | cons x xs =>
    have h0 := hi 0 (f, o) rfl
    simp only [hs] at h0
    simp only [List.map_cons, DataW.weightsEach, List.all_append, Bool.and_eq_true] at hw
    obtain ⟨a, ha, qa⟩ := he n _ _ h0 hw.1
    obtain ⟨b, hb, qb⟩ := hf n cs xs hl (by simpa using hx) (fun i g hg => by simpa using hi (i + 1) g hg) hw.2
    exact ⟨(a, b), ⟨_, _, by rw [← List.drop_drop, List.take_append_drop], ha, hb⟩, qa, qb⟩
def shapeOf (P : Program) (t : TypeId) : Option (List (TypeId × Nat)) := match P.underlying t with | some (.struct fs) => some (fs.toList.map fun f => (f.type, f.offset)) | _ => none
theorem tells_struct {α : Type} {F : Heap → α → List Value → Prop} {Q : α → Prop} {t : TypeId} {fs : List (TypeId × Nat)} {T : Nat} (hs : shapeOf P t = some fs) (hc : P.cellsOf t = T) (hf : TellsF enc P W T 0 fs F Q) : Tells enc P W t F Q := by
  intro fuel cs x h hw
  unfold shapeOf at hs
  split at hs
  · rename_i fa hu
    cases hs
    obtain ⟨xs, n, _, rfl, hl, hlen, hi⟩ := DataW.trod_struct hu h
    simp only [DataW.weights, hu] at hw
    obtain ⟨b, hb, qb⟩ := hf n cs xs (by rw [hl, hc]) (by simpa using hlen) (fun i f hif => by
      rw [List.getElem?_map, Option.map_eq_some_iff] at hif
      obtain ⟨g, hg, rfl⟩ := hif
      exact hi i g (by simpa using hg)) (by rw [List.map_map]; exact hw)
    exact ⟨b, by simpa using hb, qb⟩
  · cases hs
theorem tells_map {α β : Type} {E : Heap → α → List Value → Prop} {F : Heap → β → List Value → Prop} {Q : α → Prop} {Q' : β → Prop} {t : TypeId} (he : Tells enc P W t E Q) (hm : ∀ a cs, E W.heap a cs → Q a → ∃ b, F W.heap b cs ∧ Q' b) : Tells enc P W t F Q' :=
  fun fuel cs x h hw => let ⟨a, ha, qa⟩ := he fuel cs x h hw; hm a cs ha qa
theorem okWide_agg_of {t : TypeId} {fs : List (TypeId × Nat)} {v : Value} {r : Reach} {base : Nat} (hs : shapeOf P t = some fs) (h : Value.okWide P W r base t v) : ∃ cs : List Value, v = .agg cs.toArray := by
  unfold shapeOf at hs
  split at hs
  · rename_i fa hu
    simp only [Value.okWide, hu] at h
    cases v <;> simp_all
    rename_i xs
    exact ⟨xs.toList, by simp⟩
  · cases hs
end
end Go.Hw

end
section
namespace Go.Hw
open Go
theorem ba_toList {a b : ByteArray} (h : a.toList = b.toList) : a = b := by
  rw [ByteArray.toList_eq, ByteArray.toList_eq] at h
  obtain ⟨⟨x⟩⟩ := a
  obtain ⟨⟨y⟩⟩ := b
  have : x = y := h
  rw [this]
end Go.Hw

end
section
namespace Go.Hw
open Go
end Go.Hw

end
section
namespace Go.Hw
open Go
end Go.Hw

end
section
namespace Go.Hw
open Go
def dead : Obj := .cells #[] 0 (0, 0)
def Live (m : Heap) (b : Nat) : Prop := ∃ o, m[b]? = some o ∧ o ≠ dead
def Sub (m h : Heap) : Prop := ∀ (b : Nat) (o : Obj), m[b]? = some o → o ≠ dead → h[b]? = some o
abbrev No : Nat → Prop := fun _ => False
section
variable {m m' h h' k h0 m0 : Heap} {b : Nat} {W W' : Nat → Prop}
theorem Sub.refl (h : Heap) : Sub h h := fun _ _ h _ => h
theorem Sub.trans (s : Sub m h) (t : Sub h k) : Sub m k := fun b o h1 h2 => t b o (s b o h1 h2) h2
theorem Sub.lt (s : Sub m h) (l : Live m b) : b < h.size := by
  obtain ⟨o, h1, h2⟩ := l
  exact (Array.getElem?_eq_some_iff.1 (s b o h1 h2)).1
theorem Sub.ext (s : Sub m h) (e : Ext h h') : Sub m h' := fun b o h1 h2 => by rw [e.2 b (s.lt ⟨o, h1, h2⟩)]; exact s b o h1 h2
theorem Sub.cell (s : Sub m h) {a : Addr} {v : Value} (hc : cellH m a = some v) : cellH h a = some v := by
  unfold cellH at hc
  split at hc
  · rename_i c e f hm
    have hne : (Obj.cells c e f) ≠ dead := by
      intro hd
      unfold dead at hd
      cases hd
      split at hc <;> simp at hc
    unfold cellH
    rw [s _ _ hm hne]; exact hc
  · cases hc
theorem Sub.cells (s : Sub m h) {a : Addr} : ∀ (n i : Nat) {vs : List Value}, cellsH m a i n = some vs → cellsH h a i n = some vs := by
  intro n
  induction n with
  | zero => intro i vs hc; exact hc
  | succ n ih =>
    intro i vs hc
    simp only [cellsH] at hc ⊢
    split at hc
    · rename_i v hv
      rw [s.cell hv]
      split at hc
      · rename_i us hu
        rw [ih _ hu]; exact hc
      · cases hc
    · cases hc
theorem Sub.blk (s : Sub m h) {c : List Value} {t : TypeId} (hb : Blk m b c t) (hc : c ≠ []) : Blk h b c t := by
  unfold Blk at *
  refine s _ _ hb ?_
  intro hd
  unfold dead at hd
  cases c with
  | nil => exact hc rfl
  | cons x c => simp at hd
end
structure Tell {α : Type} (sz : Nat) (E : Heap → α → List Value → Prop) : Prop where
  mono : ∀ m h x cs, Sub m h → E m x cs → E h x cs
  len : ∀ h x cs, E h x cs → cs.length = sz
  flat : ∀ h x cs, E h x cs → ∀ v ∈ cs, Flat v
theorem Flats.nil : ∀ v ∈ ([] : List Value), Flat v := fun v hv => by cases hv
theorem Flats.cons {x : Value} {l : List Value} (h : Flat x) (t : ∀ v ∈ l, Flat v) : ∀ v ∈ x :: l, Flat v := fun v hv => by
  rcases List.mem_cons.1 hv with rfl | hv
  · exact h
  · exact t v hv
theorem tell_int (k : IntKind) : Tell 1 (eInt k) := ⟨fun _ _ _ _ _ h => h, fun _ _ _ h => by rw [h]; rfl, fun _ _ _ h => by rw [h]; exact Flats.cons trivial Flats.nil⟩
theorem tell_str : Tell 1 eStr := ⟨fun _ _ _ _ _ h => h, fun _ _ _ h => by rw [h]; rfl, fun _ _ _ h => by rw [h]; exact Flats.cons trivial Flats.nil⟩
section
variable {α : Type} {sz : Nat} {E : Heap → α → List Value → Prop} {m m' h h' : Heap} {A : Option Addr} {l : List α} {c : Nat}
theorem Rd.sub (r : Rd sz E m A l) (T : Tell sz E) (s : Sub m h) : Rd sz E h A l := fun i hi =>
  let ⟨a, cs, h1, h2, h3⟩ := r i hi
  ⟨a, cs, h1, s.cells _ _ h2, T.mono _ _ _ _ s h3⟩
theorem tell_row (T : Tell sz E) : Tell 1 (eRow sz E) := ⟨fun _ _ _ _ s ⟨A, c, h1, h2, h3⟩ => ⟨A, c, h1, h2, h3.sub T s⟩, fun _ _ _ ⟨A, c, h1, _, _⟩ => by rw [h1]; rfl, fun _ _ _ ⟨A, c, h1, _, _⟩ => by rw [h1]; exact Flats.cons trivial Flats.nil⟩
end
structure St (W : Nat → Prop) (h0 m0 h m : Heap) : Prop where
  up : Sub m0 m
  s : Sub m h
  size : h0.size ≤ h.size
  fr : ∀ b, b < h0.size → ¬ W b → h[b]? = h0[b]?
  lv : ∀ b, b < h0.size → Live m b → Live m0 b ∨ W b
def fb (b0 b : Nat) : Prop := b = b0
def fp (A : Option Addr) (c : Nat) (b : Nat) : Prop := c ≠ 0 ∧ ∃ a, A = some a ∧ a.block = b
def Dj (F G : Nat → Prop) : Prop := ∀ b, F b → G b → False
section
variable {m m' h h' h0 m0 : Heap} {b b' : Nat} {W W' F G G' : Nat → Prop}
theorem Dj.symm (d : Dj F G) : Dj G F := fun b h1 h2 => d b h2 h1
theorem Dj.no : Dj No F := fun _ h _ => h
theorem St.refl (s : Sub m h) : St W h m h m := ⟨.refl _, s, Nat.le_refl _, fun _ _ _ => rfl, fun _ _ h => .inl h⟩
theorem St.of_ext (s : Sub m h) (e : Ext h h') : St W h m h' m := ⟨.refl _, s.ext e, e.1, fun b hb _ => e.2 b hb, fun _ _ h => .inl h⟩
theorem St.ext (S : St No h m h' m') : Ext h h' := ⟨S.size, fun b hb => S.fr b hb (fun h => h)⟩
theorem St.then (S : St W h0 m0 h m) (T : St W' h m h' m') (hw : ∀ b, b < h.size → W' b → h0.size ≤ b ∨ W b) : St W h0 m0 h' m' where
  up := S.up.trans T.up
  s := T.s
  size := Nat.le_trans S.size T.size
  fr b hb hn := by
    rw [T.fr b (by have := S.size; omega) (fun hw' => (hw b (by have := S.size; omega) hw').elim (fun h => by omega) hn)]
    exact S.fr b hb hn
  lv b hb hl := by
    rcases T.lv b (by have := S.size; omega) hl with h1 | h1
    · exact S.lv b hb h1
    · exact .inr ((hw b (by have := S.size; omega) h1).elim (fun h => by omega) id)
theorem St.grow (S : St W h0 m0 h m) (T : St No h m h' m') : St W h0 m0 h' m' := S.then T fun _ _ h => h.elim
theorem St.notLive (s : Sub m h) : ¬ Live m h.size := fun l => by have := s.lt l; omega
theorem St.only (s : Sub m h) (hn : ¬ Live m b) (o : Only h h' b) : St (fb b) h m h' m where
  up := .refl _
  s i x h1 h2 := by
    rw [o.2 i (fun e => hn (e ▸ ⟨x, h1, h2⟩))]; exact s i x h1 h2
  size := by rw [o.1]; exact Nat.le_refl _
  fr i _ hw := o.2 i hw
  lv i _ hl := .inl hl
end
open Classical in
noncomputable def addV (m h : Heap) (F : Nat → Prop) : Heap := Array.ofFn (n := h.size) fun i => if Live m i.1 ∨ F i.1 then h[i.1] else dead
section
variable {m h : Heap} {b : Nat} {F : Nat → Prop}
theorem addV_get (hb : b < h.size) (hl : Live m b ∨ F b) : (addV m h F)[b]? = h[b]? := by
  unfold addV
  rw [Array.getElem?_ofFn, dif_pos hb, if_pos hl, Array.getElem?_eq_getElem hb]
theorem addV_live (hl : Live (addV m h F) b) : (Live m b ∨ F b) ∧ b < h.size := by
  obtain ⟨o, h1, h2⟩ := hl
  unfold addV at h1
  rw [Array.getElem?_ofFn] at h1
  split at h1
  · rename_i hb
    refine ⟨?_, hb⟩
    by_cases hc : Live m b ∨ F b
    · exact hc
    · rw [if_neg hc] at h1; cases h1; exact (h2 rfl).elim
  · cases h1
theorem addV_sub : Sub (addV m h F) h := fun b o h1 h2 => by
  have := addV_live ⟨o, h1, h2⟩
  rw [← addV_get this.2 this.1]; exact h1
theorem addV_up (s : Sub m h) : Sub m (addV m h F) := fun b o h1 h2 => by
  rw [addV_get (s.lt ⟨o, h1, h2⟩) (.inl ⟨o, h1, h2⟩)]; exact s b o h1 h2
theorem St.settle (s : Sub m h) (F : Nat → Prop) : St F h m h (addV m h F) := ⟨addV_up s, addV_sub, Nat.le_refl _, fun _ _ _ => rfl, fun _ _ hl => (addV_live hl).1⟩
theorem Blk.settle {c : List Value} {t : TypeId} (hb : Blk h b c t) (hF : F b) : Blk (addV m h F) b c t := by
  unfold Blk at *
  rw [addV_get (Blk.lt hb) (.inr hF)]; exact hb
end
section
variable {α : Type} {sz : Nat} {E : Heap → α → List Value → Prop} {m m' h h' h0 m0 : Heap} {A : Option Addr} {l l' : List α} {c : Nat} {cs ds : List Value} {x y : α} {W W' : Nat → Prop}
def CsE (sz : Nat) (E : Heap → α → List Value → Prop) (m : Heap) : List α → List Value → Prop
  | [], cs => cs = []
  | x :: l, cs => ∃ c1 c2, cs = c1 ++ c2 ∧ c1.length = sz ∧ E m x c1 ∧ CsE sz E m l c2
theorem CsE.nil : CsE sz E m ([] : List α) [] := rfl
theorem CsE.cons {c1 : List Value} (h1 : E m x c1) (h2 : c1.length = sz) (h : CsE sz E m l cs) : CsE sz E m (x :: l) (c1 ++ cs) := ⟨c1, cs, rfl, h2, h1, h⟩
theorem CsE.len : ∀ {l : List α} {cs : List Value}, CsE sz E m l cs → cs.length = l.length * sz := by
  intro l
  induction l with
  | nil => intro cs h; rw [show cs = [] from h]; simp
  | cons x l ih => rintro cs ⟨c1, c2, rfl, h1, h2, h3⟩; rw [List.length_append, ih h3, h1, List.length_cons, Nat.succ_mul, Nat.add_comm]
theorem CsE.get : ∀ {l : List α} {cs : List Value} {i : Nat}, CsE sz E m l cs → l[i]? = some y → E m y ((cs.drop (i * sz)).take sz) ∧ i * sz + sz ≤ cs.length := by
  intro l
  induction l with
  | nil => intro cs i h h'; cases h'
  | cons x l ih =>
    rintro cs i ⟨c1, c2, rfl, h1, h2, h3⟩ hy
    cases i with
    | zero =>
      cases hy
      simp only [Nat.zero_mul, List.drop_zero]
      rw [← h1, List.take_left]
      exact ⟨h2, by simp⟩
    | succ i =>
      have := ih (i := i) h3 (by simpa using hy)
      rw [show (i + 1) * sz = c1.length + i * sz by rw [h1, Nat.succ_mul, Nat.add_comm], ← List.drop_drop, List.drop_left, List.length_append]
      exact ⟨this.1, by omega⟩
theorem CsE.set {c1 : List Value} (hx : E m x c1) (hz : c1.length = sz) : ∀ {l : List α} {cs : List Value} {i : Nat}, CsE sz E m l cs → i < l.length → CsE sz E m (l.set i x) (cs.take (i * sz) ++ c1 ++ cs.drop (i * sz + sz)) := by
  intro l
  induction l with
  | nil => intro cs i h h'; cases h'
  | cons y l ih =>
    rintro cs i ⟨d1, d2, rfl, h1, h2, h3⟩ hi
    cases i with
    | zero =>
      simp only [Nat.zero_mul, List.take_zero, List.nil_append, Nat.zero_add, List.set_cons_zero]
      rw [← h1, List.drop_left]
      exact ⟨c1, d2, rfl, by rw [hz, h1], hx, by rw [h1]; exact h3⟩
    | succ i =>
      have := ih (i := i) h3 (by simpa using hi)
      rw [show (i + 1) * sz = d1.length + i * sz by rw [h1, Nat.succ_mul, Nat.add_comm], List.take_length_add_append, show d1.length + i * sz + sz = d1.length + (i * sz + sz) by omega, List.drop_length_add_append, List.set_cons_succ]
      exact ⟨d1, _, by simp [List.append_assoc], h1, h2, this⟩
theorem Rd.tail (r : Rd sz E m A (x :: l)) : ∀ a, A = some a → Rd sz E m (some (a.add sz)) l := by
  intro a ha i hi
  obtain ⟨a', cs, h1, h2, h3⟩ := r (i + 1) (by simpa using hi)
  rw [ha] at h1; cases h1
  refine ⟨_, cs, rfl, ?_, h3⟩
  rw [add_add, show sz + i * sz = (i + 1) * sz by rw [Nat.succ_mul, Nat.add_comm]]; exact h2
theorem Rd.cse (T : Tell sz E) : ∀ {l : List α} {a : Addr}, Rd sz E m (some a) l → ∃ cs, cellsH m a 0 (l.length * sz) = some cs ∧ CsE sz E m l cs := by
  intro l
  induction l with
  | nil => intro a r; exact ⟨[], by simp [cellsH], rfl⟩
  | cons x l ih =>
    intro a r
    obtain ⟨cs, h1, h2⟩ := ih (r.tail a rfl)
    obtain ⟨a', c1, h3, h4, h5⟩ := r 0 (by simp)
    cases h3
    rw [Nat.zero_mul, show a.add 0 = a from rfl] at h4
    refine ⟨c1 ++ cs, ?_, c1, cs, rfl, T.len _ _ _ h5, h5, h2⟩
    rw [List.length_cons, Nat.succ_mul, Nat.add_comm]
    refine cellsH_append h4 ?_
    rw [cellsH_shift] at h1
    simpa using h1
theorem CsE.rd {b : Nat} {t : TypeId} {pre rest : List Value} (hb : Blk h b (pre ++ cs ++ rest) t) (hc : CsE sz E m l cs) (hm : ∀ x cs, E m x cs → E h x cs) : Rd sz E h (some ⟨b, pre.length, none⟩) l := by
  intro i hi
  have hg := hc.get (List.getElem?_eq_getElem hi)
  refine ⟨_, _, rfl, ?_, hm _ _ hg.1⟩
  have := hb.cells (a := (⟨b, pre.length, none⟩ : Addr).add (i * sz)) (by rw [add_block]) (add_spot _ rfl) sz 0 (by rw [add_off, List.length_append, List.length_append]; simp only [Nat.add_zero]; omega)
  rw [this, add_off]
  simp only [Nat.add_zero]
  rw [List.append_assoc, ← List.drop_drop, List.drop_left, List.drop_append_of_le_length (by omega), List.take_append_of_le_length (by rw [List.length_drop]; omega)]
def OS (W : Nat → Prop) (h0 : Heap) (sz : Nat) (E : Heap → α → List Value → Prop) (h m : Heap) (A : Option Addr) (l : List α) (c : Nat) : Prop :=
  (l = [] ∧ c = 0) ∨ ∃ b t pre cs rest, A = some ⟨b, pre.length, none⟩ ∧ Blk h b (pre ++ cs ++ rest) t ∧ CsE sz E m l cs ∧ l.length ≤ c ∧ (c - l.length) * sz ≤ rest.length ∧ (h0.size ≤ b ∨ W b) ∧ ¬ Live m b
theorem OS.cap (o : OS W h0 sz E h m A l c) : l.length ≤ c := by
  rcases o with ⟨rfl, rfl⟩ | ⟨b, t, pre, cs, rest, h1, h2, h3, h4, h5, h6, h7⟩
  · exact Nat.le_refl _
  · exact h4
theorem OS.wr (o : OS W h0 sz E h m A l c) : ∀ b, fp A c b → h0.size ≤ b ∨ W b := by
  rintro b ⟨hc, a, ha, rfl⟩
  rcases o with ⟨rfl, rfl⟩ | ⟨b, t, pre, cs, rest, h1, h2, h3, h4, h5, h6, h7⟩
  · exact (hc rfl).elim
  · rw [h1] at ha; cases ha; exact h6
def OB (W : Nat → Prop) (h0 h m : Heap) (b : Nat) (cs : List Value) (t : TypeId) : Prop := Blk h b cs t ∧ (h0.size ≤ b ∨ W b) ∧ ¬ Live m b
variable {b : Nat} {t : TypeId}
theorem OB.all (o : OB W h0 h m b cs t) : cellsH h ⟨b, 0, none⟩ 0 cs.length = some cs := by
  have := o.1.cells (a := ⟨b, 0, none⟩) rfl rfl cs.length 0 (by simp)
  simpa using this
theorem Blk.all' (o : Blk m b cs t) : cellsH m ⟨b, 0, none⟩ 0 cs.length = some cs := by
  have := o.cells (a := ⟨b, 0, none⟩) rfl rfl cs.length 0 (by simp)
  simpa using this
def VB (E : Heap → α → List Value → Prop) (m : Heap) (b : Nat) (x : α) : Prop := ∃ cs t, Blk m b cs t ∧ cs ≠ [] ∧ E m x cs
theorem VB.sub (v : VB E m b x) (T : Tell sz E) (s : Sub m h) : VB E h b x := let ⟨cs, t, h1, h2, h3⟩ := v; ⟨cs, t, s.blk h1 h2, h2, T.mono _ _ _ _ s h3⟩
end
end Go.Hw

end
section
namespace Go.Hw
def LeO {β : Type} (a b : Option β) : Prop := ∀ r, a = some r → b = some r
theorem LeO.refl {β : Type} (a : Option β) : LeO a a := fun _ h => h
theorem LeO.bind {β γ : Type} {a b : Option β} {f g : β → Option γ} (h : LeO a b) (k : ∀ x, LeO (f x) (g x)) : LeO (a.bind f) (b.bind g) := by
  intro r hr
  cases a with
  | none => cases hr
  | some x => rw [h x rfl]; exact k x r hr
theorem LeO.ite {β : Type} {p : Prop} [Decidable p] {a b a' b' : Option β} (h : LeO a a') (k : LeO b b') : LeO (if p then a else b) (if p then a' else b') := by
  by_cases c : p
  · rw [if_pos c, if_pos c]; exact h
  · rw [if_neg c, if_neg c]; exact k
section
variable {α : Type} {β : α → Type} {F : ((x : α) → Option (β x)) → (x : α) → Option (β x)}
def MonoF (F : ((x : α) → Option (β x)) → (x : α) → Option (β x)) : Prop := ∀ f g, (∀ x, LeO (f x) (g x)) → ∀ x, LeO (F f x) (F g x)
def FixR (F : ((x : α) → Option (β x)) → (x : α) → Option (β x)) (x : α) (r : β x) : Prop :=
  ∀ I : (x : α) → β x → Prop, (∀ f, (∀ x r, f x = some r → I x r) → ∀ x r, F f x = some r → I x r) → I x r
theorem FixR.close {f : (x : α) → Option (β x)} (hf : ∀ x r, f x = some r → FixR F x r) {x : α} {r : β x} (h : F f x = some r) : FixR F x r :=
  fun I hI => hI f (fun y s hs => hf y s hs I hI) x r h
theorem FixR.uniq (M : MonoF F) {x : α} {r r' : β x} (h : FixR F x r) (h' : FixR F x r') : r = r' := by
  refine (h (fun x r => FixR F x r ∧ ∀ r', FixR F x r' → r = r') ?_).2 r' h'
  intro f hf x r hr
  refine ⟨FixR.close (fun y s hs => (hf y s hs).1) hr, fun s hs => ?_⟩
  have key := hs (fun y s => FixR F y s ∧ ∀ e : x = y, (e ▸ r) = s) ?_
  · exact key.2 rfl
  intro f' hf' y t ht
  refine ⟨FixR.close (fun z s hs => (hf' z s hs).1) ht, ?_⟩
  rintro rfl
  let g : (x : α) → Option (β x) := fun z => match f z with | some u => some u | none => f' z
  have hfg : ∀ z, LeO (f z) (g z) := fun z u hu => by simp only [g, hu]
  have hfg' : ∀ z, LeO (f' z) (g z) := by
    intro z u hu
    simp only [g]
    cases hz : f z with
    | none => exact hu
    | some w => simp only; rw [(hf z w hz).2 u (hf' z u hu).1]
  have e1 := M f g hfg _ _ hr
  have e2 := M f' g hfg' _ _ ht
  rw [e1] at e2
  exact Option.some.inj e2
open Classical in
noncomputable def fixF (F : ((x : α) → Option (β x)) → (x : α) → Option (β x)) (x : α) : Option (β x) := if h : ∃ r, FixR F x r then some (Classical.choose h) else none
theorem fixF_iff (M : MonoF F) {x : α} {r : β x} : fixF F x = some r ↔ FixR F x r := by
  unfold fixF
  constructor
  · intro h
    split at h
    · rename_i hx; cases h; exact Classical.choose_spec hx
    · cases h
  · intro h
    rw [dif_pos ⟨r, h⟩, FixR.uniq M (Classical.choose_spec (⟨r, h⟩ : ∃ r, FixR F x r)) h]
theorem fixF_eq (M : MonoF F) (x : α) : fixF F x = F (fixF F) x := by
  have h1 : ∀ r, fixF F x = some r → F (fixF F) x = some r := by
    intro r hr
    refine ((fixF_iff M).1 hr (fun x r => FixR F x r ∧ F (fixF F) x = some r) ?_).2
    intro f hf y s hs
    refine ⟨FixR.close (fun z s hs => (hf z s hs).1) hs, ?_⟩
    exact M f (fixF F) (fun z u hu => (fixF_iff M).2 (hf z u hu).1) _ _ hs
  have h2 : ∀ r, F (fixF F) x = some r → fixF F x = some r := fun r hr => (fixF_iff M).2 (FixR.close (fun y s hs => (fixF_iff M).1 hs) hr)
  cases h : fixF F x with
  | some r => exact (h1 r h).symm
  | none =>
    cases k : F (fixF F) x with
    | none => rfl
    | some r => rw [h2 r k] at h; cases h
theorem fixF_ind (M : MonoF F) {I : (x : α) → β x → Prop} (hI : ∀ f, (∀ x r, f x = some r → I x r) → ∀ x r, F f x = some r → I x r) {x : α} {r : β x} (h : fixF F x = some r) : I x r := (fixF_iff M).1 h I hI
end
end Go.Hw

end
section
namespace Go.Hw
open Go
section tests
variable {A B : Prop} {β γ : Type} {a b : Option β} {r : β}
theorem bind_e {a : Option γ} {f : γ → Option β} (e : a.bind f = some r) : ∃ x, a = some x ∧ f x = some r := by
  cases a with
  | none => cases e
  | some x => exact ⟨x, rfl, e⟩
theorem guard_e {p : Prop} [Decidable p] (e : (if p then a else none) = some r) : p ∧ a = some r := by
  by_cases h : p
  · rw [if_pos h] at e; exact ⟨h, e⟩
  · rw [if_neg h] at e; cases e
theorem split_dec_e {p : Prop} [Decidable p] (e : (if p then a else b) = some r) (hA : p → a = some r → A) (hB : ¬ p → b = some r → B) : splitB (decide p) A B := by
  by_cases h : p
  · rw [if_pos h] at e; rw [decide_eq_true h]; exact hA h e
  · rw [if_neg h] at e; rw [decide_eq_false h]; exact hB h e
theorem split_eq_e {x y : Int} (e : (if x = y then a else b) = some r) (hA : x = y → a = some r → A) (hB : x ≠ y → b = some r → B) : splitB (x == y) A B := by
  by_cases h : x = y
  · rw [if_pos h] at e; rw [show (x == y) = true from beq_iff_eq.2 h]; exact hA h e
  · rw [if_neg h] at e; rw [show (x == y) = false from beq_eq_false_iff_ne.2 h]; exact hB h e
theorem split_ne_e {x y : Int} (e : (if x = y then b else a) = some r) (hA : x ≠ y → a = some r → A) (hB : x = y → b = some r → B) : splitB (x != y) A B := by
  by_cases h : x = y
  · rw [if_pos h] at e; rw [show (x != y) = false from bne_eq_false_iff_eq.2 h]; exact hB h e
  · rw [if_neg h] at e; rw [show (x != y) = true from bne_iff_ne.2 h]; exact hA h e
theorem split_any_e {t : Bool} (e : (if t = true then a else b) = some r) (hA : t = true → a = some r → A) (hB : t = false → b = some r → B) : splitB t A B := by
  cases t
  · exact hB rfl e
  · exact hA rfl e
theorem ba_list (s t : ByteArray) : (ByteArray.toList s == ByteArray.toList t) = decide (s = t) := by
  by_cases h : s = t
  · subst h; simp
  · rw [decide_eq_false h]
    exact beq_eq_false_iff_ne.2 fun e => h (ba_toList e)
end tests
section
variable {α : Type} {l : List α} {x : Int} {y : α}
def gi (l : List α) (x : Int) : Option α := if 0 ≤ x then l[x.toNat]? else none
theorem gi_nat (l : List α) (k : Nat) : gi l (k : Int) = l[k]? := by unfold gi; rw [if_pos (by omega)]; rfl
theorem gi_le (g : gi l x = some y) : 0 ≤ x := by unfold gi at g; split at g; assumption; cases g
theorem gi_get (g : gi l x = some y) : l[x.toNat]? = some y := by unfold gi at g; split at g; exact g; cases g
theorem gi_lt (g : gi l x = some y) : x < (l.length : Int) := by
  have h1 := gi_get g
  have h2 := gi_le g
  have := (List.getElem?_eq_some_iff.1 h1).1
  omega
theorem gi_ltN (g : gi l x = some y) : x.toNat < l.length := (List.getElem?_eq_some_iff.1 (gi_get g)).1
def sl (l : List α) (lo hi : Int) : List α := (l.take hi.toNat).drop lo.toNat
theorem sl_len {lo hi : Int} (h1 : 0 ≤ lo) (h2 : lo ≤ hi) (h3 : hi ≤ (l.length : Int)) : Int.toNat hi - Int.toNat lo = (sl l lo hi).length := by
  unfold sl; rw [List.length_drop, List.length_take]; omega
theorem sl_lo {lo : Int} : sl l lo (l.length : Int) = l.drop lo.toNat := by unfold sl; simp
theorem sl_hi {hi : Int} : sl l 0 hi = l.take hi.toNat := by unfold sl; simp
end
section
variable {α : Type} {sz : Nat} {E : Heap → α → List Value → Prop} {m m' h h' h0 m0 : Heap} {A : Option Addr} {l : List α} {c n k : Nat} {cs : List Value} {x : Int} {y : α} {W : Nat → Prop} {a : Addr} {v : Value} {b : Nat} {t : TypeId}
theorem Rd.addr {K : Addr → Prop} (r : Rd sz E m A l) (hn : n = l.length) (g : gi l x = some y) (hk : ∀ a cs, A = some a → cellsH m (a.add (Int.toNat x * sz)) 0 sz = some cs → E m y cs → K a) : ptrOk A fun a => 0 ≤ x ∧ x < ((n : Nat) : Int) ∧ K a := by
  subst hn
  have h1 := gi_get g
  obtain ⟨hi, h2⟩ := List.getElem?_eq_some_iff.1 h1
  obtain ⟨a, cs, rfl, h3, h4⟩ := r _ hi
  rw [h2] at h4
  exact ⟨gi_le g, gi_lt g, hk a cs rfl h3 h4⟩
theorem OS.cellsAt (o : OS W h0 sz E h m A l c) (g : gi l x = some y) : ∃ a cs, A = some a ∧ cellsH h (a.add (Int.toNat x * sz)) 0 sz = some cs ∧ E m y cs := by
  have h1 := gi_get g
  rcases o with ⟨rfl, rfl⟩ | ⟨b, t, pre, cs, rest, rfl, h3, h4, h5, h6, h7⟩
  · cases h1
  have h8 := h4.get h1
  refine ⟨_, _, rfl, ?_, h8.1⟩
  have := h3.cells (a := (⟨b, pre.length, none⟩ : Addr).add (x.toNat * sz)) (by rw [add_block]) (add_spot _ rfl) sz 0 (by rw [add_off, List.length_append, List.length_append]; simp only [Nat.add_zero]; omega)
  rw [this, add_off]
  simp only [Nat.add_zero]
  rw [List.append_assoc, ← List.drop_drop, List.drop_left, List.drop_append_of_le_length (by omega), List.take_append_of_le_length (by rw [List.length_drop]; omega)]
theorem OS.addr {K : Addr → Prop} (o : OS W h0 sz E h m A l c) (hn : n = l.length) (g : gi l x = some y) (hk : ∀ a cs, A = some a → cellsH h (a.add (Int.toNat x * sz)) 0 sz = some cs → E m y cs → K a) : ptrOk A fun a => 0 ≤ x ∧ x < ((n : Nat) : Int) ∧ K a := by
  subst hn
  obtain ⟨a, cs, rfl, h1, h2⟩ := o.cellsAt g
  exact ⟨gi_le g, gi_lt g, hk a cs rfl h1 h2⟩
theorem ld0 (s : Sub m h) (hc : cellsH m a 0 n = some cs) (hv : cs[0]? = some v) : ldv false 1 h a = some v := by
  have h1 : cellH h (a.add 0) = some v := cellsH_get (s.cells _ _ hc) hv
  exact h1
theorem ldk (s : Sub m h) (hc : cellsH m a 0 n = some cs) (hv : cs[k]? = some v) : ldv false 1 h (Addr.add a k) = some v := by
  have := cellsH_get (s.cells _ _ hc) hv
  simpa [ldv] using this
theorem ldA (s : Sub m h) (hc : cellsH m a 0 n = some cs) : ldv true n h a = some (.agg cs.toArray) := by
  simp only [ldv, s.cells _ _ hc, Option.map_some]
theorem cellsH_part : ∀ {n i : Nat} {cs : List Value} (k j : Nat), cellsH h a i n = some cs → k + j ≤ n → cellsH h a (i + k) j = some ((cs.drop k).take j) := by
  intro n
  induction n with
  | zero =>
    intro i cs k j hc hk
    obtain ⟨rfl, rfl⟩ : k = 0 ∧ j = 0 := by omega
    simp [cellsH]
  | succ n ih =>
    intro i cs k j hc hk
    cases k with
    | succ k =>
      simp only [cellsH] at hc
      split at hc
      · split at hc
        · rename_i vs hvs
          cases hc
          have := ih k j hvs (by omega)
          rw [show i + (k + 1) = i + 1 + k by omega, this]; simp
        · cases hc
      · cases hc
    | zero =>
      cases j with
      | zero => simp [cellsH]
      | succ j =>
        simp only [cellsH] at hc
        split at hc
        · rename_i u hu
          split at hc
          · rename_i vs hvs
            cases hc
            have := ih 0 j hvs (by omega)
            simp only [Nat.add_zero, List.drop_zero] at this
            simp only [Nat.add_zero, cellsH, hu, this, List.drop_zero, List.take_succ_cons]
          · cases hc
        · cases hc
theorem ldAk {j : Nat} (s : Sub m h) (hc : cellsH m a 0 n = some cs) (hk : k + j ≤ n) : ldv true j h (Addr.add a k) = some (.agg ((cs.drop k).take j).toArray) := by
  have := cellsH_part k j (s.cells _ _ hc) hk
  simp only [ldv, cellsH_shift]
  simp only [Nat.zero_add] at this
  simp only [Nat.add_zero, this, Option.map_some]
theorem OB.st (o : OB W h0 h m b cs t) (s : Sub m h) (hk : k < cs.length) (hf : Flat v) : ∃ h', st1 h (Addr.add ⟨b, 0, none⟩ k) v = some h' ∧ OB W h0 h' m b (cs.set k v) t ∧ St (fb b) h m h' m := by
  obtain ⟨h', h1, h2, h3⟩ := o.1.st (a := Addr.add ⟨b, 0, none⟩ k) (v := v) (add_block _ _) (add_spot _ rfl) (by rw [add_off]; simpa using hk) hf
  rw [add_off, Nat.zero_add] at h2
  exact ⟨h', h1, ⟨h2, o.2⟩, .only s o.2.2 h3⟩
theorem OB.stA (o : OB W h0 h m b cs t) (s : Sub m h) (l : List Value) (hn : l.length = cs.length) (hf : ∀ v ∈ l, Flat v) : ∃ h', stH h ⟨b, 0, none⟩ l 0 = some h' ∧ OB W h0 h' m b l t ∧ St (fb b) h m h' m := by
  obtain ⟨h', h1, h2, h3⟩ := o.1.stAll l hn hf
  exact ⟨h', h1, ⟨h2, o.2⟩, .only s o.2.2 h3⟩
theorem OS.stP (o : OS W h0 sz E h m A l c) (T : Tell sz E) (s : Sub m h) (g : gi l x = some y) (ha : A = some a) (hc : cellsH h (Addr.add a (Int.toNat x * sz)) 0 sz = some cs) {ds : List Value} {y' : α} (k : Nat) (hk : k + ds.length ≤ sz) (hy : E m y' (cs.take k ++ ds ++ cs.drop (k + ds.length))) (hf : ∀ v ∈ ds, Flat v) :
    ∃ h', stH h (Addr.add (Addr.add a (Int.toNat x * sz)) k) ds 0 = some h' ∧ OS W h0 sz E h' m A (l.set (Int.toNat x) y') c ∧ St (fp A c) h m h' m := by
  have h1 := gi_get g
  have hlt := gi_ltN g
  rcases o with ⟨rfl, rfl⟩ | ⟨b, t, pre, es, rest, rfl, h3, h4, h5, h6, h7, h8⟩
  · cases h1
  cases ha
  have h9 := h4.get h1
  have hcs : cs = (es.drop (x.toNat * sz)).take sz := by
    have := h3.cells (a := (⟨b, pre.length, none⟩ : Addr).add (x.toNat * sz)) (by rw [add_block]) (add_spot _ rfl) sz 0 (by rw [add_off, List.length_append, List.length_append]; simp only [Nat.add_zero]; omega)
    rw [hc, add_off] at this
    simp only [Nat.add_zero, Option.some.injEq] at this
    rw [this, List.append_assoc, ← List.drop_drop, List.drop_left, List.drop_append_of_le_length (by omega), List.take_append_of_le_length (by rw [List.length_drop]; omega)]
  have hlen : cs.length = sz := cellsH_length hc
  have hes : es = es.take (x.toNat * sz) ++ cs ++ es.drop (x.toNat * sz + sz) := by
    rw [hcs, List.append_assoc, ← List.drop_drop, List.take_append_drop, List.take_append_drop]
  have hcs2 : cs = cs.take k ++ (cs.drop k).take ds.length ++ cs.drop (k + ds.length) := by
    rw [List.append_assoc, ← List.drop_drop, List.take_append_drop, List.take_append_drop]
  have hb : Blk h b ((pre ++ es.take (x.toNat * sz) ++ cs.take k) ++ (cs.drop k).take ds.length ++ (cs.drop (k + ds.length) ++ (es.drop (x.toNat * sz + sz) ++ rest))) t := by
    have : (pre ++ es.take (x.toNat * sz) ++ cs.take k) ++ (cs.drop k).take ds.length ++ (cs.drop (k + ds.length) ++ (es.drop (x.toNat * sz + sz) ++ rest)) = pre ++ es ++ rest := by
      conv => rhs; rw [hes]; rw [hcs2]
      simp only [List.append_assoc]
    rw [this]; exact h3
  obtain ⟨h', s1, b1, o1⟩ := Blk.stH ds (a := Addr.add (Addr.add ⟨b, pre.length, none⟩ (x.toNat * sz)) k) (i := 0) hb (by rw [add_block, add_block]) (add_spot _ (add_spot _ rfl))
    (by rw [add_off, add_off, List.length_append, List.length_append, List.length_take, List.length_take]; simp only [Nat.add_zero]; omega) (by rw [List.length_take, List.length_drop]; omega) hf
  refine ⟨h', s1, .inr ⟨b, t, pre, es.take (x.toNat * sz) ++ (cs.take k ++ ds ++ cs.drop (k + ds.length)) ++ es.drop (x.toNat * sz + sz), rest, rfl, ?_, ?_, ?_, ?_, h7, h8⟩, ?_⟩
  · have : pre ++ (es.take (x.toNat * sz) ++ (cs.take k ++ ds ++ cs.drop (k + ds.length)) ++ es.drop (x.toNat * sz + sz)) ++ rest = (pre ++ es.take (x.toNat * sz) ++ cs.take k) ++ ds ++ (cs.drop (k + ds.length) ++ (es.drop (x.toNat * sz + sz) ++ rest)) := by simp only [List.append_assoc]
    rw [this]; exact b1
  · exact h4.set hy (T.len _ _ _ hy) hlt
  · rwa [List.length_set]
  · rwa [List.length_set]
  · refine ⟨.refl _, fun i o1' k1 k2 => ?_, by rw [o1.1]; exact Nat.le_refl _, fun i hi hw => ?_, fun i _ hl => .inl hl⟩
    · rw [o1.2 i (fun e => h8 (e ▸ ⟨o1', k1, k2⟩))]; exact s i o1' k1 k2
    · refine o1.2 i fun e => hw ⟨?_, _, rfl, e.symm⟩
      omega
theorem OS.stA (o : OS W h0 sz E h m A l c) (T : Tell sz E) (s : Sub m h) (g : gi l x = some y) (ha : A = some a) (hc : cellsH h (Addr.add a (Int.toNat x * sz)) 0 sz = some cs) {ds : List Value} {y' : α} (hy : E m y' ds) (hf : ∀ v ∈ ds, Flat v) :
    ∃ h', stH h (Addr.add a (Int.toNat x * sz)) ds 0 = some h' ∧ OS W h0 sz E h' m A (l.set (Int.toNat x) y') c ∧ St (fp A c) h m h' m := by
  have hlen : cs.length = sz := cellsH_length hc
  have hd := T.len _ _ _ hy
  refine o.stP T s g ha hc (ds := ds) (y' := y') 0 (by omega) ?_ hf
  rw [List.take_zero, List.nil_append, List.drop_eq_nil_of_le (by omega), List.append_nil]; exact hy
theorem cap_in {hi : Int} (h1 : hi ≤ (l.length : Int)) (h2 : l.length ≤ c) : hi ≤ ((c : Nat) : Int) := by omega
theorem Rd.sl {lo hi : Int} {mx : Nat} (r : Rd sz E m A l) (h1 : 0 ≤ lo) (h2 : lo ≤ hi) (h3 : hi ≤ (l.length : Int)) (h4 : hi.toNat ≤ mx) : Rd sz E m (sliceA A (Int.toNat lo) mx sz) (sl l lo hi) := by
  intro i hi'
  rw [← sl_len h1 h2 h3] at hi'
  obtain ⟨a, cs, e1, e2, e3⟩ := r (lo.toNat + i) (by omega)
  refine ⟨a.add (lo.toNat * sz), cs, ?_, ?_, ?_⟩
  · unfold sliceA; rw [if_neg (by omega), e1]; rfl
  · rw [add_add, ← Nat.add_mul]; exact e2
  · simpa [Hw.sl] using e3
theorem sl_cap {lo hi : Int} {mx : Nat} (h1 : 0 ≤ lo) (h2 : lo ≤ hi) (h3 : hi ≤ (l.length : Int)) (h4 : hi.toNat ≤ mx) : (sl l lo hi).length ≤ mx - Int.toNat lo := by rw [← sl_len h1 h2 h3]; omega
theorem zc_len {z : Array Value} {n : Nat} : (zcells z n).toList.length = n * z.size := by rw [Array.length_toList, zcells_size]
def Src (sz : Nat) (E : Heap → α → List Value → Prop) (h m : Heap) (x : Value) (xs : List α) : Prop := ∃ es, srcCells sz x h = some (xs.length, es) ∧ CsE sz E m xs es
theorem Rd.srcE (r : Rd sz E m A l) (T : Tell sz E) (s : Sub m h) (hn : n = l.length) : Src sz E h m (.slice A n c) l := by
  subst hn
  cases A with
  | none =>
    have : l = [] := by
      cases l with
      | nil => rfl
      | cons x l => obtain ⟨a, _, h1, _⟩ := r 0 (by simp); cases h1
    subst this
    exact ⟨[], rfl, rfl⟩
  | some a =>
    obtain ⟨es, h1, h2⟩ := Rd.cse T r
    exact ⟨es, by simp only [srcCells, s.cells _ _ h1, Option.map_some], h2⟩
theorem OS.srcE {c' : Nat} (o : OS W h0 sz E h m A l c) (hn : n = l.length) : Src sz E h m (.slice A n c') l := by
  subst hn
  rcases o with ⟨rfl, rfl⟩ | ⟨b, t, pre, cs, rest, rfl, k1, k2, k3, k4, k5⟩
  · refine ⟨[], ?_, rfl⟩
    cases A with
    | none => rfl
    | some a => simp [srcCells, cellsH]
  · refine ⟨cs, ?_, k2⟩
    have hl := k2.len
    have := k1.cells (a := ⟨b, pre.length, none⟩) rfl rfl (l.length * sz) 0 (by simp [hl])
    simp only [srcCells, this, Nat.add_zero]
    rw [List.append_assoc, List.drop_left, List.take_append_of_le_length (by omega), List.take_of_length_le (by omega)]; rfl
def ap (B : Nat) (l xs : List α) : Option (List α) := if (l.length + xs.length) * B ≤ 140737488355328 then some (l ++ xs) else none
theorem ap_e {B : Nat} {l xs l' : List α} (g : ap B l xs = some l') : (l.length + xs.length) * B ≤ 140737488355328 ∧ l ++ xs = l' := by
  unfold ap at g
  obtain ⟨h, k⟩ := guard_e g
  exact ⟨h, Option.some.inj k⟩
def sls (l : List α) (lo hi : Int) : Option (List α) := if 0 ≤ lo ∧ lo ≤ hi ∧ hi ≤ (l.length : Int) then some (sl l lo hi) else none
theorem sls_e {lo hi : Int} {l' : List α} (g : sls l lo hi = some l') : 0 ≤ lo ∧ lo ≤ hi ∧ hi ≤ (l.length : Int) ∧ Int.toNat hi - Int.toNat lo = l'.length ∧ l' = Hw.sl l lo hi := by
  unfold sls at g
  obtain ⟨h, k⟩ := guard_e g
  cases k
  exact ⟨h.1, h.2.1, h.2.2, sl_len h.1 h.2.1 h.2.2, rfl⟩
theorem Rd.sls {lo hi : Int} {mx : Nat} {l' : List α} (r : Rd sz E m A l) (g : sls l lo hi = some l') (h4 : hi.toNat ≤ mx) : Rd sz E m (sliceA A (Int.toNat lo) mx sz) l' := by
  obtain ⟨h1, h2, h3, _, rfl⟩ := sls_e g
  exact r.sl h1 h2 h3 h4
theorem le_mx {hi : Int} (h1 : hi ≤ (l.length : Int)) (h2 : l.length ≤ c) : hi.toNat ≤ c := by omega
theorem sls_cap {lo hi : Int} {l' : List α} (g : Hw.sls l lo hi = some l') (h2 : l.length ≤ c) : l'.length ≤ c - Int.toNat lo := by
  obtain ⟨h1, h3, h4, h5, _⟩ := sls_e g
  omega
theorem OS.newNo {h' : Heap} (o : OS No h sz E h' m' A l c) : ∀ b, fp A c b → h.size ≤ b := fun b hb => (o.wr b hb).elim id (fun h => h.elim)
theorem nn {x : Value} {l : List Value} : x :: l ≠ [] := fun h => by cases h
end
end Go.Hw

end
section
namespace Go.Hw
open Go
section
variable {α : Type} {sz : Nat} {E : Heap → α → List Value → Prop} {m m' h h' h0 m0 : Heap} {A : Option Addr} {l : List α} {c n k : Nat} {x : Int} {W : Nat → Prop}
theorem Rd.void (r : Rd sz E m none l) : l = [] := by
  cases l with
  | nil => rfl
  | cons x l => obtain ⟨a, _, h1, _⟩ := r 0 (by simp); cases h1
def gro (B : Nat) (x : Int) : Bool := decide (0 ≤ x ∧ x * (B : Int) ≤ 140737488355328)
theorem grow_nil {e : TypeId} {bytes : Nat} {z : Array Value} {R : Value → Heap → Prop} (S : St W h0 m0 h m) (hz : z.size = sz) (hb0 : 0 < bytes) (g : gro bytes x = true)
    (hk : ∀ A' c' h', OS W h0 sz E h' m A' ([] : List α) c' → Ext h h' → R (.slice A' 0 c') h') :
    splitB (decide ((IntKind.wrap .i64 (x - (IntKind.wrap .i64 (((0 : Nat) : Int) - ((0 : Nat) : Int))))) > (0 : Int))) (0 ≤ (0 : Int) ∧ (0 : Int) ≤ ((0 : Nat) : Int) ∧ ((0 : Nat) : Int) ≤ ((0 : Nat) : Int) ∧
      (AppZ e sz bytes z (sliceA none (Int.toNat (0 : Int)) 0 sz) (Int.toNat ((0 : Nat) : Int) - Int.toNat (0 : Int)) (0 - Int.toNat (0 : Int)) (Value.int .i64 (IntKind.wrap .i64 (x - (IntKind.wrap .i64 (((0 : Nat) : Int) - ((0 : Nat) : Int)))))) h fun v1 h2 =>
        ∃ A3, ∃ n3, ∃ c3, v1 = (Value.slice A3 n3 c3) ∧ 0 ≤ (0 : Int) ∧ (0 : Int) ≤ ((0 : Nat) : Int) ∧ ((0 : Nat) : Int) ≤ ((c3 : Nat) : Int) ∧ (R (Value.slice (sliceA A3 (Int.toNat (0 : Int)) c3 sz) (Int.toNat ((0 : Nat) : Int) - Int.toNat (0 : Int)) (c3 - Int.toNat (0 : Int))) h2)))
      (R (Value.slice none 0 0) h) := by
  unfold gro at g
  obtain ⟨g1, g2⟩ := of_decide_eq_true g
  obtain ⟨k, rfl⟩ : ∃ k : Nat, x = k := ⟨x.toNat, by omega⟩
  have gN : k * bytes ≤ 140737488355328 := by
    have : ((k * bytes : Nat) : Int) = (k : Int) * (bytes : Int) := by push_cast; rfl
    omega
  have hk1 : k ≤ 140737488355328 := Nat.le_trans (Nat.le_mul_of_pos_right _ hb0) gN
  have hw : (IntKind.wrap .i64 ((k : Int) - (IntKind.wrap .i64 (((0 : Nat) : Int) - ((0 : Nat) : Int))))) = (k : Int) := by
    rw [show (IntKind.wrap .i64 (((0 : Nat) : Int) - ((0 : Nat) : Int))) = 0 from rfl]
    rw [wrap_in (by omega) (by omega)]; omega
  rw [hw]
  have nul : ∀ (A' : Option Addr) (c' : Nat), sliceA A' (Int.toNat (0 : Int)) c' sz = A' := by
    intro A' c'
    unfold sliceA
    split
    · rfl
    · cases A' with
      | none => rfl
      | some a => simp [Addr.add]
  refine split_dec (fun hp => ⟨by decide, by decide, by decide, ?_⟩) (fun _ => hk _ _ _ (.inl ⟨rfl, rfl⟩) (.refl _))
  refine ⟨.i64, k, rfl, gN, by omega, .inr ⟨?_, ?_, hb0, ?_, [], ?_, fun c' hc' => ?_⟩⟩
  · show 0 < 0 + k; omega
  · show (0 + k) * bytes ≤ _; rw [Nat.zero_add]; exact gN
  · show 0 + k ≤ _; omega
  · show oldCells sz (sliceA none (Int.toNat (0 : Int)) 0 sz) 0 h = some []
    rw [nul]; rfl
  · refine ⟨_, _, _, rfl, by decide, by decide, Int.natCast_nonneg _, ?_⟩
    rw [nul]
    have e1 := Ext.push h (Obj.cells (([] : List Value).toArray ++ (if k * sz = 0 then [] else (zcells z k).toList).toArray ++ zcells z (c' - (0 + k))) e)
    refine hk _ c' _ (.inr ⟨h.size, e, [], [], (if k * sz = 0 then [] else (zcells z k).toList) ++ (zcells z (c' - (0 + k))).toList, rfl, ?_, rfl, Nat.zero_le _, ?_, .inl S.size, St.notLive S.s⟩) e1
    · have := Blk.new h (([] : List Value).toArray ++ (if k * sz = 0 then [] else (zcells z k).toList).toArray ++ zcells z (c' - (0 + k))) e
      simpa using this
    · rw [List.length_append, zc_len, hz]
      have hc2 : k ≤ c' := by
        have : (Int.toNat ((0 : Nat) : Int) - Int.toNat (0 : Int)) + k ≤ c' := hc'
        simpa using this
      have e2 : (if k * sz = 0 then ([] : List Value) else (zcells z k).toList).length = k * sz := by
        by_cases hz0 : k * sz = 0
        · rw [if_pos hz0, hz0]; rfl
        · rw [if_neg hz0, zc_len, hz]
      rw [e2, ← Nat.add_mul]
      exact Nat.mul_le_mul_right _ (by simp; omega)
end
section
variable {α : Type} {sz : Nat} {E : Heap → α → List Value → Prop} {m m' mL h h' h0 m0 : Heap} {A : Option Addr} {l : List α} {c b : Nat} {cs : List Value} {t : TypeId} {W W' : Nat → Prop}
theorem St.unlend (T : St W' h mL h' m') (s : Sub m h) (hd : ∀ b, W' b → ¬ Live m b) : St W' h m h' m where
  up := .refl _
  s b o h1 h2 := by
    rw [T.fr b (s.lt ⟨o, h1, h2⟩) (fun hw => hd b hw ⟨o, h1, h2⟩)]; exact s b o h1 h2
  size := T.size
  fr := T.fr
  lv b _ hl := .inl hl
end
section
variable {κ ν : Type} [DecidableEq κ] {h h' m m' h0 m0 : Heap} {b : Nat} {W W' : Nat → Prop} {kv : κ → Value} {es : List (κ × ν)} {vs : List (κ × Value)} {k : κ} {x zv : ν} {v z : Value} {P : Program} {t elem : TypeId} {sz : Nat}
def MonoV (EV : Heap → ν → Value → Prop) : Prop := ∀ m h x v, Sub m h → EV m x v → EV h x v
variable {EV : Heap → ν → Value → Prop}
end
section
variable {H : Type} {enc : TypeId × Value → H} {P : Program} {W : World}
theorem tells_i64 {t : TypeId} (hu : P.underlying t = some (.int .i64)) : Tells enc P W t (eInt .i64) (fun x => -9223372036854775808 ≤ x ∧ x ≤ 9223372036854775807) := tells_map (tells_int hu) fun a _ h q => ⟨a, h, wf_i64 q⟩
theorem tells_strL {t : TypeId} (hu : P.underlying t = some .string) : Tells enc P W t eStr (fun s => s.size ≤ 140737488351232) := tells_map (tells_str hu) fun a _ h q => ⟨a, h, q⟩
theorem tells_sliceL {α : Type} {t e : TypeId} {sz B : Nat} {E : Heap → α → List Value → Prop} {Q : α → Prop} (hu : P.underlying t = some (.slice e)) (hc : P.cellsOf e = sz) (hB : P.bytesOf e = B) (he : Tells enc P W e E Q) :
    Tells enc P W t (eRow sz E) (fun l => l.length * B ≤ 140737488351232 ∧ ∀ a ∈ l, Q a) := tells_map (tells_slice hu hc hB he) fun a _ h q => ⟨a, h, q⟩
end
end Go.Hw

end
