/- Part 2: what the law TimerTells needs, put together out of texts of this session. -/
import Derived.ProofKit
import Derived.OpenShut
import Derived.ShutString
import Derived.ChangeOld
import Derived.Below
import Derived.SizedLaws
import Derived.ChangeArms
import Derived.Laws.StructEq
import Derived.Test.YtmcfmmoaofileaaZTimerTellsa
section
namespace Go.Proofs.Ytmcfmmoaofileaa.Fw
open Go Go.Hw Go.Proofs
set_option linter.unusedVariables false
def f127.T : Tab := { sh := tSh, tup := tTup, keep := [], plan := [] }
def f127.kp : Keep := [([false, false, true, false, true, true], [3, 6, 7, 8])]
theorem f127.good : goodCode Try.prog f127.T (rootOf Try.f127) = true := by kernel_rfl
def f127.l0 (R : Value → Heap → Prop) (x3 : Int) (A6 : Option Addr) (n6 : Nat) (c6 : Nat) (x7 : Int) (x8 : Int) (h : Heap) : Prop := Pt Try.prog Try.f127 R [false, false, true, false, true, true] (mkFr [(3, (Value.int .i64 x3)), (6, (Value.slice A6 n6 c6)), (7, (Value.int .i64 x7)), (8, (Value.int .i64 x8))]) h
set_option maxRecDepth 100000 in
def f127.l0T (R : Value → Heap → Prop) (x3 : Int) (A6 : Option Addr) (n6 : Nat) (c6 : Nat) (x7 : Int) (x8 : Int) (h : Heap) : Prop :=
  splitB (decide (x8 < x7)) (ptrOk A6 fun a1_ => 0 ≤ x8 ∧ x8 < ((n6 : Nat) : Int) ∧ (∃ v2_, ldv false 1 h (Addr.add a1_ (Int.toNat x8 * 1)) = some v2_ ∧ ∃ x3_, v2_ = (Value.int .i64 x3_) ∧ splitB (x3_ != x3) (R (Value.int .i64 x3_) h) (f127.l0 R x3 A6 n6 c6 x7 (IntKind.wrap .i64 (x8 + (1 : Int))) h))) (R (Value.int .i64 x3) h)
set_option maxRecDepth 100000 in
theorem f127.l0_in {R : Value → Heap → Prop} {x3 : Int} {A6 : Option Addr} {n6 : Nat} {c6 : Nat} {x7 : Int} {x8 : Int} {h : Heap} (H : f127.l0T R x3 A6 n6 c6 x7 x8 h) : f127.l0 R x3 A6 n6 c6 x7 x8 h :=
  pt_intro mixed f127.good (Eq.mpr (show (Fwd Try.prog f127.T f127.kp Try.f127 R [false, false, true, false, true, true] (mkFr [(3, (Value.int .i64 x3)), (6, (Value.slice A6 n6 c6)), (7, (Value.int .i64 x7)), (8, (Value.int .i64 x8))]) h) = (f127.l0T R x3 A6 n6 c6 x7 x8 h) by kernel_rfl) H)
set_option maxRecDepth 100000 in
def f127.runT (R : Value → Heap → Prop) (A0 : Option Addr) (n0 : Nat) (c0 : Nat) (h : Heap) : Prop :=
  f127.l0 R (0 : Int) A0 n0 c0 ((n0 : Nat) : Int) (0 : Int) h
set_option maxRecDepth 100000 in
theorem f127.run {R : Value → Heap → Prop} {A0 : Option Addr} {n0 : Nat} {c0 : Nat} {h : Heap} (H : f127.runT R A0 n0 c0 h) : Run Try.prog 127 #[(Value.slice A0 n0 c0)] h R :=
  run_of mixed Try.func127 (by kernel_rfl) (by kernel_rfl) f127.good (Eq.mpr (show (Fwd Try.prog f127.T f127.kp Try.f127 R [] (mkFr (argL [(Value.slice A0 n0 c0)] 0)) h) = (f127.runT R A0 n0 c0 h) by kernel_rfl) H)
def f166.T : Tab := { sh := tSh, tup := tTup, keep := [], plan := [] }
def f166.kp : Keep := []
theorem f166.good : goodCode Try.prog f166.T (rootOf Try.f166) = true := by kernel_rfl
set_option maxRecDepth 100000 in
def f166.runT (R : Value → Heap → Prop) (x0 : Int) (h : Heap) : Prop :=
  R (Value.bool (x0 != x0)) h
set_option maxRecDepth 100000 in
theorem f166.run {R : Value → Heap → Prop} {x0 : Int} {h : Heap} (H : f166.runT R x0 h) : Run Try.prog 166 #[(Value.int .i64 x0)] h R :=
  run_of mixed Try.func166 (by kernel_rfl) (by kernel_rfl) f166.good (Eq.mpr (show (Fwd Try.prog f166.T f166.kp Try.f166 R [] (mkFr (argL [(Value.int .i64 x0)] 0)) h) = (f166.runT R x0 h) by kernel_rfl) H)
def f128.T : Tab := { sh := tSh, tup := tTup, keep := [], plan := [] }
def f128.kp : Keep := []
theorem f128.good : goodCode Try.prog f128.T (rootOf Try.f128) = true := by kernel_rfl
set_option maxRecDepth 100000 in
def f128.runT (R : Value → Heap → Prop) (x0 : Int) (x1 : Int) (h : Heap) : Prop :=
  Run Try.prog 166 #[(Value.int .i64 x0)] h fun v1_ h2_ => ∃ b3_, v1_ = (Value.bool b3_) ∧ Run Try.prog 166 #[(Value.int .i64 x1)] h2_ fun v4_ h5_ => ∃ b6_, v4_ = (Value.bool b6_) ∧ splitB b3_ (splitB b6_ (R (Value.int .i64 (0 : Int)) h5_) (R (Value.int .i64 (-1 : Int)) h5_)) (splitB b6_ (R (Value.int .i64 (1 : Int)) h5_) (splitB (decide (x0 < x1)) (R (Value.int .i64 (-1 : Int)) h5_) (splitB (decide (x0 > x1)) (R (Value.int .i64 (1 : Int)) h5_) (R (Value.int .i64 (0 : Int)) h5_))))
set_option maxRecDepth 100000 in
theorem f128.run {R : Value → Heap → Prop} {x0 : Int} {x1 : Int} {h : Heap} (H : f128.runT R x0 x1 h) : Run Try.prog 128 #[(Value.int .i64 x0), (Value.int .i64 x1)] h R :=
  run_of mixed Try.func128 (by kernel_rfl) (by kernel_rfl) f128.good (Eq.mpr (show (Fwd Try.prog f128.T f128.kp Try.f128 R [] (mkFr (argL [(Value.int .i64 x0), (Value.int .i64 x1)] 0)) h) = (f128.runT R x0 x1 h) by kernel_rfl) H)
def f80.T : Tab := { sh := tSh, tup := tTup, keep := [], plan := [(1, (.take 0 (.take 2 (.take 5 (.take 7 (.take 1 (.take 3 (.take 6 (.take 8 (.eff false true [] 4 (.eff false false [] 9 (.eff false false [] 10 (.eff false false [] 11 (.take 12 .done))))))))))))))] }
def f80.kp : Keep := []
theorem f80.good : goodCode Try.prog f80.T (rootOf Try.f80) = true := by kernel_rfl
set_option maxRecDepth 100000 in
theorem f80.ok : calleeOk Try.prog 80 = true := by kernel_rfl
set_option maxRecDepth 100000 in
def f80.runT (R : Value → Heap → Prop) (v0 : Value) (v1 : Value) (h : Heap) : Prop :=
  newH h (Obj.cells ((v0).cells) 60) fun h1_ => newH h1_ (Obj.cells ((v1).cells) 60) fun h2_ => ∃ v3_, ldv false 1 h2_ (⟨Array.size h, 0, none⟩) = some v3_ ∧ ∃ x4_, v3_ = (Value.int .i64 x4_) ∧ ∃ v5_, ldv false 1 h2_ (⟨Array.size h1_, 0, none⟩) = some v5_ ∧ ∃ x6_, v5_ = (Value.int .i64 x6_) ∧ ∃ v7_, ldv false 1 h2_ (Addr.add (⟨Array.size h, 0, none⟩) 1) = some v7_ ∧ ∃ x8_, v7_ = (Value.int .i64 x8_) ∧ ∃ v9_, ldv false 1 h2_ (Addr.add (⟨Array.size h1_, 0, none⟩) 1) = some v9_ ∧ ∃ x10_, v9_ = (Value.int .i64 x10_) ∧ Run Try.prog 128 #[(Value.int .i64 x4_), (Value.int .i64 x6_)] h2_ fun v11_ h12_ => ∃ x13_, v11_ = (Value.int .i64 x13_) ∧ Ext h2_ h12_ ∧ (Run Try.prog 128 #[(Value.int .i64 x8_), (Value.int .i64 x10_)] h12_ fun v14_ h15_ => ∃ x16_, v14_ = (Value.int .i64 x16_) ∧ newH h15_ (Obj.cells #[(Value.int .i64 x13_), (Value.int .i64 x16_)] 3) fun h17_ => Run Try.prog 127 #[(Value.slice (some ⟨Array.size h15_, 0, none⟩) 2 2)] h17_ fun v18_ h19_ => ∃ x20_, v18_ = (Value.int .i64 x20_) ∧ R (Value.int .i64 x20_) h19_)
set_option maxRecDepth 100000 in
theorem f80.run {R : Value → Heap → Prop} {v0 : Value} {v1 : Value} {h : Heap} (H : f80.runT R v0 v1 h) : Run Try.prog 80 #[v0, v1] h R :=
  run_of mixed Try.func80 (by kernel_rfl) (by kernel_rfl) f80.good (Eq.mpr (show (Fwd Try.prog f80.T f80.kp Try.f80 R [] (mkFr (argL [v0, v1] 0)) h) = (f80.runT R v0 v1 h) by kernel_rfl) H)
def f23.T : Tab := { sh := tSh, tup := tTup, keep := [], plan := [(11, (.take 0 (.take 1 (.take 2 (.split 2 (.take 3 (.take 5 (.take 6 (.take 4 (.take 7 (.take 8 (.take 9 (.eff false false [] 10 (.take 11 (.take 12 (.take 13 .done))))))))))))))))] }
def f23.kp : Keep := [([true, true], [1]), ([false, false, true, false, true, true, true], [1, 3, 22, 23, 24]), ([true, false, false, true, false, false, true, true, false, false, true, false, true, true, true], [1, 3, 4, 5, 22, 23, 24, 29]), ([true, true, true, false, false, true, false, false, true, true, false, false, true, false, true, true, true], [1, 3, 5, 22, 23, 24, 40]), ([true, true, false, false, true, true, false, false, true, false, true, true, true], [1, 3, 5, 22, 23, 24])]
theorem f23.good : goodCode Try.prog f23.T (rootOf Try.f23) = true := by kernel_rfl
def f23.j0 (R : Value → Heap → Prop) (a1 : Addr) (h : Heap) : Prop := Pt Try.prog Try.f23 R [true, true] (mkFr [(1, (Value.pointer (some a1)))]) h
def f23.l0 (R : Value → Heap → Prop) (a1 : Addr) (v3 : Value) (A22 : Option Addr) (n22 : Nat) (c22 : Nat) (x23 : Int) (x24 : Int) (h : Heap) : Prop := Pt Try.prog Try.f23 R [false, false, true, false, true, true, true] (mkFr [(1, (Value.pointer (some a1))), (3, v3), (22, (Value.slice A22 n22 c22)), (23, (Value.int .i64 x23)), (24, (Value.int .i64 x24))]) h
def f23.j2 (R : Value → Heap → Prop) (a1 : Addr) (v3 : Value) (x4 : Int) (a5 : Addr) (A22 : Option Addr) (n22 : Nat) (c22 : Nat) (x23 : Int) (x24 : Int) (b29 : Bool) (h : Heap) : Prop := Pt Try.prog Try.f23 R [true, false, false, true, false, false, true, true, false, false, true, false, true, true, true] (mkFr [(1, (Value.pointer (some a1))), (3, v3), (4, (Value.int .i64 x4)), (5, (Value.pointer (some a5))), (22, (Value.slice A22 n22 c22)), (23, (Value.int .i64 x23)), (24, (Value.int .i64 x24)), (29, (Value.bool b29))]) h
def f23.j3 (R : Value → Heap → Prop) (a1 : Addr) (v3 : Value) (a5 : Addr) (A22 : Option Addr) (n22 : Nat) (c22 : Nat) (x23 : Int) (x24 : Int) (b40 : Bool) (h : Heap) : Prop := Pt Try.prog Try.f23 R [true, true, true, false, false, true, false, false, true, true, false, false, true, false, true, true, true] (mkFr [(1, (Value.pointer (some a1))), (3, v3), (5, (Value.pointer (some a5))), (22, (Value.slice A22 n22 c22)), (23, (Value.int .i64 x23)), (24, (Value.int .i64 x24)), (40, (Value.bool b40))]) h
def f23.j1 (R : Value → Heap → Prop) (a1 : Addr) (v3 : Value) (a5 : Addr) (A22 : Option Addr) (n22 : Nat) (c22 : Nat) (x23 : Int) (x24 : Int) (h : Heap) : Prop := Pt Try.prog Try.f23 R [true, true, false, false, true, true, false, false, true, false, true, true, true] (mkFr [(1, (Value.pointer (some a1))), (3, v3), (5, (Value.pointer (some a5))), (22, (Value.slice A22 n22 c22)), (23, (Value.int .i64 x23)), (24, (Value.int .i64 x24))]) h
set_option maxRecDepth 100000 in
def f23.j0T (R : Value → Heap → Prop) (a1 : Addr) (h : Heap) : Prop :=
  Gen Try.prog (Instr.makeMap 164 none) h fun v1_ h2_ => ∃ v3_, ldv false 1 h2_ (Addr.add a1 1) = some v3_ ∧ ∃ A4_, ∃ n4_, ∃ c4_, v3_ = (Value.slice A4_ n4_ c4_) ∧ f23.l0 R a1 v1_ A4_ n4_ c4_ ((n4_ : Nat) : Int) (0 : Int) h2_
set_option maxRecDepth 100000 in
theorem f23.j0_in {R : Value → Heap → Prop} {a1 : Addr} {h : Heap} (H : f23.j0T R a1 h) : f23.j0 R a1 h :=
  pt_intro mixed f23.good (Eq.mpr (show (Fwd Try.prog f23.T f23.kp Try.f23 R [true, true] (mkFr [(1, (Value.pointer (some a1)))]) h) = (f23.j0T R a1 h) by kernel_rfl) H)
set_option maxRecDepth 100000 in
def f23.l0T (R : Value → Heap → Prop) (a1 : Addr) (v3 : Value) (A22 : Option Addr) (n22 : Nat) (c22 : Nat) (x23 : Int) (x24 : Int) (h : Heap) : Prop :=
  splitB (decide (x24 < x23)) (ptrOk A22 fun a1_ => 0 ≤ x24 ∧ x24 < ((n22 : Nat) : Int) ∧ (∃ v2_, ldv true 2 h (Addr.add a1_ (Int.toNat x24 * 2)) = some v2_ ∧ newH h (Obj.cells #[(Value.int .i64 (0 : Int)), (Value.int .i64 (0 : Int))] 60) fun h3_ => ∃ l5_ : List Value, v2_ = Value.agg l5_.toArray ∧ l5_.length = 2 ∧ ∃ h4_, stH h3_ (⟨Array.size h, 0, none⟩) l5_ 0 = some h4_ ∧ ∃ v6_, ldv false 1 h4_ (⟨Array.size h, 0, none⟩) = some v6_ ∧ ∃ x7_, v6_ = (Value.int .i64 x7_) ∧ ∃ v8_, ldv false 1 h4_ a1 = some v8_ ∧ ∃ x9_, v8_ = (Value.int .i64 x9_) ∧ splitB (decide (x7_ ≤ x9_)) (f23.j2 R a1 v3 x24 (⟨Array.size h, 0, none⟩) A22 n22 c22 x23 x24 true h4_) (∃ v10_, ldv false 1 h4_ (⟨Array.size h, 0, none⟩) = some v10_ ∧ ∃ x11_, v10_ = (Value.int .i64 x11_) ∧ f23.j2 R a1 v3 x24 (⟨Array.size h, 0, none⟩) A22 n22 c22 x23 x24 (decide (x11_ > (2199023255552 : Int))) h4_))) (R (Value.int .i64 (0 : Int)) h)
set_option maxRecDepth 100000 in
theorem f23.l0_in {R : Value → Heap → Prop} {a1 : Addr} {v3 : Value} {A22 : Option Addr} {n22 : Nat} {c22 : Nat} {x23 : Int} {x24 : Int} {h : Heap} (H : f23.l0T R a1 v3 A22 n22 c22 x23 x24 h) : f23.l0 R a1 v3 A22 n22 c22 x23 x24 h :=
  pt_intro mixed f23.good (Eq.mpr (show (Fwd Try.prog f23.T f23.kp Try.f23 R [false, false, true, false, true, true, true] (mkFr [(1, (Value.pointer (some a1))), (3, v3), (22, (Value.slice A22 n22 c22)), (23, (Value.int .i64 x23)), (24, (Value.int .i64 x24))]) h) = (f23.l0T R a1 v3 A22 n22 c22 x23 x24 h) by kernel_rfl) H)
set_option maxRecDepth 100000 in
def f23.j2T (R : Value → Heap → Prop) (a1 : Addr) (v3 : Value) (x4 : Int) (a5 : Addr) (A22 : Option Addr) (n22 : Nat) (c22 : Nat) (x23 : Int) (x24 : Int) (b29 : Bool) (h : Heap) : Prop :=
  splitB b29 (R (Value.int .i64 (1 : Int)) h) (splitB (decide (x4 > (0 : Int))) (∃ v1_, ldv false 1 h (Addr.add a1 1) = some v1_ ∧ ∃ A2_, ∃ n2_, ∃ c2_, v1_ = (Value.slice A2_ n2_ c2_) ∧ ptrOk A2_ fun a3_ => 0 ≤ (IntKind.wrap .i64 (x4 - (1 : Int))) ∧ (IntKind.wrap .i64 (x4 - (1 : Int))) < ((n2_ : Nat) : Int) ∧ (∃ v4_, ldv true 2 h (Addr.add a3_ (Int.toNat (IntKind.wrap .i64 (x4 - (1 : Int))) * 2)) = some v4_ ∧ ∃ v5_, ldv true 2 h a5 = some v5_ ∧ Run Try.prog 80 #[v4_, v5_] h fun v6_ h7_ => ∃ x8_, v6_ = (Value.int .i64 x8_) ∧ f23.j3 R a1 v3 a5 A22 n22 c22 x23 x24 (decide (x8_ ≥ (0 : Int))) h7_)) (f23.j3 R a1 v3 a5 A22 n22 c22 x23 x24 false h))
set_option maxRecDepth 100000 in
theorem f23.j2_in {R : Value → Heap → Prop} {a1 : Addr} {v3 : Value} {x4 : Int} {a5 : Addr} {A22 : Option Addr} {n22 : Nat} {c22 : Nat} {x23 : Int} {x24 : Int} {b29 : Bool} {h : Heap} (H : f23.j2T R a1 v3 x4 a5 A22 n22 c22 x23 x24 b29 h) : f23.j2 R a1 v3 x4 a5 A22 n22 c22 x23 x24 b29 h :=
  pt_intro mixed f23.good (Eq.mpr (show (Fwd Try.prog f23.T f23.kp Try.f23 R [true, false, false, true, false, false, true, true, false, false, true, false, true, true, true] (mkFr [(1, (Value.pointer (some a1))), (3, v3), (4, (Value.int .i64 x4)), (5, (Value.pointer (some a5))), (22, (Value.slice A22 n22 c22)), (23, (Value.int .i64 x23)), (24, (Value.int .i64 x24)), (29, (Value.bool b29))]) h) = (f23.j2T R a1 v3 x4 a5 A22 n22 c22 x23 x24 b29 h) by kernel_rfl) H)
set_option maxRecDepth 100000 in
def f23.j3T (R : Value → Heap → Prop) (a1 : Addr) (v3 : Value) (a5 : Addr) (A22 : Option Addr) (n22 : Nat) (c22 : Nat) (x23 : Int) (x24 : Int) (b40 : Bool) (h : Heap) : Prop :=
  splitB b40 (R (Value.int .i64 (21 : Int)) h) (∃ v1_, ldv false 1 h (Addr.add a5 1) = some v1_ ∧ ∃ x2_, v1_ = (Value.int .i64 x2_) ∧ Gen Try.prog (Instr.lookup 164 v3 (Value.int .i64 x2_) false) h fun v3_ h4_ => ∃ b5_, v3_ = (Value.bool b5_) ∧ splitB b5_ (R (Value.int .i64 (5 : Int)) h4_) (f23.j1 R a1 v3 a5 A22 n22 c22 x23 x24 h4_))
set_option maxRecDepth 100000 in
theorem f23.j3_in {R : Value → Heap → Prop} {a1 : Addr} {v3 : Value} {a5 : Addr} {A22 : Option Addr} {n22 : Nat} {c22 : Nat} {x23 : Int} {x24 : Int} {b40 : Bool} {h : Heap} (H : f23.j3T R a1 v3 a5 A22 n22 c22 x23 x24 b40 h) : f23.j3 R a1 v3 a5 A22 n22 c22 x23 x24 b40 h :=
  pt_intro mixed f23.good (Eq.mpr (show (Fwd Try.prog f23.T f23.kp Try.f23 R [true, true, true, false, false, true, false, false, true, true, false, false, true, false, true, true, true] (mkFr [(1, (Value.pointer (some a1))), (3, v3), (5, (Value.pointer (some a5))), (22, (Value.slice A22 n22 c22)), (23, (Value.int .i64 x23)), (24, (Value.int .i64 x24)), (40, (Value.bool b40))]) h) = (f23.j3T R a1 v3 a5 A22 n22 c22 x23 x24 b40 h) by kernel_rfl) H)
set_option maxRecDepth 100000 in
def f23.j1T (R : Value → Heap → Prop) (a1 : Addr) (v3 : Value) (a5 : Addr) (A22 : Option Addr) (n22 : Nat) (c22 : Nat) (x23 : Int) (x24 : Int) (h : Heap) : Prop :=
  ∃ v1_, ldv false 1 h (Addr.add a5 1) = some v1_ ∧ ∃ x2_, v1_ = (Value.int .i64 x2_) ∧ Hwp Try.prog (Instr.mapUpdate 164 v3 (Value.int .i64 x2_) (Value.bool true)) h fun _ h3_ => f23.l0 R a1 v3 A22 n22 c22 x23 (IntKind.wrap .i64 (x24 + (1 : Int))) h3_
set_option maxRecDepth 100000 in
theorem f23.j1_in {R : Value → Heap → Prop} {a1 : Addr} {v3 : Value} {a5 : Addr} {A22 : Option Addr} {n22 : Nat} {c22 : Nat} {x23 : Int} {x24 : Int} {h : Heap} (H : f23.j1T R a1 v3 a5 A22 n22 c22 x23 x24 h) : f23.j1 R a1 v3 a5 A22 n22 c22 x23 x24 h :=
  pt_intro mixed f23.good (Eq.mpr (show (Fwd Try.prog f23.T f23.kp Try.f23 R [true, true, false, false, true, true, false, false, true, false, true, true, true] (mkFr [(1, (Value.pointer (some a1))), (3, v3), (5, (Value.pointer (some a5))), (22, (Value.slice A22 n22 c22)), (23, (Value.int .i64 x23)), (24, (Value.int .i64 x24))]) h) = (f23.j1T R a1 v3 a5 A22 n22 c22 x23 x24 h) by kernel_rfl) H)
set_option maxRecDepth 100000 in
def f23.runT (R : Value → Heap → Prop) (v0 : Value) (h : Heap) : Prop :=
  newH h (Obj.cells ((v0).cells) 48) fun h1_ => ∃ v2_, ldv false 1 h1_ (Addr.add (⟨Array.size h, 0, none⟩) 1) = some v2_ ∧ ∃ A3_, ∃ n3_, ∃ c3_, v2_ = (Value.slice A3_ n3_ c3_) ∧ splitB (decide (((n3_ : Nat) : Int) > (100 : Int))) (R (Value.int .i64 (2 : Int)) h1_) (∃ v4_, ldv false 1 h1_ (⟨Array.size h, 0, none⟩) = some v4_ ∧ ∃ x5_, v4_ = (Value.int .i64 x5_) ∧ splitB (decide (x5_ < (0 : Int))) (R (Value.int .i64 (1 : Int)) h1_) (∃ v6_, ldv false 1 h1_ (⟨Array.size h, 0, none⟩) = some v6_ ∧ ∃ x7_, v6_ = (Value.int .i64 x7_) ∧ splitB (decide (x7_ > (1099511627776 : Int))) (R (Value.int .i64 (1 : Int)) h1_) (f23.j0 R (⟨Array.size h, 0, none⟩) h1_)))
set_option maxRecDepth 100000 in
theorem f23.run {R : Value → Heap → Prop} {v0 : Value} {h : Heap} (H : f23.runT R v0 h) : Run Try.prog 23 #[v0] h R :=
  run_of mixed Try.func23 (by kernel_rfl) (by kernel_rfl) f23.good (Eq.mpr (show (Fwd Try.prog f23.T f23.kp Try.f23 R [] (mkFr (argL [v0] 0)) h) = (f23.runT R v0 h) by kernel_rfl) H)
def f27.T : Tab := { sh := tSh, tup := tTup, keep := [], plan := [(11, (.take 0 (.take 1 (.take 2 (.take 3 (.take 4 (.take 5 (.take 6 (.take 7 (.eff false false [] 8 .done)))))))))), (15, (.take 0 (.take 1 (.take 2 (.take 3 (.take 4 (.take 5 (.take 6 (.take 7 (.eff false false [] 8 .done))))))))))] }
def f27.kp : Keep := []
theorem f27.good : goodCode Try.prog f27.T (rootOf Try.f27) = true := by kernel_rfl
set_option maxRecDepth 100000 in
def f27.runT (R : Value → Heap → Prop) (A0 : Option Addr) (n0 : Nat) (c0 : Nat) (x1 : Int) (A2 : Option Addr) (n2 : Nat) (c2 : Nat) (h : Heap) : Prop :=
  0 ≤ x1 ∧ x1 ≤ ((n0 : Nat) : Int) ∧ ((n0 : Nat) : Int) ≤ ((c0 : Nat) : Int) ∧ (splitB (((n2 : Nat) : Int) == (0 : Int)) (R (Value.slice A0 n0 c0) h) (splitB (x1 == ((n0 : Nat) : Int)) (AppW 60 2 16 #[(Value.int .i64 (0 : Int)), (Value.int .i64 (0 : Int))] A0 n0 c0 (Value.slice A2 n2 c2) h fun v1_ h2_ => ∃ A3_, ∃ n3_, ∃ c3_, v1_ = (Value.slice A3_ n3_ c3_) ∧ R (Value.slice A3_ n3_ c3_) h2_) (splitB (decide ((IntKind.wrap .i64 (((n0 : Nat) : Int) + ((n2 : Nat) : Int))) > ((c0 : Nat) : Int))) (0 ≤ (0 : Int) ∧ (0 : Int) ≤ x1 ∧ x1 ≤ ((c0 : Nat) : Int) ∧ (AppZ 60 2 16 #[(Value.int .i64 (0 : Int)), (Value.int .i64 (0 : Int))] (sliceA A0 (Int.toNat (0 : Int)) c0 2) (Int.toNat x1 - Int.toNat (0 : Int)) (c0 - Int.toNat (0 : Int)) (Value.int .i64 (IntKind.wrap .i64 ((IntKind.wrap .i64 (((n0 : Nat) : Int) + ((n2 : Nat) : Int))) - x1))) h fun v4_ h5_ => ∃ A6_, ∃ n6_, ∃ c6_, v4_ = (Value.slice A6_ n6_ c6_) ∧ 0 ≤ x1 ∧ x1 ≤ ((n6_ : Nat) : Int) ∧ ((n6_ : Nat) : Int) ≤ ((c6_ : Nat) : Int) ∧ (Gen Try.prog (Builtin.copy_ #[46, 46] 3 #[(Value.slice (sliceA A6_ (Int.toNat x1) c6_ 2) (Int.toNat ((n6_ : Nat) : Int) - Int.toNat x1) (c6_ - Int.toNat x1)), (Value.slice A2 n2 c2)]) h5_ fun v7_ h8_ => ∃ x9_, v7_ = (Value.int .i64 x9_) ∧ 0 ≤ (IntKind.wrap .i64 (x1 + ((n2 : Nat) : Int))) ∧ (IntKind.wrap .i64 (x1 + ((n2 : Nat) : Int))) ≤ ((n6_ : Nat) : Int) ∧ ((n6_ : Nat) : Int) ≤ ((c6_ : Nat) : Int) ∧ (0 ≤ x1 ∧ x1 ≤ ((n0 : Nat) : Int) ∧ ((n0 : Nat) : Int) ≤ ((c0 : Nat) : Int) ∧ (Gen Try.prog (Builtin.copy_ #[46, 46] 3 #[(Value.slice (sliceA A6_ (Int.toNat (IntKind.wrap .i64 (x1 + ((n2 : Nat) : Int)))) c6_ 2) (Int.toNat ((n6_ : Nat) : Int) - Int.toNat (IntKind.wrap .i64 (x1 + ((n2 : Nat) : Int)))) (c6_ - Int.toNat (IntKind.wrap .i64 (x1 + ((n2 : Nat) : Int))))), (Value.slice (sliceA A0 (Int.toNat x1) c0 2) (Int.toNat ((n0 : Nat) : Int) - Int.toNat x1) (c0 - Int.toNat x1))]) h8_ fun v10_ h11_ => ∃ x12_, v10_ = (Value.int .i64 x12_) ∧ R (Value.slice A6_ n6_ c6_) h11_))))) (0 ≤ (0 : Int) ∧ (0 : Int) ≤ (IntKind.wrap .i64 (((n0 : Nat) : Int) + ((n2 : Nat) : Int))) ∧ (IntKind.wrap .i64 (((n0 : Nat) : Int) + ((n2 : Nat) : Int))) ≤ ((c0 : Nat) : Int) ∧ (0 ≤ (IntKind.wrap .i64 (x1 + ((n2 : Nat) : Int))) ∧ (IntKind.wrap .i64 (x1 + ((n2 : Nat) : Int))) ≤ (((Int.toNat (IntKind.wrap .i64 (((n0 : Nat) : Int) + ((n2 : Nat) : Int))) - Int.toNat (0 : Int)) : Nat) : Int) ∧ (((Int.toNat (IntKind.wrap .i64 (((n0 : Nat) : Int) + ((n2 : Nat) : Int))) - Int.toNat (0 : Int)) : Nat) : Int) ≤ (((c0 - Int.toNat (0 : Int)) : Nat) : Int) ∧ (ExtF Try.prog 81 #[(Value.slice A2 n2 c2), (Value.slice (sliceA (sliceA A0 (Int.toNat (0 : Int)) c0 2) (Int.toNat (IntKind.wrap .i64 (x1 + ((n2 : Nat) : Int)))) (c0 - Int.toNat (0 : Int)) 2) (Int.toNat (((Int.toNat (IntKind.wrap .i64 (((n0 : Nat) : Int) + ((n2 : Nat) : Int))) - Int.toNat (0 : Int)) : Nat) : Int) - Int.toNat (IntKind.wrap .i64 (x1 + ((n2 : Nat) : Int)))) ((c0 - Int.toNat (0 : Int)) - Int.toNat (IntKind.wrap .i64 (x1 + ((n2 : Nat) : Int)))))] h fun v13_ h14_ => ∃ b15_, v13_ = (Value.bool b15_) ∧ splitB (!b15_) (0 ≤ (IntKind.wrap .i64 (x1 + ((n2 : Nat) : Int))) ∧ (IntKind.wrap .i64 (x1 + ((n2 : Nat) : Int))) ≤ (((Int.toNat (IntKind.wrap .i64 (((n0 : Nat) : Int) + ((n2 : Nat) : Int))) - Int.toNat (0 : Int)) : Nat) : Int) ∧ (((Int.toNat (IntKind.wrap .i64 (((n0 : Nat) : Int) + ((n2 : Nat) : Int))) - Int.toNat (0 : Int)) : Nat) : Int) ≤ (((c0 - Int.toNat (0 : Int)) : Nat) : Int) ∧ (0 ≤ x1 ∧ x1 ≤ (((Int.toNat (IntKind.wrap .i64 (((n0 : Nat) : Int) + ((n2 : Nat) : Int))) - Int.toNat (0 : Int)) : Nat) : Int) ∧ (((Int.toNat (IntKind.wrap .i64 (((n0 : Nat) : Int) + ((n2 : Nat) : Int))) - Int.toNat (0 : Int)) : Nat) : Int) ≤ (((c0 - Int.toNat (0 : Int)) : Nat) : Int) ∧ (Gen Try.prog (Builtin.copy_ #[46, 46] 3 #[(Value.slice (sliceA (sliceA A0 (Int.toNat (0 : Int)) c0 2) (Int.toNat (IntKind.wrap .i64 (x1 + ((n2 : Nat) : Int)))) (c0 - Int.toNat (0 : Int)) 2) (Int.toNat (((Int.toNat (IntKind.wrap .i64 (((n0 : Nat) : Int) + ((n2 : Nat) : Int))) - Int.toNat (0 : Int)) : Nat) : Int) - Int.toNat (IntKind.wrap .i64 (x1 + ((n2 : Nat) : Int)))) ((c0 - Int.toNat (0 : Int)) - Int.toNat (IntKind.wrap .i64 (x1 + ((n2 : Nat) : Int))))), (Value.slice (sliceA (sliceA A0 (Int.toNat (0 : Int)) c0 2) (Int.toNat x1) (c0 - Int.toNat (0 : Int)) 2) (Int.toNat (((Int.toNat (IntKind.wrap .i64 (((n0 : Nat) : Int) + ((n2 : Nat) : Int))) - Int.toNat (0 : Int)) : Nat) : Int) - Int.toNat x1) ((c0 - Int.toNat (0 : Int)) - Int.toNat x1))]) h14_ fun v16_ h17_ => ∃ x18_, v16_ = (Value.int .i64 x18_) ∧ 0 ≤ x1 ∧ x1 ≤ (((Int.toNat (IntKind.wrap .i64 (((n0 : Nat) : Int) + ((n2 : Nat) : Int))) - Int.toNat (0 : Int)) : Nat) : Int) ∧ (((Int.toNat (IntKind.wrap .i64 (((n0 : Nat) : Int) + ((n2 : Nat) : Int))) - Int.toNat (0 : Int)) : Nat) : Int) ≤ (((c0 - Int.toNat (0 : Int)) : Nat) : Int) ∧ (Gen Try.prog (Builtin.copy_ #[46, 46] 3 #[(Value.slice (sliceA (sliceA A0 (Int.toNat (0 : Int)) c0 2) (Int.toNat x1) (c0 - Int.toNat (0 : Int)) 2) (Int.toNat (((Int.toNat (IntKind.wrap .i64 (((n0 : Nat) : Int) + ((n2 : Nat) : Int))) - Int.toNat (0 : Int)) : Nat) : Int) - Int.toNat x1) ((c0 - Int.toNat (0 : Int)) - Int.toNat x1)), (Value.slice A2 n2 c2)]) h17_ fun v19_ h20_ => ∃ x21_, v19_ = (Value.int .i64 x21_) ∧ R (Value.slice (sliceA A0 (Int.toNat (0 : Int)) c0 2) (Int.toNat (IntKind.wrap .i64 (((n0 : Nat) : Int) + ((n2 : Nat) : Int))) - Int.toNat (0 : Int)) (c0 - Int.toNat (0 : Int))) h20_)))) (0 ≤ ((n0 : Nat) : Int) ∧ ((n0 : Nat) : Int) ≤ (((Int.toNat (IntKind.wrap .i64 (((n0 : Nat) : Int) + ((n2 : Nat) : Int))) - Int.toNat (0 : Int)) : Nat) : Int) ∧ (((Int.toNat (IntKind.wrap .i64 (((n0 : Nat) : Int) + ((n2 : Nat) : Int))) - Int.toNat (0 : Int)) : Nat) : Int) ≤ (((c0 - Int.toNat (0 : Int)) : Nat) : Int) ∧ (Gen Try.prog (Builtin.copy_ #[46, 46] 3 #[(Value.slice (sliceA (sliceA A0 (Int.toNat (0 : Int)) c0 2) (Int.toNat ((n0 : Nat) : Int)) (c0 - Int.toNat (0 : Int)) 2) (Int.toNat (((Int.toNat (IntKind.wrap .i64 (((n0 : Nat) : Int) + ((n2 : Nat) : Int))) - Int.toNat (0 : Int)) : Nat) : Int) - Int.toNat ((n0 : Nat) : Int)) ((c0 - Int.toNat (0 : Int)) - Int.toNat ((n0 : Nat) : Int))), (Value.slice A2 n2 c2)]) h14_ fun v22_ h23_ => ∃ x24_, v22_ = (Value.int .i64 x24_) ∧ 0 ≤ x1 ∧ x1 ≤ (((Int.toNat (IntKind.wrap .i64 (((n0 : Nat) : Int) + ((n2 : Nat) : Int))) - Int.toNat (0 : Int)) : Nat) : Int) ∧ (((Int.toNat (IntKind.wrap .i64 (((n0 : Nat) : Int) + ((n2 : Nat) : Int))) - Int.toNat (0 : Int)) : Nat) : Int) ≤ (((c0 - Int.toNat (0 : Int)) : Nat) : Int) ∧ (Run Try.prog 82 #[(Value.slice (sliceA (sliceA A0 (Int.toNat (0 : Int)) c0 2) (Int.toNat x1) (c0 - Int.toNat (0 : Int)) 2) (Int.toNat (((Int.toNat (IntKind.wrap .i64 (((n0 : Nat) : Int) + ((n2 : Nat) : Int))) - Int.toNat (0 : Int)) : Nat) : Int) - Int.toNat x1) ((c0 - Int.toNat (0 : Int)) - Int.toNat x1)), (Value.int .i64 ((n2 : Nat) : Int))] h23_ fun v25_ h26_ => v25_ = (Value.tuple #[]) ∧ R (Value.slice (sliceA A0 (Int.toNat (0 : Int)) c0 2) (Int.toNat (IntKind.wrap .i64 (((n0 : Nat) : Int) + ((n2 : Nat) : Int))) - Int.toNat (0 : Int)) (c0 - Int.toNat (0 : Int))) h26_)))))))))
set_option maxRecDepth 100000 in
theorem f27.run {R : Value → Heap → Prop} {A0 : Option Addr} {n0 : Nat} {c0 : Nat} {x1 : Int} {A2 : Option Addr} {n2 : Nat} {c2 : Nat} {h : Heap} (H : f27.runT R A0 n0 c0 x1 A2 n2 c2 h) : Run Try.prog 27 #[(Value.slice A0 n0 c0), (Value.int .i64 x1), (Value.slice A2 n2 c2)] h R :=
  run_of mixed Try.func27 (by kernel_rfl) (by kernel_rfl) f27.good (Eq.mpr (show (Fwd Try.prog f27.T f27.kp Try.f27 R [] (mkFr (argL [(Value.slice A0 n0 c0), (Value.int .i64 x1), (Value.slice A2 n2 c2)] 0)) h) = (f27.runT R A0 n0 c0 x1 A2 n2 c2 h) by kernel_rfl) H)
def f28.T : Tab := { sh := tSh, tup := tTup, keep := [], plan := [] }
def f28.kp : Keep := []
theorem f28.good : goodCode Try.prog f28.T (rootOf Try.f28) = true := by kernel_rfl
set_option maxRecDepth 100000 in
def f28.runT (R : Value → Heap → Prop) (A0 : Option Addr) (n0 : Nat) (c0 : Nat) (h : Heap) : Prop :=
  splitB (Option.isNone A0) (R (Value.slice none 0 0) h) (newH h (Obj.cells #[] 60) fun h1_ => AppW 60 2 16 #[(Value.int .i64 (0 : Int)), (Value.int .i64 (0 : Int))] (some ⟨Array.size h, 0, none⟩) 0 0 (Value.slice A0 n0 c0) h1_ fun v2_ h3_ => ∃ A4_, ∃ n4_, ∃ c4_, v2_ = (Value.slice A4_ n4_ c4_) ∧ R (Value.slice A4_ n4_ c4_) h3_)
set_option maxRecDepth 100000 in
theorem f28.run {R : Value → Heap → Prop} {A0 : Option Addr} {n0 : Nat} {c0 : Nat} {h : Heap} (H : f28.runT R A0 n0 c0 h) : Run Try.prog 28 #[(Value.slice A0 n0 c0)] h R :=
  run_of mixed Try.func28 (by kernel_rfl) (by kernel_rfl) f28.good (Eq.mpr (show (Fwd Try.prog f28.T f28.kp Try.f28 R [] (mkFr (argL [(Value.slice A0 n0 c0)] 0)) h) = (f28.runT R A0 n0 c0 h) by kernel_rfl) H)
def f125.T : Tab := { sh := tSh, tup := tTup, keep := [], plan := [] }
def f125.kp : Keep := [([false, false, true, false, true], [0, 1, 7, 8])]
theorem f125.good : goodCode Try.prog f125.T (rootOf Try.f125) = true := by kernel_rfl
def f125.l0 (R : Value → Heap → Prop) (A0 : Option Addr) (n0 : Nat) (c0 : Nat) (v1 : Value) (x7 : Int) (x8 : Int) (h : Heap) : Prop := Pt Try.prog Try.f125 R [false, false, true, false, true] (mkFr [(0, (Value.slice A0 n0 c0)), (1, v1), (7, (Value.int .i64 x7)), (8, (Value.int .i64 x8))]) h
set_option maxRecDepth 100000 in
def f125.l0T (R : Value → Heap → Prop) (A0 : Option Addr) (n0 : Nat) (c0 : Nat) (v1 : Value) (x7 : Int) (x8 : Int) (h : Heap) : Prop :=
  splitB (decide (x8 < x7)) (ptrOk A0 fun a1_ => 0 ≤ x8 ∧ x8 < ((n0 : Nat) : Int) ∧ (∃ v2_, ldv true 2 h (Addr.add a1_ (Int.toNat x8 * 2)) = some v2_ ∧ CallF Try.prog v1 [v2_] h fun v3_ h4_ => ∃ b5_, v3_ = (Value.bool b5_) ∧ splitB b5_ (R (Value.int .i64 x8) h4_) (f125.l0 R A0 n0 c0 v1 x7 (IntKind.wrap .i64 (x8 + (1 : Int))) h4_))) (R (Value.int .i64 (-1 : Int)) h)
set_option maxRecDepth 100000 in
theorem f125.l0_in {R : Value → Heap → Prop} {A0 : Option Addr} {n0 : Nat} {c0 : Nat} {v1 : Value} {x7 : Int} {x8 : Int} {h : Heap} (H : f125.l0T R A0 n0 c0 v1 x7 x8 h) : f125.l0 R A0 n0 c0 v1 x7 x8 h :=
  pt_intro mixed f125.good (Eq.mpr (show (Fwd Try.prog f125.T f125.kp Try.f125 R [false, false, true, false, true] (mkFr [(0, (Value.slice A0 n0 c0)), (1, v1), (7, (Value.int .i64 x7)), (8, (Value.int .i64 x8))]) h) = (f125.l0T R A0 n0 c0 v1 x7 x8 h) by kernel_rfl) H)
set_option maxRecDepth 100000 in
def f125.runT (R : Value → Heap → Prop) (A0 : Option Addr) (n0 : Nat) (c0 : Nat) (v1 : Value) (h : Heap) : Prop :=
  f125.l0 R A0 n0 c0 v1 ((n0 : Nat) : Int) (0 : Int) h
set_option maxRecDepth 100000 in
theorem f125.run {R : Value → Heap → Prop} {A0 : Option Addr} {n0 : Nat} {c0 : Nat} {v1 : Value} {h : Heap} (H : f125.runT R A0 n0 c0 v1 h) : Run Try.prog 125 #[(Value.slice A0 n0 c0), v1] h R :=
  run_of mixed Try.func125 (by kernel_rfl) (by kernel_rfl) f125.good (Eq.mpr (show (Fwd Try.prog f125.T f125.kp Try.f125 R [] (mkFr (argL [(Value.slice A0 n0 c0), v1] 0)) h) = (f125.runT R A0 n0 c0 v1 h) by kernel_rfl) H)
def f126.T : Tab := { sh := tSh, tup := tTup, keep := [], plan := [] }
def f126.kp : Keep := []
theorem f126.good : goodCode Try.prog f126.T (rootOf Try.f126) = true := by kernel_rfl
set_option maxRecDepth 100000 in
theorem f126.ok : calleeOk Try.prog 126 = true := by kernel_rfl
set_option maxRecDepth 100000 in
def f126.runT (R : Value → Heap → Prop) (v0 : Value) (a1 : Addr) (h : Heap) : Prop :=
  newH h (Obj.cells ((v0).cells) 60) fun h1_ => ∃ v2_, ldv false 1 h1_ (Addr.add (⟨Array.size h, 0, none⟩) 1) = some v2_ ∧ ∃ x3_, v2_ = (Value.int .i64 x3_) ∧ ∃ v4_, ldv false 1 h1_ a1 = some v4_ ∧ ∃ x5_, v4_ = (Value.int .i64 x5_) ∧ R (Value.bool (x3_ == x5_)) h1_
set_option maxRecDepth 100000 in
theorem f126.run {R : Value → Heap → Prop} {v0 : Value} {a1 : Addr} {h : Heap} (H : f126.runT R v0 a1 h) : Run Try.prog 126 #[v0, (Value.pointer (some a1))] h R :=
  run_of mixed Try.func126 (by kernel_rfl) (by kernel_rfl) f126.good (Eq.mpr (show (Fwd Try.prog f126.T f126.kp Try.f126 R [] (mkFr (argL [v0, (Value.pointer (some a1))] 0)) h) = (f126.runT R v0 a1 h) by kernel_rfl) H)
def f77.T : Tab := { sh := tSh, tup := tTup, keep := [], plan := [] }
def f77.kp : Keep := []
theorem f77.good : goodCode Try.prog f77.T (rootOf Try.f77) = true := by kernel_rfl
set_option maxRecDepth 100000 in
def f77.runT (R : Value → Heap → Prop) (v0 : Value) (x1 : Int) (h : Heap) : Prop :=
  newH h (Obj.cells ((v0).cells) 48) fun h1_ => newH h1_ (Obj.cells #[(Value.int .i64 x1)] 3) fun h2_ => ∃ v3_, ldv false 1 h2_ (Addr.add (⟨Array.size h, 0, none⟩) 1) = some v3_ ∧ ∃ A4_, ∃ n4_, ∃ c4_, v3_ = (Value.slice A4_ n4_ c4_) ∧ Run Try.prog 125 #[(Value.slice A4_ n4_ c4_), (Value.func (.func 126) #[] #[(Value.pointer (some ⟨Array.size h1_, 0, none⟩))])] h2_ fun v5_ h6_ => ∃ x7_, v5_ = (Value.int .i64 x7_) ∧ R (Value.int .i64 x7_) h6_
set_option maxRecDepth 100000 in
theorem f77.run {R : Value → Heap → Prop} {v0 : Value} {x1 : Int} {h : Heap} (H : f77.runT R v0 x1 h) : Run Try.prog 77 #[v0, (Value.int .i64 x1)] h R :=
  run_of mixed Try.func77 (by kernel_rfl) (by kernel_rfl) f77.good (Eq.mpr (show (Fwd Try.prog f77.T f77.kp Try.f77 R [] (mkFr (argL [v0, (Value.int .i64 x1)] 0)) h) = (f77.runT R v0 x1 h) by kernel_rfl) H)
def f78.T : Tab := { sh := tSh, tup := tTup, keep := [], plan := [(5, (.take 0 (.take 1 (.take 2 (.take 3 (.take 4 (.take 5 (.eff false false [] 6 (.take 7 .done)))))))))] }
def f78.kp : Keep := []
theorem f78.good : goodCode Try.prog f78.T (rootOf Try.f78) = true := by kernel_rfl
set_option maxRecDepth 100000 in
def f78.runT (R : Value → Heap → Prop) (A0 : Option Addr) (n0 : Nat) (c0 : Nat) (x1 : Int) (x2 : Int) (h : Heap) : Prop :=
  0 ≤ x1 ∧ x1 ≤ x2 ∧ x2 ≤ ((n0 : Nat) : Int) ∧ ((n0 : Nat) : Int) ≤ ((c0 : Nat) : Int) ∧ (splitB (x1 == x2) (R (Value.slice A0 n0 c0) h) (0 ≤ (0 : Int) ∧ (0 : Int) ≤ x1 ∧ x1 ≤ ((c0 : Nat) : Int) ∧ (0 ≤ x2 ∧ x2 ≤ ((n0 : Nat) : Int) ∧ ((n0 : Nat) : Int) ≤ ((c0 : Nat) : Int) ∧ (AppW 60 2 16 #[(Value.int .i64 (0 : Int)), (Value.int .i64 (0 : Int))] (sliceA A0 (Int.toNat (0 : Int)) c0 2) (Int.toNat x1 - Int.toNat (0 : Int)) (c0 - Int.toNat (0 : Int)) (Value.slice (sliceA A0 (Int.toNat x2) c0 2) (Int.toNat ((n0 : Nat) : Int) - Int.toNat x2) (c0 - Int.toNat x2)) h fun v1_ h2_ => ∃ A3_, ∃ n3_, ∃ c3_, v1_ = (Value.slice A3_ n3_ c3_) ∧ 0 ≤ ((n3_ : Nat) : Int) ∧ ((n3_ : Nat) : Int) ≤ ((n0 : Nat) : Int) ∧ ((n0 : Nat) : Int) ≤ ((c3_ : Nat) : Int) ∧ (Gen Try.prog (Builtin.clear_ #[46] 0 #[(Value.slice (sliceA A3_ (Int.toNat ((n3_ : Nat) : Int)) c3_ 2) (Int.toNat ((n0 : Nat) : Int) - Int.toNat ((n3_ : Nat) : Int)) (c3_ - Int.toNat ((n3_ : Nat) : Int)))]) h2_ fun v4_ h5_ => v4_ = (Value.tuple #[]) ∧ R (Value.slice A3_ n3_ c3_) h5_)))))
set_option maxRecDepth 100000 in
theorem f78.run {R : Value → Heap → Prop} {A0 : Option Addr} {n0 : Nat} {c0 : Nat} {x1 : Int} {x2 : Int} {h : Heap} (H : f78.runT R A0 n0 c0 x1 x2 h) : Run Try.prog 78 #[(Value.slice A0 n0 c0), (Value.int .i64 x1), (Value.int .i64 x2)] h R :=
  run_of mixed Try.func78 (by kernel_rfl) (by kernel_rfl) f78.good (Eq.mpr (show (Fwd Try.prog f78.T f78.kp Try.f78 R [] (mkFr (argL [(Value.slice A0 n0 c0), (Value.int .i64 x1), (Value.int .i64 x2)] 0)) h) = (f78.runT R A0 n0 c0 x1 x2 h) by kernel_rfl) H)
def f79.T : Tab := { sh := tSh, tup := tTup, keep := [], plan := [(5, (.take 0 (.take 1 (.take 2 (.take 3 (.take 4 (.take 5 (.eff false false [] 6 (.take 7 .done))))))))), (8, (.take 0 (.take 1 (.take 2 (.take 3 (.take 4 (.split 4 (.take 5 (.take 6 (.take 7 (.take 8 (.take 9 (.take 10 (.eff false false [] 11 (.take 12 (.take 13 (.take 14 (.take 15 .done))))))))))))))))))] }
def f79.kp : Keep := [([false, false, false, true, true, true], [0, 2, 4, 8, 9, 10])]
theorem f79.good : goodCode Try.prog f79.T (rootOf Try.f79) = true := by kernel_rfl
def f79.l0 (R : Value → Heap → Prop) (A0 : Option Addr) (n0 : Nat) (c0 : Nat) (v2 : Value) (a4 : Addr) (x8 : Int) (x9 : Int) (x10 : Int) (h : Heap) : Prop := Pt Try.prog Try.f79 R [false, false, false, true, true, true] (mkFr [(0, (Value.slice A0 n0 c0)), (2, v2), (4, (Value.pointer (some a4))), (8, (Value.int .i64 x8)), (9, (Value.int .i64 x9)), (10, (Value.int .i64 x10))]) h
set_option maxRecDepth 100000 in
def f79.l0T (R : Value → Heap → Prop) (A0 : Option Addr) (n0 : Nat) (c0 : Nat) (v2 : Value) (a4 : Addr) (x8 : Int) (x9 : Int) (x10 : Int) (h : Heap) : Prop :=
  splitB (decide (x9 < x10)) (0 ≤ (1 : Int) ∧ (ptrOk A0 fun a1_ => 0 ≤ (IntKind.wrap .i64 (shrI .u64 (IntKind.wrap .u64 (IntKind.wrap .i64 (x9 + x10))) (1 : Int))) ∧ (IntKind.wrap .i64 (shrI .u64 (IntKind.wrap .u64 (IntKind.wrap .i64 (x9 + x10))) (1 : Int))) < ((n0 : Nat) : Int) ∧ (∃ v2_, ldv true 2 h (Addr.add a1_ (Int.toNat (IntKind.wrap .i64 (shrI .u64 (IntKind.wrap .u64 (IntKind.wrap .i64 (x9 + x10))) (1 : Int))) * 2)) = some v2_ ∧ ∃ v3_, ldv true 2 h a4 = some v3_ ∧ CallF Try.prog v2 [v2_, v3_] h fun v4_ h5_ => ∃ x6_, v4_ = (Value.int .i64 x6_) ∧ splitB (decide (x6_ < (0 : Int))) (f79.l0 R A0 n0 c0 v2 a4 x8 (IntKind.wrap .i64 ((IntKind.wrap .i64 (shrI .u64 (IntKind.wrap .u64 (IntKind.wrap .i64 (x9 + x10))) (1 : Int))) + (1 : Int))) x10 h5_) (f79.l0 R A0 n0 c0 v2 a4 x8 x9 (IntKind.wrap .i64 (shrI .u64 (IntKind.wrap .u64 (IntKind.wrap .i64 (x9 + x10))) (1 : Int))) h5_)))) (splitB (decide (x9 < x8)) (ptrOk A0 fun a7_ => 0 ≤ x9 ∧ x9 < ((n0 : Nat) : Int) ∧ (∃ v8_, ldv true 2 h (Addr.add a7_ (Int.toNat x9 * 2)) = some v8_ ∧ ∃ v9_, ldv true 2 h a4 = some v9_ ∧ CallF Try.prog v2 [v8_, v9_] h fun v10_ h11_ => ∃ x12_, v10_ = (Value.int .i64 x12_) ∧ R (Value.tuple #[(Value.int .i64 x9), (Value.bool (x12_ == (0 : Int)))]) h11_)) (R (Value.tuple #[(Value.int .i64 x9), (Value.bool false)]) h))
set_option maxRecDepth 100000 in
theorem f79.l0_in {R : Value → Heap → Prop} {A0 : Option Addr} {n0 : Nat} {c0 : Nat} {v2 : Value} {a4 : Addr} {x8 : Int} {x9 : Int} {x10 : Int} {h : Heap} (H : f79.l0T R A0 n0 c0 v2 a4 x8 x9 x10 h) : f79.l0 R A0 n0 c0 v2 a4 x8 x9 x10 h :=
  pt_intro mixed f79.good (Eq.mpr (show (Fwd Try.prog f79.T f79.kp Try.f79 R [false, false, false, true, true, true] (mkFr [(0, (Value.slice A0 n0 c0)), (2, v2), (4, (Value.pointer (some a4))), (8, (Value.int .i64 x8)), (9, (Value.int .i64 x9)), (10, (Value.int .i64 x10))]) h) = (f79.l0T R A0 n0 c0 v2 a4 x8 x9 x10 h) by kernel_rfl) H)
set_option maxRecDepth 100000 in
def f79.runT (R : Value → Heap → Prop) (A0 : Option Addr) (n0 : Nat) (c0 : Nat) (v1 : Value) (v2 : Value) (h : Heap) : Prop :=
  newH h (Obj.cells ((v1).cells) 60) fun h1_ => f79.l0 R A0 n0 c0 v2 (⟨Array.size h, 0, none⟩) ((n0 : Nat) : Int) (0 : Int) ((n0 : Nat) : Int) h1_
set_option maxRecDepth 100000 in
theorem f79.run {R : Value → Heap → Prop} {A0 : Option Addr} {n0 : Nat} {c0 : Nat} {v1 : Value} {v2 : Value} {h : Heap} (H : f79.runT R A0 n0 c0 v1 v2 h) : Run Try.prog 79 #[(Value.slice A0 n0 c0), v1, v2] h R :=
  run_of mixed Try.func79 (by kernel_rfl) (by kernel_rfl) f79.good (Eq.mpr (show (Fwd Try.prog f79.T f79.kp Try.f79 R [] (mkFr (argL [(Value.slice A0 n0 c0), v1, v2] 0)) h) = (f79.runT R A0 n0 c0 v1 v2 h) by kernel_rfl) H)
def f18.T : Tab := { sh := tSh, tup := tTup, keep := [], plan := [(14, (.take 0 (.take 2 (.take 3 (.take 4 (.frame 1 (.eff false false [1] 5 (.eff false false [1] 6 (.eff false false [] 7 (.eff false false [] 8 (.take 9 .done)))))))))))] }
def f18.kp : Keep := [([true, true, true, false, false, true, true], [1, 2, 3, 6, 21]), ([true, true, true], [1, 2, 3, 6]), ([true, true, true, true, true], [1, 2, 3, 6, 9])]
theorem f18.good : goodCode Try.prog f18.T (rootOf Try.f18) = true := by kernel_rfl
def f18.j2 (R : Value → Heap → Prop) (x1 : Int) (x2 : Int) (a3 : Addr) (a6 : Addr) (b21 : Bool) (h : Heap) : Prop := Pt Try.prog Try.f18 R [true, true, true, false, false, true, true] (mkFr [(1, (Value.int .i64 x1)), (2, (Value.int .i64 x2)), (3, (Value.pointer (some a3))), (6, (Value.pointer (some a6))), (21, (Value.bool b21))]) h
def f18.j0 (R : Value → Heap → Prop) (x1 : Int) (x2 : Int) (a3 : Addr) (a6 : Addr) (h : Heap) : Prop := Pt Try.prog Try.f18 R [true, true, true] (mkFr [(1, (Value.int .i64 x1)), (2, (Value.int .i64 x2)), (3, (Value.pointer (some a3))), (6, (Value.pointer (some a6)))]) h
def f18.j1 (R : Value → Heap → Prop) (x1 : Int) (x2 : Int) (a3 : Addr) (a6 : Addr) (A9 : Option Addr) (n9 : Nat) (c9 : Nat) (h : Heap) : Prop := Pt Try.prog Try.f18 R [true, true, true, true, true] (mkFr [(1, (Value.int .i64 x1)), (2, (Value.int .i64 x2)), (3, (Value.pointer (some a3))), (6, (Value.pointer (some a6))), (9, (Value.slice A9 n9 c9))]) h
set_option maxRecDepth 100000 in
def f18.j2T (R : Value → Heap → Prop) (x1 : Int) (x2 : Int) (a3 : Addr) (a6 : Addr) (b21 : Bool) (h : Heap) : Prop :=
  splitB b21 (∃ l2_ : List Value, (Value.agg #[(Value.int .i64 (0 : Int)), (Value.slice none 0 0)]) = Value.agg l2_.toArray ∧ l2_.length = 2 ∧ ∃ h1_, stH h a6 l2_ 0 = some h1_ ∧ ∃ v3_, ldv true 2 h1_ a6 = some v3_ ∧ R (Value.tuple #[v3_, (Value.int .i64 (1 : Int))]) h1_) (f18.j0 R x1 x2 a3 a6 h)
set_option maxRecDepth 100000 in
theorem f18.j2_in {R : Value → Heap → Prop} {x1 : Int} {x2 : Int} {a3 : Addr} {a6 : Addr} {b21 : Bool} {h : Heap} (H : f18.j2T R x1 x2 a3 a6 b21 h) : f18.j2 R x1 x2 a3 a6 b21 h :=
  pt_intro mixed f18.good (Eq.mpr (show (Fwd Try.prog f18.T f18.kp Try.f18 R [true, true, true, false, false, true, true] (mkFr [(1, (Value.int .i64 x1)), (2, (Value.int .i64 x2)), (3, (Value.pointer (some a3))), (6, (Value.pointer (some a6))), (21, (Value.bool b21))]) h) = (f18.j2T R x1 x2 a3 a6 b21 h) by kernel_rfl) H)
set_option maxRecDepth 100000 in
def f18.j0T (R : Value → Heap → Prop) (x1 : Int) (x2 : Int) (a3 : Addr) (a6 : Addr) (h : Heap) : Prop :=
  ∃ v1_, ldv false 1 h (Addr.add a3 1) = some v1_ ∧ ∃ A2_, ∃ n2_, ∃ c2_, v1_ = (Value.slice A2_ n2_ c2_) ∧ Run Try.prog 28 #[(Value.slice A2_ n2_ c2_)] h fun v3_ h4_ => ∃ A5_, ∃ n5_, ∃ c5_, v3_ = (Value.slice A5_ n5_ c5_) ∧ ∃ v6_, ldv true 2 h4_ a3 = some v6_ ∧ Run Try.prog 77 #[v6_, (Value.int .i64 x1)] h4_ fun v7_ h8_ => ∃ x9_, v7_ = (Value.int .i64 x9_) ∧ splitB (decide (x9_ ≥ (0 : Int))) (Run Try.prog 78 #[(Value.slice A5_ n5_ c5_), (Value.int .i64 x9_), (Value.int .i64 (IntKind.wrap .i64 (x9_ + (1 : Int))))] h8_ fun v10_ h11_ => ∃ A12_, ∃ n12_, ∃ c12_, v10_ = (Value.slice A12_ n12_ c12_) ∧ f18.j1 R x1 x2 a3 a6 A12_ n12_ c12_ h11_) (f18.j1 R x1 x2 a3 a6 A5_ n5_ c5_ h8_)
set_option maxRecDepth 100000 in
theorem f18.j0_in {R : Value → Heap → Prop} {x1 : Int} {x2 : Int} {a3 : Addr} {a6 : Addr} {h : Heap} (H : f18.j0T R x1 x2 a3 a6 h) : f18.j0 R x1 x2 a3 a6 h :=
  pt_intro mixed f18.good (Eq.mpr (show (Fwd Try.prog f18.T f18.kp Try.f18 R [true, true, true] (mkFr [(1, (Value.int .i64 x1)), (2, (Value.int .i64 x2)), (3, (Value.pointer (some a3))), (6, (Value.pointer (some a6)))]) h) = (f18.j0T R x1 x2 a3 a6 h) by kernel_rfl) H)
set_option maxRecDepth 100000 in
def f18.j1T (R : Value → Heap → Prop) (x1 : Int) (x2 : Int) (a3 : Addr) (a6 : Addr) (A9 : Option Addr) (n9 : Nat) (c9 : Nat) (h : Heap) : Prop :=
  splitB (((n9 : Nat) : Int) == (100 : Int)) (∃ l2_ : List Value, (Value.agg #[(Value.int .i64 (0 : Int)), (Value.slice none 0 0)]) = Value.agg l2_.toArray ∧ l2_.length = 2 ∧ ∃ h1_, stH h a6 l2_ 0 = some h1_ ∧ ∃ v3_, ldv true 2 h1_ a6 = some v3_ ∧ R (Value.tuple #[v3_, (Value.int .i64 (6 : Int))]) h1_) (∃ v4_, ldv false 1 h a3 = some v4_ ∧ ∃ x5_, v4_ = (Value.int .i64 x5_) ∧ newH h (Obj.cells #[(Value.int .i64 (0 : Int)), (Value.int .i64 (0 : Int))] 60) fun h6_ => ∃ l8_ : List Value, (Value.agg #[(Value.int .i64 (IntKind.wrap .i64 (x5_ + x2))), (Value.int .i64 x1)]) = Value.agg l8_.toArray ∧ l8_.length = 2 ∧ ∃ h7_, stH h6_ (⟨Array.size h, 0, none⟩) l8_ 0 = some h7_ ∧ ∃ v9_, ldv true 2 h7_ (⟨Array.size h, 0, none⟩) = some v9_ ∧ Run Try.prog 79 #[(Value.slice A9 n9 c9), v9_, (Value.func (.func 80) #[] #[])] h7_ fun v10_ h11_ => ∃ x12_, ∃ b13_, v10_ = (Value.tuple #[(Value.int .i64 x12_), (Value.bool b13_)]) ∧ ∃ v14_, ldv true 2 h11_ (⟨Array.size h, 0, none⟩) = some v14_ ∧ ∃ v15_, ldv false 1 h11_ a3 = some v15_ ∧ ∃ x16_, v15_ = (Value.int .i64 x16_) ∧ ∃ l17_ : List Value, v14_ = Value.agg l17_.toArray ∧ l17_.length = 2 ∧ (newH h11_ (Obj.cells ((List.take 0 ([(Value.int .i64 (0 : Int)), (Value.int .i64 (0 : Int))]) ++ l17_ ++ List.drop 2 ([(Value.int .i64 (0 : Int)), (Value.int .i64 (0 : Int))])).toArray) 60) fun h18_ => ldv false 1 h18_ a3 = some v15_ ∧ (Run Try.prog 27 #[(Value.slice A9 n9 c9), (Value.int .i64 x12_), (Value.slice (some ⟨Array.size h11_, 0, none⟩) 1 1)] h18_ fun v19_ h20_ => ∃ A21_, ∃ n21_, ∃ c21_, v19_ = (Value.slice A21_ n21_ c21_) ∧ ldv false 1 h20_ a3 = some v15_ ∧ (∃ l23_ : List Value, (Value.agg #[(Value.int .i64 x16_), (Value.slice A21_ n21_ c21_)]) = Value.agg l23_.toArray ∧ l23_.length = 2 ∧ ∃ h22_, stH h20_ a6 l23_ 0 = some h22_ ∧ ∃ v24_, ldv true 2 h22_ a6 = some v24_ ∧ R (Value.tuple #[v24_, (Value.int .i64 (0 : Int))]) h22_))))
set_option maxRecDepth 100000 in
theorem f18.j1_in {R : Value → Heap → Prop} {x1 : Int} {x2 : Int} {a3 : Addr} {a6 : Addr} {A9 : Option Addr} {n9 : Nat} {c9 : Nat} {h : Heap} (H : f18.j1T R x1 x2 a3 a6 A9 n9 c9 h) : f18.j1 R x1 x2 a3 a6 A9 n9 c9 h :=
  pt_intro mixed f18.good (Eq.mpr (show (Fwd Try.prog f18.T f18.kp Try.f18 R [true, true, true, true, true] (mkFr [(1, (Value.int .i64 x1)), (2, (Value.int .i64 x2)), (3, (Value.pointer (some a3))), (6, (Value.pointer (some a6))), (9, (Value.slice A9 n9 c9))]) h) = (f18.j1T R x1 x2 a3 a6 A9 n9 c9 h) by kernel_rfl) H)
set_option maxRecDepth 100000 in
def f18.runT (R : Value → Heap → Prop) (v0 : Value) (x1 : Int) (x2 : Int) (h : Heap) : Prop :=
  newH h (Obj.cells ((v0).cells) 48) fun h1_ => newH h1_ (Obj.cells #[(Value.int .i64 (0 : Int)), (Value.slice none 0 0)] 48) fun h2_ => ∃ v3_, ldv true 2 h2_ (⟨Array.size h, 0, none⟩) = some v3_ ∧ Run Try.prog 23 #[v3_] h2_ fun v4_ h5_ => ∃ x6_, v4_ = (Value.int .i64 x6_) ∧ splitB (x6_ != (0 : Int)) (∃ l8_ : List Value, (Value.agg #[(Value.int .i64 (0 : Int)), (Value.slice none 0 0)]) = Value.agg l8_.toArray ∧ l8_.length = 2 ∧ ∃ h7_, stH h5_ (⟨Array.size h1_, 0, none⟩) l8_ 0 = some h7_ ∧ ∃ v9_, ldv true 2 h7_ (⟨Array.size h1_, 0, none⟩) = some v9_ ∧ R (Value.tuple #[v9_, (Value.int .i64 x6_)]) h7_) (splitB (decide (x2 < (1 : Int))) (f18.j2 R x1 x2 (⟨Array.size h, 0, none⟩) (⟨Array.size h1_, 0, none⟩) true h5_) (f18.j2 R x1 x2 (⟨Array.size h, 0, none⟩) (⟨Array.size h1_, 0, none⟩) (decide (x2 > (1099511627776 : Int))) h5_))
set_option maxRecDepth 100000 in
theorem f18.run {R : Value → Heap → Prop} {v0 : Value} {x1 : Int} {x2 : Int} {h : Heap} (H : f18.runT R v0 x1 x2 h) : Run Try.prog 18 #[v0, (Value.int .i64 x1), (Value.int .i64 x2)] h R :=
  run_of mixed Try.func18 (by kernel_rfl) (by kernel_rfl) f18.good (Eq.mpr (show (Fwd Try.prog f18.T f18.kp Try.f18 R [] (mkFr (argL [v0, (Value.int .i64 x1), (Value.int .i64 x2)] 0)) h) = (f18.runT R v0 x1 x2 h) by kernel_rfl) H)
def f19.T : Tab := { sh := tSh, tup := tTup, keep := [], plan := [(7, (.take 0 (.take 2 (.take 5 (.take 6 (.take 7 (.take 10 (.take 12 (.take 16 (.take 3 (.frame 1 (.frame 11 (.take 13 (.take 14 (.frame 15 (.frame 17 (.take 18 (.eff false false [1, 11, 15, 17] 4 (.eff false false [1, 11, 15, 17] 8 (.eff false false [11, 15, 17] 9 (.eff false false [11, 15, 17] 19 (.take 20 (.take 21 .done)))))))))))))))))))))))] }
def f19.kp : Keep := []
theorem f19.good : goodCode Try.prog f19.T (rootOf Try.f19) = true := by kernel_rfl
set_option maxRecDepth 100000 in
def f19.runT (R : Value → Heap → Prop) (v0 : Value) (x1 : Int) (h : Heap) : Prop :=
  newH h (Obj.cells ((v0).cells) 48) fun h1_ => newH h1_ (Obj.cells #[(Value.int .i64 (0 : Int)), (Value.slice none 0 0)] 48) fun h2_ => ∃ v3_, ldv true 2 h2_ (⟨Array.size h, 0, none⟩) = some v3_ ∧ Run Try.prog 23 #[v3_] h2_ fun v4_ h5_ => ∃ x6_, v4_ = (Value.int .i64 x6_) ∧ splitB (x6_ != (0 : Int)) (∃ l8_ : List Value, (Value.agg #[(Value.int .i64 (0 : Int)), (Value.slice none 0 0)]) = Value.agg l8_.toArray ∧ l8_.length = 2 ∧ ∃ h7_, stH h5_ (⟨Array.size h1_, 0, none⟩) l8_ 0 = some h7_ ∧ ∃ v9_, ldv true 2 h7_ (⟨Array.size h1_, 0, none⟩) = some v9_ ∧ R (Value.tuple #[v9_, (Value.int .i64 (0 : Int)), (Value.int .i64 x6_)]) h7_) (∃ v10_, ldv true 2 h5_ (⟨Array.size h, 0, none⟩) = some v10_ ∧ Run Try.prog 77 #[v10_, (Value.int .i64 x1)] h5_ fun v11_ h12_ => ∃ x13_, v11_ = (Value.int .i64 x13_) ∧ splitB (decide (x13_ < (0 : Int))) (∃ l15_ : List Value, (Value.agg #[(Value.int .i64 (0 : Int)), (Value.slice none 0 0)]) = Value.agg l15_.toArray ∧ l15_.length = 2 ∧ ∃ h14_, stH h12_ (⟨Array.size h1_, 0, none⟩) l15_ 0 = some h14_ ∧ ∃ v16_, ldv true 2 h14_ (⟨Array.size h1_, 0, none⟩) = some v16_ ∧ R (Value.tuple #[v16_, (Value.int .i64 (0 : Int)), (Value.int .i64 (4 : Int))]) h14_) (∃ v17_, ldv false 1 h12_ (Addr.add (⟨Array.size h, 0, none⟩) 1) = some v17_ ∧ ∃ A18_, ∃ n18_, ∃ c18_, v17_ = (Value.slice A18_ n18_ c18_) ∧ ∃ v19_, ldv false 1 h12_ (⟨Array.size h, 0, none⟩) = some v19_ ∧ ∃ x20_, v19_ = (Value.int .i64 x20_) ∧ ∃ v21_, ldv false 1 h12_ (Addr.add (⟨Array.size h, 0, none⟩) 1) = some v21_ ∧ ∃ A22_, ∃ n22_, ∃ c22_, v21_ = (Value.slice A22_ n22_ c22_) ∧ ptrOk A22_ fun a23_ => 0 ≤ x13_ ∧ x13_ < ((n22_ : Nat) : Int) ∧ (∃ v24_, ldv false 1 h12_ (Addr.add a23_ (Int.toNat x13_ * 2)) = some v24_ ∧ ∃ x25_, v24_ = (Value.int .i64 x25_) ∧ ∃ v26_, ldv false 1 h12_ (⟨Array.size h, 0, none⟩) = some v26_ ∧ ∃ x27_, v26_ = (Value.int .i64 x27_) ∧ Run Try.prog 28 #[(Value.slice A18_ n18_ c18_)] h12_ fun v28_ h29_ => ∃ A30_, ∃ n30_, ∃ c30_, v28_ = (Value.slice A30_ n30_ c30_) ∧ ldv false 1 h29_ (⟨Array.size h, 0, none⟩) = some v19_ ∧ (ldv false 1 h29_ (Addr.add (⟨Array.size h, 0, none⟩) 1) = some v21_ ∧ (ldv false 1 h29_ (Addr.add a23_ (Int.toNat x13_ * 2)) = some v24_ ∧ (ldv false 1 h29_ (⟨Array.size h, 0, none⟩) = some v26_ ∧ (Run Try.prog 78 #[(Value.slice A30_ n30_ c30_), (Value.int .i64 x13_), (Value.int .i64 (IntKind.wrap .i64 (x13_ + (1 : Int))))] h29_ fun v31_ h32_ => ∃ A33_, ∃ n33_, ∃ c33_, v31_ = (Value.slice A33_ n33_ c33_) ∧ ldv false 1 h32_ (⟨Array.size h, 0, none⟩) = some v19_ ∧ (ldv false 1 h32_ (Addr.add (⟨Array.size h, 0, none⟩) 1) = some v21_ ∧ (ldv false 1 h32_ (Addr.add a23_ (Int.toNat x13_ * 2)) = some v24_ ∧ (ldv false 1 h32_ (⟨Array.size h, 0, none⟩) = some v26_ ∧ (ldv false 1 h32_ (Addr.add (⟨Array.size h, 0, none⟩) 1) = some v21_ ∧ (ldv false 1 h32_ (Addr.add a23_ (Int.toNat x13_ * 2)) = some v24_ ∧ (ldv false 1 h32_ (⟨Array.size h, 0, none⟩) = some v26_ ∧ (∃ l35_ : List Value, (Value.agg #[(Value.int .i64 x20_), (Value.slice A33_ n33_ c33_)]) = Value.agg l35_.toArray ∧ l35_.length = 2 ∧ ∃ h34_, stH h32_ (⟨Array.size h1_, 0, none⟩) l35_ 0 = some h34_ ∧ ldv false 1 h34_ (Addr.add (⟨Array.size h, 0, none⟩) 1) = some v21_ ∧ (ldv false 1 h34_ (Addr.add a23_ (Int.toNat x13_ * 2)) = some v24_ ∧ (ldv false 1 h34_ (⟨Array.size h, 0, none⟩) = some v26_ ∧ (∃ v36_, ldv true 2 h34_ (⟨Array.size h1_, 0, none⟩) = some v36_ ∧ R (Value.tuple #[v36_, (Value.int .i64 (IntKind.wrap .i64 (x25_ - x27_))), (Value.int .i64 (0 : Int))]) h34_)))))))))))))))))
set_option maxRecDepth 100000 in
theorem f19.run {R : Value → Heap → Prop} {v0 : Value} {x1 : Int} {h : Heap} (H : f19.runT R v0 x1 h) : Run Try.prog 19 #[v0, (Value.int .i64 x1)] h R :=
  run_of mixed Try.func19 (by kernel_rfl) (by kernel_rfl) f19.good (Eq.mpr (show (Fwd Try.prog f19.T f19.kp Try.f19 R [] (mkFr (argL [v0, (Value.int .i64 x1)] 0)) h) = (f19.runT R v0 x1 h) by kernel_rfl) H)
def f20.T : Tab := { sh := tSh, tup := tTup, keep := [], plan := [(10, (.take 0 (.take 1 (.take 3 (.take 7 (.take 9 (.take 2 (.take 4 (.take 8 (.take 10 (.eff false true [] 5 (.alt false true [] 6 (.eff false false [] 11 (.eff false false [] 12 (.take 13 (.take 14 .done)))) (.eff false false [] 11 (.eff false true [] 6 (.eff false false [] 12 (.take 13 (.take 14 .done)))))))))))))))))] }
def f20.kp : Keep := [([true, true, true], [1, 2, 4, 7]), ([false, false, false, true, true, true, true, true, true], [2, 4, 8, 9]), ([true, false, false, false, true, true, true, true, true, true], [2, 4, 8, 9]), ([true, true, true, true, true, true, true], [2, 4, 8, 9])]
theorem f20.good : goodCode Try.prog f20.T (rootOf Try.f20) = true := by kernel_rfl
def f20.j0 (R : Value → Heap → Prop) (x1 : Int) (a2 : Addr) (a4 : Addr) (x7 : Int) (h : Heap) : Prop := Pt Try.prog Try.f20 R [true, true, true] (mkFr [(1, (Value.int .i64 x1)), (2, (Value.pointer (some a2))), (4, (Value.pointer (some a4))), (7, (Value.int .i64 x7))]) h
def f20.l0 (R : Value → Heap → Prop) (a2 : Addr) (a4 : Addr) (x8 : Int) (x9 : Int) (h : Heap) : Prop := Pt Try.prog Try.f20 R [false, false, false, true, true, true, true, true, true] (mkFr [(2, (Value.pointer (some a2))), (4, (Value.pointer (some a4))), (8, (Value.int .i64 x8)), (9, (Value.int .i64 x9))]) h
def f20.j2 (R : Value → Heap → Prop) (a2 : Addr) (a4 : Addr) (x8 : Int) (x9 : Int) (h : Heap) : Prop := Pt Try.prog Try.f20 R [true, false, false, false, true, true, true, true, true, true] (mkFr [(2, (Value.pointer (some a2))), (4, (Value.pointer (some a4))), (8, (Value.int .i64 x8)), (9, (Value.int .i64 x9))]) h
def f20.j1 (R : Value → Heap → Prop) (a2 : Addr) (a4 : Addr) (x8 : Int) (x9 : Int) (h : Heap) : Prop := Pt Try.prog Try.f20 R [true, true, true, true, true, true, true] (mkFr [(2, (Value.pointer (some a2))), (4, (Value.pointer (some a4))), (8, (Value.int .i64 x8)), (9, (Value.int .i64 x9))]) h
set_option maxRecDepth 100000 in
def f20.j0T (R : Value → Heap → Prop) (x1 : Int) (a2 : Addr) (a4 : Addr) (x7 : Int) (h : Heap) : Prop :=
  splitB (x7 != (0 : Int)) (∃ l2_ : List Value, (Value.agg #[(Value.int .i64 (0 : Int)), (Value.slice none 0 0)]) = Value.agg l2_.toArray ∧ l2_.length = 2 ∧ ∃ h1_, stH h a4 l2_ 0 = some h1_ ∧ ∃ v3_, ldv true 2 h1_ a4 = some v3_ ∧ R (Value.tuple #[v3_, (Value.slice none 0 0), (Value.int .i64 x7)]) h1_) (∃ v4_, ldv false 1 h a2 = some v4_ ∧ ∃ x5_, v4_ = (Value.int .i64 x5_) ∧ f20.l0 R a2 a4 (IntKind.wrap .i64 (x5_ + x1)) (0 : Int) h)
set_option maxRecDepth 100000 in
theorem f20.j0_in {R : Value → Heap → Prop} {x1 : Int} {a2 : Addr} {a4 : Addr} {x7 : Int} {h : Heap} (H : f20.j0T R x1 a2 a4 x7 h) : f20.j0 R x1 a2 a4 x7 h :=
  pt_intro mixed f20.good (Eq.mpr (show (Fwd Try.prog f20.T f20.kp Try.f20 R [true, true, true] (mkFr [(1, (Value.int .i64 x1)), (2, (Value.pointer (some a2))), (4, (Value.pointer (some a4))), (7, (Value.int .i64 x7))]) h) = (f20.j0T R x1 a2 a4 x7 h) by kernel_rfl) H)
set_option maxRecDepth 100000 in
def f20.l0T (R : Value → Heap → Prop) (a2 : Addr) (a4 : Addr) (x8 : Int) (x9 : Int) (h : Heap) : Prop :=
  ∃ v1_, ldv false 1 h (Addr.add a2 1) = some v1_ ∧ ∃ A2_, ∃ n2_, ∃ c2_, v1_ = (Value.slice A2_ n2_ c2_) ∧ splitB (decide (x9 < ((n2_ : Nat) : Int))) (∃ v3_, ldv false 1 h (Addr.add a2 1) = some v3_ ∧ ∃ A4_, ∃ n4_, ∃ c4_, v3_ = (Value.slice A4_ n4_ c4_) ∧ ptrOk A4_ fun a5_ => 0 ≤ x9 ∧ x9 < ((n4_ : Nat) : Int) ∧ (∃ v6_, ldv false 1 h (Addr.add a5_ (Int.toNat x9 * 2)) = some v6_ ∧ ∃ x7_, v6_ = (Value.int .i64 x7_) ∧ splitB (decide (x7_ ≤ x8)) (f20.j2 R a2 a4 x8 x9 h) (f20.j1 R a2 a4 x8 x9 h))) (f20.j1 R a2 a4 x8 x9 h)
set_option maxRecDepth 100000 in
theorem f20.l0_in {R : Value → Heap → Prop} {a2 : Addr} {a4 : Addr} {x8 : Int} {x9 : Int} {h : Heap} (H : f20.l0T R a2 a4 x8 x9 h) : f20.l0 R a2 a4 x8 x9 h :=
  pt_intro mixed f20.good (Eq.mpr (show (Fwd Try.prog f20.T f20.kp Try.f20 R [false, false, false, true, true, true, true, true, true] (mkFr [(2, (Value.pointer (some a2))), (4, (Value.pointer (some a4))), (8, (Value.int .i64 x8)), (9, (Value.int .i64 x9))]) h) = (f20.l0T R a2 a4 x8 x9 h) by kernel_rfl) H)
set_option maxRecDepth 100000 in
def f20.j2T (R : Value → Heap → Prop) (a2 : Addr) (a4 : Addr) (x8 : Int) (x9 : Int) (h : Heap) : Prop :=
  f20.l0 R a2 a4 x8 (IntKind.wrap .i64 (x9 + (1 : Int))) h
set_option maxRecDepth 100000 in
theorem f20.j2_in {R : Value → Heap → Prop} {a2 : Addr} {a4 : Addr} {x8 : Int} {x9 : Int} {h : Heap} (H : f20.j2T R a2 a4 x8 x9 h) : f20.j2 R a2 a4 x8 x9 h :=
  pt_intro mixed f20.good (Eq.mpr (show (Fwd Try.prog f20.T f20.kp Try.f20 R [true, false, false, false, true, true, true, true, true, true] (mkFr [(2, (Value.pointer (some a2))), (4, (Value.pointer (some a4))), (8, (Value.int .i64 x8)), (9, (Value.int .i64 x9))]) h) = (f20.j2T R a2 a4 x8 x9 h) by kernel_rfl) H)
set_option maxRecDepth 100000 in
def f20.j1T (R : Value → Heap → Prop) (a2 : Addr) (a4 : Addr) (x8 : Int) (x9 : Int) (h : Heap) : Prop :=
  ∃ v1_, ldv false 1 h (Addr.add a2 1) = some v1_ ∧ ∃ A2_, ∃ n2_, ∃ c2_, v1_ = (Value.slice A2_ n2_ c2_) ∧ 0 ≤ x9 ∧ x9 ≤ ((n2_ : Nat) : Int) ∧ ((n2_ : Nat) : Int) ≤ ((c2_ : Nat) : Int) ∧ (∃ v3_, ldv false 1 h (Addr.add a2 1) = some v3_ ∧ ∃ A4_, ∃ n4_, ∃ c4_, v3_ = (Value.slice A4_ n4_ c4_) ∧ 0 ≤ (0 : Int) ∧ (0 : Int) ≤ x9 ∧ x9 ≤ ((c4_ : Nat) : Int) ∧ (Run Try.prog 28 #[(Value.slice (sliceA A2_ (Int.toNat x9) c2_ 2) (Int.toNat ((n2_ : Nat) : Int) - Int.toNat x9) (c2_ - Int.toNat x9))] h fun v5_ h6_ => ∃ A7_, ∃ n7_, ∃ c7_, v5_ = (Value.slice A7_ n7_ c7_) ∧ Ext h h6_ ∧ ((Ext h h6_ ∧ (Run Try.prog 28 #[(Value.slice (sliceA A4_ (Int.toNat (0 : Int)) c4_ 2) (Int.toNat x9 - Int.toNat (0 : Int)) (c4_ - Int.toNat (0 : Int)))] h6_ fun v8_ h9_ => ∃ A10_, ∃ n10_, ∃ c10_, v8_ = (Value.slice A10_ n10_ c10_) ∧ ∃ l12_ : List Value, (Value.agg #[(Value.int .i64 x8), (Value.slice A7_ n7_ c7_)]) = Value.agg l12_.toArray ∧ l12_.length = 2 ∧ ∃ h11_, stH h9_ a4 l12_ 0 = some h11_ ∧ ∃ v13_, ldv true 2 h11_ a4 = some v13_ ∧ R (Value.tuple #[v13_, (Value.slice A10_ n10_ c10_), (Value.int .i64 (0 : Int))]) h11_)) ∧ (Run Try.prog 28 #[(Value.slice (sliceA A4_ (Int.toNat (0 : Int)) c4_ 2) (Int.toNat x9 - Int.toNat (0 : Int)) (c4_ - Int.toNat (0 : Int)))] h6_ fun v14_ h15_ => ∃ A16_, ∃ n16_, ∃ c16_, v14_ = (Value.slice A16_ n16_ c16_) ∧ Ext h h15_ ∧ (∃ l18_ : List Value, (Value.agg #[(Value.int .i64 x8), (Value.slice A7_ n7_ c7_)]) = Value.agg l18_.toArray ∧ l18_.length = 2 ∧ ∃ h17_, stH h15_ a4 l18_ 0 = some h17_ ∧ ∃ v19_, ldv true 2 h17_ a4 = some v19_ ∧ R (Value.tuple #[v19_, (Value.slice A16_ n16_ c16_), (Value.int .i64 (0 : Int))]) h17_)))))
set_option maxRecDepth 100000 in
theorem f20.j1_in {R : Value → Heap → Prop} {a2 : Addr} {a4 : Addr} {x8 : Int} {x9 : Int} {h : Heap} (H : f20.j1T R a2 a4 x8 x9 h) : f20.j1 R a2 a4 x8 x9 h :=
  pt_intro mixed f20.good (Eq.mpr (show (Fwd Try.prog f20.T f20.kp Try.f20 R [true, true, true, true, true, true, true] (mkFr [(2, (Value.pointer (some a2))), (4, (Value.pointer (some a4))), (8, (Value.int .i64 x8)), (9, (Value.int .i64 x9))]) h) = (f20.j1T R a2 a4 x8 x9 h) by kernel_rfl) H)
set_option maxRecDepth 100000 in
def f20.runT (R : Value → Heap → Prop) (v0 : Value) (x1 : Int) (h : Heap) : Prop :=
  newH h (Obj.cells ((v0).cells) 48) fun h1_ => newH h1_ (Obj.cells #[(Value.int .i64 (0 : Int)), (Value.slice none 0 0)] 48) fun h2_ => ∃ v3_, ldv true 2 h2_ (⟨Array.size h, 0, none⟩) = some v3_ ∧ Run Try.prog 23 #[v3_] h2_ fun v4_ h5_ => ∃ x6_, v4_ = (Value.int .i64 x6_) ∧ splitB (x6_ == (0 : Int)) (splitB (decide (x1 < (0 : Int))) (f20.j0 R x1 (⟨Array.size h, 0, none⟩) (⟨Array.size h1_, 0, none⟩) (1 : Int) h5_) (∃ v7_, ldv false 1 h5_ (⟨Array.size h, 0, none⟩) = some v7_ ∧ ∃ x8_, v7_ = (Value.int .i64 x8_) ∧ splitB (decide (x1 > (IntKind.wrap .i64 ((1099511627776 : Int) - x8_)))) (f20.j0 R x1 (⟨Array.size h, 0, none⟩) (⟨Array.size h1_, 0, none⟩) (1 : Int) h5_) (f20.j0 R x1 (⟨Array.size h, 0, none⟩) (⟨Array.size h1_, 0, none⟩) x6_ h5_))) (f20.j0 R x1 (⟨Array.size h, 0, none⟩) (⟨Array.size h1_, 0, none⟩) x6_ h5_)
set_option maxRecDepth 100000 in
theorem f20.run {R : Value → Heap → Prop} {v0 : Value} {x1 : Int} {h : Heap} (H : f20.runT R v0 x1 h) : Run Try.prog 20 #[v0, (Value.int .i64 x1)] h R :=
  run_of mixed Try.func20 (by kernel_rfl) (by kernel_rfl) f20.good (Eq.mpr (show (Fwd Try.prog f20.T f20.kp Try.f20 R [] (mkFr (argL [v0, (Value.int .i64 x1)] 0)) h) = (f20.runT R v0 x1 h) by kernel_rfl) H)
def f21.T : Tab := { sh := tSh, tup := tTup, keep := [], plan := [(6, (.take 0 (.take 5 (.take 1 (.take 2 (.take 3 (.take 4 (.take 6 (.take 7 (.take 8 (.take 9 .done)))))))))))] }
def f21.kp : Keep := []
theorem f21.good : goodCode Try.prog f21.T (rootOf Try.f21) = true := by kernel_rfl
set_option maxRecDepth 100000 in
def f21.runT (R : Value → Heap → Prop) (v0 : Value) (h : Heap) : Prop :=
  newH h (Obj.cells ((v0).cells) 48) fun h1_ => ∃ v2_, ldv true 2 h1_ (⟨Array.size h, 0, none⟩) = some v2_ ∧ Run Try.prog 23 #[v2_] h1_ fun v3_ h4_ => ∃ x5_, v3_ = (Value.int .i64 x5_) ∧ splitB (x5_ != (0 : Int)) (R (Value.tuple #[(Value.int .i64 (0 : Int)), (Value.int .i64 x5_)]) h4_) (∃ v6_, ldv false 1 h4_ (Addr.add (⟨Array.size h, 0, none⟩) 1) = some v6_ ∧ ∃ A7_, ∃ n7_, ∃ c7_, v6_ = (Value.slice A7_ n7_ c7_) ∧ splitB (((n7_ : Nat) : Int) == (0 : Int)) (R (Value.tuple #[(Value.int .i64 (0 : Int)), (Value.int .i64 (4 : Int))]) h4_) (∃ v8_, ldv false 1 h4_ (Addr.add (⟨Array.size h, 0, none⟩) 1) = some v8_ ∧ ∃ A9_, ∃ n9_, ∃ c9_, v8_ = (Value.slice A9_ n9_ c9_) ∧ ptrOk A9_ fun a10_ => 0 ≤ (0 : Int) ∧ (0 : Int) < ((n9_ : Nat) : Int) ∧ (∃ v11_, ldv false 1 h4_ (Addr.add a10_ (Int.toNat (0 : Int) * 2)) = some v11_ ∧ ∃ x12_, v11_ = (Value.int .i64 x12_) ∧ ∃ v13_, ldv false 1 h4_ (⟨Array.size h, 0, none⟩) = some v13_ ∧ ∃ x14_, v13_ = (Value.int .i64 x14_) ∧ R (Value.tuple #[(Value.int .i64 (IntKind.wrap .i64 (x12_ - x14_))), (Value.int .i64 (0 : Int))]) h4_)))
set_option maxRecDepth 100000 in
theorem f21.run {R : Value → Heap → Prop} {v0 : Value} {h : Heap} (H : f21.runT R v0 h) : Run Try.prog 21 #[v0] h R :=
  run_of mixed Try.func21 (by kernel_rfl) (by kernel_rfl) f21.good (Eq.mpr (show (Fwd Try.prog f21.T f21.kp Try.f21 R [] (mkFr (argL [v0] 0)) h) = (f21.runT R v0 h) by kernel_rfl) H)
def f25.T : Tab := { sh := tSh, tup := tTup, keep := [], plan := [] }
def f25.kp : Keep := []
theorem f25.good : goodCode Try.prog f25.T (rootOf Try.f25) = true := by kernel_rfl
set_option maxRecDepth 100000 in
def f25.runT (R : Value → Heap → Prop) (x0 : Int) (x1 : Int) (x2 : Int) (h : Heap) : Prop :=
  splitB (decide (x0 ≥ x1)) (R (Value.bool (decide (x0 ≤ x2))) h) (R (Value.bool false) h)
set_option maxRecDepth 100000 in
theorem f25.run {R : Value → Heap → Prop} {x0 : Int} {x1 : Int} {x2 : Int} {h : Heap} (H : f25.runT R x0 x1 x2 h) : Run Try.prog 25 #[(Value.int .i64 x0), (Value.int .i64 x1), (Value.int .i64 x2)] h R :=
  run_of mixed Try.func25 (by kernel_rfl) (by kernel_rfl) f25.good (Eq.mpr (show (Fwd Try.prog f25.T f25.kp Try.f25 R [] (mkFr (argL [(Value.int .i64 x0), (Value.int .i64 x1), (Value.int .i64 x2)] 0)) h) = (f25.runT R x0 x1 x2 h) by kernel_rfl) H)
def f22.T : Tab := { sh := tSh, tup := tTup, keep := [], plan := [(10, (.take 0 (.take 1 (.take 2 (.split 2 (.take 3 (.take 5 (.take 6 (.take 10 (.take 4 (.take 7 (.take 8 (.take 9 (.take 11 (.take 12 (.take 13 (.split 13 (.take 14 (.take 16 (.take 17 (.take 21 (.take 15 (.take 18 (.take 19 (.take 20 (.take 22 (.take 23 (.take 24 (.split 24 (.take 25 (.take 27 (.take 28 (.take 32 (.take 26 (.take 29 (.take 30 (.take 31 (.take 33 (.take 34 (.take 35 (.take 36 (.take 37 .done))))))))))))))))))))))))))))))))))))))))))] }
def f22.kp : Keep := [([false, false, true, false, true, true, true], [1, 16, 17, 18]), ([true, true, true, false, false, true, true, false, false, true, false, true, true, true], [1, 3, 4, 16, 17, 18]), ([false, false, true, true, true, true, false, false, true, true, false, false, true, false, true, true, true], [1, 4, 16, 17, 18, 71, 72, 73])]
theorem f22.good : goodCode Try.prog f22.T (rootOf Try.f22) = true := by kernel_rfl
def f22.l0 (R : Value → Heap → Prop) (a1 : Addr) (A16 : Option Addr) (n16 : Nat) (c16 : Nat) (x17 : Int) (x18 : Int) (h : Heap) : Prop := Pt Try.prog Try.f22 R [false, false, true, false, true, true, true] (mkFr [(1, (Value.pointer (some a1))), (16, (Value.slice A16 n16 c16)), (17, (Value.int .i64 x17)), (18, (Value.int .i64 x18))]) h
def f22.j0 (R : Value → Heap → Prop) (a1 : Addr) (x3 : Int) (a4 : Addr) (A16 : Option Addr) (n16 : Nat) (c16 : Nat) (x17 : Int) (x18 : Int) (h : Heap) : Prop := Pt Try.prog Try.f22 R [true, true, true, false, false, true, true, false, false, true, false, true, true, true] (mkFr [(1, (Value.pointer (some a1))), (3, (Value.int .i64 x3)), (4, (Value.pointer (some a4))), (16, (Value.slice A16 n16 c16)), (17, (Value.int .i64 x17)), (18, (Value.int .i64 x18))]) h
def f22.l1 (R : Value → Heap → Prop) (a1 : Addr) (a4 : Addr) (A16 : Option Addr) (n16 : Nat) (c16 : Nat) (x17 : Int) (x18 : Int) (A71 : Option Addr) (n71 : Nat) (c71 : Nat) (x72 : Int) (x73 : Int) (h : Heap) : Prop := Pt Try.prog Try.f22 R [false, false, true, true, true, true, false, false, true, true, false, false, true, false, true, true, true] (mkFr [(1, (Value.pointer (some a1))), (4, (Value.pointer (some a4))), (16, (Value.slice A16 n16 c16)), (17, (Value.int .i64 x17)), (18, (Value.int .i64 x18)), (71, (Value.slice A71 n71 c71)), (72, (Value.int .i64 x72)), (73, (Value.int .i64 x73))]) h
set_option maxRecDepth 100000 in
def f22.l0T (R : Value → Heap → Prop) (a1 : Addr) (A16 : Option Addr) (n16 : Nat) (c16 : Nat) (x17 : Int) (x18 : Int) (h : Heap) : Prop :=
  splitB (decide (x18 < x17)) (ptrOk A16 fun a1_ => 0 ≤ x18 ∧ x18 < ((n16 : Nat) : Int) ∧ (∃ v2_, ldv true 2 h (Addr.add a1_ (Int.toNat x18 * 2)) = some v2_ ∧ newH h (Obj.cells #[(Value.int .i64 (0 : Int)), (Value.int .i64 (0 : Int))] 60) fun h3_ => ∃ l5_ : List Value, v2_ = Value.agg l5_.toArray ∧ l5_.length = 2 ∧ ∃ h4_, stH h3_ (⟨Array.size h, 0, none⟩) l5_ 0 = some h4_ ∧ ∃ v6_, ldv false 1 h4_ (⟨Array.size h, 0, none⟩) = some v6_ ∧ ∃ x7_, v6_ = (Value.int .i64 x7_) ∧ ∃ v8_, ldv false 1 h4_ a1 = some v8_ ∧ ∃ x9_, v8_ = (Value.int .i64 x9_) ∧ Run Try.prog 25 #[(Value.int .i64 x7_), (Value.int .i64 (IntKind.wrap .i64 (x9_ + (1 : Int)))), (Value.int .i64 (2199023255552 : Int))] h4_ fun v10_ h11_ => ∃ b12_, v10_ = (Value.bool b12_) ∧ splitB (!b12_) (R (Value.int .i64 (1 : Int)) h11_) (splitB (decide (x18 > (0 : Int))) (∃ v13_, ldv false 1 h11_ (Addr.add a1 1) = some v13_ ∧ ∃ A14_, ∃ n14_, ∃ c14_, v13_ = (Value.slice A14_ n14_ c14_) ∧ ptrOk A14_ fun a15_ => 0 ≤ (IntKind.wrap .i64 (x18 - (1 : Int))) ∧ (IntKind.wrap .i64 (x18 - (1 : Int))) < ((n14_ : Nat) : Int) ∧ (∃ v16_, ldv false 1 h11_ (Addr.add a15_ (Int.toNat (IntKind.wrap .i64 (x18 - (1 : Int))) * 2)) = some v16_ ∧ ∃ x17_, v16_ = (Value.int .i64 x17_) ∧ ∃ v18_, ldv false 1 h11_ (⟨Array.size h, 0, none⟩) = some v18_ ∧ ∃ x19_, v18_ = (Value.int .i64 x19_) ∧ splitB (decide (x17_ > x19_)) (R (Value.int .i64 (21 : Int)) h11_) (∃ v20_, ldv false 1 h11_ (Addr.add a1 1) = some v20_ ∧ ∃ A21_, ∃ n21_, ∃ c21_, v20_ = (Value.slice A21_ n21_ c21_) ∧ ptrOk A21_ fun a22_ => 0 ≤ (IntKind.wrap .i64 (x18 - (1 : Int))) ∧ (IntKind.wrap .i64 (x18 - (1 : Int))) < ((n21_ : Nat) : Int) ∧ (∃ v23_, ldv false 1 h11_ (Addr.add a22_ (Int.toNat (IntKind.wrap .i64 (x18 - (1 : Int))) * 2)) = some v23_ ∧ ∃ x24_, v23_ = (Value.int .i64 x24_) ∧ ∃ v25_, ldv false 1 h11_ (⟨Array.size h, 0, none⟩) = some v25_ ∧ ∃ x26_, v25_ = (Value.int .i64 x26_) ∧ splitB (x24_ == x26_) (∃ v27_, ldv false 1 h11_ (Addr.add a1 1) = some v27_ ∧ ∃ A28_, ∃ n28_, ∃ c28_, v27_ = (Value.slice A28_ n28_ c28_) ∧ ptrOk A28_ fun a29_ => 0 ≤ (IntKind.wrap .i64 (x18 - (1 : Int))) ∧ (IntKind.wrap .i64 (x18 - (1 : Int))) < ((n28_ : Nat) : Int) ∧ (∃ v30_, ldv false 1 h11_ (Addr.add (Addr.add a29_ (Int.toNat (IntKind.wrap .i64 (x18 - (1 : Int))) * 2)) 1) = some v30_ ∧ ∃ x31_, v30_ = (Value.int .i64 x31_) ∧ ∃ v32_, ldv false 1 h11_ (Addr.add (⟨Array.size h, 0, none⟩) 1) = some v32_ ∧ ∃ x33_, v32_ = (Value.int .i64 x33_) ∧ splitB (decide (x31_ ≥ x33_)) (R (Value.int .i64 (21 : Int)) h11_) (f22.j0 R a1 x18 (⟨Array.size h, 0, none⟩) A16 n16 c16 x17 x18 h11_))) (f22.j0 R a1 x18 (⟨Array.size h, 0, none⟩) A16 n16 c16 x17 x18 h11_))))) (f22.j0 R a1 x18 (⟨Array.size h, 0, none⟩) A16 n16 c16 x17 x18 h11_)))) (R (Value.int .i64 (0 : Int)) h)
set_option maxRecDepth 100000 in
theorem f22.l0_in {R : Value → Heap → Prop} {a1 : Addr} {A16 : Option Addr} {n16 : Nat} {c16 : Nat} {x17 : Int} {x18 : Int} {h : Heap} (H : f22.l0T R a1 A16 n16 c16 x17 x18 h) : f22.l0 R a1 A16 n16 c16 x17 x18 h :=
  pt_intro mixed f22.good (Eq.mpr (show (Fwd Try.prog f22.T f22.kp Try.f22 R [false, false, true, false, true, true, true] (mkFr [(1, (Value.pointer (some a1))), (16, (Value.slice A16 n16 c16)), (17, (Value.int .i64 x17)), (18, (Value.int .i64 x18))]) h) = (f22.l0T R a1 A16 n16 c16 x17 x18 h) by kernel_rfl) H)
set_option maxRecDepth 100000 in
def f22.j0T (R : Value → Heap → Prop) (a1 : Addr) (x3 : Int) (a4 : Addr) (A16 : Option Addr) (n16 : Nat) (c16 : Nat) (x17 : Int) (x18 : Int) (h : Heap) : Prop :=
  ∃ v1_, ldv false 1 h (Addr.add a1 1) = some v1_ ∧ ∃ A2_, ∃ n2_, ∃ c2_, v1_ = (Value.slice A2_ n2_ c2_) ∧ 0 ≤ (0 : Int) ∧ (0 : Int) ≤ x3 ∧ x3 ≤ ((c2_ : Nat) : Int) ∧ (f22.l1 R a1 a4 A16 n16 c16 x17 x18 (sliceA A2_ (Int.toNat (0 : Int)) c2_ 2) (Int.toNat x3 - Int.toNat (0 : Int)) (c2_ - Int.toNat (0 : Int)) (((Int.toNat x3 - Int.toNat (0 : Int)) : Nat) : Int) (0 : Int) h)
set_option maxRecDepth 100000 in
theorem f22.j0_in {R : Value → Heap → Prop} {a1 : Addr} {x3 : Int} {a4 : Addr} {A16 : Option Addr} {n16 : Nat} {c16 : Nat} {x17 : Int} {x18 : Int} {h : Heap} (H : f22.j0T R a1 x3 a4 A16 n16 c16 x17 x18 h) : f22.j0 R a1 x3 a4 A16 n16 c16 x17 x18 h :=
  pt_intro mixed f22.good (Eq.mpr (show (Fwd Try.prog f22.T f22.kp Try.f22 R [true, true, true, false, false, true, true, false, false, true, false, true, true, true] (mkFr [(1, (Value.pointer (some a1))), (3, (Value.int .i64 x3)), (4, (Value.pointer (some a4))), (16, (Value.slice A16 n16 c16)), (17, (Value.int .i64 x17)), (18, (Value.int .i64 x18))]) h) = (f22.j0T R a1 x3 a4 A16 n16 c16 x17 x18 h) by kernel_rfl) H)
set_option maxRecDepth 100000 in
def f22.l1T (R : Value → Heap → Prop) (a1 : Addr) (a4 : Addr) (A16 : Option Addr) (n16 : Nat) (c16 : Nat) (x17 : Int) (x18 : Int) (A71 : Option Addr) (n71 : Nat) (c71 : Nat) (x72 : Int) (x73 : Int) (h : Heap) : Prop :=
  splitB (decide (x73 < x72)) (ptrOk A71 fun a1_ => 0 ≤ x73 ∧ x73 < ((n71 : Nat) : Int) ∧ (∃ v2_, ldv true 2 h (Addr.add a1_ (Int.toNat x73 * 2)) = some v2_ ∧ newH h (Obj.cells #[(Value.int .i64 (0 : Int)), (Value.int .i64 (0 : Int))] 60) fun h3_ => ∃ l5_ : List Value, v2_ = Value.agg l5_.toArray ∧ l5_.length = 2 ∧ ∃ h4_, stH h3_ (⟨Array.size h, 0, none⟩) l5_ 0 = some h4_ ∧ ∃ v6_, ldv false 1 h4_ (Addr.add (⟨Array.size h, 0, none⟩) 1) = some v6_ ∧ ∃ x7_, v6_ = (Value.int .i64 x7_) ∧ ∃ v8_, ldv false 1 h4_ (Addr.add a4 1) = some v8_ ∧ ∃ x9_, v8_ = (Value.int .i64 x9_) ∧ splitB (x7_ == x9_) (R (Value.int .i64 (5 : Int)) h4_) (f22.l1 R a1 a4 A16 n16 c16 x17 x18 A71 n71 c71 x72 (IntKind.wrap .i64 (x73 + (1 : Int))) h4_))) (f22.l0 R a1 A16 n16 c16 x17 (IntKind.wrap .i64 (x18 + (1 : Int))) h)
set_option maxRecDepth 100000 in
theorem f22.l1_in {R : Value → Heap → Prop} {a1 : Addr} {a4 : Addr} {A16 : Option Addr} {n16 : Nat} {c16 : Nat} {x17 : Int} {x18 : Int} {A71 : Option Addr} {n71 : Nat} {c71 : Nat} {x72 : Int} {x73 : Int} {h : Heap} (H : f22.l1T R a1 a4 A16 n16 c16 x17 x18 A71 n71 c71 x72 x73 h) : f22.l1 R a1 a4 A16 n16 c16 x17 x18 A71 n71 c71 x72 x73 h :=
  pt_intro mixed f22.good (Eq.mpr (show (Fwd Try.prog f22.T f22.kp Try.f22 R [false, false, true, true, true, true, false, false, true, true, false, false, true, false, true, true, true] (mkFr [(1, (Value.pointer (some a1))), (4, (Value.pointer (some a4))), (16, (Value.slice A16 n16 c16)), (17, (Value.int .i64 x17)), (18, (Value.int .i64 x18)), (71, (Value.slice A71 n71 c71)), (72, (Value.int .i64 x72)), (73, (Value.int .i64 x73))]) h) = (f22.l1T R a1 a4 A16 n16 c16 x17 x18 A71 n71 c71 x72 x73 h) by kernel_rfl) H)
set_option maxRecDepth 100000 in
def f22.runT (R : Value → Heap → Prop) (v0 : Value) (h : Heap) : Prop :=
  newH h (Obj.cells ((v0).cells) 48) fun h1_ => ∃ v2_, ldv false 1 h1_ (Addr.add (⟨Array.size h, 0, none⟩) 1) = some v2_ ∧ ∃ A3_, ∃ n3_, ∃ c3_, v2_ = (Value.slice A3_ n3_ c3_) ∧ splitB (decide (((n3_ : Nat) : Int) > (100 : Int))) (R (Value.int .i64 (2 : Int)) h1_) (∃ v4_, ldv false 1 h1_ (⟨Array.size h, 0, none⟩) = some v4_ ∧ ∃ x5_, v4_ = (Value.int .i64 x5_) ∧ Run Try.prog 25 #[(Value.int .i64 x5_), (Value.int .i64 (0 : Int)), (Value.int .i64 (1099511627776 : Int))] h1_ fun v6_ h7_ => ∃ b8_, v6_ = (Value.bool b8_) ∧ splitB (!b8_) (R (Value.int .i64 (1 : Int)) h7_) (∃ v9_, ldv false 1 h7_ (Addr.add (⟨Array.size h, 0, none⟩) 1) = some v9_ ∧ ∃ A10_, ∃ n10_, ∃ c10_, v9_ = (Value.slice A10_ n10_ c10_) ∧ f22.l0 R (⟨Array.size h, 0, none⟩) A10_ n10_ c10_ ((n10_ : Nat) : Int) (0 : Int) h7_))
set_option maxRecDepth 100000 in
theorem f22.run {R : Value → Heap → Prop} {v0 : Value} {h : Heap} (H : f22.runT R v0 h) : Run Try.prog 22 #[v0] h R :=
  run_of mixed Try.func22 (by kernel_rfl) (by kernel_rfl) f22.good (Eq.mpr (show (Fwd Try.prog f22.T f22.kp Try.f22 R [] (mkFr (argL [v0] 0)) h) = (f22.runT R v0 h) by kernel_rfl) H)
def f26.T : Tab := { sh := tSh, tup := tTup, keep := [], plan := [(6, (.take 0 (.take 1 (.take 2 (.take 4 (.take 5 (.take 6 (.take 3 (.take 7 (.eff false false [] 8 .done))))))))))] }
def f26.kp : Keep := [([false, false, true, false, true, true], [0, 1, 12, 13])]
theorem f26.good : goodCode Try.prog f26.T (rootOf Try.f26) = true := by kernel_rfl
def f26.l0 (R : Value → Heap → Prop) (A0 : Option Addr) (n0 : Nat) (c0 : Nat) (A1 : Option Addr) (n1 : Nat) (c1 : Nat) (x12 : Int) (x13 : Int) (h : Heap) : Prop := Pt Try.prog Try.f26 R [false, false, true, false, true, true] (mkFr [(0, (Value.slice A0 n0 c0)), (1, (Value.slice A1 n1 c1)), (12, (Value.int .i64 x12)), (13, (Value.int .i64 x13))]) h
set_option maxRecDepth 100000 in
def f26.l0T (R : Value → Heap → Prop) (A0 : Option Addr) (n0 : Nat) (c0 : Nat) (A1 : Option Addr) (n1 : Nat) (c1 : Nat) (x12 : Int) (x13 : Int) (h : Heap) : Prop :=
  splitB (decide (x13 < x12)) (ptrOk A0 fun a1_ => 0 ≤ x13 ∧ x13 < ((n0 : Nat) : Int) ∧ (ptrOk A1 fun a2_ => 0 ≤ x13 ∧ x13 < ((n1 : Nat) : Int) ∧ (∃ v3_, ldv true 2 h (Addr.add a1_ (Int.toNat x13 * 2)) = some v3_ ∧ ∃ v4_, ldv true 2 h (Addr.add a2_ (Int.toNat x13 * 2)) = some v4_ ∧ Gen Try.prog (do eqGuard .neq 60 (.tmp 19) (.tmp 23) v3_ v4_; binOp .neq 60 v3_ v4_) h fun v5_ h6_ => ∃ b7_, v5_ = Value.bool b7_ ∧ splitB b7_ (R (Value.bool false) h6_) (f26.l0 R A0 n0 c0 A1 n1 c1 x12 (IntKind.wrap .i64 (x13 + (1 : Int))) h6_)))) (R (Value.bool true) h)
set_option maxRecDepth 100000 in
theorem f26.l0_in {R : Value → Heap → Prop} {A0 : Option Addr} {n0 : Nat} {c0 : Nat} {A1 : Option Addr} {n1 : Nat} {c1 : Nat} {x12 : Int} {x13 : Int} {h : Heap} (H : f26.l0T R A0 n0 c0 A1 n1 c1 x12 x13 h) : f26.l0 R A0 n0 c0 A1 n1 c1 x12 x13 h :=
  pt_intro mixed f26.good (Eq.mpr (show (Fwd Try.prog f26.T f26.kp Try.f26 R [false, false, true, false, true, true] (mkFr [(0, (Value.slice A0 n0 c0)), (1, (Value.slice A1 n1 c1)), (12, (Value.int .i64 x12)), (13, (Value.int .i64 x13))]) h) = (f26.l0T R A0 n0 c0 A1 n1 c1 x12 x13 h) by kernel_rfl) H)
set_option maxRecDepth 100000 in
def f26.runT (R : Value → Heap → Prop) (A0 : Option Addr) (n0 : Nat) (c0 : Nat) (A1 : Option Addr) (n1 : Nat) (c1 : Nat) (h : Heap) : Prop :=
  splitB (((n0 : Nat) : Int) != ((n1 : Nat) : Int)) (R (Value.bool false) h) (f26.l0 R A0 n0 c0 A1 n1 c1 ((n0 : Nat) : Int) (0 : Int) h)
set_option maxRecDepth 100000 in
theorem f26.run {R : Value → Heap → Prop} {A0 : Option Addr} {n0 : Nat} {c0 : Nat} {A1 : Option Addr} {n1 : Nat} {c1 : Nat} {h : Heap} (H : f26.runT R A0 n0 c0 A1 n1 c1 h) : Run Try.prog 26 #[(Value.slice A0 n0 c0), (Value.slice A1 n1 c1)] h R :=
  run_of mixed Try.func26 (by kernel_rfl) (by kernel_rfl) f26.good (Eq.mpr (show (Fwd Try.prog f26.T f26.kp Try.f26 R [] (mkFr (argL [(Value.slice A0 n0 c0), (Value.slice A1 n1 c1)] 0)) h) = (f26.runT R A0 n0 c0 A1 n1 c1 h) by kernel_rfl) H)
def f24.T : Tab := { sh := tSh, tup := tTup, keep := [], plan := [] }
def f24.kp : Keep := []
theorem f24.good : goodCode Try.prog f24.T (rootOf Try.f24) = true := by kernel_rfl
set_option maxRecDepth 100000 in
def f24.runT (R : Value → Heap → Prop) (v0 : Value) (v1 : Value) (h : Heap) : Prop :=
  newH h (Obj.cells ((v0).cells) 48) fun h1_ => newH h1_ (Obj.cells ((v1).cells) 48) fun h2_ => ∃ v3_, ldv false 1 h2_ (⟨Array.size h, 0, none⟩) = some v3_ ∧ ∃ x4_, v3_ = (Value.int .i64 x4_) ∧ ∃ v5_, ldv false 1 h2_ (⟨Array.size h1_, 0, none⟩) = some v5_ ∧ ∃ x6_, v5_ = (Value.int .i64 x6_) ∧ splitB (x4_ == x6_) (∃ v7_, ldv false 1 h2_ (Addr.add (⟨Array.size h, 0, none⟩) 1) = some v7_ ∧ ∃ A8_, ∃ n8_, ∃ c8_, v7_ = (Value.slice A8_ n8_ c8_) ∧ ∃ v9_, ldv false 1 h2_ (Addr.add (⟨Array.size h1_, 0, none⟩) 1) = some v9_ ∧ ∃ A10_, ∃ n10_, ∃ c10_, v9_ = (Value.slice A10_ n10_ c10_) ∧ Run Try.prog 26 #[(Value.slice A8_ n8_ c8_), (Value.slice A10_ n10_ c10_)] h2_ fun v11_ h12_ => ∃ b13_, v11_ = (Value.bool b13_) ∧ R (Value.bool b13_) h12_) (R (Value.bool false) h2_)
set_option maxRecDepth 100000 in
theorem f24.run {R : Value → Heap → Prop} {v0 : Value} {v1 : Value} {h : Heap} (H : f24.runT R v0 v1 h) : Run Try.prog 24 #[v0, v1] h R :=
  run_of mixed Try.func24 (by kernel_rfl) (by kernel_rfl) f24.good (Eq.mpr (show (Fwd Try.prog f24.T f24.kp Try.f24 R [] (mkFr (argL [v0, v1] 0)) h) = (f24.runT R v0 v1 h) by kernel_rfl) H)
def f4.T : Tab := { sh := tSh, tup := tTup, keep := [], plan := [(11, (.take 0 (.take 1 (.take 2 (.take 3 (.take 4 (.split 4 (.take 5 (.take 6 (.take 7 (.split 7 (.take 8 (.take 9 (.take 10 (.take 11 (.take 12 (.split 12 (.take 13 (.take 14 (.take 15 (.take 16 (.take 17 (.split 17 (.take 18 (.take 19 (.take 24 (.take 20 (.take 21 (.take 22 (.take 23 (.take 25 (.take 26 (.take 27 (.take 28 (.split 28 (.take 29 (.take 30 (.take 31 (.take 32 (.take 33 .done)))))))))))))))))))))))))))))))))))))))), (38, (.take 0 (.take 1 (.take 2 (.take 3 (.take 4 (.split 4 (.take 5 (.take 6 (.take 7 (.take 8 (.take 10 (.take 9 (.take 11 (.take 12 (.take 13 (.split 13 (.take 14 (.take 15 (.take 16 (.take 17 (.take 19 (.take 18 (.take 20 (.take 21 (.take 22 (.split 22 (.take 23 (.take 24 (.take 25 (.take 26 (.take 28 (.take 27 (.take 29 (.take 30 (.take 31 (.take 32 .done))))))))))))))))))))))))))))))))))))), (40, (.take 1 (.take 3 (.take 5 (.take 6 (.frame 0 (.frame 2 (.alt false true [0, 2] 4 (.eff false false [0, 2] 7 (.eff false false [0, 2] 8 (.eff false false [0] 9 (.eff false false [] 10 (.take 11 (.split 11 (.take 12 (.take 13 (.take 14 (.take 15 .done)))))))))) (.eff false false [0, 2] 7 (.eff false true [0, 2] 4 (.eff false false [0, 2] 8 (.eff false false [0] 9 (.eff false false [] 10 (.take 11 (.split 11 (.take 12 (.take 13 (.take 14 (.take 15 .done)))))))))))))))))))] }
def f4.kp : Keep := [([true, true, true, true, true, true, true, true, true, true], [1, 2, 3, 7, 8, 9, 10, 11, 12, 13, 14, 17]), ([false, false, true, false, true, true, true, true, true, true, true, true, true, true, true, true], [1, 2, 3, 7, 8, 9, 10, 11, 12, 13, 14, 17, 19, 20, 21, 22, 143, 144, 145]), ([true, true, false, false, true, true, false, false, true, false, true, true, true, true, true, true, true, true, true, true, true, true], [1, 2, 3, 7, 8, 9, 10, 11, 12, 13, 14, 17, 19, 20, 21, 22, 24, 143, 144, 145]), ([true, true, true, false, false, true, true, false, false, true, false, true, true, true, true, true, true, true, true, true, true, true, true], [1, 2, 3, 7, 8, 9, 10, 11, 12, 13, 14, 17, 19, 20, 21, 22, 24, 143, 144, 145, 169]), ([true, true, true, true, true, true, true, true, true, true, true, true, true, true], [1, 2, 3, 7, 8, 12, 13, 14, 17, 19, 20, 21]), ([true, true, true, true, true, true, true, true, true, true, true, true, true, true, true], [1, 2, 3, 7, 8, 17, 19]), ([false, false, false, true, true, true, true, true, true, true, true, true, true, true, true, true, true, true, true, true, true], [1, 3, 7, 8, 19, 25, 26]), ([true, false, false, false, true, true, true, true, true, true, true, true, true, true, true, true, true, true, true, true, true, true], [1, 3, 7, 8, 19, 25, 26]), ([true, true, true, true, true, true, true, true, true, true, true, true, true, true, true, true, true, true, true], [3, 7, 8, 19, 25, 26])]
theorem f4.good : goodCode Try.prog f4.T (rootOf Try.f4) = true := by kernel_rfl
def f4.j0 (R : Value → Heap → Prop) (x1 : Int) (x2 : Int) (a3 : Addr) (a7 : Addr) (x8 : Int) (a9 : Addr) (x10 : Int) (x11 : Int) (a12 : Addr) (A13 : Option Addr) (n13 : Nat) (c13 : Nat) (x14 : Int) (a17 : Addr) (h : Heap) : Prop := Pt Try.prog Try.f4 R [true, true, true, true, true, true, true, true, true, true] (mkFr [(1, (Value.int .i64 x1)), (2, (Value.int .i64 x2)), (3, (Value.pointer (some a3))), (7, (Value.pointer (some a7))), (8, (Value.int .i64 x8)), (9, (Value.pointer (some a9))), (10, (Value.int .i64 x10)), (11, (Value.int .i64 x11)), (12, (Value.pointer (some a12))), (13, (Value.slice A13 n13 c13)), (14, (Value.int .i64 x14)), (17, (Value.pointer (some a17)))]) h
def f4.l0 (R : Value → Heap → Prop) (x1 : Int) (x2 : Int) (a3 : Addr) (a7 : Addr) (x8 : Int) (a9 : Addr) (x10 : Int) (x11 : Int) (a12 : Addr) (A13 : Option Addr) (n13 : Nat) (c13 : Nat) (x14 : Int) (a17 : Addr) (A19 : Option Addr) (n19 : Nat) (c19 : Nat) (A20 : Option Addr) (n20 : Nat) (c20 : Nat) (A21 : Option Addr) (n21 : Nat) (c21 : Nat) (x22 : Int) (A143 : Option Addr) (n143 : Nat) (c143 : Nat) (x144 : Int) (x145 : Int) (h : Heap) : Prop := Pt Try.prog Try.f4 R [false, false, true, false, true, true, true, true, true, true, true, true, true, true, true, true] (mkFr [(1, (Value.int .i64 x1)), (2, (Value.int .i64 x2)), (3, (Value.pointer (some a3))), (7, (Value.pointer (some a7))), (8, (Value.int .i64 x8)), (9, (Value.pointer (some a9))), (10, (Value.int .i64 x10)), (11, (Value.int .i64 x11)), (12, (Value.pointer (some a12))), (13, (Value.slice A13 n13 c13)), (14, (Value.int .i64 x14)), (17, (Value.pointer (some a17))), (19, (Value.slice A19 n19 c19)), (20, (Value.slice A20 n20 c20)), (21, (Value.slice A21 n21 c21)), (22, (Value.int .i64 x22)), (143, (Value.slice A143 n143 c143)), (144, (Value.int .i64 x144)), (145, (Value.int .i64 x145))]) h
def f4.j4 (R : Value → Heap → Prop) (x1 : Int) (x2 : Int) (a3 : Addr) (a7 : Addr) (x8 : Int) (a9 : Addr) (x10 : Int) (x11 : Int) (a12 : Addr) (A13 : Option Addr) (n13 : Nat) (c13 : Nat) (x14 : Int) (a17 : Addr) (A19 : Option Addr) (n19 : Nat) (c19 : Nat) (A20 : Option Addr) (n20 : Nat) (c20 : Nat) (A21 : Option Addr) (n21 : Nat) (c21 : Nat) (x22 : Int) (a24 : Addr) (A143 : Option Addr) (n143 : Nat) (c143 : Nat) (x144 : Int) (x145 : Int) (h : Heap) : Prop := Pt Try.prog Try.f4 R [true, true, false, false, true, true, false, false, true, false, true, true, true, true, true, true, true, true, true, true, true, true] (mkFr [(1, (Value.int .i64 x1)), (2, (Value.int .i64 x2)), (3, (Value.pointer (some a3))), (7, (Value.pointer (some a7))), (8, (Value.int .i64 x8)), (9, (Value.pointer (some a9))), (10, (Value.int .i64 x10)), (11, (Value.int .i64 x11)), (12, (Value.pointer (some a12))), (13, (Value.slice A13 n13 c13)), (14, (Value.int .i64 x14)), (17, (Value.pointer (some a17))), (19, (Value.slice A19 n19 c19)), (20, (Value.slice A20 n20 c20)), (21, (Value.slice A21 n21 c21)), (22, (Value.int .i64 x22)), (24, (Value.pointer (some a24))), (143, (Value.slice A143 n143 c143)), (144, (Value.int .i64 x144)), (145, (Value.int .i64 x145))]) h
def f4.j1 (R : Value → Heap → Prop) (x1 : Int) (x2 : Int) (a3 : Addr) (a7 : Addr) (x8 : Int) (a12 : Addr) (A13 : Option Addr) (n13 : Nat) (c13 : Nat) (x14 : Int) (a17 : Addr) (A19 : Option Addr) (n19 : Nat) (c19 : Nat) (A20 : Option Addr) (n20 : Nat) (c20 : Nat) (A21 : Option Addr) (n21 : Nat) (c21 : Nat) (h : Heap) : Prop := Pt Try.prog Try.f4 R [true, true, true, true, true, true, true, true, true, true, true, true, true, true] (mkFr [(1, (Value.int .i64 x1)), (2, (Value.int .i64 x2)), (3, (Value.pointer (some a3))), (7, (Value.pointer (some a7))), (8, (Value.int .i64 x8)), (12, (Value.pointer (some a12))), (13, (Value.slice A13 n13 c13)), (14, (Value.int .i64 x14)), (17, (Value.pointer (some a17))), (19, (Value.slice A19 n19 c19)), (20, (Value.slice A20 n20 c20)), (21, (Value.slice A21 n21 c21))]) h
def f4.j6 (R : Value → Heap → Prop) (x1 : Int) (x2 : Int) (a3 : Addr) (a7 : Addr) (x8 : Int) (a9 : Addr) (x10 : Int) (x11 : Int) (a12 : Addr) (A13 : Option Addr) (n13 : Nat) (c13 : Nat) (x14 : Int) (a17 : Addr) (A19 : Option Addr) (n19 : Nat) (c19 : Nat) (A20 : Option Addr) (n20 : Nat) (c20 : Nat) (A21 : Option Addr) (n21 : Nat) (c21 : Nat) (x22 : Int) (a24 : Addr) (A143 : Option Addr) (n143 : Nat) (c143 : Nat) (x144 : Int) (x145 : Int) (b169 : Bool) (h : Heap) : Prop := Pt Try.prog Try.f4 R [true, true, true, false, false, true, true, false, false, true, false, true, true, true, true, true, true, true, true, true, true, true, true] (mkFr [(1, (Value.int .i64 x1)), (2, (Value.int .i64 x2)), (3, (Value.pointer (some a3))), (7, (Value.pointer (some a7))), (8, (Value.int .i64 x8)), (9, (Value.pointer (some a9))), (10, (Value.int .i64 x10)), (11, (Value.int .i64 x11)), (12, (Value.pointer (some a12))), (13, (Value.slice A13 n13 c13)), (14, (Value.int .i64 x14)), (17, (Value.pointer (some a17))), (19, (Value.slice A19 n19 c19)), (20, (Value.slice A20 n20 c20)), (21, (Value.slice A21 n21 c21)), (22, (Value.int .i64 x22)), (24, (Value.pointer (some a24))), (143, (Value.slice A143 n143 c143)), (144, (Value.int .i64 x144)), (145, (Value.int .i64 x145)), (169, (Value.bool b169))]) h
def f4.j2 (R : Value → Heap → Prop) (x1 : Int) (x2 : Int) (a3 : Addr) (a7 : Addr) (x8 : Int) (a17 : Addr) (A19 : Option Addr) (n19 : Nat) (c19 : Nat) (h : Heap) : Prop := Pt Try.prog Try.f4 R [true, true, true, true, true, true, true, true, true, true, true, true, true, true, true] (mkFr [(1, (Value.int .i64 x1)), (2, (Value.int .i64 x2)), (3, (Value.pointer (some a3))), (7, (Value.pointer (some a7))), (8, (Value.int .i64 x8)), (17, (Value.pointer (some a17))), (19, (Value.slice A19 n19 c19))]) h
def f4.l1 (R : Value → Heap → Prop) (x1 : Int) (a3 : Addr) (a7 : Addr) (x8 : Int) (A19 : Option Addr) (n19 : Nat) (c19 : Nat) (a25 : Addr) (x26 : Int) (h : Heap) : Prop := Pt Try.prog Try.f4 R [false, false, false, true, true, true, true, true, true, true, true, true, true, true, true, true, true, true, true, true, true] (mkFr [(1, (Value.int .i64 x1)), (3, (Value.pointer (some a3))), (7, (Value.pointer (some a7))), (8, (Value.int .i64 x8)), (19, (Value.slice A19 n19 c19)), (25, (Value.pointer (some a25))), (26, (Value.int .i64 x26))]) h
def f4.j5 (R : Value → Heap → Prop) (x1 : Int) (a3 : Addr) (a7 : Addr) (x8 : Int) (A19 : Option Addr) (n19 : Nat) (c19 : Nat) (a25 : Addr) (x26 : Int) (h : Heap) : Prop := Pt Try.prog Try.f4 R [true, false, false, false, true, true, true, true, true, true, true, true, true, true, true, true, true, true, true, true, true, true] (mkFr [(1, (Value.int .i64 x1)), (3, (Value.pointer (some a3))), (7, (Value.pointer (some a7))), (8, (Value.int .i64 x8)), (19, (Value.slice A19 n19 c19)), (25, (Value.pointer (some a25))), (26, (Value.int .i64 x26))]) h
def f4.j3 (R : Value → Heap → Prop) (a3 : Addr) (a7 : Addr) (x8 : Int) (A19 : Option Addr) (n19 : Nat) (c19 : Nat) (a25 : Addr) (x26 : Int) (h : Heap) : Prop := Pt Try.prog Try.f4 R [true, true, true, true, true, true, true, true, true, true, true, true, true, true, true, true, true, true, true] (mkFr [(3, (Value.pointer (some a3))), (7, (Value.pointer (some a7))), (8, (Value.int .i64 x8)), (19, (Value.slice A19 n19 c19)), (25, (Value.pointer (some a25))), (26, (Value.int .i64 x26))]) h
set_option maxRecDepth 100000 in
def f4.j0T (R : Value → Heap → Prop) (x1 : Int) (x2 : Int) (a3 : Addr) (a7 : Addr) (x8 : Int) (a9 : Addr) (x10 : Int) (x11 : Int) (a12 : Addr) (A13 : Option Addr) (n13 : Nat) (c13 : Nat) (x14 : Int) (a17 : Addr) (h : Heap) : Prop :=
  ∃ v1_, ldv false 1 h (Addr.add a3 1) = some v1_ ∧ ∃ A2_, ∃ n2_, ∃ c2_, v1_ = (Value.slice A2_ n2_ c2_) ∧ f4.l0 R x1 x2 a3 a7 x8 a9 x10 x11 a12 A13 n13 c13 x14 a17 none 0 0 none 0 0 none 0 0 (0 : Int) A2_ n2_ c2_ ((n2_ : Nat) : Int) (0 : Int) h
set_option maxRecDepth 100000 in
theorem f4.j0_in {R : Value → Heap → Prop} {x1 : Int} {x2 : Int} {a3 : Addr} {a7 : Addr} {x8 : Int} {a9 : Addr} {x10 : Int} {x11 : Int} {a12 : Addr} {A13 : Option Addr} {n13 : Nat} {c13 : Nat} {x14 : Int} {a17 : Addr} {h : Heap} (H : f4.j0T R x1 x2 a3 a7 x8 a9 x10 x11 a12 A13 n13 c13 x14 a17 h) : f4.j0 R x1 x2 a3 a7 x8 a9 x10 x11 a12 A13 n13 c13 x14 a17 h :=
  pt_intro mixed f4.good (Eq.mpr (show (Fwd Try.prog f4.T f4.kp Try.f4 R [true, true, true, true, true, true, true, true, true, true] (mkFr [(1, (Value.int .i64 x1)), (2, (Value.int .i64 x2)), (3, (Value.pointer (some a3))), (7, (Value.pointer (some a7))), (8, (Value.int .i64 x8)), (9, (Value.pointer (some a9))), (10, (Value.int .i64 x10)), (11, (Value.int .i64 x11)), (12, (Value.pointer (some a12))), (13, (Value.slice A13 n13 c13)), (14, (Value.int .i64 x14)), (17, (Value.pointer (some a17)))]) h) = (f4.j0T R x1 x2 a3 a7 x8 a9 x10 x11 a12 A13 n13 c13 x14 a17 h) by kernel_rfl) H)
set_option maxRecDepth 100000 in
def f4.l0T (R : Value → Heap → Prop) (x1 : Int) (x2 : Int) (a3 : Addr) (a7 : Addr) (x8 : Int) (a9 : Addr) (x10 : Int) (x11 : Int) (a12 : Addr) (A13 : Option Addr) (n13 : Nat) (c13 : Nat) (x14 : Int) (a17 : Addr) (A19 : Option Addr) (n19 : Nat) (c19 : Nat) (A20 : Option Addr) (n20 : Nat) (c20 : Nat) (A21 : Option Addr) (n21 : Nat) (c21 : Nat) (x22 : Int) (A143 : Option Addr) (n143 : Nat) (c143 : Nat) (x144 : Int) (x145 : Int) (h : Heap) : Prop :=
  splitB (decide (x145 < x144)) (ptrOk A143 fun a1_ => 0 ≤ x145 ∧ x145 < ((n143 : Nat) : Int) ∧ (∃ v2_, ldv true 2 h (Addr.add a1_ (Int.toNat x145 * 2)) = some v2_ ∧ newH h (Obj.cells #[(Value.int .i64 (0 : Int)), (Value.int .i64 (0 : Int))] 60) fun h3_ => ∃ l5_ : List Value, v2_ = Value.agg l5_.toArray ∧ l5_.length = 2 ∧ ∃ h4_, stH h3_ (⟨Array.size h, 0, none⟩) l5_ 0 = some h4_ ∧ ∃ v6_, ldv false 1 h4_ (Addr.add (⟨Array.size h, 0, none⟩) 1) = some v6_ ∧ ∃ x7_, v6_ = (Value.int .i64 x7_) ∧ splitB (x7_ == x1) (∃ v8_, ldv false 1 h4_ (⟨Array.size h, 0, none⟩) = some v8_ ∧ ∃ x9_, v8_ = (Value.int .i64 x9_) ∧ f4.j4 R x1 x2 a3 a7 x8 a9 x10 x11 a12 A13 n13 c13 x14 a17 A19 n19 c19 A20 n20 c20 A21 n21 c21 x9_ (⟨Array.size h, 0, none⟩) A143 n143 c143 x144 x145 h4_) (∃ v10_, ldv true 2 h4_ (⟨Array.size h, 0, none⟩) = some v10_ ∧ ∃ l11_ : List Value, v10_ = Value.agg l11_.toArray ∧ l11_.length = 2 ∧ (newH h4_ (Obj.cells ((List.take 0 ([(Value.int .i64 (0 : Int)), (Value.int .i64 (0 : Int))]) ++ l11_ ++ List.drop 2 ([(Value.int .i64 (0 : Int)), (Value.int .i64 (0 : Int))])).toArray) 60) fun h12_ => AppW 60 2 16 #[(Value.int .i64 (0 : Int)), (Value.int .i64 (0 : Int))] A19 n19 c19 (Value.slice (some ⟨Array.size h4_, 0, none⟩) 1 1) h12_ fun v13_ h14_ => ∃ A15_, ∃ n15_, ∃ c15_, v13_ = (Value.slice A15_ n15_ c15_) ∧ f4.j4 R x1 x2 a3 a7 x8 a9 x10 x11 a12 A13 n13 c13 x14 a17 A15_ n15_ c15_ A20 n20 c20 A21 n21 c21 x22 (⟨Array.size h, 0, none⟩) A143 n143 c143 x144 x145 h14_)))) (splitB (x22 == (0 : Int)) (∃ v16_, ldv true 2 h a9 = some v16_ ∧ ∃ v17_, ldv true 2 h a17 = some v17_ ∧ Run Try.prog 24 #[v16_, v17_] h fun v18_ h19_ => ∃ b20_, v18_ = (Value.bool b20_) ∧ splitB (!b20_) (R (Value.bool false) h19_) (splitB (x10 != (0 : Int)) (R (Value.bool false) h19_) (splitB (x11 != (4 : Int)) (R (Value.bool false) h19_) (splitB (decide (x22 > (0 : Int))) (∃ v21_, ldv true 2 h19_ a9 = some v21_ ∧ ∃ v22_, ldv false 1 h19_ a3 = some v22_ ∧ ∃ x23_, v22_ = (Value.int .i64 x23_) ∧ Run Try.prog 24 #[v21_, (Value.agg #[(Value.int .i64 x23_), (Value.slice A19 n19 c19)])] h19_ fun v24_ h25_ => ∃ b26_, v24_ = (Value.bool b26_) ∧ splitB (!b26_) (R (Value.bool false) h25_) (∃ v27_, ldv false 1 h25_ a3 = some v27_ ∧ ∃ x28_, v27_ = (Value.int .i64 x28_) ∧ splitB (x10 != (IntKind.wrap .i64 (x22 - x28_))) (R (Value.bool false) h25_) (splitB (x11 != (0 : Int)) (R (Value.bool false) h25_) (f4.j1 R x1 x2 a3 a7 x8 a12 A13 n13 c13 x14 a17 A19 n19 c19 A20 n20 c20 A21 n21 c21 h25_)))) (f4.j1 R x1 x2 a3 a7 x8 a12 A13 n13 c13 x14 a17 A19 n19 c19 A20 n20 c20 A21 n21 c21 h19_))))) (splitB (decide (x22 > (0 : Int))) (∃ v29_, ldv true 2 h a9 = some v29_ ∧ ∃ v30_, ldv false 1 h a3 = some v30_ ∧ ∃ x31_, v30_ = (Value.int .i64 x31_) ∧ Run Try.prog 24 #[v29_, (Value.agg #[(Value.int .i64 x31_), (Value.slice A19 n19 c19)])] h fun v32_ h33_ => ∃ b34_, v32_ = (Value.bool b34_) ∧ splitB (!b34_) (R (Value.bool false) h33_) (∃ v35_, ldv false 1 h33_ a3 = some v35_ ∧ ∃ x36_, v35_ = (Value.int .i64 x36_) ∧ splitB (x10 != (IntKind.wrap .i64 (x22 - x36_))) (R (Value.bool false) h33_) (splitB (x11 != (0 : Int)) (R (Value.bool false) h33_) (f4.j1 R x1 x2 a3 a7 x8 a12 A13 n13 c13 x14 a17 A19 n19 c19 A20 n20 c20 A21 n21 c21 h33_)))) (f4.j1 R x1 x2 a3 a7 x8 a12 A13 n13 c13 x14 a17 A19 n19 c19 A20 n20 c20 A21 n21 c21 h)))
set_option maxRecDepth 100000 in
theorem f4.l0_in {R : Value → Heap → Prop} {x1 : Int} {x2 : Int} {a3 : Addr} {a7 : Addr} {x8 : Int} {a9 : Addr} {x10 : Int} {x11 : Int} {a12 : Addr} {A13 : Option Addr} {n13 : Nat} {c13 : Nat} {x14 : Int} {a17 : Addr} {A19 : Option Addr} {n19 : Nat} {c19 : Nat} {A20 : Option Addr} {n20 : Nat} {c20 : Nat} {A21 : Option Addr} {n21 : Nat} {c21 : Nat} {x22 : Int} {A143 : Option Addr} {n143 : Nat} {c143 : Nat} {x144 : Int} {x145 : Int} {h : Heap} (H : f4.l0T R x1 x2 a3 a7 x8 a9 x10 x11 a12 A13 n13 c13 x14 a17 A19 n19 c19 A20 n20 c20 A21 n21 c21 x22 A143 n143 c143 x144 x145 h) : f4.l0 R x1 x2 a3 a7 x8 a9 x10 x11 a12 A13 n13 c13 x14 a17 A19 n19 c19 A20 n20 c20 A21 n21 c21 x22 A143 n143 c143 x144 x145 h :=
  pt_intro mixed f4.good (Eq.mpr (show (Fwd Try.prog f4.T f4.kp Try.f4 R [false, false, true, false, true, true, true, true, true, true, true, true, true, true, true, true] (mkFr [(1, (Value.int .i64 x1)), (2, (Value.int .i64 x2)), (3, (Value.pointer (some a3))), (7, (Value.pointer (some a7))), (8, (Value.int .i64 x8)), (9, (Value.pointer (some a9))), (10, (Value.int .i64 x10)), (11, (Value.int .i64 x11)), (12, (Value.pointer (some a12))), (13, (Value.slice A13 n13 c13)), (14, (Value.int .i64 x14)), (17, (Value.pointer (some a17))), (19, (Value.slice A19 n19 c19)), (20, (Value.slice A20 n20 c20)), (21, (Value.slice A21 n21 c21)), (22, (Value.int .i64 x22)), (143, (Value.slice A143 n143 c143)), (144, (Value.int .i64 x144)), (145, (Value.int .i64 x145))]) h) = (f4.l0T R x1 x2 a3 a7 x8 a9 x10 x11 a12 A13 n13 c13 x14 a17 A19 n19 c19 A20 n20 c20 A21 n21 c21 x22 A143 n143 c143 x144 x145 h) by kernel_rfl) H)
set_option maxRecDepth 100000 in
def f4.j4T (R : Value → Heap → Prop) (x1 : Int) (x2 : Int) (a3 : Addr) (a7 : Addr) (x8 : Int) (a9 : Addr) (x10 : Int) (x11 : Int) (a12 : Addr) (A13 : Option Addr) (n13 : Nat) (c13 : Nat) (x14 : Int) (a17 : Addr) (A19 : Option Addr) (n19 : Nat) (c19 : Nat) (A20 : Option Addr) (n20 : Nat) (c20 : Nat) (A21 : Option Addr) (n21 : Nat) (c21 : Nat) (x22 : Int) (a24 : Addr) (A143 : Option Addr) (n143 : Nat) (c143 : Nat) (x144 : Int) (x145 : Int) (h : Heap) : Prop :=
  Run Try.prog 25 #[(Value.int .i64 x2), (Value.int .i64 (0 : Int)), (Value.int .i64 (1099511627776 : Int))] h fun v1_ h2_ => ∃ b3_, v1_ = (Value.bool b3_) ∧ splitB b3_ (∃ v4_, ldv false 1 h2_ a24 = some v4_ ∧ ∃ x5_, v4_ = (Value.int .i64 x5_) ∧ ∃ v6_, ldv false 1 h2_ a3 = some v6_ ∧ ∃ x7_, v6_ = (Value.int .i64 x7_) ∧ f4.j6 R x1 x2 a3 a7 x8 a9 x10 x11 a12 A13 n13 c13 x14 a17 A19 n19 c19 A20 n20 c20 A21 n21 c21 x22 a24 A143 n143 c143 x144 x145 (decide (x5_ ≤ (IntKind.wrap .i64 (x7_ + x2)))) h2_) (f4.j6 R x1 x2 a3 a7 x8 a9 x10 x11 a12 A13 n13 c13 x14 a17 A19 n19 c19 A20 n20 c20 A21 n21 c21 x22 a24 A143 n143 c143 x144 x145 false h2_)
set_option maxRecDepth 100000 in
theorem f4.j4_in {R : Value → Heap → Prop} {x1 : Int} {x2 : Int} {a3 : Addr} {a7 : Addr} {x8 : Int} {a9 : Addr} {x10 : Int} {x11 : Int} {a12 : Addr} {A13 : Option Addr} {n13 : Nat} {c13 : Nat} {x14 : Int} {a17 : Addr} {A19 : Option Addr} {n19 : Nat} {c19 : Nat} {A20 : Option Addr} {n20 : Nat} {c20 : Nat} {A21 : Option Addr} {n21 : Nat} {c21 : Nat} {x22 : Int} {a24 : Addr} {A143 : Option Addr} {n143 : Nat} {c143 : Nat} {x144 : Int} {x145 : Int} {h : Heap} (H : f4.j4T R x1 x2 a3 a7 x8 a9 x10 x11 a12 A13 n13 c13 x14 a17 A19 n19 c19 A20 n20 c20 A21 n21 c21 x22 a24 A143 n143 c143 x144 x145 h) : f4.j4 R x1 x2 a3 a7 x8 a9 x10 x11 a12 A13 n13 c13 x14 a17 A19 n19 c19 A20 n20 c20 A21 n21 c21 x22 a24 A143 n143 c143 x144 x145 h :=
  pt_intro mixed f4.good (Eq.mpr (show (Fwd Try.prog f4.T f4.kp Try.f4 R [true, true, false, false, true, true, false, false, true, false, true, true, true, true, true, true, true, true, true, true, true, true] (mkFr [(1, (Value.int .i64 x1)), (2, (Value.int .i64 x2)), (3, (Value.pointer (some a3))), (7, (Value.pointer (some a7))), (8, (Value.int .i64 x8)), (9, (Value.pointer (some a9))), (10, (Value.int .i64 x10)), (11, (Value.int .i64 x11)), (12, (Value.pointer (some a12))), (13, (Value.slice A13 n13 c13)), (14, (Value.int .i64 x14)), (17, (Value.pointer (some a17))), (19, (Value.slice A19 n19 c19)), (20, (Value.slice A20 n20 c20)), (21, (Value.slice A21 n21 c21)), (22, (Value.int .i64 x22)), (24, (Value.pointer (some a24))), (143, (Value.slice A143 n143 c143)), (144, (Value.int .i64 x144)), (145, (Value.int .i64 x145))]) h) = (f4.j4T R x1 x2 a3 a7 x8 a9 x10 x11 a12 A13 n13 c13 x14 a17 A19 n19 c19 A20 n20 c20 A21 n21 c21 x22 a24 A143 n143 c143 x144 x145 h) by kernel_rfl) H)
set_option maxRecDepth 100000 in
def f4.j1T (R : Value → Heap → Prop) (x1 : Int) (x2 : Int) (a3 : Addr) (a7 : Addr) (x8 : Int) (a12 : Addr) (A13 : Option Addr) (n13 : Nat) (c13 : Nat) (x14 : Int) (a17 : Addr) (A19 : Option Addr) (n19 : Nat) (c19 : Nat) (A20 : Option Addr) (n20 : Nat) (c20 : Nat) (A21 : Option Addr) (n21 : Nat) (c21 : Nat) (h : Heap) : Prop :=
  ∃ v1_, ldv false 1 h a3 = some v1_ ∧ ∃ x2_, v1_ = (Value.int .i64 x2_) ∧ Run Try.prog 25 #[(Value.int .i64 x2), (Value.int .i64 (0 : Int)), (Value.int .i64 (IntKind.wrap .i64 ((1099511627776 : Int) - x2_)))] h fun v3_ h4_ => ∃ b5_, v3_ = (Value.bool b5_) ∧ splitB (!b5_) (∃ v6_, ldv true 2 h4_ a12 = some v6_ ∧ ∃ v7_, ldv true 2 h4_ a17 = some v7_ ∧ Run Try.prog 24 #[v6_, v7_] h4_ fun v8_ h9_ => ∃ b10_, v8_ = (Value.bool b10_) ∧ splitB (!b10_) (R (Value.bool false) h9_) (splitB (decide (((n13 : Nat) : Int) > (0 : Int))) (R (Value.bool false) h9_) (splitB (x14 != (1 : Int)) (R (Value.bool false) h9_) (f4.j2 R x1 x2 a3 a7 x8 a17 A19 n19 c19 h9_)))) (∃ v11_, ldv true 2 h4_ a12 = some v11_ ∧ ∃ v12_, ldv false 1 h4_ a3 = some v12_ ∧ ∃ x13_, v12_ = (Value.int .i64 x13_) ∧ Run Try.prog 24 #[v11_, (Value.agg #[(Value.int .i64 (IntKind.wrap .i64 (x13_ + x2))), (Value.slice A21 n21 c21)])] h4_ fun v14_ h15_ => ∃ b16_, v14_ = (Value.bool b16_) ∧ splitB (!b16_) (R (Value.bool false) h15_) (Run Try.prog 26 #[(Value.slice A13 n13 c13), (Value.slice A20 n20 c20)] h15_ fun v17_ h18_ => ∃ b19_, v17_ = (Value.bool b19_) ∧ splitB (!b19_) (R (Value.bool false) h18_) (splitB (x14 != (0 : Int)) (R (Value.bool false) h18_) (f4.j2 R x1 x2 a3 a7 x8 a17 A19 n19 c19 h18_))))
set_option maxRecDepth 100000 in
theorem f4.j1_in {R : Value → Heap → Prop} {x1 : Int} {x2 : Int} {a3 : Addr} {a7 : Addr} {x8 : Int} {a12 : Addr} {A13 : Option Addr} {n13 : Nat} {c13 : Nat} {x14 : Int} {a17 : Addr} {A19 : Option Addr} {n19 : Nat} {c19 : Nat} {A20 : Option Addr} {n20 : Nat} {c20 : Nat} {A21 : Option Addr} {n21 : Nat} {c21 : Nat} {h : Heap} (H : f4.j1T R x1 x2 a3 a7 x8 a12 A13 n13 c13 x14 a17 A19 n19 c19 A20 n20 c20 A21 n21 c21 h) : f4.j1 R x1 x2 a3 a7 x8 a12 A13 n13 c13 x14 a17 A19 n19 c19 A20 n20 c20 A21 n21 c21 h :=
  pt_intro mixed f4.good (Eq.mpr (show (Fwd Try.prog f4.T f4.kp Try.f4 R [true, true, true, true, true, true, true, true, true, true, true, true, true, true] (mkFr [(1, (Value.int .i64 x1)), (2, (Value.int .i64 x2)), (3, (Value.pointer (some a3))), (7, (Value.pointer (some a7))), (8, (Value.int .i64 x8)), (12, (Value.pointer (some a12))), (13, (Value.slice A13 n13 c13)), (14, (Value.int .i64 x14)), (17, (Value.pointer (some a17))), (19, (Value.slice A19 n19 c19)), (20, (Value.slice A20 n20 c20)), (21, (Value.slice A21 n21 c21))]) h) = (f4.j1T R x1 x2 a3 a7 x8 a12 A13 n13 c13 x14 a17 A19 n19 c19 A20 n20 c20 A21 n21 c21 h) by kernel_rfl) H)
set_option maxRecDepth 100000 in
def f4.j6T (R : Value → Heap → Prop) (x1 : Int) (x2 : Int) (a3 : Addr) (a7 : Addr) (x8 : Int) (a9 : Addr) (x10 : Int) (x11 : Int) (a12 : Addr) (A13 : Option Addr) (n13 : Nat) (c13 : Nat) (x14 : Int) (a17 : Addr) (A19 : Option Addr) (n19 : Nat) (c19 : Nat) (A20 : Option Addr) (n20 : Nat) (c20 : Nat) (A21 : Option Addr) (n21 : Nat) (c21 : Nat) (x22 : Int) (a24 : Addr) (A143 : Option Addr) (n143 : Nat) (c143 : Nat) (x144 : Int) (x145 : Int) (b169 : Bool) (h : Heap) : Prop :=
  splitB b169 (∃ v1_, ldv true 2 h a24 = some v1_ ∧ ∃ l2_ : List Value, v1_ = Value.agg l2_.toArray ∧ l2_.length = 2 ∧ (newH h (Obj.cells ((List.take 0 ([(Value.int .i64 (0 : Int)), (Value.int .i64 (0 : Int))]) ++ l2_ ++ List.drop 2 ([(Value.int .i64 (0 : Int)), (Value.int .i64 (0 : Int))])).toArray) 60) fun h3_ => AppW 60 2 16 #[(Value.int .i64 (0 : Int)), (Value.int .i64 (0 : Int))] A20 n20 c20 (Value.slice (some ⟨Array.size h, 0, none⟩) 1 1) h3_ fun v4_ h5_ => ∃ A6_, ∃ n6_, ∃ c6_, v4_ = (Value.slice A6_ n6_ c6_) ∧ f4.l0 R x1 x2 a3 a7 x8 a9 x10 x11 a12 A13 n13 c13 x14 a17 A19 n19 c19 A6_ n6_ c6_ A21 n21 c21 x22 A143 n143 c143 x144 (IntKind.wrap .i64 (x145 + (1 : Int))) h5_)) (∃ v7_, ldv true 2 h a24 = some v7_ ∧ ∃ l8_ : List Value, v7_ = Value.agg l8_.toArray ∧ l8_.length = 2 ∧ (newH h (Obj.cells ((List.take 0 ([(Value.int .i64 (0 : Int)), (Value.int .i64 (0 : Int))]) ++ l8_ ++ List.drop 2 ([(Value.int .i64 (0 : Int)), (Value.int .i64 (0 : Int))])).toArray) 60) fun h9_ => AppW 60 2 16 #[(Value.int .i64 (0 : Int)), (Value.int .i64 (0 : Int))] A21 n21 c21 (Value.slice (some ⟨Array.size h, 0, none⟩) 1 1) h9_ fun v10_ h11_ => ∃ A12_, ∃ n12_, ∃ c12_, v10_ = (Value.slice A12_ n12_ c12_) ∧ f4.l0 R x1 x2 a3 a7 x8 a9 x10 x11 a12 A13 n13 c13 x14 a17 A19 n19 c19 A20 n20 c20 A12_ n12_ c12_ x22 A143 n143 c143 x144 (IntKind.wrap .i64 (x145 + (1 : Int))) h11_))
set_option maxRecDepth 100000 in
theorem f4.j6_in {R : Value → Heap → Prop} {x1 : Int} {x2 : Int} {a3 : Addr} {a7 : Addr} {x8 : Int} {a9 : Addr} {x10 : Int} {x11 : Int} {a12 : Addr} {A13 : Option Addr} {n13 : Nat} {c13 : Nat} {x14 : Int} {a17 : Addr} {A19 : Option Addr} {n19 : Nat} {c19 : Nat} {A20 : Option Addr} {n20 : Nat} {c20 : Nat} {A21 : Option Addr} {n21 : Nat} {c21 : Nat} {x22 : Int} {a24 : Addr} {A143 : Option Addr} {n143 : Nat} {c143 : Nat} {x144 : Int} {x145 : Int} {b169 : Bool} {h : Heap} (H : f4.j6T R x1 x2 a3 a7 x8 a9 x10 x11 a12 A13 n13 c13 x14 a17 A19 n19 c19 A20 n20 c20 A21 n21 c21 x22 a24 A143 n143 c143 x144 x145 b169 h) : f4.j6 R x1 x2 a3 a7 x8 a9 x10 x11 a12 A13 n13 c13 x14 a17 A19 n19 c19 A20 n20 c20 A21 n21 c21 x22 a24 A143 n143 c143 x144 x145 b169 h :=
  pt_intro mixed f4.good (Eq.mpr (show (Fwd Try.prog f4.T f4.kp Try.f4 R [true, true, true, false, false, true, true, false, false, true, false, true, true, true, true, true, true, true, true, true, true, true, true] (mkFr [(1, (Value.int .i64 x1)), (2, (Value.int .i64 x2)), (3, (Value.pointer (some a3))), (7, (Value.pointer (some a7))), (8, (Value.int .i64 x8)), (9, (Value.pointer (some a9))), (10, (Value.int .i64 x10)), (11, (Value.int .i64 x11)), (12, (Value.pointer (some a12))), (13, (Value.slice A13 n13 c13)), (14, (Value.int .i64 x14)), (17, (Value.pointer (some a17))), (19, (Value.slice A19 n19 c19)), (20, (Value.slice A20 n20 c20)), (21, (Value.slice A21 n21 c21)), (22, (Value.int .i64 x22)), (24, (Value.pointer (some a24))), (143, (Value.slice A143 n143 c143)), (144, (Value.int .i64 x144)), (145, (Value.int .i64 x145)), (169, (Value.bool b169))]) h) = (f4.j6T R x1 x2 a3 a7 x8 a9 x10 x11 a12 A13 n13 c13 x14 a17 A19 n19 c19 A20 n20 c20 A21 n21 c21 x22 a24 A143 n143 c143 x144 x145 b169 h) by kernel_rfl) H)
set_option maxRecDepth 100000 in
def f4.j2T (R : Value → Heap → Prop) (x1 : Int) (x2 : Int) (a3 : Addr) (a7 : Addr) (x8 : Int) (a17 : Addr) (A19 : Option Addr) (n19 : Nat) (c19 : Nat) (h : Heap) : Prop :=
  Run Try.prog 25 #[(Value.int .i64 x2), (Value.int .i64 (1 : Int)), (Value.int .i64 (1099511627776 : Int))] h fun v1_ h2_ => ∃ b3_, v1_ = (Value.bool b3_) ∧ splitB (!b3_) (∃ v4_, ldv true 2 h2_ a7 = some v4_ ∧ ∃ v5_, ldv true 2 h2_ a17 = some v5_ ∧ Run Try.prog 24 #[v4_, v5_] h2_ fun v6_ h7_ => ∃ b8_, v6_ = (Value.bool b8_) ∧ splitB b8_ (R (Value.bool (x8 == (1 : Int))) h7_) (R (Value.bool false) h7_)) (splitB (((n19 : Nat) : Int) == (100 : Int)) (∃ v9_, ldv true 2 h2_ a7 = some v9_ ∧ ∃ v10_, ldv true 2 h2_ a17 = some v10_ ∧ Run Try.prog 24 #[v9_, v10_] h2_ fun v11_ h12_ => ∃ b13_, v11_ = (Value.bool b13_) ∧ splitB b13_ (R (Value.bool (x8 == (6 : Int))) h12_) (R (Value.bool false) h12_)) (∃ v14_, ldv false 1 h2_ a3 = some v14_ ∧ ∃ x15_, v14_ = (Value.int .i64 x15_) ∧ newH h2_ (Obj.cells #[(Value.int .i64 (0 : Int)), (Value.int .i64 (0 : Int))] 60) fun h16_ => ∃ l18_ : List Value, (Value.agg #[(Value.int .i64 (IntKind.wrap .i64 (x15_ + x2))), (Value.int .i64 x1)]) = Value.agg l18_.toArray ∧ l18_.length = 2 ∧ ∃ h17_, stH h16_ (⟨Array.size h2_, 0, none⟩) l18_ 0 = some h17_ ∧ f4.l1 R x1 a3 a7 x8 A19 n19 c19 (⟨Array.size h2_, 0, none⟩) (0 : Int) h17_))
set_option maxRecDepth 100000 in
theorem f4.j2_in {R : Value → Heap → Prop} {x1 : Int} {x2 : Int} {a3 : Addr} {a7 : Addr} {x8 : Int} {a17 : Addr} {A19 : Option Addr} {n19 : Nat} {c19 : Nat} {h : Heap} (H : f4.j2T R x1 x2 a3 a7 x8 a17 A19 n19 c19 h) : f4.j2 R x1 x2 a3 a7 x8 a17 A19 n19 c19 h :=
  pt_intro mixed f4.good (Eq.mpr (show (Fwd Try.prog f4.T f4.kp Try.f4 R [true, true, true, true, true, true, true, true, true, true, true, true, true, true, true] (mkFr [(1, (Value.int .i64 x1)), (2, (Value.int .i64 x2)), (3, (Value.pointer (some a3))), (7, (Value.pointer (some a7))), (8, (Value.int .i64 x8)), (17, (Value.pointer (some a17))), (19, (Value.slice A19 n19 c19))]) h) = (f4.j2T R x1 x2 a3 a7 x8 a17 A19 n19 c19 h) by kernel_rfl) H)
set_option maxRecDepth 100000 in
def f4.l1T (R : Value → Heap → Prop) (x1 : Int) (a3 : Addr) (a7 : Addr) (x8 : Int) (A19 : Option Addr) (n19 : Nat) (c19 : Nat) (a25 : Addr) (x26 : Int) (h : Heap) : Prop :=
  splitB (decide (x26 < ((n19 : Nat) : Int))) (ptrOk A19 fun a1_ => 0 ≤ x26 ∧ x26 < ((n19 : Nat) : Int) ∧ (∃ v2_, ldv false 1 h (Addr.add a1_ (Int.toNat x26 * 2)) = some v2_ ∧ ∃ x3_, v2_ = (Value.int .i64 x3_) ∧ ∃ v4_, ldv false 1 h a25 = some v4_ ∧ ∃ x5_, v4_ = (Value.int .i64 x5_) ∧ splitB (decide (x3_ < x5_)) (f4.j5 R x1 a3 a7 x8 A19 n19 c19 a25 x26 h) (ptrOk A19 fun a6_ => 0 ≤ x26 ∧ x26 < ((n19 : Nat) : Int) ∧ (∃ v7_, ldv false 1 h (Addr.add a6_ (Int.toNat x26 * 2)) = some v7_ ∧ ∃ x8_, v7_ = (Value.int .i64 x8_) ∧ ∃ v9_, ldv false 1 h a25 = some v9_ ∧ ∃ x10_, v9_ = (Value.int .i64 x10_) ∧ splitB (x8_ == x10_) (ptrOk A19 fun a11_ => 0 ≤ x26 ∧ x26 < ((n19 : Nat) : Int) ∧ (∃ v12_, ldv false 1 h (Addr.add (Addr.add a11_ (Int.toNat x26 * 2)) 1) = some v12_ ∧ ∃ x13_, v12_ = (Value.int .i64 x13_) ∧ splitB (decide (x13_ < x1)) (f4.j5 R x1 a3 a7 x8 A19 n19 c19 a25 x26 h) (f4.j3 R a3 a7 x8 A19 n19 c19 a25 x26 h))) (f4.j3 R a3 a7 x8 A19 n19 c19 a25 x26 h))))) (f4.j3 R a3 a7 x8 A19 n19 c19 a25 x26 h)
set_option maxRecDepth 100000 in
theorem f4.l1_in {R : Value → Heap → Prop} {x1 : Int} {a3 : Addr} {a7 : Addr} {x8 : Int} {A19 : Option Addr} {n19 : Nat} {c19 : Nat} {a25 : Addr} {x26 : Int} {h : Heap} (H : f4.l1T R x1 a3 a7 x8 A19 n19 c19 a25 x26 h) : f4.l1 R x1 a3 a7 x8 A19 n19 c19 a25 x26 h :=
  pt_intro mixed f4.good (Eq.mpr (show (Fwd Try.prog f4.T f4.kp Try.f4 R [false, false, false, true, true, true, true, true, true, true, true, true, true, true, true, true, true, true, true, true, true] (mkFr [(1, (Value.int .i64 x1)), (3, (Value.pointer (some a3))), (7, (Value.pointer (some a7))), (8, (Value.int .i64 x8)), (19, (Value.slice A19 n19 c19)), (25, (Value.pointer (some a25))), (26, (Value.int .i64 x26))]) h) = (f4.l1T R x1 a3 a7 x8 A19 n19 c19 a25 x26 h) by kernel_rfl) H)
set_option maxRecDepth 100000 in
def f4.j5T (R : Value → Heap → Prop) (x1 : Int) (a3 : Addr) (a7 : Addr) (x8 : Int) (A19 : Option Addr) (n19 : Nat) (c19 : Nat) (a25 : Addr) (x26 : Int) (h : Heap) : Prop :=
  f4.l1 R x1 a3 a7 x8 A19 n19 c19 a25 (IntKind.wrap .i64 (x26 + (1 : Int))) h
set_option maxRecDepth 100000 in
theorem f4.j5_in {R : Value → Heap → Prop} {x1 : Int} {a3 : Addr} {a7 : Addr} {x8 : Int} {A19 : Option Addr} {n19 : Nat} {c19 : Nat} {a25 : Addr} {x26 : Int} {h : Heap} (H : f4.j5T R x1 a3 a7 x8 A19 n19 c19 a25 x26 h) : f4.j5 R x1 a3 a7 x8 A19 n19 c19 a25 x26 h :=
  pt_intro mixed f4.good (Eq.mpr (show (Fwd Try.prog f4.T f4.kp Try.f4 R [true, false, false, false, true, true, true, true, true, true, true, true, true, true, true, true, true, true, true, true, true, true] (mkFr [(1, (Value.int .i64 x1)), (3, (Value.pointer (some a3))), (7, (Value.pointer (some a7))), (8, (Value.int .i64 x8)), (19, (Value.slice A19 n19 c19)), (25, (Value.pointer (some a25))), (26, (Value.int .i64 x26))]) h) = (f4.j5T R x1 a3 a7 x8 A19 n19 c19 a25 x26 h) by kernel_rfl) H)
set_option maxRecDepth 100000 in
def f4.j3T (R : Value → Heap → Prop) (a3 : Addr) (a7 : Addr) (x8 : Int) (A19 : Option Addr) (n19 : Nat) (c19 : Nat) (a25 : Addr) (x26 : Int) (h : Heap) : Prop :=
  ∃ v1_, ldv true 2 h a25 = some v1_ ∧ ∃ v2_, ldv true 2 h a7 = some v2_ ∧ ∃ v3_, ldv false 1 h a3 = some v3_ ∧ ∃ x4_, v3_ = (Value.int .i64 x4_) ∧ (Run Try.prog 28 #[(Value.slice A19 n19 c19)] h fun v5_ h6_ => ∃ A7_, ∃ n7_, ∃ c7_, v5_ = (Value.slice A7_ n7_ c7_) ∧ Ext h h6_ ∧ (ldv true 2 h6_ a7 = some v2_ ∧ (ldv false 1 h6_ a3 = some v3_ ∧ (∃ l8_ : List Value, v1_ = Value.agg l8_.toArray ∧ l8_.length = 2 ∧ (newH h6_ (Obj.cells ((List.take 0 ([(Value.int .i64 (0 : Int)), (Value.int .i64 (0 : Int))]) ++ l8_ ++ List.drop 2 ([(Value.int .i64 (0 : Int)), (Value.int .i64 (0 : Int))])).toArray) 60) fun h9_ => ldv true 2 h9_ a7 = some v2_ ∧ (ldv false 1 h9_ a3 = some v3_ ∧ (Run Try.prog 27 #[(Value.slice A7_ n7_ c7_), (Value.int .i64 x26), (Value.slice (some ⟨Array.size h6_, 0, none⟩) 1 1)] h9_ fun v10_ h11_ => ∃ A12_, ∃ n12_, ∃ c12_, v10_ = (Value.slice A12_ n12_ c12_) ∧ ldv true 2 h11_ a7 = some v2_ ∧ (ldv false 1 h11_ a3 = some v3_ ∧ (ldv true 2 h11_ a7 = some v2_ ∧ (Run Try.prog 24 #[v2_, (Value.agg #[(Value.int .i64 x4_), (Value.slice A12_ n12_ c12_)])] h11_ fun v13_ h14_ => ∃ b15_, v13_ = (Value.bool b15_) ∧ splitB b15_ (R (Value.bool (x8 == (0 : Int))) h14_) (R (Value.bool false) h14_))))))))))) ∧ (∃ l16_ : List Value, v1_ = Value.agg l16_.toArray ∧ l16_.length = 2 ∧ (newH h (Obj.cells ((List.take 0 ([(Value.int .i64 (0 : Int)), (Value.int .i64 (0 : Int))]) ++ l16_ ++ List.drop 2 ([(Value.int .i64 (0 : Int)), (Value.int .i64 (0 : Int))])).toArray) 60) fun h17_ => ldv true 2 h17_ a7 = some v2_ ∧ (ldv false 1 h17_ a3 = some v3_ ∧ (Run Try.prog 28 #[(Value.slice A19 n19 c19)] h17_ fun v18_ h19_ => ∃ A20_, ∃ n20_, ∃ c20_, v18_ = (Value.slice A20_ n20_ c20_) ∧ Ext h h19_ ∧ (ldv true 2 h19_ a7 = some v2_ ∧ (ldv false 1 h19_ a3 = some v3_ ∧ (Run Try.prog 27 #[(Value.slice A20_ n20_ c20_), (Value.int .i64 x26), (Value.slice (some ⟨Array.size h, 0, none⟩) 1 1)] h19_ fun v21_ h22_ => ∃ A23_, ∃ n23_, ∃ c23_, v21_ = (Value.slice A23_ n23_ c23_) ∧ ldv true 2 h22_ a7 = some v2_ ∧ (ldv false 1 h22_ a3 = some v3_ ∧ (ldv true 2 h22_ a7 = some v2_ ∧ (Run Try.prog 24 #[v2_, (Value.agg #[(Value.int .i64 x4_), (Value.slice A23_ n23_ c23_)])] h22_ fun v24_ h25_ => ∃ b26_, v24_ = (Value.bool b26_) ∧ splitB b26_ (R (Value.bool (x8 == (0 : Int))) h25_) (R (Value.bool false) h25_)))))))))))
set_option maxRecDepth 100000 in
theorem f4.j3_in {R : Value → Heap → Prop} {a3 : Addr} {a7 : Addr} {x8 : Int} {A19 : Option Addr} {n19 : Nat} {c19 : Nat} {a25 : Addr} {x26 : Int} {h : Heap} (H : f4.j3T R a3 a7 x8 A19 n19 c19 a25 x26 h) : f4.j3 R a3 a7 x8 A19 n19 c19 a25 x26 h :=
  pt_intro mixed f4.good (Eq.mpr (show (Fwd Try.prog f4.T f4.kp Try.f4 R [true, true, true, true, true, true, true, true, true, true, true, true, true, true, true, true, true, true, true] (mkFr [(3, (Value.pointer (some a3))), (7, (Value.pointer (some a7))), (8, (Value.int .i64 x8)), (19, (Value.slice A19 n19 c19)), (25, (Value.pointer (some a25))), (26, (Value.int .i64 x26))]) h) = (f4.j3T R a3 a7 x8 A19 n19 c19 a25 x26 h) by kernel_rfl) H)
set_option maxRecDepth 100000 in
def f4.runT (R : Value → Heap → Prop) (v0 : Value) (x1 : Int) (x2 : Int) (h : Heap) : Prop :=
  newH h (Obj.cells ((v0).cells) 48) fun h1_ => ∃ v2_, ldv true 2 h1_ (⟨Array.size h, 0, none⟩) = some v2_ ∧ Run Try.prog 18 #[v2_, (Value.int .i64 x1), (Value.int .i64 x2)] h1_ fun v3_ h4_ => ∃ v5_, ∃ x6_, v3_ = (Value.tuple #[v5_, (Value.int .i64 x6_)]) ∧ newH h4_ (Obj.cells #[(Value.int .i64 (0 : Int)), (Value.slice none 0 0)] 48) fun h7_ => ∃ l9_ : List Value, v5_ = Value.agg l9_.toArray ∧ l9_.length = 2 ∧ ∃ h8_, stH h7_ (⟨Array.size h4_, 0, none⟩) l9_ 0 = some h8_ ∧ ∃ v10_, ldv true 2 h8_ (⟨Array.size h, 0, none⟩) = some v10_ ∧ Run Try.prog 19 #[v10_, (Value.int .i64 x1)] h8_ fun v11_ h12_ => ∃ v13_, ∃ x14_, ∃ x15_, v11_ = (Value.tuple #[v13_, (Value.int .i64 x14_), (Value.int .i64 x15_)]) ∧ newH h12_ (Obj.cells #[(Value.int .i64 (0 : Int)), (Value.slice none 0 0)] 48) fun h16_ => ∃ l18_ : List Value, v13_ = Value.agg l18_.toArray ∧ l18_.length = 2 ∧ ∃ h17_, stH h16_ (⟨Array.size h12_, 0, none⟩) l18_ 0 = some h17_ ∧ ∃ v19_, ldv true 2 h17_ (⟨Array.size h, 0, none⟩) = some v19_ ∧ Run Try.prog 20 #[v19_, (Value.int .i64 x2)] h17_ fun v20_ h21_ => ∃ v22_, ∃ A23_, ∃ n23_, ∃ c23_, ∃ x24_, v20_ = (Value.tuple #[v22_, (Value.slice A23_ n23_ c23_), (Value.int .i64 x24_)]) ∧ newH h21_ (Obj.cells #[(Value.int .i64 (0 : Int)), (Value.slice none 0 0)] 48) fun h25_ => ∃ l27_ : List Value, v22_ = Value.agg l27_.toArray ∧ l27_.length = 2 ∧ ∃ h26_, stH h25_ (⟨Array.size h21_, 0, none⟩) l27_ 0 = some h26_ ∧ ∃ v28_, ldv true 2 h26_ (⟨Array.size h, 0, none⟩) = some v28_ ∧ Run Try.prog 21 #[v28_] h26_ fun v29_ h30_ => ∃ x31_, ∃ x32_, v29_ = (Value.tuple #[(Value.int .i64 x31_), (Value.int .i64 x32_)]) ∧ newH h30_ (Obj.cells #[(Value.int .i64 (0 : Int)), (Value.slice none 0 0)] 48) fun h33_ => ∃ l35_ : List Value, (Value.agg #[(Value.int .i64 (0 : Int)), (Value.slice none 0 0)]) = Value.agg l35_.toArray ∧ l35_.length = 2 ∧ ∃ h34_, stH h33_ (⟨Array.size h30_, 0, none⟩) l35_ 0 = some h34_ ∧ ∃ v36_, ldv true 2 h34_ (⟨Array.size h, 0, none⟩) = some v36_ ∧ Run Try.prog 22 #[v36_] h34_ fun v37_ h38_ => ∃ x39_, v37_ = (Value.int .i64 x39_) ∧ ∃ v40_, ldv true 2 h38_ (⟨Array.size h, 0, none⟩) = some v40_ ∧ Run Try.prog 23 #[v40_] h38_ fun v41_ h42_ => ∃ x43_, v41_ = (Value.int .i64 x43_) ∧ splitB (x43_ != x39_) (R (Value.bool false) h42_) (splitB (x39_ != (0 : Int)) (∃ v44_, ldv true 2 h42_ (⟨Array.size h4_, 0, none⟩) = some v44_ ∧ ∃ v45_, ldv true 2 h42_ (⟨Array.size h30_, 0, none⟩) = some v45_ ∧ Run Try.prog 24 #[v44_, v45_] h42_ fun v46_ h47_ => ∃ b48_, v46_ = (Value.bool b48_) ∧ splitB b48_ (splitB (x6_ == x39_) (∃ v49_, ldv true 2 h47_ (⟨Array.size h12_, 0, none⟩) = some v49_ ∧ ∃ v50_, ldv true 2 h47_ (⟨Array.size h30_, 0, none⟩) = some v50_ ∧ Run Try.prog 24 #[v49_, v50_] h47_ fun v51_ h52_ => ∃ b53_, v51_ = (Value.bool b53_) ∧ splitB b53_ (splitB (x14_ == (0 : Int)) (splitB (x15_ == x39_) (∃ v54_, ldv true 2 h52_ (⟨Array.size h21_, 0, none⟩) = some v54_ ∧ ∃ v55_, ldv true 2 h52_ (⟨Array.size h30_, 0, none⟩) = some v55_ ∧ Run Try.prog 24 #[v54_, v55_] h52_ fun v56_ h57_ => ∃ b58_, v56_ = (Value.bool b58_) ∧ splitB b58_ (splitB (((n23_ : Nat) : Int) == (0 : Int)) (splitB (x24_ == x39_) (splitB (x31_ == (0 : Int)) (R (Value.bool (x32_ == x39_)) h57_) (R (Value.bool false) h57_)) (R (Value.bool false) h57_)) (R (Value.bool false) h57_)) (R (Value.bool false) h57_)) (R (Value.bool false) h52_)) (R (Value.bool false) h52_)) (R (Value.bool false) h52_)) (R (Value.bool false) h47_)) (R (Value.bool false) h47_)) (∃ v59_, ldv false 1 h42_ (Addr.add (⟨Array.size h, 0, none⟩) 1) = some v59_ ∧ ∃ A60_, ∃ n60_, ∃ c60_, v59_ = (Value.slice A60_ n60_ c60_) ∧ splitB (((n60_ : Nat) : Int) == (0 : Int)) (splitB (x31_ != (0 : Int)) (R (Value.bool false) h42_) (splitB (x32_ != (4 : Int)) (R (Value.bool false) h42_) (∃ v61_, ldv false 1 h42_ (Addr.add (⟨Array.size h, 0, none⟩) 1) = some v61_ ∧ ∃ A62_, ∃ n62_, ∃ c62_, v61_ = (Value.slice A62_ n62_ c62_) ∧ splitB (decide (((n62_ : Nat) : Int) > (0 : Int))) (∃ v63_, ldv false 1 h42_ (Addr.add (⟨Array.size h, 0, none⟩) 1) = some v63_ ∧ ∃ A64_, ∃ n64_, ∃ c64_, v63_ = (Value.slice A64_ n64_ c64_) ∧ ptrOk A64_ fun a65_ => 0 ≤ (0 : Int) ∧ (0 : Int) < ((n64_ : Nat) : Int) ∧ (∃ v66_, ldv false 1 h42_ (Addr.add a65_ (Int.toNat (0 : Int) * 2)) = some v66_ ∧ ∃ x67_, v66_ = (Value.int .i64 x67_) ∧ ∃ v68_, ldv false 1 h42_ (⟨Array.size h, 0, none⟩) = some v68_ ∧ ∃ x69_, v68_ = (Value.int .i64 x69_) ∧ splitB (x31_ != (IntKind.wrap .i64 (x67_ - x69_))) (R (Value.bool false) h42_) (splitB (x32_ != (0 : Int)) (R (Value.bool false) h42_) (f4.j0 R x1 x2 (⟨Array.size h, 0, none⟩) (⟨Array.size h4_, 0, none⟩) x6_ (⟨Array.size h12_, 0, none⟩) x14_ x15_ (⟨Array.size h21_, 0, none⟩) A23_ n23_ c23_ x24_ (⟨Array.size h30_, 0, none⟩) h42_)))) (f4.j0 R x1 x2 (⟨Array.size h, 0, none⟩) (⟨Array.size h4_, 0, none⟩) x6_ (⟨Array.size h12_, 0, none⟩) x14_ x15_ (⟨Array.size h21_, 0, none⟩) A23_ n23_ c23_ x24_ (⟨Array.size h30_, 0, none⟩) h42_)))) (∃ v70_, ldv false 1 h42_ (Addr.add (⟨Array.size h, 0, none⟩) 1) = some v70_ ∧ ∃ A71_, ∃ n71_, ∃ c71_, v70_ = (Value.slice A71_ n71_ c71_) ∧ splitB (decide (((n71_ : Nat) : Int) > (0 : Int))) (∃ v72_, ldv false 1 h42_ (Addr.add (⟨Array.size h, 0, none⟩) 1) = some v72_ ∧ ∃ A73_, ∃ n73_, ∃ c73_, v72_ = (Value.slice A73_ n73_ c73_) ∧ ptrOk A73_ fun a74_ => 0 ≤ (0 : Int) ∧ (0 : Int) < ((n73_ : Nat) : Int) ∧ (∃ v75_, ldv false 1 h42_ (Addr.add a74_ (Int.toNat (0 : Int) * 2)) = some v75_ ∧ ∃ x76_, v75_ = (Value.int .i64 x76_) ∧ ∃ v77_, ldv false 1 h42_ (⟨Array.size h, 0, none⟩) = some v77_ ∧ ∃ x78_, v77_ = (Value.int .i64 x78_) ∧ splitB (x31_ != (IntKind.wrap .i64 (x76_ - x78_))) (R (Value.bool false) h42_) (splitB (x32_ != (0 : Int)) (R (Value.bool false) h42_) (f4.j0 R x1 x2 (⟨Array.size h, 0, none⟩) (⟨Array.size h4_, 0, none⟩) x6_ (⟨Array.size h12_, 0, none⟩) x14_ x15_ (⟨Array.size h21_, 0, none⟩) A23_ n23_ c23_ x24_ (⟨Array.size h30_, 0, none⟩) h42_)))) (f4.j0 R x1 x2 (⟨Array.size h, 0, none⟩) (⟨Array.size h4_, 0, none⟩) x6_ (⟨Array.size h12_, 0, none⟩) x14_ x15_ (⟨Array.size h21_, 0, none⟩) A23_ n23_ c23_ x24_ (⟨Array.size h30_, 0, none⟩) h42_))))
set_option maxRecDepth 100000 in
theorem f4.run {R : Value → Heap → Prop} {v0 : Value} {x1 : Int} {x2 : Int} {h : Heap} (H : f4.runT R v0 x1 x2 h) : Run Try.prog 4 #[v0, (Value.int .i64 x1), (Value.int .i64 x2)] h R :=
  run_of mixed Try.func4 (by kernel_rfl) (by kernel_rfl) f4.good (Eq.mpr (show (Fwd Try.prog f4.T f4.kp Try.f4 R [] (mkFr (argL [v0, (Value.int .i64 x1), (Value.int .i64 x2)] 0)) h) = (f4.runT R v0 x1 x2 h) by kernel_rfl) H)
end Go.Proofs.Ytmcfmmoaofileaa.Fw

end
section
namespace Go.Hw
open Go
section tests
variable {A B : Prop}
theorem split_dec {p : Prop} [Decidable p] (hA : p → A) (hB : ¬ p → B) : splitB (decide p) A B := by
  by_cases h : p
  · rw [decide_eq_true h]; exact hA h
  · rw [decide_eq_false h]; exact hB h
theorem split_eq {x y : Int} (hA : x = y → A) (hB : x ≠ y → B) : splitB (x == y) A B := by
  by_cases h : x = y
  · rw [show (x == y) = true from beq_iff_eq.2 h]; exact hA h
  · rw [show (x == y) = false from beq_eq_false_iff_ne.2 h]; exact hB h
theorem split_not {b : Bool} (h : splitB b B A) : splitB (!b) A B := by cases b <;> exact h
theorem split_t (h : A) : splitB true A B := h
theorem split_f (h : B) : splitB false A B := h
end tests
theorem wrap_in {n : Int} (h0 : -9223372036854775808 ≤ n) (h1 : n ≤ 9223372036854775807) : IntKind.wrap .i64 n = n := by
  rcases Int.le_total 0 n with h | h
  · exact wrap_nat h h1
  · rcases (show n = 0 ∨ n < 0 by omega) with h2 | h2
    · subst h2; rfl
    have e : n % (2 ^ 64 : Int) = n + 2 ^ 64 := by omega
    simp only [IntKind.wrap, IntKind.signed, IntKind.bits, e, Bool.true_and]
    rw [if_pos (by simp only [decide_eq_true_eq]; omega)]
    omega
theorem add_add (a : Addr) (m n : Nat) : (a.add m).add n = a.add (m + n) := by
  unfold Addr.add
  by_cases h1 : m = 0
  · subst h1; simp
  · by_cases h2 : n = 0
    · subst h2; simp
    · have h3 : m + n ≠ 0 := by omega
      simp only [if_neg h1, if_neg h2, if_neg h3]
      rw [Nat.add_assoc]
theorem add_block (a : Addr) (n : Nat) : (a.add n).block = a.block := by unfold Addr.add; split <;> rfl
theorem add_off (a : Addr) (n : Nat) : (a.add n).off = a.off + n := by
  unfold Addr.add
  split
  · rename_i h; subst h; rfl
  · rfl
theorem add_spot {a : Addr} (n : Nat) (h : a.spot = none) : (a.add n).spot = none := by unfold Addr.add; split; exact h; rfl
def Blk (h : Heap) (b : Nat) (c : List Value) (t : TypeId) : Prop := h[b]? = some (.cells c.toArray t (0, 0))
def Only (h h' : Heap) (b : Nat) : Prop := h'.size = h.size ∧ ∀ i, i ≠ b → h'[i]? = h[i]?
section
variable {h h' : Heap} {b : Nat} {c : List Value} {t : TypeId}
theorem Blk.lt (hb : Blk h b c t) : b < h.size := (Array.getElem?_eq_some_iff.1 hb).1
theorem Blk.cell (hb : Blk h b c t) {a : Addr} {v : Value} (h1 : a.block = b) (h2 : a.spot = none) (h3 : c[a.off]? = some v) : cellH h a = some v := by
  unfold cellH Blk at *
  rw [h1, hb, h2]
  simpa using h3
theorem Blk.cells (hb : Blk h b c t) {a : Addr} (h1 : a.block = b) (h2 : a.spot = none) : ∀ (n i : Nat), a.off + i + n ≤ c.length → cellsH h a i n = some ((c.drop (a.off + i)).take n) := by
  intro n
  induction n with
  | zero => intro i _; simp [cellsH]
  | succ n ih =>
    intro i hle
    have hlt : a.off + i < c.length := by omega
    have h3 : c[(a.add i).off]? = some c[a.off + i] := by rw [add_off]; exact List.getElem?_eq_getElem hlt
    simp only [cellsH, hb.cell (a := a.add i) (by rw [add_block]; exact h1) (add_spot i h2) h3, ih (i + 1) (by omega)]
    rw [List.drop_eq_getElem_cons hlt, List.take_succ_cons]
    rfl
theorem Blk.st (hb : Blk h b c t) {a : Addr} {v : Value} (h1 : a.block = b) (h2 : a.spot = none) (h3 : a.off < c.length) (h4 : oneCell v True) :
    ∃ h', st1 h a v = some h' ∧ Blk h' b (c.set a.off v) t ∧ Only h h' b := by
  have hc : cellH h a = some c[a.off] := hb.cell h1 h2 (List.getElem?_eq_getElem h3)
  have hf : frozenH h a = false := by
    unfold frozenH
    rw [h1, show h[b]? = some (.cells c.toArray t (0, 0)) from hb]
    simp
  refine ⟨setH h a v, ?_, ?_, ?_⟩
  · cases v <;> simp_all [st1, oneCell]
  · unfold Blk setH
    rw [Array.getElem?_modify, if_pos h1.symm.symm, show h[b]? = some (.cells c.toArray t (0, 0)) from hb]
    simp [h2]
  · refine ⟨by simp [setH], fun i hi => ?_⟩
    unfold setH
    rw [Array.getElem?_modify, if_neg (by rw [h1]; exact fun e => hi e.symm)]
theorem Blk.new (h : Heap) (c : Array Value) (t : TypeId) : Blk (h.push (.cells c t)) h.size c.toList t := by
  unfold Blk; simp
theorem Blk.ext (hb : Blk h b c t) (e : Ext h h') : Blk h' b c t := by unfold Blk at *; rw [e.2 b (Blk.lt hb)]; exact hb
theorem Blk.only (hb : Blk h b c t) {b' : Nat} (e : Only h h' b') (hne : b ≠ b') : Blk h' b c t := by unfold Blk at *; rw [e.2 b hne]; exact hb
theorem Ext.push (h : Heap) (o : Obj) : Ext h (h.push o) := ⟨by simp, fun i hi => by rw [Array.getElem?_push, if_neg (by omega)]⟩
theorem Ext.only {h0 : Heap} (e : Ext h0 h) {b : Nat} (o : Only h h' b) (hb : h0.size ≤ b) : Ext h0 h' :=
  ⟨by rw [o.1]; exact e.1, fun i hi => by rw [o.2 i (by omega)]; exact e.2 i hi⟩
theorem Only.refl (h : Heap) (b : Nat) : Only h h b := ⟨rfl, fun _ _ => rfl⟩
theorem Only.trans {h'' : Heap} {b : Nat} (o : Only h h' b) (p : Only h' h'' b) : Only h h'' b := ⟨p.1.trans o.1, fun i hi => (p.2 i hi).trans (o.2 i hi)⟩
end
def Rd {α : Type} (sz : Nat) (E : Heap → α → List Value → Prop) (h : Heap) (A : Option Addr) (l : List α) : Prop :=
  ∀ i (hi : i < l.length), ∃ a cs, A = some a ∧ cellsH h (a.add (i * sz)) 0 sz = some cs ∧ E h l[i] cs
def eInt (k : IntKind) (_ : Heap) (x : Int) (cs : List Value) : Prop := cs = [.int k x]
def eRow {α : Type} (sz : Nat) (E : Heap → α → List Value → Prop) (h : Heap) (l : List α) (cs : List Value) : Prop := ∃ A c, cs = [.slice A l.length c] ∧ l.length ≤ c ∧ Rd sz E h A l
section
variable {α : Type} {sz : Nat} {E : Heap → α → List Value → Prop} {h h' : Heap} {A : Option Addr} {l : List α}
theorem Rd.nil : Rd sz E h A ([] : List α) := fun i hi => by cases hi
end
theorem CallF.of {P : Program} {f : FuncId} {first captured : Array Value} {args : List Value} {h : Heap} {R : Value → Heap → Prop} (l : List Value) (hc : calleeOk P f = true) (hl : first.toList ++ args ++ captured.toList = l) (hr : Run P f l.toArray h R) :
    CallF P (.func (.func f) first captured) args h R := by
  unfold CallF
  simp only [hc, hl]
  exact hr
theorem newH_in {h : Heap} {c : Array Value} {t : TypeId} {K : Heap → Prop} (H : ∀ h', Blk h' h.size c.toList t → Ext h h' → h'.size = h.size + 1 → K h') : newH h (.cells c t) K :=
  H _ (Blk.new _ _ _) (Ext.push _ _) (by simp)
theorem CallF.mono {P : Program} {v : Value} {args : List Value} {h : Heap} {R R' : Value → Heap → Prop} (hh : CallF P v args h R) (hr : ∀ v h, R v h → R' v h) : CallF P v args h R' := by
  unfold CallF at hh ⊢
  split at hh
  · split at hh
    · exact hh.mono hr
    · exact ExtF.mono hh hr
  · exact hh.elim
def idxOf {α : Type} (p : α → Bool) (l : List α) : Int := match l.findIdx? p with | some i => i | none => -1
end Go.Hw

end
section
namespace Go.Hw
open Go Go.RowKit
theorem below_of {W W' : World} (e : Ext W.heap W'.heap) (s : Same W W') : Below W.heap.size W W' := ⟨s.os, s.tape, s.output, e.1, e.2⟩
section
variable {H : Type} {enc : TypeId × Value → H} {P : Program} {W : World}
theorem cells_of {base : Nat} {a : Addr} {n : Nat} {cs : List Value} (hc : W.cells? base a n = some cs) : cellsH W.heap a 0 n = some cs := by
  obtain ⟨_, hlen, hget⟩ := World.cells?_some hc
  have key : ∀ (m i : Nat), i + m = n → cellsH W.heap a i m = some (cs.drop i) := by
    intro m
    induction m with
    | zero =>
      intro i hi
      rw [List.drop_eq_nil_of_le (by omega)]
      rfl
    | succ m ih =>
      intro i hi
      have hlt : i < cs.length := by omega
      have h1 : cellH W.heap (a.add i) = some cs[i] := (hget i (by omega)).trans (List.getElem?_eq_getElem hlt)
      simp only [cellsH, h1, ih (i + 1) (by omega)]
      rw [List.drop_eq_getElem_cons hlt]
  simpa using key n 0 (by omega)
def Tells {α : Type} (enc : TypeId × Value → H) (P : Program) (W : World) (t : TypeId) (E : Heap → α → List Value → Prop) (Q : α → Prop) : Prop :=
  ∀ (fuel : Nat) (cs : List Value) (x : DataW H × List MemPlace), DataW.trod enc P W 0 (fun _ => true) true fuel t cs = some x → (x.1.weights P t).all (· ≤ reachBytes) = true → ∃ a, E W.heap a cs ∧ Q a
theorem tells_int {t : TypeId} {k : IntKind} (hu : P.underlying t = some (.int k)) : Tells enc P W t (eInt k) (fun x => (Lit.int k x).wf = true) := by
  intro fuel cs x h _
  obtain ⟨n, h1, _, h3⟩ := DataW.trod_int hu h
  exact ⟨n, h1, h3⟩
def eBool (_ : Heap) (x : Bool) (cs : List Value) : Prop := cs = [.bool x]
theorem weightsAll_all {e : TypeId} : ∀ (l : List (DataW H)), (DataW.weightsAll P e l).all (· ≤ reachBytes) = true → ∀ d ∈ l, (d.weights P e).all (· ≤ reachBytes) = true := by
  intro l
  induction l with
  | nil => intro _ d hd; cases hd
  | cons x l ih =>
    intro h d hd
    simp only [DataW.weightsAll, List.all_append, Bool.and_eq_true] at h
    rcases List.mem_cons.1 hd with rfl | hd
    · exact h.1
    · exact ih h.2 d hd
theorem list_choose {α : Type} {n : Nat} {p : Nat → α → Prop} (h : ∀ i, i < n → ∃ x, p i x) : ∃ l : List α, l.length = n ∧ ∀ i (hi : i < l.length), p i l[i] := by
  induction n with
  | zero => exact ⟨[], rfl, fun i hi => by cases hi⟩
  | succ n ih =>
    obtain ⟨l, h1, h2⟩ := ih fun i hi => h i (by omega)
    obtain ⟨x, hx⟩ := h n (by omega)
    refine ⟨l ++ [x], by simp [h1], fun i hi => ?_⟩
    rw [List.length_append, List.length_singleton] at hi
    by_cases hin : i < l.length
    · rw [List.getElem_append_left hin]; exact h2 i hin
    · have : i = l.length := by omega
      subst this
      rw [List.getElem_append_right (Nat.le_refl _)]
      simp only [Nat.sub_self, List.getElem_cons_zero]
      rw [h1]; exact hx
theorem tells_slice {α : Type} {t e : TypeId} {sz B : Nat} {E : Heap → α → List Value → Prop} {Q : α → Prop} (hu : P.underlying t = some (.slice e)) (hc : P.cellsOf e = sz) (hB : P.bytesOf e = B) (he : Tells enc P W e E Q) :
    Tells enc P W t (eRow sz E) (fun l => l.length * B ≤ reachBytes ∧ ∀ a ∈ l, Q a) := by
  intro fuel cs x h hw
  rcases DataW.trod_slice hu h with ⟨h1, h2⟩ | ⟨a, len, cap, elems, rest, n, _, h1, h2, _, hl, hm, hlen, hel, _, _⟩
  · exact ⟨[], ⟨none, 0, h1, Nat.le_refl _, Rd.nil⟩, by simp, fun a ha => by cases ha⟩
  · rw [h2] at hw
    simp only [DataW.weights, hu, List.all_cons, List.all_append, Bool.and_eq_true, decide_eq_true_eq] at hw
    obtain ⟨hw1, hw2, _⟩ := hw
    have hall := weightsAll_all _ hw2
    obtain ⟨l, h3, h4⟩ := list_choose (n := len) (p := fun i x => (∃ cs', cellsH W.heap (a.add (i * sz)) 0 sz = some cs' ∧ E W.heap x cs') ∧ Q x) (fun i hi => by
      have h5 := hel i hi
      have hlt : i < elems.length := by omega
      rw [List.getElem?_eq_getElem hlt] at h5
      obtain ⟨cs', h6, h7⟩ := Option.bind_eq_some_iff.1 h5
      obtain ⟨x, h8, h9⟩ := he _ _ _ h7 (hall _ (List.mem_map.2 ⟨_, List.getElem_mem hlt, rfl⟩))
      rw [hc] at h6
      exact ⟨x, ⟨cs', cells_of h6, h8⟩, h9⟩)
    refine ⟨l, ⟨some a, cap, by rw [h1, h3], by omega, fun i hi => ?_⟩, ?_, fun x hx => ?_⟩
    · obtain ⟨⟨cs', h5, h6⟩, _⟩ := h4 i hi
      exact ⟨a, cs', rfl, h5, h6⟩
    · rw [hB] at hw1
      have : l.length ≤ (List.map (·.1) elems).length + (List.map (·.1) rest).length := by simp; omega
      exact Nat.le_trans (Nat.mul_le_mul_right _ this) hw1
    · obtain ⟨i, hi, rfl⟩ := List.getElem_of_mem hx
      exact (h4 i hi).2
end
theorem wf_i64 {x : Int} (h : (Lit.int .i64 x).wf = true) : -9223372036854775808 ≤ x ∧ x ≤ 9223372036854775807 := by
  simpa [Lit.wf, IntKind.min, IntKind.max, IntKind.signed, IntKind.bits] using h
end Go.Hw

end
section
namespace Go.Hw
open Go
def Flat (v : Value) : Prop := oneCell v True
theorem Blk.stH {b : Nat} {t : TypeId} : ∀ (xs : List Value) {h : Heap} {p q r : List Value} {a : Addr} {i : Nat}, Blk h b (p ++ q ++ r) t → a.block = b → a.spot = none → a.off + i = p.length → q.length = xs.length → (∀ v ∈ xs, Flat v) →
    ∃ h', stH h a xs i = some h' ∧ Blk h' b (p ++ xs ++ r) t ∧ Only h h' b := by
  intro xs
  induction xs with
  | nil =>
    intro h p q r a i hb h1 h2 h3 h4 h5
    rw [List.length_eq_zero_iff.1 h4] at hb
    exact ⟨h, rfl, hb, .refl _ _⟩
  | cons v xs ih =>
    intro h p q r a i hb h1 h2 h3 h4 h5
    obtain ⟨u, q', rfl⟩ : ∃ u q', q = u :: q' := by cases q with | nil => cases h4 | cons u q' => exact ⟨u, q', rfl⟩
    have hoff : (a.add i).off = p.length := by rw [add_off, h3]
    obtain ⟨h', s1, b1, o1⟩ := hb.st (a := a.add i) (v := v) (by rw [add_block, h1]) (add_spot _ h2) (by rw [hoff]; simp) (h5 v (List.mem_cons_self ..))
    rw [hoff] at b1
    have e : (p ++ u :: q' ++ r).set p.length v = (p ++ [v]) ++ q' ++ r := by
      rw [List.append_assoc, List.set_append_right _ _ (Nat.le_refl _)]; simp
    rw [e] at b1
    obtain ⟨h'', s2, b2, o2⟩ := ih (p := p ++ [v]) (q := q') (r := r) (a := a) (i := i + 1) b1 h1 h2 (by simp; omega) (by simpa using h4) (fun x hx => h5 x (List.mem_cons_of_mem _ hx))
    refine ⟨h'', ?_, by simpa using b2, o1.trans o2⟩
    simp only [Go.Hw.stH, s1, s2]
theorem zcells_size (z : Array Value) (n : Nat) : (zcells z n).size = n * z.size := by
  unfold zcells Builtin.zeroCells
  simp
end Go.Hw

end
section
namespace Go.Hw
open Go Go.RowKit
theorem cellsH_get {h : Heap} {a : Addr} : ∀ {n i : Nat} {cs : List Value} {k : Nat} {v : Value}, cellsH h a i n = some cs → cs[k]? = some v → cellH h (a.add (i + k)) = some v := by
  intro n
  induction n with
  | zero => intro i cs k v hc hv; simp only [cellsH, Option.some.injEq] at hc; subst hc; cases hv
  | succ n ih =>
    intro i cs k v hc hv
    simp only [cellsH] at hc
    split at hc
    · rename_i u hu
      split at hc
      · rename_i vs hvs
        cases hc
        cases k with
        | zero => cases hv; exact hu
        | succ k => rw [show i + (k + 1) = i + 1 + k by omega]; exact ih hvs (by simpa using hv)
      · cases hc
    · cases hc
section
variable {α : Type} {sz : Nat} {E : Heap → α → List Value → Prop} {h h' : Heap} {A : Option Addr} {l : List α}
theorem cellsH_append {h : Heap} {a : Addr} : ∀ {m i n : Nat} {cs ds : List Value}, cellsH h a i m = some cs → cellsH h a (i + m) n = some ds → cellsH h a i (m + n) = some (cs ++ ds) := by
  intro m
  induction m with
  | zero => intro i n cs ds h1 h2; simp only [cellsH, Option.some.injEq] at h1; subst h1; simpa using h2
  | succ m ih =>
    intro i n cs ds h1 h2
    simp only [cellsH] at h1
    split at h1
    · rename_i u hu
      split at h1
      · rename_i vs hvs
        cases h1
        rw [show m + 1 + n = (m + n) + 1 by omega]
        have h3 := ih hvs (n := n) (ds := ds) (by rw [show i + 1 + m = i + (m + 1) by omega]; exact h2)
        simp only [cellsH, hu, h3, List.cons_append]
      · cases h1
    · cases h1
theorem cellsH_shift {h : Heap} {a : Addr} {j : Nat} : ∀ {n i : Nat}, cellsH h (a.add j) i n = cellsH h a (j + i) n := by
  intro n
  induction n with
  | zero => intro i; rfl
  | succ n ih =>
    intro i
    simp only [cellsH, add_add]
    rw [ih, Nat.add_assoc]
end
theorem Blk.stAll {h : Heap} {b : Nat} {c : List Value} {t : TypeId} (hb : Blk h b c t) (l : List Value) (hn : l.length = c.length) (hf : ∀ v ∈ l, Flat v) :
    ∃ h', Go.Hw.stH h ⟨b, 0, none⟩ l 0 = some h' ∧ Blk h' b l t ∧ Only h h' b := by
  obtain ⟨h', s1, b1, o1⟩ := Blk.stH l (p := []) (q := c) (r := []) (a := ⟨b, 0, none⟩) (i := 0) (by simpa using hb) rfl rfl rfl hn.symm hf
  exact ⟨h', s1, by simpa using b1, o1⟩
def EqF (P : Program) (d : Nat) (t : TypeId) (x y : Value) (b : Bool) : Prop := ∀ h (K : Bool → Heap → Prop), K b h → Hwp P (Op.equalIn d t x y) h K
section
variable {P : Program} {d : Nat} {t : TypeId}
theorem eqf_int {k k1 : IntKind} {a b : Int} (hu : P.underlying t = some (.int k1)) : EqF P (d + 1) t (.int k a) (.int k b) (a == b) := by
  intro h K hk
  unfold Op.equalIn
  refine hwp_bind (hwp_underlying hu ?_)
  simp only [if_true]
  exact hk
theorem eqf_bool {a b : Bool} (hu : P.underlying t = some .bool) : EqF P (d + 1) t (.bool a) (.bool b) (a == b) := by
  intro h K hk
  unfold Op.equalIn
  refine hwp_bind (hwp_underlying hu ?_)
  exact hk
theorem eqf_str {a b : ByteArray} (hu : P.underlying t = some .string) : EqF P (d + 1) t (.string a) (.string b) (a == b) := by
  intro h K hk
  unfold Op.equalIn
  refine hwp_bind (hwp_underlying hu ?_)
  exact hk
theorem hwp_part_flat {cs : Array Value} {off : Nat} {v : Value} {h : Heap} {D : TypeDesc} {K : Value → Heap → Prop} (hu : P.underlying t = some D) (hd : isAggD D = false) (hv : cs[off]? = some v) (hk : K v h) : Hwp P (part t cs off) h K := by
  unfold part
  refine hwp_bind (hwp_isAgg hu ?_)
  rw [hd]
  simp only [Bool.false_eq_true, if_false, hv]
  exact hk
def flatB (P : Program) (t : TypeId) (x y : Value) : Option Bool :=
  match P.underlying t, x, y with
  | some (.int _), .int k a, .int k' b => match kindB k k' with | true => some (a == b) | false => none
  | some .bool, .bool a, .bool b => some (a == b)
  | some .string, .string a, .string b => some (a == b)
  | _, _, _ => none
def flatsB (P : Program) (xs ys : Array Value) : List Field → Option Bool
  | [] => some true
  | f :: fs => match decide (f.name ≠ "_") with
    | false => flatsB P xs ys fs
    | true => match xs[f.offset]?, ys[f.offset]? with
      | some x, some y => match flatB P f.type x y with
        | some b => match flatsB P xs ys fs with
          | some c => some (b && c)
          | none => none
        | none => none
      | _, _ => none
def arrB (P : Program) (e : TypeId) (s : Nat) (xs ys : Array Value) : List Nat → Option Bool
  | [] => some true
  | i :: r => match xs[i * s]?, ys[i * s]? with
    | some x, some y => match flatB P e x y with
      | some b => match arrB P e s xs ys r with
        | some c => some (b && c)
        | none => none
      | none => none
    | _, _ => none
def aggB (P : Program) (t : TypeId) (xs ys : Array Value) : Option Bool :=
  match P.eqGuardType P.depth t, P.stoodInHeld t, P.underlying t with
  | false, false, some (.struct fs) => flatsB P xs ys fs.toList
  | false, _, some (.array n e) => match P.info? e with | some i => arrB P e i.size xs ys (List.range' 0 n) | none => none
  | _, _, _ => none
theorem flatB_spec {x y : Value} {b : Bool} (hb : flatB P t x y = some b) : EqF P (d + 1) t x y b ∧ ∃ D, P.underlying t = some D ∧ isAggD D = false := by
  unfold flatB at hb
  split at hb
  · rename_i k1 k a k' b' hu
    split at hb
    · rename_i hk
      cases hb
      have : k = k' := kindB_spec hk
      subst this
      exact ⟨eqf_int hu, _, hu, rfl⟩
    · cases hb
  · rename_i a b' hu; cases hb; exact ⟨eqf_bool hu, _, hu, rfl⟩
  · rename_i a b' hu; cases hb; exact ⟨eqf_str hu, _, hu, rfl⟩
  · cases hb
theorem eqf_struct {fs : Array Field} {xs ys : Array Value} {b : Bool} (hu : P.underlying t = some (.struct fs)) (hp : P.stoodInHeld t = false) (hb : flatsB P xs ys fs.toList = some b) : EqF P (d + 2) t (.agg xs) (.agg ys) b := by
  intro h K hk
  unfold Op.equalIn
  refine hwp_bind (hwp_underlying hu ?_)
  refine hwp_bind (hwp_program ?_)
  rw [hp]
  simp only [Bool.false_eq_true, if_false]
  rw [← Array.forIn_toList]
  clear hu
  generalize fs.toList = l at *
  refine hwp_bind ?_
  induction l generalizing b with
  | nil => cases hb; exact hk
  | cons f l ih =>
    rw [List.forIn_cons]
    unfold flatsB at hb
    by_cases hn : f.name ≠ "_"
    · rw [decide_eq_true hn] at hb
      rw [if_pos hn]
      simp only at hb
      split at hb
      · rename_i x y hx hy
        split at hb
        · rename_i b1 h1
          split at hb
          · rename_i c hc
            cases hb
            obtain ⟨he, D, hD, hDa⟩ := flatB_spec (d := d) h1
            refine hwp_bind (hwp_bind (hwp_part_flat hD hDa hx (hwp_bind (hwp_part_flat hD hDa hy (hwp_bind (he _ _ ?_))))))
            cases b1 with
            | false => exact hk
            | true => exact ih hk hc
          · cases hb
        · cases hb
      · cases hb
    · rw [decide_eq_false hn] at hb
      rw [if_neg hn]
      exact hwp_bind (hwp_pure (P := P) (ih hk hb))
theorem eqf_array {n : Nat} {e : TypeId} {i : TypeInfo} {xs ys : Array Value} {b : Bool} (hu : P.underlying t = some (.array n e)) (hi : P.info? e = some i) (hb : arrB P e i.size xs ys (List.range' 0 n) = some b) : EqF P (d + 2) t (.agg xs) (.agg ys) b := by
  intro h K hk
  unfold Op.equalIn
  refine hwp_bind (hwp_underlying hu ?_)
  refine hwp_bind (hwp_sizeOf hi ?_)
  simp only [Std.Legacy.Range.forIn_eq_forIn_range', Std.Legacy.Range.size, Nat.sub_zero, Nat.add_sub_cancel, Nat.div_one]
  clear hu
  generalize List.range' 0 n = l at *
  refine hwp_bind ?_
  induction l generalizing b with
  | nil => cases hb; exact hk
  | cons f l ih =>
    rw [List.forIn_cons]
    unfold arrB at hb
    split at hb
    · rename_i x y hx hy
      split at hb
      · rename_i b1 h1
        split at hb
        · rename_i c hc
          cases hb
          obtain ⟨he, D, hD, hDa⟩ := flatB_spec (d := d) h1
          refine hwp_bind (hwp_bind (hwp_part_flat hD hDa hx (hwp_bind (hwp_part_flat hD hDa hy (hwp_bind (he _ _ ?_))))))
          cases b1 with
          | false => exact hk
          | true => exact ih hk hc
        · cases hb
      · cases hb
    · cases hb
theorem equal_agg {xs ys : Array Value} {b : Bool} {h : Heap} {K : Bool → Heap → Prop} (hb : aggB P t xs ys = some b) (hk : K b h) : Hwp P (Op.equal t (.agg xs) (.agg ys)) h K := by
  unfold aggB at hb
  split at hb
  · rename_i fs h1 h2 hu
    exact eqf_struct (d := 9998) hu h2 hb h K hk
  · rename_i n e h1 hu
    split at hb
    · rename_i i hi
      exact eqf_array (d := 9998) hu hi hb h K hk
    · cases hb
  · cases hb
theorem guard_agg {xs ys : Array Value} {b : Bool} {h : Heap} {op : BinOp} {xo yo : Operand} {K : Unit → Heap → Prop} (hb : aggB P t xs ys = some b) (hk : K () h) : Hwp P (eqGuard op t xo yo (.agg xs) (.agg ys)) h K := by
  have h1 : P.eqGuardType P.depth t = false := by
    unfold aggB at hb
    split at hb
    · assumption
    · assumption
    · cases hb
  cases op <;> first | exact hk | (unfold eqGuard; refine hwp_bind (hwp_program (hwp_bind (hwp_program ?_))); rw [h1]; exact hk)
theorem gen_neq {xs ys : Array Value} {b : Bool} {h : Heap} {xo yo : Operand} {K : Value → Heap → Prop} (hb : aggB P t xs ys = some b) (hk : K (.bool (!b)) h) :
    Gen P (do eqGuard .neq t xo yo (.agg xs) (.agg ys); binOp .neq t (.agg xs) (.agg ys)) h K := hwp_bind (guard_agg hb (hwp_bind (equal_agg hb hk)))
end
section
variable {H : Type} {enc : TypeId × Value → H} {P : Program} {W : World}
def TellsF {α : Type} (enc : TypeId × Value → H) (P : Program) (W : World) (T o : Nat) (fs : List (TypeId × Nat)) (F : Heap → α → List Value → Prop) (Q : α → Prop) : Prop :=
  ∀ (n : Nat) (cs : List Value) (xs : List (DataW H × List MemPlace)), cs.length = T → xs.length = fs.length → (∀ (i : Nat) (f : TypeId × Nat), fs[i]? = some f → DataW.trod enc P W 0 (fun _ => true) true n f.1 ((cs.drop f.2).take (P.cellsOf f.1)) = xs[i]?) →
    (DataW.weightsEach P (fs.map (·.1)) (xs.map (·.1))).all (· ≤ reachBytes) = true → ∃ b, F W.heap b (cs.drop o) ∧ Q b
def eNil (_ : Heap) (_ : Unit) (cs : List Value) : Prop := cs = []
def eCons {α β : Type} (E : Heap → α → List Value → Prop) (F : Heap → β → List Value → Prop) (h : Heap) (x : α × β) (cs : List Value) : Prop := ∃ c1 c2, cs = c1 ++ c2 ∧ E h x.1 c1 ∧ F h x.2 c2
theorem tf_nil {T : Nat} : TellsF enc P W T T [] eNil (fun _ => True) := fun n cs xs hl _ _ _ => ⟨(), by unfold eNil; rw [List.drop_eq_nil_of_le (by omega)], trivial⟩
theorem tf_cons {α β : Type} {E : Heap → α → List Value → Prop} {F : Heap → β → List Value → Prop} {Q : α → Prop} {Q' : β → Prop} {T o s : Nat} {f : TypeId} {fs : List (TypeId × Nat)} (hs : P.cellsOf f = s)
    (he : Tells enc P W f E Q) (hf : TellsF enc P W T (o + s) fs F Q') : TellsF enc P W T o ((f, o) :: fs) (eCons E F) (fun x => Q x.1 ∧ Q' x.2) := by
  intro n cs xs hl hx hi hw
  cases xs with
  | nil => cases hx
  | cons x xs =>
    have h0 := hi 0 (f, o) rfl
    simp only [hs] at h0
    simp only [List.map_cons, DataW.weightsEach, List.all_append, Bool.and_eq_true] at hw
    obtain ⟨a, ha, qa⟩ := he n _ _ h0 hw.1
    obtain ⟨b, hb, qb⟩ := hf n cs xs hl (by simpa using hx) (fun i g hg => by simpa using hi (i + 1) g hg) hw.2
    exact ⟨(a, b), ⟨_, _, by rw [← List.drop_drop, List.take_append_drop], ha, hb⟩, qa, qb⟩
def shapeOf (P : Program) (t : TypeId) : Option (List (TypeId × Nat)) := match P.underlying t with | some (.struct fs) => some (fs.toList.map fun f => (f.type, f.offset)) | _ => none
theorem tells_struct {α : Type} {F : Heap → α → List Value → Prop} {Q : α → Prop} {t : TypeId} {fs : List (TypeId × Nat)} {T : Nat} (hs : shapeOf P t = some fs) (hc : P.cellsOf t = T) (hf : TellsF enc P W T 0 fs F Q) : Tells enc P W t F Q := by
  intro fuel cs x h hw
  unfold shapeOf at hs
  split at hs
  · rename_i fa hu
    cases hs
    obtain ⟨xs, n, _, rfl, hl, hlen, hi⟩ := DataW.trod_struct hu h
    simp only [DataW.weights, hu] at hw
    obtain ⟨b, hb, qb⟩ := hf n cs xs (by rw [hl, hc]) (by simpa using hlen) (fun i f hif => by
      rw [List.getElem?_map, Option.map_eq_some_iff] at hif
      obtain ⟨g, hg, rfl⟩ := hif
      exact hi i g (by simpa using hg)) (by rw [List.map_map]; exact hw)
    exact ⟨b, by simpa using hb, qb⟩
  · cases hs
theorem tells_map {α β : Type} {E : Heap → α → List Value → Prop} {F : Heap → β → List Value → Prop} {Q : α → Prop} {Q' : β → Prop} {t : TypeId} (he : Tells enc P W t E Q) (hm : ∀ a cs, E W.heap a cs → Q a → ∃ b, F W.heap b cs ∧ Q' b) : Tells enc P W t F Q' :=
  fun fuel cs x h hw => let ⟨a, ha, qa⟩ := he fuel cs x h hw; hm a cs ha qa
theorem okWide_agg_of {t : TypeId} {fs : List (TypeId × Nat)} {v : Value} {r : Reach} {base : Nat} (hs : shapeOf P t = some fs) (h : Value.okWide P W r base t v) : ∃ cs : List Value, v = .agg cs.toArray := by
  unfold shapeOf at hs
  split at hs
  · rename_i fa hu
    simp only [Value.okWide, hu] at h
    cases v <;> simp_all
    rename_i xs
    exact ⟨xs.toList, by simp⟩
  · cases hs
end
end Go.Hw

end
section
namespace Go.Hw
open Go
def Brn (e : List MapEntry) (c : Nat) : Prop := (e.map (·.born)).Pairwise (· < ·) ∧ ∀ x ∈ e, x.born < c
def MapB {α : Type} (kv : α → Value) (h : Heap) (m : Nat) (es : List (α × Value)) : Prop :=
  ∃ (e : Array MapEntry) (clock : Nat), h[m]? = some (.map e clock) ∧ e.toList.map (fun x => (x.key, x.val)) = (es.map fun x => (kv x.1, x.2)) ∧ Brn e.toList clock
theorem Brn.push {e : List MapEntry} {c : Nat} (h : Brn e c) (k v : Value) : Brn (e ++ [{ key := k, val := v, born := c }]) (c + 1) := by
  refine ⟨?_, fun x hx => ?_⟩
  · rw [List.map_append, List.pairwise_append]
    refine ⟨h.1, List.pairwise_singleton .., fun a ha b hb => ?_⟩
    simp only [List.map_cons, List.map_nil, List.mem_singleton] at hb
    obtain ⟨x, hx, rfl⟩ := List.mem_map.1 ha
    rw [hb]; exact h.2 x hx
  · rcases List.mem_append.1 hx with hx | hx
    · have := h.2 x hx; omega
    · rw [List.mem_singleton.1 hx]; exact Nat.lt_succ_self c
theorem Brn.mod {e : List MapEntry} {c : Nat} (h : Brn e c) (i : Nat) (k v : Value) : Brn (e.modify i fun x => { x with key := k, val := v }) c := by
  have hm : (e.modify i fun x => { x with key := k, val := v }).map (·.born) = e.map (·.born) := by
    induction e generalizing i with
    | nil => simp
    | cons x e ih =>
      cases i with
      | zero => simp
      | succ i =>
        rw [List.modify_succ_cons, List.map_cons, List.map_cons, ih ⟨(List.pairwise_cons.1 h.1).2, fun x hx => h.2 x (List.mem_cons_of_mem _ hx)⟩]
  refine ⟨by rw [hm]; exact h.1, fun x hx => ?_⟩
  have : x.born ∈ (e.modify i fun x => { x with key := k, val := v }).map (·.born) := List.mem_map.2 ⟨x, hx, rfl⟩
  rw [hm] at this
  obtain ⟨y, hy, e1⟩ := List.mem_map.1 this
  rw [← e1]; exact h.2 y hy
section
variable {α : Type} {kv : α → Value} {h h' : Heap} {m : Nat} {es : List (α × Value)}
theorem MapB.lt (hb : MapB kv h m es) : m < h.size := by
  obtain ⟨e, c, h1, _⟩ := hb
  exact (Array.getElem?_eq_some_iff.1 h1).1
variable {P : Program} {t : TypeId}
theorem gen_makeMap {K : Value → Heap → Prop} (hk : ∀ h', MapB kv h' h.size [] → Ext h h' → h'.size = h.size + 1 → K (.map (some h.size)) h') : Gen P (Instr.makeMap t none) h K :=
  hk _ ⟨#[], 0, by simp, rfl, .nil, fun x hx => by cases hx⟩ (Ext.push _ _) (by simp)
theorem hwp_getObj {r : Nat} {o : Obj} {K : Obj → Heap → Prop} (h1 : h[r]? = some o) (h2 : ∀ c e f, o ≠ .cells c e f) (hk : K o h) : Hwp P (getObj r) h K := ⟨o, h1, h2, hk⟩
theorem hwp_setObj {r : Nat} {o o' : Obj} {K : Unit → Heap → Prop} (h1 : h[r]? = some o') (h2 : ∀ c e f, o' ≠ .cells c e f) (hk : K () (h.setIfInBounds r o)) : Hwp P (setObj r o) h K := ⟨o', h1, h2, hk⟩
def mget {α : Type} [DecidableEq α] (es : List (α × Value)) (k : α) : Option Value := (es.find? fun x => decide (k = x.1)).map (·.2)
def findAt {α : Type} [DecidableEq α] (k : α) : List (α × Value) → Nat → Option (Nat × Value)
  | [], _ => none
  | x :: es, i => if k = x.1 then some (i, x.2) else findAt k es (i + 1)
structure KeyOk (P : Program) (t : TypeId) {α : Type} [DecidableEq α] (kv : α → Value) (elem : TypeId) : Prop where
  key : ∃ key, P.underlying t = some (.map key elem) ∧ (∀ b v h K, K () h → Hwp P (Instr.checkKey b 10000 key (kv v)) h K) ∧
    ∀ (k : α) (l : List MapEntry) (es : List (α × Value)) (h : Heap) (K : Option (Nat × Value) → Heap → Prop), l.map (fun x => (x.key, x.val)) = es.map (fun x => (kv x.1, x.2)) → K (findAt k es 0) h → Hwp P (Instr.findKey key (kv k) l) h K
  same : ∀ a, Instr.sameBits 10000 (kv a) (kv a) = true
variable [DecidableEq α]
theorem findAt_get (k : α) : ∀ (es : List (α × Value)) (i : Nat), (findAt k es i).map (·.2) = mget es k
  | [], _ => rfl
  | x :: es, i => by
    unfold findAt mget
    by_cases h : k = x.1
    · rw [if_pos h, List.find?_cons_of_pos (by simpa using h)]; rfl
    · rw [if_neg h, List.find?_cons_of_neg (by simpa using h)]; exact findAt_get k es (i + 1)
theorem findNow_at {kind : TypeDesc} (hs : ∀ a b, Instr.sameNow kind (kv a) (kv b) = some (decide (a = b))) (k : α) : ∀ (l : List MapEntry) (es : List (α × Value)) (i : Nat), l.map (fun x => (x.key, x.val)) = es.map (fun x => (kv x.1, x.2)) →
    Instr.findNow kind (kv k) l i = some (findAt k es i) := by
  intro l
  induction l with
  | nil =>
    intro es i he
    cases es with
    | nil => rfl
    | cons x es => cases he
  | cons e l ih =>
    intro es i he
    cases es with
    | nil => cases he
    | cons x es =>
      simp only [List.map_cons, List.cons.injEq, Prod.mk.injEq] at he
      obtain ⟨⟨hkey, hval⟩, he⟩ := he
      unfold Instr.findNow findAt
      rw [hkey, hs]
      by_cases hkx : k = x.1
      · rw [decide_eq_true hkx, if_pos hkx, hval]
      · rw [decide_eq_false hkx, if_neg hkx]
        exact ih es (i + 1) he
theorem KeyOk.flat {elem key : TypeId} {kind : TypeDesc} (hu : P.underlying t = some (.map key elem)) (hkind : P.underlying key = some kind) (hck : ∀ b v h K, K () h → Hwp P (Instr.checkKey b 10000 key (kv v)) h K) (hs : ∀ a b, Instr.sameNow kind (kv a) (kv b) = some (decide (a = b))) (same : ∀ a, Instr.sameBits 10000 (kv a) (kv a) = true) : KeyOk P t kv elem where
  key := ⟨key, hu, hck, fun k l es h K he hk => by
    unfold Instr.findKey
    refine hwp_bind (hwp_underlying hkind ?_)
    rw [findNow_at hs k l es 0 he]
    exact hwp_pure (P := P) hk⟩
  same := same
theorem gen_lookup {elem : TypeId} {z : Value} (ok : KeyOk P t kv elem) (hb : MapB kv h m es) (k : α) (hz : zeroOf P elem = some z) {K : Value → Heap → Prop} (hk : K ((mget es k).getD z) h) : Gen P (Instr.lookup t (.map (some m)) (kv k) false) h K := by
  obtain ⟨key, hu, hck, hf⟩ := ok.key
  obtain ⟨e, clock, h1, h2, hB⟩ := hb
  unfold Gen Instr.lookup
  refine hwp_bind (hwp_underlying hu ?_)
  refine hwp_bind (hwp_getObj h1 (fun _ _ _ hh => by cases hh) ?_)
  refine hwp_bind (hwp_pure (P := P) ?_)
  refine hwp_bind (hck _ _ _ _ ?_)
  refine hwp_bind (hf k _ es _ _ h2 ?_)
  have h4 := findAt_get k es 0
  revert h4
  cases findAt k es 0 with
  | none =>
    intro h4
    have : mget es k = none := by rw [← h4]; rfl
    rw [this] at hk
    exact hwp_bind (hwp_zero hz (hwp_pure (P := P) (hwp_pure (P := P) hk)))
  | some iv =>
    intro h4
    have : mget es k = some iv.2 := by rw [← h4]; rfl
    rw [this] at hk
    exact hwp_pure (P := P) (hwp_pure (P := P) hk)
def mset : List (α × Value) → α → Value → List (α × Value)
  | [], k, v => [(k, v)]
  | x :: es, k, v => if k = x.1 then (k, v) :: es else x :: mset es k v
theorem findAt_set (k : α) (v : Value) : ∀ (l : List MapEntry) (es : List (α × Value)) (i : Nat), l.map (fun x => (x.key, x.val)) = es.map (fun x => (kv x.1, x.2)) →
    match findAt k es i with
      | none => mset es k v = es ++ [(k, v)]
      | some (j, _) => i ≤ j ∧ (∃ e, l[j - i]? = some e ∧ e.key = kv k) ∧ (l.modify (j - i) fun e => { e with key := kv k, val := v }).map (fun x => (x.key, x.val)) = (mset es k v).map (fun x => (kv x.1, x.2)) := by
  intro l
  induction l with
  | nil =>
    intro es i he
    cases es with
    | nil => rfl
    | cons x es => cases he
  | cons e l ih =>
    intro es i he
    cases es with
    | nil => cases he
    | cons x es =>
      simp only [List.map_cons, List.cons.injEq, Prod.mk.injEq] at he
      obtain ⟨⟨hkey, hval⟩, he⟩ := he
      unfold findAt
      by_cases hkx : k = x.1
      · rw [if_pos hkx]
        refine ⟨Nat.le_refl _, ⟨e, by simp, by rw [hkey, hkx]⟩, ?_⟩
        unfold mset
        rw [if_pos hkx, Nat.sub_self]
        simp [he]
      · rw [if_neg hkx]
        have h2 := ih es (i + 1) he
        unfold mset
        rw [if_neg hkx]
        revert h2
        cases findAt k es (i + 1) with
        | none => intro h2; simp only at h2 ⊢; rw [h2]; rfl
        | some jv =>
          intro h2
          simp only at h2 ⊢
          obtain ⟨h3, ⟨e', h4, h5⟩, h6⟩ := h2
          have e1 : jv.1 - i = (jv.1 - (i + 1)) + 1 := by omega
          refine ⟨by omega, ⟨e', by rw [e1]; simpa using h4, h5⟩, ?_⟩
          rw [e1, List.modify_succ_cons, List.map_cons, List.map_cons, h6, hkey, hval]
theorem gen_mapUpdate {elem : TypeId} (ok : KeyOk P t kv elem) (hb : MapB kv h m es) (k : α) (v : Value) {K : Unit → Heap → Prop} (hk : ∀ h', MapB kv h' m (mset es k v) → Only h h' m → K () h') : Hwp P (Instr.mapUpdate t (.map (some m)) (kv k) v) h K := by
  have hlt := hb.lt
  obtain ⟨key, hu, hck, hf⟩ := ok.key
  obtain ⟨e, clock, h1, h2, hB⟩ := hb
  have only : ∀ o, Only h (h.setIfInBounds m o) m := fun o => ⟨by simp, fun i hi => by rw [Array.getElem?_setIfInBounds, if_neg (fun hh => hi hh.symm)]⟩
  have at' : ∀ o, (h.setIfInBounds m o)[m]? = some o := fun o => by rw [Array.getElem?_setIfInBounds, if_pos rfl, if_pos hlt]
  unfold Instr.mapUpdate
  refine hwp_bind (hwp_underlying hu ?_)
  refine hwp_bind (hwp_getObj h1 (fun _ _ _ hh => by cases hh) ?_)
  refine hwp_bind (hck _ _ _ _ ?_)
  refine hwp_bind (hf k _ es _ _ h2 ?_)
  have h4 := findAt_set k v e.toList es 0 h2
  revert h4
  cases findAt k es 0 with
  | none =>
    intro h4
    simp only at h4
    refine (hwp_setObj h1 (fun _ _ _ hh => by cases hh) (hk _ ⟨_, _, at' _, ?_, ?_⟩ (only _)))
    · rw [h4, Array.toList_push, List.map_append, List.map_append, h2]; rfl
    · rw [Array.toList_push]; exact hB.push _ _
  | some jv =>
    intro h4
    obtain ⟨j, x⟩ := jv
    simp only at h4
    obtain ⟨_, ⟨e', h5, h6⟩, h7⟩ := h4
    have hkey : ((e[j]?).map (·.key)).getD (kv k) = kv k := by
      have : e[j]? = some e' := by simpa using h5
      rw [this]; exact h6
    show Hwp P (Instr.keyThatStays (((e[j]?).map (·.key)).getD (kv k)) (kv k) >>= _) h K
    rw [hkey]
    refine hwp_bind ?_
    unfold Instr.keyThatStays
    rw [ok.same, if_pos rfl]
    refine hwp_pure (P := P) (hwp_setObj h1 (fun _ _ _ hh => by cases hh) (hk _ ⟨_, _, at' _, ?_, ?_⟩ (only _)))
    · rw [Array.toList_modify]
      exact h7
    · rw [Array.toList_modify]; exact hB.mod _ _ _
end
section
variable {P : Program} {t : TypeId}
theorem keyOk_int {key elem : TypeId} {k : IntKind} (hu : P.underlying t = some (.map key elem)) (hk : P.underlying key = some (.int k)) : KeyOk P t (fun n : Int => Value.int k n) elem :=
  .flat hu hk (fun b v h K hh => by
      unfold Instr.checkKey
      exact hwp_bind (hwp_underlying hk hh)) (fun a b => by
      show (if k = k then some (a == b) else none) = _
      rw [if_pos rfl]
      by_cases h : a = b
      · rw [decide_eq_true h, h]; simp
      · rw [decide_eq_false h]; simp [h]) (fun a => by simp [Instr.sameBits])
end
end Go.Hw

end
section
namespace Go.Hw
open Go
end Go.Hw

end
section
namespace Go.Hw
open Go
end Go.Hw

end
section
namespace Go.Hw
open Go
def dead : Obj := .cells #[] 0 (0, 0)
def Live (m : Heap) (b : Nat) : Prop := ∃ o, m[b]? = some o ∧ o ≠ dead
def Sub (m h : Heap) : Prop := ∀ (b : Nat) (o : Obj), m[b]? = some o → o ≠ dead → h[b]? = some o
abbrev No : Nat → Prop := fun _ => False
section
variable {m m' h h' k h0 m0 : Heap} {b : Nat} {W W' : Nat → Prop}
theorem Sub.refl (h : Heap) : Sub h h := fun _ _ h _ => h
theorem Sub.trans (s : Sub m h) (t : Sub h k) : Sub m k := fun b o h1 h2 => t b o (s b o h1 h2) h2
theorem Sub.lt (s : Sub m h) (l : Live m b) : b < h.size := by
  obtain ⟨o, h1, h2⟩ := l
  exact (Array.getElem?_eq_some_iff.1 (s b o h1 h2)).1
theorem Sub.ext (s : Sub m h) (e : Ext h h') : Sub m h' := fun b o h1 h2 => by rw [e.2 b (s.lt ⟨o, h1, h2⟩)]; exact s b o h1 h2
theorem Sub.cell (s : Sub m h) {a : Addr} {v : Value} (hc : cellH m a = some v) : cellH h a = some v := by
  unfold cellH at hc
  split at hc
  · rename_i c e f hm
    have hne : (Obj.cells c e f) ≠ dead := by
      intro hd
      unfold dead at hd
      cases hd
      split at hc <;> simp at hc
    unfold cellH
    rw [s _ _ hm hne]; exact hc
  · cases hc
theorem Sub.cells (s : Sub m h) {a : Addr} : ∀ (n i : Nat) {vs : List Value}, cellsH m a i n = some vs → cellsH h a i n = some vs := by
  intro n
  induction n with
  | zero => intro i vs hc; exact hc
  | succ n ih =>
    intro i vs hc
    simp only [cellsH] at hc ⊢
    split at hc
    · rename_i v hv
      rw [s.cell hv]
      split at hc
      · rename_i us hu
        rw [ih _ hu]; exact hc
      · cases hc
    · cases hc
theorem Sub.blk (s : Sub m h) {c : List Value} {t : TypeId} (hb : Blk m b c t) (hc : c ≠ []) : Blk h b c t := by
  unfold Blk at *
  refine s _ _ hb ?_
  intro hd
  unfold dead at hd
  cases c with
  | nil => exact hc rfl
  | cons x c => simp at hd
end
structure Tell {α : Type} (sz : Nat) (E : Heap → α → List Value → Prop) : Prop where
  mono : ∀ m h x cs, Sub m h → E m x cs → E h x cs
  len : ∀ h x cs, E h x cs → cs.length = sz
  flat : ∀ h x cs, E h x cs → ∀ v ∈ cs, Flat v
theorem Flats.nil : ∀ v ∈ ([] : List Value), Flat v := fun v hv => by cases hv
theorem Flats.cons {x : Value} {l : List Value} (h : Flat x) (t : ∀ v ∈ l, Flat v) : ∀ v ∈ x :: l, Flat v := fun v hv => by
  rcases List.mem_cons.1 hv with rfl | hv
  · exact h
  · exact t v hv
theorem tell_int (k : IntKind) : Tell 1 (eInt k) := ⟨fun _ _ _ _ _ h => h, fun _ _ _ h => by rw [h]; rfl, fun _ _ _ h => by rw [h]; exact Flats.cons trivial Flats.nil⟩
theorem tell_bool : Tell 1 eBool := ⟨fun _ _ _ _ _ h => h, fun _ _ _ h => by rw [h]; rfl, fun _ _ _ h => by rw [h]; exact Flats.cons trivial Flats.nil⟩
section
variable {α : Type} {sz : Nat} {E : Heap → α → List Value → Prop} {m m' h h' : Heap} {A : Option Addr} {l : List α} {c : Nat}
theorem Rd.sub (r : Rd sz E m A l) (T : Tell sz E) (s : Sub m h) : Rd sz E h A l := fun i hi =>
  let ⟨a, cs, h1, h2, h3⟩ := r i hi
  ⟨a, cs, h1, s.cells _ _ h2, T.mono _ _ _ _ s h3⟩
end
structure St (W : Nat → Prop) (h0 m0 h m : Heap) : Prop where
  up : Sub m0 m
  s : Sub m h
  size : h0.size ≤ h.size
  fr : ∀ b, b < h0.size → ¬ W b → h[b]? = h0[b]?
  lv : ∀ b, b < h0.size → Live m b → Live m0 b ∨ W b
def fb (b0 b : Nat) : Prop := b = b0
def fp (A : Option Addr) (c : Nat) (b : Nat) : Prop := c ≠ 0 ∧ ∃ a, A = some a ∧ a.block = b
def Dj (F G : Nat → Prop) : Prop := ∀ b, F b → G b → False
section
variable {m m' h h' h0 m0 : Heap} {b b' : Nat} {W W' F G G' : Nat → Prop}
theorem Dj.symm (d : Dj F G) : Dj G F := fun b h1 h2 => d b h2 h1
theorem Dj.no : Dj No F := fun _ h _ => h
theorem St.refl (s : Sub m h) : St W h m h m := ⟨.refl _, s, Nat.le_refl _, fun _ _ _ => rfl, fun _ _ h => .inl h⟩
theorem St.of_ext (s : Sub m h) (e : Ext h h') : St W h m h' m := ⟨.refl _, s.ext e, e.1, fun b hb _ => e.2 b hb, fun _ _ h => .inl h⟩
theorem St.ext (S : St No h m h' m') : Ext h h' := ⟨S.size, fun b hb => S.fr b hb (fun h => h)⟩
theorem St.then (S : St W h0 m0 h m) (T : St W' h m h' m') (hw : ∀ b, b < h.size → W' b → h0.size ≤ b ∨ W b) : St W h0 m0 h' m' where
  up := S.up.trans T.up
  s := T.s
  size := Nat.le_trans S.size T.size
  fr b hb hn := by
    rw [T.fr b (by have := S.size; omega) (fun hw' => (hw b (by have := S.size; omega) hw').elim (fun h => by omega) hn)]
    exact S.fr b hb hn
  lv b hb hl := by
    rcases T.lv b (by have := S.size; omega) hl with h1 | h1
    · exact S.lv b hb h1
    · exact .inr ((hw b (by have := S.size; omega) h1).elim (fun h => by omega) id)
theorem St.grow (S : St W h0 m0 h m) (T : St No h m h' m') : St W h0 m0 h' m' := S.then T fun _ _ h => h.elim
theorem St.notLive (s : Sub m h) : ¬ Live m h.size := fun l => by have := s.lt l; omega
theorem St.only (s : Sub m h) (hn : ¬ Live m b) (o : Only h h' b) : St (fb b) h m h' m where
  up := .refl _
  s i x h1 h2 := by
    rw [o.2 i (fun e => hn (e ▸ ⟨x, h1, h2⟩))]; exact s i x h1 h2
  size := by rw [o.1]; exact Nat.le_refl _
  fr i _ hw := o.2 i hw
  lv i _ hl := .inl hl
end
open Classical in
noncomputable def addV (m h : Heap) (F : Nat → Prop) : Heap := Array.ofFn (n := h.size) fun i => if Live m i.1 ∨ F i.1 then h[i.1] else dead
section
variable {m h : Heap} {b : Nat} {F : Nat → Prop}
theorem addV_get (hb : b < h.size) (hl : Live m b ∨ F b) : (addV m h F)[b]? = h[b]? := by
  unfold addV
  rw [Array.getElem?_ofFn, dif_pos hb, if_pos hl, Array.getElem?_eq_getElem hb]
theorem addV_live (hl : Live (addV m h F) b) : (Live m b ∨ F b) ∧ b < h.size := by
  obtain ⟨o, h1, h2⟩ := hl
  unfold addV at h1
  rw [Array.getElem?_ofFn] at h1
  split at h1
  · rename_i hb
    refine ⟨?_, hb⟩
    by_cases hc : Live m b ∨ F b
    · exact hc
    · rw [if_neg hc] at h1; cases h1; exact (h2 rfl).elim
  · cases h1
theorem addV_sub : Sub (addV m h F) h := fun b o h1 h2 => by
  have := addV_live ⟨o, h1, h2⟩
  rw [← addV_get this.2 this.1]; exact h1
theorem addV_up (s : Sub m h) : Sub m (addV m h F) := fun b o h1 h2 => by
  rw [addV_get (s.lt ⟨o, h1, h2⟩) (.inl ⟨o, h1, h2⟩)]; exact s b o h1 h2
theorem St.settle (s : Sub m h) (F : Nat → Prop) : St F h m h (addV m h F) := ⟨addV_up s, addV_sub, Nat.le_refl _, fun _ _ _ => rfl, fun _ _ hl => (addV_live hl).1⟩
theorem Blk.settle {c : List Value} {t : TypeId} (hb : Blk h b c t) (hF : F b) : Blk (addV m h F) b c t := by
  unfold Blk at *
  rw [addV_get (Blk.lt hb) (.inr hF)]; exact hb
end
section
variable {α : Type} {sz : Nat} {E : Heap → α → List Value → Prop} {m m' h h' h0 m0 : Heap} {A : Option Addr} {l l' : List α} {c : Nat} {cs ds : List Value} {x y : α} {W W' : Nat → Prop}
def CsE (sz : Nat) (E : Heap → α → List Value → Prop) (m : Heap) : List α → List Value → Prop
  | [], cs => cs = []
  | x :: l, cs => ∃ c1 c2, cs = c1 ++ c2 ∧ c1.length = sz ∧ E m x c1 ∧ CsE sz E m l c2
theorem CsE.nil : CsE sz E m ([] : List α) [] := rfl
theorem CsE.cons {c1 : List Value} (h1 : E m x c1) (h2 : c1.length = sz) (h : CsE sz E m l cs) : CsE sz E m (x :: l) (c1 ++ cs) := ⟨c1, cs, rfl, h2, h1, h⟩
theorem CsE.len : ∀ {l : List α} {cs : List Value}, CsE sz E m l cs → cs.length = l.length * sz := by
  intro l
  induction l with
  | nil => intro cs h; rw [show cs = [] from h]; simp
  | cons x l ih => rintro cs ⟨c1, c2, rfl, h1, h2, h3⟩; rw [List.length_append, ih h3, h1, List.length_cons, Nat.succ_mul, Nat.add_comm]
theorem CsE.append : ∀ {l l' : List α} {cs ds : List Value}, CsE sz E m l cs → CsE sz E m l' ds → CsE sz E m (l ++ l') (cs ++ ds) := by
  intro l
  induction l with
  | nil => intro l' cs ds h h'; rw [show cs = [] from h]; exact h'
  | cons x l ih => rintro l' cs ds ⟨c1, c2, rfl, h1, h2, h3⟩ h'; rw [List.append_assoc]; exact ⟨c1, c2 ++ ds, rfl, h1, h2, ih h3 h'⟩
theorem CsE.flat (T : Tell sz E) : ∀ {l : List α} {cs : List Value}, CsE sz E m l cs → ∀ v ∈ cs, Flat v := by
  intro l
  induction l with
  | nil => intro cs h; rw [show cs = [] from h]; exact Flats.nil
  | cons x l ih =>
    rintro cs ⟨c1, c2, rfl, h1, h2, h3⟩ v hv
    rcases List.mem_append.1 hv with hv | hv
    · exact T.flat _ _ _ h2 v hv
    · exact ih h3 v hv
theorem CsE.get : ∀ {l : List α} {cs : List Value} {i : Nat}, CsE sz E m l cs → l[i]? = some y → E m y ((cs.drop (i * sz)).take sz) ∧ i * sz + sz ≤ cs.length := by
  intro l
  induction l with
  | nil => intro cs i h h'; cases h'
  | cons x l ih =>
    rintro cs i ⟨c1, c2, rfl, h1, h2, h3⟩ hy
    cases i with
    | zero =>
      cases hy
      simp only [Nat.zero_mul, List.drop_zero]
      rw [← h1, List.take_left]
      exact ⟨h2, by simp⟩
    | succ i =>
      have := ih (i := i) h3 (by simpa using hy)
      rw [show (i + 1) * sz = c1.length + i * sz by rw [h1, Nat.succ_mul, Nat.add_comm], ← List.drop_drop, List.drop_left, List.length_append]
      exact ⟨this.1, by omega⟩
theorem CsE.drop : ∀ {l : List α} {cs : List Value} (k : Nat), CsE sz E m l cs → CsE sz E m (l.drop k) (cs.drop (k * sz)) := by
  intro l
  induction l with
  | nil => intro cs k h; rw [show cs = [] from h]; simp [CsE]
  | cons x l ih =>
    rintro cs k ⟨c1, c2, rfl, h1, h2, h3⟩
    cases k with
    | zero => rw [Nat.zero_mul, List.drop_zero, List.drop_zero]; exact ⟨c1, c2, rfl, h1, h2, h3⟩
    | succ k =>
      rw [show (k + 1) * sz = c1.length + k * sz by rw [h1, Nat.succ_mul, Nat.add_comm], ← List.drop_drop (l := c1 ++ c2), List.drop_left, List.drop_succ_cons]
      exact ih k h3
theorem CsE.take : ∀ {l : List α} {cs : List Value} (k : Nat), CsE sz E m l cs → CsE sz E m (l.take k) (cs.take (k * sz)) := by
  intro l
  induction l with
  | nil => intro cs k h; rw [show cs = [] from h]; simp [CsE]
  | cons x l ih =>
    rintro cs k ⟨c1, c2, rfl, h1, h2, h3⟩
    cases k with
    | zero => simp [CsE]
    | succ k =>
      rw [show (k + 1) * sz = c1.length + k * sz by rw [h1, Nat.succ_mul, Nat.add_comm], List.take_length_add_append, List.take_succ_cons]
      exact ⟨c1, _, rfl, h1, h2, ih k h3⟩
theorem Rd.tail (r : Rd sz E m A (x :: l)) : ∀ a, A = some a → Rd sz E m (some (a.add sz)) l := by
  intro a ha i hi
  obtain ⟨a', cs, h1, h2, h3⟩ := r (i + 1) (by simpa using hi)
  rw [ha] at h1; cases h1
  refine ⟨_, cs, rfl, ?_, h3⟩
  rw [add_add, show sz + i * sz = (i + 1) * sz by rw [Nat.succ_mul, Nat.add_comm]]; exact h2
theorem Rd.cse (T : Tell sz E) : ∀ {l : List α} {a : Addr}, Rd sz E m (some a) l → ∃ cs, cellsH m a 0 (l.length * sz) = some cs ∧ CsE sz E m l cs := by
  intro l
  induction l with
  | nil => intro a r; exact ⟨[], by simp [cellsH], rfl⟩
  | cons x l ih =>
    intro a r
    obtain ⟨cs, h1, h2⟩ := ih (r.tail a rfl)
    obtain ⟨a', c1, h3, h4, h5⟩ := r 0 (by simp)
    cases h3
    rw [Nat.zero_mul, show a.add 0 = a from rfl] at h4
    refine ⟨c1 ++ cs, ?_, c1, cs, rfl, T.len _ _ _ h5, h5, h2⟩
    rw [List.length_cons, Nat.succ_mul, Nat.add_comm]
    refine cellsH_append h4 ?_
    rw [cellsH_shift] at h1
    simpa using h1
theorem CsE.rd {b : Nat} {t : TypeId} {pre rest : List Value} (hb : Blk h b (pre ++ cs ++ rest) t) (hc : CsE sz E m l cs) (hm : ∀ x cs, E m x cs → E h x cs) : Rd sz E h (some ⟨b, pre.length, none⟩) l := by
  intro i hi
  have hg := hc.get (List.getElem?_eq_getElem hi)
  refine ⟨_, _, rfl, ?_, hm _ _ hg.1⟩
  have := hb.cells (a := (⟨b, pre.length, none⟩ : Addr).add (i * sz)) (by rw [add_block]) (add_spot _ rfl) sz 0 (by rw [add_off, List.length_append, List.length_append]; simp only [Nat.add_zero]; omega)
  rw [this, add_off]
  simp only [Nat.add_zero]
  rw [List.append_assoc, ← List.drop_drop, List.drop_left, List.drop_append_of_le_length (by omega), List.take_append_of_le_length (by rw [List.length_drop]; omega)]
def OS (W : Nat → Prop) (h0 : Heap) (sz : Nat) (E : Heap → α → List Value → Prop) (h m : Heap) (A : Option Addr) (l : List α) (c : Nat) : Prop :=
  (l = [] ∧ c = 0) ∨ ∃ b t pre cs rest, A = some ⟨b, pre.length, none⟩ ∧ Blk h b (pre ++ cs ++ rest) t ∧ CsE sz E m l cs ∧ l.length ≤ c ∧ (c - l.length) * sz ≤ rest.length ∧ (h0.size ≤ b ∨ W b) ∧ ¬ Live m b
theorem OS.cap (o : OS W h0 sz E h m A l c) : l.length ≤ c := by
  rcases o with ⟨rfl, rfl⟩ | ⟨b, t, pre, cs, rest, h1, h2, h3, h4, h5, h6, h7⟩
  · exact Nat.le_refl _
  · exact h4
theorem OS.wr (o : OS W h0 sz E h m A l c) : ∀ b, fp A c b → h0.size ≤ b ∨ W b := by
  rintro b ⟨hc, a, ha, rfl⟩
  rcases o with ⟨rfl, rfl⟩ | ⟨b, t, pre, cs, rest, h1, h2, h3, h4, h5, h6, h7⟩
  · exact (hc rfl).elim
  · rw [h1] at ha; cases ha; exact h6
def OB (W : Nat → Prop) (h0 h m : Heap) (b : Nat) (cs : List Value) (t : TypeId) : Prop := Blk h b cs t ∧ (h0.size ≤ b ∨ W b) ∧ ¬ Live m b
variable {b : Nat} {t : TypeId}
theorem OB.all (o : OB W h0 h m b cs t) : cellsH h ⟨b, 0, none⟩ 0 cs.length = some cs := by
  have := o.1.cells (a := ⟨b, 0, none⟩) rfl rfl cs.length 0 (by simp)
  simpa using this
theorem Blk.all' (o : Blk m b cs t) : cellsH m ⟨b, 0, none⟩ 0 cs.length = some cs := by
  have := o.cells (a := ⟨b, 0, none⟩) rfl rfl cs.length 0 (by simp)
  simpa using this
def VB (E : Heap → α → List Value → Prop) (m : Heap) (b : Nat) (x : α) : Prop := ∃ cs t, Blk m b cs t ∧ cs ≠ [] ∧ E m x cs
theorem VB.sub (v : VB E m b x) (T : Tell sz E) (s : Sub m h) : VB E h b x := let ⟨cs, t, h1, h2, h3⟩ := v; ⟨cs, t, s.blk h1 h2, h2, T.mono _ _ _ _ s h3⟩
end
end Go.Hw

end
section
namespace Go.Hw
def LeO {β : Type} (a b : Option β) : Prop := ∀ r, a = some r → b = some r
theorem LeO.refl {β : Type} (a : Option β) : LeO a a := fun _ h => h
theorem LeO.bind {β γ : Type} {a b : Option β} {f g : β → Option γ} (h : LeO a b) (k : ∀ x, LeO (f x) (g x)) : LeO (a.bind f) (b.bind g) := by
  intro r hr
  cases a with
  | none => cases hr
  | some x => rw [h x rfl]; exact k x r hr
theorem LeO.ite {β : Type} {p : Prop} [Decidable p] {a b a' b' : Option β} (h : LeO a a') (k : LeO b b') : LeO (if p then a else b) (if p then a' else b') := by
  by_cases c : p
  · rw [if_pos c, if_pos c]; exact h
  · rw [if_neg c, if_neg c]; exact k
section
variable {α : Type} {β : α → Type} {F : ((x : α) → Option (β x)) → (x : α) → Option (β x)}
def MonoF (F : ((x : α) → Option (β x)) → (x : α) → Option (β x)) : Prop := ∀ f g, (∀ x, LeO (f x) (g x)) → ∀ x, LeO (F f x) (F g x)
def FixR (F : ((x : α) → Option (β x)) → (x : α) → Option (β x)) (x : α) (r : β x) : Prop :=
  ∀ I : (x : α) → β x → Prop, (∀ f, (∀ x r, f x = some r → I x r) → ∀ x r, F f x = some r → I x r) → I x r
theorem FixR.close {f : (x : α) → Option (β x)} (hf : ∀ x r, f x = some r → FixR F x r) {x : α} {r : β x} (h : F f x = some r) : FixR F x r :=
  fun I hI => hI f (fun y s hs => hf y s hs I hI) x r h
theorem FixR.uniq (M : MonoF F) {x : α} {r r' : β x} (h : FixR F x r) (h' : FixR F x r') : r = r' := by
  refine (h (fun x r => FixR F x r ∧ ∀ r', FixR F x r' → r = r') ?_).2 r' h'
  intro f hf x r hr
  refine ⟨FixR.close (fun y s hs => (hf y s hs).1) hr, fun s hs => ?_⟩
  have key := hs (fun y s => FixR F y s ∧ ∀ e : x = y, (e ▸ r) = s) ?_
  · exact key.2 rfl
  intro f' hf' y t ht
  refine ⟨FixR.close (fun z s hs => (hf' z s hs).1) ht, ?_⟩
  rintro rfl
  let g : (x : α) → Option (β x) := fun z => match f z with | some u => some u | none => f' z
  have hfg : ∀ z, LeO (f z) (g z) := fun z u hu => by simp only [g, hu]
  have hfg' : ∀ z, LeO (f' z) (g z) := by
    intro z u hu
    simp only [g]
    cases hz : f z with
    | none => exact hu
    | some w => simp only; rw [(hf z w hz).2 u (hf' z u hu).1]
  have e1 := M f g hfg _ _ hr
  have e2 := M f' g hfg' _ _ ht
  rw [e1] at e2
  exact Option.some.inj e2
open Classical in
noncomputable def fixF (F : ((x : α) → Option (β x)) → (x : α) → Option (β x)) (x : α) : Option (β x) := if h : ∃ r, FixR F x r then some (Classical.choose h) else none
theorem fixF_iff (M : MonoF F) {x : α} {r : β x} : fixF F x = some r ↔ FixR F x r := by
  unfold fixF
  constructor
  · intro h
    split at h
    · rename_i hx; cases h; exact Classical.choose_spec hx
    · cases h
  · intro h
    rw [dif_pos ⟨r, h⟩, FixR.uniq M (Classical.choose_spec (⟨r, h⟩ : ∃ r, FixR F x r)) h]
theorem fixF_eq (M : MonoF F) (x : α) : fixF F x = F (fixF F) x := by
  have h1 : ∀ r, fixF F x = some r → F (fixF F) x = some r := by
    intro r hr
    refine ((fixF_iff M).1 hr (fun x r => FixR F x r ∧ F (fixF F) x = some r) ?_).2
    intro f hf y s hs
    refine ⟨FixR.close (fun z s hs => (hf z s hs).1) hs, ?_⟩
    exact M f (fixF F) (fun z u hu => (fixF_iff M).2 (hf z u hu).1) _ _ hs
  have h2 : ∀ r, F (fixF F) x = some r → fixF F x = some r := fun r hr => (fixF_iff M).2 (FixR.close (fun y s hs => (fixF_iff M).1 hs) hr)
  cases h : fixF F x with
  | some r => exact (h1 r h).symm
  | none =>
    cases k : F (fixF F) x with
    | none => rfl
    | some r => rw [h2 r k] at h; cases h
theorem fixF_ind (M : MonoF F) {I : (x : α) → β x → Prop} (hI : ∀ f, (∀ x r, f x = some r → I x r) → ∀ x r, F f x = some r → I x r) {x : α} {r : β x} (h : fixF F x = some r) : I x r := (fixF_iff M).1 h I hI
end
end Go.Hw

end
section
namespace Go.Hw
open Go
section tests
variable {A B : Prop} {β γ : Type} {a b : Option β} {r : β}
theorem bind_e {a : Option γ} {f : γ → Option β} (e : a.bind f = some r) : ∃ x, a = some x ∧ f x = some r := by
  cases a with
  | none => cases e
  | some x => exact ⟨x, rfl, e⟩
theorem guard_e {p : Prop} [Decidable p] (e : (if p then a else none) = some r) : p ∧ a = some r := by
  by_cases h : p
  · rw [if_pos h] at e; exact ⟨h, e⟩
  · rw [if_neg h] at e; cases e
theorem split_dec_e {p : Prop} [Decidable p] (e : (if p then a else b) = some r) (hA : p → a = some r → A) (hB : ¬ p → b = some r → B) : splitB (decide p) A B := by
  by_cases h : p
  · rw [if_pos h] at e; rw [decide_eq_true h]; exact hA h e
  · rw [if_neg h] at e; rw [decide_eq_false h]; exact hB h e
theorem split_eq_e {x y : Int} (e : (if x = y then a else b) = some r) (hA : x = y → a = some r → A) (hB : x ≠ y → b = some r → B) : splitB (x == y) A B := by
  by_cases h : x = y
  · rw [if_pos h] at e; rw [show (x == y) = true from beq_iff_eq.2 h]; exact hA h e
  · rw [if_neg h] at e; rw [show (x == y) = false from beq_eq_false_iff_ne.2 h]; exact hB h e
theorem split_ne_e {x y : Int} (e : (if x = y then b else a) = some r) (hA : x ≠ y → a = some r → A) (hB : x = y → b = some r → B) : splitB (x != y) A B := by
  by_cases h : x = y
  · rw [if_pos h] at e; rw [show (x != y) = false from bne_eq_false_iff_eq.2 h]; exact hB h e
  · rw [if_neg h] at e; rw [show (x != y) = true from bne_iff_ne.2 h]; exact hA h e
theorem split_any_e {t : Bool} (e : (if t = true then a else b) = some r) (hA : t = true → a = some r → A) (hB : t = false → b = some r → B) : splitB t A B := by
  cases t
  · exact hB rfl e
  · exact hA rfl e
end tests
section
variable {α : Type} {l : List α} {x : Int} {y : α}
def gi (l : List α) (x : Int) : Option α := if 0 ≤ x then l[x.toNat]? else none
theorem gi_nat (l : List α) (k : Nat) : gi l (k : Int) = l[k]? := by unfold gi; rw [if_pos (by omega)]; rfl
theorem gi_le (g : gi l x = some y) : 0 ≤ x := by unfold gi at g; split at g; assumption; cases g
theorem gi_get (g : gi l x = some y) : l[x.toNat]? = some y := by unfold gi at g; split at g; exact g; cases g
theorem gi_lt (g : gi l x = some y) : x < (l.length : Int) := by
  have h1 := gi_get g
  have h2 := gi_le g
  have := (List.getElem?_eq_some_iff.1 h1).1
  omega
def gb (s : ByteArray) (x : Int) : Option Int := if 0 ≤ x then s[x.toNat]?.map fun b => ((UInt8.toNat b : Nat) : Int) else none
def sl (l : List α) (lo hi : Int) : List α := (l.take hi.toNat).drop lo.toNat
theorem sl_len {lo hi : Int} (h1 : 0 ≤ lo) (h2 : lo ≤ hi) (h3 : hi ≤ (l.length : Int)) : Int.toNat hi - Int.toNat lo = (sl l lo hi).length := by
  unfold sl; rw [List.length_drop, List.length_take]; omega
theorem sl_lo {lo : Int} : sl l lo (l.length : Int) = l.drop lo.toNat := by unfold sl; simp
theorem sl_hi {hi : Int} : sl l 0 hi = l.take hi.toNat := by unfold sl; simp
end
section
variable {α : Type} {sz : Nat} {E : Heap → α → List Value → Prop} {m m' h h' h0 m0 : Heap} {A : Option Addr} {l : List α} {c n k : Nat} {cs : List Value} {x : Int} {y : α} {W : Nat → Prop} {a : Addr} {v : Value} {b : Nat} {t : TypeId}
theorem Rd.addr {K : Addr → Prop} (r : Rd sz E m A l) (hn : n = l.length) (g : gi l x = some y) (hk : ∀ a cs, A = some a → cellsH m (a.add (Int.toNat x * sz)) 0 sz = some cs → E m y cs → K a) : ptrOk A fun a => 0 ≤ x ∧ x < ((n : Nat) : Int) ∧ K a := by
  subst hn
  have h1 := gi_get g
  obtain ⟨hi, h2⟩ := List.getElem?_eq_some_iff.1 h1
  obtain ⟨a, cs, rfl, h3, h4⟩ := r _ hi
  rw [h2] at h4
  exact ⟨gi_le g, gi_lt g, hk a cs rfl h3 h4⟩
theorem OS.cellsAt (o : OS W h0 sz E h m A l c) (g : gi l x = some y) : ∃ a cs, A = some a ∧ cellsH h (a.add (Int.toNat x * sz)) 0 sz = some cs ∧ E m y cs := by
  have h1 := gi_get g
  rcases o with ⟨rfl, rfl⟩ | ⟨b, t, pre, cs, rest, rfl, h3, h4, h5, h6, h7⟩
  · cases h1
  have h8 := h4.get h1
  refine ⟨_, _, rfl, ?_, h8.1⟩
  have := h3.cells (a := (⟨b, pre.length, none⟩ : Addr).add (x.toNat * sz)) (by rw [add_block]) (add_spot _ rfl) sz 0 (by rw [add_off, List.length_append, List.length_append]; simp only [Nat.add_zero]; omega)
  rw [this, add_off]
  simp only [Nat.add_zero]
  rw [List.append_assoc, ← List.drop_drop, List.drop_left, List.drop_append_of_le_length (by omega), List.take_append_of_le_length (by rw [List.length_drop]; omega)]
theorem OS.addr {K : Addr → Prop} (o : OS W h0 sz E h m A l c) (hn : n = l.length) (g : gi l x = some y) (hk : ∀ a cs, A = some a → cellsH h (a.add (Int.toNat x * sz)) 0 sz = some cs → E m y cs → K a) : ptrOk A fun a => 0 ≤ x ∧ x < ((n : Nat) : Int) ∧ K a := by
  subst hn
  obtain ⟨a, cs, rfl, h1, h2⟩ := o.cellsAt g
  exact ⟨gi_le g, gi_lt g, hk a cs rfl h1 h2⟩
theorem ld0 (s : Sub m h) (hc : cellsH m a 0 n = some cs) (hv : cs[0]? = some v) : ldv false 1 h a = some v := by
  have h1 : cellH h (a.add 0) = some v := cellsH_get (s.cells _ _ hc) hv
  exact h1
theorem ldk (s : Sub m h) (hc : cellsH m a 0 n = some cs) (hv : cs[k]? = some v) : ldv false 1 h (Addr.add a k) = some v := by
  have := cellsH_get (s.cells _ _ hc) hv
  simpa [ldv] using this
theorem ldA (s : Sub m h) (hc : cellsH m a 0 n = some cs) : ldv true n h a = some (.agg cs.toArray) := by
  simp only [ldv, s.cells _ _ hc, Option.map_some]
theorem OB.stA (o : OB W h0 h m b cs t) (s : Sub m h) (l : List Value) (hn : l.length = cs.length) (hf : ∀ v ∈ l, Flat v) : ∃ h', stH h ⟨b, 0, none⟩ l 0 = some h' ∧ OB W h0 h' m b l t ∧ St (fb b) h m h' m := by
  obtain ⟨h', h1, h2, h3⟩ := o.1.stAll l hn hf
  exact ⟨h', h1, ⟨h2, o.2⟩, .only s o.2.2 h3⟩
theorem cap_in {hi : Int} (h1 : hi ≤ (l.length : Int)) (h2 : l.length ≤ c) : hi ≤ ((c : Nat) : Int) := by omega
theorem Rd.sl {lo hi : Int} {mx : Nat} (r : Rd sz E m A l) (h1 : 0 ≤ lo) (h2 : lo ≤ hi) (h3 : hi ≤ (l.length : Int)) (h4 : hi.toNat ≤ mx) : Rd sz E m (sliceA A (Int.toNat lo) mx sz) (sl l lo hi) := by
  intro i hi'
  rw [← sl_len h1 h2 h3] at hi'
  obtain ⟨a, cs, e1, e2, e3⟩ := r (lo.toNat + i) (by omega)
  refine ⟨a.add (lo.toNat * sz), cs, ?_, ?_, ?_⟩
  · unfold sliceA; rw [if_neg (by omega), e1]; rfl
  · rw [add_add, ← Nat.add_mul]; exact e2
  · simpa [Hw.sl] using e3
theorem sl_cap {lo hi : Int} {mx : Nat} (h1 : 0 ≤ lo) (h2 : lo ≤ hi) (h3 : hi ≤ (l.length : Int)) (h4 : hi.toNat ≤ mx) : (sl l lo hi).length ≤ mx - Int.toNat lo := by rw [← sl_len h1 h2 h3]; omega
theorem OS.sl {lo hi : Int} {mx : Nat} (o : OS W h0 sz E h m A l c) (h1 : 0 ≤ lo) (h2 : lo ≤ hi) (h3 : hi ≤ (l.length : Int)) (h4 : hi.toNat ≤ mx) (h5 : mx ≤ c) : OS W h0 sz E h m (sliceA A (Int.toNat lo) mx sz) (sl l lo hi) (mx - Int.toNat lo) := by
  rcases o with ⟨rfl, rfl⟩ | ⟨b, t, pre, cs, rest, rfl, k1, k2, k3, k4, k5⟩
  · exact .inl ⟨by unfold Hw.sl; simp, by omega⟩
  by_cases hm : mx = lo.toNat
  · refine .inl ⟨List.length_eq_zero_iff.1 (by rw [← sl_len h1 h2 h3]; omega), by omega⟩
  have hl := k2.len
  have e1 : (cs.take (lo.toNat * sz)).length = lo.toNat * sz := by
    rw [List.length_take, hl]; have := Nat.mul_le_mul_right sz (show lo.toNat ≤ l.length by omega); omega
  have e2 : hi.toNat * sz ≤ l.length * sz := Nat.mul_le_mul_right _ (by omega)
  have e3 : lo.toNat * sz ≤ hi.toNat * sz := Nat.mul_le_mul_right _ (by omega)
  refine .inr ⟨b, t, pre ++ cs.take (lo.toNat * sz), (cs.take (hi.toNat * sz)).drop (lo.toNat * sz), cs.drop (hi.toNat * sz) ++ rest, ?_, ?_, ?_, sl_cap h1 h2 h3 h4, ?_, k5⟩
  · unfold sliceA
    rw [if_neg hm, Option.map_some, List.length_append, e1]
    unfold Addr.add
    split
    · rename_i h9; rw [h9]; rfl
    · rfl
  · have : pre ++ cs.take (lo.toNat * sz) ++ (cs.take (hi.toNat * sz)).drop (lo.toNat * sz) ++ (cs.drop (hi.toNat * sz) ++ rest) = pre ++ cs ++ rest := by
      have e4 : cs.take (lo.toNat * sz) = (cs.take (hi.toNat * sz)).take (lo.toNat * sz) := by rw [List.take_take, Nat.min_eq_left e3]
      rw [e4, List.append_assoc pre, List.take_append_drop, ← List.append_assoc, List.append_assoc pre, List.take_append_drop]
    rw [this]; exact k1
  · exact (k2.take hi.toNat).drop lo.toNat
  · rw [List.length_append, List.length_drop, hl, ← sl_len h1 h2 h3]
    have e5 : (mx - lo.toNat - (hi.toNat - lo.toNat)) * sz + hi.toNat * sz ≤ c * sz := by rw [← Nat.add_mul]; exact Nat.mul_le_mul_right _ (by omega)
    have e6 : (c - l.length) * sz + l.length * sz = c * sz := by rw [← Nat.add_mul, Nat.sub_add_cancel k3]
    omega
theorem zc_len {z : Array Value} {n : Nat} : (zcells z n).toList.length = n * z.size := by rw [Array.length_toList, zcells_size]
def Src (sz : Nat) (E : Heap → α → List Value → Prop) (h m : Heap) (x : Value) (xs : List α) : Prop := ∃ es, srcCells sz x h = some (xs.length, es) ∧ CsE sz E m xs es
theorem Rd.srcE (r : Rd sz E m A l) (T : Tell sz E) (s : Sub m h) (hn : n = l.length) : Src sz E h m (.slice A n c) l := by
  subst hn
  cases A with
  | none =>
    have : l = [] := by
      cases l with
      | nil => rfl
      | cons x l => obtain ⟨a, _, h1, _⟩ := r 0 (by simp); cases h1
    subst this
    exact ⟨[], rfl, rfl⟩
  | some a =>
    obtain ⟨es, h1, h2⟩ := Rd.cse T r
    exact ⟨es, by simp only [srcCells, s.cells _ _ h1, Option.map_some], h2⟩
theorem OS.srcE {c' : Nat} (o : OS W h0 sz E h m A l c) (hn : n = l.length) : Src sz E h m (.slice A n c') l := by
  subst hn
  rcases o with ⟨rfl, rfl⟩ | ⟨b, t, pre, cs, rest, rfl, k1, k2, k3, k4, k5⟩
  · refine ⟨[], ?_, rfl⟩
    cases A with
    | none => rfl
    | some a => simp [srcCells, cellsH]
  · refine ⟨cs, ?_, k2⟩
    have hl := k2.len
    have := k1.cells (a := ⟨b, pre.length, none⟩) rfl rfl (l.length * sz) 0 (by simp [hl])
    simp only [srcCells, this, Nat.add_zero]
    rw [List.append_assoc, List.drop_left, List.take_append_of_le_length (by omega), List.take_of_length_le (by omega)]; rfl
def ap (B : Nat) (l xs : List α) : Option (List α) := if (l.length + xs.length) * B ≤ 140737488355328 then some (l ++ xs) else none
theorem ap_e {B : Nat} {l xs l' : List α} (g : ap B l xs = some l') : (l.length + xs.length) * B ≤ 140737488355328 ∧ l ++ xs = l' := by
  unfold ap at g
  obtain ⟨h, k⟩ := guard_e g
  exact ⟨h, Option.some.inj k⟩
def sls (l : List α) (lo hi : Int) : Option (List α) := if 0 ≤ lo ∧ lo ≤ hi ∧ hi ≤ (l.length : Int) then some (sl l lo hi) else none
theorem sls_e {lo hi : Int} {l' : List α} (g : sls l lo hi = some l') : 0 ≤ lo ∧ lo ≤ hi ∧ hi ≤ (l.length : Int) ∧ Int.toNat hi - Int.toNat lo = l'.length ∧ l' = Hw.sl l lo hi := by
  unfold sls at g
  obtain ⟨h, k⟩ := guard_e g
  cases k
  exact ⟨h.1, h.2.1, h.2.2, sl_len h.1 h.2.1 h.2.2, rfl⟩
theorem Rd.sls {lo hi : Int} {mx : Nat} {l' : List α} (r : Rd sz E m A l) (g : sls l lo hi = some l') (h4 : hi.toNat ≤ mx) : Rd sz E m (sliceA A (Int.toNat lo) mx sz) l' := by
  obtain ⟨h1, h2, h3, _, rfl⟩ := sls_e g
  exact r.sl h1 h2 h3 h4
theorem OS.sls {lo hi : Int} {mx : Nat} {l' : List α} (o : OS W h0 sz E h m A l c) (g : Hw.sls l lo hi = some l') (h4 : hi.toNat ≤ mx) (h5 : mx ≤ c) : OS W h0 sz E h m (sliceA A (Int.toNat lo) mx sz) l' (mx - Int.toNat lo) := by
  obtain ⟨h1, h2, h3, _, rfl⟩ := sls_e g
  exact o.sl h1 h2 h3 h4 h5
theorem mkCells_flat {zc : Array Value} (hz : zc.size = sz) : ∀ n : Nat, (mkCells zc (n * sz)).toList = (List.replicate n zc.toList).flatten := by
  intro n
  unfold mkCells
  apply List.ext_getElem
  · simp [hz]
  · intro i h1 h2
    simp only [Array.toList_map, Array.toList_range, List.getElem_map, List.getElem_range]
    have hi : i < n * sz := by simpa using h1
    have : ∀ (n i : Nat) (hi : i < n * sz) (h2 : i < (List.replicate n zc.toList).flatten.length), zc[i % zc.size]! = (List.replicate n zc.toList).flatten[i] := by
      intro n
      induction n with
      | zero => intro i hi; simp at hi
      | succ n ih =>
        intro i hi h2
        simp only [List.replicate_succ, List.flatten_cons]
        by_cases hlt : i < zc.toList.length
        · rw [List.getElem_append_left hlt]
          have hlt' : i < zc.size := by simpa using hlt
          rw [Nat.mod_eq_of_lt hlt', getElem!_pos zc i hlt']; simp
        · have hge : sz ≤ i := by simpa [hz] using hlt
          rw [List.getElem_append_right (by rw [Array.length_toList, hz]; exact hge)]
          have e1 : i % zc.size = (i - zc.toList.length) % zc.size := by
            rw [Array.length_toList, hz]; exact (Nat.mod_eq_sub_mod hge)
          rw [e1]
          exact ih (i - zc.toList.length) (by rw [Array.length_toList, hz]; rw [Nat.succ_mul] at hi; omega) _
    exact this n i hi h2
theorem le_mx {hi : Int} (h1 : hi ≤ (l.length : Int)) (h2 : l.length ≤ c) : hi.toNat ≤ c := by omega
theorem sls_cap {lo hi : Int} {l' : List α} (g : Hw.sls l lo hi = some l') (h2 : l.length ≤ c) : l'.length ≤ c - Int.toNat lo := by
  obtain ⟨h1, h3, h4, h5, _⟩ := sls_e g
  omega
theorem OS.newNo {h' : Heap} (o : OS No h sz E h' m' A l c) : ∀ b, fp A c b → h.size ≤ b := fun b hb => (o.wr b hb).elim id (fun h => h.elim)
theorem nn {x : Value} {l : List Value} : x :: l ≠ [] := fun h => by cases h
end
end Go.Hw

end
section
namespace Go.Hw
open Go
section
variable {α : Type} {sz : Nat} {E : Heap → α → List Value → Prop} {m m' h h' h0 m0 : Heap} {A : Option Addr} {l : List α} {c n k : Nat} {x : Int} {W : Nat → Prop}
theorem Rd.void (r : Rd sz E m none l) : l = [] := by
  cases l with
  | nil => rfl
  | cons x l => obtain ⟨a, _, h1, _⟩ := r 0 (by simp); cases h1
end
section
variable {α : Type} {sz : Nat} {E : Heap → α → List Value → Prop} {m m' mL h h' h0 m0 : Heap} {A : Option Addr} {l : List α} {c b : Nat} {cs : List Value} {t : TypeId} {W W' : Nat → Prop}
theorem St.unlend (T : St W' h mL h' m') (s : Sub m h) (hd : ∀ b, W' b → ¬ Live m b) : St W' h m h' m where
  up := .refl _
  s b o h1 h2 := by
    rw [T.fr b (s.lt ⟨o, h1, h2⟩) (fun hw => hd b hw ⟨o, h1, h2⟩)]; exact s b o h1 h2
  size := T.size
  fr := T.fr
  lv b _ hl := .inl hl
end
section
variable {κ ν : Type} [DecidableEq κ] {h h' m m' h0 m0 : Heap} {b : Nat} {W W' : Nat → Prop} {kv : κ → Value} {es : List (κ × ν)} {vs : List (κ × Value)} {k : κ} {x zv : ν} {v z : Value} {P : Program} {t elem : TypeId} {sz : Nat}
def pget (es : List (κ × ν)) (k : κ) : Option ν := (es.find? fun x => decide (k = x.1)).map (·.2)
def pgd (es : List (κ × ν)) (k : κ) (z : ν) : ν := (pget es k).getD z
def pset : List (κ × ν) → κ → ν → List (κ × ν)
  | [], k, v => [(k, v)]
  | x :: es, k, v => if k = x.1 then (k, v) :: es else x :: pset es k v
theorem pget_nil (k : κ) : pget ([] : List (κ × ν)) k = none := rfl
theorem pget_cons (p : κ × ν) (es : List (κ × ν)) (k : κ) : pget (p :: es) k = if k = p.1 then some p.2 else pget es k := by
  unfold pget
  by_cases h : k = p.1
  · rw [if_pos h, List.find?_cons_of_pos (by simpa using h)]; rfl
  · rw [if_neg h, List.find?_cons_of_neg (by simpa using h)]
theorem pget_pset (es : List (κ × ν)) (k q : κ) (v : ν) : pget (pset es k v) q = if q = k then some v else pget es q := by
  induction es with
  | nil => unfold pset; rw [pget_cons, pget_nil]
  | cons x es ih =>
    unfold pset
    by_cases hk : k = x.1
    · rw [if_pos hk, pget_cons, pget_cons]
      by_cases h : q = k
      · rw [if_pos h, if_pos h]
      · rw [if_neg h, if_neg h, if_neg (by rw [← hk]; exact h)]
    · rw [if_neg hk, pget_cons, pget_cons, ih]
      by_cases h : q = x.1
      · rw [if_pos h, if_pos h, if_neg (fun hh => hk (by rw [← hh, h]))]
      · rw [if_neg h, if_neg h]
theorem mget_cons (p : κ × Value) (es : List (κ × Value)) (k : κ) : mget (p :: es) k = if k = p.1 then some p.2 else mget es k := pget_cons p es k
def eV0 (E : Heap → ν → List Value → Prop) (m : Heap) (x : ν) (v : Value) : Prop := E m x [v]
def MonoV (EV : Heap → ν → Value → Prop) : Prop := ∀ m h x v, Sub m h → EV m x v → EV h x v
omit [DecidableEq κ] in
theorem monoV0 {E : Heap → ν → List Value → Prop} (T : Tell sz E) : MonoV (eV0 E) := fun _ _ _ _ s h => T.mono _ _ _ _ s h
def MR (EV : ν → Value → Prop) : List (κ × ν) → List (κ × Value) → Prop
  | [], vs => vs = []
  | p :: es, vs => ∃ v vs', vs = (p.1, v) :: vs' ∧ EV p.2 v ∧ MR EV es vs'
variable {EV : Heap → ν → Value → Prop}
omit [DecidableEq κ] in
theorem MR.sub (M : MonoV EV) (s : Sub m h) : ∀ {es : List (κ × ν)} {vs : List (κ × Value)}, MR (EV m) es vs → MR (EV h) es vs := by
  intro es
  induction es with
  | nil => intro vs hh; exact hh
  | cons p es ih => rintro vs ⟨v, vs', rfl, h1, h2⟩; exact ⟨v, vs', rfl, M _ _ _ _ s h1, ih h2⟩
theorem MR.get {EV : ν → Value → Prop} (k : κ) : ∀ {es : List (κ × ν)} {vs : List (κ × Value)}, MR EV es vs → (mget vs k).isSome = (pget es k).isSome ∧ ∀ zv z, EV zv z → EV (pgd es k zv) ((mget vs k).getD z) := by
  intro es
  induction es with
  | nil => intro vs hh; rw [show vs = [] from hh]; exact ⟨rfl, fun _ _ h => h⟩
  | cons p es ih =>
    rintro vs ⟨v, vs', rfl, h1, h2⟩
    unfold pgd
    rw [mget_cons, pget_cons]
    by_cases hk : k = p.1
    · rw [if_pos hk, if_pos hk]; exact ⟨rfl, fun _ _ _ => h1⟩
    · rw [if_neg hk, if_neg hk]; exact ih h2
theorem MR.set {EV : ν → Value → Prop} (k : κ) (hx : EV x v) : ∀ {es : List (κ × ν)} {vs : List (κ × Value)}, MR EV es vs → MR EV (pset es k x) (mset vs k v) := by
  intro es
  induction es with
  | nil => intro vs hh; rw [show vs = [] from hh]; exact ⟨v, [], rfl, hx, rfl⟩
  | cons p es ih =>
    rintro vs ⟨w, vs', rfl, h1, h2⟩
    unfold pset mset
    by_cases hk : k = p.1
    · rw [if_pos hk, if_pos hk]; exact ⟨v, vs', rfl, hx, h2⟩
    · rw [if_neg hk, if_neg hk]; exact ⟨w, _, rfl, h1, ih h2⟩
def OM (W : Nat → Prop) (h0 : Heap) (EV : Heap → ν → Value → Prop) (kv : κ → Value) (h m : Heap) (b : Nat) (es : List (κ × ν)) : Prop :=
  ∃ vs, MapB kv h b vs ∧ MR (EV m) es vs ∧ (h0.size ≤ b ∨ W b) ∧ ¬ Live m b
theorem OM.look {K : Value → Heap → Prop} (o : OM W h0 EV kv h m b es) (ok : KeyOk P t kv elem) (k : κ) (hz : zeroOf P elem = some z) (hE : EV m zv z) (hk : ∀ v, EV m (pgd es k zv) v → K v h) : Gen P (Instr.lookup t (.map (some b)) (kv k) false) h K := by
  obtain ⟨vs, h1, h2, _⟩ := o
  exact gen_lookup ok h1 k hz (hk _ ((h2.get k).2 _ _ hE))
theorem OM.upd {K : Unit → Heap → Prop} (o : OM W h0 EV kv h m b es) (s : Sub m h) (ok : KeyOk P t kv elem) (k : κ) (he : EV m x v) (hk : ∀ h', OM W h0 EV kv h' m b (pset es k x) → St (fb b) h m h' m → K () h') : Hwp P (Instr.mapUpdate t (.map (some b)) (kv k) v) h K := by
  obtain ⟨vs, h1, h2, h3, h4⟩ := o
  exact gen_mapUpdate ok h1 k v fun h' b' o' => hk h' ⟨_, b', h2.set k he, h3, h4⟩ (.only s h4 o')
end
section
variable {H : Type} {enc : TypeId × Value → H} {P : Program} {W : World}
theorem tells_i64 {t : TypeId} (hu : P.underlying t = some (.int .i64)) : Tells enc P W t (eInt .i64) (fun x => -9223372036854775808 ≤ x ∧ x ≤ 9223372036854775807) := tells_map (tells_int hu) fun a _ h q => ⟨a, h, wf_i64 q⟩
theorem tells_sliceL {α : Type} {t e : TypeId} {sz B : Nat} {E : Heap → α → List Value → Prop} {Q : α → Prop} (hu : P.underlying t = some (.slice e)) (hc : P.cellsOf e = sz) (hB : P.bytesOf e = B) (he : Tells enc P W e E Q) :
    Tells enc P W t (eRow sz E) (fun l => l.length * B ≤ 140737488351232 ∧ ∀ a ∈ l, Q a) := tells_map (tells_slice hu hc hB he) fun a _ h q => ⟨a, h, q⟩
end
end Go.Hw

end
section
namespace Go.Hw
open Go
section
variable {α β : Type}
theorem ap_of {B : Nat} {l xs : List α} (h : (l.length + xs.length) * B ≤ 140737488355328) : ap B l xs = some (l ++ xs) := by unfold ap; rw [if_pos h]
theorem ap_nil {B : Nat} {xs : List α} (h : xs.length * B ≤ 140737488355328) : ap B ([] : List α) xs = some xs := by rw [ap_of (by simpa using h)]; rfl
theorem ap_one {B : Nat} {l : List α} {x : α} (h : (l.length + 1) * B ≤ 140737488355328) : ap B l [x] = some (l ++ [x]) := ap_of (by simpa using h)
theorem gi_some {l : List α} {k : Nat} {x : Int} {y : α} (hx : x = k) (h : l[k]? = some y) : gi l x = some y := by subst hx; rw [gi_nat]; exact h
theorem gi_at {l : List α} {k : Nat} (h : k < l.length) : gi l (k : Int) = some l[k] := by rw [gi_nat]; exact List.getElem?_eq_getElem h
theorem sls_of {l : List α} {lo hi : Int} (h1 : 0 ≤ lo) (h2 : lo ≤ hi) (h3 : hi ≤ (l.length : Int)) : sls l lo hi = some (sl l lo hi) := by unfold sls; rw [if_pos ⟨h1, h2, h3⟩]
theorem sls_take {l : List α} {k : Nat} {x : Int} (hx : x = k) (h : k ≤ l.length) : sls l 0 x = some (l.take k) := by subst hx; rw [sls_of (by omega) (by omega) (by omega), sl_hi]; rfl
theorem sls_drop {l : List α} {k : Nat} {x : Int} (hx : x = k) (h : k ≤ l.length) : sls l x (l.length : Int) = some (l.drop k) := by subst hx; rw [sls_of (by omega) (by omega) (by omega), sl_lo]; rfl
theorem w_succ {k : Nat} (h : k < 9223372036854775807) : IntKind.wrap .i64 ((k : Int) + 1) = ((k + 1 : Nat) : Int) := by rw [wrap_in (by omega) (by omega)]; rfl
theorem find_val {f : List α → (α → Option Bool) → Int → Int → Option Int}
    (hf : ∀ a p n i, f a p n i = if i < n then (Option.bind (gi a i) fun y => Option.bind (p y) fun b => if b = true then some i else f a p n (IntKind.wrap .i64 (i + 1))) else some (-1))
    {l : List α} {p : α → Option Bool} (q : α → Bool) (hp : ∀ x ∈ l, p x = some (q x)) (hl : l.length ≤ 4611686018427387904) : f l p (l.length : Int) 0 = some (idxOf q l) := by
  have key : ∀ (d k : Nat), k + d = l.length → (∀ x ∈ l.take k, q x = false) → f l p (l.length : Int) (k : Int) = some (idxOf q l) := by
    intro d
    induction d with
    | zero =>
      intro k hk hn
      rw [hf, if_neg (by omega)]
      have : l.findIdx? q = none := by
        rw [List.findIdx?_eq_none_iff]
        rw [List.take_of_length_le (by omega)] at hn
        exact hn
      simp [idxOf, this]
    | succ d ih =>
      intro k hk hn
      have hlt : k < l.length := by omega
      rw [hf, if_pos (by omega), gi_at hlt, Option.bind_some, hp _ (List.getElem_mem hlt), Option.bind_some]
      by_cases hq : q l[k] = true
      · rw [if_pos hq]
        have : l.findIdx? q = some k := by
          rw [List.findIdx?_eq_some_iff_getElem]
          refine ⟨hlt, hq, fun j hj => ?_⟩
          have := hn l[j] (by rw [List.mem_take_iff_getElem]; exact ⟨j, by omega, rfl⟩)
          simp [this]
        simp [idxOf, this]
      · rw [if_neg hq, w_succ (by omega)]
        refine ih (k + 1) (by omega) (fun x hx => ?_)
        rw [List.take_succ_eq_append_getElem hlt] at hx
        rcases List.mem_append.1 hx with hx | hx
        · exact hn x hx
        · simp at hx; subst hx; simpa using hq
  exact key l.length 0 (by omega) (fun x hx => by simp at hx)
end
section
open Go.RowKit
variable {H : Type} {enc : TypeId × Value → H} {P : Program} {W : World} {N : Nat}
end
end Go.Hw

end
section
set_option linter.unusedVariables false
namespace Go.Hw
open Go
abbrev Foot := Nat → Prop
def U (F G : Foot) : Foot := fun b => F b ∨ G b
section
variable {F G H F' G' : Foot}
theorem U.no_left : U No F = F := funext fun _ => propext ⟨fun h => h.elim (fun h => h.elim) id, .inr⟩
theorem U.no_right : U F No = F := funext fun _ => propext ⟨fun h => h.elim id (fun h => h.elim), .inl⟩
theorem U.assoc : U (U F G) H = U F (U G H) := funext fun _ => propext or_assoc
theorem U.comm : U F G = U G F := funext fun _ => propext or_comm
theorem U.left_comm : U F (U G H) = U G (U F H) := by rw [← U.assoc, U.comm (F := F), U.assoc]
theorem Dj.u (d : Dj F H) (d' : Dj G H) : Dj (U F G) H := fun b h k => h.elim (fun h => d b h k) (fun h => d' b h k)
theorem Dj.ul (d : Dj (U F G) H) : Dj F H := fun b h k => d b (.inl h) k
theorem Dj.ur (d : Dj (U F G) H) : Dj G H := fun b h k => d b (.inr h) k
theorem Dj.u' (d : Dj H F) (d' : Dj H G) : Dj H (U F G) := fun b k h => h.elim (fun h => d b k h) (fun h => d' b k h)
theorem Dj.ul' (d : Dj H (U F G)) : Dj H F := fun b k h => d b k (.inl h)
theorem Dj.ur' (d : Dj H (U F G)) : Dj H G := fun b k h => d b k (.inr h)
theorem Dj.no' : Dj F No := fun _ _ h => h
theorem Dj.mono (d : Dj F G) (h1 : ∀ b, F' b → F b) (h2 : ∀ b, G' b → G b) : Dj F' G' := fun b k l => d b (h1 b k) (h2 b l)
end
structure Res where
  p : Heap → Heap → Foot → Prop
  z : Heap → Prop
  lt : ∀ {h m F}, p h m F → ∀ b, F b → b < h.size
  nl : ∀ {h m F}, p h m F → ∀ b, F b → ¬ Live m b
  fr : ∀ {h m F h' m'}, p h m F → (∀ b, F b → h'[b]? = h[b]?) → Sub m m' → (∀ b, F b → ¬ Live m' b) → p h' m' F
  fz : ∀ {h m F G}, p h m F → Sub m h → (∀ b, F b → G b) → z (addV m h G)
def Res.vf (R : Res) : Prop := ∀ h m m' F, R.p h m F → Sub m' h → (∀ b, F b → ¬ Live m' b) → R.p h m' F
def rE : Res where
  p _ _ F := F = No
  z _ := True
  lt := by rintro h m F rfl b hb; exact hb.elim
  nl := by rintro h m F rfl b hb; exact hb.elim
  fr := fun h _ _ _ => h
  fz := fun _ _ _ => trivial
def Sep : List Res → Heap → Heap → Foot → Prop
  | [], _, _, F => F = No
  | R :: Rs, h, m, F => ∃ F1 F2, R.p h m F1 ∧ Sep Rs h m F2 ∧ Dj F1 F2 ∧ F = U F1 F2
def ZAll (m : Heap) : List Res → Prop
  | [] => True
  | R :: Rs => R.z m ∧ ZAll m Rs
def takeL : List Res → List Nat → List Res
  | _, [] => []
  | Rs, i :: is => (match Rs[i]? with | some R => R | none => rE) :: takeL (Rs.set i rE) is
def dropL : List Res → List Nat → List Res
  | Rs, [] => Rs
  | Rs, i :: is => dropL (Rs.set i rE) is
section
variable {h h' m m' : Heap} {F F1 F2 G : Foot} {Rs Rs' : List Res} {R R' : Res} {k : Nat}
theorem Sep.lt : ∀ {Rs : List Res} {F : Foot}, Sep Rs h m F → ∀ b, F b → b < h.size
  | [], _, hs, b, hb => by rw [show _ = No from hs] at hb; exact hb.elim
  | _ :: _, _, ⟨_, _, h1, h2, _, rfl⟩, b, hb => hb.elim (Res.lt _ h1 b) (Sep.lt h2 b)
theorem Sep.nl : ∀ {Rs : List Res} {F : Foot}, Sep Rs h m F → ∀ b, F b → ¬ Live m b
  | [], _, hs, b, hb => by rw [show _ = No from hs] at hb; exact hb.elim
  | _ :: _, _, ⟨_, _, h1, h2, _, rfl⟩, b, hb => hb.elim (Res.nl _ h1 b) (Sep.nl h2 b)
theorem Sep.fr : ∀ {Rs : List Res} {F : Foot}, Sep Rs h m F → (∀ b, F b → h'[b]? = h[b]?) → Sub m m' → (∀ b, F b → ¬ Live m' b) → Sep Rs h' m' F
  | [], _, hs, _, _, _ => hs
  | _ :: _, _, ⟨F1, F2, h1, h2, h3, rfl⟩, k1, k2, k3 => ⟨F1, F2, Res.fr _ h1 (fun b hb => k1 b (.inl hb)) k2 (fun b hb => k3 b (.inl hb)), Sep.fr h2 (fun b hb => k1 b (.inr hb)) k2 (fun b hb => k3 b (.inr hb)), h3, rfl⟩
theorem Sep.fz : ∀ {Rs : List Res} {F : Foot}, Sep Rs h m F → Sub m h → (∀ b, F b → G b) → ZAll (addV m h G) Rs
  | [], _, _, _, _ => trivial
  | _ :: _, _, ⟨F1, F2, h1, h2, h3, rfl⟩, k1, k2 => ⟨Res.fz _ h1 k1 (fun b hb => k2 b (.inl hb)), Sep.fz h2 k1 (fun b hb => k2 b (.inr hb))⟩
theorem Sep.vf : ∀ {Rs : List Res} {F : Foot}, Sep Rs h m F → (∀ R ∈ Rs, R.vf) → Sub m' h → (∀ b, F b → ¬ Live m' b) → Sep Rs h m' F
  | [], _, hs, _, _, _ => hs
  | R :: Rs, _, ⟨F1, F2, h1, h2, h3, rfl⟩, v, k1, k2 => ⟨F1, F2, v R (List.mem_cons_self ..) _ _ _ _ h1 k1 (fun b hb => k2 b (.inl hb)), Sep.vf h2 (fun R hR => v R (List.mem_cons_of_mem _ hR)) k1 (fun b hb => k2 b (.inr hb)), h3, rfl⟩
theorem Sep.get : ∀ {Rs : List Res} {F : Foot} {k : Nat}, Sep Rs h m F → Rs[k]? = some R → ∃ F1 F2, R.p h m F1 ∧ Sep (Rs.set k rE) h m F2 ∧ Dj F1 F2 ∧ F = U F1 F2
  | [], _, _, _, hk => by cases hk
  | R' :: Rs, _, 0, ⟨F1, F2, h1, h2, h3, e⟩, hk => by
    cases hk
    exact ⟨F1, F2, h1, ⟨No, F2, rfl, h2, .no, U.no_left.symm⟩, h3, e⟩
  | R' :: Rs, _, k + 1, ⟨F1, F2, h1, h2, h3, e⟩, hk => by
    obtain ⟨G1, G2, k1, k2, k3, rfl⟩ := Sep.get h2 (show Rs[k]? = some R by simpa using hk)
    refine ⟨G1, U F1 G2, k1, ⟨F1, G2, h1, k2, h3.ur', rfl⟩, ?_, ?_⟩
    · exact Dj.u' h3.ul'.symm k3
    · rw [e, U.left_comm]
theorem Sep.put : ∀ {Rs : List Res} {F2 : Foot} {k : Nat}, Sep Rs h m F2 → Rs[k]? = some rE → R'.p h m F1 → Dj F1 F2 → Sep (Rs.set k R') h m (U F1 F2)
  | [], _, _, _, hk, _, _ => by cases hk
  | R :: Rs, _, 0, ⟨G1, G2, h1, h2, h3, e⟩, hk, hp, d => by
    cases hk
    have : G1 = No := h1
    subst this
    rw [U.no_left] at e
    subst e
    exact ⟨F1, _, hp, h2, d, rfl⟩
  | R :: Rs, _, k + 1, ⟨G1, G2, h1, h2, h3, e⟩, hk, hp, d => by
    subst e
    have := Sep.put h2 (show Rs[k]? = some rE by simpa using hk) hp d.ur'
    exact ⟨G1, _, h1, this, Dj.u' d.ul'.symm h3, by rw [U.left_comm]⟩
theorem Sep.app : ∀ {Rs : List Res} {F : Foot}, Sep Rs h m F → Sep Rs' h m G → Dj F G → Sep (Rs ++ Rs') h m (U F G)
  | [], _, hs, hs', _ => by rw [show _ = No from hs, U.no_left]; exact hs'
  | R :: Rs, _, ⟨F1, F2, h1, h2, h3, e⟩, hs', d => by
    subst e
    exact ⟨F1, _, h1, Sep.app h2 hs' d.ur, Dj.u' h3 d.ul, U.assoc⟩
theorem Sep.one (hp : R.p h m F) : Sep [R] h m F := ⟨F, No, hp, rfl, .no', U.no_right.symm⟩
theorem set_rE (hk : Rs[k]? = some R) : (Rs.set k rE)[k]? = some rE := by
  have : k < Rs.length := (List.getElem?_eq_some_iff.1 hk).1
  rw [List.getElem?_set_self this]
theorem Sep.part : ∀ (is : List Nat) {Rs : List Res} {F : Foot}, Sep Rs h m F → ∃ F1 F2, Sep (takeL Rs is) h m F1 ∧ Sep (dropL Rs is) h m F2 ∧ Dj F1 F2 ∧ F = U F1 F2
  | [], Rs, F, hs => ⟨No, F, rfl, hs, .no, U.no_left.symm⟩
  | i :: is, Rs, F, hs => by
    cases hi : Rs[i]? with
    | none =>
      have : Rs.set i rE = Rs := List.set_eq_of_length_le (List.getElem?_eq_none_iff.1 hi)
      obtain ⟨F1, F2, h1, h2, h3, h4⟩ := Sep.part is (Rs := Rs.set i rE) (by rw [this]; exact hs)
      refine ⟨F1, F2, ?_, h2, h3, h4⟩
      simp only [takeL, hi]
      exact ⟨No, F1, rfl, h1, .no, U.no_left.symm⟩
    | some R =>
      obtain ⟨G1, G2, k1, k2, k3, rfl⟩ := Sep.get hs hi
      obtain ⟨F1, F2, h1, h2, h3, rfl⟩ := Sep.part is k2
      refine ⟨U G1 F1, F2, ?_, h2, Dj.u k3.ur' h3, U.assoc.symm⟩
      simp only [takeL, hi]
      exact ⟨G1, F1, k1, h1, k3.ul', rfl⟩
end
structure Hold (W : Foot) (h0 m0 h m : Heap) (Rs : List Res) : Prop where
  S : St W h0 m0 h m
  q : ∃ F, Sep Rs h m F ∧ ∀ b, F b → h0.size ≤ b ∨ W b
section
variable {h0 m0 h h' m m' : Heap} {W F F' G : Foot} {Rs Rs' : List Res} {R R' : Res} {k : Nat}
theorem Hold.s (O : Hold W h0 m0 h m Rs) : Sub m h := O.S.s
theorem Hold.up (O : Hold W h0 m0 h m Rs) : Sub m0 m := O.S.up
theorem Hold.start (s : Sub m h) : Hold W h m h m [] := ⟨.refl s, No, rfl, fun _ h => h.elim⟩
theorem St.frame (T : St F h m h' m') (h2 : Dj F G) (h3 : ∀ b, G b → b < h.size) (h4 : ∀ b, G b → ¬ Live m b) : (∀ b, G b → h'[b]? = h[b]?) ∧ ∀ b, G b → ¬ Live m' b :=
  ⟨fun b hb => T.fr b (h3 b hb) (fun hf => h2 b hf hb), fun b hb hl => (T.lv b (h3 b hb) hl).elim (h4 b hb) (fun hf => h2 b hf hb)⟩
theorem Hold.get (O : Hold W h0 m0 h m Rs) (k : Nat) (hk : Rs[k]? = some R) : ∃ F, R.p h m F ∧ (∀ b, F b → h0.size ≤ b ∨ W b) ∧
    ∀ {h' m' : Heap} {R' : Res} {F' : Foot}, St F h m h' m' → R'.p h' m' F' → (∀ b, F' b → F b ∨ h.size ≤ b) → Hold W h0 m0 h' m' (Rs.set k R') := by
  obtain ⟨S, FF, hs, hw⟩ := O
  obtain ⟨F1, F2, h1, h2, h3, rfl⟩ := hs.get hk
  refine ⟨F1, h1, fun b hb => hw b (.inl hb), fun {h' m' R' F'} T hp hn => ?_⟩
  obtain ⟨f1, f2⟩ := T.frame h3 h2.lt h2.nl
  have s2 := Sep.fr h2 f1 T.up f2
  have d : Dj F' F2 := fun b hb hc => (hn b hb).elim (fun hf => h3 b hf hc) (fun hl => by have := h2.lt b hc; omega)
  have := Sep.put s2 (set_rE hk) hp d
  rw [List.set_set] at this
  refine ⟨S.then T (fun b _ hb => hw b (.inl hb)), _, this, fun b hb => hb.elim (fun hb => (hn b hb).elim (fun hf => hw b (.inl hf)) (fun hl => .inl (Nat.le_trans S.size hl))) (fun hb => hw b (.inr hb))⟩
theorem Hold.add (O : Hold W h0 m0 h m Rs) (T : St No h m h' m') (hp : R.p h' m' F') (hn : ∀ b, F' b → h.size ≤ b) : Hold W h0 m0 h' m' (Rs ++ [R]) := by
  obtain ⟨S, F, hs, hw⟩ := O
  obtain ⟨f1, f2⟩ := T.frame (G := F) .no hs.lt hs.nl
  refine ⟨S.grow T, _, (Sep.fr hs f1 T.up f2).app (.one hp) (fun b hb hc => by have := hs.lt b hb; have := hn b hc; omega), fun b hb => hb.elim (hw b) (fun hb => .inl (Nat.le_trans S.size (hn b hb)))⟩
theorem Hold.grow (O : Hold W h0 m0 h m Rs) (T : St No h m h' m') : Hold W h0 m0 h' m' Rs := by
  obtain ⟨S, F, hs, hw⟩ := O
  obtain ⟨f1, f2⟩ := T.frame (G := F) .no hs.lt hs.nl
  exact ⟨S.grow T, F, Sep.fr hs f1 T.up f2, hw⟩
theorem Hold.ext (O : Hold W h0 m0 h m Rs) (e : Ext h h') : Hold W h0 m0 h' m Rs := O.grow (St.of_ext O.s e)
theorem Hold.adds (O : Hold W h0 m0 h m Rs) (hp : R.p h m No) : Hold W h0 m0 h m (Rs ++ [R]) := O.add (.refl O.s) hp (fun _ h => h.elim)
theorem Hold.conv (O : Hold W h0 m0 h m Rs) (k : Nat) (hk : Rs[k]? = some R) (H : ∀ F, R.p h m F → ∃ F', R'.p h m F' ∧ ∀ b, F' b → F b) : Hold W h0 m0 h m (Rs.set k R') := by
  obtain ⟨F, h1, _, h3⟩ := O.get k hk
  obtain ⟨F', h4, h5⟩ := H F h1
  exact h3 (.refl O.s) h4 (fun b hb => .inl (h5 b hb))
theorem Hold.pick (O : Hold W h0 m0 h m Rs) (is : List Nat) : Hold W h0 m0 h m (takeL Rs is) := by
  obtain ⟨S, F, hs, hw⟩ := O
  obtain ⟨F1, F2, h1, h2, h3, rfl⟩ := hs.part is
  exact ⟨S, F1, h1, fun b hb => hw b (.inl hb)⟩
theorem Hold.call (O : Hold W h0 m0 h m Rs) (is : List Nat) : ∃ W', Hold W' h m h m (takeL Rs is) ∧ ∀ {h' m' : Heap} {Rs' : List Res}, Hold W' h m h' m' Rs' → Hold W h0 m0 h' m' (dropL Rs is ++ Rs') := by
  obtain ⟨S, F, hs, hw⟩ := O
  obtain ⟨F1, F2, h1, h2, h3, rfl⟩ := hs.part is
  refine ⟨F1, ⟨.refl S.s, F1, h1, fun b hb => .inr hb⟩, fun {h' m' Rs'} O' => ?_⟩
  obtain ⟨T, F', hs', hw'⟩ := O'
  obtain ⟨f1, f2⟩ := T.frame h3 h2.lt h2.nl
  refine ⟨S.then T (fun b _ hb => hw b (.inl hb)), _, (Sep.fr h2 f1 T.up f2).app hs' (fun b hb hc => (hw' b hc).elim (fun hl => by have := h2.lt b hb; omega) (fun hf => h3 b hf hb)), fun b hb => hb.elim (fun hb => hw b (.inr hb)) (fun hb => (hw' b hb).elim (fun hl => .inl (Nat.le_trans S.size hl)) (fun hf => hw b (.inl hf)))⟩
theorem Hold.callC (O : Hold W h0 m0 h m Rs) (is : List Nat) : ∃ W', Hold W' h m h m (takeL Rs is) ∧
    (∀ {h' m' : Heap} {Rs' : List Res}, Hold W' h m h' m' Rs' → Hold W h0 m0 h' m' (dropL Rs is ++ Rs')) ∧
    (∀ {h' m' : Heap} {Rs' : List Res}, Hold W' h m h' m' Rs' → (∀ R ∈ Rs', R.vf) → Hold W h0 m0 h' m (dropL Rs is ++ Rs')) := by
  obtain ⟨S, F, hs, hw⟩ := O
  obtain ⟨F1, F2, h1, h2, h3, rfl⟩ := hs.part is
  have key : ∀ {h' m' : Heap} {Rs' : List Res}, Hold F1 h m h' m' Rs' → Hold W h0 m0 h' m' (dropL Rs is ++ Rs') := fun {h' m' Rs'} O' => by
    obtain ⟨T, F', hs', hw'⟩ := O'
    obtain ⟨f1, f2⟩ := T.frame h3 h2.lt h2.nl
    exact ⟨S.then T (fun b _ hb => hw b (.inl hb)), _, (Sep.fr h2 f1 T.up f2).app hs' (fun b hb hc => (hw' b hc).elim (fun hl => by have := h2.lt b hb; omega) (fun hf => h3 b hf hb)), fun b hb => hb.elim (fun hb => hw b (.inr hb)) (fun hb => (hw' b hb).elim (fun hl => .inl (Nat.le_trans S.size hl)) (fun hf => hw b (.inl hf)))⟩
  refine ⟨F1, ⟨.refl S.s, F1, h1, fun b hb => .inr hb⟩, key, fun {h' m' Rs'} O' v => key ?_⟩
  obtain ⟨T, F', hs', hw'⟩ := O'
  have T' : St F1 h m h' m := T.unlend S.s h1.nl
  exact ⟨T', F', hs'.vf v T'.s (fun b hb hv => (hw' b hb).elim (fun hl => by have := S.s.lt hv; omega) (fun hf => h1.nl b hf hv)), hw'⟩
theorem Hold.lend (O : Hold W h0 m0 h m Rs) (is ls : List Nat) : ∃ m1 W', Sub m m1 ∧ Hold W' h m1 h m1 (takeL Rs is) ∧ ZAll m1 (takeL (dropL Rs is) ls) ∧
    (∀ {h' m' : Heap} {Rs' : List Res}, Hold W' h m1 h' m' Rs' → Hold W h0 m0 h' m' (dropL (dropL Rs is) ls ++ Rs')) ∧
    (∀ {h' m' : Heap} {Rs' : List Res}, Hold W' h m1 h' m' Rs' → (∀ R ∈ Rs', R.vf) → Hold W h0 m0 h' m (dropL Rs is ++ Rs')) := by
  obtain ⟨S, F, hs, hw⟩ := O
  obtain ⟨F1, F2, h1, h2, h3, rfl⟩ := hs.part is
  obtain ⟨F3, F4, k1, k2, k3, rfl⟩ := h2.part ls
  have hl : ∀ b, Live (addV m h F3) b → Live m b ∨ F3 b := fun b h => (addV_live h).1
  have n1 : ∀ b, F1 b → ¬ Live (addV m h F3) b := fun b hb hv => (hl b hv).elim (h1.nl b hb) (fun hf => h3 b hb (.inl hf))
  have n4 : ∀ b, F4 b → ¬ Live (addV m h F3) b := fun b hb hv => (hl b hv).elim (k2.nl b hb) (fun hf => k3 b hf hb)
  refine ⟨addV m h F3, F1, addV_up S.s, ⟨.refl addV_sub, F1, Sep.fr h1 (fun _ _ => rfl) (addV_up S.s) n1, fun b hb => .inr hb⟩, k1.fz S.s (fun _ h => h), fun {h' m' Rs'} O' => ?_, fun {h' m' Rs'} O' v => ?_⟩
  · obtain ⟨T, F', hs', hw'⟩ := O'
    have k4 := Sep.fr k2 (fun _ _ => rfl) (addV_up S.s) n4
    obtain ⟨f1, f2⟩ := T.frame h3.ur' k2.lt n4
    refine ⟨(S.then (St.settle S.s F3) (fun b _ hb => hw b (.inr (.inl hb)))).then T (fun b _ hb => hw b (.inl hb)), _, (Sep.fr k4 f1 T.up f2).app hs' (fun b hb hc => (hw' b hc).elim (fun hl => by have := k2.lt b hb; omega) (fun hf => h3 b hf (.inr hb))), fun b hb => hb.elim (fun hb => hw b (.inr (.inr hb))) (fun hb => (hw' b hb).elim (fun hl => .inl (Nat.le_trans S.size hl)) (fun hf => hw b (.inl hf)))⟩
  · obtain ⟨T, F', hs', hw'⟩ := O'
    have T' : St F1 h m h' m := T.unlend S.s h1.nl
    obtain ⟨f1, f2⟩ := T'.frame h3 h2.lt h2.nl
    have n' : ∀ b, F' b → ¬ Live m b := fun b hb hv => (hw' b hb).elim (fun hl => by have := S.s.lt hv; omega) (fun hf => h1.nl b hf hv)
    refine ⟨S.then T' (fun b _ hb => hw b (.inl hb)), _, (Sep.fr h2 f1 T'.up f2).app (hs'.vf v T'.s n') (fun b hb hc => (hw' b hc).elim (fun hl => by have := h2.lt b hb; omega) (fun hf => h3 b hf hb)), fun b hb => hb.elim (fun hb => hw b (.inr hb)) (fun hb => (hw' b hb).elim (fun hl => .inl (Nat.le_trans S.size hl)) (fun hf => hw b (.inl hf)))⟩
theorem Hold.frz (O : Hold W h0 m0 h m Rs) (k : Nat) (hk : Rs[k]? = some R) : ∃ m', Sub m m' ∧ R.z m' ∧ Hold W h0 m0 h m' (Rs.set k rE) := by
  obtain ⟨m1, W', h1, h2, h3, h4, _⟩ := O.lend [] [k]
  refine ⟨m1, h1, ?_, ?_⟩
  · have : takeL (dropL Rs []) [k] = [R] := by simp only [takeL, dropL, hk]
    rw [this] at h3
    exact h3.1
  · have := h4 h2
    simp only [takeL, dropL, List.append_nil] at this
    exact this
end
end Go.Hw

end
section
set_option linter.unusedVariables false
namespace Go.Hw
open Go
structure Asn (α : Type) (sz : Nat) where
  p : Heap → Heap → α → List Value → Foot → Prop
  E : Heap → α → List Value → Prop
  T : Tell sz E
  len : ∀ {h m x cs F}, p h m x cs F → cs.length = sz
  flat : ∀ {h m x cs F}, p h m x cs F → ∀ v ∈ cs, Flat v
  lt : ∀ {h m x cs F}, p h m x cs F → ∀ b, F b → b < h.size
  nl : ∀ {h m x cs F}, p h m x cs F → ∀ b, F b → ¬ Live m b
  fr : ∀ {h m x cs F h' m'}, p h m x cs F → (∀ b, F b → h'[b]? = h[b]?) → Sub m m' → (∀ b, F b → ¬ Live m' b) → p h' m' x cs F
  fz : ∀ {h m x cs F G}, p h m x cs F → Sub m h → (∀ b, F b → G b) → E (addV m h G) x cs
def aE {α : Type} {sz : Nat} {E : Heap → α → List Value → Prop} (T : Tell sz E) : Asn α sz where
  p _ m x cs F := E m x cs ∧ F = No
  E := E
  T := T
  len h := T.len _ _ _ h.1
  flat h := T.flat _ _ _ h.1
  lt := by rintro h m x cs F ⟨_, rfl⟩ b hb; exact hb.elim
  nl := by rintro h m x cs F ⟨_, rfl⟩ b hb; exact hb.elim
  fr := fun h _ s _ => ⟨T.mono _ _ _ _ s h.1, h.2⟩
  fz := fun h s _ => T.mono _ _ _ _ (addV_up s) h.1
def Asn.vf {α : Type} {sz : Nat} (a : Asn α sz) : Prop := ∀ h m m' x cs F, a.p h m x cs F → Sub m' h → (∀ b, F b → ¬ Live m' b) → a.p h m' x cs F
theorem aE_vf {α : Type} {sz : Nat} {E : Heap → α → List Value → Prop} {T : Tell sz E} (hE : ∀ m m' x cs, E m x cs → E m' x cs) : (aE T).vf := fun _ _ _ _ _ _ h _ _ => ⟨hE _ _ _ _ h.1, h.2⟩
theorem Blk.fr {h h' : Heap} {b : Nat} {c : List Value} {t : TypeId} (hb : Blk h b c t) (e : h'[b]? = h[b]?) : Blk h' b c t := by unfold Blk at *; rw [e]; exact hb
def rV (b : Nat) (t : TypeId) (cs : List Value) : Res where
  p h m F := Blk h b cs t ∧ ¬ Live m b ∧ F = fb b
  z m := Blk m b cs t
  lt := by rintro h m F ⟨h1, _, rfl⟩ i hi; unfold fb at hi; subst hi; exact h1.lt
  nl := by rintro h m F ⟨h1, h2, rfl⟩ i hi; unfold fb at hi; subst hi; exact h2
  fr := by rintro h m F h' m' ⟨h1, h2, rfl⟩ k1 _ k3; exact ⟨h1.fr (k1 b rfl), k3 b rfl, rfl⟩
  fz := by rintro h m F G ⟨h1, h2, rfl⟩ _ k2; exact h1.settle (k2 b rfl)
section
variable {α : Type} {sz : Nat}
def CsA (a : Asn α sz) (h m : Heap) : List α → List Value → Foot → Prop
  | [], cs, F => cs = [] ∧ F = No
  | x :: l, cs, F => ∃ c1 c2 F1 F2, cs = c1 ++ c2 ∧ a.p h m x c1 F1 ∧ CsA a h m l c2 F2 ∧ Dj F1 F2 ∧ F = U F1 F2
variable {a : Asn α sz} {h h' m m' : Heap} {l l' : List α} {cs ds : List Value} {F F' F1 F2 G : Foot} {x y : α}
theorem CsA.len : ∀ {l : List α} {cs : List Value} {F : Foot}, CsA a h m l cs F → cs.length = l.length * sz
  | [], _, _, ⟨e, _⟩ => by rw [e]; simp
  | x :: l, _, _, ⟨c1, c2, F1, F2, e, h1, h2, _, _⟩ => by rw [e, List.length_append, CsA.len h2, a.len h1, List.length_cons, Nat.succ_mul, Nat.add_comm]
theorem CsA.flat : ∀ {l : List α} {cs : List Value} {F : Foot}, CsA a h m l cs F → ∀ v ∈ cs, Flat v
  | [], _, _, ⟨e, _⟩ => by rw [e]; exact Flats.nil
  | x :: l, _, _, ⟨c1, c2, F1, F2, e, h1, h2, _, _⟩ => by
    rw [e]; intro v hv
    rcases List.mem_append.1 hv with hv | hv
    · exact a.flat h1 v hv
    · exact CsA.flat h2 v hv
theorem CsA.lt : ∀ {l : List α} {cs : List Value} {F : Foot}, CsA a h m l cs F → ∀ b, F b → b < h.size
  | [], _, _, ⟨_, e⟩, b, hb => by rw [e] at hb; exact hb.elim
  | x :: l, _, _, ⟨c1, c2, F1, F2, _, h1, h2, _, rfl⟩, b, hb => hb.elim (a.lt h1 b) (CsA.lt h2 b)
theorem CsA.nl : ∀ {l : List α} {cs : List Value} {F : Foot}, CsA a h m l cs F → ∀ b, F b → ¬ Live m b
  | [], _, _, ⟨_, e⟩, b, hb => by rw [e] at hb; exact hb.elim
  | x :: l, _, _, ⟨c1, c2, F1, F2, _, h1, h2, _, rfl⟩, b, hb => hb.elim (a.nl h1 b) (CsA.nl h2 b)
theorem CsA.fr : ∀ {l : List α} {cs : List Value} {F : Foot}, CsA a h m l cs F → (∀ b, F b → h'[b]? = h[b]?) → Sub m m' → (∀ b, F b → ¬ Live m' b) → CsA a h' m' l cs F
  | [], _, _, hs, _, _, _ => hs
  | x :: l, _, _, ⟨c1, c2, F1, F2, e, h1, h2, d, rfl⟩, k1, k2, k3 => ⟨c1, c2, F1, F2, e, a.fr h1 (fun b hb => k1 b (.inl hb)) k2 (fun b hb => k3 b (.inl hb)), CsA.fr h2 (fun b hb => k1 b (.inr hb)) k2 (fun b hb => k3 b (.inr hb)), d, rfl⟩
theorem CsA.vf (v : a.vf) : ∀ {l : List α} {cs : List Value} {F : Foot}, CsA a h m l cs F → Sub m' h → (∀ b, F b → ¬ Live m' b) → CsA a h m' l cs F
  | [], _, _, hs, _, _ => hs
  | x :: l, _, _, ⟨c1, c2, F1, F2, e, h1, h2, d, rfl⟩, k1, k2 => ⟨c1, c2, F1, F2, e, v _ _ _ _ _ _ h1 k1 (fun b hb => k2 b (.inl hb)), CsA.vf v h2 k1 (fun b hb => k2 b (.inr hb)), d, rfl⟩
theorem CsA.fz : ∀ {l : List α} {cs : List Value} {F : Foot}, CsA a h m l cs F → Sub m h → (∀ b, F b → G b) → CsE sz a.E (addV m h G) l cs
  | [], _, _, ⟨e, _⟩, _, _ => e
  | x :: l, _, _, ⟨c1, c2, F1, F2, e, h1, h2, d, rfl⟩, k1, k2 => ⟨c1, c2, e, a.len h1, a.fz h1 k1 (fun b hb => k2 b (.inl hb)), CsA.fz h2 k1 (fun b hb => k2 b (.inr hb))⟩
theorem CsA.append : ∀ {l : List α} {cs : List Value} {F : Foot}, CsA a h m l cs F → CsA a h m l' ds F' → Dj F F' → CsA a h m (l ++ l') (cs ++ ds) (U F F')
  | [], _, _, ⟨e, e'⟩, h', _ => by subst e; subst e'; rw [U.no_left]; exact h'
  | x :: l, _, _, ⟨c1, c2, F1, F2, e, h1, h2, d, e'⟩, h', dd => by
    subst e; subst e'
    rw [List.append_assoc]
    exact ⟨c1, _, F1, _, rfl, h1, CsA.append h2 h' dd.ur, Dj.u' d dd.ul, U.assoc⟩
theorem CsE.csa {E : Heap → α → List Value → Prop} {T : Tell sz E} : ∀ {l : List α} {cs : List Value}, CsE sz E m l cs → CsA (aE T) h m l cs No
  | [], _, e => ⟨e, rfl⟩
  | x :: l, _, ⟨c1, c2, e, h1, h2, h3⟩ => ⟨c1, c2, No, No, e, ⟨h2, rfl⟩, CsE.csa h3, .no, U.no_left.symm⟩
theorem CsA.cse {E : Heap → α → List Value → Prop} {T : Tell sz E} : ∀ {l : List α} {cs : List Value} {F : Foot}, CsA (aE T) h m l cs F → CsE sz E m l cs ∧ F = No
  | [], _, _, ⟨e, e'⟩ => ⟨e, e'⟩
  | x :: l, _, _, ⟨c1, c2, F1, F2, e, ⟨h1, h1'⟩, h2, _, e'⟩ => by
    obtain ⟨h3, h3'⟩ := CsA.cse h2
    subst h1'; subst h3'
    exact ⟨⟨c1, c2, e, T.len _ _ _ h1, h1, h3⟩, by rw [e', U.no_left]⟩
end
section
variable {α : Type} {sz : Nat}
def rowP (a : Asn α sz) (A : Option Addr) (c : Nat) (l : List α) (h m : Heap) (F : Foot) : Prop :=
  (l = [] ∧ c = 0 ∧ F = No) ∨ ∃ b t pre cs rest Fe, c ≠ 0 ∧ A = some ⟨b, pre.length, none⟩ ∧ Blk h b (pre ++ cs ++ rest) t ∧ CsA a h m l cs Fe ∧ l.length ≤ c ∧ (c - l.length) * sz ≤ rest.length ∧ ¬ Live m b ∧ ¬ Fe b ∧ F = U (fb b) Fe
def rR (a : Asn α sz) (A : Option Addr) (c : Nat) (l : List α) : Res where
  p := rowP a A c l
  z m := Rd sz a.E m A l ∧ l.length ≤ c
  lt := by
    rintro h m F (⟨_, _, rfl⟩ | ⟨b, t, pre, cs, rest, Fe, k0, k1, k2, k3, k4, k5, k6, k7, rfl⟩) i hi
    · exact hi.elim
    · rcases hi with hi | hi
      · unfold fb at hi; subst hi; exact k2.lt
      · exact k3.lt i hi
  nl := by
    rintro h m F (⟨_, _, rfl⟩ | ⟨b, t, pre, cs, rest, Fe, k0, k1, k2, k3, k4, k5, k6, k7, rfl⟩) i hi
    · exact hi.elim
    · rcases hi with hi | hi
      · unfold fb at hi; subst hi; exact k6
      · exact k3.nl i hi
  fr := by
    rintro h m F h' m' (⟨e1, e2, rfl⟩ | ⟨b, t, pre, cs, rest, Fe, k0, k1, k2, k3, k4, k5, k6, k7, rfl⟩) f1 f2 f3
    · exact .inl ⟨e1, e2, rfl⟩
    · exact .inr ⟨b, t, pre, cs, rest, Fe, k0, k1, k2.fr (f1 b (.inl rfl)), k3.fr (fun i hi => f1 i (.inr hi)) f2 (fun i hi => f3 i (.inr hi)), k4, k5, f3 b (.inl rfl), k7, rfl⟩
  fz := by
    rintro h m F G (⟨e1, e2, rfl⟩ | ⟨b, t, pre, cs, rest, Fe, k0, k1, k2, k3, k4, k5, k6, k7, rfl⟩) f1 f2
    · subst e1; exact ⟨.nil, Nat.zero_le _⟩
    · subst k1
      exact ⟨CsE.rd (k2.settle (f2 b (.inl rfl))) (k3.fz f1 (fun i hi => f2 i (.inr hi))) (fun _ _ h => h), k4⟩
variable {a : Asn α sz} {h h' h0 m m' m0 : Heap} {A : Option Addr} {c n k : Nat} {l l' : List α} {F F' G W : Foot} {x : Int} {y : α} {v : Value} {cs : List Value} {Rs : List Res} {b : Nat} {t : TypeId} {aa : Addr}
variable {E : Heap → α → List Value → Prop} {T : Tell sz E}
theorem rR_vf (v : a.vf) : (rR a A c l).vf := by
  rintro h m m' F (⟨e1, e2, rfl⟩ | ⟨b, t, pre, cs, rest, Fe, k0, k1, k2, k3, k4, k5, k6, k7, rfl⟩) f1 f2
  · exact .inl ⟨e1, e2, rfl⟩
  · exact .inr ⟨b, t, pre, cs, rest, Fe, k0, k1, k2, k3.vf v f1 (fun i hi => f2 i (.inr hi)), k4, k5, f2 b (.inl rfl), k7, rfl⟩
theorem rowP.cap (o : rowP a A c l h m F) : l.length ≤ c := by
  rcases o with ⟨rfl, rfl, _⟩ | ⟨b, t, pre, cs, rest, Fe, k0, k1, k2, k3, k4, _⟩
  · exact Nat.le_refl _
  · exact k4
theorem rowP.os (o : rowP (aE T) A c l h m F) (hw : ∀ b, F b → h0.size ≤ b ∨ W b) : OS W h0 sz E h m A l c ∧ F = fp A c := by
  rcases o with ⟨rfl, rfl, rfl⟩ | ⟨b, t, pre, cs, rest, Fe, k0, k1, k2, k3, k4, k5, k6, k7, rfl⟩
  · exact ⟨.inl ⟨rfl, rfl⟩, funext fun b => propext ⟨fun h => h.elim, fun h => h.1 rfl⟩⟩
  · obtain ⟨k8, rfl⟩ := k3.cse
    refine ⟨.inr ⟨b, t, pre, cs, rest, k1, k2, k8, k4, k5, hw b (.inl rfl), k6⟩, ?_⟩
    rw [U.no_right]
    subst k1
    exact funext fun i => propext ⟨fun hi => ⟨k0, _, rfl, hi.symm⟩, fun ⟨_, a, e, hi⟩ => by cases e; exact hi.symm⟩
theorem OS.rowP (o : OS W h0 sz E h m A l c) : rowP (aE T) A c l h m (fp A c) := by
  by_cases hc : c = 0
  · subst hc
    have := o.cap
    exact .inl ⟨List.length_eq_zero_iff.1 (by omega), rfl, funext fun b => propext ⟨fun h => h.1 rfl, fun h => h.elim⟩⟩
  rcases o with ⟨rfl, rfl⟩ | ⟨b, t, pre, cs, rest, k1, k2, k3, k4, k5, k6, k7⟩
  · exact (hc rfl).elim
  · refine .inr ⟨b, t, pre, cs, rest, No, hc, k1, k2, k3.csa, k4, k5, k7, fun h => h, ?_⟩
    rw [U.no_right]
    subst k1
    exact funext fun i => propext ⟨fun ⟨_, a, e, hi⟩ => by cases e; exact hi.symm, fun hi => ⟨hc, _, rfl, hi.symm⟩⟩
theorem Hold.os (O : Hold W h0 m0 h m Rs) (k : Nat) (hk : Rs[k]? = some (rR (aE T) A c l)) : OS W h0 sz E h m A l c := by
  obtain ⟨F, h1, h2, _⟩ := O.get k hk
  exact (rowP.os h1 h2).1
theorem Hold.ob (O : Hold W h0 m0 h m Rs) (k : Nat) (hk : Rs[k]? = some (rV b t cs)) : OB W h0 h m b cs t := by
  obtain ⟨F, ⟨h1, h3, rfl⟩, h2, _⟩ := O.get k hk
  exact ⟨h1, h2 b rfl, h3⟩
theorem Hold.cap (O : Hold W h0 m0 h m Rs) (k : Nat) (hk : Rs[k]? = some (rR a A c l)) : l.length ≤ c := by
  obtain ⟨F, h1, _⟩ := O.get k hk
  exact rowP.cap h1
theorem Hold.all (O : Hold W h0 m0 h m Rs) (k : Nat) (hk : Rs[k]? = some (rV b t cs)) : cellsH h ⟨b, 0, none⟩ 0 cs.length = some cs := (O.ob k hk).all
theorem Hold.setV (O : Hold W h0 m0 h m Rs) (k : Nat) (hk : Rs[k]? = some (rV b t cs)) {cs' : List Value} (o : OB W h0 h' m b cs' t) (S : St (fb b) h m h' m) : Hold W h0 m0 h' m (Rs.set k (rV b t cs')) := by
  obtain ⟨F, ⟨h1, h3, rfl⟩, h2, h4⟩ := O.get k hk
  exact h4 S ⟨o.1, o.2.2, rfl⟩ (fun _ h => .inl h)
theorem Hold.setR (O : Hold W h0 m0 h m Rs) (k : Nat) (hk : Rs[k]? = some (rR (aE T) A c l)) (o : OS W h0 sz E h' m A l' c) (S : St (fp A c) h m h' m) : Hold W h0 m0 h' m (Rs.set k (rR (aE T) A c l')) := by
  obtain ⟨F, h1, h2, h4⟩ := O.get k hk
  obtain ⟨_, rfl⟩ := rowP.os h1 h2
  exact h4 S o.rowP (fun _ h => .inl h)
variable {K : Heap → Prop}
theorem Hold.new {z : Array Value} (O : Hold W h0 m0 h m Rs) (H : ∀ h', Ext h h' → Hold W h0 m0 h' m (Rs ++ [rV h.size t z.toList]) → K h') : newH h (.cells z t) K :=
  newH_in fun h' hb e hs => H h' e (O.add (St.of_ext O.s e) ⟨hb, St.notLive O.s, rfl⟩ (fun i hi => by unfold fb at hi; omega))
theorem Hold.stA (O : Hold W h0 m0 h m Rs) (k : Nat) (hk : Rs[k]? = some (rV b t cs)) {ds : List Value} (hn : ds.length = cs.length) (hf : ∀ v ∈ ds, Flat v) (H : ∀ h', Hold W h0 m0 h' m (Rs.set k (rV b t ds)) → K h') : ∃ h', stH h ⟨b, 0, none⟩ ds 0 = some h' ∧ K h' := by
  obtain ⟨h', h1, h2, h3⟩ := (O.ob k hk).stA O.s ds hn hf
  exact ⟨h', h1, H h' (O.setV k hk h2 h3)⟩
theorem Hold.stAO (O : Hold W h0 m0 h m Rs) (k : Nat) (hk : Rs[k]? = some (rV b t cs)) {ds : List Value} (hn : ds.length = cs.length) (hf : ∀ v ∈ ds, Flat v) (H : ∀ h', St (fun b' => b' = b) h m h' m → Hold W h0 m0 h' m (Rs.set k (rV b t ds)) → K h') : ∃ h', stH h ⟨b, 0, none⟩ ds 0 = some h' ∧ K h' := by
  obtain ⟨h', h1, h2, h3⟩ := (O.ob k hk).stA O.s ds hn hf
  exact ⟨h', h1, H h' h3 (O.setV k hk h2 h3)⟩
theorem Hold.nil (O : Hold W h0 m0 h m Rs) (a : Asn α sz) (A : Option Addr) : Hold W h0 m0 h m (Rs ++ [rR a A 0 []]) := O.adds (R := rR a A 0 []) (.inl ⟨rfl, rfl, rfl⟩)
theorem Hold.row (O : Hold W h0 m0 h m Rs) (k : Nat) (hk : Rs[k]? = some (rV b t cs)) (a : Asn α sz) (hc : ∃ F, CsA a h m l cs F ∧ F = No) (hn : l.length = c) (h0' : c ≠ 0) : Hold W h0 m0 h m (Rs.set k (rR a (some ⟨b, 0, none⟩) c l)) :=
  O.conv k hk (R' := rR a (some ⟨b, 0, none⟩) c l) fun F hF => by
    obtain ⟨h1, h2, rfl⟩ := hF
    obtain ⟨_, hc, rfl⟩ := hc
    exact ⟨_, .inr ⟨b, t, [], cs, [], No, h0', rfl, by simpa using h1, hc, by omega, by simp [hn], h2, fun h => h, rfl⟩, fun i hi => hi.elim id (fun h => h.elim)⟩
theorem Hold.rowE (O : Hold W h0 m0 h m Rs) (k : Nat) (hk : Rs[k]? = some (rV b t cs)) (T : Tell sz E) (hc : CsE sz E m l cs) (hn : l.length = c) : Hold W h0 m0 h m (Rs.set k (rR (aE T) (some ⟨b, 0, none⟩) c l)) := by
  by_cases h0' : c = 0
  · subst h0'
    refine O.conv k hk (R' := rR (aE T) (some ⟨b, 0, none⟩) 0 l) fun F _ => ⟨No, .inl ⟨List.length_eq_zero_iff.1 hn, rfl, rfl⟩, fun _ h => h.elim⟩
  · exact O.row k hk (aE T) ⟨No, hc.csa, rfl⟩ hn h0'
end
section
variable {α : Type} {sz : Nat} {a : Asn α sz} {h h' h0 m m' m0 : Heap} {A : Option Addr} {c n k : Nat} {l l' xs : List α} {F F' G W : Foot} {x : Int} {y : α} {v X : Value} {cs es : List Value} {Rs : List Res} {b : Nat} {t e : TypeId} {aa : Addr}
variable {E : Heap → α → List Value → Prop} {T : Tell sz E}
theorem rowP.app {bytes : Nat} {z : Array Value} {K : Value → Heap → Prop} {F2 : Foot} (o : rowP a A c l h m F) (s : Sub m h) (hn : n = l.length) (hz : z.size = sz) (h1 : srcCells sz X h = some (xs.length, es)) (h2 : CsA a h m xs es F2) (hd : Dj F F2) (hb0 : 0 < bytes) (g : ap bytes l xs = some l')
    (hk : ∀ A' c' h' F', rowP a A' c' l' h' m F' → St F h m h' m → (∀ b, F' b → F b ∨ F2 b ∨ h.size ≤ b) → K (.slice A' l'.length c') h') : AppW e sz bytes z A n c X h K := by
  subst hn
  obtain ⟨hb, rfl⟩ := ap_e g
  have he := h2.len
  refine ⟨xs.length, es, h1, ?_⟩
  have hpush : ∀ (old : List Value) (Fo : Foot) (hold : oldCells sz A l.length h = some old) (hE : CsA a h m l old Fo) (hFo : ∀ b, Fo b → F b), c < l.length + xs.length →
      ∃ old, oldCells sz A l.length h = some old ∧ ∀ c', l.length + xs.length ≤ c' → K (.slice (some ⟨h.size, 0, none⟩) (l.length + xs.length) c') (h.push (.cells (old.toArray ++ es.toArray ++ zcells z (c' - (l.length + xs.length))) e)) := by
    intro old Fo hold hE hFo hlt
    refine ⟨old, hold, fun c' hc' => ?_⟩
    rw [show (Value.slice (some ⟨h.size, 0, none⟩) (l.length + xs.length) c') = .slice (some ⟨h.size, 0, none⟩) (l ++ xs).length c' by rw [List.length_append]]
    have e1 := Ext.push h (Obj.cells (old.toArray ++ es.toArray ++ zcells z (c' - (l.length + xs.length))) e)
    have S1 := St.of_ext (W := F) s e1
    have hA := hE.append h2 (hd.mono hFo (fun _ h => h))
    have hA' := hA.fr (fun i hi => e1.2 i (hA.lt i hi)) (.refl _) (fun i hi => hA.nl i hi)
    refine hk _ _ _ _ (.inr ⟨h.size, e, [], old ++ es, (zcells z (c' - (l.length + xs.length))).toList, _, by omega, rfl, ?_, hA', by rw [List.length_append]; exact hc', ?_, St.notLive s, fun hf => by have := hA.lt _ hf; omega, rfl⟩) S1 ?_
    · have := Blk.new h (old.toArray ++ es.toArray ++ zcells z (c' - (l.length + xs.length))) e
      simpa using this
    · rw [zc_len, hz, List.length_append]; exact Nat.le_refl _
    · rintro i (hi | hi | hi)
      · unfold fb at hi; exact .inr (.inr (by omega))
      · exact .inl (hFo i hi)
      · exact .inr (.inl hi)
  rcases o with ⟨rfl, rfl, rfl⟩ | ⟨b, t, pre, cs, rest, Fe, k0, rfl, k1, k2, k3, k4, k5, k6, rfl⟩
  · by_cases hx : xs.length = 0
    · have hxs : xs = [] := List.length_eq_zero_iff.1 hx
      subst hxs
      obtain ⟨rfl, rfl⟩ : es = [] ∧ F2 = No := h2
      refine .inl ⟨by simp, ?_⟩
      have fin := hk A 0 h No (.inl ⟨rfl, rfl, rfl⟩) (St.refl s) (fun b hb => .inl hb)
      cases A with
      | none => exact .inl ⟨rfl, fin⟩
      | some a => exact .inr ⟨a, h, rfl, by simp [stH], fin⟩
    · refine .inr ⟨by simp; omega, by simpa using hb, hb0, ?_⟩
      refine hpush [] No ?_ ⟨rfl, rfl⟩ (fun _ h => h) (by simp; omega)
      cases A with
      | none => rfl
      | some a => simp [oldCells, cellsH]
  · have hl := k2.len
    by_cases hle : l.length + xs.length ≤ c
    · refine .inl ⟨hle, .inr ?_⟩
      have hmul : (c - l.length) * sz = xs.length * sz + (c - l.length - xs.length) * sz := by rw [← Nat.add_mul]; congr 1; omega
      have k1' : Blk h b ((pre ++ cs) ++ rest.take (xs.length * sz) ++ rest.drop (xs.length * sz)) t := by rw [List.append_assoc, List.take_append_drop]; exact k1
      obtain ⟨h', s1, b1, o1⟩ := Blk.stH es (a := (⟨b, pre.length, none⟩ : Addr).add (l.length * sz)) (i := 0) k1' (by rw [add_block]) (add_spot _ rfl) (by rw [add_off, List.length_append, hl, Nat.add_zero]) (by rw [List.length_take, he]; omega) (h2.flat)
      refine ⟨_, h', rfl, s1, ?_⟩
      rw [show (Value.slice (some ⟨b, pre.length, none⟩) (l.length + xs.length) c) = .slice (some ⟨b, pre.length, none⟩) (l ++ xs).length c by rw [List.length_append]]
      have S : St (fb b) h m h' m := .only s k5 o1
      have S2 : St (U (fb b) Fe) h m h' m := ⟨S.up, S.s, S.size, fun i hi hn => S.fr i hi (fun h => hn (.inl h)), fun i hi hl => .inl hl⟩
      have hA := k2.append h2 hd.ur
      have nb : ∀ i, U Fe F2 i → i ≠ b := fun i hi e' => by subst e'; exact hi.elim k6 (fun hf => hd i (.inl rfl) hf)
      have hA' := hA.fr (fun i hi => S.fr i (hA.lt i hi) (fun e' => nb i hi e')) (.refl _) (fun i hi => hA.nl i hi)
      refine hk _ _ _ _ (.inr ⟨b, t, pre, cs ++ es, rest.drop (xs.length * sz), _, k0, rfl, by rw [← List.append_assoc pre]; exact b1, hA', by rw [List.length_append]; exact hle, ?_, k5, fun hf => nb b hf rfl, rfl⟩) S2 ?_
      · rw [List.length_drop, List.length_append, show c - (l.length + xs.length) = c - l.length - xs.length by omega]; omega
      · rintro i (hi | hi | hi)
        · exact .inl (.inl hi)
        · exact .inl (.inr hi)
        · exact .inr (.inl hi)
    · refine .inr ⟨by omega, hb, hb0, ?_⟩
      refine hpush cs Fe ?_ k2 (fun _ h => .inr h) (by omega)
      have := k1.cells (a := ⟨b, pre.length, none⟩) rfl rfl (l.length * sz) 0 (by simp [hl])
      simp only [oldCells, this, Nat.add_zero]
      rw [List.append_assoc, List.drop_left, List.take_append_of_le_length (by omega), List.take_of_length_le (by omega)]
variable {K : Value → Heap → Prop} {bytes : Nat} {z : Array Value}
theorem Hold.app (O : Hold W h0 m0 h m Rs) (k : Nat) (hk : Rs[k]? = some (rR (aE T) A c l)) (hn : n = l.length) (hz : z.size = sz) (hs : Src sz E h m X xs) (hb0 : 0 < bytes) (g : ap bytes l xs = some l')
    (H : ∀ A' c' h', Hold W h0 m0 h' m (Rs.set k (rR (aE T) A' c' l')) → K (.slice A' l'.length c') h') : AppW e sz bytes z A n c X h K := by
  obtain ⟨F, h1, h2, h3⟩ := O.get k hk
  obtain ⟨es, s1, s2⟩ := hs
  refine rowP.app h1 O.s hn hz s1 (s2.csa (T := T)) .no' hb0 g fun A' c' h' F' q1 q2 q3 => H A' c' h' (h3 (R' := rR (aE T) A' c' l') q2 q1 fun b hb => ?_)
  rcases q3 b hb with hb | hb | hb
  · exact .inl hb
  · exact hb.elim
  · exact .inr hb
theorem Hold.app0 (O : Hold W h0 m0 h m Rs) (a : Asn α sz) (hn : n = 0) (hz : z.size = sz) (h1 : srcCells sz X h = some (xs.length, es)) (h2 : ∃ F, CsA a h m xs es F ∧ F = No) (hb0 : 0 < bytes) (g : ap bytes ([] : List α) xs = some l')
    (H : ∀ A' c' h', Ext h h' → Hold W h0 m0 h' m (Rs ++ [rR a A' c' l']) → K (.slice A' l'.length c') h') : AppW e sz bytes z A n 0 X h K := by
  obtain ⟨_, h2, rfl⟩ := h2
  refine rowP.app (a := a) (l := []) (F := No) (.inl ⟨rfl, rfl, rfl⟩) O.s hn hz h1 h2 .no' hb0 g fun A' c' h' F' q1 q2 q3 => H A' c' h' q2.ext (O.add q2 q1 fun b hb => ?_)
  rcases q3 b hb with hb | hb | hb
  · exact hb.elim
  · exact hb.elim
  · exact hb
theorem Hold.appE0 (O : Hold W h0 m0 h m Rs) (T : Tell sz E) (hn : n = 0) (hz : z.size = sz) (hs : Src sz E h m X xs) (hb0 : 0 < bytes) (g : ap bytes ([] : List α) xs = some l')
    (H : ∀ A' c' h', Ext h h' → Hold W h0 m0 h' m (Rs ++ [rR (aE T) A' c' l']) → K (.slice A' l'.length c') h') : AppW e sz bytes z A n 0 X h K := by
  obtain ⟨es, s1, s2⟩ := hs
  exact O.app0 (aE T) hn hz s1 ⟨No, s2.csa, rfl⟩ hb0 g H
end
end Go.Hw

end
section
set_option linter.unusedVariables false
namespace Go.Hw
open Go
section
variable {m h : Heap} {a : Addr} {cs ds : List Value} {N n k j : Nat} {v : Value}
theorem ldAn (s : Sub m h) (hc : cellsH m a 0 N = some cs) (hn : N = n) : ldv true n h a = some (.agg cs.toArray) := by subst hn; exact ldA s hc
end
section
variable {α : Type} {sz : Nat} {a : Asn α sz} {h h' h0 m m' m0 : Heap} {A Ai : Option Addr} {c ci n k : Nat} {l li : List α} {ll ll' : List (List α)} {W : Foot} {x : Int} {y : α} {v : Value} {cs : List Value} {Rs Rs' : List Res} {b : Nat} {t : TypeId} {aa : Addr} {K : Heap → Prop}
variable {E : Heap → α → List Value → Prop} {T : Tell sz E}
theorem Hold.ret (O : Hold W h0 m0 h m Rs) (Q : Hold No h m h' m' Rs') : Hold W h0 m0 h' m' (Rs ++ Rs') := by
  obtain ⟨W', h1, h2⟩ := O.call []
  simp only [dropL, takeL] at h1 h2
  exact h2 ⟨⟨Q.S.up, Q.S.s, Q.S.size, fun b hb _ => Q.S.fr b hb (fun h => h), fun b hb hl => (Q.S.lv b hb hl).elim .inl (fun h => h.elim)⟩, by
    obtain ⟨F, k1, k2⟩ := Q.q
    exact ⟨F, k1, fun b hb => (k2 b hb).elim .inl (fun h => h.elim)⟩⟩
theorem vfs_nil : ∀ R ∈ ([] : List Res), R.vf := fun _ h => by cases h
theorem vfs_cons {R : Res} (v : R.vf) (w : ∀ R ∈ Rs, R.vf) : ∀ R' ∈ R :: Rs, R'.vf := fun R' h => by
  rcases List.mem_cons.1 h with rfl | h
  · exact v
  · exact w R' h
theorem Hold.retC (O : Hold W h0 m0 h m Rs) (Q : Hold No h m h' m' Rs') (v : ∀ R ∈ Rs', R.vf) : Hold W h0 m0 h' m (Rs ++ Rs') := by
  obtain ⟨m1, W', h1, h2, _, _, h5⟩ := O.lend [] []
  have s1 : Hold No h m h' m Rs' := by
    refine ⟨Q.S.unlend O.s (fun _ h => h.elim), ?_⟩
    obtain ⟨F, k1, k2⟩ := Q.q
    have T := Q.S.unlend O.s (fun _ h => h.elim)
    exact ⟨F, k1.vf v T.s (fun b hb hl => (k2 b hb).elim (fun h => by have := O.s.lt hl; omega) (fun h => h.elim)), k2⟩
  exact O.ret s1
theorem Hold.lend0 (O : Hold W h0 m0 h m Rs) (ls : List Nat) : ∃ m1, Sub m m1 ∧ Sub m1 h ∧ ZAll m1 (takeL Rs ls) ∧
    (∀ {h' m' : Heap} {Rs' : List Res}, Hold No h m1 h' m' Rs' → Hold W h0 m0 h' m' (dropL Rs ls ++ Rs')) ∧
    (∀ {h' m' : Heap} {Rs' : List Res}, Hold No h m1 h' m' Rs' → (∀ R ∈ Rs', R.vf) → Hold W h0 m0 h' m (Rs ++ Rs')) := by
  obtain ⟨m1, W', h1, h2, h3, h4, h5⟩ := O.lend [] ls
  simp only [dropL, takeL] at h2 h3 h4 h5
  have up : ∀ {h' m' : Heap} {Rs' : List Res}, Hold No h m1 h' m' Rs' → Hold W' h m1 h' m' Rs' := fun Q =>
    ⟨⟨Q.S.up, Q.S.s, Q.S.size, fun b hb _ => Q.S.fr b hb (fun h => h), fun b hb hl => (Q.S.lv b hb hl).elim .inl (fun h => h.elim)⟩, by
      obtain ⟨F, k1, k2⟩ := Q.q
      exact ⟨F, k1, fun b hb => (k2 b hb).elim .inl (fun h => h.elim)⟩⟩
  exact ⟨m1, h1, h2.s, h3, fun Q => h4 (up Q), fun Q v => h5 (up Q) v⟩
theorem Hold.recell (O : Hold W h0 m0 h m Rs) (k : Nat) (hk : Rs[k]? = some (rV b t cs)) {cs' : List Value} (e : cs = cs') : Hold W h0 m0 h m (Rs.set k (rV b t cs')) := by
  subst e
  exact O.conv k hk (R' := rV b t cs) fun F hF => ⟨F, hF, fun _ h => h⟩
end
section
variable {κ ν : Type} [DecidableEq κ] {h h' m m' h0 m0 : Heap} {b k : Nat} {W : Foot} {kv : κ → Value} {es : List (κ × ν)} {q : κ} {x zv : ν} {v z : Value} {P : Program} {t elem : TypeId} {EV : Heap → ν → Value → Prop} {M : MonoV EV} {Rs : List Res}
def FM (EV : Heap → ν → Value → Prop) (kv : κ → Value) (m : Heap) (b : Nat) (es : List (κ × ν)) : Prop := ∃ vs, MapB kv m b vs ∧ MR (EV m) es vs
def rM (M : MonoV EV) (kv : κ → Value) (b : Nat) (es : List (κ × ν)) : Res where
  p h m F := (∃ vs, MapB kv h b vs ∧ MR (EV m) es vs) ∧ ¬ Live m b ∧ F = fb b
  z m := FM EV kv m b es
  lt := by rintro h m F ⟨⟨vs, h1, _⟩, _, rfl⟩ i hi; unfold fb at hi; subst hi; exact h1.lt
  nl := by rintro h m F ⟨_, h2, rfl⟩ i hi; unfold fb at hi; subst hi; exact h2
  fr := by
    rintro h m F h' m' ⟨⟨vs, ⟨e, c, h1, h1'⟩, h2⟩, h3, rfl⟩ k1 k2 k3
    exact ⟨⟨vs, ⟨e, c, by rw [k1 b rfl]; exact h1, h1'⟩, h2.sub M k2⟩, k3 b rfl, rfl⟩
  fz := by
    rintro h m F G ⟨⟨vs, h1, h2⟩, h3, rfl⟩ k1 k2
    have hlt := h1.lt
    obtain ⟨e, c, h1, h1'⟩ := h1
    exact ⟨vs, ⟨e, c, by rw [addV_get hlt (.inr (k2 b rfl))]; exact h1, h1'⟩, h2.sub M (addV_up k1)⟩
omit [DecidableEq κ] in
theorem Hold.om (O : Hold W h0 m0 h m Rs) (k : Nat) (hk : Rs[k]? = some (rM M kv b es)) : OM W h0 EV kv h m b es := by
  obtain ⟨F, ⟨⟨vs, h1, h2⟩, h3, rfl⟩, h4, _⟩ := O.get k hk
  exact ⟨vs, h1, h2, h4 b rfl, h3⟩
omit [DecidableEq κ] in
theorem Hold.mkMap {K : Value → Heap → Prop} (O : Hold W h0 m0 h m Rs) (M : MonoV EV) (kv : κ → Value) (H : ∀ h', Ext h h' → Hold W h0 m0 h' m (Rs ++ [rM M kv h.size ([] : List (κ × ν))]) → K (.map (some h.size)) h') : Gen P (Instr.makeMap t none) h K :=
  gen_makeMap (kv := kv) fun h' b e _ => H h' e (O.add (R := rM M kv h.size ([] : List (κ × ν))) (St.of_ext O.s e) ⟨⟨[], b, rfl⟩, St.notLive O.s, rfl⟩ (fun i hi => by unfold fb at hi; omega))
theorem Hold.mapUpd {K : Unit → Heap → Prop} {es' : List (κ × ν)} (O : Hold W h0 m0 h m Rs) (k : Nat) (hk : Rs[k]? = some (rM M kv b es)) (ok : KeyOk P t kv elem) (q : κ) (he : EV m x v) (e : pset es q x = es') (H : ∀ h', Hold W h0 m0 h' m (Rs.set k (rM M kv b es')) → K () h') : Hwp P (Instr.mapUpdate t (.map (some b)) (kv q) v) h K := by
  subst e
  refine (O.om k hk).upd O.s ok q he fun h' o S => H h' ?_
  obtain ⟨F, ⟨_, h3, rfl⟩, h4, h5⟩ := O.get k hk
  obtain ⟨vs, k1, k2, _, k4⟩ := o
  exact h5 (R' := rM M kv b _) S ⟨⟨vs, k1, k2⟩, k4, rfl⟩ (fun _ h => .inl h)
end
end Go.Hw
namespace Go.Hw
end Go.Hw
namespace Go.Hw
open Go
class SetAt (k : Nat) (L : List Res) (r : Res) (out : outParam (List Res)) : Prop where
  eq : L.set k r = out
instance {a r : Res} {l : List Res} : SetAt 0 (a :: l) r (r :: l) := ⟨rfl⟩
instance {k : Nat} {a r : Res} {l o : List Res} [S : SetAt k l r o] : SetAt (k + 1) (a :: l) r (a :: o) := ⟨by rw [List.set_cons_succ, S.eq]⟩
class GetAt (k : Nat) (L : List Res) (r : outParam Res) : Prop where
  eq : L[k]? = some r
instance {a : Res} {l : List Res} : GetAt 0 (a :: l) a := ⟨rfl⟩
instance {k : Nat} {a r : Res} {l : List Res} [S : GetAt k l r] : GetAt (k + 1) (a :: l) r := ⟨by rw [List.getElem?_cons_succ, S.eq]⟩
class Apd (L M : List Res) (out : outParam (List Res)) : Prop where
  eq : L ++ M = out
instance {M : List Res} : Apd [] M M := ⟨rfl⟩
instance {a : Res} {l M o : List Res} [S : Apd l M o] : Apd (a :: l) M (a :: o) := ⟨by rw [List.cons_append, S.eq]⟩
class PickT (L : List Res) (is : List Nat) (T D : outParam (List Res)) : Prop where
  t : takeL L is = T
  d : dropL L is = D
instance {L : List Res} : PickT L [] [] L := ⟨rfl, rfl⟩
instance {L L2 T D : List Res} {i : Nat} {is : List Nat} {r : Res} [G : GetAt i L r] [S : SetAt i L rE L2] [P : PickT L2 is T D] : PickT L (i :: is) (r :: T) D := ⟨by simp only [takeL, G.eq, S.eq, P.t], by simp only [dropL, S.eq, P.d]⟩
class Nm (L : List Res) (out : outParam (List Res)) : Prop where
  eq : L = out
instance : Nm [] [] := ⟨rfl⟩
instance {a : Res} {l : List Res} : Nm (a :: l) (a :: l) := ⟨rfl⟩
instance {L L' o : List Res} {k : Nat} {r : Res} [N : Nm L L'] [S : SetAt k L' r o] : Nm (L.set k r) o := ⟨by rw [N.eq, S.eq]⟩
instance {L L' M M' o : List Res} [N : Nm L L'] [N' : Nm M M'] [S : Apd L' M' o] : Nm (L ++ M) o := ⟨by rw [N.eq, N'.eq, S.eq]⟩
instance {L L' T D : List Res} {is : List Nat} [N : Nm L L'] [S : PickT L' is T D] : Nm (takeL L is) T := ⟨by rw [N.eq, S.t]⟩
instance {L L' T D : List Res} {is : List Nat} [N : Nm L L'] [S : PickT L' is T D] : Nm (dropL L is) D := ⟨by rw [N.eq, S.d]⟩
theorem Hold.nm {W : Foot} {h0 m0 h m : Heap} {Rs Rs' : List Res} (O : Hold W h0 m0 h m Rs) [N : Nm Rs Rs'] : Hold W h0 m0 h m Rs' := N.eq ▸ O
end Go.Hw

end
section
namespace Go.Hw
open Go Go.RowKit
end Go.Hw

end
section
namespace Go.Hw
open Go
section
variable {α : Type} {sz : Nat} {E : Heap → α → List Value → Prop} {m m' h h' h0 m0 : Heap} {A : Option Addr} {l : List α} {c n : Nat} {W : Nat → Prop}
theorem OS.app_in {e : TypeId} {bytes : Nat} {z : Array Value} {X : Value} {xs : List α} {K : Value → Heap → Prop} (o : OS W h0 sz E h m A l c) (T : Tell sz E) (S : St W h0 m0 h m) (hn : n = l.length) (hs : Src sz E h m X xs) (hin : l.length + xs.length ≤ c)
    (hk : ∀ h', OS W h0 sz E h' m A (l ++ xs) c → St (fp A c) h m h' m → K (.slice A (l ++ xs).length c) h') : AppW e sz bytes z A n c X h K := by
  subst hn
  obtain ⟨es, h1, h2⟩ := hs
  have he := h2.len
  refine ⟨xs.length, es, h1, .inl ⟨hin, ?_⟩⟩
  rcases o with ⟨rfl, rfl⟩ | ⟨b, t, pre, cs, rest, rfl, k1, k2, k3, k4, k5, k6⟩
  · have hxs : xs = [] := List.length_eq_zero_iff.1 (by rw [List.length_nil] at hin; omega)
    subst hxs
    have : es = [] := h2
    subst this
    have fin := hk h (.inl ⟨rfl, rfl⟩) (St.refl S.s)
    cases A with
    | none => exact .inl ⟨rfl, fin⟩
    | some a => exact .inr ⟨a, h, rfl, by simp [stH], fin⟩
  · have hl := k2.len
    have hmul : (c - l.length) * sz = xs.length * sz + (c - l.length - xs.length) * sz := by rw [← Nat.add_mul]; congr 1; omega
    have k1' : Blk h b ((pre ++ cs) ++ rest.take (xs.length * sz) ++ rest.drop (xs.length * sz)) t := by rw [List.append_assoc, List.take_append_drop]; exact k1
    obtain ⟨h', s1, b1, o1⟩ := Blk.stH es (a := (⟨b, pre.length, none⟩ : Addr).add (l.length * sz)) (i := 0) k1' (by rw [add_block]) (add_spot _ rfl) (by rw [add_off, List.length_append, hl, Nat.add_zero]) (by rw [List.length_take, he]; omega) (h2.flat T)
    refine .inr ⟨_, h', rfl, s1, ?_⟩
    rw [show (Value.slice (some ⟨b, pre.length, none⟩) (l.length + xs.length) c) = .slice (some ⟨b, pre.length, none⟩) (l ++ xs).length c by rw [List.length_append]]
    refine hk _ (.inr ⟨b, t, pre, cs ++ es, rest.drop (xs.length * sz), rfl, by rw [← List.append_assoc pre]; exact b1, k2.append h2, by rw [List.length_append]; exact hin, ?_, k5, k6⟩) ?_
    · rw [List.length_drop, List.length_append, show c - (l.length + xs.length) = c - l.length - xs.length by omega]; omega
    · refine ⟨.refl _, fun i o1' j1 j2 => ?_, by rw [o1.1]; exact Nat.le_refl _, fun i hi hw => ?_, fun i _ hl => .inl hl⟩
      · rw [o1.2 i (fun e => k6 (e ▸ ⟨o1', j1, j2⟩))]; exact S.s i o1' j1 j2
      · by_cases hc : c = 0
        · have hes : es = [] := List.length_eq_zero_iff.1 (by rw [he, show xs.length = 0 by omega, Nat.zero_mul])
          subst hes
          simp only [stH, Option.some.injEq] at s1
          rw [s1]
        · exact o1.2 i fun e => hw ⟨hc, _, rfl, e.symm⟩
theorem OS.spare (o : OS W h0 sz E h m A l c) (s : Sub m h) {ds : List Value} (hd : l.length * sz + ds.length ≤ c * sz) (hf : ∀ v ∈ ds, Flat v) {a : Addr} (ha : A = some a) (hc : c ≠ 0) :
    ∃ h', stH h (a.add (l.length * sz)) ds 0 = some h' ∧ OS W h0 sz E h' m A l c ∧ St (fp A c) h m h' m := by
  rcases o with ⟨rfl, rfl⟩ | ⟨b, t, pre, cs, rest, rfl, k1, k2, k3, k4, k5, k6⟩
  · exact absurd rfl hc
  · cases ha
    have hl := k2.len
    have hmul : (c - l.length) * sz + l.length * sz = c * sz := by rw [← Nat.add_mul, Nat.sub_add_cancel k3]
    have k1' : Blk h b ((pre ++ cs) ++ rest.take ds.length ++ rest.drop ds.length) t := by rw [List.append_assoc, List.take_append_drop]; exact k1
    obtain ⟨h', s1, b1, o1⟩ := Blk.stH ds (a := (⟨b, pre.length, none⟩ : Addr).add (l.length * sz)) (i := 0) k1' (by rw [add_block]) (add_spot _ rfl) (by rw [add_off, List.length_append, hl, Nat.add_zero]) (by rw [List.length_take]; omega) hf
    refine ⟨h', s1, .inr ⟨b, t, pre, cs, ds ++ rest.drop ds.length, rfl, by rw [← List.append_assoc]; exact b1, k2, k3, ?_, k5, k6⟩, ?_⟩
    · rw [List.length_append, List.length_drop]; omega
    · refine ⟨.refl _, fun i o1' j1 j2 => ?_, by rw [o1.1]; exact Nat.le_refl _, fun i hi hw => o1.2 i fun e => hw ⟨hc, _, rfl, e.symm⟩, fun i _ hl => .inl hl⟩
      rw [o1.2 i (fun e => k6 (e ▸ ⟨o1', j1, j2⟩))]; exact s i o1' j1 j2
theorem gen_clear0 {P : Program} {t e : TypeId} {cap : Nat} {K : Value → Heap → Prop} (hu : P.underlying t = some (.slice e)) (hk : K (.tuple #[]) h) : Gen P (Builtin.clear_ #[t] 0 #[.slice A 0 cap]) h K := by
  unfold Gen Builtin.clear_
  refine hwp_bind (hwp_underlying hu ?_)
  cases A <;> exact hwp_bind (hwp_pure (hwp_pure hk))
theorem gen_clear {P : Program} {t e : TypeId} {a : Addr} {k cap : Nat} {z : Value} {h' : Heap} {K : Value → Heap → Prop} (hu : P.underlying t = some (.slice e)) (hz : zeroOf P e = some z) (hs : stH h a (Builtin.zeroCells z.cells (k + 1)).toList 0 = some h') (hk : K (.tuple #[]) h') : Gen P (Builtin.clear_ #[t] 0 #[.slice (some a) (k + 1) cap]) h K := by
  unfold Gen Builtin.clear_
  refine hwp_bind (hwp_underlying hu ?_)
  refine hwp_bind (s := zeroValue e) (hwp_zero hz ?_)
  refine hwp_bind (hwp_storeCells a _ 0 hs ?_)
  exact hwp_pure hk
end
end Go.Hw

end
section
set_option linter.unusedVariables false
namespace Go.Hw
open Go
theorem zcells_mk (z : Array Value) (n : Nat) : zcells z n = mkCells z (n * z.size) := rfl
theorem sliceA_zero {A : Option Addr} {c sz : Nat} : sliceA A (Int.toNat (0 : Int)) c sz = A := by
  unfold sliceA
  split
  · rfl
  · cases A with
    | none => rfl
    | some a => simp [Addr.add]
section
variable {α : Type} {sz : Nat} {E : Heap → α → List Value → Prop} {T : Tell sz E} {m m' h h' h0 m0 : Heap} {A : Option Addr} {l l8 : List α} {c c2 n k : Nat} {W : Foot} {P : Program} {t e : TypeId} {zv : Value} {zp : α} {lo hi : Int} {Rs : List Res}
theorem zc_flat {z : Array Value} (hf : ∀ v ∈ z.toList, Flat v) (n : Nat) : ∀ v ∈ (zcells z n).toList, Flat v := by
  rw [zcells_mk, mkCells_flat rfl]
  intro v hv
  obtain ⟨l, h1, h2⟩ := List.mem_flatten.1 hv
  rw [(List.mem_replicate.1 h1).2] at h2
  exact hf v h2
theorem delete_ok {R : Value → Heap → Prop} {x1 x2 : Int} {bytes : Nat} {z : Array Value} (O : Hold W h0 m0 h m Rs) (k : Nat) (hk : Rs[k]? = some (rR (aE T) A c l)) (hu : P.underlying t = some (.slice e)) (hz : zeroOf P e = some zv) (hE : E m zp zv.cells.toList) (g : 0 ≤ x1 ∧ x1 ≤ x2 ∧ x2 ≤ (l.length : Int))
    (H : ∀ h', Hold W h0 m0 h' m (Rs.set k (rR (aE T) A c (l.take x1.toNat ++ l.drop x2.toNat))) → R (.slice A (l.take x1.toNat ++ l.drop x2.toNat).length c) h') :
    0 ≤ x1 ∧ x1 ≤ x2 ∧ x2 ≤ ((l.length : Nat) : Int) ∧ ((l.length : Nat) : Int) ≤ ((c : Nat) : Int) ∧ (splitB (x1 == x2) (R (Value.slice A l.length c) h) (0 ≤ (0 : Int) ∧ (0 : Int) ≤ x1 ∧ x1 ≤ ((c : Nat) : Int) ∧ (0 ≤ x2 ∧ x2 ≤ ((l.length : Nat) : Int) ∧ ((l.length : Nat) : Int) ≤ ((c : Nat) : Int) ∧ (AppW e sz bytes z (sliceA A (Int.toNat (0 : Int)) c sz) (Int.toNat x1 - Int.toNat (0 : Int)) (c - Int.toNat (0 : Int)) (Value.slice (sliceA A (Int.toNat x2) c sz) (Int.toNat ((l.length : Nat) : Int) - Int.toNat x2) (c - Int.toNat x2)) h fun v1_ h2_ => ∃ A3_, ∃ n3_, ∃ c3_, v1_ = (Value.slice A3_ n3_ c3_) ∧ 0 ≤ ((n3_ : Nat) : Int) ∧ ((n3_ : Nat) : Int) ≤ ((l.length : Nat) : Int) ∧ ((l.length : Nat) : Int) ≤ ((c3_ : Nat) : Int) ∧ (Gen P (Builtin.clear_ #[t] 0 #[(Value.slice (sliceA A3_ (Int.toNat ((n3_ : Nat) : Int)) c3_ sz) (Int.toNat ((l.length : Nat) : Int) - Int.toNat ((n3_ : Nat) : Int)) (c3_ - Int.toNat ((n3_ : Nat) : Int)))]) h2_ fun v4_ h5_ => v4_ = (Value.tuple #[]) ∧ R (Value.slice A3_ n3_ c3_) h5_))))) := by
  obtain ⟨g1, g2, g3⟩ := g
  have hc := O.cap k hk
  have o := O.os k hk
  refine ⟨g1, g2, g3, by omega, ?_⟩
  refine split_eq (fun q => ?_) (fun q => ?_)
  · subst q
    have e1 : l.take x1.toNat ++ l.drop x1.toNat = l := List.take_append_drop _ _
    have := H h (by rw [e1]; exact O.conv k hk (R' := rR (aE T) A c l) fun F hF => ⟨F, hF, fun _ h => h⟩)
    rw [e1] at this
    exact this
  · refine ⟨by decide, g1, by omega, by omega, g3, by omega, ?_⟩
    have w1 : sls l 0 x1 = some (l.take x1.toNat) := by rw [sls_of (by omega) g1 (by omega), sl_hi]
    have w2 : sls l x2 (l.length : Int) = some (l.drop x2.toNat) := by rw [sls_of (by omega) g3 (by omega), sl_lo]
    have o1 := o.sls w1 (mx := c) (by omega) (Nat.le_refl _)
    rw [sliceA_zero] at o1 ⊢
    have o2 := o.sls w2 (mx := c) (by omega) (Nat.le_refl _)
    have e1 : Int.toNat x1 - Int.toNat (0 : Int) = (l.take x1.toNat).length := by rw [List.length_take]; omega
    have e2 : Int.toNat ((l.length : Nat) : Int) - Int.toNat x2 = (l.drop x2.toNat).length := by rw [List.length_drop]; omega
    have hlen : (l.take x1.toNat).length + (l.drop x2.toNat).length ≤ l.length := by rw [List.length_take, List.length_drop]; omega
    refine OS.app_in o1 T O.S e1 (o2.srcE e2) (by rw [show c - Int.toNat (0 : Int) = c by simp]; omega) fun h2 o3 S3 => ?_
    rw [show c - Int.toNat (0 : Int) = c by simp] at o3 S3 ⊢
    refine ⟨_, _, _, rfl, Int.natCast_nonneg _, by rw [List.length_append]; omega, by omega, ?_⟩
    rw [show Int.toNat (((l.take x1.toNat ++ l.drop x2.toNat).length : Nat) : Int) = (l.take x1.toNat ++ l.drop x2.toNat).length from rfl, show Int.toNat ((l.length : Nat) : Int) = l.length from rfl]
    by_cases hd : l.length - (l.take x1.toNat ++ l.drop x2.toNat).length = 0
    · rw [hd]
      exact gen_clear0 hu ⟨rfl, H h2 (O.setR k hk o3 S3)⟩
    · obtain ⟨j, hj⟩ : ∃ j, l.length - (l.take x1.toNat ++ l.drop x2.toNat).length = j + 1 := ⟨l.length - (l.take x1.toNat ++ l.drop x2.toNat).length - 1, by omega⟩
      rw [hj]
      have hzs : zv.cells.size = sz := by have := T.len _ _ _ hE; simpa using this
      have hcne : c ≠ 0 := by omega
      obtain ⟨a, ha⟩ : ∃ a, A = some a := by
        rcases o with ⟨rfl, hc0⟩ | ⟨b, t, pre, cs, rest, rfl, _⟩
        · exact absurd hc0 hcne
        · exact ⟨_, rfl⟩
      obtain ⟨h5, s5, o5, S5⟩ := o3.spare (O.setR k hk o3 S3).s (ds := (zcells zv.cells (j + 1)).toList) (by
        rw [zc_len, hzs, ← Nat.add_mul]; exact Nat.mul_le_mul_right _ (by omega)) (zc_flat (T.flat _ _ _ hE) _) ha hcne
      have e5 : sliceA A (l.take x1.toNat ++ l.drop x2.toNat).length c sz = some (a.add ((l.take x1.toNat ++ l.drop x2.toNat).length * sz)) := by
        unfold sliceA; rw [if_neg (by omega), ha]; rfl
      rw [e5]
      refine gen_clear hu hz (h' := h5) s5 ⟨rfl, H h5 (O.setR k hk o5 (S3.then S5 fun b _ hb => .inr hb))⟩
end
end Go.Hw
namespace Go.Hw
open Go
end Go.Hw
namespace Go.Hw
open Go
end Go.Hw

end
section
set_option linter.unusedVariables false
namespace Go.Hw
open Go
end Go.Hw

end
section
set_option linter.unusedVariables false
namespace Go.Hw
open Go
end Go.Hw

end
section
set_option linter.unusedVariables false
namespace Go.Hw
open Go Go.RowKit
end Go.Hw

end
section
set_option linter.unusedVariables false
namespace Go.Hw
open Go
section
variable {P : Program} {h h' : Heap}
theorem gen_copy {t t' e ty : TypeId} {i : TypeInfo} {a b : Addr} {dn dc sn sc : Nat} {es : List Value} {K : Value → Heap → Prop} (hu : P.underlying t = some (.slice e)) (hi : P.info? e = some i)
    (hs : cellsH h b 0 (Nat.min sn dn * i.size) = some es) (hd : stH h a es 0 = some h') (hk : K (.int .i64 ((Nat.min sn dn : Nat) : Int)) h') : Gen P (Builtin.copy_ #[t, t'] ty #[.slice (some a) dn dc, .slice (some b) sn sc]) h K := by
  unfold Gen Builtin.copy_
  refine hwp_bind (hwp_underlying hu ?_)
  refine hwp_bind (s := Builtin.lenOf (.slice (some b) sn sc)) (hwp_pure ?_)
  refine hwp_bind (hwp_sizeOf hi ?_)
  refine hwp_bind (s := Builtin.firstCells i.size (Nat.min sn dn) (.slice (some b) sn sc)) (hwp_loadCells hs ?_)
  refine hwp_bind (hwp_storeCells a _ 0 hd ?_)
  exact hwp_pure hk
theorem overlaps_apart {tS e : TypeId} {rs : Array TypeId} {i : TypeInfo} {a b : Addr} {la ca lb cb : Nat} {cA : Array Value} {tA : TypeId} {fA : Nat × Nat} {cB : List Value} {tB : TypeId} {K : Value → Heap → Prop} (hu : P.underlying tS = some (.slice e)) (hi : P.info? e = some i)
    (hne : a.block ≠ b.block) (hA : h[a.block]? = some (.cells cA tA fA)) (hA0 : cA.size ≠ 0) (hB : Blk h b.block cB tB) (hk : K (.bool false) h) :
    Hwp P (Extern.SlicesOverlaps.overlaps #[tS, tS] rs #[.slice (some a) la ca, .slice (some b) lb cb]) h K := by
  have hnb : (a.block != b.block) = true := by simpa using hne
  have hnb' : (a.block == b.block) = false := by simpa using hne
  have fB : ∀ o, frozenH h ⟨b.block, o, b.spot⟩ = false := by intro o; unfold frozenH; rw [show h[(⟨b.block, o, b.spot⟩ : Addr).block]? = _ from hB]; simp
  have fB' : ∀ o, frozenH h ⟨b.block, o, none⟩ = false := by intro o; unfold frozenH; rw [show h[(⟨b.block, o, none⟩ : Addr).block]? = _ from hB]; simp
  have sA : shapeH h a.block = some (tA, cA.size) := by unfold shapeH; rw [hA]
  have sB : shapeH h b.block = some (tB, cB.length) := by unfold shapeH; rw [show h[b.block]? = _ from hB]; simp
  unfold Extern.SlicesOverlaps.overlaps
  refine hwp_bind (hwp_underlying hu ?_)
  refine hwp_bind (hwp_sizeOf hi ?_)
  show Hwp P (if la = 0 ∨ lb = 0 ∨ i.size = 0 then _ else _) h K
  by_cases h0 : la = 0 ∨ lb = 0 ∨ i.size = 0
  · rw [if_pos h0]; exact hwp_pure hk
  rw [if_neg h0]
  have fb : frozenH h b = false := fB b.off
  have nv : ∀ (x : Addr) (c : Array Value) (t : TypeId) (K' : Unit → Heap → Prop), shapeH h x.block = some (t, c.size) → K' () h → Hwp P (noView x) h K' := by
    intro x c t K' hs hk'
    unfold noView
    refine hwp_bind (s := viewAt x.block) ?_
    unfold viewAt
    refine hwp_bind (s := shape x.block) ?_
    show Hwp P (if (shapeH h x.block).isSome = true then _ else _) h _
    rw [hs, if_pos (show (some (t, c.size)).isSome = true from rfl)]
    exact hk'
  have st : Hwp P (stringish b) h (fun v h' => v = false ∧ h' = h) := by
    unfold stringish
    refine hwp_bind (s := frozen b) ?_
    show Hwp P (if frozenH h b = true then _ else _) h _
    rw [fb, if_neg (by decide)]
    refine hwp_bind (s := shape b.block) ?_
    show Hwp P (match shapeH h b.block with | some (_, n) => frozen { block := b.block, off := n } | none => pure false) h _
    rw [sB]
    exact ⟨fB' _, rfl⟩
  have sta : ∃ x, Hwp P (stringish a) h (fun v h' => v = x ∧ h' = h) := by
    refine ⟨if frozenH h a = true then true else frozenH h ⟨a.block, cA.size, none⟩, ?_⟩
    unfold stringish
    refine hwp_bind (s := frozen a) ?_
    show Hwp P (if frozenH h a = true then _ else _) h _
    by_cases q : frozenH h a = true
    · rw [if_pos q, if_pos q]; exact ⟨rfl, rfl⟩
    · rw [if_neg q, if_neg q]
      refine hwp_bind (s := shape a.block) ?_
      show Hwp P (match shapeH h a.block with | some (_, n) => frozen { block := a.block, off := n } | none => pure false) h _
      rw [sA]
      exact ⟨rfl, rfl⟩
  obtain ⟨x, sta⟩ := sta
  have my : Hwp P (mayBeOne a b) h (fun v h' => v = false ∧ h' = h) := by
    unfold mayBeOne
    refine hwp_bind (Hwp.mono _ ?_ sta)
    rintro v1 h1 ⟨hv1, hh1⟩
    rw [hv1, hh1]
    clear hv1 hh1
    refine hwp_bind (Hwp.mono _ ?_ st)
    rintro v1 h1 ⟨hv1, hh1⟩
    rw [hv1, hh1]
    clear hv1 hh1
    have nn : ∀ (y : Addr) (K' : Bool → Heap → Prop) (v : Option (TypeId × Nat)), shapeH h y.block = v → K' (v matches some (_, 0)) h → Hwp P (do pure ((← shape y.block) matches some (_, 0)) : Sem Bool) h K' := by
      intro y K' v hv hk'
      refine hwp_bind (s := shape y.block) ?_
      show K' _ h
      rw [hv]; exact hk'
    refine hwp_bind (nn a _ _ sA ?_)
    refine hwp_bind (nn b _ _ sB ?_)
    refine hwp_pure ⟨?_, rfl⟩
    cases hc : cA.size with
    | zero => exact absurd hc hA0
    | succ n => simp
  refine hwp_bind (s := frozen a) ?_
  refine hwp_bind (s := frozen b) ?_
  show Hwp P (if (a.block != b.block && frozenH h a && frozenH h b) = true then _ else _) h _
  rw [fb, Bool.and_false, if_neg (by decide)]
  show Hwp P (if (a.block != b.block) = true then _ else _) h K
  rw [if_pos hnb]
  refine hwp_bind (nv a _ _ _ sA ?_)
  refine hwp_bind (nv b cB.toArray tB _ (by rw [sB]; simp) ?_)
  refine hwp_bind (Hwp.mono _ ?_ my)
  rintro v1 h1 ⟨hv1, hh1⟩
  rw [hv1, hh1]
  show Hwp P (if false = true then _ else _) _ K
  rw [if_neg (by decide)]
  refine hwp_pure ?_
  rw [hnb', Bool.false_and, Bool.false_and]
  exact hk
end
end Go.Hw
namespace Go.Hw
open Go
end Go.Hw
namespace Go.Hw
open Go
end Go.Hw
namespace Go.Hw
open Go
end Go.Hw
namespace Go.Hw
open Go
end Go.Hw

end
section
set_option linter.unusedVariables false
namespace Go.Hw
open Go
section
variable {α : Type} {sz : Nat} {E : Heap → α → List Value → Prop} {T : Tell sz E} {m h h' h0 m0 : Heap} {A B : Option Addr} {l vs : List α} {c cB : Nat} {W : Foot} {P : Program} {e t ty : TypeId} {rs : Array TypeId} {i : TypeInfo}
theorem cell_live {a : Addr} {v : Value} (hc : cellH m a = some v) : Live m a.block ∧ ∃ cA t f, m[a.block]? = some (.cells cA t f) ∧ cA.size ≠ 0 := by
  unfold cellH at hc
  split at hc
  · rename_i cA t f hm
    have hsz : cA.size ≠ 0 := by
      intro h0
      split at hc
      · cases hc
      · have := (Array.getElem?_eq_some_iff.1 hc).1; omega
    exact ⟨⟨_, hm, fun hd => by unfold dead at hd; injection hd with h1; subst h1; exact hsz rfl⟩, cA, t, f, hm, hsz⟩
  · cases hc
theorem Rd.live (r : Rd sz E m B vs) (hn : vs ≠ []) (hs : 0 < sz) : ∃ b, B = some b ∧ Live m b.block ∧ ∃ cA t f, m[b.block]? = some (.cells cA t f) ∧ cA.size ≠ 0 := by
  have hl : 0 < vs.length := by cases vs with | nil => exact absurd rfl hn | cons => simp
  obtain ⟨a, cs, hB, hc, _⟩ := r 0 hl
  obtain ⟨n, rfl⟩ : ∃ n, sz = n + 1 := ⟨sz - 1, by omega⟩
  unfold cellsH at hc
  split at hc
  · rename_i v hv
    have := cell_live hv
    rw [add_block, add_block] at this
    exact ⟨a, hB, this⟩
  · cases hc
theorem Only.sub {b : Nat} (s : Sub m h) (hn : ¬ Live m b) (o : Only h h' b) : Sub m h' := fun i o1 j1 j2 => by rw [o.2 i (fun e => hn (e ▸ ⟨o1, j1, j2⟩))]; exact s i o1 j1 j2
theorem St.fpOnly {b : Nat} {o : Nat} (s : Sub m h) (hn : ¬ Live m b) (hc : c ≠ 0) (o' : Only h h' b) : St (fp (some ⟨b, o, none⟩) c) h m h' m :=
  ⟨.refl _, o'.sub s hn, by rw [o'.1]; exact Nat.le_refl _, fun i hi hw => o'.2 i fun e => hw ⟨hc, _, rfl, e.symm⟩, fun i _ hl => .inl hl⟩
theorem src_cells (r : Rd sz E m B vs) (T : Tell sz E) (s : Sub m h) {b : Addr} (hB : B = some b) : ∃ es, cellsH h b 0 (vs.length * sz) = some es ∧ CsE sz E m vs es := by
  subst hB
  obtain ⟨es, h1, h2⟩ := r.srcE (c := 0) T s rfl
  unfold srcCells at h1
  simp only [Option.map_eq_some_iff] at h1
  obtain ⟨l, h3, h4⟩ := h1
  cases h4
  exact ⟨_, h3, h2⟩
def infoB (P : Program) (e : TypeId) (sz : Nat) : Bool := match P.info? e with | some i => i.size == sz | none => false
theorem infoB_e (h : infoB P e sz = true) : ∃ i, P.info? e = some i ∧ i.size = sz := by
  unfold infoB at h
  split at h
  · rename_i i hi; exact ⟨i, hi, beq_iff_eq.1 h⟩
  · cases h
set_option maxHeartbeats 1000000 in
theorem insert_ok {R : Value → Heap → Prop} {x1 : Int} {bytes ov rot : Nat} {z : Array Value} {fn : Func} (O : Hold W h m h m [rR (aE T) A c l]) (r2 : Rd sz E m B vs) (hsz : 0 < sz) (hu : P.underlying t = some (.slice e)) (hinf : infoB P e sz = true) (hz : z.size = sz) (hb0 : 0 < bytes)
    (x1f : P.funcs[ov]? = some fn) (x2f : (fn.name == "runtime.NumGoroutine") = false) (x3f : fn.body.isNone = true) (x4f : Extern.findNext fn = none) (x5f : Extern.find fn = some (Extern.SlicesOverlaps.overlaps #[t, t] rs))
    (g : 0 ≤ x1 ∧ x1 ≤ (l.length : Int)) (gb : (l.length + vs.length) * bytes ≤ 140737488355328) (gn : l.length + vs.length ≤ 4611686018427387904)
    (H : ∀ A' c' h', Hold W h m h' m [rR (aE T) A' c' (l.take x1.toNat ++ vs ++ l.drop x1.toNat)] → R (.slice A' (l.length + vs.length) c') h') :
    0 ≤ x1 ∧ x1 ≤ ((l.length : Nat) : Int) ∧ ((l.length : Nat) : Int) ≤ ((c : Nat) : Int) ∧ (splitB (((vs.length : Nat) : Int) == (0 : Int)) (R (Value.slice A l.length c) h) (splitB (x1 == ((l.length : Nat) : Int)) (AppW e sz bytes z A l.length c (Value.slice B vs.length cB) h fun v1_ h2_ => ∃ A3_, ∃ n3_, ∃ c3_, v1_ = (Value.slice A3_ n3_ c3_) ∧ R (Value.slice A3_ n3_ c3_) h2_) (splitB (decide ((IntKind.wrap .i64 (((l.length : Nat) : Int) + ((vs.length : Nat) : Int))) > ((c : Nat) : Int))) (0 ≤ (0 : Int) ∧ (0 : Int) ≤ x1 ∧ x1 ≤ ((c : Nat) : Int) ∧ (AppZ e sz bytes z (sliceA A (Int.toNat (0 : Int)) c sz) (Int.toNat x1 - Int.toNat (0 : Int)) (c - Int.toNat (0 : Int)) (Value.int .i64 (IntKind.wrap .i64 ((IntKind.wrap .i64 (((l.length : Nat) : Int) + ((vs.length : Nat) : Int))) - x1))) h fun v4_ h5_ => ∃ A6_, ∃ n6_, ∃ c6_, v4_ = (Value.slice A6_ n6_ c6_) ∧ 0 ≤ x1 ∧ x1 ≤ ((n6_ : Nat) : Int) ∧ ((n6_ : Nat) : Int) ≤ ((c6_ : Nat) : Int) ∧ (Gen P (Builtin.copy_ #[t, t] ty #[(Value.slice (sliceA A6_ (Int.toNat x1) c6_ sz) (Int.toNat ((n6_ : Nat) : Int) - Int.toNat x1) (c6_ - Int.toNat x1)), (Value.slice B vs.length cB)]) h5_ fun v7_ h8_ => ∃ x9_, v7_ = (Value.int .i64 x9_) ∧ 0 ≤ (IntKind.wrap .i64 (x1 + ((vs.length : Nat) : Int))) ∧ (IntKind.wrap .i64 (x1 + ((vs.length : Nat) : Int))) ≤ ((n6_ : Nat) : Int) ∧ ((n6_ : Nat) : Int) ≤ ((c6_ : Nat) : Int) ∧ (0 ≤ x1 ∧ x1 ≤ ((l.length : Nat) : Int) ∧ ((l.length : Nat) : Int) ≤ ((c : Nat) : Int) ∧ (Gen P (Builtin.copy_ #[t, t] ty #[(Value.slice (sliceA A6_ (Int.toNat (IntKind.wrap .i64 (x1 + ((vs.length : Nat) : Int)))) c6_ sz) (Int.toNat ((n6_ : Nat) : Int) - Int.toNat (IntKind.wrap .i64 (x1 + ((vs.length : Nat) : Int)))) (c6_ - Int.toNat (IntKind.wrap .i64 (x1 + ((vs.length : Nat) : Int))))), (Value.slice (sliceA A (Int.toNat x1) c sz) (Int.toNat ((l.length : Nat) : Int) - Int.toNat x1) (c - Int.toNat x1))]) h8_ fun v10_ h11_ => ∃ x12_, v10_ = (Value.int .i64 x12_) ∧ R (Value.slice A6_ n6_ c6_) h11_))))) (0 ≤ (0 : Int) ∧ (0 : Int) ≤ (IntKind.wrap .i64 (((l.length : Nat) : Int) + ((vs.length : Nat) : Int))) ∧ (IntKind.wrap .i64 (((l.length : Nat) : Int) + ((vs.length : Nat) : Int))) ≤ ((c : Nat) : Int) ∧ (0 ≤ (IntKind.wrap .i64 (x1 + ((vs.length : Nat) : Int))) ∧ (IntKind.wrap .i64 (x1 + ((vs.length : Nat) : Int))) ≤ (((Int.toNat (IntKind.wrap .i64 (((l.length : Nat) : Int) + ((vs.length : Nat) : Int))) - Int.toNat (0 : Int)) : Nat) : Int) ∧ (((Int.toNat (IntKind.wrap .i64 (((l.length : Nat) : Int) + ((vs.length : Nat) : Int))) - Int.toNat (0 : Int)) : Nat) : Int) ≤ (((c - Int.toNat (0 : Int)) : Nat) : Int) ∧ (ExtF P ov #[(Value.slice B vs.length cB), (Value.slice (sliceA (sliceA A (Int.toNat (0 : Int)) c sz) (Int.toNat (IntKind.wrap .i64 (x1 + ((vs.length : Nat) : Int)))) (c - Int.toNat (0 : Int)) sz) (Int.toNat (((Int.toNat (IntKind.wrap .i64 (((l.length : Nat) : Int) + ((vs.length : Nat) : Int))) - Int.toNat (0 : Int)) : Nat) : Int) - Int.toNat (IntKind.wrap .i64 (x1 + ((vs.length : Nat) : Int)))) ((c - Int.toNat (0 : Int)) - Int.toNat (IntKind.wrap .i64 (x1 + ((vs.length : Nat) : Int)))))] h fun v13_ h14_ => ∃ b15_, v13_ = (Value.bool b15_) ∧ splitB (!b15_) (0 ≤ (IntKind.wrap .i64 (x1 + ((vs.length : Nat) : Int))) ∧ (IntKind.wrap .i64 (x1 + ((vs.length : Nat) : Int))) ≤ (((Int.toNat (IntKind.wrap .i64 (((l.length : Nat) : Int) + ((vs.length : Nat) : Int))) - Int.toNat (0 : Int)) : Nat) : Int) ∧ (((Int.toNat (IntKind.wrap .i64 (((l.length : Nat) : Int) + ((vs.length : Nat) : Int))) - Int.toNat (0 : Int)) : Nat) : Int) ≤ (((c - Int.toNat (0 : Int)) : Nat) : Int) ∧ (0 ≤ x1 ∧ x1 ≤ (((Int.toNat (IntKind.wrap .i64 (((l.length : Nat) : Int) + ((vs.length : Nat) : Int))) - Int.toNat (0 : Int)) : Nat) : Int) ∧ (((Int.toNat (IntKind.wrap .i64 (((l.length : Nat) : Int) + ((vs.length : Nat) : Int))) - Int.toNat (0 : Int)) : Nat) : Int) ≤ (((c - Int.toNat (0 : Int)) : Nat) : Int) ∧ (Gen P (Builtin.copy_ #[t, t] ty #[(Value.slice (sliceA (sliceA A (Int.toNat (0 : Int)) c sz) (Int.toNat (IntKind.wrap .i64 (x1 + ((vs.length : Nat) : Int)))) (c - Int.toNat (0 : Int)) sz) (Int.toNat (((Int.toNat (IntKind.wrap .i64 (((l.length : Nat) : Int) + ((vs.length : Nat) : Int))) - Int.toNat (0 : Int)) : Nat) : Int) - Int.toNat (IntKind.wrap .i64 (x1 + ((vs.length : Nat) : Int)))) ((c - Int.toNat (0 : Int)) - Int.toNat (IntKind.wrap .i64 (x1 + ((vs.length : Nat) : Int))))), (Value.slice (sliceA (sliceA A (Int.toNat (0 : Int)) c sz) (Int.toNat x1) (c - Int.toNat (0 : Int)) sz) (Int.toNat (((Int.toNat (IntKind.wrap .i64 (((l.length : Nat) : Int) + ((vs.length : Nat) : Int))) - Int.toNat (0 : Int)) : Nat) : Int) - Int.toNat x1) ((c - Int.toNat (0 : Int)) - Int.toNat x1))]) h14_ fun v16_ h17_ => ∃ x18_, v16_ = (Value.int .i64 x18_) ∧ 0 ≤ x1 ∧ x1 ≤ (((Int.toNat (IntKind.wrap .i64 (((l.length : Nat) : Int) + ((vs.length : Nat) : Int))) - Int.toNat (0 : Int)) : Nat) : Int) ∧ (((Int.toNat (IntKind.wrap .i64 (((l.length : Nat) : Int) + ((vs.length : Nat) : Int))) - Int.toNat (0 : Int)) : Nat) : Int) ≤ (((c - Int.toNat (0 : Int)) : Nat) : Int) ∧ (Gen P (Builtin.copy_ #[t, t] ty #[(Value.slice (sliceA (sliceA A (Int.toNat (0 : Int)) c sz) (Int.toNat x1) (c - Int.toNat (0 : Int)) sz) (Int.toNat (((Int.toNat (IntKind.wrap .i64 (((l.length : Nat) : Int) + ((vs.length : Nat) : Int))) - Int.toNat (0 : Int)) : Nat) : Int) - Int.toNat x1) ((c - Int.toNat (0 : Int)) - Int.toNat x1)), (Value.slice B vs.length cB)]) h17_ fun v19_ h20_ => ∃ x21_, v19_ = (Value.int .i64 x21_) ∧ R (Value.slice (sliceA A (Int.toNat (0 : Int)) c sz) (Int.toNat (IntKind.wrap .i64 (((l.length : Nat) : Int) + ((vs.length : Nat) : Int))) - Int.toNat (0 : Int)) (c - Int.toNat (0 : Int))) h20_)))) (0 ≤ ((l.length : Nat) : Int) ∧ ((l.length : Nat) : Int) ≤ (((Int.toNat (IntKind.wrap .i64 (((l.length : Nat) : Int) + ((vs.length : Nat) : Int))) - Int.toNat (0 : Int)) : Nat) : Int) ∧ (((Int.toNat (IntKind.wrap .i64 (((l.length : Nat) : Int) + ((vs.length : Nat) : Int))) - Int.toNat (0 : Int)) : Nat) : Int) ≤ (((c - Int.toNat (0 : Int)) : Nat) : Int) ∧ (Gen P (Builtin.copy_ #[t, t] ty #[(Value.slice (sliceA (sliceA A (Int.toNat (0 : Int)) c sz) (Int.toNat ((l.length : Nat) : Int)) (c - Int.toNat (0 : Int)) sz) (Int.toNat (((Int.toNat (IntKind.wrap .i64 (((l.length : Nat) : Int) + ((vs.length : Nat) : Int))) - Int.toNat (0 : Int)) : Nat) : Int) - Int.toNat ((l.length : Nat) : Int)) ((c - Int.toNat (0 : Int)) - Int.toNat ((l.length : Nat) : Int))), (Value.slice B vs.length cB)]) h14_ fun v22_ h23_ => ∃ x24_, v22_ = (Value.int .i64 x24_) ∧ 0 ≤ x1 ∧ x1 ≤ (((Int.toNat (IntKind.wrap .i64 (((l.length : Nat) : Int) + ((vs.length : Nat) : Int))) - Int.toNat (0 : Int)) : Nat) : Int) ∧ (((Int.toNat (IntKind.wrap .i64 (((l.length : Nat) : Int) + ((vs.length : Nat) : Int))) - Int.toNat (0 : Int)) : Nat) : Int) ≤ (((c - Int.toNat (0 : Int)) : Nat) : Int) ∧ (Run P rot #[(Value.slice (sliceA (sliceA A (Int.toNat (0 : Int)) c sz) (Int.toNat x1) (c - Int.toNat (0 : Int)) sz) (Int.toNat (((Int.toNat (IntKind.wrap .i64 (((l.length : Nat) : Int) + ((vs.length : Nat) : Int))) - Int.toNat (0 : Int)) : Nat) : Int) - Int.toNat x1) ((c - Int.toNat (0 : Int)) - Int.toNat x1)), (Value.int .i64 ((vs.length : Nat) : Int))] h23_ fun v25_ h26_ => v25_ = (Value.tuple #[]) ∧ R (Value.slice (sliceA A (Int.toNat (0 : Int)) c sz) (Int.toNat (IntKind.wrap .i64 (((l.length : Nat) : Int) + ((vs.length : Nat) : Int))) - Int.toNat (0 : Int)) (c - Int.toNat (0 : Int))) h26_))))))))) := by
  obtain ⟨i, hi, his⟩ := infoB_e hinf
  obtain ⟨i0, rfl⟩ : ∃ n : Nat, x1 = (n : Int) := ⟨x1.toNat, by omega⟩
  have hil : i0 ≤ l.length := by omega
  have hc := O.cap 0 rfl
  have o := O.os 0 rfl
  have w1 : IntKind.wrap .i64 ((l.length : Int) + (vs.length : Int)) = ((l.length + vs.length : Nat) : Int) := by rw [wrap_in (by omega) (by omega)]; omega
  have w2 : IntKind.wrap .i64 ((i0 : Int) + (vs.length : Int)) = ((i0 + vs.length : Nat) : Int) := by rw [wrap_in (by omega) (by omega)]; omega
  have w3 : IntKind.wrap .i64 (((l.length + vs.length : Nat) : Int) - (i0 : Int)) = ((l.length + vs.length - i0 : Nat) : Int) := by rw [wrap_in (by omega) (by omega)]; omega
  rw [Int.toNat_natCast] at H
  simp only [w1, w2, w3, Int.toNat_natCast, show Int.toNat (0 : Int) = 0 from rfl, Nat.sub_zero]
  have sA0 : sliceA A 0 c sz = A := sliceA_zero
  rw [sA0]
  refine ⟨by omega, by omega, by omega, ?_⟩
  refine split_eq (fun q => ?_) (fun q => ?_)
  · have hv : vs = [] := List.length_eq_zero_iff.1 (by omega)
    subst hv
    refine H A c h ?_
    rw [List.append_nil, List.take_append_drop]
    exact O
  have hvn : vs ≠ [] := by rintro rfl; exact q rfl
  obtain ⟨bv, hB, hlv, cA, tA, fA, hcv, hcs⟩ := r2.live hvn hsz
  refine split_eq (fun q1 => ?_) (fun q1 => ?_)
  · have hi0 : i0 = l.length := by omega
    refine O.app 0 rfl rfl hz (r2.srcE T O.s rfl) hb0 (ap_of gb) fun A' c' h' O' => ?_
    refine ⟨_, _, _, rfl, ?_⟩
    rw [List.length_append]
    refine H A' c' h' ?_
    rw [hi0, List.take_length, List.drop_length, List.append_nil]
    exact O'
  have hlt : i0 < l.length := by omega
  have hAne : c ≠ 0 := by omega
  rcases o with ⟨rfl, hc0⟩ | ⟨b, t0, pre, cs, rest, rfl, k1, k2, k3, k4, k5, k6⟩
  · exact absurd hc0 hAne
  have hcl := k2.len
  have hvb : bv.block ≠ b := fun e => k6 (e ▸ hlv)
  have hA' : (cs.take (i0 * sz)).length = i0 * sz := by rw [List.length_take]; have := Nat.mul_le_mul_right sz hil; omega
  have hB' : (cs.drop (i0 * sz)).length = (l.length - i0) * sz := by rw [List.length_drop, hcl, Nat.sub_mul]
  have hcat : cs.take (i0 * sz) ++ cs.drop (i0 * sz) = cs := List.take_append_drop _ _
  have cA := k2.take i0
  have cB' := k2.drop i0
  have hls : i0 * sz + (l.length - i0) * sz = l.length * sz := by rw [← Nat.add_mul, Nat.add_sub_cancel' hil]
  generalize cs.take (i0 * sz) = csA at *
  generalize cs.drop (i0 * sz) = csB at *
  subst hcat
  have s1 : sliceA (some (⟨b, pre.length, none⟩ : Addr)) i0 c sz = some ((⟨b, pre.length, none⟩ : Addr).add (i0 * sz)) := by unfold sliceA; rw [if_neg (by omega)]; rfl
  refine split_dec (fun q2 => ?_) (fun q2 => ?_)
  · have hm0 : l.length + vs.length - i0 ≠ 0 := by omega
    have him : i0 + (l.length + vs.length - i0) = l.length + vs.length := by omega
    have hle : (l.length + vs.length - i0) * bytes ≤ (l.length + vs.length) * bytes := Nat.mul_le_mul_right _ (by omega)
    rw [s1]
    refine ⟨by decide, by omega, by omega, .i64, l.length + vs.length - i0, rfl, by omega, by omega, .inr ⟨by omega, by rw [him]; exact gb, hb0, by omega, csA, ?_, fun c' hc' => ?_⟩⟩
    · show cellsH h ⟨b, pre.length, none⟩ 0 (i0 * sz) = some csA
      rw [k1.cells rfl rfl _ _ (by simp only [List.length_append]; omega)]
      congr 1
      rw [List.append_assoc, List.append_assoc, Nat.add_zero, List.drop_left, ← hA', List.take_left]
    rw [him] at hc' ⊢
    rw [if_neg (Nat.mul_ne_zero hm0 (by omega))]
    have hZ : (zcells z (l.length + vs.length - i0)).toList.length = (l.length + vs.length - i0) * sz := by rw [zc_len, hz]
    have hZ' : (zcells z (c' - (l.length + vs.length))).toList.length = (c' - (l.length + vs.length)) * sz := by rw [zc_len, hz]
    have kb : Blk (h.push (.cells (csA.toArray ++ (zcells z (l.length + vs.length - i0)).toList.toArray ++ zcells z (c' - (l.length + vs.length))) e)) h.size (csA ++ (zcells z (l.length + vs.length - i0)).toList ++ (zcells z (c' - (l.length + vs.length))).toList) e := by
      have := Blk.new h (csA.toArray ++ (zcells z (l.length + vs.length - i0)).toList.toArray ++ zcells z (c' - (l.length + vs.length))) e
      simpa using this
    have ex := Ext.push h (.cells (csA.toArray ++ (zcells z (l.length + vs.length - i0)).toList.toArray ++ zcells z (c' - (l.length + vs.length))) e)
    generalize (zcells z (l.length + vs.length - i0)).toList = Zl at *
    generalize hZg : (zcells z (c' - (l.length + vs.length))).toList = Zr at *
    generalize h.push (.cells (csA.toArray ++ Zl.toArray ++ zcells z (c' - (l.length + vs.length))) e) = h5 at *
    have sb5 : Sub m h5 := O.s.ext ex
    have n1 : sliceA (some (⟨h.size, 0, none⟩ : Addr)) i0 c' sz = some ((⟨h.size, 0, none⟩ : Addr).add (i0 * sz)) := by unfold sliceA; rw [if_neg (by omega)]; rfl
    have n2 : sliceA (some (⟨h.size, 0, none⟩ : Addr)) (i0 + vs.length) c' sz = some ((⟨h.size, 0, none⟩ : Addr).add ((i0 + vs.length) * sz)) := by unfold sliceA; rw [if_neg (by omega)]; rfl
    refine ⟨_, _, _, rfl, by omega, by omega, by omega, ?_⟩
    subst hB
    rw [n1]
    obtain ⟨csV, v1, v2⟩ := src_cells r2 T sb5 rfl
    have hV := v2.len
    have hmul : (i0 + vs.length) * sz = i0 * sz + vs.length * sz := Nat.add_mul ..
    have hmm : (l.length + vs.length - i0) * sz = vs.length * sz + (l.length - i0) * sz := by rw [← Nat.add_mul]; congr 1; omega
    have e2 : Nat.min vs.length (l.length + vs.length - i0) = vs.length := by show min _ _ = _; omega
    have kb' : Blk h5 h.size (csA ++ Zl.take (vs.length * sz) ++ (Zl.drop (vs.length * sz) ++ Zr)) e := by
      rw [← List.append_assoc, List.append_assoc csA, List.take_append_drop]; exact kb
    obtain ⟨h8, st1, b1, o1⟩ := Blk.stH csV (a := (⟨h.size, 0, none⟩ : Addr).add (i0 * sz)) (i := 0) kb' (by rw [add_block]) (add_spot _ rfl)
      (by rw [add_off]; simp only []; omega) (by rw [List.length_take]; omega) (v2.flat T)
    refine gen_copy hu hi (by rw [e2, his]; exact v1) st1 ?_
    refine ⟨_, rfl, by omega, by omega, by omega, by omega, by omega, by omega, ?_⟩
    rw [n2]
    have e3 : Nat.min (l.length - i0) (l.length + vs.length - (i0 + vs.length)) = l.length - i0 := by show min _ _ = _; omega
    have hbl : b < h.size := k1.lt
    have k8 : Blk h8 b (pre ++ (csA ++ csB) ++ rest) t0 := (k1.ext ex).only o1 (by omega)
    have r8 : cellsH h8 ((⟨b, pre.length, none⟩ : Addr).add (i0 * sz)) 0 (Nat.min (l.length - i0) (l.length + vs.length - (i0 + vs.length)) * i.size) = some csB := by
      rw [e3, his, k8.cells (by rw [add_block]) (add_spot _ rfl) _ _ (by rw [add_off]; simp only [List.length_append]; omega), add_off]
      congr 1
      rw [List.append_assoc, List.append_assoc, Nat.add_zero, ← List.drop_drop, List.drop_left, show i0 * sz = csA.length from hA'.symm, List.drop_left, ← hB', List.take_left]
    have b1' : Blk h8 h.size ((csA ++ csV) ++ Zl.drop (vs.length * sz) ++ Zr) e := by rw [List.append_assoc (csA ++ csV)]; exact b1
    obtain ⟨h11, st2, b2, o2⟩ := Blk.stH csB (a := (⟨h.size, 0, none⟩ : Addr).add ((i0 + vs.length) * sz)) (i := 0) b1' (by rw [add_block]) (add_spot _ rfl)
      (by rw [add_off]; simp only [List.length_append]; omega) (by rw [List.length_drop]; omega) (cB'.flat T)
    refine gen_copy hu hi r8 st2 ?_
    refine ⟨_, rfl, ?_⟩
    have o' : OS No h sz E h11 m (some ⟨h.size, 0, none⟩) (l.take i0 ++ vs ++ l.drop i0) c' := .inr ⟨h.size, e, [], csA ++ csV ++ csB, Zr, rfl, by rw [List.nil_append]; exact b2, (cA.append v2).append cB', by simp only [List.length_append, List.length_take, List.length_drop]; omega, by
      rw [hZ']
      simp only [List.length_append, List.length_take, List.length_drop]
      exact Nat.mul_le_mul_right _ (by omega), .inl (Nat.le_refl _), St.notLive O.s⟩
    exact H _ c' h11 ((O.add (R := rR (aE T) (some ⟨h.size, 0, none⟩) c' (l.take i0 ++ vs ++ l.drop i0)) (St.of_ext O.s ((ex.only o1 (Nat.le_refl _)).only o2 (Nat.le_refl _))) o'.rowP o'.newNo).pick [1])
  · have hnk : l.length + vs.length ≤ c := by omega
    have s2 : sliceA (some (⟨b, pre.length, none⟩ : Addr)) (i0 + vs.length) c sz = some ((⟨b, pre.length, none⟩ : Addr).add ((i0 + vs.length) * sz)) := by unfold sliceA; rw [if_neg (by omega)]; rfl
    rw [s1, s2]
    refine ⟨by decide, by omega, by omega, by omega, by omega, by omega, fn, _, x1f, x2f, x3f, x4f, x5f, ?_⟩
    subst hB
    refine overlaps_apart (cB := pre ++ (csA ++ csB) ++ rest) hu hi (by rw [add_block]; exact hvb) (O.s _ _ hcv (by
      intro hd; unfold dead at hd; injection hd with h1; subst h1; exact hcs rfl)) hcs (by rw [add_block]; exact k1) ?_
    refine ⟨_, rfl, ?_⟩
    refine split_t ?_
    refine ⟨by omega, by omega, by omega, by omega, by omega, by omega, ?_⟩
    have e1 : Nat.min (l.length + vs.length - i0) (l.length + vs.length - (i0 + vs.length)) = l.length - i0 := by show min _ _ = _; omega
    have hrest : vs.length * sz + (c - l.length - vs.length) * sz ≤ rest.length := by
      have : vs.length * sz + (c - l.length - vs.length) * sz = (c - l.length) * sz := by rw [← Nat.add_mul]; congr 1; omega
      omega
    have hmul : (i0 + vs.length) * sz = i0 * sz + vs.length * sz := Nat.add_mul ..
    have r1 : cellsH h ((⟨b, pre.length, none⟩ : Addr).add (i0 * sz)) 0 (Nat.min (l.length + vs.length - i0) (l.length + vs.length - (i0 + vs.length)) * i.size) = some csB := by
      rw [e1, his, k1.cells (by rw [add_block]) (add_spot _ rfl) _ _ (by rw [add_off]; simp only [List.length_append]; omega), add_off]
      congr 1
      rw [List.append_assoc, List.append_assoc, Nat.add_zero, ← List.drop_drop, List.drop_left, show i0 * sz = csA.length from hA'.symm, List.drop_left, ← hB', List.take_left]
    have k1' : Blk h b ((pre ++ csA ++ (csB ++ rest).take (vs.length * sz)) ++ ((csB ++ rest).drop (vs.length * sz)).take csB.length ++ (((csB ++ rest).drop (vs.length * sz)).drop csB.length)) t0 := by
      have : (pre ++ csA ++ (csB ++ rest).take (vs.length * sz)) ++ ((csB ++ rest).drop (vs.length * sz)).take csB.length ++ (((csB ++ rest).drop (vs.length * sz)).drop csB.length) = pre ++ (csA ++ csB) ++ rest := by
        rw [List.append_assoc _ (List.take _ _), List.take_append_drop, List.append_assoc (pre ++ csA), List.take_append_drop]; simp
      rw [this]; exact k1
    have hL : (csB ++ rest).length = csB.length + rest.length := List.length_append
    obtain ⟨h1, st1, b1, o1⟩ := Blk.stH csB (a := (⟨b, pre.length, none⟩ : Addr).add ((i0 + vs.length) * sz)) (i := 0) k1' (by rw [add_block]) (add_spot _ rfl)
      (by rw [add_off]; simp only [List.length_append, List.length_take]; omega) (by rw [List.length_take, List.length_drop]; omega) (cB'.flat T)
    refine gen_copy hu hi r1 st1 ?_
    refine ⟨_, rfl, by omega, by omega, by omega, ?_⟩
    have sb1 : Sub m h1 := o1.sub O.s k6
    obtain ⟨csV, v1, v2⟩ := src_cells r2 T sb1 rfl
    have hV := v2.len
    have e2 : Nat.min vs.length (l.length + vs.length - i0) = vs.length := by show min _ _ = _; omega
    have b1' : Blk h1 b ((pre ++ csA) ++ (csB ++ rest).take (vs.length * sz) ++ (csB ++ (((csB ++ rest).drop (vs.length * sz)).drop csB.length))) t0 := by
      rw [List.append_assoc _ csB] at b1
      exact b1
    obtain ⟨h2, st2, b2, o2⟩ := Blk.stH csV (a := (⟨b, pre.length, none⟩ : Addr).add (i0 * sz)) (i := 0) b1' (by rw [add_block]) (add_spot _ rfl)
      (by rw [add_off]; simp only [List.length_append]; omega) (by rw [List.length_take]; omega) (v2.flat T)
    refine gen_copy hu hi (by rw [e2, his]; exact v1) st2 ?_
    refine ⟨_, rfl, ?_⟩
    refine H _ c h2 ?_
    have := O.setR 0 rfl (l' := l.take i0 ++ vs ++ l.drop i0) (h' := h2) (.inr ⟨b, t0, pre, csA ++ csV ++ csB, ((csB ++ rest).drop (vs.length * sz)).drop csB.length, rfl, ?_, (cA.append v2).append cB', ?_, ?_, k5, k6⟩) (St.fpOnly O.s k6 hAne (o1.trans o2))
    · exact this
    · have e3 : pre ++ (csA ++ csV ++ csB) ++ ((csB ++ rest).drop (vs.length * sz)).drop csB.length = (pre ++ csA) ++ csV ++ (csB ++ (((csB ++ rest).drop (vs.length * sz)).drop csB.length)) := by simp
      rw [e3]; exact b2
    · simp only [List.length_append, List.length_take, List.length_drop]; omega
    · simp only [List.length_append, List.length_take, List.length_drop]
      rw [show c - (min i0 l.length + vs.length + (l.length - i0)) = c - l.length - vs.length by omega]
      omega
end
end Go.Hw

end
section
set_option linter.unusedVariables false
namespace Go.Hw
open Go
section
noncomputable def agreeF {R : Type} (n : Nat) (f : Nat → Option R) : Option R :=
  open Classical in if ∃ r, ∀ j, j < n → f j = some r then f 0 else none
noncomputable def pickF {α R : Type} (left : List α) (over : Option R) (go : α → List α → Option R) : Option R :=
  match left with
  | [] => over
  | _ :: _ => agreeF left.length fun j => (left[j]?).bind fun c => go c (left.eraseIdx j)
variable {α R : Type} {left : List α} {over over' : Option R} {go go' : α → List α → Option R} {r : R}
end
attribute [irreducible] pickF agreeF
end Go.Hw
namespace Go.Hw
open Go
end Go.Hw

end
