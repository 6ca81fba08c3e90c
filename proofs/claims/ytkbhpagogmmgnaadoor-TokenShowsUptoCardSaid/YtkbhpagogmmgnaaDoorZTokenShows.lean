/- Last part: what the law TokenShows needs, put together out of texts of this session. -/
import Derived.Lib.ItoaLen
import Derived.Test.YtkbhpagogmmgnaaDoorRows
import Derived.WalkKit
import Derived.ProofKit
import Derived.OpenShut
import Derived.Deep.DeepHandedRow
import Derived.Deep.DeepWitnessRowRef
import Derived.Deep.DeepLaidRun
import Derived.Lib.LaidTab
import Derived.Stop.LaidErr
import Derived.Test.YtkbhpagogmmgnaaDoorCards
import Derived.Test.YtkbhpagogmmgnaaDoorTie
import Derived.JoinedCond
import Derived.Deep.CondSized
import Derived.Test.YtkbhpagogmmgnaaDoorZTokenShowsc
section
namespace Go.Proofs.YtkbhpagogmmgnaaDoor.Fw
open Go Go.Hw Go.Proofs
set_option linter.unusedVariables false
set_option maxRecDepth 100000
set_option synthInstance.maxHeartbeats 400000
set_option synthInstance.maxSize 1000
def internal_strconv_ParseUint.post (W : Nat → Prop) (h0 m0 : Heap) (r : Int × Unit) (v : Value) (h : Heap) : Prop := ∃ m , Hold W h0 m0 h m [] ∧ v = .tuple #[.int .u64 r.1, .nilIface]
noncomputable def internal_strconv_ParseUint.j5 (x_13 : Int) : Option (Int × Unit) :=
 some (x_13, ())
theorem internal_strconv_ParseUint.j5.walk {W h0 m0 h m x_13} (O : Hold W h0 m0 h m []) {r} (e : internal_strconv_ParseUint.j5 x_13 = some r) : f124.j5 (internal_strconv_ParseUint.post W h0 m0 r) x_13 h := by
 unfold internal_strconv_ParseUint.j5 at e
 refine f124.j5_in ?_
 unfold f124.j5T
 cases e
 exact ⟨_, O.pick [], rfl⟩
noncomputable def internal_strconv_ParseUint.j6 (x_13 : Int) (b_169 : Bool) : Option (Int × Unit) :=
 if b_169 = true then ((none : Option _)) else ((internal_strconv_ParseUint.j5 x_13))
theorem internal_strconv_ParseUint.j6.walk {W h0 m0 h m x_13 b_169} (O : Hold W h0 m0 h m []) {r} (e : internal_strconv_ParseUint.j6 x_13 b_169 = some r) : f124.j6 (internal_strconv_ParseUint.post W h0 m0 r) x_13 b_169 h := by
 unfold internal_strconv_ParseUint.j6 at e
 refine f124.j6_in ?_
 unfold f124.j6T
 refine split_any_e e (fun c1 e => ?_) (fun c1 e => ?_)
 · cases e
 · exact internal_strconv_ParseUint.j5.walk (O.pick []).nm  e
inductive internal_strconv_ParseUint.l0_k.Pt where
 | l0 (x_1 : Int) (b_8 : Bool) (s_9 : ByteArray) (x_10 : Int) (x_11 : Int) (b_12 : Bool) (x_13 : Int) (a_99 : List Int) (x_100 : Int) (x_101 : Int)
 | j11 (x_1 : Int) (b_8 : Bool) (s_9 : ByteArray) (x_10 : Int) (x_11 : Int) (b_12 : Bool) (x_13 : Int) (x_15 : Int) (a_99 : List Int) (x_100 : Int) (x_101 : Int) (b_106 : Bool)
 | j12 (x_1 : Int) (b_8 : Bool) (s_9 : ByteArray) (x_10 : Int) (x_11 : Int) (b_12 : Bool) (x_13 : Int) (x_15 : Int) (a_99 : List Int) (x_100 : Int) (x_101 : Int) (b_112 : Bool)
 | j13 (x_1 : Int) (b_8 : Bool) (s_9 : ByteArray) (x_10 : Int) (x_11 : Int) (b_12 : Bool) (x_13 : Int) (x_15 : Int) (a_99 : List Int) (x_100 : Int) (x_101 : Int) (b_121 : Bool)
 | j10 (x_1 : Int) (b_8 : Bool) (s_9 : ByteArray) (x_10 : Int) (x_11 : Int) (b_12 : Bool) (x_13 : Int) (x_16 : Int) (a_99 : List Int) (x_100 : Int) (x_101 : Int)
 | j14 (x_1 : Int) (b_8 : Bool) (s_9 : ByteArray) (x_10 : Int) (x_11 : Int) (b_12 : Bool) (x_17 : Int) (a_99 : List Int) (x_100 : Int) (x_101 : Int) (b_159 : Bool)
noncomputable def internal_strconv_ParseUint.l0_k.body (go : (p : internal_strconv_ParseUint.l0_k.Pt) → Option (Int × Unit)) : (p : internal_strconv_ParseUint.l0_k.Pt) → Option (Int × Unit)
 | .l0 x_1 b_8 s_9 x_10 x_11 b_12 x_13 a_99 x_100 x_101 => if x_101 < x_100 then (Option.bind (gi a_99 x_101) fun y1 => if y1 = (95 : Int) then ((go (.j11 x_1 b_8 s_9 x_10 x_11 b_12 x_13 y1 a_99 x_100 x_101 b_8))) else ((go (.j11 x_1 b_8 s_9 x_10 x_11 b_12 x_13 y1 a_99 x_100 x_101 false)))) else (if b_12 = true then (Option.bind (internal_strconv_underscoreOK s_9) fun y9 => (internal_strconv_ParseUint.j6 x_13 (!y9))) else ((internal_strconv_ParseUint.j6 x_13 false)))
 | .j11 x_1 b_8 s_9 x_10 x_11 b_12 x_13 x_15 a_99 x_100 x_101 b_106 => if b_106 = true then ((go (.l0 x_1 b_8 s_9 x_10 x_11 true x_13 a_99 x_100 (IntKind.wrap .i64 (x_101 + (1 : Int)))))) else (if (48 : Int) ≤ x_15 then ((go (.j12 x_1 b_8 s_9 x_10 x_11 b_12 x_13 x_15 a_99 x_100 x_101 (decide (x_15 ≤ (57 : Int)))))) else ((go (.j12 x_1 b_8 s_9 x_10 x_11 b_12 x_13 x_15 a_99 x_100 x_101 false))))
 | .j12 x_1 b_8 s_9 x_10 x_11 b_12 x_13 x_15 a_99 x_100 x_101 b_112 => if b_112 = true then ((go (.j10 x_1 b_8 s_9 x_10 x_11 b_12 x_13 (IntKind.wrap .u8 (x_15 - (48 : Int))) a_99 x_100 x_101))) else (Option.bind (internal_strconv_lower x_15) fun y1 => if (97 : Int) ≤ y1 then (Option.bind (internal_strconv_lower x_15) fun y8 => (go (.j13 x_1 b_8 s_9 x_10 x_11 b_12 x_13 x_15 a_99 x_100 x_101 (decide (y8 ≤ (122 : Int)))))) else ((go (.j13 x_1 b_8 s_9 x_10 x_11 b_12 x_13 x_15 a_99 x_100 x_101 false))))
 | .j13 x_1 b_8 s_9 x_10 x_11 b_12 x_13 x_15 a_99 x_100 x_101 b_121 => if b_121 = true then (Option.bind (internal_strconv_lower x_15) fun y1 => (go (.j10 x_1 b_8 s_9 x_10 x_11 b_12 x_13 (IntKind.wrap .u8 ((IntKind.wrap .u8 (y1 - (97 : Int))) + (10 : Int))) a_99 x_100 x_101))) else ((none : Option _))
 | .j10 x_1 b_8 s_9 x_10 x_11 b_12 x_13 x_16 a_99 x_100 x_101 => if x_16 ≥ (IntKind.wrap .u8 x_1) then ((none : Option _)) else (if x_13 ≥ x_10 then ((none : Option _)) else (if (IntKind.wrap .u64 ((IntKind.wrap .u64 (x_13 * (IntKind.wrap .u64 x_1))) + (IntKind.wrap .u64 x_16))) < (IntKind.wrap .u64 (x_13 * (IntKind.wrap .u64 x_1))) then ((go (.j14 x_1 b_8 s_9 x_10 x_11 b_12 (IntKind.wrap .u64 ((IntKind.wrap .u64 (x_13 * (IntKind.wrap .u64 x_1))) + (IntKind.wrap .u64 x_16))) a_99 x_100 x_101 true))) else ((go (.j14 x_1 b_8 s_9 x_10 x_11 b_12 (IntKind.wrap .u64 ((IntKind.wrap .u64 (x_13 * (IntKind.wrap .u64 x_1))) + (IntKind.wrap .u64 x_16))) a_99 x_100 x_101 (decide ((IntKind.wrap .u64 ((IntKind.wrap .u64 (x_13 * (IntKind.wrap .u64 x_1))) + (IntKind.wrap .u64 x_16))) > x_11)))))))
 | .j14 x_1 b_8 s_9 x_10 x_11 b_12 x_17 a_99 x_100 x_101 b_159 => if b_159 = true then ((none : Option _)) else ((go (.l0 x_1 b_8 s_9 x_10 x_11 b_12 x_17 a_99 x_100 (IntKind.wrap .i64 (x_101 + (1 : Int))))))
attribute [local irreducible] internal_strconv_lower in
theorem internal_strconv_ParseUint.l0_k.mono : MonoF (β := fun _ => (Int × Unit)) internal_strconv_ParseUint.l0_k.body := fun f g hfg p => match p with
 | .l0 x_1 b_8 s_9 x_10 x_11 b_12 x_13 a_99 x_100 x_101 => LeO.ite (LeO.bind (LeO.refl _) fun y1 => LeO.ite ((hfg _)) ((hfg _))) (LeO.ite (LeO.bind (LeO.refl _) fun y9 => (LeO.refl _)) ((LeO.refl _)))
 | .j11 x_1 b_8 s_9 x_10 x_11 b_12 x_13 x_15 a_99 x_100 x_101 b_106 => LeO.ite ((hfg _)) (LeO.ite ((hfg _)) ((hfg _)))
 | .j12 x_1 b_8 s_9 x_10 x_11 b_12 x_13 x_15 a_99 x_100 x_101 b_112 => LeO.ite ((hfg _)) (LeO.bind (LeO.refl _) fun y1 => LeO.ite (LeO.bind (LeO.refl _) fun y8 => (hfg _)) ((hfg _)))
 | .j13 x_1 b_8 s_9 x_10 x_11 b_12 x_13 x_15 a_99 x_100 x_101 b_121 => LeO.ite (LeO.bind (LeO.refl _) fun y1 => (hfg _)) (LeO.refl _)
 | .j10 x_1 b_8 s_9 x_10 x_11 b_12 x_13 x_16 a_99 x_100 x_101 => LeO.ite (LeO.refl _) (LeO.ite (LeO.refl _) (LeO.ite ((hfg _)) ((hfg _))))
 | .j14 x_1 b_8 s_9 x_10 x_11 b_12 x_17 a_99 x_100 x_101 b_159 => LeO.ite (LeO.refl _) ((hfg _))
noncomputable def internal_strconv_ParseUint.l0_k.go (p : internal_strconv_ParseUint.l0_k.Pt) : Option (Int × Unit) := fixF (β := fun _ => (Int × Unit)) internal_strconv_ParseUint.l0_k.body p
noncomputable def internal_strconv_ParseUint.l0 (x_1 b_8 s_9 x_10 x_11 b_12 x_13 a_99 x_100 x_101) := internal_strconv_ParseUint.l0_k.go (.l0 x_1 b_8 s_9 x_10 x_11 b_12 x_13 a_99 x_100 x_101)
noncomputable def internal_strconv_ParseUint.j11 (x_1 b_8 s_9 x_10 x_11 b_12 x_13 x_15 a_99 x_100 x_101 b_106) := internal_strconv_ParseUint.l0_k.go (.j11 x_1 b_8 s_9 x_10 x_11 b_12 x_13 x_15 a_99 x_100 x_101 b_106)
noncomputable def internal_strconv_ParseUint.j12 (x_1 b_8 s_9 x_10 x_11 b_12 x_13 x_15 a_99 x_100 x_101 b_112) := internal_strconv_ParseUint.l0_k.go (.j12 x_1 b_8 s_9 x_10 x_11 b_12 x_13 x_15 a_99 x_100 x_101 b_112)
noncomputable def internal_strconv_ParseUint.j13 (x_1 b_8 s_9 x_10 x_11 b_12 x_13 x_15 a_99 x_100 x_101 b_121) := internal_strconv_ParseUint.l0_k.go (.j13 x_1 b_8 s_9 x_10 x_11 b_12 x_13 x_15 a_99 x_100 x_101 b_121)
noncomputable def internal_strconv_ParseUint.j10 (x_1 b_8 s_9 x_10 x_11 b_12 x_13 x_16 a_99 x_100 x_101) := internal_strconv_ParseUint.l0_k.go (.j10 x_1 b_8 s_9 x_10 x_11 b_12 x_13 x_16 a_99 x_100 x_101)
noncomputable def internal_strconv_ParseUint.j14 (x_1 b_8 s_9 x_10 x_11 b_12 x_17 a_99 x_100 x_101 b_159) := internal_strconv_ParseUint.l0_k.go (.j14 x_1 b_8 s_9 x_10 x_11 b_12 x_17 a_99 x_100 x_101 b_159)
theorem internal_strconv_ParseUint.l0_eq (x_1 b_8 s_9 x_10 x_11 b_12 x_13 a_99 x_100 x_101) : internal_strconv_ParseUint.l0 x_1 b_8 s_9 x_10 x_11 b_12 x_13 a_99 x_100 x_101 = if x_101 < x_100 then (Option.bind (gi a_99 x_101) fun y1 => if y1 = (95 : Int) then ((internal_strconv_ParseUint.j11 x_1 b_8 s_9 x_10 x_11 b_12 x_13 y1 a_99 x_100 x_101 b_8)) else ((internal_strconv_ParseUint.j11 x_1 b_8 s_9 x_10 x_11 b_12 x_13 y1 a_99 x_100 x_101 false))) else (if b_12 = true then (Option.bind (internal_strconv_underscoreOK s_9) fun y9 => (internal_strconv_ParseUint.j6 x_13 (!y9))) else ((internal_strconv_ParseUint.j6 x_13 false))) := fixF_eq internal_strconv_ParseUint.l0_k.mono _
theorem internal_strconv_ParseUint.j11_eq (x_1 b_8 s_9 x_10 x_11 b_12 x_13 x_15 a_99 x_100 x_101 b_106) : internal_strconv_ParseUint.j11 x_1 b_8 s_9 x_10 x_11 b_12 x_13 x_15 a_99 x_100 x_101 b_106 = if b_106 = true then ((internal_strconv_ParseUint.l0 x_1 b_8 s_9 x_10 x_11 true x_13 a_99 x_100 (IntKind.wrap .i64 (x_101 + (1 : Int))))) else (if (48 : Int) ≤ x_15 then ((internal_strconv_ParseUint.j12 x_1 b_8 s_9 x_10 x_11 b_12 x_13 x_15 a_99 x_100 x_101 (decide (x_15 ≤ (57 : Int))))) else ((internal_strconv_ParseUint.j12 x_1 b_8 s_9 x_10 x_11 b_12 x_13 x_15 a_99 x_100 x_101 false))) := fixF_eq internal_strconv_ParseUint.l0_k.mono _
theorem internal_strconv_ParseUint.j12_eq (x_1 b_8 s_9 x_10 x_11 b_12 x_13 x_15 a_99 x_100 x_101 b_112) : internal_strconv_ParseUint.j12 x_1 b_8 s_9 x_10 x_11 b_12 x_13 x_15 a_99 x_100 x_101 b_112 = if b_112 = true then ((internal_strconv_ParseUint.j10 x_1 b_8 s_9 x_10 x_11 b_12 x_13 (IntKind.wrap .u8 (x_15 - (48 : Int))) a_99 x_100 x_101)) else (Option.bind (internal_strconv_lower x_15) fun y1 => if (97 : Int) ≤ y1 then (Option.bind (internal_strconv_lower x_15) fun y8 => (internal_strconv_ParseUint.j13 x_1 b_8 s_9 x_10 x_11 b_12 x_13 x_15 a_99 x_100 x_101 (decide (y8 ≤ (122 : Int))))) else ((internal_strconv_ParseUint.j13 x_1 b_8 s_9 x_10 x_11 b_12 x_13 x_15 a_99 x_100 x_101 false))) := fixF_eq internal_strconv_ParseUint.l0_k.mono _
theorem internal_strconv_ParseUint.j13_eq (x_1 b_8 s_9 x_10 x_11 b_12 x_13 x_15 a_99 x_100 x_101 b_121) : internal_strconv_ParseUint.j13 x_1 b_8 s_9 x_10 x_11 b_12 x_13 x_15 a_99 x_100 x_101 b_121 = if b_121 = true then (Option.bind (internal_strconv_lower x_15) fun y1 => (internal_strconv_ParseUint.j10 x_1 b_8 s_9 x_10 x_11 b_12 x_13 (IntKind.wrap .u8 ((IntKind.wrap .u8 (y1 - (97 : Int))) + (10 : Int))) a_99 x_100 x_101)) else ((none : Option _)) := fixF_eq internal_strconv_ParseUint.l0_k.mono _
theorem internal_strconv_ParseUint.j10_eq (x_1 b_8 s_9 x_10 x_11 b_12 x_13 x_16 a_99 x_100 x_101) : internal_strconv_ParseUint.j10 x_1 b_8 s_9 x_10 x_11 b_12 x_13 x_16 a_99 x_100 x_101 = if x_16 ≥ (IntKind.wrap .u8 x_1) then ((none : Option _)) else (if x_13 ≥ x_10 then ((none : Option _)) else (if (IntKind.wrap .u64 ((IntKind.wrap .u64 (x_13 * (IntKind.wrap .u64 x_1))) + (IntKind.wrap .u64 x_16))) < (IntKind.wrap .u64 (x_13 * (IntKind.wrap .u64 x_1))) then ((internal_strconv_ParseUint.j14 x_1 b_8 s_9 x_10 x_11 b_12 (IntKind.wrap .u64 ((IntKind.wrap .u64 (x_13 * (IntKind.wrap .u64 x_1))) + (IntKind.wrap .u64 x_16))) a_99 x_100 x_101 true)) else ((internal_strconv_ParseUint.j14 x_1 b_8 s_9 x_10 x_11 b_12 (IntKind.wrap .u64 ((IntKind.wrap .u64 (x_13 * (IntKind.wrap .u64 x_1))) + (IntKind.wrap .u64 x_16))) a_99 x_100 x_101 (decide ((IntKind.wrap .u64 ((IntKind.wrap .u64 (x_13 * (IntKind.wrap .u64 x_1))) + (IntKind.wrap .u64 x_16))) > x_11)))))) := fixF_eq internal_strconv_ParseUint.l0_k.mono _
theorem internal_strconv_ParseUint.j14_eq (x_1 b_8 s_9 x_10 x_11 b_12 x_17 a_99 x_100 x_101 b_159) : internal_strconv_ParseUint.j14 x_1 b_8 s_9 x_10 x_11 b_12 x_17 a_99 x_100 x_101 b_159 = if b_159 = true then ((none : Option _)) else ((internal_strconv_ParseUint.l0 x_1 b_8 s_9 x_10 x_11 b_12 x_17 a_99 x_100 (IntKind.wrap .i64 (x_101 + (1 : Int))))) := fixF_eq internal_strconv_ParseUint.l0_k.mono _
def internal_strconv_ParseUint.l0_k.I : (p : internal_strconv_ParseUint.l0_k.Pt) → (Int × Unit) → Prop
 | .l0 x_1 b_8 s_9 x_10 x_11 b_12 x_13 a_99 x_100 x_101, r => ∀ {W h0 m0 h m A_99 n_99 c_99} (O : Hold W h0 m0 h m []) (ne_99 : n_99 = List.length a_99) (k_99 : List.length a_99 ≤ c_99) (r_99 : Rd 1 (eInt .u8) m A_99 a_99), f124.l0 (internal_strconv_ParseUint.post W h0 m0 r) x_1 b_8 s_9 x_10 x_11 b_12 x_13 A_99 n_99 c_99 x_100 x_101 h
 | .j11 x_1 b_8 s_9 x_10 x_11 b_12 x_13 x_15 a_99 x_100 x_101 b_106, r => ∀ {W h0 m0 h m A_99 n_99 c_99} (O : Hold W h0 m0 h m []) (ne_99 : n_99 = List.length a_99) (k_99 : List.length a_99 ≤ c_99) (r_99 : Rd 1 (eInt .u8) m A_99 a_99), f124.j11 (internal_strconv_ParseUint.post W h0 m0 r) x_1 b_8 s_9 x_10 x_11 b_12 x_13 x_15 A_99 n_99 c_99 x_100 x_101 b_106 h
 | .j12 x_1 b_8 s_9 x_10 x_11 b_12 x_13 x_15 a_99 x_100 x_101 b_112, r => ∀ {W h0 m0 h m A_99 n_99 c_99} (O : Hold W h0 m0 h m []) (ne_99 : n_99 = List.length a_99) (k_99 : List.length a_99 ≤ c_99) (r_99 : Rd 1 (eInt .u8) m A_99 a_99), f124.j12 (internal_strconv_ParseUint.post W h0 m0 r) x_1 b_8 s_9 x_10 x_11 b_12 x_13 x_15 A_99 n_99 c_99 x_100 x_101 b_112 h
 | .j13 x_1 b_8 s_9 x_10 x_11 b_12 x_13 x_15 a_99 x_100 x_101 b_121, r => ∀ {W h0 m0 h m A_99 n_99 c_99} (O : Hold W h0 m0 h m []) (ne_99 : n_99 = List.length a_99) (k_99 : List.length a_99 ≤ c_99) (r_99 : Rd 1 (eInt .u8) m A_99 a_99), f124.j13 (internal_strconv_ParseUint.post W h0 m0 r) x_1 b_8 s_9 x_10 x_11 b_12 x_13 x_15 A_99 n_99 c_99 x_100 x_101 b_121 h
 | .j10 x_1 b_8 s_9 x_10 x_11 b_12 x_13 x_16 a_99 x_100 x_101, r => ∀ {W h0 m0 h m A_99 n_99 c_99} (O : Hold W h0 m0 h m []) (ne_99 : n_99 = List.length a_99) (k_99 : List.length a_99 ≤ c_99) (r_99 : Rd 1 (eInt .u8) m A_99 a_99), f124.j10 (internal_strconv_ParseUint.post W h0 m0 r) x_1 b_8 s_9 x_10 x_11 b_12 x_13 x_16 A_99 n_99 c_99 x_100 x_101 h
 | .j14 x_1 b_8 s_9 x_10 x_11 b_12 x_17 a_99 x_100 x_101 b_159, r => ∀ {W h0 m0 h m A_99 n_99 c_99} (O : Hold W h0 m0 h m []) (ne_99 : n_99 = List.length a_99) (k_99 : List.length a_99 ≤ c_99) (r_99 : Rd 1 (eInt .u8) m A_99 a_99), f124.j14 (internal_strconv_ParseUint.post W h0 m0 r) x_1 b_8 s_9 x_10 x_11 b_12 x_17 A_99 n_99 c_99 x_100 x_101 b_159 h
theorem internal_strconv_ParseUint.l0_k.step_l0 (go : (p : internal_strconv_ParseUint.l0_k.Pt) → Option (Int × Unit)) (ih : ∀ p r, go p = some r → internal_strconv_ParseUint.l0_k.I p r) (x_1 b_8 s_9 x_10 x_11 b_12 x_13 a_99 x_100 x_101) (r) (e : internal_strconv_ParseUint.l0_k.body go (.l0 x_1 b_8 s_9 x_10 x_11 b_12 x_13 a_99 x_100 x_101) = some r) : internal_strconv_ParseUint.l0_k.I (.l0 x_1 b_8 s_9 x_10 x_11 b_12 x_13 a_99 x_100 x_101) r := by
 unfold internal_strconv_ParseUint.l0_k.body at e
 intro W h0 m0 h m A_99 n_99 c_99 O ne_99 k_99 r_99
 subst ne_99
 refine f124.l0_in ?_
 unfold f124.l0T
 refine split_dec_e e (fun c17 e => ?_) (fun c17 e => ?_)
 · obtain ⟨y1, g2, e⟩ := bind_e e
   refine r_99.addr rfl g2 fun a3 cs4 ha5 hc6 he7 => ?_
   obtain rfl : cs4 = [(Value.int .u8 y1)] := he7
   refine ⟨_, ld0 O.s hc6 rfl, _, rfl, ?_⟩
   refine split_eq_e e (fun c8 e => ?_) (fun c8 e => ?_)
   · exact (ih _ _ e) (O.pick []).nm rfl k_99 r_99
   · exact (ih _ _ e) (O.pick []).nm rfl k_99 r_99
 · refine split_any_e e (fun c16 e => ?_) (fun c16 e => ?_)
   · obtain ⟨y9, g10, e⟩ := bind_e e
     refine (internal_strconv_underscoreOK.walk (Hold.start (W := No) O.s)  g10).mono ?_
     rintro _ h11 ⟨m12, Q13, rfl⟩
     have O15 := Hold.nm (O.retC Q13 vfs_nil)
     refine ⟨_, rfl, ?_⟩
     exact internal_strconv_ParseUint.j6.walk (O15.pick []).nm  e
   · exact internal_strconv_ParseUint.j6.walk (O.pick []).nm  e
theorem internal_strconv_ParseUint.l0_k.step_j11 (go : (p : internal_strconv_ParseUint.l0_k.Pt) → Option (Int × Unit)) (ih : ∀ p r, go p = some r → internal_strconv_ParseUint.l0_k.I p r) (x_1 b_8 s_9 x_10 x_11 b_12 x_13 x_15 a_99 x_100 x_101 b_106) (r) (e : internal_strconv_ParseUint.l0_k.body go (.j11 x_1 b_8 s_9 x_10 x_11 b_12 x_13 x_15 a_99 x_100 x_101 b_106) = some r) : internal_strconv_ParseUint.l0_k.I (.j11 x_1 b_8 s_9 x_10 x_11 b_12 x_13 x_15 a_99 x_100 x_101 b_106) r := by
 unfold internal_strconv_ParseUint.l0_k.body at e
 intro W h0 m0 h m A_99 n_99 c_99 O ne_99 k_99 r_99
 subst ne_99
 refine f124.j11_in ?_
 unfold f124.j11T
 refine split_any_e e (fun c2 e => ?_) (fun c2 e => ?_)
 · exact (ih _ _ e) (O.pick []).nm rfl k_99 r_99
 · refine split_dec_e e (fun c1 e => ?_) (fun c1 e => ?_)
   · exact (ih _ _ e) (O.pick []).nm rfl k_99 r_99
   · exact (ih _ _ e) (O.pick []).nm rfl k_99 r_99
theorem internal_strconv_ParseUint.l0_k.step_j12 (go : (p : internal_strconv_ParseUint.l0_k.Pt) → Option (Int × Unit)) (ih : ∀ p r, go p = some r → internal_strconv_ParseUint.l0_k.I p r) (x_1 b_8 s_9 x_10 x_11 b_12 x_13 x_15 a_99 x_100 x_101 b_112) (r) (e : internal_strconv_ParseUint.l0_k.body go (.j12 x_1 b_8 s_9 x_10 x_11 b_12 x_13 x_15 a_99 x_100 x_101 b_112) = some r) : internal_strconv_ParseUint.l0_k.I (.j12 x_1 b_8 s_9 x_10 x_11 b_12 x_13 x_15 a_99 x_100 x_101 b_112) r := by
 unfold internal_strconv_ParseUint.l0_k.body at e
 intro W h0 m0 h m A_99 n_99 c_99 O ne_99 k_99 r_99
 subst ne_99
 refine f124.j12_in ?_
 unfold f124.j12T
 refine split_any_e e (fun c16 e => ?_) (fun c16 e => ?_)
 · exact (ih _ _ e) (O.pick []).nm rfl k_99 r_99
 · obtain ⟨y1, g2, e⟩ := bind_e e
   refine (internal_strconv_lower.walk (Hold.start (W := No) O.s)  g2).mono ?_
   rintro _ h3 ⟨m4, Q5, rfl⟩
   have O7 := Hold.nm (O.retC Q5 vfs_nil)
   refine ⟨_, rfl, ?_⟩
   refine split_dec_e e (fun c15 e => ?_) (fun c15 e => ?_)
   · obtain ⟨y8, g9, e⟩ := bind_e e
     refine (internal_strconv_lower.walk (Hold.start (W := No) O7.s)  g9).mono ?_
     rintro _ h10 ⟨m11, Q12, rfl⟩
     have O14 := Hold.nm (O7.retC Q12 vfs_nil)
     refine ⟨_, rfl, ?_⟩
     exact (ih _ _ e) (O14.pick []).nm rfl k_99 r_99
   · exact (ih _ _ e) (O7.pick []).nm rfl k_99 r_99
theorem internal_strconv_ParseUint.l0_k.step_j13 (go : (p : internal_strconv_ParseUint.l0_k.Pt) → Option (Int × Unit)) (ih : ∀ p r, go p = some r → internal_strconv_ParseUint.l0_k.I p r) (x_1 b_8 s_9 x_10 x_11 b_12 x_13 x_15 a_99 x_100 x_101 b_121) (r) (e : internal_strconv_ParseUint.l0_k.body go (.j13 x_1 b_8 s_9 x_10 x_11 b_12 x_13 x_15 a_99 x_100 x_101 b_121) = some r) : internal_strconv_ParseUint.l0_k.I (.j13 x_1 b_8 s_9 x_10 x_11 b_12 x_13 x_15 a_99 x_100 x_101 b_121) r := by
 unfold internal_strconv_ParseUint.l0_k.body at e
 intro W h0 m0 h m A_99 n_99 c_99 O ne_99 k_99 r_99
 subst ne_99
 refine f124.j13_in ?_
 unfold f124.j13T
 refine split_any_e e (fun c8 e => ?_) (fun c8 e => ?_)
 · obtain ⟨y1, g2, e⟩ := bind_e e
   refine (internal_strconv_lower.walk (Hold.start (W := No) O.s)  g2).mono ?_
   rintro _ h3 ⟨m4, Q5, rfl⟩
   have O7 := Hold.nm (O.retC Q5 vfs_nil)
   refine ⟨_, rfl, ?_⟩
   exact (ih _ _ e) (O7.pick []).nm rfl k_99 r_99
 · cases e
theorem internal_strconv_ParseUint.l0_k.step_j10 (go : (p : internal_strconv_ParseUint.l0_k.Pt) → Option (Int × Unit)) (ih : ∀ p r, go p = some r → internal_strconv_ParseUint.l0_k.I p r) (x_1 b_8 s_9 x_10 x_11 b_12 x_13 x_16 a_99 x_100 x_101) (r) (e : internal_strconv_ParseUint.l0_k.body go (.j10 x_1 b_8 s_9 x_10 x_11 b_12 x_13 x_16 a_99 x_100 x_101) = some r) : internal_strconv_ParseUint.l0_k.I (.j10 x_1 b_8 s_9 x_10 x_11 b_12 x_13 x_16 a_99 x_100 x_101) r := by
 unfold internal_strconv_ParseUint.l0_k.body at e
 intro W h0 m0 h m A_99 n_99 c_99 O ne_99 k_99 r_99
 subst ne_99
 refine f124.j10_in ?_
 unfold f124.j10T
 refine split_dec_e e (fun c3 e => ?_) (fun c3 e => ?_)
 · cases e
 · refine split_dec_e e (fun c2 e => ?_) (fun c2 e => ?_)
   · cases e
   · refine split_dec_e e (fun c1 e => ?_) (fun c1 e => ?_)
     · exact (ih _ _ e) (O.pick []).nm rfl k_99 r_99
     · exact (ih _ _ e) (O.pick []).nm rfl k_99 r_99
theorem internal_strconv_ParseUint.l0_k.step_j14 (go : (p : internal_strconv_ParseUint.l0_k.Pt) → Option (Int × Unit)) (ih : ∀ p r, go p = some r → internal_strconv_ParseUint.l0_k.I p r) (x_1 b_8 s_9 x_10 x_11 b_12 x_17 a_99 x_100 x_101 b_159) (r) (e : internal_strconv_ParseUint.l0_k.body go (.j14 x_1 b_8 s_9 x_10 x_11 b_12 x_17 a_99 x_100 x_101 b_159) = some r) : internal_strconv_ParseUint.l0_k.I (.j14 x_1 b_8 s_9 x_10 x_11 b_12 x_17 a_99 x_100 x_101 b_159) r := by
 unfold internal_strconv_ParseUint.l0_k.body at e
 intro W h0 m0 h m A_99 n_99 c_99 O ne_99 k_99 r_99
 subst ne_99
 refine f124.j14_in ?_
 unfold f124.j14T
 refine split_any_e e (fun c1 e => ?_) (fun c1 e => ?_)
 · cases e
 · exact (ih _ _ e) (O.pick []).nm rfl k_99 r_99
theorem internal_strconv_ParseUint.l0_k.all {p : internal_strconv_ParseUint.l0_k.Pt} {r : (Int × Unit)} (e : internal_strconv_ParseUint.l0_k.go p = some r) : internal_strconv_ParseUint.l0_k.I p r := fixF_ind (β := fun _ => (Int × Unit)) internal_strconv_ParseUint.l0_k.mono (I := internal_strconv_ParseUint.l0_k.I) (fun go ih p r e => match p with
 | .l0 x_1 b_8 s_9 x_10 x_11 b_12 x_13 a_99 x_100 x_101 => internal_strconv_ParseUint.l0_k.step_l0 go ih x_1 b_8 s_9 x_10 x_11 b_12 x_13 a_99 x_100 x_101 r e
 | .j11 x_1 b_8 s_9 x_10 x_11 b_12 x_13 x_15 a_99 x_100 x_101 b_106 => internal_strconv_ParseUint.l0_k.step_j11 go ih x_1 b_8 s_9 x_10 x_11 b_12 x_13 x_15 a_99 x_100 x_101 b_106 r e
 | .j12 x_1 b_8 s_9 x_10 x_11 b_12 x_13 x_15 a_99 x_100 x_101 b_112 => internal_strconv_ParseUint.l0_k.step_j12 go ih x_1 b_8 s_9 x_10 x_11 b_12 x_13 x_15 a_99 x_100 x_101 b_112 r e
 | .j13 x_1 b_8 s_9 x_10 x_11 b_12 x_13 x_15 a_99 x_100 x_101 b_121 => internal_strconv_ParseUint.l0_k.step_j13 go ih x_1 b_8 s_9 x_10 x_11 b_12 x_13 x_15 a_99 x_100 x_101 b_121 r e
 | .j10 x_1 b_8 s_9 x_10 x_11 b_12 x_13 x_16 a_99 x_100 x_101 => internal_strconv_ParseUint.l0_k.step_j10 go ih x_1 b_8 s_9 x_10 x_11 b_12 x_13 x_16 a_99 x_100 x_101 r e
 | .j14 x_1 b_8 s_9 x_10 x_11 b_12 x_17 a_99 x_100 x_101 b_159 => internal_strconv_ParseUint.l0_k.step_j14 go ih x_1 b_8 s_9 x_10 x_11 b_12 x_17 a_99 x_100 x_101 b_159 r e
 ) e
noncomputable def internal_strconv_ParseUint.j3 (s_0 : ByteArray) (x_1 : Int) (x_2 : Int) (b_8 : Bool) (s_9 : ByteArray) (x_10 : Int) : Option (Int × Unit) :=
 if 0 ≤ (IntKind.wrap .u64 x_2) then ((internal_strconv_ParseUint.l0 x_1 b_8 s_9 x_10 (IntKind.wrap .u64 ((shlI .u64 (1 : Int) (IntKind.wrap .u64 x_2)) - (1 : Int))) false (0 : Int) (bytesI s_0) (((List.length (bytesI s_0)) : Nat) : Int) (0 : Int))) else none
theorem internal_strconv_ParseUint.j3.walk {W h0 m0 h m s_0 x_1 x_2 b_8 s_9 x_10} (O : Hold W h0 m0 h m []) {r} (e : internal_strconv_ParseUint.j3 s_0 x_1 x_2 b_8 s_9 x_10 = some r) : f124.j3 (internal_strconv_ParseUint.post W h0 m0 r) s_0 x_1 x_2 b_8 s_9 x_10 h := by
 unfold internal_strconv_ParseUint.j3 at e
 refine f124.j3_in ?_
 unfold f124.j3T
 obtain ⟨g1, e⟩ := guard_e e
 refine ⟨g1, ?_⟩
 refine O.s2b (u := .string) (e := 5) (by kernel_rfl) (by kernel_rfl) (by kernel_rfl) fun h2 m3 A4 c5 x6 u7 r8 k9 O10 => ?_
 refine ⟨_, _, _, rfl, ?_⟩
 have O11 := O10.nm
 exact (internal_strconv_ParseUint.l0_k.all e) (O11.pick []).nm rfl k9 r8
noncomputable def internal_strconv_ParseUint.j1 (s_0 : ByteArray) (x_1 : Int) (x_2 : Int) (b_8 : Bool) (s_9 : ByteArray) : Option (Int × Unit) :=
 if x_1 = (10 : Int) then ((internal_strconv_ParseUint.j3 s_0 x_1 x_2 b_8 s_9 (1844674407370955162 : Int))) else (if x_1 = (16 : Int) then ((internal_strconv_ParseUint.j3 s_0 x_1 x_2 b_8 s_9 (1152921504606846976 : Int))) else (if (IntKind.wrap .u64 x_1) ≠ 0 then ((internal_strconv_ParseUint.j3 s_0 x_1 x_2 b_8 s_9 (IntKind.wrap .u64 ((IntKind.wrap .u64 (Int.tdiv (18446744073709551615 : Int) (IntKind.wrap .u64 x_1))) + (1 : Int))))) else none))
theorem internal_strconv_ParseUint.j1.walk {W h0 m0 h m s_0 x_1 x_2 b_8 s_9} (O : Hold W h0 m0 h m []) {r} (e : internal_strconv_ParseUint.j1 s_0 x_1 x_2 b_8 s_9 = some r) : f124.j1 (internal_strconv_ParseUint.post W h0 m0 r) s_0 x_1 x_2 b_8 s_9 h := by
 unfold internal_strconv_ParseUint.j1 at e
 refine f124.j1_in ?_
 unfold f124.j1T
 refine split_eq_e e (fun c3 e => ?_) (fun c3 e => ?_)
 · exact internal_strconv_ParseUint.j3.walk (O.pick []).nm  e
 · refine split_eq_e e (fun c2 e => ?_) (fun c2 e => ?_)
   · exact internal_strconv_ParseUint.j3.walk (O.pick []).nm  e
   · obtain ⟨g1, e⟩ := guard_e e
     refine ⟨g1, ?_⟩
     exact internal_strconv_ParseUint.j3.walk (O.pick []).nm  e
noncomputable def internal_strconv_ParseUint.j4 (s_0 : ByteArray) (x_1 : Int) (x_2 : Int) (b_8 : Bool) (s_9 : ByteArray) (b_83 : Bool) : Option (Int × Unit) :=
 if b_83 = true then ((none : Option _)) else ((internal_strconv_ParseUint.j1 s_0 x_1 x_2 b_8 s_9))
theorem internal_strconv_ParseUint.j4.walk {W h0 m0 h m s_0 x_1 x_2 b_8 s_9 b_83} (O : Hold W h0 m0 h m []) {r} (e : internal_strconv_ParseUint.j4 s_0 x_1 x_2 b_8 s_9 b_83 = some r) : f124.j4 (internal_strconv_ParseUint.post W h0 m0 r) s_0 x_1 x_2 b_8 s_9 b_83 h := by
 unfold internal_strconv_ParseUint.j4 at e
 refine f124.j4_in ?_
 unfold f124.j4T
 refine split_any_e e (fun c1 e => ?_) (fun c1 e => ?_)
 · cases e
 · exact internal_strconv_ParseUint.j1.walk (O.pick []).nm  e
noncomputable def internal_strconv_ParseUint.j0 (s_0 : ByteArray) (x_1 : Int) (x_2 : Int) (b_8 : Bool) (s_9 : ByteArray) : Option (Int × Unit) :=
 if x_2 = (0 : Int) then ((internal_strconv_ParseUint.j1 s_0 x_1 (64 : Int) b_8 s_9)) else (if x_2 < (0 : Int) then ((internal_strconv_ParseUint.j4 s_0 x_1 x_2 b_8 s_9 true)) else ((internal_strconv_ParseUint.j4 s_0 x_1 x_2 b_8 s_9 (decide (x_2 > (64 : Int))))))
theorem internal_strconv_ParseUint.j0.walk {W h0 m0 h m s_0 x_1 x_2 b_8 s_9} (O : Hold W h0 m0 h m []) {r} (e : internal_strconv_ParseUint.j0 s_0 x_1 x_2 b_8 s_9 = some r) : f124.j0 (internal_strconv_ParseUint.post W h0 m0 r) s_0 x_1 x_2 b_8 s_9 h := by
 unfold internal_strconv_ParseUint.j0 at e
 refine f124.j0_in ?_
 unfold f124.j0T
 refine split_eq_e e (fun c2 e => ?_) (fun c2 e => ?_)
 · exact internal_strconv_ParseUint.j1.walk (O.pick []).nm  e
 · refine split_dec_e e (fun c1 e => ?_) (fun c1 e => ?_)
   · exact internal_strconv_ParseUint.j4.walk (O.pick []).nm  e
   · exact internal_strconv_ParseUint.j4.walk (O.pick []).nm  e
noncomputable def internal_strconv_ParseUint.j9 (s_0 : ByteArray) (x_2 : Int) (b_8 : Bool) (s_9 : ByteArray) (b_64 : Bool) : Option (Int × Unit) :=
 if b_64 = true then (if 0 ≤ (2 : Int) ∧ (2 : Int) ≤ ((ByteArray.size s_0 : Nat) : Int) ∧ ((ByteArray.size s_0 : Nat) : Int) ≤ ((ByteArray.size s_0 : Nat) : Int) then ((internal_strconv_ParseUint.j0 (ByteArray.extract s_0 (Int.toNat (2 : Int)) (Int.toNat ((ByteArray.size s_0 : Nat) : Int))) (16 : Int) x_2 b_8 s_9)) else none) else (if 0 ≤ (1 : Int) ∧ (1 : Int) ≤ ((ByteArray.size s_0 : Nat) : Int) ∧ ((ByteArray.size s_0 : Nat) : Int) ≤ ((ByteArray.size s_0 : Nat) : Int) then ((internal_strconv_ParseUint.j0 (ByteArray.extract s_0 (Int.toNat (1 : Int)) (Int.toNat ((ByteArray.size s_0 : Nat) : Int))) (8 : Int) x_2 b_8 s_9)) else none)
theorem internal_strconv_ParseUint.j9.walk {W h0 m0 h m s_0 x_2 b_8 s_9 b_64} (O : Hold W h0 m0 h m []) {r} (e : internal_strconv_ParseUint.j9 s_0 x_2 b_8 s_9 b_64 = some r) : f124.j9 (internal_strconv_ParseUint.post W h0 m0 r) s_0 x_2 b_8 s_9 b_64 h := by
 unfold internal_strconv_ParseUint.j9 at e
 refine f124.j9_in ?_
 unfold f124.j9T
 refine split_any_e e (fun c3 e => ?_) (fun c3 e => ?_)
 · obtain ⟨g1, e⟩ := guard_e e
   refine ⟨g1.1, g1.2.1, g1.2.2, ?_⟩
   exact internal_strconv_ParseUint.j0.walk (O.pick []).nm  e
 · obtain ⟨g2, e⟩ := guard_e e
   refine ⟨g2.1, g2.2.1, g2.2.2, ?_⟩
   exact internal_strconv_ParseUint.j0.walk (O.pick []).nm  e
noncomputable def internal_strconv_ParseUint.j8 (s_0 : ByteArray) (x_2 : Int) (b_8 : Bool) (s_9 : ByteArray) (b_52 : Bool) : Option (Int × Unit) :=
 if b_52 = true then (if 0 ≤ (2 : Int) ∧ (2 : Int) ≤ ((ByteArray.size s_0 : Nat) : Int) ∧ ((ByteArray.size s_0 : Nat) : Int) ≤ ((ByteArray.size s_0 : Nat) : Int) then ((internal_strconv_ParseUint.j0 (ByteArray.extract s_0 (Int.toNat (2 : Int)) (Int.toNat ((ByteArray.size s_0 : Nat) : Int))) (8 : Int) x_2 b_8 s_9)) else none) else (if ((ByteArray.size s_0 : Nat) : Int) ≥ (3 : Int) then (Option.bind (gb s_0 (1 : Int)) fun y2 => Option.bind (internal_strconv_lower y2) fun y8 => (internal_strconv_ParseUint.j9 s_0 x_2 b_8 s_9 (y8 == (120 : Int)))) else ((internal_strconv_ParseUint.j9 s_0 x_2 b_8 s_9 false)))
theorem internal_strconv_ParseUint.j8.walk {W h0 m0 h m s_0 x_2 b_8 s_9 b_52} (O : Hold W h0 m0 h m []) {r} (e : internal_strconv_ParseUint.j8 s_0 x_2 b_8 s_9 b_52 = some r) : f124.j8 (internal_strconv_ParseUint.post W h0 m0 r) s_0 x_2 b_8 s_9 b_52 h := by
 unfold internal_strconv_ParseUint.j8 at e
 refine f124.j8_in ?_
 unfold f124.j8T
 refine split_any_e e (fun c16 e => ?_) (fun c16 e => ?_)
 · obtain ⟨g1, e⟩ := guard_e e
   refine ⟨g1.1, g1.2.1, g1.2.2, ?_⟩
   exact internal_strconv_ParseUint.j0.walk (O.pick []).nm  e
 · refine split_dec_e e (fun c15 e => ?_) (fun c15 e => ?_)
   · obtain ⟨y2, g3, e⟩ := bind_e e
     obtain ⟨q4, b5, q6, q7⟩ := gb_e g3
     refine ⟨q4, _, q6, ?_⟩
     try rw [← q7]
     obtain ⟨y8, g9, e⟩ := bind_e e
     refine (internal_strconv_lower.walk (Hold.start (W := No) O.s)  g9).mono ?_
     rintro _ h10 ⟨m11, Q12, rfl⟩
     have O14 := Hold.nm (O.retC Q12 vfs_nil)
     refine ⟨_, rfl, ?_⟩
     exact internal_strconv_ParseUint.j9.walk (O14.pick []).nm  e
   · exact internal_strconv_ParseUint.j9.walk (O.pick []).nm  e
noncomputable def internal_strconv_ParseUint.j7 (s_0 : ByteArray) (x_2 : Int) (b_8 : Bool) (s_9 : ByteArray) (b_40 : Bool) : Option (Int × Unit) :=
 if b_40 = true then (if 0 ≤ (2 : Int) ∧ (2 : Int) ≤ ((ByteArray.size s_0 : Nat) : Int) ∧ ((ByteArray.size s_0 : Nat) : Int) ≤ ((ByteArray.size s_0 : Nat) : Int) then ((internal_strconv_ParseUint.j0 (ByteArray.extract s_0 (Int.toNat (2 : Int)) (Int.toNat ((ByteArray.size s_0 : Nat) : Int))) (2 : Int) x_2 b_8 s_9)) else none) else (if ((ByteArray.size s_0 : Nat) : Int) ≥ (3 : Int) then (Option.bind (gb s_0 (1 : Int)) fun y2 => Option.bind (internal_strconv_lower y2) fun y8 => (internal_strconv_ParseUint.j8 s_0 x_2 b_8 s_9 (y8 == (111 : Int)))) else ((internal_strconv_ParseUint.j8 s_0 x_2 b_8 s_9 false)))
theorem internal_strconv_ParseUint.j7.walk {W h0 m0 h m s_0 x_2 b_8 s_9 b_40} (O : Hold W h0 m0 h m []) {r} (e : internal_strconv_ParseUint.j7 s_0 x_2 b_8 s_9 b_40 = some r) : f124.j7 (internal_strconv_ParseUint.post W h0 m0 r) s_0 x_2 b_8 s_9 b_40 h := by
 unfold internal_strconv_ParseUint.j7 at e
 refine f124.j7_in ?_
 unfold f124.j7T
 refine split_any_e e (fun c16 e => ?_) (fun c16 e => ?_)
 · obtain ⟨g1, e⟩ := guard_e e
   refine ⟨g1.1, g1.2.1, g1.2.2, ?_⟩
   exact internal_strconv_ParseUint.j0.walk (O.pick []).nm  e
 · refine split_dec_e e (fun c15 e => ?_) (fun c15 e => ?_)
   · obtain ⟨y2, g3, e⟩ := bind_e e
     obtain ⟨q4, b5, q6, q7⟩ := gb_e g3
     refine ⟨q4, _, q6, ?_⟩
     try rw [← q7]
     obtain ⟨y8, g9, e⟩ := bind_e e
     refine (internal_strconv_lower.walk (Hold.start (W := No) O.s)  g9).mono ?_
     rintro _ h10 ⟨m11, Q12, rfl⟩
     have O14 := Hold.nm (O.retC Q12 vfs_nil)
     refine ⟨_, rfl, ?_⟩
     exact internal_strconv_ParseUint.j8.walk (O14.pick []).nm  e
   · exact internal_strconv_ParseUint.j8.walk (O.pick []).nm  e
noncomputable def internal_strconv_ParseUint.j2 (s_0 : ByteArray) (x_1 : Int) (x_2 : Int) (b_8 : Bool) (s_9 : ByteArray) (b_25 : Bool) : Option (Int × Unit) :=
 if b_25 = true then ((internal_strconv_ParseUint.j0 s_0 x_1 x_2 b_8 s_9)) else (if x_1 = (0 : Int) then (Option.bind (gb s_0 (0 : Int)) fun y1 => if y1 = (48 : Int) then (if ((ByteArray.size s_0 : Nat) : Int) ≥ (3 : Int) then (Option.bind (gb s_0 (1 : Int)) fun y7 => Option.bind (internal_strconv_lower y7) fun y13 => (internal_strconv_ParseUint.j7 s_0 x_2 b_8 s_9 (y13 == (98 : Int)))) else ((internal_strconv_ParseUint.j7 s_0 x_2 b_8 s_9 false))) else ((internal_strconv_ParseUint.j0 s_0 (10 : Int) x_2 b_8 s_9))) else ((none : Option _)))
theorem internal_strconv_ParseUint.j2.walk {W h0 m0 h m s_0 x_1 x_2 b_8 s_9 b_25} (O : Hold W h0 m0 h m []) {r} (e : internal_strconv_ParseUint.j2 s_0 x_1 x_2 b_8 s_9 b_25 = some r) : f124.j2 (internal_strconv_ParseUint.post W h0 m0 r) s_0 x_1 x_2 b_8 s_9 b_25 h := by
 unfold internal_strconv_ParseUint.j2 at e
 refine f124.j2_in ?_
 unfold f124.j2T
 refine split_any_e e (fun c23 e => ?_) (fun c23 e => ?_)
 · exact internal_strconv_ParseUint.j0.walk (O.pick []).nm  e
 · refine split_eq_e e (fun c22 e => ?_) (fun c22 e => ?_)
   · obtain ⟨y1, g2, e⟩ := bind_e e
     obtain ⟨q3, b4, q5, q6⟩ := gb_e g2
     refine ⟨q3, _, q5, ?_⟩
     try rw [← q6]
     refine split_eq_e e (fun c21 e => ?_) (fun c21 e => ?_)
     · refine split_dec_e e (fun c20 e => ?_) (fun c20 e => ?_)
       · obtain ⟨y7, g8, e⟩ := bind_e e
         obtain ⟨q9, b10, q11, q12⟩ := gb_e g8
         refine ⟨q9, _, q11, ?_⟩
         try rw [← q12]
         obtain ⟨y13, g14, e⟩ := bind_e e
         refine (internal_strconv_lower.walk (Hold.start (W := No) O.s)  g14).mono ?_
         rintro _ h15 ⟨m16, Q17, rfl⟩
         have O19 := Hold.nm (O.retC Q17 vfs_nil)
         refine ⟨_, rfl, ?_⟩
         exact internal_strconv_ParseUint.j7.walk (O19.pick []).nm  e
       · exact internal_strconv_ParseUint.j7.walk (O.pick []).nm  e
     · exact internal_strconv_ParseUint.j0.walk (O.pick []).nm  e
   · cases e
noncomputable def internal_strconv_ParseUint (s_0 : ByteArray) (x_1 : Int) (x_2 : Int) : Option (Int × Unit) :=
 if s_0 = (ByteArray.mk #[]) then ((none : Option _)) else (if (2 : Int) ≤ x_1 then ((internal_strconv_ParseUint.j2 s_0 x_1 x_2 (x_1 == (0 : Int)) s_0 (decide (x_1 ≤ (36 : Int))))) else ((internal_strconv_ParseUint.j2 s_0 x_1 x_2 (x_1 == (0 : Int)) s_0 false)))
theorem internal_strconv_ParseUint.walk {W h m s_0 x_1 x_2} (O : Hold W h m h m []) {r} (e : internal_strconv_ParseUint s_0 x_1 x_2 = some r) : Run Tryd.prog 124 #[Value.string s_0, Value.int .i64 x_1, Value.int .i64 x_2] h (internal_strconv_ParseUint.post W h m r) := by
 unfold internal_strconv_ParseUint at e
 refine f124.run ?_
 unfold f124.runT
 try rw [ba_list s_0 (ByteArray.mk #[])]
 refine split_dec_e e (fun c2 e => ?_) (fun c2 e => ?_)
 · cases e
 · refine split_dec_e e (fun c1 e => ?_) (fun c1 e => ?_)
   · exact internal_strconv_ParseUint.j2.walk (O.pick []).nm  e
   · exact internal_strconv_ParseUint.j2.walk (O.pick []).nm  e
def strconv_ParseUint.post (W : Nat → Prop) (h0 m0 : Heap) (r : Int × Unit) (v : Value) (h : Heap) : Prop := ∃ m , Hold W h0 m0 h m [] ∧ v = .tuple #[.int .u64 r.1, .nilIface]
noncomputable def strconv_ParseUint (s_0 : ByteArray) (x_1 : Int) (x_2 : Int) : Option (Int × Unit) :=
 Option.bind (internal_strconv_ParseUint s_0 x_1 x_2) fun y1 => some (y1.1, ())
theorem strconv_ParseUint.walk {W h m s_0 x_1 x_2} (O : Hold W h m h m []) {r} (e : strconv_ParseUint s_0 x_1 x_2 = some r) : Run Tryd.prog 99 #[Value.string s_0, Value.int .i64 x_1, Value.int .i64 x_2] h (strconv_ParseUint.post W h m r) := by
 unfold strconv_ParseUint at e
 refine f99.run ?_
 unfold f99.runT
 obtain ⟨y1, g2, e⟩ := bind_e e
 refine (internal_strconv_ParseUint.walk (Hold.start (W := No) O.s)  g2).mono ?_
 rintro _ h3 ⟨m4, Q5, rfl⟩
 have O7 := Hold.nm (O.retC Q5 vfs_nil)
 refine ⟨_, _, rfl, ?_⟩
 refine gen_ifne (by kernel_rfl) ?_
 refine ⟨_, rfl, ?_⟩
 refine split_f ?_
 cases e
 exact ⟨_, O7.pick [], rfl⟩
def roadref2_meant.post (W : Nat → Prop) (h0 m0 : Heap) (r : ByteArray × Int) (v : Value) (h : Heap) : Prop := ∃ m , Hold W h0 m0 h m [] ∧ v = .tuple #[.string r.1, .int .i64 r.2]
noncomputable def roadref2_meant.j1 (s_4 : ByteArray) (x_5 : Int) : Option (ByteArray × Int) :=
 some (s_4, (IntKind.wrap .i64 (x_5 + (1 : Int))))
theorem roadref2_meant.j1.walk {W h0 m0 h m s_4 x_5} (O : Hold W h0 m0 h m []) {r} (e : roadref2_meant.j1 s_4 x_5 = some r) : f82.j1 (roadref2_meant.post W h0 m0 r) s_4 x_5 h := by
 unfold roadref2_meant.j1 at e
 refine f82.j1_in ?_
 unfold f82.j1T
 cases e
 exact ⟨_, O.pick [], rfl⟩
noncomputable def roadref2_meant.j2 (s_4 : ByteArray) (x_5 : Int) (b_95 : Bool) : Option (ByteArray × Int) :=
 if b_95 = true then (some ((ByteArray.mk #[]), (-1 : Int))) else ((roadref2_meant.j1 s_4 x_5))
theorem roadref2_meant.j2.walk {W h0 m0 h m s_4 x_5 b_95} (O : Hold W h0 m0 h m []) {r} (e : roadref2_meant.j2 s_4 x_5 b_95 = some r) : f82.j2 (roadref2_meant.post W h0 m0 r) s_4 x_5 b_95 h := by
 unfold roadref2_meant.j2 at e
 refine f82.j2_in ?_
 unfold f82.j2T
 refine split_any_e e (fun c1 e => ?_) (fun c1 e => ?_)
 · cases e
   exact ⟨_, O.pick [], rfl⟩
 · exact roadref2_meant.j1.walk (O.pick []).nm  e
noncomputable def roadref2_meant.j0 (s_0 : ByteArray) (s_4 : ByteArray) (x_5 : Int) : Option (ByteArray × Int) :=
 if x_5 ≥ ((ByteArray.size s_0 : Nat) : Int) then ((roadref2_meant.j2 s_4 x_5 true)) else ((roadref2_meant.j2 s_4 x_5 (decide (((ByteArray.size s_4 : Nat) : Int) > (64 : Int)))))
theorem roadref2_meant.j0.walk {W h0 m0 h m s_0 s_4 x_5} (O : Hold W h0 m0 h m []) {r} (e : roadref2_meant.j0 s_0 s_4 x_5 = some r) : f82.j0 (roadref2_meant.post W h0 m0 r) s_0 s_4 x_5 h := by
 unfold roadref2_meant.j0 at e
 refine f82.j0_in ?_
 unfold f82.j0T
 refine split_dec_e e (fun c1 e => ?_) (fun c1 e => ?_)
 · exact roadref2_meant.j2.walk (O.pick []).nm  e
 · exact roadref2_meant.j2.walk (O.pick []).nm  e
inductive roadref2_meant.l0_k.Pt where
 | l0 (s_0 : ByteArray) (s_4 : ByteArray) (x_5 : Int)
 | j3 (s_0 : ByteArray) (s_4 : ByteArray) (x_5 : Int)
 | j4 (s_0 : ByteArray) (s_4 : ByteArray) (x_5 : Int) (s_6 : ByteArray) (b_47 : Bool)
 | j5 (s_0 : ByteArray) (s_4 : ByteArray) (x_5 : Int) (s_6 : ByteArray) (b_58 : Bool)
noncomputable def roadref2_meant.l0_k.body (go : (p : roadref2_meant.l0_k.Pt) → Option (ByteArray × Int)) : (p : roadref2_meant.l0_k.Pt) → Option (ByteArray × Int)
 | .l0 s_0 s_4 x_5 => if x_5 < ((ByteArray.size s_0 : Nat) : Int) then (Option.bind (gb s_0 x_5) fun y1 => if y1 = (34 : Int) then ((roadref2_meant.j0 s_0 s_4 x_5)) else ((go (.j3 s_0 s_4 x_5)))) else ((roadref2_meant.j0 s_0 s_4 x_5))
 | .j3 s_0 s_4 x_5 => Option.bind (gb s_0 x_5) fun y1 => if y1 < (32 : Int) then (some ((ByteArray.mk #[]), (-1 : Int))) else (Option.bind (gb s_0 x_5) fun y7 => if y7 = (92 : Int) then (if 0 ≤ (IntKind.wrap .i64 (x_5 + (1 : Int))) ∧ (IntKind.wrap .i64 (x_5 + (1 : Int))) ≤ ((ByteArray.size s_0 : Nat) : Int) ∧ ((ByteArray.size s_0 : Nat) : Int) ≤ ((ByteArray.size s_0 : Nat) : Int) then (Option.bind (strings_HasPrefix (ByteArray.extract s_0 (Int.toNat (IntKind.wrap .i64 (x_5 + (1 : Int)))) (Int.toNat ((ByteArray.size s_0 : Nat) : Int))) (ByteArray.mk #[110])) fun y16 => if y16 = true then (if ByteArray.size s_4 + ByteArray.size (ByteArray.mk #[10]) ≤ 9223372036854775807 then ((go (.l0 s_0 (s_4 ++ (ByteArray.mk #[10])) (IntKind.wrap .i64 (x_5 + (2 : Int)))))) else none) else (Option.bind (strings_HasPrefix (ByteArray.extract s_0 (Int.toNat (IntKind.wrap .i64 (x_5 + (1 : Int)))) (Int.toNat ((ByteArray.size s_0 : Nat) : Int))) (ByteArray.mk #[34])) fun y24 => if y24 = true then ((go (.j4 s_0 s_4 x_5 (ByteArray.extract s_0 (Int.toNat (IntKind.wrap .i64 (x_5 + (1 : Int)))) (Int.toNat ((ByteArray.size s_0 : Nat) : Int))) y24))) else (Option.bind (strings_HasPrefix (ByteArray.extract s_0 (Int.toNat (IntKind.wrap .i64 (x_5 + (1 : Int)))) (Int.toNat ((ByteArray.size s_0 : Nat) : Int))) (ByteArray.mk #[92])) fun y31 => (go (.j4 s_0 s_4 x_5 (ByteArray.extract s_0 (Int.toNat (IntKind.wrap .i64 (x_5 + (1 : Int)))) (Int.toNat ((ByteArray.size s_0 : Nat) : Int))) y31))))) else none) else (if 0 ≤ x_5 ∧ x_5 ≤ (IntKind.wrap .i64 (x_5 + (1 : Int))) ∧ (IntKind.wrap .i64 (x_5 + (1 : Int))) ≤ ((ByteArray.size s_0 : Nat) : Int) then (if ByteArray.size s_4 + ByteArray.size (ByteArray.extract s_0 (Int.toNat x_5) (Int.toNat (IntKind.wrap .i64 (x_5 + (1 : Int))))) ≤ 9223372036854775807 then ((go (.l0 s_0 (s_4 ++ (ByteArray.extract s_0 (Int.toNat x_5) (Int.toNat (IntKind.wrap .i64 (x_5 + (1 : Int)))))) (IntKind.wrap .i64 (x_5 + (1 : Int)))))) else none) else none))
 | .j4 s_0 s_4 x_5 s_6 b_47 => if b_47 = true then (if 0 ≤ (0 : Int) ∧ (0 : Int) ≤ (1 : Int) ∧ (1 : Int) ≤ ((ByteArray.size s_6 : Nat) : Int) then (if ByteArray.size s_4 + ByteArray.size (ByteArray.extract s_6 (Int.toNat (0 : Int)) (Int.toNat (1 : Int))) ≤ 9223372036854775807 then ((go (.l0 s_0 (s_4 ++ (ByteArray.extract s_6 (Int.toNat (0 : Int)) (Int.toNat (1 : Int)))) (IntKind.wrap .i64 (x_5 + (2 : Int)))))) else none) else none) else (if ((ByteArray.size s_6 : Nat) : Int) > (2 : Int) then (Option.bind (gb s_6 (0 : Int)) fun y3 => if y3 = (120 : Int) then (if 0 ≤ (1 : Int) ∧ (1 : Int) ≤ (3 : Int) ∧ (3 : Int) ≤ ((ByteArray.size s_6 : Nat) : Int) then (Option.bind (roadref2_run (ByteArray.extract s_6 (Int.toNat (1 : Int)) (Int.toNat (3 : Int))) (ByteArray.mk #[48, 49, 50, 51, 52, 53, 54, 55, 56, 57, 97, 98, 99, 100, 101, 102])) fun y10 => (go (.j5 s_0 s_4 x_5 s_6 (y10 == (2 : Int))))) else none) else ((go (.j5 s_0 s_4 x_5 s_6 false)))) else ((go (.j5 s_0 s_4 x_5 s_6 false))))
 | .j5 s_0 s_4 x_5 s_6 b_58 => if b_58 = true then (if 0 ≤ (1 : Int) ∧ (1 : Int) ≤ (3 : Int) ∧ (3 : Int) ≤ ((ByteArray.size s_6 : Nat) : Int) then (Option.bind (strconv_ParseUint (ByteArray.extract s_6 (Int.toNat (1 : Int)) (Int.toNat (3 : Int))) (16 : Int) (8 : Int)) fun y2 => if ByteArray.size s_4 + ByteArray.size (bytesOf ([(IntKind.wrap .u8 y2.1)] : List Int)) ≤ 9223372036854775807 then ((go (.l0 s_0 (s_4 ++ (bytesOf ([(IntKind.wrap .u8 y2.1)] : List Int))) (IntKind.wrap .i64 (x_5 + (4 : Int)))))) else none) else none) else (some ((ByteArray.mk #[]), (-1 : Int)))
theorem roadref2_meant.l0_k.mono : MonoF (β := fun _ => (ByteArray × Int)) roadref2_meant.l0_k.body := fun f g hfg p => match p with
 | .l0 s_0 s_4 x_5 => LeO.ite (LeO.bind (LeO.refl _) fun y1 => LeO.ite ((LeO.refl _)) ((hfg _))) ((LeO.refl _))
 | .j3 s_0 s_4 x_5 => LeO.bind (LeO.refl _) fun y1 => LeO.ite (LeO.refl _) (LeO.bind (LeO.refl _) fun y7 => LeO.ite (LeO.ite (LeO.bind (LeO.refl _) fun y16 => LeO.ite (LeO.ite ((hfg _)) (LeO.refl _)) (LeO.bind (LeO.refl _) fun y24 => LeO.ite ((hfg _)) (LeO.bind (LeO.refl _) fun y31 => (hfg _)))) (LeO.refl _)) (LeO.ite (LeO.ite ((hfg _)) (LeO.refl _)) (LeO.refl _)))
 | .j4 s_0 s_4 x_5 s_6 b_47 => LeO.ite (LeO.ite (LeO.ite ((hfg _)) (LeO.refl _)) (LeO.refl _)) (LeO.ite (LeO.bind (LeO.refl _) fun y3 => LeO.ite (LeO.ite (LeO.bind (LeO.refl _) fun y10 => (hfg _)) (LeO.refl _)) ((hfg _))) ((hfg _)))
 | .j5 s_0 s_4 x_5 s_6 b_58 => LeO.ite (LeO.ite (LeO.bind (LeO.refl _) fun y2 => LeO.ite ((hfg _)) (LeO.refl _)) (LeO.refl _)) (LeO.refl _)
noncomputable def roadref2_meant.l0_k.go (p : roadref2_meant.l0_k.Pt) : Option (ByteArray × Int) := fixF (β := fun _ => (ByteArray × Int)) roadref2_meant.l0_k.body p
noncomputable def roadref2_meant.l0 (s_0 s_4 x_5) := roadref2_meant.l0_k.go (.l0 s_0 s_4 x_5)
noncomputable def roadref2_meant.j3 (s_0 s_4 x_5) := roadref2_meant.l0_k.go (.j3 s_0 s_4 x_5)
noncomputable def roadref2_meant.j4 (s_0 s_4 x_5 s_6 b_47) := roadref2_meant.l0_k.go (.j4 s_0 s_4 x_5 s_6 b_47)
noncomputable def roadref2_meant.j5 (s_0 s_4 x_5 s_6 b_58) := roadref2_meant.l0_k.go (.j5 s_0 s_4 x_5 s_6 b_58)
theorem roadref2_meant.l0_eq (s_0 s_4 x_5) : roadref2_meant.l0 s_0 s_4 x_5 = if x_5 < ((ByteArray.size s_0 : Nat) : Int) then (Option.bind (gb s_0 x_5) fun y1 => if y1 = (34 : Int) then ((roadref2_meant.j0 s_0 s_4 x_5)) else ((roadref2_meant.j3 s_0 s_4 x_5))) else ((roadref2_meant.j0 s_0 s_4 x_5)) := fixF_eq roadref2_meant.l0_k.mono _
theorem roadref2_meant.j3_eq (s_0 s_4 x_5) : roadref2_meant.j3 s_0 s_4 x_5 = Option.bind (gb s_0 x_5) fun y1 => if y1 < (32 : Int) then (some ((ByteArray.mk #[]), (-1 : Int))) else (Option.bind (gb s_0 x_5) fun y7 => if y7 = (92 : Int) then (if 0 ≤ (IntKind.wrap .i64 (x_5 + (1 : Int))) ∧ (IntKind.wrap .i64 (x_5 + (1 : Int))) ≤ ((ByteArray.size s_0 : Nat) : Int) ∧ ((ByteArray.size s_0 : Nat) : Int) ≤ ((ByteArray.size s_0 : Nat) : Int) then (Option.bind (strings_HasPrefix (ByteArray.extract s_0 (Int.toNat (IntKind.wrap .i64 (x_5 + (1 : Int)))) (Int.toNat ((ByteArray.size s_0 : Nat) : Int))) (ByteArray.mk #[110])) fun y16 => if y16 = true then (if ByteArray.size s_4 + ByteArray.size (ByteArray.mk #[10]) ≤ 9223372036854775807 then ((roadref2_meant.l0 s_0 (s_4 ++ (ByteArray.mk #[10])) (IntKind.wrap .i64 (x_5 + (2 : Int))))) else none) else (Option.bind (strings_HasPrefix (ByteArray.extract s_0 (Int.toNat (IntKind.wrap .i64 (x_5 + (1 : Int)))) (Int.toNat ((ByteArray.size s_0 : Nat) : Int))) (ByteArray.mk #[34])) fun y24 => if y24 = true then ((roadref2_meant.j4 s_0 s_4 x_5 (ByteArray.extract s_0 (Int.toNat (IntKind.wrap .i64 (x_5 + (1 : Int)))) (Int.toNat ((ByteArray.size s_0 : Nat) : Int))) y24)) else (Option.bind (strings_HasPrefix (ByteArray.extract s_0 (Int.toNat (IntKind.wrap .i64 (x_5 + (1 : Int)))) (Int.toNat ((ByteArray.size s_0 : Nat) : Int))) (ByteArray.mk #[92])) fun y31 => (roadref2_meant.j4 s_0 s_4 x_5 (ByteArray.extract s_0 (Int.toNat (IntKind.wrap .i64 (x_5 + (1 : Int)))) (Int.toNat ((ByteArray.size s_0 : Nat) : Int))) y31)))) else none) else (if 0 ≤ x_5 ∧ x_5 ≤ (IntKind.wrap .i64 (x_5 + (1 : Int))) ∧ (IntKind.wrap .i64 (x_5 + (1 : Int))) ≤ ((ByteArray.size s_0 : Nat) : Int) then (if ByteArray.size s_4 + ByteArray.size (ByteArray.extract s_0 (Int.toNat x_5) (Int.toNat (IntKind.wrap .i64 (x_5 + (1 : Int))))) ≤ 9223372036854775807 then ((roadref2_meant.l0 s_0 (s_4 ++ (ByteArray.extract s_0 (Int.toNat x_5) (Int.toNat (IntKind.wrap .i64 (x_5 + (1 : Int)))))) (IntKind.wrap .i64 (x_5 + (1 : Int))))) else none) else none)) := fixF_eq roadref2_meant.l0_k.mono _
theorem roadref2_meant.j4_eq (s_0 s_4 x_5 s_6 b_47) : roadref2_meant.j4 s_0 s_4 x_5 s_6 b_47 = if b_47 = true then (if 0 ≤ (0 : Int) ∧ (0 : Int) ≤ (1 : Int) ∧ (1 : Int) ≤ ((ByteArray.size s_6 : Nat) : Int) then (if ByteArray.size s_4 + ByteArray.size (ByteArray.extract s_6 (Int.toNat (0 : Int)) (Int.toNat (1 : Int))) ≤ 9223372036854775807 then ((roadref2_meant.l0 s_0 (s_4 ++ (ByteArray.extract s_6 (Int.toNat (0 : Int)) (Int.toNat (1 : Int)))) (IntKind.wrap .i64 (x_5 + (2 : Int))))) else none) else none) else (if ((ByteArray.size s_6 : Nat) : Int) > (2 : Int) then (Option.bind (gb s_6 (0 : Int)) fun y3 => if y3 = (120 : Int) then (if 0 ≤ (1 : Int) ∧ (1 : Int) ≤ (3 : Int) ∧ (3 : Int) ≤ ((ByteArray.size s_6 : Nat) : Int) then (Option.bind (roadref2_run (ByteArray.extract s_6 (Int.toNat (1 : Int)) (Int.toNat (3 : Int))) (ByteArray.mk #[48, 49, 50, 51, 52, 53, 54, 55, 56, 57, 97, 98, 99, 100, 101, 102])) fun y10 => (roadref2_meant.j5 s_0 s_4 x_5 s_6 (y10 == (2 : Int)))) else none) else ((roadref2_meant.j5 s_0 s_4 x_5 s_6 false))) else ((roadref2_meant.j5 s_0 s_4 x_5 s_6 false))) := fixF_eq roadref2_meant.l0_k.mono _
theorem roadref2_meant.j5_eq (s_0 s_4 x_5 s_6 b_58) : roadref2_meant.j5 s_0 s_4 x_5 s_6 b_58 = if b_58 = true then (if 0 ≤ (1 : Int) ∧ (1 : Int) ≤ (3 : Int) ∧ (3 : Int) ≤ ((ByteArray.size s_6 : Nat) : Int) then (Option.bind (strconv_ParseUint (ByteArray.extract s_6 (Int.toNat (1 : Int)) (Int.toNat (3 : Int))) (16 : Int) (8 : Int)) fun y2 => if ByteArray.size s_4 + ByteArray.size (bytesOf ([(IntKind.wrap .u8 y2.1)] : List Int)) ≤ 9223372036854775807 then ((roadref2_meant.l0 s_0 (s_4 ++ (bytesOf ([(IntKind.wrap .u8 y2.1)] : List Int))) (IntKind.wrap .i64 (x_5 + (4 : Int))))) else none) else none) else (some ((ByteArray.mk #[]), (-1 : Int))) := fixF_eq roadref2_meant.l0_k.mono _
def roadref2_meant.l0_k.I : (p : roadref2_meant.l0_k.Pt) → (ByteArray × Int) → Prop
 | .l0 s_0 s_4 x_5, r => ∀ {W h0 m0 h m} (O : Hold W h0 m0 h m []), f82.l0 (roadref2_meant.post W h0 m0 r) s_0 s_4 x_5 h
 | .j3 s_0 s_4 x_5, r => ∀ {W h0 m0 h m} (O : Hold W h0 m0 h m []), f82.j3 (roadref2_meant.post W h0 m0 r) s_0 s_4 x_5 h
 | .j4 s_0 s_4 x_5 s_6 b_47, r => ∀ {W h0 m0 h m} (O : Hold W h0 m0 h m []), f82.j4 (roadref2_meant.post W h0 m0 r) s_0 s_4 x_5 s_6 b_47 h
 | .j5 s_0 s_4 x_5 s_6 b_58, r => ∀ {W h0 m0 h m} (O : Hold W h0 m0 h m []), f82.j5 (roadref2_meant.post W h0 m0 r) s_0 s_4 x_5 s_6 b_58 h
theorem roadref2_meant.l0_k.step_l0 (go : (p : roadref2_meant.l0_k.Pt) → Option (ByteArray × Int)) (ih : ∀ p r, go p = some r → roadref2_meant.l0_k.I p r) (s_0 s_4 x_5) (r) (e : roadref2_meant.l0_k.body go (.l0 s_0 s_4 x_5) = some r) : roadref2_meant.l0_k.I (.l0 s_0 s_4 x_5) r := by
 unfold roadref2_meant.l0_k.body at e
 intro W h0 m0 h m O
 refine f82.l0_in ?_
 unfold f82.l0T
 refine split_dec_e e (fun c8 e => ?_) (fun c8 e => ?_)
 · obtain ⟨y1, g2, e⟩ := bind_e e
   obtain ⟨q3, b4, q5, q6⟩ := gb_e g2
   refine ⟨q3, _, q5, ?_⟩
   try rw [← q6]
   refine split_ne_e e (fun c7 e => ?_) (fun c7 e => ?_)
   · exact (ih _ _ e) (O.pick []).nm 
   · exact roadref2_meant.j0.walk (O.pick []).nm  e
 · exact roadref2_meant.j0.walk (O.pick []).nm  e
set_option maxHeartbeats 4000000 in
theorem roadref2_meant.l0_k.step_j3 (go : (p : roadref2_meant.l0_k.Pt) → Option (ByteArray × Int)) (ih : ∀ p r, go p = some r → roadref2_meant.l0_k.I p r) (s_0 s_4 x_5) (r) (e : roadref2_meant.l0_k.body go (.j3 s_0 s_4 x_5) = some r) : roadref2_meant.l0_k.I (.j3 s_0 s_4 x_5) r := by
 unfold roadref2_meant.l0_k.body at e
 intro W h0 m0 h m O
 refine f82.j3_in ?_
 unfold f82.j3T
 obtain ⟨y1, g2, e⟩ := bind_e e
 obtain ⟨q3, b4, q5, q6⟩ := gb_e g2
 refine ⟨q3, _, q5, ?_⟩
 try rw [← q6]
 refine split_dec_e e (fun c41 e => ?_) (fun c41 e => ?_)
 · cases e
   exact ⟨_, O.pick [], rfl⟩
 · obtain ⟨y7, g8, e⟩ := bind_e e
   obtain ⟨q9, b10, q11, q12⟩ := gb_e g8
   refine ⟨q9, _, q11, ?_⟩
   try rw [← q12]
   refine split_ne_e e (fun c40 e => ?_) (fun c40 e => ?_)
   · obtain ⟨g13, e⟩ := guard_e e
     refine ⟨g13.1, g13.2.1, g13.2.2, ?_⟩
     obtain ⟨g14, e⟩ := guard_e e
     refine ⟨g14, ?_⟩
     exact (ih _ _ e) (O.pick []).nm 
   · obtain ⟨g15, e⟩ := guard_e e
     refine ⟨g15.1, g15.2.1, g15.2.2, ?_⟩
     obtain ⟨y16, g17, e⟩ := bind_e e
     refine (strings_HasPrefix.walk (Hold.start (W := No) O.s)  g17).mono ?_
     rintro _ h18 ⟨m19, Q20, rfl⟩
     have O22 := Hold.nm (O.retC Q20 vfs_nil)
     refine ⟨_, rfl, ?_⟩
     refine split_any_e e (fun c39 e => ?_) (fun c39 e => ?_)
     · obtain ⟨g23, e⟩ := guard_e e
       refine ⟨g23, ?_⟩
       exact (ih _ _ e) (O22.pick []).nm 
     · obtain ⟨y24, g25, e⟩ := bind_e e
       refine (strings_HasPrefix.walk (Hold.start (W := No) O22.s)  g25).mono ?_
       rintro _ h26 ⟨m27, Q28, rfl⟩
       have O30 := Hold.nm (O22.retC Q28 vfs_nil)
       refine ⟨_, rfl, ?_⟩
       refine split_any_e e (fun c38 e => ?_) (fun c38 e => ?_)
       · exact (ih _ _ e) (O30.pick []).nm 
       · obtain ⟨y31, g32, e⟩ := bind_e e
         refine (strings_HasPrefix.walk (Hold.start (W := No) O30.s)  g32).mono ?_
         rintro _ h33 ⟨m34, Q35, rfl⟩
         have O37 := Hold.nm (O30.retC Q35 vfs_nil)
         refine ⟨_, rfl, ?_⟩
         exact (ih _ _ e) (O37.pick []).nm 
theorem roadref2_meant.l0_k.step_j4 (go : (p : roadref2_meant.l0_k.Pt) → Option (ByteArray × Int)) (ih : ∀ p r, go p = some r → roadref2_meant.l0_k.I p r) (s_0 s_4 x_5 s_6 b_47) (r) (e : roadref2_meant.l0_k.body go (.j4 s_0 s_4 x_5 s_6 b_47) = some r) : roadref2_meant.l0_k.I (.j4 s_0 s_4 x_5 s_6 b_47) r := by
 unfold roadref2_meant.l0_k.body at e
 intro W h0 m0 h m O
 refine f82.j4_in ?_
 unfold f82.j4T
 refine split_any_e e (fun c19 e => ?_) (fun c19 e => ?_)
 · obtain ⟨g1, e⟩ := guard_e e
   refine ⟨g1.1, g1.2.1, g1.2.2, ?_⟩
   obtain ⟨g2, e⟩ := guard_e e
   refine ⟨g2, ?_⟩
   exact (ih _ _ e) (O.pick []).nm 
 · refine split_dec_e e (fun c18 e => ?_) (fun c18 e => ?_)
   · obtain ⟨y3, g4, e⟩ := bind_e e
     obtain ⟨q5, b6, q7, q8⟩ := gb_e g4
     refine ⟨q5, _, q7, ?_⟩
     try rw [← q8]
     refine split_eq_e e (fun c17 e => ?_) (fun c17 e => ?_)
     · obtain ⟨g9, e⟩ := guard_e e
       refine ⟨g9.1, g9.2.1, g9.2.2, ?_⟩
       obtain ⟨y10, g11, e⟩ := bind_e e
       refine (roadref2_run.walk (Hold.start (W := No) O.s)  g11).mono ?_
       rintro _ h12 ⟨m13, Q14, rfl⟩
       have O16 := Hold.nm (O.retC Q14 vfs_nil)
       refine ⟨_, rfl, ?_⟩
       exact (ih _ _ e) (O16.pick []).nm 
     · exact (ih _ _ e) (O.pick []).nm 
   · exact (ih _ _ e) (O.pick []).nm 
theorem roadref2_meant.l0_k.step_j5 (go : (p : roadref2_meant.l0_k.Pt) → Option (ByteArray × Int)) (ih : ∀ p r, go p = some r → roadref2_meant.l0_k.I p r) (s_0 s_4 x_5 s_6 b_58) (r) (e : roadref2_meant.l0_k.body go (.j5 s_0 s_4 x_5 s_6 b_58) = some r) : roadref2_meant.l0_k.I (.j5 s_0 s_4 x_5 s_6 b_58) r := by
 unfold roadref2_meant.l0_k.body at e
 intro W h0 m0 h m O
 refine f82.j5_in ?_
 unfold f82.j5T
 refine split_any_e e (fun c16 e => ?_) (fun c16 e => ?_)
 · obtain ⟨g1, e⟩ := guard_e e
   refine ⟨g1.1, g1.2.1, g1.2.2, ?_⟩
   obtain ⟨y2, g3, e⟩ := bind_e e
   refine (strconv_ParseUint.walk (Hold.start (W := No) O.s)  g3).mono ?_
   rintro _ h4 ⟨m5, Q6, rfl⟩
   have O8 := Hold.nm (O.retC Q6 vfs_nil)
   refine ⟨_, _, rfl, ?_⟩
   refine O8.new fun h9 x10 O11 => ?_
   have O13 := O11.rowE (l := ([(IntKind.wrap .u8 y2.1)] : List Int)) 0 rfl (tell_int .u8) (show CsE _ _ _ _ _ from (CsE.cons (c1 := [(Value.int .u8 (IntKind.wrap .u8 y2.1))]) rfl rfl CsE.nil)) rfl
   refine gen_b2s' (e := 5) (by kernel_rfl) (by kernel_rfl) (by kernel_rfl) ((O13.os 0 rfl).rd (tell_int .u8) O13.s) rfl ?_
   refine ⟨_, rfl, ?_⟩
   obtain ⟨g14, e⟩ := guard_e e
   refine ⟨g14, ?_⟩
   have O15 := O13.nm
   exact (ih _ _ e) (O15.pick []).nm 
 · cases e
   exact ⟨_, O.pick [], rfl⟩
theorem roadref2_meant.l0_k.all {p : roadref2_meant.l0_k.Pt} {r : (ByteArray × Int)} (e : roadref2_meant.l0_k.go p = some r) : roadref2_meant.l0_k.I p r := fixF_ind (β := fun _ => (ByteArray × Int)) roadref2_meant.l0_k.mono (I := roadref2_meant.l0_k.I) (fun go ih p r e => match p with
 | .l0 s_0 s_4 x_5 => roadref2_meant.l0_k.step_l0 go ih s_0 s_4 x_5 r e
 | .j3 s_0 s_4 x_5 => roadref2_meant.l0_k.step_j3 go ih s_0 s_4 x_5 r e
 | .j4 s_0 s_4 x_5 s_6 b_47 => roadref2_meant.l0_k.step_j4 go ih s_0 s_4 x_5 s_6 b_47 r e
 | .j5 s_0 s_4 x_5 s_6 b_58 => roadref2_meant.l0_k.step_j5 go ih s_0 s_4 x_5 s_6 b_58 r e
 ) e
noncomputable def roadref2_meant (s_0 : ByteArray) : Option (ByteArray × Int) :=
 (roadref2_meant.l0 s_0 (ByteArray.mk #[]) (1 : Int))
theorem roadref2_meant.walk {W h m s_0} (O : Hold W h m h m []) {r} (e : roadref2_meant s_0 = some r) : Run Tryd.prog 82 #[Value.string s_0] h (roadref2_meant.post W h m r) := by
 unfold roadref2_meant at e
 refine f82.run ?_
 unfold f82.runT
 exact (roadref2_meant.l0_k.all e) (O.pick []).nm 
def roadref2_token.post (W : Nat → Prop) (h0 m0 : Heap) (r : T_roadref2_Tok × Int) (v : Value) (h : Heap) : Prop := ∃ m cs0, Hold W h0 m0 h m [] ∧ v = .tuple #[.agg cs0.toArray, .int .i64 r.2] ∧ T_roadref2_Tok.E m r.1 cs0
inductive roadref2_token.l0_k.Pt where
 | l0 (s_0 : ByteArray) (y_2 : T_roadref2_Tok) (a_70 : List ByteArray) (x_71 : Int) (x_72 : Int)
noncomputable def roadref2_token.l0_k.body (go : (p : roadref2_token.l0_k.Pt) → Option (T_roadref2_Tok × Int)) : (p : roadref2_token.l0_k.Pt) → Option (T_roadref2_Tok × Int)
 | .l0 s_0 y_2 a_70 x_71 x_72 => if x_72 < x_71 then (Option.bind (gi a_70 x_72) fun y1 => Option.bind (strings_HasPrefix s_0 y1) fun y8 => if y8 = true then (some ((T_roadref2_Tok.mk (6 : Int) y1 (0 : Int)), ((ByteArray.size y1 : Nat) : Int))) else ((go (.l0 s_0 y_2 a_70 x_71 (IntKind.wrap .i64 (x_72 + (1 : Int))))))) else (some ((T_roadref2_Tok.mk (0 : Int) (ByteArray.mk #[]) (0 : Int)), (-1 : Int)))
theorem roadref2_token.l0_k.mono : MonoF (β := fun _ => (T_roadref2_Tok × Int)) roadref2_token.l0_k.body := fun f g hfg p => match p with
 | .l0 s_0 y_2 a_70 x_71 x_72 => LeO.ite (LeO.bind (LeO.refl _) fun y1 => LeO.bind (LeO.refl _) fun y8 => LeO.ite (LeO.refl _) ((hfg _))) (LeO.refl _)
noncomputable def roadref2_token.l0_k.go (p : roadref2_token.l0_k.Pt) : Option (T_roadref2_Tok × Int) := fixF (β := fun _ => (T_roadref2_Tok × Int)) roadref2_token.l0_k.body p
noncomputable def roadref2_token.l0 (s_0 y_2 a_70 x_71 x_72) := roadref2_token.l0_k.go (.l0 s_0 y_2 a_70 x_71 x_72)
theorem roadref2_token.l0_eq (s_0 y_2 a_70 x_71 x_72) : roadref2_token.l0 s_0 y_2 a_70 x_71 x_72 = if x_72 < x_71 then (Option.bind (gi a_70 x_72) fun y1 => Option.bind (strings_HasPrefix s_0 y1) fun y8 => if y8 = true then (some ((T_roadref2_Tok.mk (6 : Int) y1 (0 : Int)), ((ByteArray.size y1 : Nat) : Int))) else ((roadref2_token.l0 s_0 y_2 a_70 x_71 (IntKind.wrap .i64 (x_72 + (1 : Int)))))) else (some ((T_roadref2_Tok.mk (0 : Int) (ByteArray.mk #[]) (0 : Int)), (-1 : Int))) := fixF_eq roadref2_token.l0_k.mono _
def roadref2_token.l0_k.I : (p : roadref2_token.l0_k.Pt) → (T_roadref2_Tok × Int) → Prop
 | .l0 s_0 y_2 a_70 x_71 x_72, r => ∀ {W h0 m0 h m bk_2 cs_2 A_70 n_70 c_70} (O : Hold W h0 m0 h m [rV bk_2 70 cs_2, rR (aE tell_str) A_70 c_70 a_70]) (e_2 : T_roadref2_Tok.E m y_2 cs_2) (ne_70 : n_70 = List.length a_70) (tab : TB m), f60.l0 (roadref2_token.post W h0 m0 r) s_0 (⟨bk_2, 0, none⟩ : Addr) A_70 n_70 c_70 x_71 x_72 h
theorem roadref2_token.l0_k.step_l0 (go : (p : roadref2_token.l0_k.Pt) → Option (T_roadref2_Tok × Int)) (ih : ∀ p r, go p = some r → roadref2_token.l0_k.I p r) (s_0 y_2 a_70 x_71 x_72) (r) (e : roadref2_token.l0_k.body go (.l0 s_0 y_2 a_70 x_71 x_72) = some r) : roadref2_token.l0_k.I (.l0 s_0 y_2 a_70 x_71 x_72) r := by
 unfold roadref2_token.l0_k.body at e
 intro W h0 m0 h m bk_2 cs_2 A_70 n_70 c_70 O e_2 ne_70 tab
 subst ne_70
 refine f60.l0_in ?_
 unfold f60.l0T
 refine split_dec_e e (fun c22 e => ?_) (fun c22 e => ?_)
 · obtain ⟨y1, g2, e⟩ := bind_e e
   refine (O.os 1 rfl).addr rfl g2 fun a3 cs4 ha5 hc6 he7 => ?_
   obtain rfl : cs4 = [(Value.string y1)] := he7
   refine ⟨_, ld0 (Sub.refl _) hc6 rfl, _, rfl, ?_⟩
   obtain ⟨y8, g9, e⟩ := bind_e e
   refine (strings_HasPrefix.walk (Hold.start (W := No) O.s)  g9).mono ?_
   rintro _ h10 ⟨m11, Q12, rfl⟩
   have O14 := Hold.nm (O.retC Q12 vfs_nil)
   refine ⟨_, rfl, ?_⟩
   refine split_any_e e (fun c18 e => ?_) (fun c18 e => ?_)
   · refine ⟨_, rfl, rfl, ?_⟩
     refine O14.stA 0 rfl ((T_roadref2_Tok.T.len _ _ _ e_2)).symm (Flats.cons trivial (Flats.cons trivial (Flats.cons trivial Flats.nil))) fun h15 O16 => ?_
     refine ⟨_, ldAn (Sub.refl _) (O16.all 0 rfl) rfl, ?_⟩
     have O17 := O16.nm
     cases e
     exact ⟨_, _, O17.pick [], rfl, (show T_roadref2_Tok.E _ (T_roadref2_Tok.mk (6 : Int) y1 (0 : Int)) [(Value.int .i64 (6 : Int)), (Value.string y1), (Value.int .i64 (0 : Int))] from rfl)⟩
   · exact (ih _ _ e) (O14.pick [0, 1]).nm e_2 rfl tab
 · refine ⟨_, rfl, rfl, ?_⟩
   refine O.stA 0 rfl ((T_roadref2_Tok.T.len _ _ _ e_2)).symm (Flats.cons trivial (Flats.cons trivial (Flats.cons trivial Flats.nil))) fun h19 O20 => ?_
   refine ⟨_, ldAn (Sub.refl _) (O20.all 0 rfl) rfl, ?_⟩
   have O21 := O20.nm
   cases e
   exact ⟨_, _, O21.pick [], rfl, (show T_roadref2_Tok.E _ (T_roadref2_Tok.mk (0 : Int) (ByteArray.mk #[]) (0 : Int)) [(Value.int .i64 (0 : Int)), (Value.string (ByteArray.mk #[])), (Value.int .i64 (0 : Int))] from rfl)⟩
theorem roadref2_token.l0_k.all {p : roadref2_token.l0_k.Pt} {r : (T_roadref2_Tok × Int)} (e : roadref2_token.l0_k.go p = some r) : roadref2_token.l0_k.I p r := fixF_ind (β := fun _ => (T_roadref2_Tok × Int)) roadref2_token.l0_k.mono (I := roadref2_token.l0_k.I) (fun go ih p r e => match p with
 | .l0 s_0 y_2 a_70 x_71 x_72 => roadref2_token.l0_k.step_l0 go ih s_0 y_2 a_70 x_71 x_72 r e
 ) e
noncomputable def roadref2_token.j0 (s_0 : ByteArray) (y_2 : T_roadref2_Tok) : Option (T_roadref2_Tok × Int) :=
 Option.bind (strings_Fields (ByteArray.mk #[61, 62, 32, 45, 62, 32, 40, 32, 41, 32, 91, 32, 93, 32, 123, 32, 125, 32, 44, 32, 59, 32, 58, 32, 61, 32, 43, 32, 45, 32, 42, 32, 47, 32, 37, 32, 60, 32, 94, 32, 124, 32, 95])) fun y1 => (roadref2_token.l0 s_0 y_2 y1 (((List.length y1) : Nat) : Int) (0 : Int))
theorem roadref2_token.j0.walk {W h0 m0 h m bk_2 cs_2 s_0 y_2} (O : Hold W h0 m0 h m [rV bk_2 70 cs_2]) (e_2 : T_roadref2_Tok.E m y_2 cs_2) (tab : TB m) {r} (e : roadref2_token.j0 s_0 y_2 = some r) : f60.j0 (roadref2_token.post W h0 m0 r) s_0 (⟨bk_2, 0, none⟩ : Addr) h := by
 unfold roadref2_token.j0 at e
 refine f60.j0_in ?_
 unfold f60.j0T
 obtain ⟨y1, g2, e⟩ := bind_e e
 refine (strings_Fields.walk (Hold.start (W := No) O.s) tab g2).mono ?_
 rintro _ h3 ⟨m4, A7, n8, c9, Q5, rfl, ne10⟩
 have O12 := Hold.nm (O.retC Q5 (vfs_cons (rR_vf (aE_vf (fun _ _ _ _ h => h))) vfs_nil))
 subst ne10
 refine ⟨_, _, _, rfl, ?_⟩
 exact (roadref2_token.l0_k.all e) (O12.pick [0, 1]).nm e_2 rfl tab
noncomputable def roadref2_token.j1 (s_0 : ByteArray) (y_2 : T_roadref2_Tok) (x_7 : Int) (b_46 : Bool) : Option (T_roadref2_Tok × Int) :=
 if b_46 = true then (if 0 ≤ (0 : Int) ∧ (0 : Int) ≤ x_7 ∧ x_7 ≤ ((ByteArray.size s_0 : Nat) : Int) then (Option.bind (roadref2_WordList ) fun y2 => Option.bind (slices_Contains_22 y2 (ByteArray.extract s_0 (Int.toNat (0 : Int)) (Int.toNat x_7))) fun y14 => if y14 = true then (some ((T_roadref2_Tok.mk (3 : Int) (ByteArray.extract s_0 (Int.toNat (0 : Int)) (Int.toNat x_7)) (0 : Int)), x_7)) else (Option.bind (roadref2_Small (ByteArray.extract s_0 (Int.toNat (0 : Int)) (Int.toNat x_7))) fun y31 => if y31 = true then (some ((T_roadref2_Tok.mk (1 : Int) (ByteArray.extract s_0 (Int.toNat (0 : Int)) (Int.toNat x_7)) (0 : Int)), x_7)) else (Option.bind (roadref2_Great (ByteArray.extract s_0 (Int.toNat (0 : Int)) (Int.toNat x_7))) fun y41 => if y41 = true then (some ((T_roadref2_Tok.mk (2 : Int) (ByteArray.extract s_0 (Int.toNat (0 : Int)) (Int.toNat x_7)) (0 : Int)), x_7)) else (some ((T_roadref2_Tok.mk (0 : Int) (ByteArray.mk #[]) (0 : Int)), (-1 : Int)))))) else none) else ((roadref2_token.j0 s_0 y_2))
set_option maxHeartbeats 4000000 in
theorem roadref2_token.j1.walk {W h0 m0 h m bk_2 cs_2 s_0 y_2 x_7 b_46} (O : Hold W h0 m0 h m [rV bk_2 70 cs_2]) (e_2 : T_roadref2_Tok.E m y_2 cs_2) (tab : TB m) {r} (e : roadref2_token.j1 s_0 y_2 x_7 b_46 = some r) : f60.j1 (roadref2_token.post W h0 m0 r) s_0 (⟨bk_2, 0, none⟩ : Addr) x_7 b_46 h := by
 unfold roadref2_token.j1 at e
 refine f60.j1_in ?_
 unfold f60.j1T
 refine split_any_e e (fun c57 e => ?_) (fun c57 e => ?_)
 · obtain ⟨g1, e⟩ := guard_e e
   refine ⟨g1.1, g1.2.1, g1.2.2, ?_⟩
   obtain ⟨y2, g3, e⟩ := bind_e e
   refine (roadref2_WordList.walk (Hold.start (W := No) O.s) tab g3).mono ?_
   rintro _ h4 ⟨m5, A8, n9, c10, Q6, rfl, ne11⟩
   have O13 := Hold.nm (O.retC Q6 (vfs_cons (rR_vf (aE_vf (fun _ _ _ _ h => h))) vfs_nil))
   subst ne11
   refine ⟨_, _, _, rfl, ?_⟩
   obtain ⟨y14, g15, e⟩ := bind_e e
   obtain ⟨m20, u21, s26, ⟨⟨r24, k25⟩, _⟩, B22, C23⟩ := O13.lend0 [1]
   replace r24 : Rd 1 eStr m20 A8 y2 := r24
   replace k25 : List.length y2 ≤ c10 := k25
   refine (slices_Contains_22.walk (Hold.start (W := No) s26) rfl k25 r24 g15).mono ?_
   rintro _ h16 ⟨m17, Q18, rfl⟩
   have O27 := Hold.nm (C23 Q18 vfs_nil)
   refine ⟨_, rfl, ?_⟩
   refine split_any_e e (fun c56 e => ?_) (fun c56 e => ?_)
   · refine ⟨_, rfl, rfl, ?_⟩
     refine O27.stA 0 rfl ((T_roadref2_Tok.T.len _ _ _ e_2)).symm (Flats.cons trivial (Flats.cons trivial (Flats.cons trivial Flats.nil))) fun h28 O29 => ?_
     refine ⟨_, ldAn (Sub.refl _) (O29.all 0 rfl) rfl, ?_⟩
     have O30 := O29.nm
     cases e
     exact ⟨_, _, O30.pick [], rfl, (show T_roadref2_Tok.E _ (T_roadref2_Tok.mk (3 : Int) (ByteArray.extract s_0 (Int.toNat (0 : Int)) (Int.toNat x_7)) (0 : Int)) [(Value.int .i64 (3 : Int)), (Value.string (ByteArray.extract s_0 (Int.toNat (0 : Int)) (Int.toNat x_7))), (Value.int .i64 (0 : Int))] from rfl)⟩
   · obtain ⟨y31, g32, e⟩ := bind_e e
     refine (roadref2_Small.walk (Hold.start (W := No) O27.s) tab g32).mono ?_
     rintro _ h33 ⟨m34, Q35, rfl⟩
     have O37 := Hold.nm (O27.retC Q35 vfs_nil)
     refine ⟨_, rfl, ?_⟩
     refine split_any_e e (fun c55 e => ?_) (fun c55 e => ?_)
     · refine ⟨_, rfl, rfl, ?_⟩
       refine O37.stA 0 rfl ((T_roadref2_Tok.T.len _ _ _ e_2)).symm (Flats.cons trivial (Flats.cons trivial (Flats.cons trivial Flats.nil))) fun h38 O39 => ?_
       refine ⟨_, ldAn (Sub.refl _) (O39.all 0 rfl) rfl, ?_⟩
       have O40 := O39.nm
       cases e
       exact ⟨_, _, O40.pick [], rfl, (show T_roadref2_Tok.E _ (T_roadref2_Tok.mk (1 : Int) (ByteArray.extract s_0 (Int.toNat (0 : Int)) (Int.toNat x_7)) (0 : Int)) [(Value.int .i64 (1 : Int)), (Value.string (ByteArray.extract s_0 (Int.toNat (0 : Int)) (Int.toNat x_7))), (Value.int .i64 (0 : Int))] from rfl)⟩
     · obtain ⟨y41, g42, e⟩ := bind_e e
       refine (roadref2_Great.walk (Hold.start (W := No) O37.s)  g42).mono ?_
       rintro _ h43 ⟨m44, Q45, rfl⟩
       have O47 := Hold.nm (O37.retC Q45 vfs_nil)
       refine ⟨_, rfl, ?_⟩
       refine split_any_e e (fun c54 e => ?_) (fun c54 e => ?_)
       · refine ⟨_, rfl, rfl, ?_⟩
         refine O47.stA 0 rfl ((T_roadref2_Tok.T.len _ _ _ e_2)).symm (Flats.cons trivial (Flats.cons trivial (Flats.cons trivial Flats.nil))) fun h48 O49 => ?_
         refine ⟨_, ldAn (Sub.refl _) (O49.all 0 rfl) rfl, ?_⟩
         have O50 := O49.nm
         cases e
         exact ⟨_, _, O50.pick [], rfl, (show T_roadref2_Tok.E _ (T_roadref2_Tok.mk (2 : Int) (ByteArray.extract s_0 (Int.toNat (0 : Int)) (Int.toNat x_7)) (0 : Int)) [(Value.int .i64 (2 : Int)), (Value.string (ByteArray.extract s_0 (Int.toNat (0 : Int)) (Int.toNat x_7))), (Value.int .i64 (0 : Int))] from rfl)⟩
       · refine ⟨_, rfl, rfl, ?_⟩
         refine O47.stA 0 rfl ((T_roadref2_Tok.T.len _ _ _ e_2)).symm (Flats.cons trivial (Flats.cons trivial (Flats.cons trivial Flats.nil))) fun h51 O52 => ?_
         refine ⟨_, ldAn (Sub.refl _) (O52.all 0 rfl) rfl, ?_⟩
         have O53 := O52.nm
         cases e
         exact ⟨_, _, O53.pick [], rfl, (show T_roadref2_Tok.E _ (T_roadref2_Tok.mk (0 : Int) (ByteArray.mk #[]) (0 : Int)) [(Value.int .i64 (0 : Int)), (Value.string (ByteArray.mk #[])), (Value.int .i64 (0 : Int))] from rfl)⟩
 · exact roadref2_token.j0.walk (O.pick [0]).nm e_2 tab e
noncomputable def roadref2_token (s_0 : ByteArray) : Option (T_roadref2_Tok × Int) :=
 Option.bind (gb s_0 (0 : Int)) fun y5 => if y5 = (34 : Int) then (Option.bind (roadref2_meant s_0) fun y11 => some ((T_roadref2_Tok.mk (5 : Int) y11.1 (0 : Int)), y11.2)) else (if 0 ≤ (52 : Int) ∧ (52 : Int) ≤ (62 : Int) ∧ (62 : Int) ≤ ((ByteArray.size (ByteArray.mk #[97, 98, 99, 100, 101, 102, 103, 104, 105, 106, 107, 108, 109, 110, 111, 112, 113, 114, 115, 116, 117, 118, 119, 120, 121, 122, 65, 66, 67, 68, 69, 70, 71, 72, 73, 74, 75, 76, 77, 78, 79, 80, 81, 82, 83, 84, 85, 86, 87, 88, 89, 90, 48, 49, 50, 51, 52, 53, 54, 55, 56, 57, 95]) : Nat) : Int) then (Option.bind (roadref2_run s_0 (ByteArray.extract (ByteArray.mk #[97, 98, 99, 100, 101, 102, 103, 104, 105, 106, 107, 108, 109, 110, 111, 112, 113, 114, 115, 116, 117, 118, 119, 120, 121, 122, 65, 66, 67, 68, 69, 70, 71, 72, 73, 74, 75, 76, 77, 78, 79, 80, 81, 82, 83, 84, 85, 86, 87, 88, 89, 90, 48, 49, 50, 51, 52, 53, 54, 55, 56, 57, 95]) (Int.toNat (52 : Int)) (Int.toNat (62 : Int)))) fun y22 => if y22 > (0 : Int) then (if 0 ≤ y22 ∧ y22 ≤ ((ByteArray.size s_0 : Nat) : Int) ∧ ((ByteArray.size s_0 : Nat) : Int) ≤ ((ByteArray.size s_0 : Nat) : Int) then (Option.bind (roadref2_run (ByteArray.extract s_0 (Int.toNat y22) (Int.toNat ((ByteArray.size s_0 : Nat) : Int))) (ByteArray.mk #[97, 98, 99, 100, 101, 102, 103, 104, 105, 106, 107, 108, 109, 110, 111, 112, 113, 114, 115, 116, 117, 118, 119, 120, 121, 122, 65, 66, 67, 68, 69, 70, 71, 72, 73, 74, 75, 76, 77, 78, 79, 80, 81, 82, 83, 84, 85, 86, 87, 88, 89, 90, 48, 49, 50, 51, 52, 53, 54, 55, 56, 57, 95])) fun y30 => if y30 > (0 : Int) then (some ((T_roadref2_Tok.mk (0 : Int) (ByteArray.mk #[]) (0 : Int)), (-1 : Int))) else (if 0 ≤ (0 : Int) ∧ (0 : Int) ≤ y22 ∧ y22 ≤ ((ByteArray.size s_0 : Nat) : Int) then (some ((T_roadref2_Tok.mk (4 : Int) (ByteArray.extract s_0 (Int.toNat (0 : Int)) (Int.toNat y22)) (0 : Int)), y22)) else none)) else none) else (Option.bind (roadref2_run s_0 (ByteArray.mk #[97, 98, 99, 100, 101, 102, 103, 104, 105, 106, 107, 108, 109, 110, 111, 112, 113, 114, 115, 116, 117, 118, 119, 120, 121, 122, 65, 66, 67, 68, 69, 70, 71, 72, 73, 74, 75, 76, 77, 78, 79, 80, 81, 82, 83, 84, 85, 86, 87, 88, 89, 90, 48, 49, 50, 51, 52, 53, 54, 55, 56, 57, 95])) fun y45 => if y45 > (0 : Int) then (Option.bind (gb s_0 (0 : Int)) fun y52 => (roadref2_token.j1 s_0 (T_roadref2_Tok.mk (0 : Int) (ByteArray.mk #[]) (0 : Int)) y45 (y52 != (95 : Int)))) else ((roadref2_token.j1 s_0 (T_roadref2_Tok.mk (0 : Int) (ByteArray.mk #[]) (0 : Int)) y45 false)))) else none)
set_option maxHeartbeats 4000000 in
theorem roadref2_token.walk {W h m s_0} (O : Hold W h m h m []) (tab : TB m) {r} (e : roadref2_token s_0 = some r) : Run Tryd.prog 60 #[Value.string s_0] h (roadref2_token.post W h m r) := by
 unfold roadref2_token at e
 refine f60.run ?_
 unfold f60.runT
 refine O.new fun h1 x2 O3 => ?_
 obtain ⟨y5, g6, e⟩ := bind_e e
 obtain ⟨q7, b8, q9, q10⟩ := gb_e g6
 refine ⟨q7, _, q9, ?_⟩
 try rw [← q10]
 refine split_eq_e e (fun c60 e => ?_) (fun c60 e => ?_)
 · obtain ⟨y11, g12, e⟩ := bind_e e
   refine (roadref2_meant.walk (Hold.start (W := No) O3.s)  g12).mono ?_
   rintro _ h13 ⟨m14, Q15, rfl⟩
   have O17 := Hold.nm (O3.retC Q15 vfs_nil)
   refine ⟨_, _, rfl, ?_⟩
   refine ⟨_, rfl, rfl, ?_⟩
   refine O17.stA 0 rfl rfl (Flats.cons trivial (Flats.cons trivial (Flats.cons trivial Flats.nil))) fun h18 O19 => ?_
   refine ⟨_, ldAn (Sub.refl _) (O19.all 0 rfl) rfl, ?_⟩
   have O20 := O19.nm
   cases e
   exact ⟨_, _, O20.pick [], rfl, (show T_roadref2_Tok.E _ (T_roadref2_Tok.mk (5 : Int) y11.1 (0 : Int)) [(Value.int .i64 (5 : Int)), (Value.string y11.1), (Value.int .i64 (0 : Int))] from rfl)⟩
 · obtain ⟨g21, e⟩ := guard_e e
   refine ⟨g21.1, g21.2.1, g21.2.2, ?_⟩
   obtain ⟨y22, g23, e⟩ := bind_e e
   refine (roadref2_run.walk (Hold.start (W := No) O3.s)  g23).mono ?_
   rintro _ h24 ⟨m25, Q26, rfl⟩
   have O28 := Hold.nm (O3.retC Q26 vfs_nil)
   refine ⟨_, rfl, ?_⟩
   refine split_dec_e e (fun c59 e => ?_) (fun c59 e => ?_)
   · obtain ⟨g29, e⟩ := guard_e e
     refine ⟨g29.1, g29.2.1, g29.2.2, ?_⟩
     obtain ⟨y30, g31, e⟩ := bind_e e
     refine (roadref2_run.walk (Hold.start (W := No) O28.s)  g31).mono ?_
     rintro _ h32 ⟨m33, Q34, rfl⟩
     have O36 := Hold.nm (O28.retC Q34 vfs_nil)
     refine ⟨_, rfl, ?_⟩
     refine split_dec_e e (fun c44 e => ?_) (fun c44 e => ?_)
     · refine ⟨_, rfl, rfl, ?_⟩
       refine O36.stA 0 rfl rfl (Flats.cons trivial (Flats.cons trivial (Flats.cons trivial Flats.nil))) fun h37 O38 => ?_
       refine ⟨_, ldAn (Sub.refl _) (O38.all 0 rfl) rfl, ?_⟩
       have O39 := O38.nm
       cases e
       exact ⟨_, _, O39.pick [], rfl, (show T_roadref2_Tok.E _ (T_roadref2_Tok.mk (0 : Int) (ByteArray.mk #[]) (0 : Int)) [(Value.int .i64 (0 : Int)), (Value.string (ByteArray.mk #[])), (Value.int .i64 (0 : Int))] from rfl)⟩
     · obtain ⟨g40, e⟩ := guard_e e
       refine ⟨g40.1, g40.2.1, g40.2.2, ?_⟩
       refine ⟨_, rfl, rfl, ?_⟩
       refine O36.stA 0 rfl rfl (Flats.cons trivial (Flats.cons trivial (Flats.cons trivial Flats.nil))) fun h41 O42 => ?_
       refine ⟨_, ldAn (Sub.refl _) (O42.all 0 rfl) rfl, ?_⟩
       have O43 := O42.nm
       cases e
       exact ⟨_, _, O43.pick [], rfl, (show T_roadref2_Tok.E _ (T_roadref2_Tok.mk (4 : Int) (ByteArray.extract s_0 (Int.toNat (0 : Int)) (Int.toNat y22)) (0 : Int)) [(Value.int .i64 (4 : Int)), (Value.string (ByteArray.extract s_0 (Int.toNat (0 : Int)) (Int.toNat y22))), (Value.int .i64 (0 : Int))] from rfl)⟩
   · obtain ⟨y45, g46, e⟩ := bind_e e
     refine (roadref2_run.walk (Hold.start (W := No) O28.s)  g46).mono ?_
     rintro _ h47 ⟨m48, Q49, rfl⟩
     have O51 := Hold.nm (O28.retC Q49 vfs_nil)
     refine ⟨_, rfl, ?_⟩
     refine split_dec_e e (fun c58 e => ?_) (fun c58 e => ?_)
     · obtain ⟨y52, g53, e⟩ := bind_e e
       obtain ⟨q54, b55, q56, q57⟩ := gb_e g53
       refine ⟨q54, _, q56, ?_⟩
       try rw [← q57]
       exact roadref2_token.j1.walk (O51.pick [0]).nm (show T_roadref2_Tok.E _ (T_roadref2_Tok.mk (0 : Int) (ByteArray.mk #[]) (0 : Int)) [(Value.int .i64 (0 : Int)), (Value.string (ByteArray.mk #[])), (Value.int .i64 (0 : Int))] from rfl) tab e
     · exact roadref2_token.j1.walk (O51.pick [0]).nm (show T_roadref2_Tok.E _ (T_roadref2_Tok.mk (0 : Int) (ByteArray.mk #[]) (0 : Int)) [(Value.int .i64 (0 : Int)), (Value.string (ByteArray.mk #[])), (Value.int .i64 (0 : Int))] from rfl) tab e
def roadref2_Tokens.post (W : Nat → Prop) (h0 m0 : Heap) (r : (List T_roadref2_Tok) × Int × Int) (v : Value) (h : Heap) : Prop := ∃ m A0 n0 c0, Hold W h0 m0 h m [rR (aE T_roadref2_Tok.T) A0 c0 r.1] ∧ v = .tuple #[.slice A0 n0 c0, .int .i64 r.2.1, .int .i64 r.2.2] ∧ n0 = List.length r.1
inductive roadref2_Tokens.l0_k.Pt where
 | l0 (s_0 : ByteArray) (a_5 : List T_roadref2_Tok) (x_6 : Int)
 | j0 (s_0 : ByteArray) (a_5 : List T_roadref2_Tok) (x_6 : Int) (x_8 : Int)
noncomputable def roadref2_Tokens.l0_k.body (go : (p : roadref2_Tokens.l0_k.Pt) → Option ((List T_roadref2_Tok) × Int × Int)) : (p : roadref2_Tokens.l0_k.Pt) → Option ((List T_roadref2_Tok) × Int × Int)
 | .l0 s_0 a_5 x_6 => if x_6 < ((ByteArray.size s_0 : Nat) : Int) then (if 0 ≤ x_6 ∧ x_6 ≤ ((ByteArray.size s_0 : Nat) : Int) ∧ ((ByteArray.size s_0 : Nat) : Int) ≤ ((ByteArray.size s_0 : Nat) : Int) then (Option.bind (roadref2_run (ByteArray.extract s_0 (Int.toNat x_6) (Int.toNat ((ByteArray.size s_0 : Nat) : Int))) (ByteArray.mk #[32, 9, 10])) fun y2 => if y2 > (0 : Int) then ((go (.l0 s_0 a_5 (IntKind.wrap .i64 (x_6 + y2))))) else (Option.bind (gb s_0 x_6) fun y9 => if y9 = (35 : Int) then (if 0 ≤ x_6 ∧ x_6 ≤ ((ByteArray.size s_0 : Nat) : Int) ∧ ((ByteArray.size s_0 : Nat) : Int) ≤ ((ByteArray.size s_0 : Nat) : Int) then (Option.bind (strings_IndexByte (ByteArray.extract s_0 (Int.toNat x_6) (Int.toNat ((ByteArray.size s_0 : Nat) : Int))) (10 : Int)) fun y16 => if y16 < (0 : Int) then ((go (.j0 s_0 a_5 x_6 (IntKind.wrap .i64 (((ByteArray.size s_0 : Nat) : Int) - x_6))))) else ((go (.j0 s_0 a_5 x_6 y16)))) else none) else (if 0 ≤ x_6 ∧ x_6 ≤ ((ByteArray.size s_0 : Nat) : Int) ∧ ((ByteArray.size s_0 : Nat) : Int) ≤ ((ByteArray.size s_0 : Nat) : Int) then (Option.bind (roadref2_token (ByteArray.extract s_0 (Int.toNat x_6) (Int.toNat ((ByteArray.size s_0 : Nat) : Int)))) fun y25 => if y25.2 < (0 : Int) then (some (([] : List T_roadref2_Tok), x_6, (10 : Int))) else (Option.bind (ap 32 a_5 ([({ y25.1 with At := x_6 })] : List T_roadref2_Tok)) fun l53 => (go (.l0 s_0 l53 (IntKind.wrap .i64 (x_6 + y25.2)))))) else none))) else none) else (some (a_5, (0 : Int), (0 : Int)))
 | .j0 s_0 a_5 x_6 x_8 => (go (.l0 s_0 a_5 (IntKind.wrap .i64 (x_6 + x_8))))
theorem roadref2_Tokens.l0_k.mono : MonoF (β := fun _ => ((List T_roadref2_Tok) × Int × Int)) roadref2_Tokens.l0_k.body := fun f g hfg p => match p with
 | .l0 s_0 a_5 x_6 => LeO.ite (LeO.ite (LeO.bind (LeO.refl _) fun y2 => LeO.ite ((hfg _)) (LeO.bind (LeO.refl _) fun y9 => LeO.ite (LeO.ite (LeO.bind (LeO.refl _) fun y16 => LeO.ite ((hfg _)) ((hfg _))) (LeO.refl _)) (LeO.ite (LeO.bind (LeO.refl _) fun y25 => LeO.ite (LeO.refl _) (LeO.bind (LeO.refl _) fun l53 => (hfg _))) (LeO.refl _)))) (LeO.refl _)) (LeO.refl _)
 | .j0 s_0 a_5 x_6 x_8 => (hfg _)
noncomputable def roadref2_Tokens.l0_k.go (p : roadref2_Tokens.l0_k.Pt) : Option ((List T_roadref2_Tok) × Int × Int) := fixF (β := fun _ => ((List T_roadref2_Tok) × Int × Int)) roadref2_Tokens.l0_k.body p
noncomputable def roadref2_Tokens.l0 (s_0 a_5 x_6) := roadref2_Tokens.l0_k.go (.l0 s_0 a_5 x_6)
noncomputable def roadref2_Tokens.j0 (s_0 a_5 x_6 x_8) := roadref2_Tokens.l0_k.go (.j0 s_0 a_5 x_6 x_8)
theorem roadref2_Tokens.l0_eq (s_0 a_5 x_6) : roadref2_Tokens.l0 s_0 a_5 x_6 = if x_6 < ((ByteArray.size s_0 : Nat) : Int) then (if 0 ≤ x_6 ∧ x_6 ≤ ((ByteArray.size s_0 : Nat) : Int) ∧ ((ByteArray.size s_0 : Nat) : Int) ≤ ((ByteArray.size s_0 : Nat) : Int) then (Option.bind (roadref2_run (ByteArray.extract s_0 (Int.toNat x_6) (Int.toNat ((ByteArray.size s_0 : Nat) : Int))) (ByteArray.mk #[32, 9, 10])) fun y2 => if y2 > (0 : Int) then ((roadref2_Tokens.l0 s_0 a_5 (IntKind.wrap .i64 (x_6 + y2)))) else (Option.bind (gb s_0 x_6) fun y9 => if y9 = (35 : Int) then (if 0 ≤ x_6 ∧ x_6 ≤ ((ByteArray.size s_0 : Nat) : Int) ∧ ((ByteArray.size s_0 : Nat) : Int) ≤ ((ByteArray.size s_0 : Nat) : Int) then (Option.bind (strings_IndexByte (ByteArray.extract s_0 (Int.toNat x_6) (Int.toNat ((ByteArray.size s_0 : Nat) : Int))) (10 : Int)) fun y16 => if y16 < (0 : Int) then ((roadref2_Tokens.j0 s_0 a_5 x_6 (IntKind.wrap .i64 (((ByteArray.size s_0 : Nat) : Int) - x_6)))) else ((roadref2_Tokens.j0 s_0 a_5 x_6 y16))) else none) else (if 0 ≤ x_6 ∧ x_6 ≤ ((ByteArray.size s_0 : Nat) : Int) ∧ ((ByteArray.size s_0 : Nat) : Int) ≤ ((ByteArray.size s_0 : Nat) : Int) then (Option.bind (roadref2_token (ByteArray.extract s_0 (Int.toNat x_6) (Int.toNat ((ByteArray.size s_0 : Nat) : Int)))) fun y25 => if y25.2 < (0 : Int) then (some (([] : List T_roadref2_Tok), x_6, (10 : Int))) else (Option.bind (ap 32 a_5 ([({ y25.1 with At := x_6 })] : List T_roadref2_Tok)) fun l53 => (roadref2_Tokens.l0 s_0 l53 (IntKind.wrap .i64 (x_6 + y25.2))))) else none))) else none) else (some (a_5, (0 : Int), (0 : Int))) := fixF_eq roadref2_Tokens.l0_k.mono _
theorem roadref2_Tokens.j0_eq (s_0 a_5 x_6 x_8) : roadref2_Tokens.j0 s_0 a_5 x_6 x_8 = (roadref2_Tokens.l0 s_0 a_5 (IntKind.wrap .i64 (x_6 + x_8))) := fixF_eq roadref2_Tokens.l0_k.mono _
def roadref2_Tokens.l0_k.I : (p : roadref2_Tokens.l0_k.Pt) → ((List T_roadref2_Tok) × Int × Int) → Prop
 | .l0 s_0 a_5 x_6, r => ∀ {W h0 m0 h m A_5 n_5 c_5} (O : Hold W h0 m0 h m [rR (aE T_roadref2_Tok.T) A_5 c_5 a_5]) (ne_5 : n_5 = List.length a_5) (tab : TB m), f30.l0 (roadref2_Tokens.post W h0 m0 r) s_0 A_5 n_5 c_5 x_6 h
 | .j0 s_0 a_5 x_6 x_8, r => ∀ {W h0 m0 h m A_5 n_5 c_5} (O : Hold W h0 m0 h m [rR (aE T_roadref2_Tok.T) A_5 c_5 a_5]) (ne_5 : n_5 = List.length a_5) (tab : TB m), f30.j0 (roadref2_Tokens.post W h0 m0 r) s_0 A_5 n_5 c_5 x_6 x_8 h
set_option maxHeartbeats 4000000 in
theorem roadref2_Tokens.l0_k.step_l0 (go : (p : roadref2_Tokens.l0_k.Pt) → Option ((List T_roadref2_Tok) × Int × Int)) (ih : ∀ p r, go p = some r → roadref2_Tokens.l0_k.I p r) (s_0 a_5 x_6) (r) (e : roadref2_Tokens.l0_k.body go (.l0 s_0 a_5 x_6) = some r) : roadref2_Tokens.l0_k.I (.l0 s_0 a_5 x_6) r := by
 unfold roadref2_Tokens.l0_k.body at e
 intro W h0 m0 h m A_5 n_5 c_5 O ne_5 tab
 subst ne_5
 refine f30.l0_in ?_
 unfold f30.l0T
 refine split_dec_e e (fun c66 e => ?_) (fun c66 e => ?_)
 · obtain ⟨g1, e⟩ := guard_e e
   refine ⟨g1.1, g1.2.1, g1.2.2, ?_⟩
   obtain ⟨y2, g3, e⟩ := bind_e e
   refine (roadref2_run.walk (Hold.start (W := No) O.s)  g3).mono ?_
   rintro _ h4 ⟨m5, Q6, rfl⟩
   have O8 := Hold.nm (O.retC Q6 vfs_nil)
   refine ⟨_, rfl, ?_⟩
   refine split_dec_e e (fun c65 e => ?_) (fun c65 e => ?_)
   · exact (ih _ _ e) (O8.pick [0]).nm rfl tab
   · obtain ⟨y9, g10, e⟩ := bind_e e
     obtain ⟨q11, b12, q13, q14⟩ := gb_e g10
     refine ⟨q11, _, q13, ?_⟩
     try rw [← q14]
     refine split_eq_e e (fun c64 e => ?_) (fun c64 e => ?_)
     · obtain ⟨g15, e⟩ := guard_e e
       refine ⟨g15.1, g15.2.1, g15.2.2, ?_⟩
       obtain ⟨y16, g17, e⟩ := bind_e e
       refine (strings_IndexByte.walk (Hold.start (W := No) O8.s)  g17).mono ?_
       rintro _ h18 ⟨m19, Q20, rfl⟩
       have O22 := Hold.nm (O8.retC Q20 vfs_nil)
       refine ⟨_, rfl, ?_⟩
       refine split_dec_e e (fun c23 e => ?_) (fun c23 e => ?_)
       · exact (ih _ _ e) (O22.pick [0]).nm rfl tab
       · exact (ih _ _ e) (O22.pick [0]).nm rfl tab
     · obtain ⟨g24, e⟩ := guard_e e
       refine ⟨g24.1, g24.2.1, g24.2.2, ?_⟩
       obtain ⟨y25, g26, e⟩ := bind_e e
       refine (roadref2_token.walk (Hold.start (W := No) O8.s) tab g26).mono ?_
       rintro _ h27 ⟨m28, cs32, Q29, rfl, he33⟩
       replace he33 : T_roadref2_Tok.E m y25.1 cs32 := T_roadref2_Tok.keep he33
       have O34 := Hold.nm (O8.retC Q29 vfs_nil)
       refine ⟨_, _, rfl, ?_⟩
       refine O34.new fun h35 x36 O37 => ?_
       refine ⟨_, rfl, (T_roadref2_Tok.T.len _ _ _ he33), ?_⟩
       refine O37.stA 1 rfl (T_roadref2_Tok.T.len _ _ _ he33) (T_roadref2_Tok.T.flat _ _ _ he33) fun h39 O40 => ?_
       refine split_dec_e e (fun c63 e => ?_) (fun c63 e => ?_)
       · have O41 := O40.nil (aE T_roadref2_Tok.T) none
         have O43 := O41.nm
         cases e
         exact ⟨_, _, _, _, O43.pick [2], rfl, rfl⟩
       · refine O40.stE 1 rfl 2 (lt_len (T_roadref2_Tok.T.len _ _ _ he33) (by decide)) trivial (T_roadref2_Tok.s2 he33 x_6) fun h44 cs46 e47 O45 => ?_
         refine ⟨_, ldAn (Sub.refl _) (O45.all 1 rfl) (T_roadref2_Tok.T.len _ _ _ e47), ?_⟩
         refine ⟨cs46, rfl, (T_roadref2_Tok.T.len _ _ _ e47), ?_⟩
         refine O45.new fun h48 x49 O50 => ?_
         have O52 := O50.recell 2 rfl (cs' := cs46 ++ []) rfl
         obtain ⟨l53, g54, e⟩ := bind_e e
         have O61 := O52.rowE (l := ([({ y25.1 with At := x_6 })] : List T_roadref2_Tok)) 2 rfl T_roadref2_Tok.T (show CsE _ _ _ _ _ from (CsE.cons e47 (T_roadref2_Tok.T.len _ _ _ e47) CsE.nil)) rfl
         refine O61.app 0 rfl rfl rfl ((O61.os 2 rfl).srcE rfl) (by decide) g54 fun A55 c56 h57 O58 => ?_
         refine ⟨_, _, _, rfl, ?_⟩
         have O62 := O58.nm
         exact (ih _ _ e) (O62.pick [0]).nm rfl tab
 · cases e
   exact ⟨_, _, _, _, O.pick [0], rfl, rfl⟩
theorem roadref2_Tokens.l0_k.step_j0 (go : (p : roadref2_Tokens.l0_k.Pt) → Option ((List T_roadref2_Tok) × Int × Int)) (ih : ∀ p r, go p = some r → roadref2_Tokens.l0_k.I p r) (s_0 a_5 x_6 x_8) (r) (e : roadref2_Tokens.l0_k.body go (.j0 s_0 a_5 x_6 x_8) = some r) : roadref2_Tokens.l0_k.I (.j0 s_0 a_5 x_6 x_8) r := by
 unfold roadref2_Tokens.l0_k.body at e
 intro W h0 m0 h m A_5 n_5 c_5 O ne_5 tab
 subst ne_5
 refine f30.j0_in ?_
 unfold f30.j0T
 exact (ih _ _ e) (O.pick [0]).nm rfl tab
theorem roadref2_Tokens.l0_k.all {p : roadref2_Tokens.l0_k.Pt} {r : ((List T_roadref2_Tok) × Int × Int)} (e : roadref2_Tokens.l0_k.go p = some r) : roadref2_Tokens.l0_k.I p r := fixF_ind (β := fun _ => ((List T_roadref2_Tok) × Int × Int)) roadref2_Tokens.l0_k.mono (I := roadref2_Tokens.l0_k.I) (fun go ih p r e => match p with
 | .l0 s_0 a_5 x_6 => roadref2_Tokens.l0_k.step_l0 go ih s_0 a_5 x_6 r e
 | .j0 s_0 a_5 x_6 x_8 => roadref2_Tokens.l0_k.step_j0 go ih s_0 a_5 x_6 x_8 r e
 ) e
noncomputable def roadref2_Tokens (s_0 : ByteArray) : Option ((List T_roadref2_Tok) × Int × Int) :=
 if ((ByteArray.size s_0 : Nat) : Int) > (4000 : Int) then (some (([] : List T_roadref2_Tok), (0 : Int), (2 : Int))) else ((roadref2_Tokens.l0 s_0 ([] : List T_roadref2_Tok) (0 : Int)))
theorem roadref2_Tokens.walk {W h m s_0} (O : Hold W h m h m []) (tab : TB m) {r} (e : roadref2_Tokens s_0 = some r) : Run Tryd.prog 30 #[Value.string s_0] h (roadref2_Tokens.post W h m r) := by
 unfold roadref2_Tokens at e
 refine f30.run ?_
 unfold f30.runT
 refine split_dec_e e (fun c7 e => ?_) (fun c7 e => ?_)
 · have O1 := O.nil (aE T_roadref2_Tok.T) none
   have O3 := O1.nm
   cases e
   exact ⟨_, _, _, _, O3.pick [0], rfl, rfl⟩
 · have O4 := O.nil (aE T_roadref2_Tok.T) none
   have O6 := O4.nm
   exact (roadref2_Tokens.l0_k.all e) (O6.pick [0]).nm rfl tab
def roadlaw2_TokenShows.post (W : Nat → Prop) (h0 m0 : Heap) (r : Bool) (v : Value) (h : Heap) : Prop := ∃ m , Hold W h0 m0 h m [] ∧ v = .bool r
noncomputable def roadlaw2_TokenShows.j2 (s_3 : ByteArray) (x_4 : Int) : Option (Bool) :=
 if x_4 = (3 : Int) then (some ((decide (s_3 = (ByteArray.mk #[]))))) else (some (false))
theorem roadlaw2_TokenShows.j2.walk {W h0 m0 h m s_3 x_4} (O : Hold W h0 m0 h m []) (tab : TB m) {r} (e : roadlaw2_TokenShows.j2 s_3 x_4 = some r) : f4.j2 (roadlaw2_TokenShows.post W h0 m0 r) s_3 x_4 h := by
 unfold roadlaw2_TokenShows.j2 at e
 refine f4.j2_in ?_
 unfold f4.j2T
 refine split_eq_e e (fun c1 e => ?_) (fun c1 e => ?_)
 · try rw [ba_list s_3 (ByteArray.mk #[])]
   cases e
   exact ⟨_, O.pick [], rfl⟩
 · cases e
   exact ⟨_, O.pick [], rfl⟩
noncomputable def roadlaw2_TokenShows.j3 (y_1 : T_token_Token) (s_3 : ByteArray) (x_4 : Int) (b_125 : Bool) : Option (Bool) :=
 if b_125 = true then (if x_4 = (0 : Int) then (some ((decide (s_3 = y_1.Text)))) else (some (false))) else ((roadlaw2_TokenShows.j2 s_3 x_4))
theorem roadlaw2_TokenShows.j3.walk {W h0 m0 h m bk_1 cs_1 y_1 s_3 x_4 b_125} (O : Hold W h0 m0 h m [rV bk_1 59 cs_1]) (e_1 : T_token_Token.E m y_1 cs_1) (tab : TB m) {r} (e : roadlaw2_TokenShows.j3 y_1 s_3 x_4 b_125 = some r) : f4.j3 (roadlaw2_TokenShows.post W h0 m0 r) (⟨bk_1, 0, none⟩ : Addr) s_3 x_4 b_125 h := by
 unfold roadlaw2_TokenShows.j3 at e
 refine f4.j3_in ?_
 unfold f4.j3T
 refine split_any_e e (fun c2 e => ?_) (fun c2 e => ?_)
 · refine split_eq_e e (fun c1 e => ?_) (fun c1 e => ?_)
   · refine ⟨_, ldk (k := 1) (Sub.refl _) (O.all 0 rfl) (T_token_Token.g1 e_1), _, rfl, ?_⟩
     try rw [ba_list s_3 y_1.Text]
     cases e
     exact ⟨_, O.pick [], rfl⟩
   · cases e
     exact ⟨_, O.pick [], rfl⟩
 · exact roadlaw2_TokenShows.j2.walk (O.pick []).nm tab e
noncomputable def roadlaw2_TokenShows.j1 (y_1 : T_token_Token) (s_3 : ByteArray) (x_4 : Int) (s_5 : ByteArray) (x_6 : Int) : Option (Bool) :=
 if y_1.Kind = (5 : Int) then (if s_3 = s_5 then (some ((x_4 == x_6))) else (some (false))) else (Option.bind (roadref2_Tokens y_1.Text) fun y2 => if y2.2.2 = (0 : Int) then (if (((List.length y2.1) : Nat) : Int) = (1 : Int) then (Option.bind (gi y2.1 (0 : Int)) fun y14 => if y14.Kind = y_1.Kind then (Option.bind (gi y2.1 (0 : Int)) fun y21 => (roadlaw2_TokenShows.j3 y_1 s_3 x_4 (decide (y21.Text = y_1.Text)))) else ((roadlaw2_TokenShows.j3 y_1 s_3 x_4 false))) else ((roadlaw2_TokenShows.j3 y_1 s_3 x_4 false))) else ((roadlaw2_TokenShows.j3 y_1 s_3 x_4 false)))
set_option maxHeartbeats 4000000 in
theorem roadlaw2_TokenShows.j1.walk {W h0 m0 h m bk_1 cs_1 y_1 s_3 x_4 s_5 x_6} (O : Hold W h0 m0 h m [rV bk_1 59 cs_1]) (e_1 : T_token_Token.E m y_1 cs_1) (tab : TB m) {r} (e : roadlaw2_TokenShows.j1 y_1 s_3 x_4 s_5 x_6 = some r) : f4.j1 (roadlaw2_TokenShows.post W h0 m0 r) (⟨bk_1, 0, none⟩ : Addr) s_3 x_4 s_5 x_6 h := by
 unfold roadlaw2_TokenShows.j1 at e
 refine f4.j1_in ?_
 unfold f4.j1T
 refine ⟨_, ld0 (Sub.refl _) (O.all 0 rfl) (T_token_Token.g0 e_1), _, rfl, ?_⟩
 refine split_eq_e e (fun c31 e => ?_) (fun c31 e => ?_)
 · try rw [ba_list s_3 s_5]
   refine split_dec_e e (fun c1 e => ?_) (fun c1 e => ?_)
   · cases e
     exact ⟨_, O.pick [], rfl⟩
   · cases e
     exact ⟨_, O.pick [], rfl⟩
 · refine ⟨_, ldk (k := 1) (Sub.refl _) (O.all 0 rfl) (T_token_Token.g1 e_1), _, rfl, ?_⟩
   obtain ⟨y2, g3, e⟩ := bind_e e
   refine (roadref2_Tokens.walk (Hold.start (W := No) O.s) tab g3).mono ?_
   rintro _ h4 ⟨m5, A8, n9, c10, Q6, rfl, ne11⟩
   have O13 := Hold.nm (O.retC Q6 (vfs_cons (rR_vf (aE_vf (fun _ _ _ _ h => T_roadref2_Tok.keep h))) vfs_nil))
   subst ne11
   refine ⟨_, _, _, _, _, rfl, ?_⟩
   refine split_eq_e e (fun c30 e => ?_) (fun c30 e => ?_)
   · refine split_eq_e e (fun c29 e => ?_) (fun c29 e => ?_)
     · obtain ⟨y14, g15, e⟩ := bind_e e
       refine (O13.os 1 rfl).addr rfl g15 fun a16 cs17 ha18 hc19 he20 => ?_
       refine ⟨_, ld0 (Sub.refl _) hc19 (T_roadref2_Tok.g0 he20), _, rfl, ?_⟩
       refine ⟨_, ld0 (Sub.refl _) (O13.all 0 rfl) (T_token_Token.g0 e_1), _, rfl, ?_⟩
       refine split_eq_e e (fun c28 e => ?_) (fun c28 e => ?_)
       · obtain ⟨y21, g22, e⟩ := bind_e e
         refine (O13.os 1 rfl).addr rfl g22 fun a23 cs24 ha25 hc26 he27 => ?_
         refine ⟨_, ldk (k := 1) (Sub.refl _) hc26 (T_roadref2_Tok.g1 he27), _, rfl, ?_⟩
         refine ⟨_, ldk (k := 1) (Sub.refl _) (O13.all 0 rfl) (T_token_Token.g1 e_1), _, rfl, ?_⟩
         try rw [ba_list y21.Text y_1.Text]
         exact roadlaw2_TokenShows.j3.walk (O13.pick [0]).nm e_1 tab e
       · exact roadlaw2_TokenShows.j3.walk (O13.pick [0]).nm e_1 tab e
     · exact roadlaw2_TokenShows.j3.walk (O13.pick [0]).nm e_1 tab e
   · exact roadlaw2_TokenShows.j3.walk (O13.pick [0]).nm e_1 tab e
noncomputable def roadlaw2_TokenShows.j0 (y_1 : T_token_Token) (s_3 : ByteArray) (x_4 : Int) (s_5 : ByteArray) (x_6 : Int) (b_7 : Bool) : Option (Bool) :=
 if (b_7 == (x_6 == (2 : Int))) = true then (if b_7 = true then (if s_5 = (ByteArray.mk #[]) then (if b_7 = true then ((roadlaw2_TokenShows.j1 y_1 s_3 x_4 s_5 x_6)) else (if x_6 = (0 : Int) then (Option.bind (roadref2_Quoted y_1.Text) fun y1 => if s_5 = y1 then ((roadlaw2_TokenShows.j1 y_1 s_3 x_4 s_5 x_6)) else (some (false))) else (some (false)))) else (some (false))) else (if b_7 = true then ((roadlaw2_TokenShows.j1 y_1 s_3 x_4 s_5 x_6)) else (if x_6 = (0 : Int) then (Option.bind (roadref2_Quoted y_1.Text) fun y12 => if s_5 = y12 then ((roadlaw2_TokenShows.j1 y_1 s_3 x_4 s_5 x_6)) else (some (false))) else (some (false))))) else (some (false))
set_option maxHeartbeats 4000000 in
theorem roadlaw2_TokenShows.j0.walk {W h0 m0 h m bk_1 cs_1 y_1 s_3 x_4 s_5 x_6 b_7} (O : Hold W h0 m0 h m [rV bk_1 59 cs_1]) (e_1 : T_token_Token.E m y_1 cs_1) (tab : TB m) {r} (e : roadlaw2_TokenShows.j0 y_1 s_3 x_4 s_5 x_6 b_7 = some r) : f4.j0 (roadlaw2_TokenShows.post W h0 m0 r) (⟨bk_1, 0, none⟩ : Addr) s_3 x_4 s_5 x_6 b_7 h := by
 unfold roadlaw2_TokenShows.j0 at e
 refine f4.j0_in ?_
 unfold f4.j0T
 refine split_not ?_
 refine split_any_e e (fun c23 e => ?_) (fun c23 e => ?_)
 · refine split_any_e e (fun c22 e => ?_) (fun c22 e => ?_)
   · try rw [ba_list s_5 (ByteArray.mk #[])]
     refine split_not ?_
     refine split_dec_e e (fun c11 e => ?_) (fun c11 e => ?_)
     · refine split_not ?_
       refine split_any_e e (fun c10 e => ?_) (fun c10 e => ?_)
       · exact roadlaw2_TokenShows.j1.walk (O.pick [0]).nm e_1 tab e
       · refine split_ne_e e (fun c9 e => ?_) (fun c9 e => ?_)
         · cases e
           exact ⟨_, O.pick [], rfl⟩
         · refine ⟨_, ldk (k := 1) (Sub.refl _) (O.all 0 rfl) (T_token_Token.g1 e_1), _, rfl, ?_⟩
           obtain ⟨y1, g2, e⟩ := bind_e e
           refine (roadref2_Quoted.walk (Hold.start (W := No) O.s)  g2).mono ?_
           rintro _ h3 ⟨m4, Q5, rfl⟩
           have O7 := Hold.nm (O.retC Q5 vfs_nil)
           refine ⟨_, rfl, ?_⟩
           try rw [ba_list s_5 y1]
           refine split_not ?_
           refine split_dec_e e (fun c8 e => ?_) (fun c8 e => ?_)
           · exact roadlaw2_TokenShows.j1.walk (O7.pick [0]).nm e_1 tab e
           · cases e
             exact ⟨_, O7.pick [], rfl⟩
     · cases e
       exact ⟨_, O.pick [], rfl⟩
   · refine split_not ?_
     refine split_any_e e (fun c21 e => ?_) (fun c21 e => ?_)
     · exact roadlaw2_TokenShows.j1.walk (O.pick [0]).nm e_1 tab e
     · refine split_ne_e e (fun c20 e => ?_) (fun c20 e => ?_)
       · cases e
         exact ⟨_, O.pick [], rfl⟩
       · refine ⟨_, ldk (k := 1) (Sub.refl _) (O.all 0 rfl) (T_token_Token.g1 e_1), _, rfl, ?_⟩
         obtain ⟨y12, g13, e⟩ := bind_e e
         refine (roadref2_Quoted.walk (Hold.start (W := No) O.s)  g13).mono ?_
         rintro _ h14 ⟨m15, Q16, rfl⟩
         have O18 := Hold.nm (O.retC Q16 vfs_nil)
         refine ⟨_, rfl, ?_⟩
         try rw [ba_list s_5 y12]
         refine split_not ?_
         refine split_dec_e e (fun c19 e => ?_) (fun c19 e => ?_)
         · exact roadlaw2_TokenShows.j1.walk (O18.pick [0]).nm e_1 tab e
         · cases e
           exact ⟨_, O18.pick [], rfl⟩
 · cases e
   exact ⟨_, O.pick [], rfl⟩
noncomputable def roadlaw2_TokenShows (y_0 : T_token_Token) : Option (Bool) :=
 Option.bind (token_Show y_0) fun y5 => Option.bind (token_Quote y_0.Text) fun y12 => Option.bind (token_IsWord y_0.Text) fun y19 => Option.bind (roadref2_WordList ) fun y26 => Option.bind (slices_Contains_22 y26 y_0.Text) fun y38 => if (y19 == y38) = true then (Option.bind (token_IsLow y_0.Text) fun y52 => Option.bind (roadref2_Small y_0.Text) fun y59 => if (y52 == y59) = true then (Option.bind (token_IsUp y_0.Text) fun y66 => Option.bind (roadref2_Great y_0.Text) fun y73 => if (y66 == y73) = true then (Option.bind (token_Words ) fun y80 => if (((List.length y80) : Nat) : Int) = (38 : Int) then ((roadlaw2_TokenShows.j0 y_0 y5.1 y5.2 y12.1 y12.2 (decide (((ByteArray.size y_0.Text : Nat) : Int) > (64 : Int))))) else (some (false))) else (some (false))) else (some (false))) else (some (false))
set_option maxHeartbeats 4000000 in
theorem roadlaw2_TokenShows.walk {W h m cs_0 y_0} (O : Hold W h m h m []) (e_0 : T_token_Token.E m y_0 cs_0) (tab : TB m) {r} (e : roadlaw2_TokenShows y_0 = some r) : Run Tryd.prog 4 #[Value.agg cs_0.toArray] h (roadlaw2_TokenShows.post W h m r) := by
 unfold roadlaw2_TokenShows at e
 refine f4.run ?_
 unfold f4.runT
 refine O.new fun h1 x2 O3 => ?_
 refine ⟨_, ldAn (Sub.refl _) (O3.all 0 rfl) (T_token_Token.T.len _ _ _ e_0), ?_⟩
 obtain ⟨y5, g6, e⟩ := bind_e e
 refine (token_Show.walk (Hold.start (W := No) O3.s) e_0 tab g6).mono ?_
 rintro _ h7 ⟨m8, Q9, rfl⟩
 have O11 := Hold.nm (O3.retC Q9 vfs_nil)
 refine ⟨_, _, rfl, ?_⟩
 refine ⟨_, ldk (k := 1) (Sub.refl _) (O11.all 0 rfl) (T_token_Token.g1 e_0), _, rfl, ?_⟩
 obtain ⟨y12, g13, e⟩ := bind_e e
 refine (token_Quote.walk (Hold.start (W := No) O11.s) tab g13).mono ?_
 rintro _ h14 ⟨m15, Q16, rfl⟩
 have O18 := Hold.nm (O11.retC Q16 vfs_nil)
 refine ⟨_, _, rfl, ?_⟩
 refine ⟨_, ldk (k := 1) (Sub.refl _) (O18.all 0 rfl) (T_token_Token.g1 e_0), _, rfl, ?_⟩
 refine ⟨_, ldk (k := 1) (Sub.refl _) (O18.all 0 rfl) (T_token_Token.g1 e_0), _, rfl, ?_⟩
 refine ⟨_, ldk (k := 1) (Sub.refl _) (O18.all 0 rfl) (T_token_Token.g1 e_0), _, rfl, ?_⟩
 obtain ⟨y19, g20, e⟩ := bind_e e
 refine (token_IsWord.walk (Hold.start (W := No) O18.s)  g20).mono ?_
 rintro _ h21 ⟨m22, Q23, rfl⟩
 have O25 := Hold.nm (O18.retC Q23 vfs_nil)
 refine ⟨_, rfl, ?_⟩
 refine ⟨Q23.S.ext, ?_⟩
 obtain ⟨y26, g27, e⟩ := bind_e e
 refine (roadref2_WordList.walk (Hold.start (W := No) O25.s) tab g27).mono ?_
 rintro _ h28 ⟨m29, A32, n33, c34, Q30, rfl, ne35⟩
 have O37 := Hold.nm (O25.retC Q30 (vfs_cons (rR_vf (aE_vf (fun _ _ _ _ h => h))) vfs_nil))
 subst ne35
 refine ⟨_, _, _, rfl, ?_⟩
 refine ⟨(Q23.S.ext.trans Q30.S.ext), ?_⟩
 obtain ⟨y38, g39, e⟩ := bind_e e
 obtain ⟨m44, u45, s50, ⟨⟨r48, k49⟩, _⟩, B46, C47⟩ := O37.lend0 [1]
 replace r48 : Rd 1 eStr m44 A32 y26 := r48
 replace k49 : List.length y26 ≤ c34 := k49
 refine (slices_Contains_22.walk (Hold.start (W := No) s50) rfl k49 r48 g39).mono ?_
 rintro _ h40 ⟨m41, Q42, rfl⟩
 have O51 := Hold.nm (C47 Q42 vfs_nil)
 refine ⟨_, rfl, ?_⟩
 refine split_not ?_
 refine split_any_e e (fun c95 e => ?_) (fun c95 e => ?_)
 · refine ⟨_, ldk (k := 1) (Sub.refl _) (O51.all 0 rfl) (T_token_Token.g1 e_0), _, rfl, ?_⟩
   refine ⟨_, ldk (k := 1) (Sub.refl _) (O51.all 0 rfl) (T_token_Token.g1 e_0), _, rfl, ?_⟩
   obtain ⟨y52, g53, e⟩ := bind_e e
   refine (token_IsLow.walk (Hold.start (W := No) O51.s)  g53).mono ?_
   rintro _ h54 ⟨m55, Q56, rfl⟩
   have O58 := Hold.nm (O51.retC Q56 vfs_nil)
   refine ⟨_, rfl, ?_⟩
   refine ⟨Q56.S.ext, ?_⟩
   obtain ⟨y59, g60, e⟩ := bind_e e
   refine (roadref2_Small.walk (Hold.start (W := No) O58.s) tab g60).mono ?_
   rintro _ h61 ⟨m62, Q63, rfl⟩
   have O65 := Hold.nm (O58.retC Q63 vfs_nil)
   refine ⟨_, rfl, ?_⟩
   refine split_not ?_
   refine split_any_e e (fun c94 e => ?_) (fun c94 e => ?_)
   · refine ⟨_, ldk (k := 1) (Sub.refl _) (O65.all 0 rfl) (T_token_Token.g1 e_0), _, rfl, ?_⟩
     refine ⟨_, ldk (k := 1) (Sub.refl _) (O65.all 0 rfl) (T_token_Token.g1 e_0), _, rfl, ?_⟩
     obtain ⟨y66, g67, e⟩ := bind_e e
     refine (token_IsUp.walk (Hold.start (W := No) O65.s)  g67).mono ?_
     rintro _ h68 ⟨m69, Q70, rfl⟩
     have O72 := Hold.nm (O65.retC Q70 vfs_nil)
     refine ⟨_, rfl, ?_⟩
     refine ⟨Q70.S.ext, ?_⟩
     obtain ⟨y73, g74, e⟩ := bind_e e
     refine (roadref2_Great.walk (Hold.start (W := No) O72.s)  g74).mono ?_
     rintro _ h75 ⟨m76, Q77, rfl⟩
     have O79 := Hold.nm (O72.retC Q77 vfs_nil)
     refine ⟨_, rfl, ?_⟩
     refine split_not ?_
     refine split_any_e e (fun c93 e => ?_) (fun c93 e => ?_)
     · obtain ⟨y80, g81, e⟩ := bind_e e
       refine (token_Words.walk (Hold.start (W := No) O79.s)  g81).mono ?_
       rintro _ h82 ⟨m83, A86, n87, c88, Q84, rfl, ne89⟩
       have O91 := Hold.nm (O79.retC Q84 (vfs_cons (rR_vf (aE_vf (fun _ _ _ _ h => h))) vfs_nil))
       subst ne89
       refine ⟨_, _, _, rfl, ?_⟩
       refine split_ne_e e (fun c92 e => ?_) (fun c92 e => ?_)
       · cases e
         exact ⟨_, O91.pick [], rfl⟩
       · exact roadlaw2_TokenShows.j0.walk (O91.pick [0]).nm e_0 tab e
     · cases e
       exact ⟨_, O79.pick [], rfl⟩
   · refine ⟨(Ext.refl _), ?_⟩
     cases e
     exact ⟨_, O65.pick [], rfl⟩
 · refine ⟨(Ext.refl _), ?_⟩
   refine ⟨(Ext.refl _), ?_⟩
   cases e
   exact ⟨_, O51.pick [], rfl⟩
end Go.Proofs.YtkbhpagogmmgnaaDoor.Fw

end
section
namespace Go.Proofs.YtkbhpagogmmgnaaDoor.Fw
open Go Go.Hw Go.Proofs
set_option linter.unusedVariables false
set_option linter.unusedSectionVars false
set_option linter.unusedSimpArgs false
def inn (b : UInt8) : Bool := (decide (97 ≤ b.toNat) && decide (b.toNat ≤ 122)) || (decide (65 ≤ b.toNat) && decide (b.toNat ≤ 90)) || (decide (48 ≤ b.toNat) && decide (b.toNat ≤ 57)) || b.toNat == 95
def loB (b : UInt8) : Bool := decide (97 ≤ b.toNat) && decide (b.toNat ≤ 122)
def upB (b : UInt8) : Bool := decide (65 ≤ b.toNat) && decide (b.toNat ≤ 90)
def nameB (f : UInt8 → Bool) (s : ByteArray) : Bool := match s.data.toList with
 | [] => false
 | b :: l => decide (l.length < 16) && f b && (b :: l).all inn
theorem low_val (b : UInt8) : token_low ((b.toNat : Nat) : Int) = some (loB b) := by
 unfold token_low loB
 by_cases h : 97 ≤ b.toNat
 · rw [if_pos (by omega), decide_eq_true h, Bool.true_and]
   congr 1
   rw [decide_eq_decide]; omega
 · rw [if_neg (by omega), decide_eq_false h]; rfl
theorem great_val (b : UInt8) : token_great ((b.toNat : Nat) : Int) = some (upB b) := by
 unfold token_great upB
 by_cases h : 65 ≤ b.toNat
 · rw [if_pos (by omega), decide_eq_true h, Bool.true_and]
   congr 1
   rw [decide_eq_decide]; omega
 · rw [if_neg (by omega), decide_eq_false h]; rfl
theorem inner_val (b : UInt8) : token_inner ((b.toNat : Nat) : Int) = some (inn b) := by
 unfold token_inner
 rw [low_val, Option.bind_some, great_val, Option.bind_some]
 unfold inn loB upB token_digit
 cases (decide (97 ≤ b.toNat) && decide (b.toNat ≤ 122))
 · cases (decide (65 ≤ b.toNat) && decide (b.toNat ≤ 90))
   · by_cases h : 48 ≤ b.toNat
     · rw [if_neg (by decide), if_neg (by decide), if_pos (by omega), Option.bind_some, decide_eq_true h]
       have : decide (((b.toNat : Nat) : Int) ≤ 57) = decide (b.toNat ≤ 57) := by rw [decide_eq_decide]; omega
       rw [this]
       have h2 : (((b.toNat : Nat) : Int) == 95) = (b.toNat == 95) := by
         rw [Bool.eq_iff_iff, beq_iff_eq, beq_iff_eq]; omega
       rw [h2]
       cases decide (b.toNat ≤ 57) <;> simp
     · rw [if_neg (by decide), if_neg (by decide), if_neg (by omega), Option.bind_some, if_neg (by decide), decide_eq_false h]
       have h2 : (((b.toNat : Nat) : Int) == 95) = (b.toNat == 95) := by
         rw [Bool.eq_iff_iff, beq_iff_eq, beq_iff_eq]; omega
       rw [h2]; simp
   · rw [if_neg (by decide), if_pos rfl]; simp
 · rw [if_pos rfl]; simp
theorem all_loop0 {α γ : Type} {l : List α} {F : Int → Option γ} {q : α → Bool} {K : Option γ} (step : ∀ (i : Nat) (hi : i < l.length), F (i : Int) = if q l[i] = true then F ((i + 1 : Nat) : Int) else K) : F 0 = if l.all q = true then F (l.length : Int) else K := by
 have key : ∀ (d i : Nat), l.length - i = d → i ≤ l.length → F (i : Int) = if (l.drop i).all q = true then F (l.length : Int) else K := by
   intro d
   induction d with
   | zero =>
     intro i hd hi
     obtain rfl : i = l.length := by omega
     rw [List.drop_length, if_pos (by simp)]
   | succ d ih =>
     intro i hd hi
     have hlt : i < l.length := by omega
     rw [step i hlt, List.drop_eq_getElem_cons hlt, List.all_cons]
     cases hq : q l[i] with
     | true => rw [if_pos rfl, ih (i + 1) (by omega) hlt, Bool.true_and]
     | false => rw [if_neg (by decide), Bool.false_and, if_neg (by decide)]
 have := key l.length 0 (by omega) (by omega)
 rw [List.drop_zero] at this
 exact this
theorem gb0 {b : UInt8} {l : List UInt8} : gb ⟨⟨b :: l⟩⟩ 0 = some ((b.toNat : Nat) : Int) := rfl
theorem nameB_cons {f : UInt8 → Bool} {b : UInt8} {l : List UInt8} : nameB f ⟨⟨b :: l⟩⟩ = (decide (l.length < 16) && f b && (b :: l).all inn) := rfl
theorem name_val {s : ByteArray} {p : Int → Option Bool} {f : UInt8 → Bool} (hp : ∀ b : UInt8, p ((b.toNat : Nat) : Int) = some (f b)) : token_name s p = some (nameB f s) := by
 obtain ⟨⟨l⟩⟩ := s
 unfold token_name
 cases l with
 | nil => rfl
 | cons b l =>
   have hs : (ByteArray.size ⟨⟨b :: l⟩⟩) = l.length + 1 := rfl
   rw [hs, if_neg (by omega), nameB_cons]
   by_cases h : l.length < 16
   · rw [if_neg (by omega), gb0, Option.bind_some, hp, Option.bind_some, decide_eq_true h, Bool.true_and]
     cases f b
     · rw [if_neg (by decide), Bool.false_and]
     · rw [if_pos rfl, Bool.true_and]
       unfold token_name.j0
       have hl : (bytesI ⟨⟨b :: l⟩⟩) = (b :: l).map fun b => ((UInt8.toNat b : Nat) : Int) := rfl
       have hn : (bytesI ⟨⟨b :: l⟩⟩).length = l.length + 1 := by rw [bytesI_len]; rfl
       refine (all_loop0 (l := b :: l) (F := fun i => token_name.l0 (bytesI ⟨⟨b :: l⟩⟩) (((bytesI ⟨⟨b :: l⟩⟩).length : Nat) : Int) i) (q := inn) (K := some false) (fun i hi => by
         have hi' : i < (bytesI ⟨⟨b :: l⟩⟩).length := by rw [hn]; exact hi
         have hg : (bytesI ⟨⟨b :: l⟩⟩)[i] = (((b :: l)[i]).toNat : Int) := by simp only [hl, List.getElem_map]
         show token_name.l0 _ _ _ = _
         rw [token_name.l0_eq, if_pos (by omega), gi_at hi', Option.bind_some, hg, inner_val, Option.bind_some, w_succ (by omega)])).trans ?_
       have : token_name.l0 (bytesI ⟨⟨b :: l⟩⟩) (((bytesI ⟨⟨b :: l⟩⟩).length : Nat) : Int) (((b :: l).length : Nat) : Int) = some true := by
         rw [token_name.l0_eq, if_neg (by rw [hn, List.length_cons]; omega)]
       rw [this]
       cases (b :: l).all inn <;> rfl
   · rw [if_pos (by omega), decide_eq_false h]; rfl
instance memBA (n : ByteArray) (l : List ByteArray) : Decidable (n ∈ l) := @List.instDecidableMemOfLawfulBEq ByteArray instBEqOfDecidableEq inferInstance n l
theorem has_val {l : List ByteArray} (s : ByteArray) (hl : l.length ≤ 4000000) : slices_Contains_22 l s = some (decide (s ∈ l)) := by
 rw [slices_Contains_22.val s (by omega)]
 congr 1
 by_cases h : s ∈ l
 · rw [decide_eq_true h, List.any_eq_true]
   exact ⟨s, h, decide_eq_true rfl⟩
 · rw [decide_eq_false h, List.any_eq_false]
   intro x hx e
   exact h (by rw [of_decide_eq_true e]; exact hx)
theorem all_drop {α : Type} (p : α → Bool) : ∀ l : List α, (l.dropWhile p).all p = l.all p
 | [] => rfl
 | x :: l => by
   cases h : p x with
   | true => rw [List.dropWhile_cons_of_pos h, all_drop p l, List.all_cons, h, Bool.true_and]
   | false => rw [List.dropWhile_cons_of_neg (by rw [h]; decide)]
theorem drop_nil {α : Type} (p : α → Bool) : ∀ l : List α, l.dropWhile p = [] ↔ l.all p = true
 | [] => by simp
 | x :: l => by
   cases h : p x with
   | true => rw [List.dropWhile_cons_of_pos h, drop_nil p l, List.all_cons, h, Bool.true_and]
   | false => rw [List.dropWhile_cons_of_neg (by rw [h]; decide), List.all_cons, h]; simp
theorem trim_nil (l cs : List UInt8) : Lib.trimS l cs = [] ↔ l.all (cs.contains ·) = true := by
 unfold Lib.trimS Lib.trimLeftS Lib.trimRightS
 rw [drop_nil, List.all_reverse, all_drop, List.all_reverse]
def inner63 : ByteArray := (ByteArray.mk #[97, 98, 99, 100, 101, 102, 103, 104, 105, 106, 107, 108, 109, 110, 111, 112, 113, 114, 115, 116, 117, 118, 119, 120, 121, 122, 65, 66, 67, 68, 69, 70, 71, 72, 73, 74, 75, 76, 77, 78, 79, 80, 81, 82, 83, 84, 85, 86, 87, 88, 89, 90, 48, 49, 50, 51, 52, 53, 54, 55, 56, 57, 95])
def low26 : ByteArray := (ByteArray.mk #[97, 98, 99, 100, 101, 102, 103, 104, 105, 106, 107, 108, 109, 110, 111, 112, 113, 114, 115, 116, 117, 118, 119, 120, 121, 122])
def up26 : ByteArray := (ByteArray.mk #[65, 66, 67, 68, 69, 70, 71, 72, 73, 74, 75, 76, 77, 78, 79, 80, 81, 82, 83, 84, 85, 86, 87, 88, 89, 90])
theorem byte_all {p : UInt8 → Prop} [DecidablePred p] (h : ∀ n : Fin 256, p (UInt8.ofNat n.1)) (b : UInt8) : p b := by
 have := h ⟨b.toNat, b.toNat_lt⟩
 have e : UInt8.ofNat b.toNat = b := by simp
 rwa [e] at this
theorem inner_has (b : UInt8) : inner63.data.toList.contains b = inn b := byte_all (p := fun b => inner63.data.toList.contains b = inn b) (by decide +kernel) b
theorem low_has (b : UInt8) : decide (Lib.indexByte low26.data.toList b ≥ 0) = loB b := byte_all (p := fun b => decide (Lib.indexByte low26.data.toList b ≥ 0) = loB b) (by decide +kernel) b
theorem up_has (b : UInt8) : decide (Lib.indexByte up26.data.toList b ≥ 0) = upB b := byte_all (p := fun b => decide (Lib.indexByte up26.data.toList b ≥ 0) = upB b) (by decide +kernel) b
theorem ibyte_at (t : ByteArray) (b : UInt8) : ibyteB t ((b.toNat : Nat) : Int) = Lib.indexByte t.data.toList b := by
 unfold ibyteB
 have : ((b.toNat : Nat) : Int).toNat.toUInt8 = b := by rw [Int.toNat_natCast]; simp
 rw [this]
theorem trim_val {s : ByteArray} (hs : s.size ≤ 9223372036854775807) : strings_Trim s inner63 = some (trimB s inner63) := by
 unfold strings_Trim
 exact if_pos ⟨hs, by decide +kernel, by decide +kernel⟩
theorem trim_dec (s : ByteArray) : decide (trimB s inner63 = ByteArray.mk #[]) = s.data.toList.all inn := by
 have h1 : (trimB s inner63 = ByteArray.mk #[]) ↔ Lib.trimS s.data.toList inner63.data.toList = [] := by
   unfold trimB
   rw [ByteArray.mk.injEq]
   constructor
   · intro h; have := congrArg Array.toList h; simpa using this
   · intro h; rw [h]
 have h2 : (fun b => inner63.data.toList.contains b) = inn := funext inner_has
 rw [Bool.eq_iff_iff, decide_eq_true_iff, h1, trim_nil, h2]
theorem named_val {s t : ByteArray} {f : UInt8 → Bool} (hf : ∀ b : UInt8, decide (Lib.indexByte t.data.toList b ≥ 0) = f b) : roadref2_named s t = some (nameB f s) := by
 obtain ⟨⟨l⟩⟩ := s
 unfold roadref2_named
 cases l with
 | nil => rfl
 | cons b l =>
   have hs : (ByteArray.size ⟨⟨b :: l⟩⟩) = l.length + 1 := rfl
   rw [if_neg (fun h => by have := congrArg (fun s : ByteArray => s.data.toList) h; cases this), hs, nameB_cons]
   by_cases h : l.length < 16
   · rw [if_pos (by omega), gb0, Option.bind_some, decide_eq_true h, Bool.true_and]
     unfold strings_IndexByte
     rw [Option.bind_some, ibyte_at]
     have hf := hf b
     by_cases h0 : Lib.indexByte t.data.toList b ≥ 0
     · rw [decide_eq_true h0] at hf
       rw [if_pos h0, ← hf, Bool.true_and]
       refine (congrArg (fun o => Option.bind o fun y14 => some (decide (y14 = ByteArray.mk #[]))) (trim_val (s := ⟨⟨b :: l⟩⟩) (by rw [hs]; omega))).trans ?_
       rw [Option.bind_some, trim_dec]
     · rw [decide_eq_false h0] at hf
       rw [if_neg h0, ← hf, Bool.false_and]
   · rw [if_neg (by omega), decide_eq_false h]; rfl
noncomputable def WL : List ByteArray := (token_Words).getD []
theorem words_val : token_Words = some WL := rfl
theorem words_len : WL.length = 38 := rfl
noncomputable def lowS (s : ByteArray) : Bool := nameB loB s && !decide (s ∈ WL)
def upS (s : ByteArray) : Bool := nameB upB s
theorem isWord_val (s : ByteArray) : token_IsWord s = some (decide (s ∈ WL)) := by
 unfold token_IsWord
 rw [words_val, Option.bind_some]
 refine (all_loop0 (l := WL) (F := fun i => token_IsWord.l0 s WL (WL.length : Int) i) (q := fun w => !decide (w = s)) (K := some true) (fun i hi => by
   have := words_len
   show token_IsWord.l0 _ _ _ _ = _
   rw [token_IsWord.l0_eq, if_pos (by omega), gi_at hi, Option.bind_some, w_succ (by omega)]
   by_cases h : WL[i] = s
   · rw [if_pos h, decide_eq_true h]; rfl
   · rw [if_neg h, decide_eq_false h]; rfl)).trans ?_
 have : token_IsWord.l0 s WL (WL.length : Int) (WL.length : Int) = some false := by
   rw [token_IsWord.l0_eq, if_neg (by omega)]
 rw [this]
 by_cases h : s ∈ WL
 · rw [decide_eq_true h, if_neg]
   intro hc
   have := List.all_eq_true.1 hc s h
   simp at this
 · rw [decide_eq_false h, if_pos]
   exact List.all_eq_true.2 fun x hx => by
     rw [decide_eq_false (p := x = s) (fun e => h (by rw [← e]; exact hx))]; rfl
theorem isLow_val (s : ByteArray) : token_IsLow s = some (lowS s) := by
 unfold token_IsLow
 rw [name_val low_val, Option.bind_some]
 unfold lowS
 cases nameB loB s
 · rw [if_neg (by decide)]; rfl
 · rw [if_pos rfl, isWord_val, Option.bind_some, Bool.true_and]
theorem isUp_val (s : ByteArray) : token_IsUp s = some (upS s) := by
 unfold token_IsUp
 rw [name_val great_val, Option.bind_some]; rfl
theorem ext26 : ByteArray.extract inner63 (Int.toNat 0) (Int.toNat 26) = low26 := by kernel_rfl
theorem ext52 : ByteArray.extract inner63 (Int.toNat 26) (Int.toNat 52) = up26 := by kernel_rfl
theorem wordList_val : roadref2_WordList = some WL := by
 unfold roadref2_WordList strings_Fields
 rw [if_pos ⟨by decide +kernel, by decide +kernel⟩, Option.bind_some]
 exact congrArg some (by kernel_rfl)
theorem small_val (s : ByteArray) : roadref2_Small s = some (lowS s) := by
 unfold roadref2_Small
 rw [if_pos (by decide +kernel)]
 show Option.bind (roadref2_named s (ByteArray.extract inner63 (Int.toNat 0) (Int.toNat 26))) _ = _
 rw [ext26, named_val low_has, Option.bind_some]
 unfold lowS
 cases nameB loB s
 · rw [if_neg (by decide)]; rfl
 · rw [if_pos rfl, wordList_val, Option.bind_some, has_val s (by rw [words_len]; omega), Option.bind_some, Bool.true_and]
theorem greatN_val (s : ByteArray) : roadref2_Great s = some (upS s) := by
 unfold roadref2_Great
 rw [if_pos (by decide +kernel)]
 show Option.bind (roadref2_named s (ByteArray.extract inner63 (Int.toNat 26) (Int.toNat 52))) _ = _
 rw [ext52, named_val up_has, Option.bind_some]; rfl
def mkB (l : List UInt8) : ByteArray := ⟨⟨l⟩⟩
theorem mkB_size (l : List UInt8) : (mkB l).size = l.length := rfl
theorem mkB_of (s : ByteArray) : s = mkB s.data.toList := by cases s; rfl
theorem mkB_inj {a b : List UInt8} (h : mkB a = mkB b) : a = b := congrArg (fun s : ByteArray => s.data.toList) h
theorem mkB_dec (a b : List UInt8) : decide (mkB a = mkB b) = decide (a = b) := by rw [decide_eq_decide]; exact ⟨mkB_inj, fun h => by rw [h]⟩
theorem mkB_app (a b : List UInt8) : mkB a ++ mkB b = mkB (a ++ b) := by
 have : (mkB a ++ mkB b).data = (mkB (a ++ b)).data := by rw [ByteArray.data_append]; simp [mkB]
 cases h : mkB a ++ mkB b
 rw [h] at this
 simp only at this
 rw [this]
theorem gb_at {l : List UInt8} {i : Nat} (h : i < l.length) : gb (mkB l) (i : Int) = some ((l[i].toNat : Nat) : Int) := by
 unfold gb
 rw [if_pos (by omega), Int.toNat_natCast]
 have : (mkB l)[i]? = some l[i] := by
   have h2 : i < (mkB l).size := h
   rw [getElem?_pos (mkB l) i h2]
   rfl
 rw [this]; rfl
theorem gb_0 {b : UInt8} {l : List UInt8} : gb (mkB (b :: l)) 0 = some ((b.toNat : Nat) : Int) := rfl
theorem ext_mk (l : List UInt8) (a b : Nat) : ByteArray.extract (mkB l) a b = mkB ((l.take b).drop a) := by
 have : (ByteArray.extract (mkB l) a b).data = (mkB ((l.take b).drop a)).data := by
   rw [ByteArray.data_extract]
   apply Array.toList_inj.1
   show (Array.extract ⟨l⟩ a b).toList = (l.take b).drop a
   rw [Array.toList_extract, List.drop_take]
 cases h : ByteArray.extract (mkB l) a b
 rw [h] at this
 simp only at this
 rw [this]
theorem ext_to (l : List UInt8) (a : Nat) : ByteArray.extract (mkB l) (Int.toNat (a : Int)) (Int.toNat ((mkB l).size : Int)) = mkB (l.drop a) := by
 rw [Int.toNat_natCast, Int.toNat_natCast, ext_mk, mkB_size, List.take_length]
def tw (p : UInt8 → Bool) (l : List UInt8) : Nat := (l.takeWhile p).length
theorem tw_nil (p : UInt8 → Bool) : tw p [] = 0 := rfl
theorem tw_t {p : UInt8 → Bool} {b : UInt8} {l : List UInt8} (h : p b = true) : tw p (b :: l) = tw p l + 1 := by unfold tw; rw [List.takeWhile_cons_of_pos h]; rfl
theorem tw_f {p : UInt8 → Bool} {b : UInt8} {l : List UInt8} (h : p b = false) : tw p (b :: l) = 0 := by unfold tw; rw [List.takeWhile_cons_of_neg (by rw [h]; decide)]; rfl
theorem tw_le (p : UInt8 → Bool) (l : List UInt8) : tw p l ≤ l.length := by unfold tw; exact List.Sublist.length_le (List.takeWhile_sublist p)
theorem drop_cons {l : List UInt8} {i : Nat} (h : i < l.length) : l.drop i = l[i] :: l.drop (i + 1) := List.drop_eq_getElem_cons h
theorem run_at {t : ByteArray} {p : UInt8 → Bool} (hp : ∀ b : UInt8, decide (Lib.indexByte t.data.toList b ≥ 0) = p b) (l : List UInt8) (hl : l.length ≤ 100000) : ∀ (d i : Nat), l.length - i = d → i ≤ l.length → roadref2_run.l0 (mkB l) t (i : Int) = some (((i + tw p (l.drop i) : Nat)) : Int) := by
 intro d
 induction d with
 | zero =>
   intro i hd hi
   obtain rfl : i = l.length := by omega
   rw [roadref2_run.l0_eq, mkB_size, if_neg (by omega), List.drop_length, tw_nil, Nat.add_zero]
 | succ d ih =>
   intro i hd hi
   have hlt : i < l.length := by omega
   rw [roadref2_run.l0_eq, mkB_size, if_pos (by omega), gb_at hlt, Option.bind_some]
   unfold strings_IndexByte
   rw [Option.bind_some, ibyte_at, drop_cons hlt]
   have h := hp l[i]
   by_cases c : Lib.indexByte t.data.toList l[i] ≥ 0
   · rw [decide_eq_true c] at h
     rw [if_pos c, roadref2_run.j0_eq, w_succ (by omega), ih (i + 1) (by omega) hlt, tw_t h.symm]
     congr 2; omega
   · rw [decide_eq_false c] at h
     rw [if_neg c, tw_f h.symm]; rfl
theorem run_val {t : ByteArray} {p : UInt8 → Bool} (hp : ∀ b : UInt8, decide (Lib.indexByte t.data.toList b ≥ 0) = p b) {l : List UInt8} (hl : l.length ≤ 100000) : roadref2_run (mkB l) t = some ((tw p l : Nat) : Int) := by
 unfold roadref2_run
 have := run_at hp l hl l.length 0 (by omega) (by omega)
 rw [List.drop_zero, Nat.zero_add] at this
 exact this
def spB (b : UInt8) : Bool := b.toNat == 32 || b.toNat == 9 || b.toNat == 10
def dgB (b : UInt8) : Bool := decide (48 ≤ b.toNat) && decide (b.toNat ≤ 57)
def hxB (b : UInt8) : Bool := dgB b || (decide (97 ≤ b.toNat) && decide (b.toNat ≤ 102))
theorem sp_has (b : UInt8) : decide (Lib.indexByte (ByteArray.mk #[32, 9, 10]).data.toList b ≥ 0) = spB b := byte_all (p := fun b => decide (Lib.indexByte (ByteArray.mk #[32, 9, 10]).data.toList b ≥ 0) = spB b) (by decide +kernel) b
def dig10 : ByteArray := ByteArray.mk #[48, 49, 50, 51, 52, 53, 54, 55, 56, 57]
theorem ext62 : ByteArray.extract inner63 (Int.toNat 52) (Int.toNat 62) = dig10 := by kernel_rfl
theorem dg_has (b : UInt8) : decide (Lib.indexByte dig10.data.toList b ≥ 0) = dgB b := byte_all (p := fun b => decide (Lib.indexByte dig10.data.toList b ≥ 0) = dgB b) (by decide +kernel) b
theorem hx_has (b : UInt8) : decide (Lib.indexByte (ByteArray.mk #[48, 49, 50, 51, 52, 53, 54, 55, 56, 57, 97, 98, 99, 100, 101, 102]).data.toList b ≥ 0) = hxB b := byte_all (p := fun b => decide (Lib.indexByte (ByteArray.mk #[48, 49, 50, 51, 52, 53, 54, 55, 56, 57, 97, 98, 99, 100, 101, 102]).data.toList b ≥ 0) = hxB b) (by decide +kernel) b
theorem inn_has (b : UInt8) : decide (Lib.indexByte inner63.data.toList b ≥ 0) = inn b := byte_all (p := fun b => decide (Lib.indexByte inner63.data.toList b ≥ 0) = inn b) (by decide +kernel) b
theorem digit_val (b : UInt8) : token_digit ((b.toNat : Nat) : Int) = some (dgB b) := by
 unfold token_digit dgB
 by_cases h : 48 ≤ b.toNat
 · rw [if_pos (by omega), decide_eq_true h, Bool.true_and]
   congr 1
   rw [decide_eq_decide]; omega
 · rw [if_neg (by omega), decide_eq_false h]; rfl
section
variable {l : List UInt8} (hl : l.length ≤ 4000)
include hl
def nlB (b : UInt8) : Bool := !(b.toNat == 10)
omit hl in
theorem nl_t {b : UInt8} (h : b.toNat = 10) : nlB b = false := by unfold nlB; rw [h]; rfl
omit hl in
theorem nl_f {b : UInt8} (h : ¬ b.toNat = 10) : nlB b = true := by unfold nlB; simpa using h
omit hl in
theorem index_nl : ∀ r : List UInt8, (Lib.indexByte r 10 < 0 → tw nlB r = r.length) ∧ (¬ Lib.indexByte r 10 < 0 → Lib.indexByte r 10 = ((tw nlB r : Nat) : Int))
 | [] => ⟨fun _ => rfl, fun h => absurd (by decide) h⟩
 | b :: r => by
   have ih := index_nl r
   have g := Lib.indexByte_ge r 10
   by_cases c : b.toNat = 10
   · have e : b = 10 := by
       have : UInt8.ofNat b.toNat = UInt8.ofNat 10 := by rw [c]
       simpa using this
     subst e
     have h0 : Lib.indexByte ((10 : UInt8) :: r) 10 = 0 := by unfold Lib.indexByte; simp
     rw [h0, tw_f (nl_t c)]
     exact ⟨fun h => absurd h (by decide), fun _ => rfl⟩
   · have hb : (b == (10 : UInt8)) = false := by
       rw [beq_eq_false_iff_ne]; intro e; subst e; exact c rfl
     have h0 : Lib.indexByte (b :: r) 10 = if Lib.indexByte r 10 == -1 then -1 else Lib.indexByte r 10 + 1 := by
       rw [Lib.indexByte, hb]; rfl
     rw [h0, tw_t (nl_f c), List.length_cons]
     by_cases m : Lib.indexByte r 10 = -1
     · rw [if_pos (by simpa using m)]
       exact ⟨fun _ => by rw [ih.1 (by omega)], fun h => absurd (by decide) h⟩
     · rw [if_neg (by simpa using m)]
       exact ⟨fun h => by omega, fun _ => by rw [ih.2 (by omega)]; omega⟩
theorem tk_blank {a : List T_roadref2_Tok} {i : Nat} (h : i < l.length) (hs : spB l[i] = true) : roadref2_Tokens.l0 (mkB l) a (i : Int) = roadref2_Tokens.l0 (mkB l) a ((i + tw spB (l.drop i) : Nat) : Int) := by
 have hw := tw_le spB (l.drop i)
 rw [List.length_drop] at hw
 have hp : 1 ≤ tw spB (l.drop i) := by rw [drop_cons h, tw_t hs]; omega
 rw [roadref2_Tokens.l0_eq, mkB_size, if_pos (by omega), if_pos ⟨by omega, by omega, by omega⟩]
 show Option.bind (roadref2_run (ByteArray.extract (mkB l) (Int.toNat (i : Int)) (Int.toNat ((mkB l).size : Int))) _) _ = _
 rw [ext_to, run_val sp_has (by rw [List.length_drop]; omega), Option.bind_some, if_pos (by omega), wrap_in (by omega) (by omega)]
 rfl
theorem tk_blank1 {a : List T_roadref2_Tok} {i : Nat} (h : i < l.length) (hs : spB l[i] = true) : roadref2_Tokens.l0 (mkB l) a (i : Int) = roadref2_Tokens.l0 (mkB l) a ((i + 1 : Nat) : Int) := by
 rw [tk_blank hl h hs, drop_cons h, tw_t hs]
 by_cases h2 : i + 1 < l.length
 · cases s2 : spB l[i + 1] with
   | true => rw [tk_blank hl h2 s2, show i + (tw spB (l.drop (i + 1)) + 1) = i + 1 + tw spB (l.drop (i + 1)) by omega]
   | false => rw [drop_cons h2, tw_f s2]
 · have : l.drop (i + 1) = [] := List.drop_eq_nil_of_le (by omega)
   rw [this, tw_nil]
theorem tk_note {a : List T_roadref2_Tok} {i : Nat} (h : i < l.length) (hs : spB l[i] = false) (h35 : l[i].toNat = 35) : roadref2_Tokens.l0 (mkB l) a (i : Int) = roadref2_Tokens.l0 (mkB l) a ((i + tw nlB (l.drop i) : Nat) : Int) := by
 have hw := tw_le nlB (l.drop i)
 rw [List.length_drop] at hw
 have hx := index_nl (l.drop i)
 rw [List.length_drop] at hx
 rw [roadref2_Tokens.l0_eq, mkB_size, if_pos (by omega), if_pos ⟨by omega, by omega, by omega⟩]
 show Option.bind (roadref2_run (ByteArray.extract (mkB l) (Int.toNat (i : Int)) (Int.toNat ((mkB l).size : Int))) _) _ = _
 rw [ext_to, run_val sp_has (by rw [List.length_drop]; omega), Option.bind_some, drop_cons h, tw_f hs, if_neg (by omega), gb_at h, Option.bind_some, if_pos (by omega), if_pos ⟨by omega, by omega, by omega⟩]
 show Option.bind (strings_IndexByte (ByteArray.extract (mkB l) (Int.toNat (i : Int)) (Int.toNat ((mkB l).size : Int))) 10) _ = _
 unfold strings_IndexByte
 have e : ibyteB (mkB (l.drop i)) 10 = Lib.indexByte (l.drop i) 10 := rfl
 rw [ext_to, Option.bind_some, e, ← drop_cons h]
 by_cases m : Lib.indexByte (l.drop i) 10 < 0
 · have w1 : IntKind.wrap .i64 ((l.length : Int) - (i : Int)) = (l.length : Int) - (i : Int) := wrap_in (by omega) (by omega)
   rw [if_pos m, roadref2_Tokens.j0_eq, w1, wrap_in (by omega) (by omega), hx.1 m, show (i : Int) + ((l.length : Int) - (i : Int)) = ((i + (l.length - i) : Nat) : Int) by omega]
 · rw [if_neg m, roadref2_Tokens.j0_eq, hx.2 m, wrap_in (by omega) (by omega)]
   rfl
end
abbrev Rk := T_roadref2_Tok
theorem words_ok : (WL.all fun w => decide (w.size ≤ 16) && match w.data.toList with
 | [] => false
 | b :: _ => loB b) = true := by kernel_rfl
theorem word_low {b : UInt8} {w : List UInt8} (h : mkB (b :: w) ∈ WL) : w.length < 16 ∧ loB b = true := by
 have := List.all_eq_true.1 words_ok _ h
 rw [Bool.and_eq_true, decide_eq_true_iff] at this
 have h1 : w.length + 1 ≤ 16 := this.1
 exact ⟨by omega, this.2⟩
theorem low_facts {b : UInt8} (h : loB b = true ∨ upB b = true) : inn b = true ∧ dgB b = false ∧ ¬ b.toNat = 34 ∧ ¬ b.toNat = 95 ∧ (loB b = true → upB b = false) := by
 refine byte_all (p := fun b => (loB b = true ∨ upB b = true) → inn b = true ∧ dgB b = false ∧ ¬ b.toNat = 34 ∧ ¬ b.toNat = 95 ∧ (loB b = true → upB b = false)) (by decide +kernel) b h
theorem dig_facts {b : UInt8} (h : dgB b = true) : loB b = false ∧ upB b = false ∧ ¬ b.toNat = 34 := by
 refine byte_all (p := fun b => dgB b = true → loB b = false ∧ upB b = false ∧ ¬ b.toNat = 34) (by decide +kernel) b h
section
variable {l : List UInt8} (hl : l.length ≤ 4000)
include hl
omit hl in
theorem ext_in (i n : Nat) : ByteArray.extract (mkB l) (Int.toNat (i : Int)) (Int.toNat ((i + n : Nat) : Int)) = mkB ((l.drop i).take n) := by
 rw [Int.toNat_natCast, Int.toNat_natCast, ext_mk, List.drop_take, show i + n - i = n by omega]
omit hl in
theorem ext_0 (r : List UInt8) (n : Nat) : ByteArray.extract (mkB r) (Int.toNat 0) (Int.toNat (n : Int)) = mkB (r.take n) := by
 have := ext_in (l := r) 0 n
 rw [Nat.zero_add, List.drop_zero] at this
 exact this
end
def hvN (b : UInt8) : Nat := if dgB b = true then b.toNat - 48 else b.toNat - 87
theorem hv_le {b : UInt8} (h : hxB b = true) : hvN b ≤ 15 := byte_all (p := fun b => hxB b = true → hvN b ≤ 15) (by decide +kernel) b h
theorem lower_val {b : UInt8} (h : 97 ≤ b.toNat ∧ b.toNat ≤ 102) : internal_strconv_lower ((b.toNat : Nat) : Int) = some ((b.toNat : Nat) : Int) := by
 unfold internal_strconv_lower
 exact congrArg some (byte_all (p := fun b => (97 ≤ b.toNat ∧ b.toNat ≤ 102) → bitsI .or .u8 ((b.toNat : Nat) : Int) 32 = ((b.toNat : Nat) : Int)) (by decide +kernel) b h)
theorem sixteen : ∀ v d : Fin 16, IntKind.wrap .u64 (IntKind.wrap .u64 ((v.1 : Int) * IntKind.wrap .u64 16) + IntKind.wrap .u64 (d.1 : Int)) = ((16 * v.1 + d.1 : Nat) : Int) ∧ IntKind.wrap .u64 ((v.1 : Int) * IntKind.wrap .u64 16) = ((16 * v.1 : Nat) : Int) ∧ bitsI .or .u8 (shlI .u8 (v.1 : Int) 4) (d.1 : Int) = ((16 * v.1 + d.1 : Nat) : Int) := by decide +kernel
theorem pu_j10 {s9 : ByteArray} {v d : Nat} (hv : v ≤ 15) (hd : d ≤ 15) {a : List Int} {i : Nat} (hi : i < a.length) (hn : a.length ≤ 10) : internal_strconv_ParseUint.j10 16 false s9 1152921504606846976 255 false (v : Int) (d : Int) a (a.length : Int) (i : Int) = internal_strconv_ParseUint.l0 16 false s9 1152921504606846976 255 false ((16 * v + d : Nat) : Int) a (a.length : Int) ((i + 1 : Nat) : Int) := by
 have f := sixteen ⟨v, by omega⟩ ⟨d, by omega⟩
 simp only at f
 have w16 : IntKind.wrap .u8 16 = 16 := by decide +kernel
 rw [internal_strconv_ParseUint.j10_eq, w16, if_neg (by omega), if_neg (by omega), f.1, f.2.1, if_neg (by omega), internal_strconv_ParseUint.j14_eq, if_neg (by rw [decide_eq_true_iff]; omega), w_succ (by omega)]
theorem pu_step {s9 : ByteArray} {b : UInt8} (hx : hxB b = true) {v : Nat} (hv : v ≤ 15) {a : List Int} {i : Nat} (hi : i < a.length) (hn : a.length ≤ 10) (ha : a[i] = ((b.toNat : Nat) : Int)) : internal_strconv_ParseUint.l0 16 false s9 1152921504606846976 255 false (v : Int) a (a.length : Int) (i : Int) = internal_strconv_ParseUint.l0 16 false s9 1152921504606846976 255 false ((16 * v + hvN b : Nat) : Int) a (a.length : Int) ((i + 1 : Nat) : Int) := by
 have f : (dgB b = true → IntKind.wrap .u8 (((b.toNat : Nat) : Int) - 48) = ((hvN b : Nat) : Int)) ∧ (97 ≤ b.toNat ∧ b.toNat ≤ 102 → dgB b = false ∧ IntKind.wrap .u8 (IntKind.wrap .u8 (((b.toNat : Nat) : Int) - 97) + 10) = ((hvN b : Nat) : Int)) :=
   byte_all (p := fun b => (dgB b = true → IntKind.wrap .u8 (((b.toNat : Nat) : Int) - 48) = ((hvN b : Nat) : Int)) ∧ (97 ≤ b.toNat ∧ b.toNat ≤ 102 → dgB b = false ∧ IntKind.wrap .u8 (IntKind.wrap .u8 (((b.toNat : Nat) : Int) - 97) + 10) = ((hvN b : Nat) : Int))) (by decide +kernel) b
 have hle := hv_le hx
 rw [internal_strconv_ParseUint.l0_eq, if_pos (by omega), gi_at hi, Option.bind_some, ha]
 have g : (if ((b.toNat : Nat) : Int) = 95 then internal_strconv_ParseUint.j11 16 false s9 1152921504606846976 255 false (v : Int) ((b.toNat : Nat) : Int) a (a.length : Int) (i : Int) false else internal_strconv_ParseUint.j11 16 false s9 1152921504606846976 255 false (v : Int) ((b.toNat : Nat) : Int) a (a.length : Int) (i : Int) false) = internal_strconv_ParseUint.j11 16 false s9 1152921504606846976 255 false (v : Int) ((b.toNat : Nat) : Int) a (a.length : Int) (i : Int) false := by split <;> rfl
 rw [g, internal_strconv_ParseUint.j11_eq, if_neg (by decide)]
 unfold hxB at hx
 cases d : dgB b with
 | true =>
   have d' := d
   unfold dgB at d'
   rw [Bool.and_eq_true, decide_eq_true_iff, decide_eq_true_iff] at d'
   rw [if_pos (by omega), internal_strconv_ParseUint.j12_eq, if_pos (by rw [decide_eq_true_iff]; omega), f.1 d, pu_j10 hv hle hi hn]
 | false =>
   rw [d, Bool.false_or, Bool.and_eq_true, decide_eq_true_iff, decide_eq_true_iff] at hx
   rw [if_pos (by omega), internal_strconv_ParseUint.j12_eq, if_neg (by rw [decide_eq_true_iff]; omega), lower_val hx, Option.bind_some, if_pos (by omega), Option.bind_some, internal_strconv_ParseUint.j13_eq, if_pos (by rw [decide_eq_true_iff]; omega), lower_val hx, Option.bind_some, (f.2 hx).2, pu_j10 hv hle hi hn]
theorem pu_val {b c : UInt8} (hb : hxB b = true) (hc : hxB c = true) : strconv_ParseUint (mkB [b, c]) 16 8 = some (((16 * hvN b + hvN c : Nat) : Int), ()) := by
 have hle := hv_le hb
 unfold strconv_ParseUint internal_strconv_ParseUint
 rw [if_neg (fun h => by cases mkB_inj h), if_pos (by decide)]
 unfold internal_strconv_ParseUint.j2
 rw [if_pos (by decide)]
 unfold internal_strconv_ParseUint.j0
 rw [if_neg (by decide), if_neg (by decide)]
 unfold internal_strconv_ParseUint.j4
 rw [if_neg (by decide)]
 unfold internal_strconv_ParseUint.j1
 rw [if_neg (by decide), if_pos rfl]
 unfold internal_strconv_ParseUint.j3
 have e1 : (0 : Int) ≤ IntKind.wrap .u64 8 := by decide +kernel
 have e2 : IntKind.wrap .u64 (shlI .u64 1 (IntKind.wrap .u64 8) - 1) = 255 := by decide +kernel
 have e3 : bytesI (mkB [b, c]) = [((b.toNat : Nat) : Int), ((c.toNat : Nat) : Int)] := rfl
 have e4 : ((16 : Int) == 0) = false := by decide
 rw [if_pos e1, e2, e3, e4]
 have s1 := pu_step (s9 := mkB [b, c]) hb (v := 0) (by omega) (a := [((b.toNat : Nat) : Int), ((c.toNat : Nat) : Int)]) (i := 0) (by simp) (by simp) rfl
 have s2 := pu_step (s9 := mkB [b, c]) hc (v := hvN b) hle (a := [((b.toNat : Nat) : Int), ((c.toNat : Nat) : Int)]) (i := 1) (by simp) (by simp) rfl
 rw [Nat.mul_zero, Nat.zero_add] at s1
 have s3 : internal_strconv_ParseUint.l0 16 false (mkB [b, c]) 1152921504606846976 255 false ((16 * hvN b + hvN c : Nat) : Int) [((b.toNat : Nat) : Int), ((c.toNat : Nat) : Int)] (([((b.toNat : Nat) : Int), ((c.toNat : Nat) : Int)].length : Nat) : Int) ((1 + 1 : Nat) : Int) = some (((16 * hvN b + hvN c : Nat) : Int), ()) := by
   rw [internal_strconv_ParseUint.l0_eq, if_neg (by simp), if_neg (by decide)]
   unfold internal_strconv_ParseUint.j6 internal_strconv_ParseUint.j5
   rw [if_neg (by decide)]
 have s := s1.trans (s2.trans s3)
 exact (congrArg (fun o : Option (Int × Unit) => Option.bind o fun y1 => some (y1.1, ())) s).trans rfl
theorem prefix_val {q t : List UInt8} (hq : q.length ≤ 100000) : strings_HasPrefix (mkB q) (mkB t) = some (decide (q.take t.length = t)) := by
 unfold strings_HasPrefix internal_stringslite_HasPrefix
 rw [mkB_size, mkB_size]
 by_cases h : t.length ≤ q.length
 · rw [if_pos (by omega), if_pos ⟨by omega, by omega, by omega⟩, ext_0, Option.bind_some, mkB_dec]
 · rw [if_neg (by omega), Option.bind_some, decide_eq_false (fun e => by
     have := congrArg List.length e
     rw [List.length_take] at this
     omega)]
def aI (acc : List UInt8) : List Int := acc.map fun b => ((b.toNat : Nat) : Int)
theorem aI_bytes (acc : List UInt8) : bytesOf (aI acc) = mkB acc := by
 unfold bytesOf aI mkB
 congr 1
 rw [List.map_map]
 have : ((fun n : Int => UInt8.ofNat n.toNat) ∘ fun b : UInt8 => ((b.toNat : Nat) : Int)) = id := by
   funext b; simp
 rw [this, List.map_id]
theorem aI_app (acc : List UInt8) (b : UInt8) : ap 1 (aI acc) [((b.toNat : Nat) : Int)] = if acc.length + 1 ≤ 140737488355328 then some (aI (acc ++ [b])) else none := by
 unfold ap aI
 simp
theorem aI_ap {acc : List UInt8} (b : UInt8) (h : acc.length ≤ 100000) : ap 1 (aI acc) [((b.toNat : Nat) : Int)] = some (aI (acc ++ [b])) := by
 rw [aI_app, if_pos (by omega)]
def sg2 : List (List UInt8) := [[61, 62], [45, 62]]
def sg1 : List UInt8 := [40, 41, 91, 93, 123, 125, 44, 59, 58, 61, 43, 45, 42, 47, 37, 60, 94, 124, 95]
def SG : List (List UInt8) := sg2 ++ sg1.map fun b => [b]
theorem sg_val : strings_Fields (ByteArray.mk #[61, 62, 32, 45, 62, 32, 40, 32, 41, 32, 91, 32, 93, 32, 123, 32, 125, 32, 44, 32, 59, 32, 58, 32, 61, 32, 43, 32, 45, 32, 42, 32, 47, 32, 37, 32, 60, 32, 94, 32, 124, 32, 95]) = some (SG.map mkB) := by
 unfold strings_Fields
 rw [if_pos ⟨by decide +kernel, by decide +kernel⟩]
 exact congrArg some (by kernel_rfl)
def sgn (r : List UInt8) : Option (List UInt8) := SG.find? fun x => decide (r.take x.length = x)
theorem find_loop {α β : Type} {L : List α} {F : Int → β} {p : α → Bool} {g : α → β} {E : β} (step : ∀ (i : Nat) (hi : i < L.length), F (i : Int) = if p L[i] = true then g L[i] else F ((i + 1 : Nat) : Int)) (e : F (L.length : Int) = E) : F 0 = match L.find? p with
   | some x => g x
   | none => E := by
 have key : ∀ (d i : Nat), L.length - i = d → i ≤ L.length → F (i : Int) = match (L.drop i).find? p with
   | some x => g x
   | none => E := by
   intro d
   induction d with
   | zero =>
     intro i hd hi
     obtain rfl : i = L.length := by omega
     rw [List.drop_length, e]; rfl
   | succ d ih =>
     intro i hd hi
     have h : i < L.length := by omega
     rw [step i h, List.drop_eq_getElem_cons h]
     cases c : p L[i] with
     | true => rw [if_pos rfl, List.find?_cons_of_pos c]
     | false => rw [if_neg (by decide), List.find?_cons_of_neg (by rw [c]; decide), ih (i + 1) (by omega) h]
 have := key L.length 0 (by omega) (by omega)
 rw [List.drop_zero] at this
 exact this
theorem tok_l0 {r : List UInt8} (hr : r.length ≤ 4000) (y : Rk) (S : List (List UInt8)) (hS : S.length ≤ 100) : roadref2_token.l0 (mkB r) y (S.map mkB) ((S.map mkB).length : Int) 0 = match S.find? fun x => decide (r.take x.length = x) with
   | some x => some (T_roadref2_Tok.mk 6 (mkB x) 0, ((x.length : Nat) : Int))
   | none => some (T_roadref2_Tok.mk 0 (ByteArray.mk #[]) 0, -1) := by
 refine (find_loop (L := S) (E := some (T_roadref2_Tok.mk 0 (ByteArray.mk #[]) 0, -1)) (F := fun i => roadref2_token.l0 (mkB r) y (S.map mkB) ((S.map mkB).length : Int) i) (p := fun x => decide (r.take x.length = x)) (g := fun x => some (T_roadref2_Tok.mk 6 (mkB x) 0, ((x.length : Nat) : Int))) (fun i h => ?_) ?_).trans (by cases S.find? (fun x => decide (r.take x.length = x)) <;> rfl)
 · have hm : i < (S.map mkB).length := by rw [List.length_map]; exact h
   have hg : (S.map mkB)[i] = mkB S[i] := by simp
   show roadref2_token.l0 _ _ _ _ _ = _
   rw [roadref2_token.l0_eq, if_pos (by rw [List.length_map]; omega), gi_at hm, Option.bind_some, hg, prefix_val (by omega), Option.bind_some, w_succ (by omega)]
   rfl
 · show roadref2_token.l0 _ _ _ _ _ = _
   rw [roadref2_token.l0_eq, if_neg (by rw [List.length_map]; omega)]
theorem tok_j0 {r : List UInt8} (hr : r.length ≤ 4000) (y : Rk) : roadref2_token.j0 (mkB r) y = match sgn r with
   | some x => some (T_roadref2_Tok.mk 6 (mkB x) 0, ((x.length : Nat) : Int))
   | none => some (T_roadref2_Tok.mk 0 (ByteArray.mk #[]) 0, -1) := by
 unfold roadref2_token.j0
 rw [sg_val, Option.bind_some]
 exact tok_l0 hr y SG (by decide)
theorem find_one (b : UInt8) (r : List UInt8) : ∀ q : List UInt8, (q.map fun x => [x]).find? (fun x => decide ((b :: r).take x.length = x)) = if b ∈ q then some [b] else none
 | [] => rfl
 | c :: q => by
   rw [List.map_cons, List.find?_cons]
   have e : ((b :: r).take [c].length = [c]) ↔ b = c := by simp
   by_cases h : b = c
   · subst h
     rw [decide_eq_true (e.2 rfl), if_pos (by simp)]
   · rw [decide_eq_false (fun x => h (e.1 x))]
     show List.find? _ (q.map fun x => [x]) = _
     rw [find_one b r q]
     by_cases m : b ∈ q
     · rw [if_pos m, if_pos (by simp [m])]
     · rw [if_neg m, if_neg (by simp [m, h])]
theorem sgn_val (b : UInt8) (r : List UInt8) : sgn (b :: r) = if (b :: r).take 2 = [61, 62] then some [61, 62] else if (b :: r).take 2 = [45, 62] then some [45, 62] else if b ∈ sg1 then some [b] else none := by
 unfold sgn SG sg2
 rw [List.cons_append, List.cons_append, List.nil_append, List.find?_cons, List.find?_cons, find_one]
 show (match decide ((b :: r).take 2 = [61, 62]) with | true => _ | false => match decide ((b :: r).take 2 = [45, 62]) with | true => _ | false => _) = _
 by_cases h1 : (b :: r).take 2 = [61, 62]
 · rw [decide_eq_true h1, if_pos h1]
 · rw [decide_eq_false h1, if_neg h1]
   by_cases h2 : (b :: r).take 2 = [45, 62]
   · rw [decide_eq_true h2, if_pos h2]
   · rw [decide_eq_false h2, if_neg h2]
section
variable {l : List UInt8} (hl : l.length ≤ 4000000)
include hl
theorem sign_j0 {i : Nat} (h : i < l.length) : token_sign.j0 (mkB l) (i : Int) = some (if l[i] ∈ sg1 then mkB [l[i]] else mkB []) := by
 unfold token_sign.j0
 rw [gb_at h, Option.bind_some]
 have e1 : IntKind.wrap .i64 ((i : Int) + 1) = ((i + 1 : Nat) : Int) := w_succ (by omega)
 have J : ∀ c : Bool, token_sign.j2 (mkB l) (i : Int) c = some (if c = true then mkB [l[i]] else mkB []) := fun c => by
   unfold token_sign.j2
   cases c
   · rfl
   · rw [if_pos rfl, e1, mkB_size, if_pos ⟨by omega, by omega, by omega⟩, ext_in, drop_cons h]; rfl
 simp only [J]
 generalize l[i] = b
 have key : ∀ b : UInt8, (if ((b.toNat : Nat) : Int) = 40 then (((b.toNat : Nat) : Int) == 40) else if ((b.toNat : Nat) : Int) = 41 then (((b.toNat : Nat) : Int) == 41) else if ((b.toNat : Nat) : Int) = 91 then (((b.toNat : Nat) : Int) == 91) else if ((b.toNat : Nat) : Int) = 93 then (((b.toNat : Nat) : Int) == 93) else if ((b.toNat : Nat) : Int) = 123 then (((b.toNat : Nat) : Int) == 123) else if ((b.toNat : Nat) : Int) = 125 then (((b.toNat : Nat) : Int) == 125) else if ((b.toNat : Nat) : Int) = 44 then (((b.toNat : Nat) : Int) == 44) else if ((b.toNat : Nat) : Int) = 59 then (((b.toNat : Nat) : Int) == 59) else if ((b.toNat : Nat) : Int) = 58 then (((b.toNat : Nat) : Int) == 58) else if ((b.toNat : Nat) : Int) = 61 then (((b.toNat : Nat) : Int) == 61) else if ((b.toNat : Nat) : Int) = 43 then (((b.toNat : Nat) : Int) == 43) else if ((b.toNat : Nat) : Int) = 45 then (((b.toNat : Nat) : Int) == 45) else if ((b.toNat : Nat) : Int) = 42 then (((b.toNat : Nat) : Int) == 42) else if ((b.toNat : Nat) : Int) = 47 then (((b.toNat : Nat) : Int) == 47) else if ((b.toNat : Nat) : Int) = 37 then (((b.toNat : Nat) : Int) == 37) else if ((b.toNat : Nat) : Int) = 60 then (((b.toNat : Nat) : Int) == 60) else if ((b.toNat : Nat) : Int) = 94 then (((b.toNat : Nat) : Int) == 94) else if ((b.toNat : Nat) : Int) = 124 then (((b.toNat : Nat) : Int) == 124) else (((b.toNat : Nat) : Int) == 95)) = decide (b ∈ sg1) := byte_all (by decide +kernel)
 have k := key b
 have g : ∀ c : Bool, (if decide (b ∈ sg1) = c then (if c = true then mkB [b] else mkB []) else mkB []) = (if c = true then mkB [b] else mkB []) ∨ True := fun _ => .inr trivial
 have fin : (if b ∈ sg1 then mkB [b] else mkB []) = (if decide (b ∈ sg1) = true then mkB [b] else mkB []) := by simp
 rw [fin, ← k]
 clear g k fin key
 by_cases h40 : ((b.toNat : Nat) : Int) = 40
 · simp only [if_pos h40]
 simp only [if_neg h40]
 by_cases h41 : ((b.toNat : Nat) : Int) = 41
 · simp only [if_pos h41]
 simp only [if_neg h41]
 by_cases h91 : ((b.toNat : Nat) : Int) = 91
 · simp only [if_pos h91]
 simp only [if_neg h91]
 by_cases h93 : ((b.toNat : Nat) : Int) = 93
 · simp only [if_pos h93]
 simp only [if_neg h93]
 by_cases h123 : ((b.toNat : Nat) : Int) = 123
 · simp only [if_pos h123]
 simp only [if_neg h123]
 by_cases h125 : ((b.toNat : Nat) : Int) = 125
 · simp only [if_pos h125]
 simp only [if_neg h125]
 by_cases h44 : ((b.toNat : Nat) : Int) = 44
 · simp only [if_pos h44]
 simp only [if_neg h44]
 by_cases h59 : ((b.toNat : Nat) : Int) = 59
 · simp only [if_pos h59]
 simp only [if_neg h59]
 by_cases h58 : ((b.toNat : Nat) : Int) = 58
 · simp only [if_pos h58]
 simp only [if_neg h58]
 by_cases h61 : ((b.toNat : Nat) : Int) = 61
 · simp only [if_pos h61]
 simp only [if_neg h61]
 by_cases h43 : ((b.toNat : Nat) : Int) = 43
 · simp only [if_pos h43]
 simp only [if_neg h43]
 by_cases h45 : ((b.toNat : Nat) : Int) = 45
 · simp only [if_pos h45]
 simp only [if_neg h45]
 by_cases h42 : ((b.toNat : Nat) : Int) = 42
 · simp only [if_pos h42]
 simp only [if_neg h42]
 by_cases h47 : ((b.toNat : Nat) : Int) = 47
 · simp only [if_pos h47]
 simp only [if_neg h47]
 by_cases h37 : ((b.toNat : Nat) : Int) = 37
 · simp only [if_pos h37]
 simp only [if_neg h37]
 by_cases h60 : ((b.toNat : Nat) : Int) = 60
 · simp only [if_pos h60]
 simp only [if_neg h60]
 by_cases h94 : ((b.toNat : Nat) : Int) = 94
 · simp only [if_pos h94]
 simp only [if_neg h94]
 by_cases h124 : ((b.toNat : Nat) : Int) = 124
 · simp only [if_pos h124]
 simp only [if_neg h124]
theorem sign_val {i : Nat} (h : i < l.length) : token_sign (mkB l) (i : Int) = some (match sgn (l.drop i) with | some x => mkB x | none => mkB []) := by
 have e1 : IntKind.wrap .i64 ((i : Int) + 1) = ((i + 1 : Nat) : Int) := w_succ (by omega)
 have e2 : IntKind.wrap .i64 ((i : Int) + 2) = ((i + 2 : Nat) : Int) := by rw [wrap_in (by omega) (by omega)]; omega
 have S0 : ∀ (n1 : ¬ (l.drop i).take 2 = [61, 62]) (n2 : ¬ (l.drop i).take 2 = [45, 62]), token_sign.j1 (mkB l) (i : Int) false = some (match sgn (l.drop i) with | some x => mkB x | none => mkB []) := fun n1 n2 => by
   unfold token_sign.j1
   rw [if_neg (by decide), sign_j0 hl h]
   rw [drop_cons h] at n1 n2 ⊢
   rw [sgn_val, if_neg n1, if_neg n2]
   by_cases m : l[i] ∈ sg1
   · rw [if_pos m, if_pos m]
   · rw [if_neg m, if_neg m]
 have S1 : ∀ x, i + 1 < l.length → (l.drop i).take 2 = x → sgn (l.drop i) = some x → token_sign.j1 (mkB l) (i : Int) true = some (match sgn (l.drop i) with | some x => mkB x | none => mkB []) := fun x h2 hx hs => by
   unfold token_sign.j1
   rw [if_pos rfl, e2, mkB_size, if_pos ⟨by omega, by omega, by omega⟩, ext_in, hx, hs]
 have two : i + 1 < l.length ∨ (¬ (l.drop i).take 2 = [61, 62] ∧ ¬ (l.drop i).take 2 = [45, 62]) := by
   by_cases h2 : i + 1 < l.length
   · exact .inl h2
   · refine .inr ⟨fun e => ?_, fun e => ?_⟩ <;>
     · have := congrArg List.length e
       rw [List.length_take, List.length_drop] at this
       simp only [List.length_cons, List.length_nil] at this
       omega
 have sg : ∀ x, ((l.drop i).take 2 = [61, 62] → sgn (l.drop i) = some [61, 62]) ∧ (¬ (l.drop i).take 2 = [61, 62] → (l.drop i).take 2 = [45, 62] → sgn (l.drop i) = some [45, 62]) ∨ x = 0 := fun _ => .inl ⟨fun e => by rw [drop_cons h] at e ⊢; rw [sgn_val, if_pos e], fun n e => by rw [drop_cons h] at n e ⊢; rw [sgn_val, if_neg n, if_pos e]⟩
 have sg' := (sg (1 : Nat)).resolve_right (by decide)
 unfold token_sign
 rw [e1, mkB_size]
 by_cases h2 : i + 1 < l.length
 · rw [if_pos (by omega), e2, if_pos ⟨by omega, by omega, by omega⟩, ext_in]
   by_cases c1 : (l.drop i).take 2 = [61, 62]
   · rw [if_pos (show mkB ((l.drop i).take 2) = ByteArray.mk #[61, 62] by rw [c1]; rfl), S1 _ h2 c1 (sg'.1 c1)]
   · rw [if_neg (show ¬ mkB ((l.drop i).take 2) = ByteArray.mk #[61, 62] from fun e => c1 (mkB_inj (b := [61, 62]) e)), if_pos ⟨by omega, by omega, by omega⟩]
     by_cases c2 : (l.drop i).take 2 = [45, 62]
     · rw [decide_eq_true (show mkB ((l.drop i).take 2) = ByteArray.mk #[45, 62] by rw [c2]; rfl), S1 _ h2 c2 (sg'.2 c1 c2)]
     · rw [decide_eq_false (show ¬ mkB ((l.drop i).take 2) = ByteArray.mk #[45, 62] from fun e => c2 (mkB_inj (b := [45, 62]) e)), S0 c1 c2]
 · have := two.resolve_left h2
   rw [if_neg (by omega), S0 this.1 this.2]
theorem sgn_len {r x : List UInt8} (h : sgn r = some x) : 1 ≤ x.length ∧ x.length ≤ r.length := by
 have h1 := List.find?_some h
 have h2 := List.mem_of_find?_eq_some h
 have h3 : 1 ≤ x.length := by
   have : (SG.all fun x => decide (1 ≤ x.length)) = true := by decide
   have := List.all_eq_true.1 this x h2
   exact of_decide_eq_true this
 have h4 := congrArg List.length (of_decide_eq_true h1)
 rw [List.length_take] at h4
 omega
end
def hx (d : Nat) : UInt8 := UInt8.ofNat (if d < 10 then 48 + d else 87 + d)
def hxs (b : UInt8) : List UInt8 := if b.toNat < 16 then [hx b.toNat] else [hx (b.toNat / 16), hx (b.toNat % 16)]
def dg36 : ByteArray := ByteArray.mk #[48, 49, 50, 51, 52, 53, 54, 55, 56, 57, 97, 98, 99, 100, 101, 102, 103, 104, 105, 106, 107, 108, 109, 110, 111, 112, 113, 114, 115, 116, 117, 118, 119, 120, 121, 122]
theorem dg_at : ∀ d : Fin 16, gb dg36 ((d.1 : Nat) : Int) = some (((hx d.1).toNat : Nat) : Int) := by decide +kernel
theorem dg_at' {d : Nat} (h : d < 16) : gb dg36 ((d : Nat) : Int) = some (((hx d).toNat : Nat) : Int) := dg_at ⟨d, h⟩
theorem byte_u64 (b : UInt8) : bitsI .and .u64 ((b.toNat : Nat) : Int) 15 = ((b.toNat % 16 : Nat) : Int) ∧ shrI .u64 ((b.toNat : Nat) : Int) 4 = ((b.toNat / 16 : Nat) : Int) ∧ IntKind.wrap .u64 ((b.toNat : Nat) : Int) = ((b.toNat : Nat) : Int) :=
 byte_all (p := fun b => bitsI .and .u64 ((b.toNat : Nat) : Int) 15 = ((b.toNat % 16 : Nat) : Int) ∧ shrI .u64 ((b.toNat : Nat) : Int) 4 = ((b.toNat / 16 : Nat) : Int) ∧ IntKind.wrap .u64 ((b.toNat : Nat) : Int) = ((b.toNat : Nat) : Int)) (by decide +kernel) b
theorem aI_apL {acc : List UInt8} (m : List UInt8) (h : acc.length + m.length ≤ 100000) : ap 1 (aI acc) (aI m) = some (aI (acc ++ m)) := by
 unfold ap aI
 rw [if_pos (by rw [List.length_map, List.length_map]; omega), List.map_append]
theorem fb_l1 {acc : List UInt8} (hacc : acc.length ≤ 90000) (Y : List Int) (p : Nat) (h0 : 1 ≤ p) (hp : p ≤ 65) (hY : Y.length = 65) (x : Nat) (hx16 : x < 16) : internal_strconv_formatBits.l1 (aI acc) (x : Int) false true ([] : List Int) (ByteArray.mk #[]) Y (p : Int) 4 16 15 = Option.bind (ap 1 (aI acc) (List.drop (p - 1) (List.set Y (p - 1) (((hx x).toNat : Nat) : Int)))) fun l8 => some (l8, ByteArray.mk #[]) := by
 rw [internal_strconv_formatBits.l1_eq, if_neg (by omega)]
 have w : IntKind.wrap .i64 ((p : Int) - 1) = ((p - 1 : Nat) : Int) := by rw [wrap_in (by omega) (by omega)]; omega
 show Option.bind (gb dg36 (x : Int)) _ = _
 rw [dg_at' hx16, Option.bind_some, w, gi_at (by omega), Option.bind_some, Option.bind_some, Int.toNat_natCast]
 unfold internal_strconv_formatBits.j3
 rw [if_neg (by decide)]
 unfold internal_strconv_formatBits.j4
 rw [if_pos rfl, if_pos ⟨by omega, by omega⟩, Int.toNat_natCast]
theorem appendInt_val {acc : List UInt8} (hacc : acc.length ≤ 90000) (b : UInt8) : strconv_AppendInt (aI acc) (IntKind.wrap .i64 ((b.toNat : Nat) : Int)) 16 = some (aI (acc ++ hxs b)) := by
 obtain ⟨u1, u2, u3⟩ := byte_u64 b
 have hb := b.toNat_lt
 unfold strconv_AppendInt internal_strconv_AppendInt
 rw [wrap_in (by omega) (by omega), if_neg (by omega), u3]
 unfold internal_strconv_AppendInt.j0 internal_strconv_AppendUint
 rw [if_neg (by decide)]
 unfold internal_strconv_formatBits
 rw [if_neg (by decide), if_neg (by decide)]
 unfold internal_strconv_formatBits.j1
 rw [if_neg (by decide)]
 unfold internal_strconv_formatBits.j0
 rw [if_neg (by decide)]
 unfold internal_strconv_formatBits.j2
 have p2 : internal_strconv_isPowerOfTwo 16 = some true := by kernel_rfl
 have w16 : IntKind.wrap .u64 16 = 16 := by decide +kernel
 have w15 : IntKind.wrap .u64 (16 - 1) = 15 := by decide +kernel
 have w4 : IntKind.wrap .u64 4 = 4 := by decide +kernel
 have tz : math_bits_TrailingZeros 16 = some 4 := by
   unfold math_bits_TrailingZeros math_bits_TrailingZeros64
   first | rfl | (simp; done) | (rw [w16]; rfl)
 rw [p2, Option.bind_some, if_pos rfl, w16, tz, Option.bind_some, w4, w15]
 have key : internal_strconv_formatBits.l1 (aI acc) ((b.toNat : Nat) : Int) false true ([] : List Int) (ByteArray.mk #[]) (List.replicate 65 0) 65 4 16 15 = some (aI (acc ++ hxs b), ByteArray.mk #[]) := by
   by_cases c : b.toNat < 16
   · have := fb_l1 hacc (List.replicate 65 0) 65 (by omega) (by omega) (by simp) b.toNat c
     have e : List.drop (65 - 1) (List.set (List.replicate 65 (0 : Int)) (65 - 1) (((hx b.toNat).toNat : Nat) : Int)) = aI [hx b.toNat] := rfl
     rw [e, aI_apL _ (by simp; omega), Option.bind_some] at this
     unfold hxs
     rw [if_pos c]
     exact this
   · rw [internal_strconv_formatBits.l1_eq, if_pos (by omega), u1, u2]
     have w : IntKind.wrap .i64 ((65 : Int) - 1) = 64 := by decide +kernel
     show Option.bind (gb dg36 ((b.toNat % 16 : Nat) : Int)) _ = _
     have g64 : gi (List.replicate 65 (0 : Int)) 64 = some 0 := by decide +kernel
     rw [dg_at' (by omega), Option.bind_some, w, g64, Option.bind_some, Option.bind_some, if_pos (by decide)]
     have := fb_l1 hacc (List.set (List.replicate 65 0) 64 (((hx (b.toNat % 16)).toNat : Nat) : Int)) 64 (by omega) (by omega) (by simp) (b.toNat / 16) (by omega)
     have e : List.drop (64 - 1) (List.set (List.set (List.replicate 65 (0 : Int)) 64 (((hx (b.toNat % 16)).toNat : Nat) : Int)) (64 - 1) (((hx (b.toNat / 16)).toNat : Nat) : Int)) = aI [hx (b.toNat / 16), hx (b.toNat % 16)] := rfl
     rw [e, aI_apL _ (by simp; omega), Option.bind_some] at this
     unfold hxs
     rw [if_neg c]
     exact this
 rw [key]; rfl
def esc (b : UInt8) : List UInt8 := if b.toNat = 34 ∨ b.toNat = 92 then [92, b] else if b.toNat = 10 then [92, 110] else if b.toNat < 32 ∨ 126 < b.toNat then [92, 120, hx (b.toNat / 16), hx (b.toNat % 16)] else [b]
theorem esc_len (b : UInt8) : (esc b).length ≤ 4 := by
 unfold esc
 repeat' split
 all_goals simp
theorem quote_step {l acc : List UInt8} (hl : l.length ≤ 64) (ha : acc.length ≤ 1000) {i : Nat} (h : i < l.length) : token_Quote.l0 (aI acc) (aI l) (l.length : Int) (i : Int) = token_Quote.l0 (aI (acc ++ esc l[i])) (aI l) (l.length : Int) ((i + 1 : Nat) : Int) := by
 have hm : i < (aI l).length := by unfold aI; rw [List.length_map]; exact h
 have hg : (aI l)[i] = ((l[i].toNat : Nat) : Int) := List.getElem_map _
 rw [token_Quote.l0_eq, if_pos (by omega), gi_at hm, Option.bind_some, hg]
 generalize l[i] = b
 have hb := b.toNat_lt
 unfold esc
 have J : ∀ c, token_Quote.j0 (aI acc) ((b.toNat : Nat) : Int) (aI l) (l.length : Int) (i : Int) c = if c = true then token_Quote.l0 (aI (acc ++ [92, b])) (aI l) (l.length : Int) ((i + 1 : Nat) : Int) else token_Quote.l0 (aI (acc ++ if b.toNat = 10 then [92, 110] else if b.toNat < 32 ∨ 126 < b.toNat then [92, 120, hx (b.toNat / 16), hx (b.toNat % 16)] else [b])) (aI l) (l.length : Int) ((i + 1 : Nat) : Int) := fun c => by
   rw [token_Quote.j0_eq, w_succ (by omega)]
   cases c
   · simp only [Bool.false_eq_true, ↓reduceIte]
     by_cases n : b.toNat = 10
     · rw [if_pos (by omega), if_pos n]
       have := aI_apL (acc := acc) [92, 110] (by simp; omega)
       exact (congrArg (fun o => Option.bind o fun l19 => token_Quote.l0 l19 (aI l) (l.length : Int) ((i + 1 : Nat) : Int)) this).trans rfl
     · rw [if_neg (by omega), if_neg n]
       have K : ∀ c, token_Quote.j1 (aI acc) ((b.toNat : Nat) : Int) (aI l) (l.length : Int) (i : Int) c = if c = true then token_Quote.l0 (aI (acc ++ [92, 120, hx (b.toNat / 16), hx (b.toNat % 16)])) (aI l) (l.length : Int) ((i + 1 : Nat) : Int) else token_Quote.l0 (aI (acc ++ [b])) (aI l) (l.length : Int) ((i + 1 : Nat) : Int) := fun c => by
         rw [token_Quote.j1_eq, w_succ (by omega)]
         cases c
         · simp only [Bool.false_eq_true, ↓reduceIte]
           rw [aI_ap _ (by omega), Option.bind_some]
         · simp only [↓reduceIte]
           have a1 : ap 1 (aI acc) ([92, 120] : List Int) = some (aI (acc ++ [92, 120])) := aI_apL (acc := acc) [92, 120] (by simp; omega)
           rw [a1, Option.bind_some]
           by_cases s : b.toNat < 16
           · have a2 : ap 1 (aI (acc ++ [92, 120])) ([48] : List Int) = some (aI (acc ++ [92, 120] ++ [48])) := aI_apL (acc := acc ++ [92, 120]) [48] (by simp; omega)
             rw [if_pos (by omega), a2, Option.bind_some, token_Quote.j2_eq, appendInt_val (by simp; omega), Option.bind_some, w_succ (by omega)]
             have e : acc ++ [92, 120] ++ [48] ++ hxs b = acc ++ [92, 120, hx (b.toNat / 16), hx (b.toNat % 16)] := by
               unfold hxs
               rw [if_pos s, show b.toNat / 16 = 0 by omega, show b.toNat % 16 = b.toNat by omega]
               simp [hx]
             rw [e]
           · rw [if_neg (by omega), token_Quote.j2_eq, appendInt_val (by simp; omega), Option.bind_some, w_succ (by omega)]
             have e : acc ++ [92, 120] ++ hxs b = acc ++ [92, 120, hx (b.toNat / 16), hx (b.toNat % 16)] := by
               unfold hxs
               rw [if_neg s]; simp
             rw [e]
       by_cases s : b.toNat < 32
       · rw [if_pos (by omega), K, if_pos rfl, if_pos (.inl s)]
       · rw [if_neg (by omega), K]
         by_cases g : 126 < b.toNat
         · rw [if_pos (by rw [decide_eq_true_iff]; omega), if_pos (.inr g)]
         · rw [if_neg (by rw [decide_eq_true_iff]; omega), if_neg (by omega)]
   · simp only [↓reduceIte]
     have := aI_apL (acc := acc) [92, b] (by simp; omega)
     exact (congrArg (fun o => Option.bind o fun l19 => token_Quote.l0 l19 (aI l) (l.length : Int) ((i + 1 : Nat) : Int)) this).trans rfl
 by_cases q : b.toNat = 34
 · rw [if_pos (by omega), J, if_pos rfl, if_pos (.inl q)]
 · rw [if_neg (by omega), J]
   by_cases s : b.toNat = 92
   · rw [if_pos (by rw [beq_iff_eq]; omega), if_pos (.inr s)]
   · rw [if_neg (by rw [beq_iff_eq]; omega), if_neg (show ¬ (b.toNat = 34 ∨ b.toNat = 92) by omega)]
def ext16 : ByteArray := ByteArray.mk #[48, 49, 50, 51, 52, 53, 54, 55, 56, 57, 97, 98, 99, 100, 101, 102]
theorem nib (b : UInt8) : (0 ≤ IntKind.wrap .u8 (Int.tdiv ((b.toNat : Nat) : Int) 16) ∧ IntKind.wrap .u8 (Int.tdiv ((b.toNat : Nat) : Int) 16) ≤ IntKind.wrap .u8 (IntKind.wrap .u8 (Int.tdiv ((b.toNat : Nat) : Int) 16) + 1) ∧ IntKind.wrap .u8 (IntKind.wrap .u8 (Int.tdiv ((b.toNat : Nat) : Int) 16) + 1) ≤ 16) ∧ (0 ≤ Int.tmod ((b.toNat : Nat) : Int) 16 ∧ Int.tmod ((b.toNat : Nat) : Int) 16 ≤ IntKind.wrap .u8 (Int.tmod ((b.toNat : Nat) : Int) 16 + 1) ∧ IntKind.wrap .u8 (Int.tmod ((b.toNat : Nat) : Int) 16 + 1) ≤ 16) ∧
   ByteArray.extract ext16 (Int.toNat (IntKind.wrap .u8 (Int.tdiv ((b.toNat : Nat) : Int) 16))) (Int.toNat (IntKind.wrap .u8 (IntKind.wrap .u8 (Int.tdiv ((b.toNat : Nat) : Int) 16) + 1))) = mkB [hx (b.toNat / 16)] ∧ ByteArray.extract ext16 (Int.toNat (Int.tmod ((b.toNat : Nat) : Int) 16)) (Int.toNat (IntKind.wrap .u8 (Int.tmod ((b.toNat : Nat) : Int) 16 + 1))) = mkB [hx (b.toNat % 16)] :=
 byte_all (p := fun b => (0 ≤ IntKind.wrap .u8 (Int.tdiv ((b.toNat : Nat) : Int) 16) ∧ IntKind.wrap .u8 (Int.tdiv ((b.toNat : Nat) : Int) 16) ≤ IntKind.wrap .u8 (IntKind.wrap .u8 (Int.tdiv ((b.toNat : Nat) : Int) 16) + 1) ∧ IntKind.wrap .u8 (IntKind.wrap .u8 (Int.tdiv ((b.toNat : Nat) : Int) 16) + 1) ≤ 16) ∧ (0 ≤ Int.tmod ((b.toNat : Nat) : Int) 16 ∧ Int.tmod ((b.toNat : Nat) : Int) 16 ≤ IntKind.wrap .u8 (Int.tmod ((b.toNat : Nat) : Int) 16 + 1) ∧ IntKind.wrap .u8 (Int.tmod ((b.toNat : Nat) : Int) 16 + 1) ≤ 16) ∧
   ByteArray.extract ext16 (Int.toNat (IntKind.wrap .u8 (Int.tdiv ((b.toNat : Nat) : Int) 16))) (Int.toNat (IntKind.wrap .u8 (IntKind.wrap .u8 (Int.tdiv ((b.toNat : Nat) : Int) 16) + 1))) = mkB [hx (b.toNat / 16)] ∧ ByteArray.extract ext16 (Int.toNat (Int.tmod ((b.toNat : Nat) : Int) 16)) (Int.toNat (IntKind.wrap .u8 (Int.tmod ((b.toNat : Nat) : Int) 16 + 1))) = mkB [hx (b.toNat % 16)]) (by decide +kernel) b
theorem quoted_step {l acc : List UInt8} (hl : l.length ≤ 64) (ha : acc.length ≤ 1000) {i : Nat} (h : i < l.length) : roadref2_Quoted.l0 (mkB l) (mkB acc) (l.length : Int) (i : Int) = roadref2_Quoted.l0 (mkB l) (mkB (acc ++ esc l[i])) (l.length : Int) ((i + 1 : Nat) : Int) := by
 have w : IntKind.wrap .i64 ((i : Int) + 1) = ((i + 1 : Nat) : Int) := w_succ (by omega)
 have ex : ByteArray.extract (mkB l) (Int.toNat (i : Int)) (Int.toNat ((i + 1 : Nat) : Int)) = mkB [l[i]] := by rw [ext_in, drop_cons h]; rfl
 have sl : (mkB l).size = l.length := rfl
 have rng : 0 ≤ (i : Int) ∧ (i : Int) ≤ ((i + 1 : Nat) : Int) ∧ ((i + 1 : Nat) : Int) ≤ ((l.length : Nat) : Int) := ⟨by omega, by omega, by omega⟩
 have szl : ∀ m : List UInt8, m.length ≤ 10 → ByteArray.size (mkB acc) + ByteArray.size (mkB m) ≤ 9223372036854775807 := fun m hm => by rw [mkB_size, mkB_size]; omega
 rw [roadref2_Quoted.l0_eq, if_pos (by omega), gb_at h, Option.bind_some]
 generalize l[i] = b at ex
 have hb := b.toNat_lt
 obtain ⟨n1, n2, n3, n4⟩ := nib b
 unfold esc
 have J : ∀ c, roadref2_Quoted.j0 (mkB l) (mkB acc) (i : Int) ((b.toNat : Nat) : Int) (l.length : Int) (i : Int) c = if c = true then roadref2_Quoted.l0 (mkB l) (mkB (acc ++ [92, b])) (l.length : Int) ((i + 1 : Nat) : Int) else roadref2_Quoted.l0 (mkB l) (mkB (acc ++ if b.toNat = 10 then [92, 110] else if b.toNat < 32 ∨ 126 < b.toNat then [92, 120, hx (b.toNat / 16), hx (b.toNat % 16)] else [b])) (l.length : Int) ((i + 1 : Nat) : Int) := fun c => by
   rw [roadref2_Quoted.j0_eq, w]
   cases c
   · simp only [Bool.false_eq_true, ↓reduceIte]
     by_cases n : b.toNat = 10
     · rw [if_pos (by omega), if_pos n, if_pos (show ByteArray.size (mkB acc) + ByteArray.size (ByteArray.mk #[92, 110]) ≤ 9223372036854775807 from szl [92, 110] (by decide))]
       show roadref2_Quoted.l0 (mkB l) (mkB acc ++ mkB [92, 110]) _ _ = _
       rw [mkB_app]
     · rw [if_neg (by omega), if_neg n]
       have K : ∀ c, roadref2_Quoted.j1 (mkB l) (mkB acc) (i : Int) ((b.toNat : Nat) : Int) (l.length : Int) (i : Int) c = if c = true then roadref2_Quoted.l0 (mkB l) (mkB (acc ++ [b])) (l.length : Int) ((i + 1 : Nat) : Int) else roadref2_Quoted.l0 (mkB l) (mkB (acc ++ [92, 120, hx (b.toNat / 16), hx (b.toNat % 16)])) (l.length : Int) ((i + 1 : Nat) : Int) := fun c => by
         rw [roadref2_Quoted.j1_eq, w]
         cases c
         · simp only [Bool.false_eq_true, ↓reduceIte]
           show (if 0 ≤ IntKind.wrap .u8 (Int.tdiv ((b.toNat : Nat) : Int) 16) ∧ IntKind.wrap .u8 (Int.tdiv ((b.toNat : Nat) : Int) 16) ≤ IntKind.wrap .u8 (IntKind.wrap .u8 (Int.tdiv ((b.toNat : Nat) : Int) 16) + 1) ∧ IntKind.wrap .u8 (IntKind.wrap .u8 (Int.tdiv ((b.toNat : Nat) : Int) 16) + 1) ≤ 16 then (if ByteArray.size (mkB [92, 120]) + ByteArray.size (ByteArray.extract ext16 _ _) ≤ 9223372036854775807 then (if 0 ≤ Int.tmod ((b.toNat : Nat) : Int) 16 ∧ Int.tmod ((b.toNat : Nat) : Int) 16 ≤ IntKind.wrap .u8 (Int.tmod ((b.toNat : Nat) : Int) 16 + 1) ∧ IntKind.wrap .u8 (Int.tmod ((b.toNat : Nat) : Int) 16 + 1) ≤ 16 then (if ByteArray.size (mkB [92, 120] ++ ByteArray.extract ext16 _ _) + ByteArray.size (ByteArray.extract ext16 _ _) ≤ 9223372036854775807 then (if ByteArray.size (mkB acc) + ByteArray.size ((mkB [92, 120] ++ ByteArray.extract ext16 _ _) ++ ByteArray.extract ext16 _ _) ≤ 9223372036854775807 then roadref2_Quoted.l0 (mkB l) (mkB acc ++ ((mkB [92, 120] ++ ByteArray.extract ext16 _ _) ++ ByteArray.extract ext16 _ _)) (l.length : Int) ((i + 1 : Nat) : Int) else none) else none) else none) else none) else none) = _
           rw [if_pos n1, n3, n4, if_pos (by rw [mkB_size, mkB_size]; simp), if_pos n2, mkB_app, if_pos (by rw [mkB_size, mkB_size]; simp), mkB_app, if_pos (szl _ (by simp)), mkB_app]
           rfl
         · simp only [↓reduceIte]
           rw [sl, if_pos rng, ex, if_pos (szl [b] (by simp)), mkB_app]
       by_cases s : b.toNat < 32
       · rw [if_neg (by omega), K, if_neg (by decide), if_pos (.inl s)]
       · rw [if_pos (by omega), K]
         by_cases g : 126 < b.toNat
         · rw [if_neg (by rw [decide_eq_true_iff]; omega), if_pos (.inr g)]
         · rw [if_pos (by rw [decide_eq_true_iff]; omega), if_neg (by omega)]
   · simp only [↓reduceIte]
     rw [sl, if_pos rng, ex]
     show (if ByteArray.size (mkB [92]) + ByteArray.size (mkB [b]) ≤ 9223372036854775807 then (if ByteArray.size (mkB acc) + ByteArray.size (mkB [92] ++ mkB [b]) ≤ 9223372036854775807 then roadref2_Quoted.l0 (mkB l) (mkB acc ++ (mkB [92] ++ mkB [b])) (l.length : Int) ((i + 1 : Nat) : Int) else none) else none) = _
     rw [mkB_app, if_pos (by rw [mkB_size, mkB_size]; simp), if_pos (szl _ (by simp)), mkB_app]
     rfl
 by_cases q : b.toNat = 34
 · rw [if_pos (by omega), J, if_pos (by rw [beq_iff_eq]; omega), if_pos (.inl q)]
 · rw [if_neg (by omega), J]
   by_cases s : b.toNat = 92
   · rw [if_pos (by rw [beq_iff_eq]; omega), if_pos (.inr s)]
   · rw [if_neg (by rw [beq_iff_eq]; omega), if_neg (show ¬ (b.toNat = 34 ∨ b.toNat = 92) by omega)]
def qt (l : List UInt8) : List UInt8 := [34] ++ l.flatMap esc ++ [34]
theorem quotes {l : List UInt8} (hl : l.length ≤ 64) : ∀ (d i : Nat) (acc : List UInt8), l.length - i = d → i ≤ l.length → acc.length ≤ 4 * i + 1 → token_Quote.l0 (aI acc) (aI l) (l.length : Int) (i : Int) = some (mkB (acc ++ (l.drop i).flatMap esc ++ [34]), 0) ∧ roadref2_Quoted.l0 (mkB l) (mkB acc) (l.length : Int) (i : Int) = some (mkB (acc ++ (l.drop i).flatMap esc ++ [34])) := by
 intro d
 induction d with
 | zero =>
   intro i acc hd hi ha
   obtain rfl : i = l.length := by omega
   have a1 : ap 1 (aI acc) ([34] : List Int) = some (aI (acc ++ [34])) := aI_apL (acc := acc) [34] (by simp; omega)
   rw [token_Quote.l0_eq, if_neg (by omega), a1, Option.bind_some, aI_bytes, List.drop_length, roadref2_Quoted.l0_eq, if_neg (by omega)]
   have : ByteArray.size (mkB acc) + ByteArray.size (mkB [34]) ≤ 9223372036854775807 := by rw [mkB_size, mkB_size]; simp; omega
   refine ⟨by simp, ?_⟩
   show (if ByteArray.size (mkB acc) + ByteArray.size (mkB [34]) ≤ 9223372036854775807 then some (mkB acc ++ mkB [34]) else none) = _
   rw [if_pos this, mkB_app]; simp
 | succ d ih =>
   intro i acc hd hi ha
   have h : i < l.length := by omega
   have e := esc_len l[i]
   have := ih (i + 1) (acc ++ esc l[i]) (by omega) h (by rw [List.length_append]; omega)
   rw [quote_step hl (by omega) h, quoted_step hl (by omega) h, this.1, this.2, drop_cons h, List.flatMap_cons]
   simp
theorem quote_val (l : List UInt8) : token_Quote (mkB l) = some (if l.length ≤ 64 then (mkB (qt l), 0) else (mkB [], 2)) := by
 unfold token_Quote
 rw [mkB_size]
 by_cases h : l.length ≤ 64
 · rw [if_neg (by omega), if_pos h]
   have e : ((bytesI (mkB l)).length : Int) = (l.length : Int) := by rw [bytesI_len]; rfl
   rw [e]
   have := (quotes h l.length 0 [34] (by omega) (by omega) (by simp)).1
   rw [List.drop_zero] at this
   exact this
 · rw [if_pos (by omega), if_neg h]; rfl
theorem quoted_val {l : List UInt8} (h : l.length ≤ 64) : roadref2_Quoted (mkB l) = some (mkB (qt l)) := by
 unfold roadref2_Quoted
 have := (quotes h l.length 0 [34] (by omega) (by omega) (by simp)).2
 rw [List.drop_zero] at this
 exact this
theorem tok_name {r : List UInt8} (hr : r.length ≤ 4000) {b : UInt8} {r' : List UInt8} (hrc : r = b :: r') (hb : loB b = true ∨ upB b = true) : 1 ≤ tw inn r ∧ roadref2_token (mkB r) = if mkB (r.take (tw inn r)) ∈ WL then some (T_roadref2_Tok.mk 3 (mkB (r.take (tw inn r))) 0, ((tw inn r : Nat) : Int)) else if lowS (mkB (r.take (tw inn r))) = true then some (T_roadref2_Tok.mk 1 (mkB (r.take (tw inn r))) 0, ((tw inn r : Nat) : Int)) else if upS (mkB (r.take (tw inn r))) = true then some (T_roadref2_Tok.mk 2 (mkB (r.take (tw inn r))) 0, ((tw inn r : Nat) : Int)) else some (T_roadref2_Tok.mk 0 (ByteArray.mk #[]) 0, -1) := by
 obtain ⟨f1, f2, f3, f4, f5⟩ := low_facts hb
 have hn1 : 1 ≤ tw inn r := by rw [hrc, tw_t f1]; omega
 have hnle := tw_le inn r
 refine ⟨hn1, ?_⟩
 generalize hn : tw inn r = n at hn1 hnle
 unfold roadref2_token
 have g0 : gb (mkB r) 0 = some ((b.toNat : Nat) : Int) := by rw [hrc, gb_0]
 rw [g0, Option.bind_some, if_neg (by omega), if_pos (by decide +kernel)]
 show Option.bind (roadref2_run (mkB r) (ByteArray.extract inner63 (Int.toNat 52) (Int.toNat 62))) _ = _
 rw [ext62, run_val dg_has (by omega), Option.bind_some]
 have z : tw dgB r = 0 := by rw [hrc, tw_f f2]
 rw [z, if_neg (by decide)]
 show Option.bind (roadref2_run (mkB r) inner63) _ = _
 rw [run_val inn_has (by omega), Option.bind_some, hn, if_pos (by omega), Option.bind_some]
 have e95 : (((b.toNat : Nat) : Int) != 95) = true := by rw [bne_iff_ne]; omega
 rw [e95]
 unfold roadref2_token.j1
 rw [if_pos rfl, mkB_size, if_pos ⟨by omega, by omega, by omega⟩, wordList_val, Option.bind_some, ext_0, has_val _ (by rw [words_len]; omega), Option.bind_some]
 by_cases w : mkB (r.take n) ∈ WL
 · rw [decide_eq_true w, if_pos rfl, if_pos w]
 · rw [decide_eq_false w, if_neg (by decide), if_neg w, small_val, Option.bind_some]
   cases lowS (mkB (r.take n))
   · rw [if_neg (by decide), if_neg (by decide), greatN_val, Option.bind_some]
   · rw [if_pos rfl, if_pos rfl]
theorem tok_num {r : List UInt8} (hr : r.length ≤ 4000) {b : UInt8} {r' : List UInt8} (hrc : r = b :: r') (hb : dgB b = true) : 1 ≤ tw dgB r ∧ roadref2_token (mkB r) = if tw inn (r.drop (tw dgB r)) > 0 then some (T_roadref2_Tok.mk 0 (ByteArray.mk #[]) 0, -1) else some (T_roadref2_Tok.mk 4 (mkB (r.take (tw dgB r))) 0, ((tw dgB r : Nat) : Int)) := by
 obtain ⟨f1, f2, f3⟩ := dig_facts hb
 have hn1 : 1 ≤ tw dgB r := by rw [hrc, tw_t hb]; omega
 have hnle := tw_le dgB r
 refine ⟨hn1, ?_⟩
 generalize hn : tw dgB r = n at hn1 hnle
 unfold roadref2_token
 have g0 : gb (mkB r) 0 = some ((b.toNat : Nat) : Int) := by rw [hrc, gb_0]
 rw [g0, Option.bind_some, if_neg (by omega), if_pos (by decide +kernel)]
 show Option.bind (roadref2_run (mkB r) (ByteArray.extract inner63 (Int.toNat 52) (Int.toNat 62))) _ = _
 rw [ext62, run_val dg_has (by omega), Option.bind_some, hn, if_pos (by omega), mkB_size, if_pos ⟨by omega, by omega, by omega⟩]
 show Option.bind (roadref2_run (ByteArray.extract (mkB r) (Int.toNat (n : Int)) (Int.toNat ((mkB r).size : Int))) inner63) _ = _
 rw [ext_to, run_val inn_has (by rw [List.length_drop]; omega), Option.bind_some]
 generalize tw inn (r.drop n) = m
 by_cases c : m > 0
 · rw [if_pos (by omega), if_pos c]
 · rw [if_neg (by omega), if_neg c, if_pos ⟨by omega, by omega, by omega⟩, ext_0]
theorem tok_sign {r : List UInt8} (hr : r.length ≤ 4000) {b : UInt8} {r' : List UInt8} (hrc : r = b :: r') (n1 : loB b = false) (n2 : upB b = false) (n3 : dgB b = false) (n4 : ¬ b.toNat = 34) : roadref2_token (mkB r) = roadref2_token.j0 (mkB r) (T_roadref2_Tok.mk 0 (ByteArray.mk #[]) 0) := by
 unfold roadref2_token
 have g0 : gb (mkB r) 0 = some ((b.toNat : Nat) : Int) := by rw [hrc, gb_0]
 rw [g0, Option.bind_some, if_neg (by omega), if_pos (by decide +kernel)]
 show Option.bind (roadref2_run (mkB r) (ByteArray.extract inner63 (Int.toNat 52) (Int.toNat 62))) _ = _
 have z : tw dgB r = 0 := by rw [hrc, tw_f n3]
 rw [ext62, run_val dg_has (by omega), Option.bind_some, z, if_neg (by decide)]
 show Option.bind (roadref2_run (mkB r) inner63) _ = _
 rw [run_val inn_has (by omega), Option.bind_some]
 have J : ∀ n, roadref2_token.j1 (mkB r) (T_roadref2_Tok.mk 0 (ByteArray.mk #[]) 0) n false = roadref2_token.j0 (mkB r) (T_roadref2_Tok.mk 0 (ByteArray.mk #[]) 0) := fun n => by
   unfold roadref2_token.j1; rw [if_neg (by decide)]
 by_cases z : ((tw inn r : Nat) : Int) > 0
 · rw [if_pos z, Option.bind_some]
   have b95 : b.toNat = 95 := by
     have : inn b = true := by
       cases c : inn b with
       | true => rfl
       | false => rw [hrc, tw_f c] at z; omega
     exact byte_all (p := fun b => loB b = false → upB b = false → dgB b = false → inn b = true → b.toNat = 95) (by decide +kernel) b n1 n2 n3 this
   have : (((b.toNat : Nat) : Int) != 95) = false := by rw [b95]; rfl
   rw [this, J]
 · rw [if_neg z, J]
def Mg (n p : Nat) (q : Option (ByteArray × Int)) : Prop := ∃ u m, q = some (u, m) ∧ (m = -1 ∨ ∃ j : Nat, p < j ∧ j ≤ n ∧ m = (j : Int))
theorem Mg.more {n p p' : Nat} {q : Option (ByteArray × Int)} (h : Mg n p' q) (hp : p ≤ p') : Mg n p q := by
 obtain ⟨u, m, h1, h2⟩ := h
 refine ⟨u, m, h1, h2.imp id fun ⟨j, j1, j2⟩ => ⟨j, by omega, j2⟩⟩
theorem meant_ok {r : List UInt8} (hr : r.length ≤ 4000) : ∀ (d p : Nat) (acc : List UInt8), r.length - p ≤ d → p ≤ r.length → acc.length ≤ p → Mg r.length p (roadref2_meant.l0 (mkB r) (mkB acc) (p : Int)) := by
 intro d
 have sr : (mkB r).size = r.length := rfl
 have stop : ∀ (p : Nat) (acc : List UInt8), ¬ p < r.length → Mg r.length p (roadref2_meant.l0 (mkB r) (mkB acc) (p : Int)) := fun p acc h => by
   refine ⟨ByteArray.mk #[], -1, ?_, .inl rfl⟩
   rw [roadref2_meant.l0_eq, sr, if_neg (by omega)]
   unfold roadref2_meant.j0
   rw [sr, if_pos (by omega)]
   unfold roadref2_meant.j2
   rw [if_pos rfl]
 induction d with
 | zero => intro p acc hd hp ha; exact stop p acc (by omega)
 | succ d ih =>
   intro p acc hd hp ha
   by_cases h : p < r.length
   · have gr : gb (mkB r) (p : Int) = some ((r[p].toNat : Nat) : Int) := gb_at h
     have f1 : IntKind.wrap .i64 ((p : Int) + 1) = ((p + 1 : Nat) : Int) := by rw [wrap_in (by omega) (by omega)]; omega
     have f2 : IntKind.wrap .i64 ((p : Int) + 2) = ((p + 2 : Nat) : Int) := by rw [wrap_in (by omega) (by omega)]; omega
     have f4 : IntKind.wrap .i64 ((p : Int) + 4) = ((p + 4 : Nat) : Int) := by rw [wrap_in (by omega) (by omega)]; omega
     have nxt : ∀ (k : Nat) (b : UInt8), 1 ≤ k → p + k ≤ r.length → Mg r.length p (roadref2_meant.l0 (mkB r) (mkB (acc ++ [b])) ((p + k : Nat) : Int)) := fun k b hk hle =>
       (ih (p + k) (acc ++ [b]) (by omega) hle (by rw [List.length_append, List.length_singleton]; omega)).more (by omega)
     have sz1 : ∀ b : UInt8, (mkB acc).size + (mkB [b]).size ≤ 9223372036854775807 := fun b => by rw [mkB_size, mkB_size, List.length_singleton]; omega
     have no : ∀ u : ByteArray, Mg r.length p (some (u, (-1 : Int))) := fun u => ⟨u, -1, rfl, .inl rfl⟩
     have M0 := roadref2_meant.l0_eq (mkB r) (mkB acc) (p : Int)
     rw [sr, if_pos (by omega), gr, Option.bind_some] at M0
     by_cases c34 : r[p].toNat = 34
     · rw [if_pos (by omega)] at M0
       unfold roadref2_meant.j0 at M0
       rw [sr, mkB_size, if_neg (by omega)] at M0
       unfold roadref2_meant.j2 roadref2_meant.j1 at M0
       rw [f1] at M0
       rw [M0]
       split
       · exact no _
       · exact ⟨_, _, rfl, .inr ⟨p + 1, by omega, by omega, rfl⟩⟩
     rw [if_neg (by omega), roadref2_meant.j3_eq, gr, Option.bind_some] at M0
     by_cases c32 : r[p].toNat < 32
     · rw [if_pos (by omega)] at M0
       rw [M0]; exact no _
     rw [if_neg (by omega), Option.bind_some] at M0
     by_cases c92 : r[p].toNat = 92
     · rw [if_pos (by omega), f1, sr, if_pos ⟨by omega, by omega, by omega⟩] at M0
       generalize hq : r.drop (p + 1) = q
       have hql : q.length = r.length - (p + 1) := by rw [← hq, List.length_drop]
       have er : ByteArray.extract (mkB r) (Int.toNat ((p + 1 : Nat) : Int)) (Int.toNat ((r.length : Nat) : Int)) = mkB q := by
         rw [← hq]; exact ext_to r (p + 1)
       have p110 : strings_HasPrefix (mkB q) (ByteArray.mk #[110]) = some (decide (q.take 1 = [110])) := prefix_val (t := [110]) (by omega)
       have p34 : strings_HasPrefix (mkB q) (ByteArray.mk #[34]) = some (decide (q.take 1 = [34])) := prefix_val (t := [34]) (by omega)
       have p92 : strings_HasPrefix (mkB q) (ByteArray.mk #[92]) = some (decide (q.take 1 = [92])) := prefix_val (t := [92]) (by omega)
       rw [er, p110, p34, p92] at M0
       simp only [Option.bind_some] at M0
       rw [f2] at M0
       have two : ∀ x : UInt8, q.take 1 = [x] → p + 2 ≤ r.length := fun x e => by
         have := congrArg List.length e
         rw [List.length_take] at this
         simp only [List.length_cons, List.length_nil] at this
         omega
       have K1 : ∀ x : UInt8, q.take 1 = [x] → roadref2_meant.j4 (mkB r) (mkB acc) (p : Int) (mkB q) true = roadref2_meant.l0 (mkB r) (mkB (acc ++ [x])) ((p + 2 : Nat) : Int) := fun x e => by
         have ex : ByteArray.extract (mkB q) (Int.toNat 0) (Int.toNat 1) = mkB [x] := by
           have := ext_0 q 1
           rw [e] at this
           exact this
         have := two x e
         rw [roadref2_meant.j4_eq, if_pos rfl, mkB_size, if_pos ⟨by omega, by omega, by omega⟩, ex, if_pos (sz1 _), mkB_app, f2]
       have no5 : roadref2_meant.j5 (mkB r) (mkB acc) (p : Int) (mkB q) false = some (ByteArray.mk #[], -1) := by rw [roadref2_meant.j5_eq, if_neg (by decide)]
       have K0 : Mg r.length p (roadref2_meant.j4 (mkB r) (mkB acc) (p : Int) (mkB q) false) := by
         rw [roadref2_meant.j4_eq, if_neg (by decide), mkB_size]
         by_cases q2 : (q.length : Int) > 2
         · rw [if_pos q2]
           obtain ⟨x, y, z, q', rfl⟩ : ∃ x y z q', q = x :: y :: z :: q' := by
             match q, q2 with
             | x :: y :: z :: q', _ => exact ⟨x, y, z, q', rfl⟩
             | [], h => simp at h
             | [_], h => simp at h
             | [_, _], h => simp at h
           rw [gb_0, Option.bind_some]
           by_cases x120 : ((x.toNat : Nat) : Int) = 120
           · have ex : ByteArray.extract (mkB (x :: y :: z :: q')) (Int.toNat 1) (Int.toNat 3) = mkB [y, z] := ext_mk _ 1 3
             rw [if_pos x120, if_pos ⟨by omega, by omega, by omega⟩, ex, run_val hx_has (by simp), Option.bind_some]
             cases hu : hxB y with
             | false => rw [tw_f hu, show ((((0 : Nat) : Int)) == 2) = false by decide, no5]; exact no _
             | true =>
               cases hv : hxB z with
               | false => rw [tw_t hu, tw_f hv, show ((((0 + 1 : Nat) : Int)) == 2) = false by decide, no5]; exact no _
               | true =>
                 rw [tw_t hu, tw_t hv, tw_nil, show ((((0 + 1 + 1 : Nat) : Int)) == 2) = true by decide, roadref2_meant.j5_eq, if_pos rfl, mkB_size, if_pos ⟨by omega, by omega, by omega⟩, ex, pu_val hu hv, Option.bind_some]
                 have lu := hv_le hu
                 have lv := hv_le hv
                 have hb : (UInt8.ofNat (16 * hvN y + hvN z)).toNat = 16 * hvN y + hvN z := by simp; omega
                 generalize hw : UInt8.ofNat (16 * hvN y + hvN z) = w at hb
                 have eb : bytesOf ([IntKind.wrap .u8 ((16 * hvN y + hvN z : Nat) : Int)] : List Int) = mkB [w] := by
                   rw [← hb]
                   have : IntKind.wrap .u8 ((w.toNat : Nat) : Int) = ((w.toNat : Nat) : Int) := byte_all (p := fun w => IntKind.wrap .u8 ((w.toNat : Nat) : Int) = ((w.toNat : Nat) : Int)) (by decide +kernel) w
                   rw [this]
                   exact aI_bytes [w]
                 simp only
                 rw [eb, if_pos (sz1 _), mkB_app, f4]
                 have : p + 4 ≤ r.length := by simp at hql; omega
                 exact nxt 4 _ (by omega) this
           · rw [if_neg x120, no5]; exact no _
         · rw [if_neg q2, no5]; exact no _
       rw [M0]
       by_cases a1 : q.take 1 = [110]
       · have := two _ a1
         rw [decide_eq_true a1, if_pos rfl]
         have sz := sz1 10
         rw [if_pos (show ByteArray.size (mkB acc) + ByteArray.size (ByteArray.mk #[10]) ≤ 9223372036854775807 from sz)]
         have := nxt 2 10 (by omega) (by omega)
         rw [← mkB_app] at this
         exact this
       rw [decide_eq_false a1, if_neg (by decide)]
       by_cases a2 : q.take 1 = [34]
       · have := two _ a2
         rw [decide_eq_true a2, if_pos rfl, K1 _ a2]; exact nxt 2 _ (by omega) (by omega)
       rw [decide_eq_false a2, if_neg (by decide)]
       by_cases a3 : q.take 1 = [92]
       · have := two _ a3
         rw [decide_eq_true a3, K1 _ a3]; exact nxt 2 _ (by omega) (by omega)
       rw [decide_eq_false a3]; exact K0
     · have ex : ByteArray.extract (mkB r) (Int.toNat (p : Int)) (Int.toNat ((p + 1 : Nat) : Int)) = mkB [r[p]] := by
         rw [ext_in, drop_cons h]; rfl
       rw [if_neg (by omega), f1, sr, if_pos ⟨by omega, by omega, by omega⟩, ex, if_pos (sz1 _), mkB_app] at M0
       rw [M0]
       exact nxt 1 _ (by omega) (by omega)
   · exact stop p acc h
theorem tok_text {r : List UInt8} (hr : r.length ≤ 4000) {b : UInt8} {r' : List UInt8} (hrc : r = b :: r') (hb : b.toNat = 34) : ∃ u m, roadref2_token (mkB r) = some (T_roadref2_Tok.mk 5 u 0, m) ∧ (m = -1 ∨ ∃ j : Nat, 1 ≤ j ∧ j ≤ r.length ∧ m = (j : Int)) := by
 have h1 : 1 ≤ r.length := by rw [hrc, List.length_cons]; omega
 obtain ⟨u, m, e, h⟩ := meant_ok hr r.length 1 [] (by omega) h1 (by simp)
 refine ⟨u, m, ?_, h.imp id fun ⟨j, j1, j2⟩ => ⟨j, by omega, j2⟩⟩
 unfold roadref2_token
 have g0 : gb (mkB r) 0 = some ((b.toNat : Nat) : Int) := by rw [hrc, gb_0]
 rw [g0, Option.bind_some, if_pos (by omega)]
 unfold roadref2_meant
 have e' : roadref2_meant.l0 (mkB r) (ByteArray.mk #[]) 1 = some (u, m) := e
 rw [e', Option.bind_some]
noncomputable def okT (k : Int) (l : List UInt8) : Bool :=
 if k = 1 then lowS (mkB l) else if k = 2 then upS (mkB l) else if k = 3 then decide (mkB l ∈ WL) else if k = 4 then decide (l ≠ []) && decide (l.length ≤ 4000) && l.all dgB else if k = 6 then decide (sgn l = some l) else false
theorem ok1 (l : List UInt8) : okT 1 l = lowS (mkB l) := rfl
theorem ok2 (l : List UInt8) : okT 2 l = upS (mkB l) := rfl
theorem ok3 (l : List UInt8) : okT 3 l = decide (mkB l ∈ WL) := rfl
theorem ok4 (l : List UInt8) : okT 4 l = (decide (l ≠ []) && decide (l.length ≤ 4000) && l.all dgB) := rfl
theorem ok6 (l : List UInt8) : okT 6 l = decide (sgn l = some l) := rfl
theorem tw_full {p : UInt8 → Bool} : ∀ {r : List UInt8}, r.all p = true → tw p r = r.length
 | [], _ => rfl
 | b :: r, h => by
   rw [List.all_cons, Bool.and_eq_true] at h
   rw [tw_t h.1, tw_full h.2, List.length_cons]
theorem tw_back {p : UInt8 → Bool} : ∀ {r : List UInt8}, tw p r = r.length → r.all p = true
 | [], _ => rfl
 | b :: r, h => by
   cases c : p b with
   | true =>
     rw [tw_t c, List.length_cons] at h
     rw [List.all_cons, c, tw_back (by omega)]; rfl
   | false =>
     rw [tw_f c, List.length_cons] at h
     omega
theorem words_inn : (WL.all fun w => w.data.toList.all inn) = true := by kernel_rfl
theorem word_inn {l : List UInt8} (h : mkB l ∈ WL) : l.all inn = true := List.all_eq_true.1 words_inn _ h
theorem no_word : mkB [] ∉ WL := fun h => by
 have := List.all_eq_true.1 words_ok _ h
 rw [Bool.and_eq_true] at this
 exact absurd this.2 (by decide)
theorem nameB_parts {f : UInt8 → Bool} {l : List UInt8} (h : nameB f (mkB l) = true) : ∃ b r, l = b :: r ∧ r.length < 16 ∧ f b = true ∧ l.all inn = true := by
 cases l with
 | nil => cases h
 | cons b r =>
   have e : nameB f (mkB (b :: r)) = (decide (r.length < 16) && f b && (b :: r).all inn) := rfl
   rw [e, Bool.and_eq_true, Bool.and_eq_true, decide_eq_true_iff] at h
   exact ⟨b, r, rfl, h.1.1, h.1.2, h.2⟩
theorem sgn_nil : sgn [] = none := by decide
theorem sgn_first {b : UInt8} {r x : List UInt8} (h : sgn (b :: r) = some x) : b ∈ sg1 := by
 rw [sgn_val] at h
 split at h
 · rename_i e
   have : b = 61 := by
     cases r with
     | nil => cases e
     | cons c r => exact (List.cons.inj e).1
   rw [this]; decide
 · split at h
   · rename_i e
     have : b = 45 := by
       cases r with
       | nil => cases e
       | cons c r => exact (List.cons.inj e).1
     rw [this]; decide
   · split at h
     · assumption
     · cases h
theorem sg_facts {b : UInt8} (h : b ∈ sg1) : loB b = false ∧ upB b = false ∧ dgB b = false ∧ spB b = false ∧ ¬ b.toNat = 35 ∧ ¬ b.toNat = 34 :=
 byte_all (p := fun b => b ∈ sg1 → loB b = false ∧ upB b = false ∧ dgB b = false ∧ spB b = false ∧ ¬ b.toNat = 35 ∧ ¬ b.toNat = 34) (by decide +kernel) b h
theorem let_facts {b : UInt8} (h : loB b = true ∨ upB b = true ∨ dgB b = true) : spB b = false ∧ ¬ b.toNat = 35 ∧ ¬ b.toNat = 34 ∧ b ∉ sg1 :=
 byte_all (p := fun b => (loB b = true ∨ upB b = true ∨ dgB b = true) → spB b = false ∧ ¬ b.toNat = 35 ∧ ¬ b.toNat = 34 ∧ b ∉ sg1) (by decide +kernel) b h
theorem okT_kind {k : Int} {l : List UInt8} (h : okT k l = true) : ∃ b r, l = b :: r ∧ ((k = 1 ∧ lowS (mkB l) = true ∧ loB b = true ∧ l.all inn = true ∧ r.length < 16) ∨ (k = 2 ∧ upS (mkB l) = true ∧ upB b = true ∧ l.all inn = true ∧ r.length < 16) ∨ (k = 3 ∧ mkB l ∈ WL ∧ loB b = true ∧ l.all inn = true ∧ r.length < 16) ∨ (k = 4 ∧ dgB b = true ∧ l.all dgB = true ∧ l.length ≤ 4000) ∨ (k = 6 ∧ sgn l = some l ∧ b ∈ sg1)) := by
 unfold okT at h
 split at h
 · rename_i e
   have h' := h
   unfold lowS at h'
   rw [Bool.and_eq_true] at h'
   obtain ⟨b, r, e1, e2, e3, e4⟩ := nameB_parts h'.1
   exact ⟨b, r, e1, .inl ⟨e, h, e3, e4, e2⟩⟩
 split at h
 · rename_i e
   obtain ⟨b, r, e1, e2, e3, e4⟩ := nameB_parts h
   exact ⟨b, r, e1, .inr (.inl ⟨e, h, e3, e4, e2⟩)⟩
 split at h
 · rename_i e
   have hw := of_decide_eq_true h
   cases l with
   | nil => exact absurd hw no_word
   | cons b r =>
     have := word_low hw
     exact ⟨b, r, rfl, .inr (.inr (.inl ⟨e, hw, this.2, word_inn hw, this.1⟩))⟩
 split at h
 · rename_i e
   rw [Bool.and_eq_true, Bool.and_eq_true, decide_eq_true_iff, decide_eq_true_iff] at h
   cases l with
   | nil => exact absurd rfl h.1.1
   | cons b r =>
     have := h.2
     rw [List.all_cons, Bool.and_eq_true] at this
     exact ⟨b, r, rfl, .inr (.inr (.inr (.inl ⟨e, this.1, h.2, h.1.2⟩)))⟩
 split at h
 · rename_i e
   have hs := of_decide_eq_true h
   cases l with
   | nil => rw [sgn_nil] at hs; cases hs
   | cons b r => exact ⟨b, r, rfl, .inr (.inr (.inr (.inr ⟨e, hs, sgn_first hs⟩)))⟩
 · cases h
theorem okT_first {k : Int} {l : List UInt8} (h : okT k l = true) : ∃ b r, l = b :: r ∧ spB b = false ∧ ¬ b.toNat = 35 ∧ ¬ b.toNat = 34 := by
 obtain ⟨b, r, e, hk⟩ := okT_kind h
 refine ⟨b, r, e, ?_⟩
 rcases hk with ⟨_, _, f, _⟩ | ⟨_, _, f, _⟩ | ⟨_, _, f, _⟩ | ⟨_, f, _⟩ | ⟨_, _, f⟩
 · have := let_facts (.inl f); exact ⟨this.1, this.2.1, this.2.2.1⟩
 · have := let_facts (.inr (.inl f)); exact ⟨this.1, this.2.1, this.2.2.1⟩
 · have := let_facts (.inl f); exact ⟨this.1, this.2.1, this.2.2.1⟩
 · have := let_facts (.inr (.inr f)); exact ⟨this.1, this.2.1, this.2.2.1⟩
 · have := sg_facts f; exact ⟨this.2.2.2.1, this.2.2.2.2.1, this.2.2.2.2.2⟩
theorem okT_len {k : Int} {l : List UInt8} (h : okT k l = true) : l.length ≤ 4000 := by
 obtain ⟨b, r, e, hk⟩ := okT_kind h
 rcases hk with ⟨_, _, _, _, f⟩ | ⟨_, _, _, _, f⟩ | ⟨_, _, _, _, f⟩ | ⟨_, _, _, f⟩ | ⟨_, f, _⟩
 · rw [e, List.length_cons]; omega
 · rw [e, List.length_cons]; omega
 · rw [e, List.length_cons]; omega
 · exact f
 · have h2 := List.mem_of_find?_eq_some f
   have : (SG.all fun x => decide (x.length ≤ 4000)) = true := by decide
   exact of_decide_eq_true (List.all_eq_true.1 this l h2)
theorem take_full {r : List UInt8} {n : Nat} (h : n = r.length) : r.take n = r := by rw [h, List.take_length]
theorem tokAt {r : List UInt8} (hr : r.length ≤ 4000) {b : UInt8} {r' : List UInt8} (hrc : r = b :: r') (hs : spB b = false) (h35 : ¬ b.toNat = 35) : ∃ T m, roadref2_token (mkB r) = some (T, m) ∧ (m = -1 ∨ ∃ j : Nat, 1 ≤ j ∧ j ≤ r.length ∧ m = (j : Int) ∧ (T.Kind = 5 ∨ T.Text = mkB (r.take j))) ∧ ∀ k : Int, k ≠ 5 → ((m = (r.length : Int) ∧ T.Kind = k) ↔ okT k r = true) := by
 have hlen : 1 ≤ r.length := by rw [hrc, List.length_cons]; omega
 by_cases hn : loB b = true ∨ upB b = true
 · obtain ⟨n1, e⟩ := tok_name hr hrc hn
   have nle := tw_le inn r
   obtain ⟨l1, l2, l3, l4, l5⟩ := low_facts hn
   have nsg : b ∉ sg1 := (let_facts (b := b) (by rcases hn with h | h; exact .inl h; exact .inr (.inl h))).2.2.2
   -- the other way about
   have back : ∀ k, okT k r = true → tw inn r = r.length ∧ ((k = 1 ∧ lowS (mkB r) = true ∧ mkB r ∉ WL) ∨ (k = 2 ∧ upS (mkB r) = true ∧ mkB r ∉ WL ∧ ¬ lowS (mkB r) = true) ∨ (k = 3 ∧ mkB r ∈ WL)) := fun k h => by
     obtain ⟨b', r'', e', hk⟩ := okT_kind h
     have eb : b' = b := by rw [hrc] at e'; exact (List.cons.inj e').1.symm
     subst eb
     rcases hk with ⟨k1, f, f2, f3, _⟩ | ⟨k1, f, f2, f3, _⟩ | ⟨k1, f, f2, f3, _⟩ | ⟨_, f, _⟩ | ⟨_, _, f⟩
     · refine ⟨tw_full f3, .inl ⟨k1, f, fun w => ?_⟩⟩
       unfold lowS at f
       rw [decide_eq_true w] at f
       simp at f
     · refine ⟨tw_full f3, .inr (.inl ⟨k1, f, fun w => ?_, fun w => ?_⟩)⟩
       · have := (word_low (hrc ▸ w)).2
         rw [l5 this] at f2; cases f2
       · unfold lowS at w
         rw [Bool.and_eq_true] at w
         obtain ⟨c, _, e2, _, e3, _⟩ := nameB_parts w.1
         have : c = b' := by rw [hrc] at e2; exact (List.cons.inj e2).1.symm
         subst this
         rw [l5 e3] at f2; cases f2
     · exact ⟨tw_full f3, .inr (.inr ⟨k1, f⟩)⟩
     · rw [f] at l2; cases l2
     · exact absurd f nsg
   generalize hnn : tw inn r = n at e n1 nle back
   have whole : ∀ {T : Rk} {m : Int} {c : Int}, T.Kind = c → m = (n : Int) → (n = r.length → okT c r = true) → ∀ k, ((m = (r.length : Int) ∧ T.Kind = k) → okT k r = true) := fun hT hm h k hk => by
     rw [← hk.2, hT]; exact h (by have := hk.1; omega)
   by_cases w : mkB (r.take n) ∈ WL
   · rw [if_pos w] at e
     refine ⟨_, _, e, .inr ⟨n, n1, nle, rfl, .inr rfl⟩, fun k hk5 => ⟨whole rfl rfl (fun h => by rw [take_full h] at w; rw [ok3, decide_eq_true w]) k, fun h => ?_⟩⟩
     obtain ⟨h1, h2⟩ := back k h
     rw [take_full h1] at w
     refine ⟨by rw [h1], ?_⟩
     rcases h2 with ⟨_, _, x⟩ | ⟨_, _, x, _⟩ | ⟨x, _⟩
     · exact absurd w x
     · exact absurd w x
     · exact x.symm
   rw [if_neg w] at e
   by_cases w1 : lowS (mkB (r.take n)) = true
   · rw [if_pos w1] at e
     refine ⟨_, _, e, .inr ⟨n, n1, nle, rfl, .inr rfl⟩, fun k hk5 => ⟨whole rfl rfl (fun h => by rw [take_full h] at w1; rw [ok1, w1]) k, fun h => ?_⟩⟩
     obtain ⟨h1, h2⟩ := back k h
     rw [take_full h1] at w w1
     refine ⟨by rw [h1], ?_⟩
     rcases h2 with ⟨x, _⟩ | ⟨_, _, _, x⟩ | ⟨_, x⟩
     · exact x.symm
     · exact absurd w1 x
     · exact absurd x w
   rw [if_neg w1] at e
   by_cases w2 : upS (mkB (r.take n)) = true
   · rw [if_pos w2] at e
     refine ⟨_, _, e, .inr ⟨n, n1, nle, rfl, .inr rfl⟩, fun k hk5 => ⟨whole rfl rfl (fun h => by rw [take_full h] at w2; rw [ok2, w2]) k, fun h => ?_⟩⟩
     obtain ⟨h1, h2⟩ := back k h
     rw [take_full h1] at w w1
     refine ⟨by rw [h1], ?_⟩
     rcases h2 with ⟨_, x, _⟩ | ⟨x, _⟩ | ⟨_, x⟩
     · exact absurd x w1
     · exact x.symm
     · exact absurd x w
   rw [if_neg w2] at e
   refine ⟨_, _, e, .inl rfl, fun k hk5 => ⟨fun h => by omega, fun h => ?_⟩⟩
   obtain ⟨h1, h2⟩ := back k h
   rw [take_full h1] at w w1 w2
   rcases h2 with ⟨_, x, _⟩ | ⟨_, x, _⟩ | ⟨_, x⟩
   · exact absurd x w1
   · exact absurd x w2
   · exact absurd x w
 have nlo : loB b = false := by cases h : loB b with | true => exact absurd (.inl h) hn | false => rfl
 have nup : upB b = false := by cases h : upB b with | true => exact absurd (.inr h) hn | false => rfl
 cases nd : dgB b with
 | true =>
   obtain ⟨n1, e⟩ := tok_num hr hrc nd
   have nle := tw_le dgB r
   have back : ∀ k, okT k r = true → k = 4 ∧ r.all dgB = true := fun k h => by
     obtain ⟨b', r'', e', hk⟩ := okT_kind h
     have eb : b' = b := by rw [hrc] at e'; exact (List.cons.inj e').1.symm
     subst eb
     rcases hk with ⟨_, _, f, _⟩ | ⟨_, _, f, _⟩ | ⟨_, _, f, _⟩ | ⟨k1, _, f, _⟩ | ⟨_, _, f⟩
     · rw [nlo] at f; cases f
     · rw [nup] at f; cases f
     · rw [nlo] at f; cases f
     · exact ⟨k1, f⟩
     · exact absurd f (let_facts (.inr (.inr nd))).2.2.2
   by_cases c : tw inn (r.drop (tw dgB r)) > 0
   · rw [if_pos c] at e
     refine ⟨_, _, e, .inl rfl, fun k hk5 => ⟨fun h => by omega, fun h => ?_⟩⟩
     have := tw_full (back k h).2
     rw [this, List.drop_length, tw_nil] at c
     omega
   · rw [if_neg c] at e
     refine ⟨_, _, e, .inr ⟨_, n1, nle, rfl, .inr rfl⟩, fun k hk5 => ⟨fun h => ?_, fun h => ?_⟩⟩
     · rw [← h.2]
       show okT 4 r = true
       have : tw dgB r = r.length := by have := h.1; omega
       rw [ok4, tw_back this, decide_eq_true (show r ≠ [] by rw [hrc]; simp), decide_eq_true hr]; rfl
     · obtain ⟨k1, f⟩ := back k h
       exact ⟨by rw [tw_full f], k1.symm⟩
 | false =>
   by_cases h34 : b.toNat = 34
   · obtain ⟨u, m, e, hm⟩ := tok_text hr hrc h34
     refine ⟨_, _, e, hm.imp id fun ⟨j, j1, j2, j3⟩ => ⟨j, j1, j2, j3, .inl rfl⟩, fun k hk5 => ⟨fun h => absurd h.2.symm hk5, fun h => ?_⟩⟩
     obtain ⟨b', r'', e', _, _, f⟩ := okT_first h
     have eb : b' = b := by rw [hrc] at e'; exact (List.cons.inj e').1.symm
     rw [eb] at f
     exact absurd h34 f
   · have e := tok_sign hr hrc nlo nup nd h34
     rw [tok_j0 hr] at e
     have back : ∀ k, okT k r = true → k = 6 ∧ sgn r = some r := fun k h => by
       obtain ⟨b', r'', e', hk⟩ := okT_kind h
       have eb : b' = b := by rw [hrc] at e'; exact (List.cons.inj e').1.symm
       subst eb
       rcases hk with ⟨_, _, f, _⟩ | ⟨_, _, f, _⟩ | ⟨_, _, f, _⟩ | ⟨_, f, _⟩ | ⟨k1, f, _⟩
       · rw [nlo] at f; cases f
       · rw [nup] at f; cases f
       · rw [nlo] at f; cases f
       · rw [nd] at f; cases f
       · exact ⟨k1, f⟩
     cases hg : sgn r with
     | none =>
       rw [hg] at e
       exact ⟨_, _, e, .inl rfl, fun k hk5 => ⟨fun h => by have := h.1; omega, fun h => by have := (back k h).2; rw [hg] at this; cases this⟩⟩
     | some x =>
       rw [hg] at e
       have hx := sgn_len (l := r) (by omega) hg
       have hp := List.find?_some hg
       have hp' : r.take x.length = x := of_decide_eq_true hp
       refine ⟨_, _, e, .inr ⟨x.length, hx.1, hx.2, rfl, .inr (by rw [hp'])⟩, fun k hk5 => ⟨fun h => ?_, fun h => ?_⟩⟩
       · rw [← h.2]
         show okT 6 r = true
         have : x.length = r.length := by have := h.1; omega
         rw [this, List.take_length] at hp'
         rw [ok6, hg, hp', decide_eq_true rfl]
       · obtain ⟨k1, f⟩ := back k h
         rw [hg] at f
         have := Option.some.inj f
         exact ⟨by rw [this], k1.symm⟩
section
variable {l : List UInt8} (hl : l.length ≤ 4000)
include hl
theorem skipR (a : List Rk) : ∀ (d i : Nat), l.length - i ≤ d → i ≤ l.length → ∃ k, i ≤ k ∧ k ≤ l.length ∧ roadref2_Tokens.l0 (mkB l) a (i : Int) = roadref2_Tokens.l0 (mkB l) a (k : Int) ∧ ∀ h : k < l.length, spB l[k] = false ∧ ¬ l[k].toNat = 35 := by
 intro d
 induction d with
 | zero =>
   intro i hd hi
   exact ⟨i, by omega, by omega, rfl, fun h => by omega⟩
 | succ d ih =>
   intro i hd hi
   by_cases h : i < l.length
   · cases hs : spB l[i] with
     | true =>
       obtain ⟨k, k1, k2, k4, k5⟩ := ih (i + 1) (by omega) h
       exact ⟨k, by omega, k2, by rw [tk_blank1 hl h hs, k4], k5⟩
     | false =>
       by_cases c : l[i].toNat = 35
       · have hw := tw_le nlB (l.drop i)
         rw [List.length_drop] at hw
         have hp : 1 ≤ tw nlB (l.drop i) := by rw [drop_cons h, tw_t (nl_f (by omega))]; omega
         obtain ⟨k, k1, k2, k4, k5⟩ := ih (i + tw nlB (l.drop i)) (by omega) (by omega)
         exact ⟨k, by omega, k2, by rw [tk_note hl h hs c, k4], k5⟩
       · exact ⟨i, by omega, by omega, rfl, fun _ => ⟨hs, c⟩⟩
   · exact ⟨i, by omega, by omega, rfl, fun h' => absurd h' h⟩
theorem tokens_end (a : List Rk) : roadref2_Tokens.l0 (mkB l) a ((l.length : Nat) : Int) = some (a, 0, 0) := by
 have sl : (mkB l).size = l.length := rfl
 rw [roadref2_Tokens.l0_eq, sl, if_neg (by omega)]
theorem tokens_one {k : Nat} (h : k < l.length) (p1 : spB l[k] = false) (p2 : ¬ l[k].toNat = 35) {T : Rk} {m : Int} (ht : roadref2_token (mkB (l.drop k)) = some (T, m)) (a : List Rk) (ha : a.length ≤ 5000) (hm : m = -1 ∨ ∃ j : Nat, 1 ≤ j ∧ k + j ≤ l.length ∧ m = (j : Int)) : roadref2_Tokens.l0 (mkB l) a (k : Int) = if m < 0 then some ([], (k : Int), 10) else roadref2_Tokens.l0 (mkB l) (a ++ [{ T with At := (k : Int) }]) ((k : Int) + m) := by
 have sl : (mkB l).size = l.length := rfl
 have er : ByteArray.extract (mkB l) (Int.toNat (k : Int)) (Int.toNat ((l.length : Nat) : Int)) = mkB (l.drop k) := ext_to l k
 rw [roadref2_Tokens.l0_eq, sl, if_pos (by omega), if_pos ⟨by omega, by omega, by omega⟩, er, run_val sp_has (by rw [List.length_drop]; omega), Option.bind_some, drop_cons h, tw_f p1, if_neg (by decide), gb_at h, Option.bind_some, if_neg (by omega), if_pos ⟨by omega, by omega, by omega⟩, ← drop_cons h, ht, Option.bind_some]
 show (if m < 0 then _ else _) = _
 by_cases c : m < 0
 · rw [if_pos c, if_pos c]
 · obtain ⟨j, j1, j2, rfl⟩ := hm.resolve_left (by omega)
   rw [if_neg c, if_neg c, ap_one (by omega), Option.bind_some, wrap_in (by omega) (by omega)]
theorem tokens_all : ∀ (d i : Nat) (a : List Rk), l.length - i ≤ d → i ≤ l.length → a.length ≤ i + 5 → ∃ b p e, roadref2_Tokens.l0 (mkB l) a (i : Int) = some (b, p, e) ∧ (e = 0 → a.length ≤ b.length) := by
 intro d
 induction d with
 | zero =>
   intro i a hd hi ha
   obtain rfl : i = l.length := by omega
   exact ⟨a, 0, 0, tokens_end hl a, fun _ => Nat.le_refl _⟩
 | succ d ih =>
   intro i a hd hi ha
   obtain ⟨k, k1, k2, k3, k4⟩ := skipR hl a l.length i (by omega) hi
   rw [k3]
   by_cases h : k < l.length
   · obtain ⟨p1, p2⟩ := k4 h
     have hdl : (l.drop k).length = l.length - k := List.length_drop
     obtain ⟨T, m, t1, t2, _⟩ := tokAt (r := l.drop k) (by omega) (drop_cons h) p1 p2
     have hm : m = -1 ∨ ∃ j : Nat, 1 ≤ j ∧ k + j ≤ l.length ∧ m = (j : Int) := t2.imp id fun ⟨j, j1, j2, j3, _⟩ => ⟨j, j1, by omega, j3⟩
     rw [tokens_one hl h p1 p2 t1 a (by omega) hm]
     rcases hm with rfl | ⟨j, j1, j2, rfl⟩
     · rw [if_pos (by decide)]; exact ⟨_, _, _, rfl, fun e => by cases e⟩
     · rw [if_neg (by omega), show (k : Int) + (j : Int) = ((k + j : Nat) : Int) by omega]
       obtain ⟨b, p, e, e1, e2⟩ := ih (k + j) (a ++ [{ T with At := (k : Int) }]) (by omega) j2 (by rw [List.length_append, List.length_singleton]; omega)
       exact ⟨b, p, e, e1, fun h0 => by have := e2 h0; rw [List.length_append] at this; omega⟩
   · obtain rfl : k = l.length := by omega
     exact ⟨a, 0, 0, tokens_end hl a, fun _ => Nat.le_refl _⟩
def One (k : Int) (l : List UInt8) (b : List Rk) (e : Int) : Prop := e = 0 ∧ ∃ T : Rk, b = [T] ∧ T.Kind = k ∧ T.Text = mkB l
theorem tokens_cond : ∃ b p e, roadref2_Tokens (mkB l) = some (b, p, e) ∧ ∀ k : Int, k ≠ 5 → (One k l b e ↔ okT k l = true) := by
 have sl : (mkB l).size = l.length := rfl
 have e0 : roadref2_Tokens (mkB l) = roadref2_Tokens.l0 (mkB l) [] ((0 : Nat) : Int) := by
   unfold roadref2_Tokens
   rw [sl, if_neg (by omega)]; rfl
 have hk0 : ∃ k, k ≤ l.length ∧ roadref2_Tokens.l0 (mkB l) [] ((0 : Nat) : Int) = roadref2_Tokens.l0 (mkB l) [] (k : Int) ∧ (∀ h : k < l.length, spB l[k] = false ∧ ¬ l[k].toNat = 35) ∧ (∀ h : 0 < l.length, spB l[0] = false ∧ ¬ l[0].toNat = 35 → k = 0) := by
   by_cases c : ∃ h : 0 < l.length, spB l[0] = false ∧ ¬ l[0].toNat = 35
   · obtain ⟨h, h1⟩ := c
     exact ⟨0, by omega, rfl, fun _ => h1, fun _ _ => rfl⟩
   · obtain ⟨k, k1, k2, k3, k4⟩ := skipR hl ([] : List Rk) l.length 0 (by omega) (by omega)
     exact ⟨k, k2, k3, k4, fun h h1 => absurd ⟨h, h1⟩ c⟩
 obtain ⟨k0, a1, a2, a3, a4⟩ := hk0
 rw [e0, a2]
 by_cases h : k0 < l.length
 · obtain ⟨p1, p2⟩ := a3 h
   have hdl : (l.drop k0).length = l.length - k0 := List.length_drop
   obtain ⟨T, m, t1, t2, t3⟩ := tokAt (r := l.drop k0) (by omega) (drop_cons h) p1 p2
   have hm : m = -1 ∨ ∃ j : Nat, 1 ≤ j ∧ k0 + j ≤ l.length ∧ m = (j : Int) := t2.imp id fun ⟨j, j1, j2, j3, _⟩ => ⟨j, j1, by omega, j3⟩
   -- what can be shown begins at once
   have ok0 : ∀ k, okT k l = true → k0 = 0 := fun k hk => by
     obtain ⟨b, r, e, f1, f2, _⟩ := okT_first hk
     have hpos : 0 < l.length := by omega
     have e1 : l[0] = b := by simp [e]
     exact a4 hpos (by rw [e1]; exact ⟨f1, f2⟩)
   rw [tokens_one hl h p1 p2 t1 [] (by simp) hm]
   rcases hm with hneg | ⟨j, j1, j2, hj⟩
   · rw [if_pos (by omega)]
     refine ⟨_, _, _, rfl, fun k hk5 => ⟨fun o => (by cases o.1), fun hk => ?_⟩⟩
     have z := ok0 k hk
     subst z
     rw [List.drop_zero] at t3
     have := (t3 k hk5).2 hk
     omega
   · rw [if_neg (by omega), hj, show (k0 : Int) + (j : Int) = ((k0 + j : Nat) : Int) by omega, List.nil_append]
     have text : T.Kind ≠ 5 → T.Text = mkB ((l.drop k0).take j) := fun h5 => by
       rcases t2 with c | ⟨j', _, _, e', c⟩
       · omega
       · have : j' = j := by omega
         subst this
         exact c.resolve_left h5
     obtain ⟨k1, b1, b2, b3, b4⟩ := skipR hl [{ T with At := (k0 : Int) }] l.length (k0 + j) (by omega) j2
     rw [b3]
     by_cases h1 : k1 < l.length
     · -- another one follows
       obtain ⟨q1, q2⟩ := b4 h1
       have hdl1 : (l.drop k1).length = l.length - k1 := List.length_drop
       obtain ⟨T2, m2, s1, s2, _⟩ := tokAt (r := l.drop k1) (by omega) (drop_cons h1) q1 q2
       have hm2 : m2 = -1 ∨ ∃ j : Nat, 1 ≤ j ∧ k1 + j ≤ l.length ∧ m2 = (j : Int) := s2.imp id fun ⟨j, j1, j2, j3, _⟩ => ⟨j, j1, by omega, j3⟩
       rw [tokens_one hl h1 q1 q2 s1 _ (by simp) hm2]
       have no : ∀ k, k ≠ 5 → okT k l = true → False := fun k hk5 hk => by
         have z := ok0 k hk
         subst z
         rw [List.drop_zero] at t3
         have := (t3 k hk5).2 hk
         omega
       rcases hm2 with rfl | ⟨j3, c1, c2, rfl⟩
       · rw [if_pos (by decide)]
         exact ⟨_, _, _, rfl, fun k hk5 => ⟨fun o => (by cases o.1), fun hk => (no k hk5 hk).elim⟩⟩
       · rw [if_neg (by omega), show (k1 : Int) + (j3 : Int) = ((k1 + j3 : Nat) : Int) by omega]
         obtain ⟨b, p, e, e1, e2⟩ := tokens_all hl l.length (k1 + j3) ([{ T with At := (k0 : Int) }] ++ [{ T2 with At := (k1 : Int) }]) (by omega) c2 (by simp)
         refine ⟨b, p, e, e1, fun k hk5 => ⟨fun o => ?_, fun hk => (no k hk5 hk).elim⟩⟩
         obtain ⟨o1, T', o2, _⟩ := o
         have := e2 o1
         rw [o2] at this
         simp at this
     · obtain rfl : k1 = l.length := by omega
       rw [tokens_end hl]
       refine ⟨_, _, _, rfl, fun k hk5 => ⟨fun o => ?_, fun hk => ?_⟩⟩
       · obtain ⟨_, T', o2, o3, o4⟩ := o
         obtain rfl := (List.cons.inj o2).1
         have k5 : T.Kind ≠ 5 := fun e5 => hk5 (o3.symm.trans e5)
         have tx := text k5
         have o4' : T.Text = mkB l := o4
         have el := mkB_inj (tx.symm.trans o4')
         have ell := congrArg List.length el
         rw [List.length_take, hdl] at ell
         have z : k0 = 0 := by omega
         subst z
         rw [List.drop_zero] at t3
         exact (t3 k hk5).1 ⟨by omega, o3⟩
       · have z := ok0 k hk
         subst z
         rw [List.drop_zero] at t3
         have t4 := (t3 k hk5).2 hk
         refine ⟨rfl, _, rfl, t4.2, ?_⟩
         show T.Text = mkB l
         rw [text (fun e5 => hk5 (t4.2.symm.trans e5)), List.drop_zero, take_full (by omega)]
 · obtain rfl : k0 = l.length := by omega
   rw [tokens_end hl]
   refine ⟨_, _, _, rfl, fun k hk5 => ⟨fun o => (by obtain ⟨_, T, o2, _⟩ := o; cases o2), fun hk => ?_⟩⟩
   obtain ⟨b, r, e, f1, f2, _⟩ := okT_first hk
   have hpos : 0 < l.length := by rw [e, List.length_cons]; omega
   have e1 : l[0] = b := by simp [e]
   have := a4 hpos (by rw [e1]; exact ⟨f1, f2⟩)
   omega
end
theorem show_l0 {l : List UInt8} (hl : l.length ≤ 2000000) {y : T_token_Token} : ∀ (d i : Nat) (b : Bool), l.length - i = d → i ≤ l.length → token_Show.l0 y b (aI l) (l.length : Int) (i : Int) = some (if (b && (l.drop i).all dgB) = true then (y.Text, 0) else (mkB [], 3)) := by
 intro d
 induction d with
 | zero =>
   intro i b hd hi
   obtain rfl : i = l.length := by omega
   rw [token_Show.l0_eq, if_neg (by omega), List.drop_length]
   cases b <;> rfl
 | succ d ih =>
   intro i b hd hi
   have h : i < l.length := by omega
   have hm : i < (aI l).length := by unfold aI; rw [List.length_map]; exact h
   have hg : (aI l)[i] = ((l[i].toNat : Nat) : Int) := List.getElem_map _
   rw [token_Show.l0_eq, if_pos (by omega), gi_at hm, Option.bind_some, hg, w_succ (by omega), drop_cons h, List.all_cons]
   cases b
   · rw [if_neg (by decide), ih (i + 1) false (by omega) h, Bool.false_and, Bool.false_and]
   · rw [if_pos rfl, digit_val, Option.bind_some, ih (i + 1) _ (by omega) h, Bool.true_and]
theorem show_val {t : T_token_Token} {l : List UInt8} (ht : t.Text = mkB l) (hl : l.length ≤ 2000000) (h5 : t.Kind ≠ 5) : token_Show t = some (if okT t.Kind l = true then (t.Text, 0) else (mkB [], 3)) := by
 unfold token_Show okT
 rw [ht]
 by_cases k1 : t.Kind = 1
 · rw [if_pos k1, if_pos k1, isLow_val, Option.bind_some]; cases lowS (mkB l) <;> rfl
 rw [if_neg k1, if_neg k1]
 by_cases k2 : t.Kind = 2
 · rw [if_pos k2, if_pos k2, isUp_val, Option.bind_some]; cases upS (mkB l) <;> rfl
 rw [if_neg k2, if_neg k2]
 by_cases k3 : t.Kind = 3
 · rw [if_pos k3, if_pos k3, isWord_val, Option.bind_some]; cases decide (mkB l ∈ WL) <;> rfl
 rw [if_neg k3, if_neg k3]
 by_cases k4 : t.Kind = 4
 · rw [if_pos k4, if_pos k4]
   have J : ∀ b, token_Show.j0 t b = some (if (b && l.all dgB) = true then (mkB l, 0) else (mkB [], 3)) := fun b => by
     unfold token_Show.j0
     rw [ht]
     have e : ((bytesI (mkB l)).length : Int) = (l.length : Int) := by rw [bytesI_len]; rfl
     rw [e]
     have := show_l0 hl (y := t) l.length 0 b (by omega) (by omega)
     rw [List.drop_zero, ht] at this
     exact this
   by_cases z : l = []
   · rw [if_pos (show mkB l = ByteArray.mk #[] by rw [z]; rfl), J, decide_eq_false (show ¬ l ≠ [] from fun h => h z)]; rfl
   · rw [if_neg (show ¬ mkB l = ByteArray.mk #[] from fun e => z (mkB_inj (b := []) e)), J, decide_eq_true (show l ≠ [] from z), mkB_size, Bool.true_and]
     have : decide ((l.length : Int) ≤ 4000) = decide (l.length ≤ 4000) := by rw [decide_eq_decide]; omega
     rw [this]
 rw [if_neg k4, if_neg k4, if_neg h5]
 by_cases k6 : t.Kind = 6
 · rw [if_pos k6, if_pos k6]
   unfold token_Show.j1
   rw [ht]
   by_cases z : l = []
   · subst z
     rw [if_pos (show mkB [] = ByteArray.mk #[] from rfl), if_neg (by decide), decide_eq_false (by rw [sgn_nil]; simp)]; rfl
   · have hpos : 0 < l.length := List.length_pos_iff.2 z
     rw [if_neg (show ¬ mkB l = ByteArray.mk #[] from fun e => z (mkB_inj (b := []) e))]
     have sv := sign_val (l := l) (by omega) (i := 0) hpos
     have sv' : token_sign (mkB l) 0 = some (match sgn l with | some x => mkB x | none => mkB []) := by rw [List.drop_zero] at sv; exact sv
     rw [sv', Option.bind_some]
     have : decide ((match sgn l with | some x => mkB x | none => mkB []) = mkB l) = decide (sgn l = some l) := by
       rw [decide_eq_decide]
       cases sgn l with
       | none => exact ⟨fun e => absurd (mkB_inj e).symm z, fun e => by cases e⟩
       | some x => exact ⟨fun e => by rw [mkB_inj e], fun e => by rw [Option.some.inj e]⟩
     rw [this]
     cases decide (sgn l = some l) <;> rfl
 · rw [if_neg k6, if_neg k6]; rfl
theorem tokens_big {l : List UInt8} (h : 4000 < l.length) : roadref2_Tokens (mkB l) = some ([], 0, 2) := by
 unfold roadref2_Tokens
 rw [mkB_size, if_pos (by omega)]
theorem cond_all (l : List UInt8) : ∃ b p e, roadref2_Tokens (mkB l) = some (b, p, e) ∧ ∀ k : Int, k ≠ 5 → (One k l b e ↔ okT k l = true) := by
 by_cases h : l.length ≤ 4000
 · exact tokens_cond h
 · exact ⟨_, _, _, tokens_big (by omega), fun k _ => ⟨fun o => (by cases o.1), fun hk => absurd (okT_len hk) h⟩⟩
theorem TokenShows (t : T_token_Token) (q : t.Q) (hb : t.bulk ≤ 1048576) : roadlaw2_TokenShows t = some true := by
 obtain ⟨l, ht⟩ : ∃ l, t.Text = mkB l := ⟨_, mkB_of _⟩
 have hl : l.length ≤ 2000000 := by
   have : t.bulk = _ := rfl
   unfold T_token_Token.bulk at hb
   have e : t.Text.size = l.length := by rw [ht]; rfl
   omega
 unfold roadlaw2_TokenShows
 have hq := quote_val l
 -- the last comparison
 have fin : ∀ x4 x6 : Int, ∀ s3 s5, token_Show t = some (s3, x4) → token_Quote t.Text = some (s5, x6) → roadlaw2_TokenShows.j1 t s3 x4 s5 x6 = some true := fun x4 x6 s3 s5 h1 h2 => by
   unfold roadlaw2_TokenShows.j1
   by_cases k5 : t.Kind = 5
   · rw [if_pos k5]
     have : token_Show t = some (s5, x6) := by
       unfold token_Show
       rw [if_neg (by omega), if_neg (by omega), if_neg (by omega), if_neg (by omega), if_pos k5, h2, Option.bind_some]
     rw [h1] at this
     obtain ⟨e1, e2⟩ := Prod.mk.inj (Option.some.inj this)
     rw [if_pos e1, e2]
     simp
   · rw [if_neg k5, ht]
     obtain ⟨b, p, e, c1, c2⟩ := cond_all l
     rw [c1, Option.bind_some]
     have hs := show_val ht hl k5
     rw [h1] at hs
     have yes : okT t.Kind l = true → roadlaw2_TokenShows.j3 t s3 x4 true = some true := fun ho => by
       rw [if_pos ho] at hs
       obtain ⟨e1, e2⟩ := Prod.mk.inj (Option.some.inj hs)
       unfold roadlaw2_TokenShows.j3
       rw [if_pos rfl, e2, if_pos rfl, e1, decide_eq_true rfl]
     have no : ¬ okT t.Kind l = true → roadlaw2_TokenShows.j3 t s3 x4 false = some true := fun ho => by
       rw [if_neg ho] at hs
       obtain ⟨e1, e2⟩ := Prod.mk.inj (Option.some.inj hs)
       unfold roadlaw2_TokenShows.j3 roadlaw2_TokenShows.j2
       rw [if_neg (by decide), e2, if_pos rfl, e1]; rfl
     have hc := c2 t.Kind k5
     simp only
     by_cases e0 : e = 0
     · rw [if_pos e0]
       by_cases n1 : (b.length : Int) = 1
       · rw [if_pos n1]
         obtain ⟨T, rfl⟩ : ∃ T, b = [T] := by
           match b, n1 with
           | [T], _ => exact ⟨T, rfl⟩
           | [], h => simp at h
           | _ :: _ :: _, h => simp at h; omega
         have g : gi [T] 0 = some T := rfl
         rw [g, Option.bind_some]
         by_cases kk : T.Kind = t.Kind
         · rw [if_pos kk, Option.bind_some]
           by_cases tt : T.Text = mkB l
           · rw [decide_eq_true tt]
             exact yes (hc.1 ⟨e0, T, rfl, kk, tt⟩)
           · rw [decide_eq_false tt]
             exact no fun ho => by obtain ⟨_, T', o2, _, o4⟩ := hc.2 ho; rw [← (List.cons.inj o2).1] at o4; exact tt o4
         · rw [if_neg kk]
           exact no fun ho => by obtain ⟨_, T', o2, o3, _⟩ := hc.2 ho; rw [← (List.cons.inj o2).1] at o3; exact kk o3
       · rw [if_neg n1]
         exact no fun ho => by obtain ⟨_, T', o2, _⟩ := hc.2 ho; rw [o2] at n1; exact n1 rfl
     · rw [if_neg e0]
       exact no fun ho => e0 (hc.2 ho).1
 have hq' : token_Quote t.Text = some (if l.length ≤ 64 then (mkB (qt l), 0) else (mkB [], 2)) := by rw [ht]; exact hq
 obtain ⟨⟨s3, x4⟩, hs⟩ : ∃ y, token_Show t = some y := by
   by_cases k5 : t.Kind = 5
   · refine ⟨((if l.length ≤ 64 then (mkB (qt l), (0 : Int)) else (mkB [], 2)).1, (if l.length ≤ 64 then (mkB (qt l), (0 : Int)) else (mkB [], 2)).2), ?_⟩
     unfold token_Show
     rw [if_neg (by omega), if_neg (by omega), if_neg (by omega), if_neg (by omega), if_pos k5, hq', Option.bind_some]
   · exact ⟨_, show_val ht hl k5⟩
 have J0 : ∀ y12 : ByteArray × Int, token_Quote t.Text = some y12 → roadlaw2_TokenShows.j0 t s3 x4 y12.1 y12.2 (decide (((ByteArray.size t.Text : Nat) : Int) > 64)) = some true := fun y12 hy => by
   have f := fin x4 y12.2 s3 y12.1 hs hy
   rw [hq'] at hy
   have hsz : ((ByteArray.size t.Text : Nat) : Int) = (l.length : Int) := by rw [ht]; rfl
   unfold roadlaw2_TokenShows.j0
   rw [hsz]
   by_cases c : l.length ≤ 64
   · rw [if_pos c] at hy
     obtain rfl := Option.some.inj hy
     rw [decide_eq_false (show ¬ (l.length : Int) > 64 by omega)]
     dsimp only at f ⊢
     rw [if_pos (by decide), if_neg (by decide), if_neg (by decide), if_pos rfl, ht, quoted_val c, Option.bind_some, if_pos rfl]
     exact f
   · rw [if_neg c] at hy
     obtain rfl := Option.some.inj hy
     rw [decide_eq_true (show (l.length : Int) > 64 by omega)]
     dsimp only at f ⊢
     rw [if_pos (by decide), if_pos rfl, if_pos (show mkB [] = ByteArray.mk #[] from rfl), if_pos rfl]
     exact f
 rw [hs, Option.bind_some, hq', Option.bind_some, isWord_val, Option.bind_some, wordList_val, Option.bind_some, has_val _ (by rw [words_len]; omega), Option.bind_some, if_pos (by simp), isLow_val, Option.bind_some, small_val, Option.bind_some, if_pos (by simp), isUp_val, Option.bind_some, greatN_val, Option.bind_some, if_pos (by simp), words_val, Option.bind_some, if_pos (by rw [words_len]; rfl)]
 exact J0 _ hq'
end Go.Proofs.YtkbhpagogmmgnaaDoor.Fw

end
section
namespace Go.Proofs.YtkbhpagogmmgnaaDoor.tokenShows
open Go Go.Hw Go.ChangeShapes Go.WideShapes Go.ChangeAt Go.RowKit Go.Proofs.YtkbhpagogmmgnaaDoor.Fw
open Go.ChangeMaps (open_string shut_string)
set_option linter.unusedVariables false
theorem own : ownKnob Tryd.prog.godebug = none := by kernel_rfl
theorem laidOut : laidOutB Tryd.prog = true := by kernel_rfl
theorem bulkAll {H : Type} : ∀ l : List (DataW H), Rows.uptoBulkAll l = (l.map Rows.uptoBulk).sum
 | [] => rfl
 | d :: r => by rw [Rows.uptoBulkAll, List.map_cons, List.sum_cons, bulkAll r]
theorem measure {H : Type} : Measure (Rows.uptoBulk (H := H)) where
 pos d := by
   cases d with
   | lit l => cases l <;> simp [Rows.uptoBulk]
   | _ => simp [Rows.uptoBulk]
 str b := by simp [Rows.uptoBulk]
 slice e s := by rw [Rows.uptoBulk, bulkAll]; omega
 agg ps := by rw [Rows.uptoBulk, bulkAll]; omega
theorem tabEqS : (Rows.laid_strings_asciiSpace : DataW Unit) = Lib.tabData .u8 Lib.asciiSpaceTab := by kernel_rfl
theorem gTabS : Tryd.prog.globalNamed "strings.asciiSpace" = some 0 := by kernel_rfl
theorem gTabSType : (Tryd.prog.globals[0]?).map (·.type) = some 109 := by kernel_rfl
theorem tableS {W : World} (h : laidMetH Tryd.prog Rows.tokenShowsUptoRow.laid W) : Lib.TabIs Tryd.prog W "strings.asciiSpace" .u8 Lib.asciiSpaceTab :=
 Lib.tabIs_of_head (rest := [("unicode/utf8.first", Rows.laid_unicode_utf8_first)]) gTabS gTabSType (show Tryd.prog.underlying 109 = some (.array 256 5) by kernel_rfl) (show Tryd.prog.underlying 5 = some (.int .u8) by kernel_rfl) (by kernel_rfl) (by kernel_rfl)
   (by have h' := (laidMet.tail (laidMet.tail (laidMet.tail (laidMet.tail (laidMet.tail (laidMet.tail (laidMet.tail (show laidMet Tryd.prog [("math/bits.deBruijn32tab", Rows.laid_math_bits_deBruijn32tab), ("math/bits.deBruijn64tab", Rows.laid_math_bits_deBruijn64tab), ("internal/strconv.uint64pow10", Rows.laid_internal_strconv_uint64pow10), ("unicode/utf8.acceptRanges", Rows.laid_unicode_utf8_acceptRanges), ("strconv.ErrRange", Rows.laid_strconv_ErrRange), ("strconv.ErrSyntax", Rows.laid_strconv_ErrSyntax), ("unicode.White_Space", Rows.laid_unicode_White_Space), ("strings.asciiSpace", Rows.laid_strings_asciiSpace), ("unicode/utf8.first", Rows.laid_unicode_utf8_first)] W from h)))))))); rw [tabEqS] at h'; exact h')
theorem tabEqD : (Rows.laid_math_bits_deBruijn64tab : DataW Unit) = Lib.tabData .u8 dbTab := by kernel_rfl
theorem gTabD : Tryd.prog.globalNamed "math/bits.deBruijn64tab" = some 9 := by kernel_rfl
theorem gTabDType : (Tryd.prog.globals[9]?).map (·.type) = some 213 := by kernel_rfl
theorem tableD {W : World} (h : laidMetH Tryd.prog Rows.tokenShowsUptoRow.laid W) : Lib.TabIs Tryd.prog W "math/bits.deBruijn64tab" .u8 dbTab :=
 Lib.tabIs_of_head (rest := [("internal/strconv.uint64pow10", Rows.laid_internal_strconv_uint64pow10), ("unicode/utf8.acceptRanges", Rows.laid_unicode_utf8_acceptRanges), ("strconv.ErrRange", Rows.laid_strconv_ErrRange), ("strconv.ErrSyntax", Rows.laid_strconv_ErrSyntax), ("unicode.White_Space", Rows.laid_unicode_White_Space), ("strings.asciiSpace", Rows.laid_strings_asciiSpace), ("unicode/utf8.first", Rows.laid_unicode_utf8_first)]) gTabD gTabDType (show Tryd.prog.underlying 213 = some (.array 64 5) by kernel_rfl) (show Tryd.prog.underlying 5 = some (.int .u8) by kernel_rfl) (by kernel_rfl) (by kernel_rfl)
   (by have h' := (laidMet.tail (show laidMet Tryd.prog [("math/bits.deBruijn32tab", Rows.laid_math_bits_deBruijn32tab), ("math/bits.deBruijn64tab", Rows.laid_math_bits_deBruijn64tab), ("internal/strconv.uint64pow10", Rows.laid_internal_strconv_uint64pow10), ("unicode/utf8.acceptRanges", Rows.laid_unicode_utf8_acceptRanges), ("strconv.ErrRange", Rows.laid_strconv_ErrRange), ("strconv.ErrSyntax", Rows.laid_strconv_ErrSyntax), ("unicode.White_Space", Rows.laid_unicode_White_Space), ("strings.asciiSpace", Rows.laid_strings_asciiSpace), ("unicode/utf8.first", Rows.laid_unicode_utf8_first)] W from h)); rw [tabEqD] at h'; exact h')
noncomputable def laidHeap (os : Os) : Array Obj :=
 let h0 := (World.holding Tryd.prog os ⟨#[], #[], []⟩).heap
 let b0 := h0.size
 let h1 := ((((h0).push (.cells #[(.string ⟨#[118, 97, 108, 117, 101, 32, 111, 117, 116, 32, 111, 102, 32, 114, 97, 110, 103, 101]⟩)] 217)).push (.cells #[(.string ⟨#[105, 110, 118, 97, 108, 105, 100, 32, 115, 121, 110, 116, 97, 120]⟩)] 217)).push (.cells #[(.int .u16 9), (.int .u16 13), (.int .u16 1), (.int .u16 32), (.int .u16 133), (.int .u16 101), (.int .u16 160), (.int .u16 5760), (.int .u16 5600), (.int .u16 8192), (.int .u16 8202), (.int .u16 1), (.int .u16 8232), (.int .u16 8233), (.int .u16 1), (.int .u16 8239), (.int .u16 8287), (.int .u16 48), (.int .u16 12288), (.int .u16 12288), (.int .u16 1)] 160)).push (.cells #[(.slice (some ⟨b0 + 2, 0, none⟩) 7 7), (.slice none 0 0), (.int .i64 2)] 157)
 (((((((((h1).modify 8 (fun
     | .cells _ t frozen => .cells #[(.int .u8 0), (.int .u8 1), (.int .u8 28), (.int .u8 2), (.int .u8 29), (.int .u8 14), (.int .u8 24), (.int .u8 3), (.int .u8 30), (.int .u8 22), (.int .u8 20), (.int .u8 15), (.int .u8 25), (.int .u8 17), (.int .u8 4), (.int .u8 8), (.int .u8 31), (.int .u8 27), (.int .u8 13), (.int .u8 23), (.int .u8 21), (.int .u8 19), (.int .u8 16), (.int .u8 7), (.int .u8 26), (.int .u8 12), (.int .u8 18), (.int .u8 6), (.int .u8 11), (.int .u8 5), (.int .u8 10), (.int .u8 9)] t frozen
     | o => o)).modify 9 (fun
     | .cells _ t frozen => .cells #[(.int .u8 0), (.int .u8 1), (.int .u8 56), (.int .u8 2), (.int .u8 57), (.int .u8 49), (.int .u8 28), (.int .u8 3), (.int .u8 61), (.int .u8 58), (.int .u8 42), (.int .u8 50), (.int .u8 38), (.int .u8 29), (.int .u8 17), (.int .u8 4), (.int .u8 62), (.int .u8 47), (.int .u8 59), (.int .u8 36), (.int .u8 45), (.int .u8 43), (.int .u8 51), (.int .u8 22), (.int .u8 53), (.int .u8 39), (.int .u8 33), (.int .u8 30), (.int .u8 24), (.int .u8 18), (.int .u8 12), (.int .u8 5), (.int .u8 63), (.int .u8 55), (.int .u8 48), (.int .u8 27), (.int .u8 60), (.int .u8 41), (.int .u8 37), (.int .u8 16), (.int .u8 46), (.int .u8 35), (.int .u8 44), (.int .u8 21), (.int .u8 52), (.int .u8 32), (.int .u8 23), (.int .u8 11), (.int .u8 54), (.int .u8 26), (.int .u8 40), (.int .u8 15), (.int .u8 34), (.int .u8 20), (.int .u8 31), (.int .u8 10), (.int .u8 25), (.int .u8 14), (.int .u8 19), (.int .u8 9), (.int .u8 13), (.int .u8 8), (.int .u8 7), (.int .u8 6)] t frozen
     | o => o)).modify 3 (fun
     | .cells _ t frozen => .cells #[(.int .u64 1), (.int .u64 10), (.int .u64 100), (.int .u64 1000), (.int .u64 10000), (.int .u64 100000), (.int .u64 1000000), (.int .u64 10000000), (.int .u64 100000000), (.int .u64 1000000000), (.int .u64 10000000000), (.int .u64 100000000000), (.int .u64 1000000000000), (.int .u64 10000000000000), (.int .u64 100000000000000), (.int .u64 1000000000000000), (.int .u64 10000000000000000), (.int .u64 100000000000000000), (.int .u64 1000000000000000000), (.int .u64 10000000000000000000)] t frozen
     | o => o)).modify 5 (fun
     | .cells _ t frozen => .cells #[(.int .u8 128), (.int .u8 191), (.int .u8 160), (.int .u8 191), (.int .u8 128), (.int .u8 159), (.int .u8 144), (.int .u8 191), (.int .u8 128), (.int .u8 143), (.int .u8 0), (.int .u8 0), (.int .u8 0), (.int .u8 0), (.int .u8 0), (.int .u8 0), (.int .u8 0), (.int .u8 0), (.int .u8 0), (.int .u8 0), (.int .u8 0), (.int .u8 0), (.int .u8 0), (.int .u8 0), (.int .u8 0), (.int .u8 0), (.int .u8 0), (.int .u8 0), (.int .u8 0), (.int .u8 0), (.int .u8 0), (.int .u8 0)] t frozen
     | o => o)).modify 7 (fun
     | .cells _ t frozen => .cells #[(.iface 215 (.pointer (some ⟨b0 + 0, 0, none⟩)))] t frozen
     | o => o)).modify 6 (fun
     | .cells _ t frozen => .cells #[(.iface 215 (.pointer (some ⟨b0 + 1, 0, none⟩)))] t frozen
     | o => o)).modify 1 (fun
     | .cells _ t frozen => .cells #[(.pointer (some ⟨b0 + 3, 0, none⟩))] t frozen
     | o => o)).modify 0 (fun
     | .cells _ t frozen => .cells #[(.int .u8 0), (.int .u8 0), (.int .u8 0), (.int .u8 0), (.int .u8 0), (.int .u8 0), (.int .u8 0), (.int .u8 0), (.int .u8 0), (.int .u8 1), (.int .u8 1), (.int .u8 1), (.int .u8 1), (.int .u8 1), (.int .u8 0), (.int .u8 0), (.int .u8 0), (.int .u8 0), (.int .u8 0), (.int .u8 0), (.int .u8 0), (.int .u8 0), (.int .u8 0), (.int .u8 0), (.int .u8 0), (.int .u8 0), (.int .u8 0), (.int .u8 0), (.int .u8 0), (.int .u8 0), (.int .u8 0), (.int .u8 0), (.int .u8 1), (.int .u8 0), (.int .u8 0), (.int .u8 0), (.int .u8 0), (.int .u8 0), (.int .u8 0), (.int .u8 0), (.int .u8 0), (.int .u8 0), (.int .u8 0), (.int .u8 0), (.int .u8 0), (.int .u8 0), (.int .u8 0), (.int .u8 0), (.int .u8 0), (.int .u8 0), (.int .u8 0), (.int .u8 0), (.int .u8 0), (.int .u8 0), (.int .u8 0), (.int .u8 0), (.int .u8 0), (.int .u8 0), (.int .u8 0), (.int .u8 0), (.int .u8 0), (.int .u8 0), (.int .u8 0), (.int .u8 0), (.int .u8 0), (.int .u8 0), (.int .u8 0), (.int .u8 0), (.int .u8 0), (.int .u8 0), (.int .u8 0), (.int .u8 0), (.int .u8 0), (.int .u8 0), (.int .u8 0), (.int .u8 0), (.int .u8 0), (.int .u8 0), (.int .u8 0), (.int .u8 0), (.int .u8 0), (.int .u8 0), (.int .u8 0), (.int .u8 0), (.int .u8 0), (.int .u8 0), (.int .u8 0), (.int .u8 0), (.int .u8 0), (.int .u8 0), (.int .u8 0), (.int .u8 0), (.int .u8 0), (.int .u8 0), (.int .u8 0), (.int .u8 0), (.int .u8 0), (.int .u8 0), (.int .u8 0), (.int .u8 0), (.int .u8 0), (.int .u8 0), (.int .u8 0), (.int .u8 0), (.int .u8 0), (.int .u8 0), (.int .u8 0), (.int .u8 0), (.int .u8 0), (.int .u8 0), (.int .u8 0), (.int .u8 0), (.int .u8 0), (.int .u8 0), (.int .u8 0), (.int .u8 0), (.int .u8 0), (.int .u8 0), (.int .u8 0), (.int .u8 0), (.int .u8 0), (.int .u8 0), (.int .u8 0), (.int .u8 0), (.int .u8 0), (.int .u8 0), (.int .u8 0), (.int .u8 0), (.int .u8 0), (.int .u8 0), (.int .u8 0), (.int .u8 0), (.int .u8 0), (.int .u8 0), (.int .u8 0), (.int .u8 0), (.int .u8 0), (.int .u8 0), (.int .u8 0), (.int .u8 0), (.int .u8 0), (.int .u8 0), (.int .u8 0), (.int .u8 0), (.int .u8 0), (.int .u8 0), (.int .u8 0), (.int .u8 0), (.int .u8 0), (.int .u8 0), (.int .u8 0), (.int .u8 0), (.int .u8 0), (.int .u8 0), (.int .u8 0), (.int .u8 0), (.int .u8 0), (.int .u8 0), (.int .u8 0), (.int .u8 0), (.int .u8 0), (.int .u8 0), (.int .u8 0), (.int .u8 0), (.int .u8 0), (.int .u8 0), (.int .u8 0), (.int .u8 0), (.int .u8 0), (.int .u8 0), (.int .u8 0), (.int .u8 0), (.int .u8 0), (.int .u8 0), (.int .u8 0), (.int .u8 0), (.int .u8 0), (.int .u8 0), (.int .u8 0), (.int .u8 0), (.int .u8 0), (.int .u8 0), (.int .u8 0), (.int .u8 0), (.int .u8 0), (.int .u8 0), (.int .u8 0), (.int .u8 0), (.int .u8 0), (.int .u8 0), (.int .u8 0), (.int .u8 0), (.int .u8 0), (.int .u8 0), (.int .u8 0), (.int .u8 0), (.int .u8 0), (.int .u8 0), (.int .u8 0), (.int .u8 0), (.int .u8 0), (.int .u8 0), (.int .u8 0), (.int .u8 0), (.int .u8 0), (.int .u8 0), (.int .u8 0), (.int .u8 0), (.int .u8 0), (.int .u8 0), (.int .u8 0), (.int .u8 0), (.int .u8 0), (.int .u8 0), (.int .u8 0), (.int .u8 0), (.int .u8 0), (.int .u8 0), (.int .u8 0), (.int .u8 0), (.int .u8 0), (.int .u8 0), (.int .u8 0), (.int .u8 0), (.int .u8 0), (.int .u8 0), (.int .u8 0), (.int .u8 0), (.int .u8 0), (.int .u8 0), (.int .u8 0), (.int .u8 0), (.int .u8 0), (.int .u8 0), (.int .u8 0), (.int .u8 0), (.int .u8 0), (.int .u8 0), (.int .u8 0), (.int .u8 0), (.int .u8 0), (.int .u8 0), (.int .u8 0), (.int .u8 0), (.int .u8 0), (.int .u8 0), (.int .u8 0), (.int .u8 0), (.int .u8 0), (.int .u8 0), (.int .u8 0), (.int .u8 0), (.int .u8 0), (.int .u8 0), (.int .u8 0), (.int .u8 0)] t frozen
     | o => o)).modify 4 (fun
     | .cells _ t frozen => .cells #[(.int .u8 240), (.int .u8 240), (.int .u8 240), (.int .u8 240), (.int .u8 240), (.int .u8 240), (.int .u8 240), (.int .u8 240), (.int .u8 240), (.int .u8 240), (.int .u8 240), (.int .u8 240), (.int .u8 240), (.int .u8 240), (.int .u8 240), (.int .u8 240), (.int .u8 240), (.int .u8 240), (.int .u8 240), (.int .u8 240), (.int .u8 240), (.int .u8 240), (.int .u8 240), (.int .u8 240), (.int .u8 240), (.int .u8 240), (.int .u8 240), (.int .u8 240), (.int .u8 240), (.int .u8 240), (.int .u8 240), (.int .u8 240), (.int .u8 240), (.int .u8 240), (.int .u8 240), (.int .u8 240), (.int .u8 240), (.int .u8 240), (.int .u8 240), (.int .u8 240), (.int .u8 240), (.int .u8 240), (.int .u8 240), (.int .u8 240), (.int .u8 240), (.int .u8 240), (.int .u8 240), (.int .u8 240), (.int .u8 240), (.int .u8 240), (.int .u8 240), (.int .u8 240), (.int .u8 240), (.int .u8 240), (.int .u8 240), (.int .u8 240), (.int .u8 240), (.int .u8 240), (.int .u8 240), (.int .u8 240), (.int .u8 240), (.int .u8 240), (.int .u8 240), (.int .u8 240), (.int .u8 240), (.int .u8 240), (.int .u8 240), (.int .u8 240), (.int .u8 240), (.int .u8 240), (.int .u8 240), (.int .u8 240), (.int .u8 240), (.int .u8 240), (.int .u8 240), (.int .u8 240), (.int .u8 240), (.int .u8 240), (.int .u8 240), (.int .u8 240), (.int .u8 240), (.int .u8 240), (.int .u8 240), (.int .u8 240), (.int .u8 240), (.int .u8 240), (.int .u8 240), (.int .u8 240), (.int .u8 240), (.int .u8 240), (.int .u8 240), (.int .u8 240), (.int .u8 240), (.int .u8 240), (.int .u8 240), (.int .u8 240), (.int .u8 240), (.int .u8 240), (.int .u8 240), (.int .u8 240), (.int .u8 240), (.int .u8 240), (.int .u8 240), (.int .u8 240), (.int .u8 240), (.int .u8 240), (.int .u8 240), (.int .u8 240), (.int .u8 240), (.int .u8 240), (.int .u8 240), (.int .u8 240), (.int .u8 240), (.int .u8 240), (.int .u8 240), (.int .u8 240), (.int .u8 240), (.int .u8 240), (.int .u8 240), (.int .u8 240), (.int .u8 240), (.int .u8 240), (.int .u8 240), (.int .u8 240), (.int .u8 240), (.int .u8 240), (.int .u8 240), (.int .u8 240), (.int .u8 241), (.int .u8 241), (.int .u8 241), (.int .u8 241), (.int .u8 241), (.int .u8 241), (.int .u8 241), (.int .u8 241), (.int .u8 241), (.int .u8 241), (.int .u8 241), (.int .u8 241), (.int .u8 241), (.int .u8 241), (.int .u8 241), (.int .u8 241), (.int .u8 241), (.int .u8 241), (.int .u8 241), (.int .u8 241), (.int .u8 241), (.int .u8 241), (.int .u8 241), (.int .u8 241), (.int .u8 241), (.int .u8 241), (.int .u8 241), (.int .u8 241), (.int .u8 241), (.int .u8 241), (.int .u8 241), (.int .u8 241), (.int .u8 241), (.int .u8 241), (.int .u8 241), (.int .u8 241), (.int .u8 241), (.int .u8 241), (.int .u8 241), (.int .u8 241), (.int .u8 241), (.int .u8 241), (.int .u8 241), (.int .u8 241), (.int .u8 241), (.int .u8 241), (.int .u8 241), (.int .u8 241), (.int .u8 241), (.int .u8 241), (.int .u8 241), (.int .u8 241), (.int .u8 241), (.int .u8 241), (.int .u8 241), (.int .u8 241), (.int .u8 241), (.int .u8 241), (.int .u8 241), (.int .u8 241), (.int .u8 241), (.int .u8 241), (.int .u8 241), (.int .u8 241), (.int .u8 241), (.int .u8 241), (.int .u8 2), (.int .u8 2), (.int .u8 2), (.int .u8 2), (.int .u8 2), (.int .u8 2), (.int .u8 2), (.int .u8 2), (.int .u8 2), (.int .u8 2), (.int .u8 2), (.int .u8 2), (.int .u8 2), (.int .u8 2), (.int .u8 2), (.int .u8 2), (.int .u8 2), (.int .u8 2), (.int .u8 2), (.int .u8 2), (.int .u8 2), (.int .u8 2), (.int .u8 2), (.int .u8 2), (.int .u8 2), (.int .u8 2), (.int .u8 2), (.int .u8 2), (.int .u8 2), (.int .u8 2), (.int .u8 19), (.int .u8 3), (.int .u8 3), (.int .u8 3), (.int .u8 3), (.int .u8 3), (.int .u8 3), (.int .u8 3), (.int .u8 3), (.int .u8 3), (.int .u8 3), (.int .u8 3), (.int .u8 3), (.int .u8 35), (.int .u8 3), (.int .u8 3), (.int .u8 52), (.int .u8 4), (.int .u8 4), (.int .u8 4), (.int .u8 68), (.int .u8 241), (.int .u8 241), (.int .u8 241), (.int .u8 241), (.int .u8 241), (.int .u8 241), (.int .u8 241), (.int .u8 241), (.int .u8 241), (.int .u8 241), (.int .u8 241)] t frozen
     | o => o)
noncomputable def laidWorld (os : Os) : World :=
 { World.holding Tryd.prog os ⟨#[], #[], []⟩ with heap := laidHeap os }
set_option maxRecDepth 100000 in
theorem laid_met (os : Os) : laidMet Tryd.prog Rows.tokenShowsUptoRow.laid ((laidWorld os).forCall (fun _ _ => 0) ⟨#[], #[(.agg #[(.int .i64 (0 : Int)), (.string (ByteArray.mk #[])), (.int .i64 (0 : Int))])], []⟩).memory :=
 laidMet_of_run3 8 (by kernel_rfl) (by kernel_rfl) (by kernel_rfl)
set_option maxRecDepth 100000 in
theorem reads (os : Os) {H : Type} (enc : TypeId × Value → H) : ∃ places, DataW.whole enc Tryd.prog ((laidWorld os).forCall (fun _ _ => 0) ⟨#[], #[(.agg #[(.int .i64 (0 : Int)), (.string (ByteArray.mk #[])), (.int .i64 (0 : Int))])], []⟩).memory Tryd.f4.params.toList Rows.tokenShowsSpec.vars false (#[(.agg #[(.int .i64 (0 : Int)), (.string (ByteArray.mk #[])), (.int .i64 (0 : Int))])] : Array Value).toList 8 = some ([DataW.agg [DataW.lit (.int .i64 0), DataW.lit (.string []), DataW.lit (.int .i64 0)]], [], places) :=
 ⟨[], by kernel_rfl⟩
set_option maxRecDepth 100000 in
theorem lifted (os : Os) (started : os.Started) (H : Type) (enc : TypeId × Value → H) (F : Stop.Interp) :
   ReturnsInHanded {} Tryd.checked os 4 .any ((Rows.OpenSpec.upto Rows.tokenShowsSpec).preRow enc Tryd.prog Tryd.f4 Rows.tokenShowsUptoRow.domain false Rows.tokenShowsUptoRow.laid) (((Rows.OpenSpec.upto Rows.tokenShowsSpec).at F).post enc Tryd.prog Tryd.f4 false true false false) := by
 obtain ⟨places, hx⟩ := reads os enc
 refine returnsInHanded_of_row (C := Tryd.checked) (s := (Rows.OpenSpec.upto Rows.tokenShowsSpec)) own started (by kernel_rfl) Tryd.func4
   (witness_row_atRef (enc := enc) (C := Tryd.checked) false (laidWorld os) #[(.agg #[(.int .i64 (0 : Int)), (.string (ByteArray.mk #[])), (.int .i64 (0 : Int))])] rfl (by kernel_rfl) (by kernel_rfl) (by kernel_rfl)
     (OpenSpec.preRow_of_cond 8 hx (by kernel_rfl) (fun k hk => by cases hk; kernel_rfl) (by kernel_rfl) (laid_met os))) ?_
 intro W base args ds gs before hval0 hW hcnd hkk0 hsz0 hL _ _
 have hkk : Rows.uptoSmall H (ds ++ gs) = true := hkk0 _ rfl
 have hsz : (DataW.weightsEach Tryd.prog (Tryd.f4.params.toList ++ (Rows.OpenSpec.upto Rows.tokenShowsSpec).bare.plain.varTypes Tryd.prog) (ds ++ gs)).all (· ≤ reachBytes) = true := hsz0
 have hval : ∀ (j : Nat) t v, Tryd.f4.params[j]? = some t → args[j]? = some v → Value.okWide Tryd.prog W .any base t v := hval0
 have hW' := hW
 obtain ⟨p, q, hA0, hV, rfl, hfz, hnd⟩ := hW
 have hA : DataW.TrodAll enc Tryd.prog W 0 (fun _ => true) true Tryd.f4.params.toList args.toList ds p := hA0
 rw [Tryd.params4] at hA hval hsz
 obtain ⟨v0, vs0, d0, ds0, p0, q0_, hargs, rfl, rfl, h0, r0_⟩ := trodAll_cons hA
 obtain ⟨rfl, rfl, rfl⟩ := trodAll_nil r0_
 obtain rfl : args = #[v0] := by cases args; simp_all
 obtain ⟨rfl, rfl⟩ := trodVars_none hV
 have hs : (DataW.weightsEach Tryd.prog [59] [d0]).all (· ≤ reachBytes) = true := hsz
 simp only [DataW.weightsEach, List.append_nil] at hs
 have hw0 := hs
 have k0 := h0
 have lt0 : ∀ x ∈ p0, x.block < W.heap.size := by obtain ⟨m, hm⟩ := k0; exact DataW.trod_lt m _ _ _ hm
 obtain ⟨cs0, rfl⟩ : ∃ cs : List Value, v0 = .agg cs.toArray := okWide_agg_of (show shapeOf Tryd.prog 59 = some [(3, 0), (9, 1), (3, 2)] by kernel_rfl) (hval 0 59 v0 rfl rfl)
 obtain ⟨fuel0, hf0⟩ := h0
 obtain ⟨x0, e0, q0⟩ := T_token_Token.tells fuel0 _ _ hf0 hw0
 have b0 := (T_token_Token.kt (N := fuel0 + 1) (enc := enc) (W := W) measure) fuel0 (Nat.lt_succ_self _) _ _ hf0 _ e0
 have e0 : T_token_Token.E W.heap x0 cs0 := by simpa [Value.cells] using e0
 have hb : (T_token_Token.bulk x0) ≤ 1048576 := by
   have hk : Rows.uptoBulkAll ([d0] ++ []) ≤ 1048576 := of_decide_eq_true hkk
   have := b0
   simp only [List.append_nil, Rows.uptoBulkAll] at hk
   simp only at *
   omega
 refine ((Run.mono (R' := fun v h' => v = Value.bool true ∧ Ext W.heap h') (Fw.roadlaw2_TokenShows.walk (W := No) (Hold.start (Sub.refl _)) e0 ⟨(TBs.of gTabS (tableS hL)), (TBd.of gTabD (tableD hL))⟩ (Fw.TokenShows x0 q0 hb)) (fun v h' hp => by obtain ⟨m', st, hv⟩ := hp; exact ⟨hv, st.S.ext⟩)) W rfl).mono fun e W' he => ?_
 obtain ⟨v, rfl, ⟨rfl, ext⟩, same⟩ := he
 have bel := below_of ext same
 exact ⟨_, rfl, _, _, _, [], _, [], hW', trodAll_mk1 (shut_bool (show Tryd.prog.underlying 4 = some .bool by kernel_rfl) _), (trodAll_cons_mk (Below.trod laidOut (by kernel_rfl) (of_decide_eq_true (by kernel_rfl)) k0 bel lt0) trodAll_mk0), rfl, bel.frame _, fun h => by cases h⟩
theorem over : Rows.tokenShowsUptoRow.holds Tryd.pinned (Rows.OpenSpec.upto Rows.tokenShowsSpec) :=
 OpenClaim.holds_of_cond 4 Tryd.f4 rfl rfl rfl rfl rfl rfl rfl ⟨rfl, rfl, rfl, rfl, rfl⟩ rfl rfl rfl rfl rfl (by kernel_rfl) Tryd.func4 (by kernel_rfl)
   (of_decide_eq_true (by kernel_rfl)) (by unfold Func.isWrapper; first | (rw [if_pos (by decide +kernel)]; kernel_rfl) | (rw [if_neg (by decide +kernel)]; exact ⟨rfl, rfl⟩))
   (fun os started H enc _ F => by rw [OpenClaim.pre_eq_preRow]; exact lifted os started H enc F)
theorem plain (f : FuncId) (fn : Func) (hf : Tryd.pinned.checked.prog.funcNamed "roadstead/roadlaw2.TokenShows" = some f) (hfn : Tryd.pinned.checked.prog.funcs[f]? = some fn) :
   true = Tryd.pinned.checked.prog.looks [] ∧ ∀ (j : Nat) t, fn.params[j]? = some t → Tryd.pinned.checked.prog.wantsStandIn t = false := by
 obtain rfl : f = 4 := Option.some.inj ((show Tryd.prog.funcNamed "roadstead/roadlaw2.TokenShows" = some 4 by kernel_rfl).symm.trans hf) |>.symm
 obtain rfl : fn = Tryd.f4 := (Option.some.inj (Tryd.func4.symm.trans hfn)).symm
 refine ⟨by kernel_rfl, fun j t ht => ?_⟩
 rw [Tryd.params4] at ht
 have hm : t ∈ [59] := by simpa using Array.mem_of_getElem? ht
 have hall : ([59].all fun u => !Tryd.prog.wantsStandIn u) = true := by kernel_rfl
 exact (show Tryd.prog.wantsStandIn t = false by simpa using List.all_eq_true.1 hall t hm)
end Go.Proofs.YtkbhpagogmmgnaaDoor.tokenShows
namespace Go.Proofs.YtkbhpagogmmgnaaDoor
theorem tokenShows_holds : Rows.TokenShowsUptoCardSaid :=
 Claim7.holds_tied_plain_at .later [] _ _ _ _ tokenShows.over (fun _ h => by cases h) (by kernel_rfl) (fun _ h => by cases h) tokenShowsUpto_row_tie rfl ⟨rfl, rfl⟩ (by kernel_rfl) rfl tokenShows.plain (by kernel_rfl)
end Go.Proofs.YtkbhpagogmmgnaaDoor

end
