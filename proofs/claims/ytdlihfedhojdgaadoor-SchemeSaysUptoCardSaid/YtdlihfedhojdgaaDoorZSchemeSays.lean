/- Last part: what the law SchemeSays needs, put together out of texts of this session. -/
import Derived.Lib.ItoaLen
import Derived.Test.YtdlihfedhojdgaaDoorRows
import Derived.WalkKit
import Derived.ProofKit
import Derived.OpenShut
import Derived.Deep.DeepHandedRow
import Derived.Lib.LaidTab
import Derived.Stop.LaidErr
import Derived.Test.YtdlihfedhojdgaaDoorCards
import Derived.Test.YtdlihfedhojdgaaDoorTie
import Derived.JoinedCond
import Derived.Deep.CondSized
import Derived.Test.YtdlihfedhojdgaaDoorZSchemeSaysc
section
namespace Go.Proofs.YtdlihfedhojdgaaDoor.Fw
open Go Go.Hw Go.Proofs
set_option linter.unusedVariables false
set_option synthInstance.maxHeartbeats 400000
set_option synthInstance.maxSize 1000
def roadref2_Fitting.post (W : Nat → Prop) (h0 m0 : Heap) (r : Bool) (v : Value) (h : Heap) : Prop := ∃ m , Hold W h0 m0 h m [] ∧ v = .bool r
inductive roadref2_Fitting.l0_k.Pt where
  | l0 (a_0 : List ByteArray) (a_7_0 : (List ByteArray)) (a_7_1 : (List T_api_Type)) (a_8 : List (List T_api_Type))
  | j0 (a_0 : List ByteArray) (a_7_0 : (List ByteArray)) (a_7_1 : (List T_api_Type)) (a_8 : List (List T_api_Type)) (y_9 : T_api_Type) (y_10 : T_api_Type)
  | j2 (a_0 : List ByteArray) (a_7_0 : (List ByteArray)) (a_7_1 : (List T_api_Type)) (a_8 : List (List T_api_Type)) (y_9 : T_api_Type) (y_10 : T_api_Type) (b_39 : Bool)
  | j1 (a_0 : List ByteArray) (a_7_0 : (List ByteArray)) (a_7_1 : (List T_api_Type)) (a_8 : List (List T_api_Type)) (y_9 : T_api_Type) (y_10 : T_api_Type)
  | j3 (a_0 : List ByteArray) (a_7_0 : (List ByteArray)) (a_7_1 : (List T_api_Type)) (a_8 : List (List T_api_Type)) (y_9 : T_api_Type) (y_10 : T_api_Type)
  | l1 (a_0 : List ByteArray) (a_7_0 : (List ByteArray)) (a_7_1 : (List T_api_Type)) (a_8 : List (List T_api_Type)) (y_9 : T_api_Type) (y_10 : T_api_Type) (x_92 : Int) (x_93 : Int)
noncomputable def roadref2_Fitting.l0_k.body (go : (p : roadref2_Fitting.l0_k.Pt) → Option (Bool)) : (p : roadref2_Fitting.l0_k.Pt) → Option (Bool)
  | .l0 a_0 a_7_0 a_7_1 a_8 => if (((List.length a_8) : Nat) : Int) > (0 : Int) then (Option.bind (gi a_8 (0 : Int)) fun y1 => Option.bind (gi y1 (0 : Int)) fun y8 => Option.bind (gi a_8 (0 : Int)) fun y10 => Option.bind (gi y10 (1 : Int)) fun y17 => (go (.j0 a_0 a_7_0 a_7_1 a_8 y8 y17))) else (some (true))
  | .j0 a_0 a_7_0 a_7_1 a_8 y_9 y_10 => Option.bind (sls a_8 (1 : Int) (((List.length a_8) : Nat) : Int)) fun l1 => if y_9.Kind = (5 : Int) then (Option.bind (slices_Contains_6 a_0 y_9.Name) fun y4 => (go (.j2 a_0 a_7_0 a_7_1 l1 y_9 y_10 y4))) else ((go (.j2 a_0 a_7_0 a_7_1 l1 y_9 y_10 false)))
  | .j2 a_0 a_7_0 a_7_1 a_8 y_9 y_10 b_39 => if b_39 = true then (Option.bind (slices_Index_33 a_7_0 y_9.Name) fun y1 => if y1 < (0 : Int) then (Option.bind (ap 16 a_7_0 ([y_9.Name] : List ByteArray)) fun l19 => Option.bind (ap 48 a_7_1 ([y_10] : List T_api_Type)) fun l33 => (go (.l0 a_0 l19 l33 a_8))) else (Option.bind (gi a_7_1 y1) fun y898 => Option.bind (roadref2_TypeMark y898) fun y905 => Option.bind (roadref2_TypeMark y_10) fun y912 => if y905 = y912 then ((go (.l0 a_0 a_7_0 a_7_1 a_8))) else (some (false)))) else ((go (.j1 a_0 a_7_0 a_7_1 a_8 y_9 y_10)))
  | .j1 a_0 a_7_0 a_7_1 a_8 y_9 y_10 => if y_9.Kind = y_10.Kind then (if y_9.Name = y_10.Name then (if (((List.length y_9.Args) : Nat) : Int) = (((List.length y_10.Args) : Nat) : Int) then ((go (.j3 a_0 a_7_0 a_7_1 a_8 y_9 y_10))) else (some (false))) else (some (false))) else (some (false))
  | .j3 a_0 a_7_0 a_7_1 a_8 y_9 y_10 => (go (.l1 a_0 a_7_0 a_7_1 a_8 y_9 y_10 (((List.length y_9.Args) : Nat) : Int) (0 : Int)))
  | .l1 a_0 a_7_0 a_7_1 a_8 y_9 y_10 x_92 x_93 => if x_93 < x_92 then (Option.bind (gi y_9.Args x_93) fun y6 => Option.bind (gi y_10.Args x_93) fun y18 => Option.bind (ap 96 a_8 ([([y6, y18] : List T_api_Type)] : List (List T_api_Type))) fun l32 => (go (.l1 a_0 a_7_0 a_7_1 l32 y_9 y_10 x_92 (IntKind.wrap .i64 (x_93 + (1 : Int)))))) else ((go (.l0 a_0 a_7_0 a_7_1 a_8)))
theorem roadref2_Fitting.l0_k.mono : MonoF (β := fun _ => (Bool)) roadref2_Fitting.l0_k.body := fun f g hfg p => match p with
  | .l0 a_0 a_7_0 a_7_1 a_8 => LeO.ite (LeO.bind (LeO.refl _) fun y1 => LeO.bind (LeO.refl _) fun y8 => LeO.bind (LeO.refl _) fun y10 => LeO.bind (LeO.refl _) fun y17 => (hfg _)) (LeO.refl _)
  | .j0 a_0 a_7_0 a_7_1 a_8 y_9 y_10 => LeO.bind (LeO.refl _) fun l1 => LeO.ite (LeO.bind (LeO.refl _) fun y4 => (hfg _)) ((hfg _))
  | .j2 a_0 a_7_0 a_7_1 a_8 y_9 y_10 b_39 => LeO.ite (LeO.bind (LeO.refl _) fun y1 => LeO.ite (LeO.bind (LeO.refl _) fun l19 => LeO.bind (LeO.refl _) fun l33 => (hfg _)) (LeO.bind (LeO.refl _) fun y898 => LeO.bind (LeO.refl _) fun y905 => LeO.bind (LeO.refl _) fun y912 => LeO.ite ((hfg _)) (LeO.refl _))) ((hfg _))
  | .j1 a_0 a_7_0 a_7_1 a_8 y_9 y_10 => LeO.ite (LeO.ite (LeO.ite ((hfg _)) (LeO.refl _)) (LeO.refl _)) (LeO.refl _)
  | .j3 a_0 a_7_0 a_7_1 a_8 y_9 y_10 => (hfg _)
  | .l1 a_0 a_7_0 a_7_1 a_8 y_9 y_10 x_92 x_93 => LeO.ite (LeO.bind (LeO.refl _) fun y6 => LeO.bind (LeO.refl _) fun y18 => LeO.bind (LeO.refl _) fun l32 => (hfg _)) ((hfg _))
noncomputable def roadref2_Fitting.l0_k.go (p : roadref2_Fitting.l0_k.Pt) : Option (Bool) := fixF (β := fun _ => (Bool)) roadref2_Fitting.l0_k.body p
noncomputable def roadref2_Fitting.l0 (a_0 : List ByteArray) (a_7_0 : (List ByteArray)) (a_7_1 : (List T_api_Type)) (a_8 : List (List T_api_Type)) : Option (Bool) := roadref2_Fitting.l0_k.go (.l0 a_0 a_7_0 a_7_1 a_8)
noncomputable def roadref2_Fitting.j0 (a_0 : List ByteArray) (a_7_0 : (List ByteArray)) (a_7_1 : (List T_api_Type)) (a_8 : List (List T_api_Type)) (y_9 : T_api_Type) (y_10 : T_api_Type) : Option (Bool) := roadref2_Fitting.l0_k.go (.j0 a_0 a_7_0 a_7_1 a_8 y_9 y_10)
noncomputable def roadref2_Fitting.j2 (a_0 : List ByteArray) (a_7_0 : (List ByteArray)) (a_7_1 : (List T_api_Type)) (a_8 : List (List T_api_Type)) (y_9 : T_api_Type) (y_10 : T_api_Type) (b_39 : Bool) : Option (Bool) := roadref2_Fitting.l0_k.go (.j2 a_0 a_7_0 a_7_1 a_8 y_9 y_10 b_39)
noncomputable def roadref2_Fitting.j1 (a_0 : List ByteArray) (a_7_0 : (List ByteArray)) (a_7_1 : (List T_api_Type)) (a_8 : List (List T_api_Type)) (y_9 : T_api_Type) (y_10 : T_api_Type) : Option (Bool) := roadref2_Fitting.l0_k.go (.j1 a_0 a_7_0 a_7_1 a_8 y_9 y_10)
noncomputable def roadref2_Fitting.j3 (a_0 : List ByteArray) (a_7_0 : (List ByteArray)) (a_7_1 : (List T_api_Type)) (a_8 : List (List T_api_Type)) (y_9 : T_api_Type) (y_10 : T_api_Type) : Option (Bool) := roadref2_Fitting.l0_k.go (.j3 a_0 a_7_0 a_7_1 a_8 y_9 y_10)
noncomputable def roadref2_Fitting.l1 (a_0 : List ByteArray) (a_7_0 : (List ByteArray)) (a_7_1 : (List T_api_Type)) (a_8 : List (List T_api_Type)) (y_9 : T_api_Type) (y_10 : T_api_Type) (x_92 : Int) (x_93 : Int) : Option (Bool) := roadref2_Fitting.l0_k.go (.l1 a_0 a_7_0 a_7_1 a_8 y_9 y_10 x_92 x_93)
theorem roadref2_Fitting.l0_eq (a_0 : List ByteArray) (a_7_0 : (List ByteArray)) (a_7_1 : (List T_api_Type)) (a_8 : List (List T_api_Type)) : roadref2_Fitting.l0 a_0 a_7_0 a_7_1 a_8 = if (((List.length a_8) : Nat) : Int) > (0 : Int) then (Option.bind (gi a_8 (0 : Int)) fun y1 => Option.bind (gi y1 (0 : Int)) fun y8 => Option.bind (gi a_8 (0 : Int)) fun y10 => Option.bind (gi y10 (1 : Int)) fun y17 => (roadref2_Fitting.j0 a_0 a_7_0 a_7_1 a_8 y8 y17)) else (some (true)) := fixF_eq roadref2_Fitting.l0_k.mono _
theorem roadref2_Fitting.j0_eq (a_0 : List ByteArray) (a_7_0 : (List ByteArray)) (a_7_1 : (List T_api_Type)) (a_8 : List (List T_api_Type)) (y_9 : T_api_Type) (y_10 : T_api_Type) : roadref2_Fitting.j0 a_0 a_7_0 a_7_1 a_8 y_9 y_10 = Option.bind (sls a_8 (1 : Int) (((List.length a_8) : Nat) : Int)) fun l1 => if y_9.Kind = (5 : Int) then (Option.bind (slices_Contains_6 a_0 y_9.Name) fun y4 => (roadref2_Fitting.j2 a_0 a_7_0 a_7_1 l1 y_9 y_10 y4)) else ((roadref2_Fitting.j2 a_0 a_7_0 a_7_1 l1 y_9 y_10 false)) := fixF_eq roadref2_Fitting.l0_k.mono _
theorem roadref2_Fitting.j2_eq (a_0 : List ByteArray) (a_7_0 : (List ByteArray)) (a_7_1 : (List T_api_Type)) (a_8 : List (List T_api_Type)) (y_9 : T_api_Type) (y_10 : T_api_Type) (b_39 : Bool) : roadref2_Fitting.j2 a_0 a_7_0 a_7_1 a_8 y_9 y_10 b_39 = if b_39 = true then (Option.bind (slices_Index_33 a_7_0 y_9.Name) fun y1 => if y1 < (0 : Int) then (Option.bind (ap 16 a_7_0 ([y_9.Name] : List ByteArray)) fun l19 => Option.bind (ap 48 a_7_1 ([y_10] : List T_api_Type)) fun l33 => (roadref2_Fitting.l0 a_0 l19 l33 a_8)) else (Option.bind (gi a_7_1 y1) fun y898 => Option.bind (roadref2_TypeMark y898) fun y905 => Option.bind (roadref2_TypeMark y_10) fun y912 => if y905 = y912 then ((roadref2_Fitting.l0 a_0 a_7_0 a_7_1 a_8)) else (some (false)))) else ((roadref2_Fitting.j1 a_0 a_7_0 a_7_1 a_8 y_9 y_10)) := fixF_eq roadref2_Fitting.l0_k.mono _
theorem roadref2_Fitting.j1_eq (a_0 : List ByteArray) (a_7_0 : (List ByteArray)) (a_7_1 : (List T_api_Type)) (a_8 : List (List T_api_Type)) (y_9 : T_api_Type) (y_10 : T_api_Type) : roadref2_Fitting.j1 a_0 a_7_0 a_7_1 a_8 y_9 y_10 = if y_9.Kind = y_10.Kind then (if y_9.Name = y_10.Name then (if (((List.length y_9.Args) : Nat) : Int) = (((List.length y_10.Args) : Nat) : Int) then ((roadref2_Fitting.j3 a_0 a_7_0 a_7_1 a_8 y_9 y_10)) else (some (false))) else (some (false))) else (some (false)) := fixF_eq roadref2_Fitting.l0_k.mono _
theorem roadref2_Fitting.j3_eq (a_0 : List ByteArray) (a_7_0 : (List ByteArray)) (a_7_1 : (List T_api_Type)) (a_8 : List (List T_api_Type)) (y_9 : T_api_Type) (y_10 : T_api_Type) : roadref2_Fitting.j3 a_0 a_7_0 a_7_1 a_8 y_9 y_10 = (roadref2_Fitting.l1 a_0 a_7_0 a_7_1 a_8 y_9 y_10 (((List.length y_9.Args) : Nat) : Int) (0 : Int)) := fixF_eq roadref2_Fitting.l0_k.mono _
theorem roadref2_Fitting.l1_eq (a_0 : List ByteArray) (a_7_0 : (List ByteArray)) (a_7_1 : (List T_api_Type)) (a_8 : List (List T_api_Type)) (y_9 : T_api_Type) (y_10 : T_api_Type) (x_92 : Int) (x_93 : Int) : roadref2_Fitting.l1 a_0 a_7_0 a_7_1 a_8 y_9 y_10 x_92 x_93 = if x_93 < x_92 then (Option.bind (gi y_9.Args x_93) fun y6 => Option.bind (gi y_10.Args x_93) fun y18 => Option.bind (ap 96 a_8 ([([y6, y18] : List T_api_Type)] : List (List T_api_Type))) fun l32 => (roadref2_Fitting.l1 a_0 a_7_0 a_7_1 l32 y_9 y_10 x_92 (IntKind.wrap .i64 (x_93 + (1 : Int))))) else ((roadref2_Fitting.l0 a_0 a_7_0 a_7_1 a_8)) := fixF_eq roadref2_Fitting.l0_k.mono _
def roadref2_Fitting.l0_k.I : (p : roadref2_Fitting.l0_k.Pt) → (Bool) → Prop
  | .l0 a_0 a_7_0 a_7_1 a_8, r => ∀ (W : Nat → Prop) (h0 m0 h m : Heap) (A_0 : Option Addr) (n_0 c_0 : Nat) (bk_7 : Nat) (A_7_0_0 : Option Addr) (n_7_0_0 : Nat) (c_7_0_0 : Nat) (A_7_1_0 : Option Addr) (n_7_1_0 : Nat) (c_7_1_0 : Nat) (A_8 : Option Addr) (n_8 c_8 : Nat) (O : Hold W h0 m0 h m [rV bk_7 80 [(Value.slice A_7_0_0 n_7_0_0 c_7_0_0), (Value.slice A_7_1_0 n_7_1_0 c_7_1_0)], rR (aE tell_str) A_7_0_0 c_7_0_0 a_7_0, rR (aE T_api_Type.T) A_7_1_0 c_7_1_0 a_7_1, rR (aE (tell_arrE 2 T_api_Type.T)) A_8 c_8 a_8]) (ne_0 : n_0 = List.length a_0) (k_0 : List.length a_0 ≤ c_0) (r_0 : Rd 1 eStr m A_0 a_0) (ne_7_0_0 : n_7_0_0 = List.length a_7_0) (ne_7_1_0 : n_7_1_0 = List.length a_7_1) (ne_8 : n_8 = List.length a_8) (tab : TB m), f19.l0 (roadref2_Fitting.post W h0 m0 r) A_0 n_0 c_0 (⟨bk_7, 0, none⟩ : Addr) A_8 n_8 c_8 h
  | .j0 a_0 a_7_0 a_7_1 a_8 y_9 y_10, r => ∀ (W : Nat → Prop) (h0 m0 h m : Heap) (A_0 : Option Addr) (n_0 c_0 : Nat) (bk_7 : Nat) (A_7_0_0 : Option Addr) (n_7_0_0 : Nat) (c_7_0_0 : Nat) (A_7_1_0 : Option Addr) (n_7_1_0 : Nat) (c_7_1_0 : Nat) (A_8 : Option Addr) (n_8 c_8 : Nat) (bk_9 : Nat) (cs_9 : List Value) (bk_10 : Nat) (cs_10 : List Value) (O : Hold W h0 m0 h m [rV bk_7 80 [(Value.slice A_7_0_0 n_7_0_0 c_7_0_0), (Value.slice A_7_1_0 n_7_1_0 c_7_1_0)], rR (aE tell_str) A_7_0_0 c_7_0_0 a_7_0, rR (aE T_api_Type.T) A_7_1_0 c_7_1_0 a_7_1, rR (aE (tell_arrE 2 T_api_Type.T)) A_8 c_8 a_8, rV bk_9 25 cs_9, rV bk_10 25 cs_10]) (ne_0 : n_0 = List.length a_0) (k_0 : List.length a_0 ≤ c_0) (r_0 : Rd 1 eStr m A_0 a_0) (ne_7_0_0 : n_7_0_0 = List.length a_7_0) (ne_7_1_0 : n_7_1_0 = List.length a_7_1) (ne_8 : n_8 = List.length a_8) (e_9 : T_api_Type.E m y_9 cs_9) (e_10 : T_api_Type.E m y_10 cs_10) (tab : TB m), f19.j0 (roadref2_Fitting.post W h0 m0 r) A_0 n_0 c_0 (⟨bk_7, 0, none⟩ : Addr) A_8 n_8 c_8 (⟨bk_9, 0, none⟩ : Addr) (⟨bk_10, 0, none⟩ : Addr) h
  | .j2 a_0 a_7_0 a_7_1 a_8 y_9 y_10 b_39, r => ∀ (W : Nat → Prop) (h0 m0 h m : Heap) (A_0 : Option Addr) (n_0 c_0 : Nat) (bk_7 : Nat) (A_7_0_0 : Option Addr) (n_7_0_0 : Nat) (c_7_0_0 : Nat) (A_7_1_0 : Option Addr) (n_7_1_0 : Nat) (c_7_1_0 : Nat) (A_8 : Option Addr) (n_8 c_8 : Nat) (bk_9 : Nat) (cs_9 : List Value) (bk_10 : Nat) (cs_10 : List Value) (O : Hold W h0 m0 h m [rV bk_7 80 [(Value.slice A_7_0_0 n_7_0_0 c_7_0_0), (Value.slice A_7_1_0 n_7_1_0 c_7_1_0)], rR (aE tell_str) A_7_0_0 c_7_0_0 a_7_0, rR (aE T_api_Type.T) A_7_1_0 c_7_1_0 a_7_1, rR (aE (tell_arrE 2 T_api_Type.T)) A_8 c_8 a_8, rV bk_9 25 cs_9, rV bk_10 25 cs_10]) (ne_0 : n_0 = List.length a_0) (k_0 : List.length a_0 ≤ c_0) (r_0 : Rd 1 eStr m A_0 a_0) (ne_7_0_0 : n_7_0_0 = List.length a_7_0) (ne_7_1_0 : n_7_1_0 = List.length a_7_1) (ne_8 : n_8 = List.length a_8) (e_9 : T_api_Type.E m y_9 cs_9) (e_10 : T_api_Type.E m y_10 cs_10) (tab : TB m), f19.j2 (roadref2_Fitting.post W h0 m0 r) A_0 n_0 c_0 (⟨bk_7, 0, none⟩ : Addr) A_8 n_8 c_8 (⟨bk_9, 0, none⟩ : Addr) (⟨bk_10, 0, none⟩ : Addr) b_39 h
  | .j1 a_0 a_7_0 a_7_1 a_8 y_9 y_10, r => ∀ (W : Nat → Prop) (h0 m0 h m : Heap) (A_0 : Option Addr) (n_0 c_0 : Nat) (bk_7 : Nat) (A_7_0_0 : Option Addr) (n_7_0_0 : Nat) (c_7_0_0 : Nat) (A_7_1_0 : Option Addr) (n_7_1_0 : Nat) (c_7_1_0 : Nat) (A_8 : Option Addr) (n_8 c_8 : Nat) (bk_9 : Nat) (cs_9 : List Value) (bk_10 : Nat) (cs_10 : List Value) (O : Hold W h0 m0 h m [rV bk_7 80 [(Value.slice A_7_0_0 n_7_0_0 c_7_0_0), (Value.slice A_7_1_0 n_7_1_0 c_7_1_0)], rR (aE tell_str) A_7_0_0 c_7_0_0 a_7_0, rR (aE T_api_Type.T) A_7_1_0 c_7_1_0 a_7_1, rR (aE (tell_arrE 2 T_api_Type.T)) A_8 c_8 a_8, rV bk_9 25 cs_9, rV bk_10 25 cs_10]) (ne_0 : n_0 = List.length a_0) (k_0 : List.length a_0 ≤ c_0) (r_0 : Rd 1 eStr m A_0 a_0) (ne_7_0_0 : n_7_0_0 = List.length a_7_0) (ne_7_1_0 : n_7_1_0 = List.length a_7_1) (ne_8 : n_8 = List.length a_8) (e_9 : T_api_Type.E m y_9 cs_9) (e_10 : T_api_Type.E m y_10 cs_10) (tab : TB m), f19.j1 (roadref2_Fitting.post W h0 m0 r) A_0 n_0 c_0 (⟨bk_7, 0, none⟩ : Addr) A_8 n_8 c_8 (⟨bk_9, 0, none⟩ : Addr) (⟨bk_10, 0, none⟩ : Addr) h
  | .j3 a_0 a_7_0 a_7_1 a_8 y_9 y_10, r => ∀ (W : Nat → Prop) (h0 m0 h m : Heap) (A_0 : Option Addr) (n_0 c_0 : Nat) (bk_7 : Nat) (A_7_0_0 : Option Addr) (n_7_0_0 : Nat) (c_7_0_0 : Nat) (A_7_1_0 : Option Addr) (n_7_1_0 : Nat) (c_7_1_0 : Nat) (A_8 : Option Addr) (n_8 c_8 : Nat) (bk_9 : Nat) (cs_9 : List Value) (bk_10 : Nat) (cs_10 : List Value) (O : Hold W h0 m0 h m [rV bk_7 80 [(Value.slice A_7_0_0 n_7_0_0 c_7_0_0), (Value.slice A_7_1_0 n_7_1_0 c_7_1_0)], rR (aE tell_str) A_7_0_0 c_7_0_0 a_7_0, rR (aE T_api_Type.T) A_7_1_0 c_7_1_0 a_7_1, rR (aE (tell_arrE 2 T_api_Type.T)) A_8 c_8 a_8, rV bk_9 25 cs_9, rV bk_10 25 cs_10]) (ne_0 : n_0 = List.length a_0) (k_0 : List.length a_0 ≤ c_0) (r_0 : Rd 1 eStr m A_0 a_0) (ne_7_0_0 : n_7_0_0 = List.length a_7_0) (ne_7_1_0 : n_7_1_0 = List.length a_7_1) (ne_8 : n_8 = List.length a_8) (e_9 : T_api_Type.E m y_9 cs_9) (e_10 : T_api_Type.E m y_10 cs_10) (tab : TB m), f19.j3 (roadref2_Fitting.post W h0 m0 r) A_0 n_0 c_0 (⟨bk_7, 0, none⟩ : Addr) A_8 n_8 c_8 (⟨bk_9, 0, none⟩ : Addr) (⟨bk_10, 0, none⟩ : Addr) h
  | .l1 a_0 a_7_0 a_7_1 a_8 y_9 y_10 x_92 x_93, r => ∀ (W : Nat → Prop) (h0 m0 h m : Heap) (A_0 : Option Addr) (n_0 c_0 : Nat) (bk_7 : Nat) (A_7_0_0 : Option Addr) (n_7_0_0 : Nat) (c_7_0_0 : Nat) (A_7_1_0 : Option Addr) (n_7_1_0 : Nat) (c_7_1_0 : Nat) (A_8 : Option Addr) (n_8 c_8 : Nat) (bk_9 : Nat) (cs_9 : List Value) (bk_10 : Nat) (cs_10 : List Value) (O : Hold W h0 m0 h m [rV bk_7 80 [(Value.slice A_7_0_0 n_7_0_0 c_7_0_0), (Value.slice A_7_1_0 n_7_1_0 c_7_1_0)], rR (aE tell_str) A_7_0_0 c_7_0_0 a_7_0, rR (aE T_api_Type.T) A_7_1_0 c_7_1_0 a_7_1, rR (aE (tell_arrE 2 T_api_Type.T)) A_8 c_8 a_8, rV bk_9 25 cs_9, rV bk_10 25 cs_10]) (ne_0 : n_0 = List.length a_0) (k_0 : List.length a_0 ≤ c_0) (r_0 : Rd 1 eStr m A_0 a_0) (ne_7_0_0 : n_7_0_0 = List.length a_7_0) (ne_7_1_0 : n_7_1_0 = List.length a_7_1) (ne_8 : n_8 = List.length a_8) (e_9 : T_api_Type.E m y_9 cs_9) (e_10 : T_api_Type.E m y_10 cs_10) (tab : TB m), f19.l1 (roadref2_Fitting.post W h0 m0 r) A_0 n_0 c_0 (⟨bk_7, 0, none⟩ : Addr) A_8 n_8 c_8 (⟨bk_9, 0, none⟩ : Addr) (⟨bk_10, 0, none⟩ : Addr) x_92 x_93 h
set_option maxHeartbeats 4000000 in
set_option maxRecDepth 100000 in
theorem roadref2_Fitting.l0_k.step_l0 (go : (p : roadref2_Fitting.l0_k.Pt) → Option (Bool)) (ih : ∀ p r, go p = some r → roadref2_Fitting.l0_k.I p r) (a_0 : List ByteArray) (a_7_0 : (List ByteArray)) (a_7_1 : (List T_api_Type)) (a_8 : List (List T_api_Type)) (r : Bool) (e : roadref2_Fitting.l0_k.body go (.l0 a_0 a_7_0 a_7_1 a_8) = some r) : roadref2_Fitting.l0_k.I (.l0 a_0 a_7_0 a_7_1 a_8) r := by
  unfold roadref2_Fitting.l0_k.body at e
  intro W h0 m0 h m A_0 n_0 c_0 bk_7 A_7_0_0 n_7_0_0 c_7_0_0 A_7_1_0 n_7_1_0 c_7_1_0 A_8 n_8 c_8 O ne_0 k_0 r_0 ne_7_0_0 ne_7_1_0 ne_8 tab
  subst ne_0
  subst ne_7_0_0
  subst ne_7_1_0
  subst ne_8
  refine f19.l0_in ?_
  unfold f19.l0T
  refine split_dec_e e (fun c178 e => ?_) (fun c178 e => ?_)
  · obtain ⟨y1, g2, e⟩ := bind_e e
    refine (O.os 3 rfl).addr rfl g2 fun a3 cs4 ha5 hc6 he7 => ?_
    obtain ⟨y8, g9, e⟩ := bind_e e
    refine ⟨gi_le g9, eArrE.ltn he7 g9, ?_⟩
    obtain ⟨y10, g11, e⟩ := bind_e e
    refine (O.os 3 rfl).addr rfl g11 fun a12 cs13 ha14 hc15 he16 => ?_
    obtain ⟨y17, g18, e⟩ := bind_e e
    refine ⟨gi_le g18, eArrE.ltn he16 g18, ?_⟩
    refine ⟨_, ldAkn (Sub.refl _) hc6 (Int.toNat (0 : Int) * 3) 3 (eArrE.leN he7 g9), ?_⟩
    refine ⟨?_, ?_⟩
    · refine ⟨_, ldAkn (Sub.refl _) hc15 (Int.toNat (1 : Int) * 3) 3 (eArrE.leN he16 g18), ?_⟩
      refine ⟨Ext.refl _, ?_⟩
      refine ⟨?_, ?_⟩
      · refine O.new fun h36 x37 O38 => ?_
        refine ⟨x37, ?_⟩
        refine O38.new fun h40 x41 O42 => ?_
        refine ⟨x41, ?_⟩
        refine ⟨_, rfl, (T_api_Type.T.len _ _ _ (eArrE.getN he7 g9)), ?_⟩
        refine O42.stAE 4 rfl (T_api_Type.T.len _ _ _ (eArrE.getN he7 g9)) (T_api_Type.T.flat _ _ _ (eArrE.getN he7 g9)) (eArrE.getN he7 g9) fun h44 cs46 e47 O45 => ?_
        refine ⟨_, rfl, (T_api_Type.T.len _ _ _ (eArrE.getN he16 g18)), ?_⟩
        refine O45.stAE 5 rfl (T_api_Type.T.len _ _ _ (eArrE.getN he16 g18)) (T_api_Type.T.flat _ _ _ (eArrE.getN he16 g18)) (eArrE.getN he16 g18) fun h48 cs50 e51 O49 => ?_
        have O52 := O49.nm
        exact (ih _ _ e) _ _ _ _ _ _ _ _ _ _ _ _ _ _ _ _ _ _ _ _ _ _ (O52.pick [0, 1, 2, 3, 4, 5]).nm rfl k_0 r_0 rfl rfl rfl e47 e51 tab
      · refine O.new fun h53 x54 O55 => ?_
        refine ⟨x54, ?_⟩
        refine O55.new fun h57 x58 O59 => ?_
        refine ⟨x58, ?_⟩
        refine ⟨_, rfl, (T_api_Type.T.len _ _ _ (eArrE.getN he7 g9)), ?_⟩
        refine O59.stAE 5 rfl (T_api_Type.T.len _ _ _ (eArrE.getN he7 g9)) (T_api_Type.T.flat _ _ _ (eArrE.getN he7 g9)) (eArrE.getN he7 g9) fun h61 cs63 e64 O62 => ?_
        refine ⟨_, rfl, (T_api_Type.T.len _ _ _ (eArrE.getN he16 g18)), ?_⟩
        refine O62.stAE 4 rfl (T_api_Type.T.len _ _ _ (eArrE.getN he16 g18)) (T_api_Type.T.flat _ _ _ (eArrE.getN he16 g18)) (eArrE.getN he16 g18) fun h65 cs67 e68 O66 => ?_
        have O69 := O66.nm
        exact (ih _ _ e) _ _ _ _ _ _ _ _ _ _ _ _ _ _ _ _ _ _ _ _ _ _ (O69.pick [0, 1, 2, 3, 5, 4]).nm rfl k_0 r_0 rfl rfl rfl e64 e68 tab
    · refine ⟨?_, ?_⟩
      · refine O.new fun h70 x71 O72 => ?_
        refine ⟨x71, ?_⟩
        refine ⟨?_, ?_⟩
        · obtain ⟨a74, cs75, ha78, hc76, he77⟩ := (O72.os 3 rfl).cellsAt g11
          cases ha14.symm.trans ha78
          refine ⟨_, ldAkn (Sub.refl _) hc76 (Int.toNat (1 : Int) * 3) 3 (eArrE.leN he77 g18), ?_⟩
          refine ⟨Ext.refl _, ?_⟩
          refine O72.new fun h79 x80 O81 => ?_
          refine ⟨x80, ?_⟩
          refine ⟨_, rfl, (T_api_Type.T.len _ _ _ (eArrE.getN he7 g9)), ?_⟩
          refine O81.stAE 4 rfl (T_api_Type.T.len _ _ _ (eArrE.getN he7 g9)) (T_api_Type.T.flat _ _ _ (eArrE.getN he7 g9)) (eArrE.getN he7 g9) fun h83 cs85 e86 O84 => ?_
          refine ⟨_, rfl, (T_api_Type.T.len _ _ _ (eArrE.getN he77 g18)), ?_⟩
          refine O84.stAE 5 rfl (T_api_Type.T.len _ _ _ (eArrE.getN he77 g18)) (T_api_Type.T.flat _ _ _ (eArrE.getN he77 g18)) (eArrE.getN he77 g18) fun h87 cs89 e90 O88 => ?_
          have O91 := O88.nm
          exact (ih _ _ e) _ _ _ _ _ _ _ _ _ _ _ _ _ _ _ _ _ _ _ _ _ _ (O91.pick [0, 1, 2, 3, 4, 5]).nm rfl k_0 r_0 rfl rfl rfl e86 e90 tab
        · refine O72.new fun h92 x93 O94 => ?_
          refine ⟨x93, ?_⟩
          refine ⟨?_, ?_⟩
          · obtain ⟨a96, cs97, ha100, hc98, he99⟩ := (O94.os 3 rfl).cellsAt g11
            cases ha14.symm.trans ha100
            refine ⟨_, ldAkn (Sub.refl _) hc98 (Int.toNat (1 : Int) * 3) 3 (eArrE.leN he99 g18), ?_⟩
            refine ⟨Ext.refl _, ?_⟩
            refine ⟨_, rfl, (T_api_Type.T.len _ _ _ (eArrE.getN he7 g9)), ?_⟩
            refine O94.stAE 4 rfl (T_api_Type.T.len _ _ _ (eArrE.getN he7 g9)) (T_api_Type.T.flat _ _ _ (eArrE.getN he7 g9)) (eArrE.getN he7 g9) fun h101 cs103 e104 O102 => ?_
            refine ⟨_, rfl, (T_api_Type.T.len _ _ _ (eArrE.getN he99 g18)), ?_⟩
            refine O102.stAE 5 rfl (T_api_Type.T.len _ _ _ (eArrE.getN he99 g18)) (T_api_Type.T.flat _ _ _ (eArrE.getN he99 g18)) (eArrE.getN he99 g18) fun h105 cs107 e108 O106 => ?_
            have O109 := O106.nm
            exact (ih _ _ e) _ _ _ _ _ _ _ _ _ _ _ _ _ _ _ _ _ _ _ _ _ _ (O109.pick [0, 1, 2, 3, 4, 5]).nm rfl k_0 r_0 rfl rfl rfl e104 e108 tab
          · refine ⟨_, rfl, (T_api_Type.T.len _ _ _ (eArrE.getN he7 g9)), ?_⟩
            refine O94.stAE 4 rfl (T_api_Type.T.len _ _ _ (eArrE.getN he7 g9)) (T_api_Type.T.flat _ _ _ (eArrE.getN he7 g9)) (eArrE.getN he7 g9) fun h110 cs112 e113 O111 => ?_
            obtain ⟨a114, cs115, ha118, hc116, he117⟩ := (O111.os 3 rfl).cellsAt g11
            cases ha14.symm.trans ha118
            refine ⟨_, ldAkn (Sub.refl _) hc116 (Int.toNat (1 : Int) * 3) 3 (eArrE.leN he117 g18), ?_⟩
            refine ⟨Ext.refl _, ?_⟩
            refine ⟨_, rfl, (T_api_Type.T.len _ _ _ (eArrE.getN he117 g18)), ?_⟩
            refine O111.stAE 5 rfl (T_api_Type.T.len _ _ _ (eArrE.getN he117 g18)) (T_api_Type.T.flat _ _ _ (eArrE.getN he117 g18)) (eArrE.getN he117 g18) fun h119 cs121 e122 O120 => ?_
            have O123 := O120.nm
            exact (ih _ _ e) _ _ _ _ _ _ _ _ _ _ _ _ _ _ _ _ _ _ _ _ _ _ (O123.pick [0, 1, 2, 3, 4, 5]).nm rfl k_0 r_0 rfl rfl rfl e113 e122 tab
      · refine O.new fun h124 x125 O126 => ?_
        refine ⟨x125, ?_⟩
        refine ⟨?_, ?_⟩
        · obtain ⟨a128, cs129, ha132, hc130, he131⟩ := (O126.os 3 rfl).cellsAt g11
          cases ha14.symm.trans ha132
          refine ⟨_, ldAkn (Sub.refl _) hc130 (Int.toNat (1 : Int) * 3) 3 (eArrE.leN he131 g18), ?_⟩
          refine ⟨Ext.refl _, ?_⟩
          refine O126.new fun h133 x134 O135 => ?_
          refine ⟨x134, ?_⟩
          refine ⟨_, rfl, (T_api_Type.T.len _ _ _ (eArrE.getN he7 g9)), ?_⟩
          refine O135.stAE 5 rfl (T_api_Type.T.len _ _ _ (eArrE.getN he7 g9)) (T_api_Type.T.flat _ _ _ (eArrE.getN he7 g9)) (eArrE.getN he7 g9) fun h137 cs139 e140 O138 => ?_
          refine ⟨_, rfl, (T_api_Type.T.len _ _ _ (eArrE.getN he131 g18)), ?_⟩
          refine O138.stAE 4 rfl (T_api_Type.T.len _ _ _ (eArrE.getN he131 g18)) (T_api_Type.T.flat _ _ _ (eArrE.getN he131 g18)) (eArrE.getN he131 g18) fun h141 cs143 e144 O142 => ?_
          have O145 := O142.nm
          exact (ih _ _ e) _ _ _ _ _ _ _ _ _ _ _ _ _ _ _ _ _ _ _ _ _ _ (O145.pick [0, 1, 2, 3, 5, 4]).nm rfl k_0 r_0 rfl rfl rfl e140 e144 tab
        · refine O126.new fun h146 x147 O148 => ?_
          refine ⟨x147, ?_⟩
          refine ⟨?_, ?_⟩
          · obtain ⟨a150, cs151, ha154, hc152, he153⟩ := (O148.os 3 rfl).cellsAt g11
            cases ha14.symm.trans ha154
            refine ⟨_, ldAkn (Sub.refl _) hc152 (Int.toNat (1 : Int) * 3) 3 (eArrE.leN he153 g18), ?_⟩
            refine ⟨Ext.refl _, ?_⟩
            refine ⟨_, rfl, (T_api_Type.T.len _ _ _ (eArrE.getN he7 g9)), ?_⟩
            refine O148.stAE 5 rfl (T_api_Type.T.len _ _ _ (eArrE.getN he7 g9)) (T_api_Type.T.flat _ _ _ (eArrE.getN he7 g9)) (eArrE.getN he7 g9) fun h155 cs157 e158 O156 => ?_
            refine ⟨_, rfl, (T_api_Type.T.len _ _ _ (eArrE.getN he153 g18)), ?_⟩
            refine O156.stAE 4 rfl (T_api_Type.T.len _ _ _ (eArrE.getN he153 g18)) (T_api_Type.T.flat _ _ _ (eArrE.getN he153 g18)) (eArrE.getN he153 g18) fun h159 cs161 e162 O160 => ?_
            have O163 := O160.nm
            exact (ih _ _ e) _ _ _ _ _ _ _ _ _ _ _ _ _ _ _ _ _ _ _ _ _ _ (O163.pick [0, 1, 2, 3, 5, 4]).nm rfl k_0 r_0 rfl rfl rfl e158 e162 tab
          · refine ⟨_, rfl, (T_api_Type.T.len _ _ _ (eArrE.getN he7 g9)), ?_⟩
            refine O148.stAE 5 rfl (T_api_Type.T.len _ _ _ (eArrE.getN he7 g9)) (T_api_Type.T.flat _ _ _ (eArrE.getN he7 g9)) (eArrE.getN he7 g9) fun h164 cs166 e167 O165 => ?_
            obtain ⟨a168, cs169, ha172, hc170, he171⟩ := (O165.os 3 rfl).cellsAt g11
            cases ha14.symm.trans ha172
            refine ⟨_, ldAkn (Sub.refl _) hc170 (Int.toNat (1 : Int) * 3) 3 (eArrE.leN he171 g18), ?_⟩
            refine ⟨Ext.refl _, ?_⟩
            refine ⟨_, rfl, (T_api_Type.T.len _ _ _ (eArrE.getN he171 g18)), ?_⟩
            refine O165.stAE 4 rfl (T_api_Type.T.len _ _ _ (eArrE.getN he171 g18)) (T_api_Type.T.flat _ _ _ (eArrE.getN he171 g18)) (eArrE.getN he171 g18) fun h173 cs175 e176 O174 => ?_
            have O177 := O174.nm
            exact (ih _ _ e) _ _ _ _ _ _ _ _ _ _ _ _ _ _ _ _ _ _ _ _ _ _ (O177.pick [0, 1, 2, 3, 5, 4]).nm rfl k_0 r_0 rfl rfl rfl e167 e176 tab
  · cases e
    exact ⟨_, O.pick [], rfl⟩
set_option maxRecDepth 100000 in
theorem roadref2_Fitting.l0_k.step_j0 (go : (p : roadref2_Fitting.l0_k.Pt) → Option (Bool)) (ih : ∀ p r, go p = some r → roadref2_Fitting.l0_k.I p r) (a_0 : List ByteArray) (a_7_0 : (List ByteArray)) (a_7_1 : (List T_api_Type)) (a_8 : List (List T_api_Type)) (y_9 : T_api_Type) (y_10 : T_api_Type) (r : Bool) (e : roadref2_Fitting.l0_k.body go (.j0 a_0 a_7_0 a_7_1 a_8 y_9 y_10) = some r) : roadref2_Fitting.l0_k.I (.j0 a_0 a_7_0 a_7_1 a_8 y_9 y_10) r := by
  unfold roadref2_Fitting.l0_k.body at e
  intro W h0 m0 h m A_0 n_0 c_0 bk_7 A_7_0_0 n_7_0_0 c_7_0_0 A_7_1_0 n_7_1_0 c_7_1_0 A_8 n_8 c_8 bk_9 cs_9 bk_10 cs_10 O ne_0 k_0 r_0 ne_7_0_0 ne_7_1_0 ne_8 e_9 e_10 tab
  subst ne_0
  subst ne_7_0_0
  subst ne_7_1_0
  subst ne_8
  refine f19.j0_in ?_
  unfold f19.j0T
  obtain ⟨l1, g2, e⟩ := bind_e e
  have q3 := sls_e g2
  refine ⟨q3.1, q3.2.1, cap_in q3.2.2.1 (O.cap 3 rfl), ?_⟩
  try rw [q3.2.2.2.1]
  refine ⟨_, ld0 (Sub.refl _) (O.all 4 rfl) (T_api_Type.g0 e_9), _, rfl, ?_⟩
  refine split_eq_e e (fun c17 e => ?_) (fun c17 e => ?_)
  · refine ⟨_, ldk (k := 1) (Sub.refl _) (O.all 4 rfl) (T_api_Type.g1 e_9), _, rfl, ?_⟩
    obtain ⟨y4, g5, e⟩ := bind_e e
    refine (slices_Contains_6.walk (Hold.start (W := No) O.s) rfl k_0 r_0 g5).mono ?_
    rintro _ h6 ⟨m7, Q8, rfl⟩
    have O10 := Hold.nm (O.retC Q8 vfs_nil)
    refine ⟨_, rfl, ?_⟩
    have O11 := O10.sls 3 rfl g2
    have O13 := O11.nm
    exact (ih _ _ e) _ _ _ _ _ _ _ _ _ _ _ _ _ _ _ _ _ _ _ _ _ _ (O13.pick [0, 1, 2, 3, 4, 5]).nm rfl k_0 r_0 rfl rfl rfl e_9 e_10 tab
  · have O14 := O.sls 3 rfl g2
    have O16 := O14.nm
    exact (ih _ _ e) _ _ _ _ _ _ _ _ _ _ _ _ _ _ _ _ _ _ _ _ _ _ (O16.pick [0, 1, 2, 3, 4, 5]).nm rfl k_0 r_0 rfl rfl rfl e_9 e_10 tab
set_option maxHeartbeats 4000000 in
set_option maxRecDepth 100000 in
theorem roadref2_Fitting.l0_k.step_j2 (go : (p : roadref2_Fitting.l0_k.Pt) → Option (Bool)) (ih : ∀ p r, go p = some r → roadref2_Fitting.l0_k.I p r) (a_0 : List ByteArray) (a_7_0 : (List ByteArray)) (a_7_1 : (List T_api_Type)) (a_8 : List (List T_api_Type)) (y_9 : T_api_Type) (y_10 : T_api_Type) (b_39 : Bool) (r : Bool) (e : roadref2_Fitting.l0_k.body go (.j2 a_0 a_7_0 a_7_1 a_8 y_9 y_10 b_39) = some r) : roadref2_Fitting.l0_k.I (.j2 a_0 a_7_0 a_7_1 a_8 y_9 y_10 b_39) r := by
  unfold roadref2_Fitting.l0_k.body at e
  intro W h0 m0 h m A_0 n_0 c_0 bk_7 A_7_0_0 n_7_0_0 c_7_0_0 A_7_1_0 n_7_1_0 c_7_1_0 A_8 n_8 c_8 bk_9 cs_9 bk_10 cs_10 O ne_0 k_0 r_0 ne_7_0_0 ne_7_1_0 ne_8 e_9 e_10 tab
  subst ne_0
  subst ne_7_0_0
  subst ne_7_1_0
  subst ne_8
  refine f19.j2_in ?_
  unfold f19.j2T
  refine split_any_e e (fun c951 e => ?_) (fun c951 e => ?_)
  · refine ⟨_, ld0 (Sub.refl _) (O.all 0 rfl) rfl, _, _, _, rfl, ?_⟩
    refine ⟨_, ldk (k := 1) (Sub.refl _) (O.all 4 rfl) (T_api_Type.g1 e_9), _, rfl, ?_⟩
    obtain ⟨y1, g2, e⟩ := bind_e e
    obtain ⟨m7, u8, s13, ⟨⟨r11, k12⟩, _⟩, B9, C10⟩ := O.lend0 [1]
    replace r11 : Rd 1 eStr m7 A_7_0_0 a_7_0 := r11
    replace k12 : List.length a_7_0 ≤ c_7_0_0 := k12
    refine (slices_Index_33.walk (Hold.start (W := No) s13) rfl k12 r11 g2).mono ?_
    rintro _ h3 ⟨m4, Q5, rfl⟩
    have O14 := Hold.nm (C10 Q5 vfs_nil)
    refine ⟨_, rfl, ?_⟩
    refine split_dec_e e (fun c950 e => ?_) (fun c950 e => ?_)
    · refine ⟨_, ld0 (Sub.refl _) (O14.all 0 rfl) rfl, _, _, _, rfl, ?_⟩
      refine ⟨_, ldk (k := 1) (Sub.refl _) (O14.all 4 rfl) (T_api_Type.g1 e_9), _, rfl, ?_⟩
      obtain ⟨l19, g20, e⟩ := bind_e e
      obtain ⟨l33, g34, e⟩ := bind_e e
      refine ⟨?_, ?_⟩
      · refine O14.new fun h48 x49 O50 => ?_
        refine ⟨x49, ?_⟩
        refine ⟨?_, ?_⟩
        · have O60 := O50.rowE (l := ([y_9.Name] : List ByteArray)) 6 rfl tell_str (show CsE _ _ _ _ _ from (CsE.cons (c1 := [(Value.string y_9.Name)]) rfl rfl CsE.nil)) rfl
          refine O60.app 1 rfl rfl rfl ((O60.os 6 rfl).srcE rfl) (by decide) g20 fun A54 c55 h56 O57 => ?_
          refine ⟨_, _, _, rfl, ?_⟩
          refine ⟨?_, ?_⟩
          · refine ⟨_, ldk (k := 1) (Sub.refl _) (O57.all 0 rfl) rfl, _, _, _, rfl, ?_⟩
            refine ⟨Ext.refl _, ?_⟩
            refine ⟨_, ldAn (Sub.refl _) (O57.all 5 rfl) (T_api_Type.T.len _ _ _ e_10), ?_⟩
            refine ⟨Ext.refl _, ?_⟩
            refine ⟨cs_10, rfl, (T_api_Type.T.len _ _ _ e_10), ?_⟩
            refine O57.new fun h61 x62 O63 => ?_
            have O65 := O63.recell 7 rfl (cs' := cs_10 ++ []) rfl
            refine ⟨x62, ?_⟩
            have O74 := O65.rowE (l := ([y_10] : List T_api_Type)) 7 rfl T_api_Type.T (show CsE _ _ _ _ _ from (CsE.cons e_10 (T_api_Type.T.len _ _ _ e_10) CsE.nil)) rfl
            refine O74.app 2 rfl rfl rfl ((O74.os 7 rfl).srcE rfl) (by decide) g34 fun A68 c69 h70 O71 => ?_
            refine ⟨_, _, _, rfl, ?_⟩
            have O75 := O71.nm
            refine O75.st0 0 rfl (Nat.le_of_ble_eq_true rfl) trivial fun h76 O77 => ?_
            refine O77.st 0 rfl 1 (Nat.le_of_ble_eq_true rfl) trivial fun h78 O79 => ?_
            have O80 := O79.nm
            exact (ih _ _ e) _ _ _ _ _ _ _ _ _ _ _ _ _ _ _ _ _ _ (O80.pick [0, 1, 2, 3]).nm rfl k_0 r_0 rfl rfl rfl tab
          · refine ⟨_, ldAn (Sub.refl _) (O57.all 5 rfl) (T_api_Type.T.len _ _ _ e_10), ?_⟩
            refine ⟨Ext.refl _, ?_⟩
            refine ⟨?_, ?_⟩
            · refine ⟨_, ldk (k := 1) (Sub.refl _) (O57.all 0 rfl) rfl, _, _, _, rfl, ?_⟩
              refine ⟨Ext.refl _, ?_⟩
              refine ⟨cs_10, rfl, (T_api_Type.T.len _ _ _ e_10), ?_⟩
              refine O57.new fun h81 x82 O83 => ?_
              have O85 := O83.recell 7 rfl (cs' := cs_10 ++ []) rfl
              refine ⟨x82, ?_⟩
              have O94 := O85.rowE (l := ([y_10] : List T_api_Type)) 7 rfl T_api_Type.T (show CsE _ _ _ _ _ from (CsE.cons e_10 (T_api_Type.T.len _ _ _ e_10) CsE.nil)) rfl
              refine O94.app 2 rfl rfl rfl ((O94.os 7 rfl).srcE rfl) (by decide) g34 fun A88 c89 h90 O91 => ?_
              refine ⟨_, _, _, rfl, ?_⟩
              have O95 := O91.nm
              refine O95.st0 0 rfl (Nat.le_of_ble_eq_true rfl) trivial fun h96 O97 => ?_
              refine O97.st 0 rfl 1 (Nat.le_of_ble_eq_true rfl) trivial fun h98 O99 => ?_
              have O100 := O99.nm
              exact (ih _ _ e) _ _ _ _ _ _ _ _ _ _ _ _ _ _ _ _ _ _ (O100.pick [0, 1, 2, 3]).nm rfl k_0 r_0 rfl rfl rfl tab
            · refine ⟨cs_10, rfl, (T_api_Type.T.len _ _ _ e_10), ?_⟩
              refine O57.new fun h101 x102 O103 => ?_
              have O105 := O103.recell 7 rfl (cs' := cs_10 ++ []) rfl
              refine ⟨x102, ?_⟩
              refine ⟨_, ldk (k := 1) (Sub.refl _) (O105.all 0 rfl) rfl, _, _, _, rfl, ?_⟩
              refine ⟨Ext.refl _, ?_⟩
              have O114 := O105.rowE (l := ([y_10] : List T_api_Type)) 7 rfl T_api_Type.T (show CsE _ _ _ _ _ from (CsE.cons e_10 (T_api_Type.T.len _ _ _ e_10) CsE.nil)) rfl
              refine O114.app 2 rfl rfl rfl ((O114.os 7 rfl).srcE rfl) (by decide) g34 fun A108 c109 h110 O111 => ?_
              refine ⟨_, _, _, rfl, ?_⟩
              have O115 := O111.nm
              refine O115.st0 0 rfl (Nat.le_of_ble_eq_true rfl) trivial fun h116 O117 => ?_
              refine O117.st 0 rfl 1 (Nat.le_of_ble_eq_true rfl) trivial fun h118 O119 => ?_
              have O120 := O119.nm
              exact (ih _ _ e) _ _ _ _ _ _ _ _ _ _ _ _ _ _ _ _ _ _ (O120.pick [0, 1, 2, 3]).nm rfl k_0 r_0 rfl rfl rfl tab
        · refine ⟨?_, ?_⟩
          · refine ⟨_, ldk (k := 1) (Sub.refl _) (O50.all 0 rfl) rfl, _, _, _, rfl, ?_⟩
            refine ⟨Ext.refl _, ?_⟩
            refine ⟨?_, ?_⟩
            · have O129 := O50.rowE (l := ([y_9.Name] : List ByteArray)) 6 rfl tell_str (show CsE _ _ _ _ _ from (CsE.cons (c1 := [(Value.string y_9.Name)]) rfl rfl CsE.nil)) rfl
              refine O129.app 1 rfl rfl rfl ((O129.os 6 rfl).srcE rfl) (by decide) g20 fun A123 c124 h125 O126 => ?_
              refine ⟨_, _, _, rfl, ?_⟩
              refine ⟨_, ldAn (Sub.refl _) (O126.all 5 rfl) (T_api_Type.T.len _ _ _ e_10), ?_⟩
              refine ⟨Ext.refl _, ?_⟩
              refine ⟨cs_10, rfl, (T_api_Type.T.len _ _ _ e_10), ?_⟩
              refine O126.new fun h130 x131 O132 => ?_
              have O134 := O132.recell 7 rfl (cs' := cs_10 ++ []) rfl
              refine ⟨x131, ?_⟩
              have O143 := O134.rowE (l := ([y_10] : List T_api_Type)) 7 rfl T_api_Type.T (show CsE _ _ _ _ _ from (CsE.cons e_10 (T_api_Type.T.len _ _ _ e_10) CsE.nil)) rfl
              refine O143.app 2 rfl rfl rfl ((O143.os 7 rfl).srcE rfl) (by decide) g34 fun A137 c138 h139 O140 => ?_
              refine ⟨_, _, _, rfl, ?_⟩
              have O144 := O140.nm
              refine O144.st0 0 rfl (Nat.le_of_ble_eq_true rfl) trivial fun h145 O146 => ?_
              refine O146.st 0 rfl 1 (Nat.le_of_ble_eq_true rfl) trivial fun h147 O148 => ?_
              have O149 := O148.nm
              exact (ih _ _ e) _ _ _ _ _ _ _ _ _ _ _ _ _ _ _ _ _ _ (O149.pick [0, 1, 2, 3]).nm rfl k_0 r_0 rfl rfl rfl tab
            · refine ⟨_, ldAn (Sub.refl _) (O50.all 5 rfl) (T_api_Type.T.len _ _ _ e_10), ?_⟩
              refine ⟨Ext.refl _, ?_⟩
              refine ⟨?_, ?_⟩
              · have O158 := O50.rowE (l := ([y_9.Name] : List ByteArray)) 6 rfl tell_str (show CsE _ _ _ _ _ from (CsE.cons (c1 := [(Value.string y_9.Name)]) rfl rfl CsE.nil)) rfl
                refine O158.app 1 rfl rfl rfl ((O158.os 6 rfl).srcE rfl) (by decide) g20 fun A152 c153 h154 O155 => ?_
                refine ⟨_, _, _, rfl, ?_⟩
                refine ⟨cs_10, rfl, (T_api_Type.T.len _ _ _ e_10), ?_⟩
                refine O155.new fun h159 x160 O161 => ?_
                have O163 := O161.recell 7 rfl (cs' := cs_10 ++ []) rfl
                refine ⟨x160, ?_⟩
                have O172 := O163.rowE (l := ([y_10] : List T_api_Type)) 7 rfl T_api_Type.T (show CsE _ _ _ _ _ from (CsE.cons e_10 (T_api_Type.T.len _ _ _ e_10) CsE.nil)) rfl
                refine O172.app 2 rfl rfl rfl ((O172.os 7 rfl).srcE rfl) (by decide) g34 fun A166 c167 h168 O169 => ?_
                refine ⟨_, _, _, rfl, ?_⟩
                have O173 := O169.nm
                refine O173.st0 0 rfl (Nat.le_of_ble_eq_true rfl) trivial fun h174 O175 => ?_
                refine O175.st 0 rfl 1 (Nat.le_of_ble_eq_true rfl) trivial fun h176 O177 => ?_
                have O178 := O177.nm
                exact (ih _ _ e) _ _ _ _ _ _ _ _ _ _ _ _ _ _ _ _ _ _ (O178.pick [0, 1, 2, 3]).nm rfl k_0 r_0 rfl rfl rfl tab
              · refine ⟨cs_10, rfl, (T_api_Type.T.len _ _ _ e_10), ?_⟩
                refine O50.new fun h179 x180 O181 => ?_
                have O183 := O181.recell 7 rfl (cs' := cs_10 ++ []) rfl
                refine ⟨x180, ?_⟩
                have O192 := O183.rowE (l := ([y_9.Name] : List ByteArray)) 6 rfl tell_str (show CsE _ _ _ _ _ from (CsE.cons (c1 := [(Value.string y_9.Name)]) rfl rfl CsE.nil)) rfl
                refine O192.app 1 rfl rfl rfl ((O192.os 6 rfl).srcE rfl) (by decide) g20 fun A186 c187 h188 O189 => ?_
                refine ⟨_, _, _, rfl, ?_⟩
                have O201 := O189.rowE (l := ([y_10] : List T_api_Type)) 7 rfl T_api_Type.T (show CsE _ _ _ _ _ from (CsE.cons e_10 (T_api_Type.T.len _ _ _ e_10) CsE.nil)) rfl
                refine O201.app 2 rfl rfl rfl ((O201.os 7 rfl).srcE rfl) (by decide) g34 fun A195 c196 h197 O198 => ?_
                refine ⟨_, _, _, rfl, ?_⟩
                have O202 := O198.nm
                refine O202.st0 0 rfl (Nat.le_of_ble_eq_true rfl) trivial fun h203 O204 => ?_
                refine O204.st 0 rfl 1 (Nat.le_of_ble_eq_true rfl) trivial fun h205 O206 => ?_
                have O207 := O206.nm
                exact (ih _ _ e) _ _ _ _ _ _ _ _ _ _ _ _ _ _ _ _ _ _ (O207.pick [0, 1, 2, 3]).nm rfl k_0 r_0 rfl rfl rfl tab
          · refine ⟨_, ldAn (Sub.refl _) (O50.all 5 rfl) (T_api_Type.T.len _ _ _ e_10), ?_⟩
            refine ⟨Ext.refl _, ?_⟩
            refine ⟨?_, ?_⟩
            · have O216 := O50.rowE (l := ([y_9.Name] : List ByteArray)) 6 rfl tell_str (show CsE _ _ _ _ _ from (CsE.cons (c1 := [(Value.string y_9.Name)]) rfl rfl CsE.nil)) rfl
              refine O216.app 1 rfl rfl rfl ((O216.os 6 rfl).srcE rfl) (by decide) g20 fun A210 c211 h212 O213 => ?_
              refine ⟨_, _, _, rfl, ?_⟩
              refine ⟨?_, ?_⟩
              · refine ⟨_, ldk (k := 1) (Sub.refl _) (O213.all 0 rfl) rfl, _, _, _, rfl, ?_⟩
                refine ⟨Ext.refl _, ?_⟩
                refine ⟨cs_10, rfl, (T_api_Type.T.len _ _ _ e_10), ?_⟩
                refine O213.new fun h217 x218 O219 => ?_
                have O221 := O219.recell 7 rfl (cs' := cs_10 ++ []) rfl
                refine ⟨x218, ?_⟩
                have O230 := O221.rowE (l := ([y_10] : List T_api_Type)) 7 rfl T_api_Type.T (show CsE _ _ _ _ _ from (CsE.cons e_10 (T_api_Type.T.len _ _ _ e_10) CsE.nil)) rfl
                refine O230.app 2 rfl rfl rfl ((O230.os 7 rfl).srcE rfl) (by decide) g34 fun A224 c225 h226 O227 => ?_
                refine ⟨_, _, _, rfl, ?_⟩
                have O231 := O227.nm
                refine O231.st0 0 rfl (Nat.le_of_ble_eq_true rfl) trivial fun h232 O233 => ?_
                refine O233.st 0 rfl 1 (Nat.le_of_ble_eq_true rfl) trivial fun h234 O235 => ?_
                have O236 := O235.nm
                exact (ih _ _ e) _ _ _ _ _ _ _ _ _ _ _ _ _ _ _ _ _ _ (O236.pick [0, 1, 2, 3]).nm rfl k_0 r_0 rfl rfl rfl tab
              · refine ⟨cs_10, rfl, (T_api_Type.T.len _ _ _ e_10), ?_⟩
                refine O213.new fun h237 x238 O239 => ?_
                have O241 := O239.recell 7 rfl (cs' := cs_10 ++ []) rfl
                refine ⟨x238, ?_⟩
                refine ⟨_, ldk (k := 1) (Sub.refl _) (O241.all 0 rfl) rfl, _, _, _, rfl, ?_⟩
                refine ⟨Ext.refl _, ?_⟩
                have O250 := O241.rowE (l := ([y_10] : List T_api_Type)) 7 rfl T_api_Type.T (show CsE _ _ _ _ _ from (CsE.cons e_10 (T_api_Type.T.len _ _ _ e_10) CsE.nil)) rfl
                refine O250.app 2 rfl rfl rfl ((O250.os 7 rfl).srcE rfl) (by decide) g34 fun A244 c245 h246 O247 => ?_
                refine ⟨_, _, _, rfl, ?_⟩
                have O251 := O247.nm
                refine O251.st0 0 rfl (Nat.le_of_ble_eq_true rfl) trivial fun h252 O253 => ?_
                refine O253.st 0 rfl 1 (Nat.le_of_ble_eq_true rfl) trivial fun h254 O255 => ?_
                have O256 := O255.nm
                exact (ih _ _ e) _ _ _ _ _ _ _ _ _ _ _ _ _ _ _ _ _ _ (O256.pick [0, 1, 2, 3]).nm rfl k_0 r_0 rfl rfl rfl tab
            · refine ⟨?_, ?_⟩
              · refine ⟨_, ldk (k := 1) (Sub.refl _) (O50.all 0 rfl) rfl, _, _, _, rfl, ?_⟩
                refine ⟨Ext.refl _, ?_⟩
                refine ⟨?_, ?_⟩
                · have O265 := O50.rowE (l := ([y_9.Name] : List ByteArray)) 6 rfl tell_str (show CsE _ _ _ _ _ from (CsE.cons (c1 := [(Value.string y_9.Name)]) rfl rfl CsE.nil)) rfl
                  refine O265.app 1 rfl rfl rfl ((O265.os 6 rfl).srcE rfl) (by decide) g20 fun A259 c260 h261 O262 => ?_
                  refine ⟨_, _, _, rfl, ?_⟩
                  refine ⟨cs_10, rfl, (T_api_Type.T.len _ _ _ e_10), ?_⟩
                  refine O262.new fun h266 x267 O268 => ?_
                  have O270 := O268.recell 7 rfl (cs' := cs_10 ++ []) rfl
                  refine ⟨x267, ?_⟩
                  have O279 := O270.rowE (l := ([y_10] : List T_api_Type)) 7 rfl T_api_Type.T (show CsE _ _ _ _ _ from (CsE.cons e_10 (T_api_Type.T.len _ _ _ e_10) CsE.nil)) rfl
                  refine O279.app 2 rfl rfl rfl ((O279.os 7 rfl).srcE rfl) (by decide) g34 fun A273 c274 h275 O276 => ?_
                  refine ⟨_, _, _, rfl, ?_⟩
                  have O280 := O276.nm
                  refine O280.st0 0 rfl (Nat.le_of_ble_eq_true rfl) trivial fun h281 O282 => ?_
                  refine O282.st 0 rfl 1 (Nat.le_of_ble_eq_true rfl) trivial fun h283 O284 => ?_
                  have O285 := O284.nm
                  exact (ih _ _ e) _ _ _ _ _ _ _ _ _ _ _ _ _ _ _ _ _ _ (O285.pick [0, 1, 2, 3]).nm rfl k_0 r_0 rfl rfl rfl tab
                · refine ⟨cs_10, rfl, (T_api_Type.T.len _ _ _ e_10), ?_⟩
                  refine O50.new fun h286 x287 O288 => ?_
                  have O290 := O288.recell 7 rfl (cs' := cs_10 ++ []) rfl
                  refine ⟨x287, ?_⟩
                  have O299 := O290.rowE (l := ([y_9.Name] : List ByteArray)) 6 rfl tell_str (show CsE _ _ _ _ _ from (CsE.cons (c1 := [(Value.string y_9.Name)]) rfl rfl CsE.nil)) rfl
                  refine O299.app 1 rfl rfl rfl ((O299.os 6 rfl).srcE rfl) (by decide) g20 fun A293 c294 h295 O296 => ?_
                  refine ⟨_, _, _, rfl, ?_⟩
                  have O308 := O296.rowE (l := ([y_10] : List T_api_Type)) 7 rfl T_api_Type.T (show CsE _ _ _ _ _ from (CsE.cons e_10 (T_api_Type.T.len _ _ _ e_10) CsE.nil)) rfl
                  refine O308.app 2 rfl rfl rfl ((O308.os 7 rfl).srcE rfl) (by decide) g34 fun A302 c303 h304 O305 => ?_
                  refine ⟨_, _, _, rfl, ?_⟩
                  have O309 := O305.nm
                  refine O309.st0 0 rfl (Nat.le_of_ble_eq_true rfl) trivial fun h310 O311 => ?_
                  refine O311.st 0 rfl 1 (Nat.le_of_ble_eq_true rfl) trivial fun h312 O313 => ?_
                  have O314 := O313.nm
                  exact (ih _ _ e) _ _ _ _ _ _ _ _ _ _ _ _ _ _ _ _ _ _ (O314.pick [0, 1, 2, 3]).nm rfl k_0 r_0 rfl rfl rfl tab
              · refine ⟨cs_10, rfl, (T_api_Type.T.len _ _ _ e_10), ?_⟩
                refine O50.new fun h315 x316 O317 => ?_
                have O319 := O317.recell 7 rfl (cs' := cs_10 ++ []) rfl
                refine ⟨x316, ?_⟩
                refine ⟨?_, ?_⟩
                · have O328 := O319.rowE (l := ([y_9.Name] : List ByteArray)) 6 rfl tell_str (show CsE _ _ _ _ _ from (CsE.cons (c1 := [(Value.string y_9.Name)]) rfl rfl CsE.nil)) rfl
                  refine O328.app 1 rfl rfl rfl ((O328.os 6 rfl).srcE rfl) (by decide) g20 fun A322 c323 h324 O325 => ?_
                  refine ⟨_, _, _, rfl, ?_⟩
                  refine ⟨_, ldk (k := 1) (Sub.refl _) (O325.all 0 rfl) rfl, _, _, _, rfl, ?_⟩
                  refine ⟨Ext.refl _, ?_⟩
                  have O337 := O325.rowE (l := ([y_10] : List T_api_Type)) 7 rfl T_api_Type.T (show CsE _ _ _ _ _ from (CsE.cons e_10 (T_api_Type.T.len _ _ _ e_10) CsE.nil)) rfl
                  refine O337.app 2 rfl rfl rfl ((O337.os 7 rfl).srcE rfl) (by decide) g34 fun A331 c332 h333 O334 => ?_
                  refine ⟨_, _, _, rfl, ?_⟩
                  have O338 := O334.nm
                  refine O338.st0 0 rfl (Nat.le_of_ble_eq_true rfl) trivial fun h339 O340 => ?_
                  refine O340.st 0 rfl 1 (Nat.le_of_ble_eq_true rfl) trivial fun h341 O342 => ?_
                  have O343 := O342.nm
                  exact (ih _ _ e) _ _ _ _ _ _ _ _ _ _ _ _ _ _ _ _ _ _ (O343.pick [0, 1, 2, 3]).nm rfl k_0 r_0 rfl rfl rfl tab
                · refine ⟨_, ldk (k := 1) (Sub.refl _) (O319.all 0 rfl) rfl, _, _, _, rfl, ?_⟩
                  refine ⟨Ext.refl _, ?_⟩
                  have O352 := O319.rowE (l := ([y_9.Name] : List ByteArray)) 6 rfl tell_str (show CsE _ _ _ _ _ from (CsE.cons (c1 := [(Value.string y_9.Name)]) rfl rfl CsE.nil)) rfl
                  refine O352.app 1 rfl rfl rfl ((O352.os 6 rfl).srcE rfl) (by decide) g20 fun A346 c347 h348 O349 => ?_
                  refine ⟨_, _, _, rfl, ?_⟩
                  have O361 := O349.rowE (l := ([y_10] : List T_api_Type)) 7 rfl T_api_Type.T (show CsE _ _ _ _ _ from (CsE.cons e_10 (T_api_Type.T.len _ _ _ e_10) CsE.nil)) rfl
                  refine O361.app 2 rfl rfl rfl ((O361.os 7 rfl).srcE rfl) (by decide) g34 fun A355 c356 h357 O358 => ?_
                  refine ⟨_, _, _, rfl, ?_⟩
                  have O362 := O358.nm
                  refine O362.st0 0 rfl (Nat.le_of_ble_eq_true rfl) trivial fun h363 O364 => ?_
                  refine O364.st 0 rfl 1 (Nat.le_of_ble_eq_true rfl) trivial fun h365 O366 => ?_
                  have O367 := O366.nm
                  exact (ih _ _ e) _ _ _ _ _ _ _ _ _ _ _ _ _ _ _ _ _ _ (O367.pick [0, 1, 2, 3]).nm rfl k_0 r_0 rfl rfl rfl tab
      · refine ⟨?_, ?_⟩
        · refine ⟨_, ldk (k := 1) (Sub.refl _) (O14.all 0 rfl) rfl, _, _, _, rfl, ?_⟩
          refine ⟨Ext.refl _, ?_⟩
          refine ⟨?_, ?_⟩
          · refine O14.new fun h368 x369 O370 => ?_
            refine ⟨x369, ?_⟩
            refine ⟨?_, ?_⟩
            · have O380 := O370.rowE (l := ([y_9.Name] : List ByteArray)) 6 rfl tell_str (show CsE _ _ _ _ _ from (CsE.cons (c1 := [(Value.string y_9.Name)]) rfl rfl CsE.nil)) rfl
              refine O380.app 1 rfl rfl rfl ((O380.os 6 rfl).srcE rfl) (by decide) g20 fun A374 c375 h376 O377 => ?_
              refine ⟨_, _, _, rfl, ?_⟩
              refine ⟨_, ldAn (Sub.refl _) (O377.all 5 rfl) (T_api_Type.T.len _ _ _ e_10), ?_⟩
              refine ⟨Ext.refl _, ?_⟩
              refine ⟨cs_10, rfl, (T_api_Type.T.len _ _ _ e_10), ?_⟩
              refine O377.new fun h381 x382 O383 => ?_
              have O385 := O383.recell 7 rfl (cs' := cs_10 ++ []) rfl
              refine ⟨x382, ?_⟩
              have O394 := O385.rowE (l := ([y_10] : List T_api_Type)) 7 rfl T_api_Type.T (show CsE _ _ _ _ _ from (CsE.cons e_10 (T_api_Type.T.len _ _ _ e_10) CsE.nil)) rfl
              refine O394.app 2 rfl rfl rfl ((O394.os 7 rfl).srcE rfl) (by decide) g34 fun A388 c389 h390 O391 => ?_
              refine ⟨_, _, _, rfl, ?_⟩
              have O395 := O391.nm
              refine O395.st0 0 rfl (Nat.le_of_ble_eq_true rfl) trivial fun h396 O397 => ?_
              refine O397.st 0 rfl 1 (Nat.le_of_ble_eq_true rfl) trivial fun h398 O399 => ?_
              have O400 := O399.nm
              exact (ih _ _ e) _ _ _ _ _ _ _ _ _ _ _ _ _ _ _ _ _ _ (O400.pick [0, 1, 2, 3]).nm rfl k_0 r_0 rfl rfl rfl tab
            · refine ⟨_, ldAn (Sub.refl _) (O370.all 5 rfl) (T_api_Type.T.len _ _ _ e_10), ?_⟩
              refine ⟨Ext.refl _, ?_⟩
              refine ⟨?_, ?_⟩
              · have O409 := O370.rowE (l := ([y_9.Name] : List ByteArray)) 6 rfl tell_str (show CsE _ _ _ _ _ from (CsE.cons (c1 := [(Value.string y_9.Name)]) rfl rfl CsE.nil)) rfl
                refine O409.app 1 rfl rfl rfl ((O409.os 6 rfl).srcE rfl) (by decide) g20 fun A403 c404 h405 O406 => ?_
                refine ⟨_, _, _, rfl, ?_⟩
                refine ⟨cs_10, rfl, (T_api_Type.T.len _ _ _ e_10), ?_⟩
                refine O406.new fun h410 x411 O412 => ?_
                have O414 := O412.recell 7 rfl (cs' := cs_10 ++ []) rfl
                refine ⟨x411, ?_⟩
                have O423 := O414.rowE (l := ([y_10] : List T_api_Type)) 7 rfl T_api_Type.T (show CsE _ _ _ _ _ from (CsE.cons e_10 (T_api_Type.T.len _ _ _ e_10) CsE.nil)) rfl
                refine O423.app 2 rfl rfl rfl ((O423.os 7 rfl).srcE rfl) (by decide) g34 fun A417 c418 h419 O420 => ?_
                refine ⟨_, _, _, rfl, ?_⟩
                have O424 := O420.nm
                refine O424.st0 0 rfl (Nat.le_of_ble_eq_true rfl) trivial fun h425 O426 => ?_
                refine O426.st 0 rfl 1 (Nat.le_of_ble_eq_true rfl) trivial fun h427 O428 => ?_
                have O429 := O428.nm
                exact (ih _ _ e) _ _ _ _ _ _ _ _ _ _ _ _ _ _ _ _ _ _ (O429.pick [0, 1, 2, 3]).nm rfl k_0 r_0 rfl rfl rfl tab
              · refine ⟨cs_10, rfl, (T_api_Type.T.len _ _ _ e_10), ?_⟩
                refine O370.new fun h430 x431 O432 => ?_
                have O434 := O432.recell 7 rfl (cs' := cs_10 ++ []) rfl
                refine ⟨x431, ?_⟩
                have O443 := O434.rowE (l := ([y_9.Name] : List ByteArray)) 6 rfl tell_str (show CsE _ _ _ _ _ from (CsE.cons (c1 := [(Value.string y_9.Name)]) rfl rfl CsE.nil)) rfl
                refine O443.app 1 rfl rfl rfl ((O443.os 6 rfl).srcE rfl) (by decide) g20 fun A437 c438 h439 O440 => ?_
                refine ⟨_, _, _, rfl, ?_⟩
                have O452 := O440.rowE (l := ([y_10] : List T_api_Type)) 7 rfl T_api_Type.T (show CsE _ _ _ _ _ from (CsE.cons e_10 (T_api_Type.T.len _ _ _ e_10) CsE.nil)) rfl
                refine O452.app 2 rfl rfl rfl ((O452.os 7 rfl).srcE rfl) (by decide) g34 fun A446 c447 h448 O449 => ?_
                refine ⟨_, _, _, rfl, ?_⟩
                have O453 := O449.nm
                refine O453.st0 0 rfl (Nat.le_of_ble_eq_true rfl) trivial fun h454 O455 => ?_
                refine O455.st 0 rfl 1 (Nat.le_of_ble_eq_true rfl) trivial fun h456 O457 => ?_
                have O458 := O457.nm
                exact (ih _ _ e) _ _ _ _ _ _ _ _ _ _ _ _ _ _ _ _ _ _ (O458.pick [0, 1, 2, 3]).nm rfl k_0 r_0 rfl rfl rfl tab
          · refine ⟨_, ldAn (Sub.refl _) (O14.all 5 rfl) (T_api_Type.T.len _ _ _ e_10), ?_⟩
            refine ⟨Ext.refl _, ?_⟩
            refine ⟨?_, ?_⟩
            · refine O14.new fun h459 x460 O461 => ?_
              refine ⟨x460, ?_⟩
              refine ⟨?_, ?_⟩
              · have O471 := O461.rowE (l := ([y_9.Name] : List ByteArray)) 6 rfl tell_str (show CsE _ _ _ _ _ from (CsE.cons (c1 := [(Value.string y_9.Name)]) rfl rfl CsE.nil)) rfl
                refine O471.app 1 rfl rfl rfl ((O471.os 6 rfl).srcE rfl) (by decide) g20 fun A465 c466 h467 O468 => ?_
                refine ⟨_, _, _, rfl, ?_⟩
                refine ⟨cs_10, rfl, (T_api_Type.T.len _ _ _ e_10), ?_⟩
                refine O468.new fun h472 x473 O474 => ?_
                have O476 := O474.recell 7 rfl (cs' := cs_10 ++ []) rfl
                refine ⟨x473, ?_⟩
                have O485 := O476.rowE (l := ([y_10] : List T_api_Type)) 7 rfl T_api_Type.T (show CsE _ _ _ _ _ from (CsE.cons e_10 (T_api_Type.T.len _ _ _ e_10) CsE.nil)) rfl
                refine O485.app 2 rfl rfl rfl ((O485.os 7 rfl).srcE rfl) (by decide) g34 fun A479 c480 h481 O482 => ?_
                refine ⟨_, _, _, rfl, ?_⟩
                have O486 := O482.nm
                refine O486.st0 0 rfl (Nat.le_of_ble_eq_true rfl) trivial fun h487 O488 => ?_
                refine O488.st 0 rfl 1 (Nat.le_of_ble_eq_true rfl) trivial fun h489 O490 => ?_
                have O491 := O490.nm
                exact (ih _ _ e) _ _ _ _ _ _ _ _ _ _ _ _ _ _ _ _ _ _ (O491.pick [0, 1, 2, 3]).nm rfl k_0 r_0 rfl rfl rfl tab
              · refine ⟨cs_10, rfl, (T_api_Type.T.len _ _ _ e_10), ?_⟩
                refine O461.new fun h492 x493 O494 => ?_
                have O496 := O494.recell 7 rfl (cs' := cs_10 ++ []) rfl
                refine ⟨x493, ?_⟩
                have O505 := O496.rowE (l := ([y_9.Name] : List ByteArray)) 6 rfl tell_str (show CsE _ _ _ _ _ from (CsE.cons (c1 := [(Value.string y_9.Name)]) rfl rfl CsE.nil)) rfl
                refine O505.app 1 rfl rfl rfl ((O505.os 6 rfl).srcE rfl) (by decide) g20 fun A499 c500 h501 O502 => ?_
                refine ⟨_, _, _, rfl, ?_⟩
                have O514 := O502.rowE (l := ([y_10] : List T_api_Type)) 7 rfl T_api_Type.T (show CsE _ _ _ _ _ from (CsE.cons e_10 (T_api_Type.T.len _ _ _ e_10) CsE.nil)) rfl
                refine O514.app 2 rfl rfl rfl ((O514.os 7 rfl).srcE rfl) (by decide) g34 fun A508 c509 h510 O511 => ?_
                refine ⟨_, _, _, rfl, ?_⟩
                have O515 := O511.nm
                refine O515.st0 0 rfl (Nat.le_of_ble_eq_true rfl) trivial fun h516 O517 => ?_
                refine O517.st 0 rfl 1 (Nat.le_of_ble_eq_true rfl) trivial fun h518 O519 => ?_
                have O520 := O519.nm
                exact (ih _ _ e) _ _ _ _ _ _ _ _ _ _ _ _ _ _ _ _ _ _ (O520.pick [0, 1, 2, 3]).nm rfl k_0 r_0 rfl rfl rfl tab
            · refine ⟨cs_10, rfl, (T_api_Type.T.len _ _ _ e_10), ?_⟩
              refine O14.new fun h521 x522 O523 => ?_
              have O525 := O523.recell 6 rfl (cs' := cs_10 ++ []) rfl
              refine ⟨x522, ?_⟩
              refine O525.new fun h526 x527 O528 => ?_
              refine ⟨x527, ?_⟩
              have O538 := O528.rowE (l := ([y_9.Name] : List ByteArray)) 7 rfl tell_str (show CsE _ _ _ _ _ from (CsE.cons (c1 := [(Value.string y_9.Name)]) rfl rfl CsE.nil)) rfl
              refine O538.app 1 rfl rfl rfl ((O538.os 7 rfl).srcE rfl) (by decide) g20 fun A532 c533 h534 O535 => ?_
              refine ⟨_, _, _, rfl, ?_⟩
              have O547 := O535.rowE (l := ([y_10] : List T_api_Type)) 6 rfl T_api_Type.T (show CsE _ _ _ _ _ from (CsE.cons e_10 (T_api_Type.T.len _ _ _ e_10) CsE.nil)) rfl
              refine O547.app 2 rfl rfl rfl ((O547.os 6 rfl).srcE rfl) (by decide) g34 fun A541 c542 h543 O544 => ?_
              refine ⟨_, _, _, rfl, ?_⟩
              have O548 := O544.nm
              refine O548.st0 0 rfl (Nat.le_of_ble_eq_true rfl) trivial fun h549 O550 => ?_
              refine O550.st 0 rfl 1 (Nat.le_of_ble_eq_true rfl) trivial fun h551 O552 => ?_
              have O553 := O552.nm
              exact (ih _ _ e) _ _ _ _ _ _ _ _ _ _ _ _ _ _ _ _ _ _ (O553.pick [0, 1, 2, 3]).nm rfl k_0 r_0 rfl rfl rfl tab
        · refine ⟨_, ldAn (Sub.refl _) (O14.all 5 rfl) (T_api_Type.T.len _ _ _ e_10), ?_⟩
          refine ⟨Ext.refl _, ?_⟩
          refine ⟨?_, ?_⟩
          · refine O14.new fun h554 x555 O556 => ?_
            refine ⟨x555, ?_⟩
            refine ⟨?_, ?_⟩
            · have O566 := O556.rowE (l := ([y_9.Name] : List ByteArray)) 6 rfl tell_str (show CsE _ _ _ _ _ from (CsE.cons (c1 := [(Value.string y_9.Name)]) rfl rfl CsE.nil)) rfl
              refine O566.app 1 rfl rfl rfl ((O566.os 6 rfl).srcE rfl) (by decide) g20 fun A560 c561 h562 O563 => ?_
              refine ⟨_, _, _, rfl, ?_⟩
              refine ⟨?_, ?_⟩
              · refine ⟨_, ldk (k := 1) (Sub.refl _) (O563.all 0 rfl) rfl, _, _, _, rfl, ?_⟩
                refine ⟨Ext.refl _, ?_⟩
                refine ⟨cs_10, rfl, (T_api_Type.T.len _ _ _ e_10), ?_⟩
                refine O563.new fun h567 x568 O569 => ?_
                have O571 := O569.recell 7 rfl (cs' := cs_10 ++ []) rfl
                refine ⟨x568, ?_⟩
                have O580 := O571.rowE (l := ([y_10] : List T_api_Type)) 7 rfl T_api_Type.T (show CsE _ _ _ _ _ from (CsE.cons e_10 (T_api_Type.T.len _ _ _ e_10) CsE.nil)) rfl
                refine O580.app 2 rfl rfl rfl ((O580.os 7 rfl).srcE rfl) (by decide) g34 fun A574 c575 h576 O577 => ?_
                refine ⟨_, _, _, rfl, ?_⟩
                have O581 := O577.nm
                refine O581.st0 0 rfl (Nat.le_of_ble_eq_true rfl) trivial fun h582 O583 => ?_
                refine O583.st 0 rfl 1 (Nat.le_of_ble_eq_true rfl) trivial fun h584 O585 => ?_
                have O586 := O585.nm
                exact (ih _ _ e) _ _ _ _ _ _ _ _ _ _ _ _ _ _ _ _ _ _ (O586.pick [0, 1, 2, 3]).nm rfl k_0 r_0 rfl rfl rfl tab
              · refine ⟨cs_10, rfl, (T_api_Type.T.len _ _ _ e_10), ?_⟩
                refine O563.new fun h587 x588 O589 => ?_
                have O591 := O589.recell 7 rfl (cs' := cs_10 ++ []) rfl
                refine ⟨x588, ?_⟩
                refine ⟨_, ldk (k := 1) (Sub.refl _) (O591.all 0 rfl) rfl, _, _, _, rfl, ?_⟩
                refine ⟨Ext.refl _, ?_⟩
                have O600 := O591.rowE (l := ([y_10] : List T_api_Type)) 7 rfl T_api_Type.T (show CsE _ _ _ _ _ from (CsE.cons e_10 (T_api_Type.T.len _ _ _ e_10) CsE.nil)) rfl
                refine O600.app 2 rfl rfl rfl ((O600.os 7 rfl).srcE rfl) (by decide) g34 fun A594 c595 h596 O597 => ?_
                refine ⟨_, _, _, rfl, ?_⟩
                have O601 := O597.nm
                refine O601.st0 0 rfl (Nat.le_of_ble_eq_true rfl) trivial fun h602 O603 => ?_
                refine O603.st 0 rfl 1 (Nat.le_of_ble_eq_true rfl) trivial fun h604 O605 => ?_
                have O606 := O605.nm
                exact (ih _ _ e) _ _ _ _ _ _ _ _ _ _ _ _ _ _ _ _ _ _ (O606.pick [0, 1, 2, 3]).nm rfl k_0 r_0 rfl rfl rfl tab
            · refine ⟨?_, ?_⟩
              · refine ⟨_, ldk (k := 1) (Sub.refl _) (O556.all 0 rfl) rfl, _, _, _, rfl, ?_⟩
                refine ⟨Ext.refl _, ?_⟩
                refine ⟨?_, ?_⟩
                · have O615 := O556.rowE (l := ([y_9.Name] : List ByteArray)) 6 rfl tell_str (show CsE _ _ _ _ _ from (CsE.cons (c1 := [(Value.string y_9.Name)]) rfl rfl CsE.nil)) rfl
                  refine O615.app 1 rfl rfl rfl ((O615.os 6 rfl).srcE rfl) (by decide) g20 fun A609 c610 h611 O612 => ?_
                  refine ⟨_, _, _, rfl, ?_⟩
                  refine ⟨cs_10, rfl, (T_api_Type.T.len _ _ _ e_10), ?_⟩
                  refine O612.new fun h616 x617 O618 => ?_
                  have O620 := O618.recell 7 rfl (cs' := cs_10 ++ []) rfl
                  refine ⟨x617, ?_⟩
                  have O629 := O620.rowE (l := ([y_10] : List T_api_Type)) 7 rfl T_api_Type.T (show CsE _ _ _ _ _ from (CsE.cons e_10 (T_api_Type.T.len _ _ _ e_10) CsE.nil)) rfl
                  refine O629.app 2 rfl rfl rfl ((O629.os 7 rfl).srcE rfl) (by decide) g34 fun A623 c624 h625 O626 => ?_
                  refine ⟨_, _, _, rfl, ?_⟩
                  have O630 := O626.nm
                  refine O630.st0 0 rfl (Nat.le_of_ble_eq_true rfl) trivial fun h631 O632 => ?_
                  refine O632.st 0 rfl 1 (Nat.le_of_ble_eq_true rfl) trivial fun h633 O634 => ?_
                  have O635 := O634.nm
                  exact (ih _ _ e) _ _ _ _ _ _ _ _ _ _ _ _ _ _ _ _ _ _ (O635.pick [0, 1, 2, 3]).nm rfl k_0 r_0 rfl rfl rfl tab
                · refine ⟨cs_10, rfl, (T_api_Type.T.len _ _ _ e_10), ?_⟩
                  refine O556.new fun h636 x637 O638 => ?_
                  have O640 := O638.recell 7 rfl (cs' := cs_10 ++ []) rfl
                  refine ⟨x637, ?_⟩
                  have O649 := O640.rowE (l := ([y_9.Name] : List ByteArray)) 6 rfl tell_str (show CsE _ _ _ _ _ from (CsE.cons (c1 := [(Value.string y_9.Name)]) rfl rfl CsE.nil)) rfl
                  refine O649.app 1 rfl rfl rfl ((O649.os 6 rfl).srcE rfl) (by decide) g20 fun A643 c644 h645 O646 => ?_
                  refine ⟨_, _, _, rfl, ?_⟩
                  have O658 := O646.rowE (l := ([y_10] : List T_api_Type)) 7 rfl T_api_Type.T (show CsE _ _ _ _ _ from (CsE.cons e_10 (T_api_Type.T.len _ _ _ e_10) CsE.nil)) rfl
                  refine O658.app 2 rfl rfl rfl ((O658.os 7 rfl).srcE rfl) (by decide) g34 fun A652 c653 h654 O655 => ?_
                  refine ⟨_, _, _, rfl, ?_⟩
                  have O659 := O655.nm
                  refine O659.st0 0 rfl (Nat.le_of_ble_eq_true rfl) trivial fun h660 O661 => ?_
                  refine O661.st 0 rfl 1 (Nat.le_of_ble_eq_true rfl) trivial fun h662 O663 => ?_
                  have O664 := O663.nm
                  exact (ih _ _ e) _ _ _ _ _ _ _ _ _ _ _ _ _ _ _ _ _ _ (O664.pick [0, 1, 2, 3]).nm rfl k_0 r_0 rfl rfl rfl tab
              · refine ⟨cs_10, rfl, (T_api_Type.T.len _ _ _ e_10), ?_⟩
                refine O556.new fun h665 x666 O667 => ?_
                have O669 := O667.recell 7 rfl (cs' := cs_10 ++ []) rfl
                refine ⟨x666, ?_⟩
                refine ⟨?_, ?_⟩
                · have O678 := O669.rowE (l := ([y_9.Name] : List ByteArray)) 6 rfl tell_str (show CsE _ _ _ _ _ from (CsE.cons (c1 := [(Value.string y_9.Name)]) rfl rfl CsE.nil)) rfl
                  refine O678.app 1 rfl rfl rfl ((O678.os 6 rfl).srcE rfl) (by decide) g20 fun A672 c673 h674 O675 => ?_
                  refine ⟨_, _, _, rfl, ?_⟩
                  refine ⟨_, ldk (k := 1) (Sub.refl _) (O675.all 0 rfl) rfl, _, _, _, rfl, ?_⟩
                  refine ⟨Ext.refl _, ?_⟩
                  have O687 := O675.rowE (l := ([y_10] : List T_api_Type)) 7 rfl T_api_Type.T (show CsE _ _ _ _ _ from (CsE.cons e_10 (T_api_Type.T.len _ _ _ e_10) CsE.nil)) rfl
                  refine O687.app 2 rfl rfl rfl ((O687.os 7 rfl).srcE rfl) (by decide) g34 fun A681 c682 h683 O684 => ?_
                  refine ⟨_, _, _, rfl, ?_⟩
                  have O688 := O684.nm
                  refine O688.st0 0 rfl (Nat.le_of_ble_eq_true rfl) trivial fun h689 O690 => ?_
                  refine O690.st 0 rfl 1 (Nat.le_of_ble_eq_true rfl) trivial fun h691 O692 => ?_
                  have O693 := O692.nm
                  exact (ih _ _ e) _ _ _ _ _ _ _ _ _ _ _ _ _ _ _ _ _ _ (O693.pick [0, 1, 2, 3]).nm rfl k_0 r_0 rfl rfl rfl tab
                · refine ⟨_, ldk (k := 1) (Sub.refl _) (O669.all 0 rfl) rfl, _, _, _, rfl, ?_⟩
                  refine ⟨Ext.refl _, ?_⟩
                  have O702 := O669.rowE (l := ([y_9.Name] : List ByteArray)) 6 rfl tell_str (show CsE _ _ _ _ _ from (CsE.cons (c1 := [(Value.string y_9.Name)]) rfl rfl CsE.nil)) rfl
                  refine O702.app 1 rfl rfl rfl ((O702.os 6 rfl).srcE rfl) (by decide) g20 fun A696 c697 h698 O699 => ?_
                  refine ⟨_, _, _, rfl, ?_⟩
                  have O711 := O699.rowE (l := ([y_10] : List T_api_Type)) 7 rfl T_api_Type.T (show CsE _ _ _ _ _ from (CsE.cons e_10 (T_api_Type.T.len _ _ _ e_10) CsE.nil)) rfl
                  refine O711.app 2 rfl rfl rfl ((O711.os 7 rfl).srcE rfl) (by decide) g34 fun A705 c706 h707 O708 => ?_
                  refine ⟨_, _, _, rfl, ?_⟩
                  have O712 := O708.nm
                  refine O712.st0 0 rfl (Nat.le_of_ble_eq_true rfl) trivial fun h713 O714 => ?_
                  refine O714.st 0 rfl 1 (Nat.le_of_ble_eq_true rfl) trivial fun h715 O716 => ?_
                  have O717 := O716.nm
                  exact (ih _ _ e) _ _ _ _ _ _ _ _ _ _ _ _ _ _ _ _ _ _ (O717.pick [0, 1, 2, 3]).nm rfl k_0 r_0 rfl rfl rfl tab
          · refine ⟨?_, ?_⟩
            · refine ⟨_, ldk (k := 1) (Sub.refl _) (O14.all 0 rfl) rfl, _, _, _, rfl, ?_⟩
              refine ⟨Ext.refl _, ?_⟩
              refine ⟨?_, ?_⟩
              · refine O14.new fun h718 x719 O720 => ?_
                refine ⟨x719, ?_⟩
                refine ⟨?_, ?_⟩
                · have O730 := O720.rowE (l := ([y_9.Name] : List ByteArray)) 6 rfl tell_str (show CsE _ _ _ _ _ from (CsE.cons (c1 := [(Value.string y_9.Name)]) rfl rfl CsE.nil)) rfl
                  refine O730.app 1 rfl rfl rfl ((O730.os 6 rfl).srcE rfl) (by decide) g20 fun A724 c725 h726 O727 => ?_
                  refine ⟨_, _, _, rfl, ?_⟩
                  refine ⟨cs_10, rfl, (T_api_Type.T.len _ _ _ e_10), ?_⟩
                  refine O727.new fun h731 x732 O733 => ?_
                  have O735 := O733.recell 7 rfl (cs' := cs_10 ++ []) rfl
                  refine ⟨x732, ?_⟩
                  have O744 := O735.rowE (l := ([y_10] : List T_api_Type)) 7 rfl T_api_Type.T (show CsE _ _ _ _ _ from (CsE.cons e_10 (T_api_Type.T.len _ _ _ e_10) CsE.nil)) rfl
                  refine O744.app 2 rfl rfl rfl ((O744.os 7 rfl).srcE rfl) (by decide) g34 fun A738 c739 h740 O741 => ?_
                  refine ⟨_, _, _, rfl, ?_⟩
                  have O745 := O741.nm
                  refine O745.st0 0 rfl (Nat.le_of_ble_eq_true rfl) trivial fun h746 O747 => ?_
                  refine O747.st 0 rfl 1 (Nat.le_of_ble_eq_true rfl) trivial fun h748 O749 => ?_
                  have O750 := O749.nm
                  exact (ih _ _ e) _ _ _ _ _ _ _ _ _ _ _ _ _ _ _ _ _ _ (O750.pick [0, 1, 2, 3]).nm rfl k_0 r_0 rfl rfl rfl tab
                · refine ⟨cs_10, rfl, (T_api_Type.T.len _ _ _ e_10), ?_⟩
                  refine O720.new fun h751 x752 O753 => ?_
                  have O755 := O753.recell 7 rfl (cs' := cs_10 ++ []) rfl
                  refine ⟨x752, ?_⟩
                  have O764 := O755.rowE (l := ([y_9.Name] : List ByteArray)) 6 rfl tell_str (show CsE _ _ _ _ _ from (CsE.cons (c1 := [(Value.string y_9.Name)]) rfl rfl CsE.nil)) rfl
                  refine O764.app 1 rfl rfl rfl ((O764.os 6 rfl).srcE rfl) (by decide) g20 fun A758 c759 h760 O761 => ?_
                  refine ⟨_, _, _, rfl, ?_⟩
                  have O773 := O761.rowE (l := ([y_10] : List T_api_Type)) 7 rfl T_api_Type.T (show CsE _ _ _ _ _ from (CsE.cons e_10 (T_api_Type.T.len _ _ _ e_10) CsE.nil)) rfl
                  refine O773.app 2 rfl rfl rfl ((O773.os 7 rfl).srcE rfl) (by decide) g34 fun A767 c768 h769 O770 => ?_
                  refine ⟨_, _, _, rfl, ?_⟩
                  have O774 := O770.nm
                  refine O774.st0 0 rfl (Nat.le_of_ble_eq_true rfl) trivial fun h775 O776 => ?_
                  refine O776.st 0 rfl 1 (Nat.le_of_ble_eq_true rfl) trivial fun h777 O778 => ?_
                  have O779 := O778.nm
                  exact (ih _ _ e) _ _ _ _ _ _ _ _ _ _ _ _ _ _ _ _ _ _ (O779.pick [0, 1, 2, 3]).nm rfl k_0 r_0 rfl rfl rfl tab
              · refine ⟨cs_10, rfl, (T_api_Type.T.len _ _ _ e_10), ?_⟩
                refine O14.new fun h780 x781 O782 => ?_
                have O784 := O782.recell 6 rfl (cs' := cs_10 ++ []) rfl
                refine ⟨x781, ?_⟩
                refine O784.new fun h785 x786 O787 => ?_
                refine ⟨x786, ?_⟩
                have O797 := O787.rowE (l := ([y_9.Name] : List ByteArray)) 7 rfl tell_str (show CsE _ _ _ _ _ from (CsE.cons (c1 := [(Value.string y_9.Name)]) rfl rfl CsE.nil)) rfl
                refine O797.app 1 rfl rfl rfl ((O797.os 7 rfl).srcE rfl) (by decide) g20 fun A791 c792 h793 O794 => ?_
                refine ⟨_, _, _, rfl, ?_⟩
                have O806 := O794.rowE (l := ([y_10] : List T_api_Type)) 6 rfl T_api_Type.T (show CsE _ _ _ _ _ from (CsE.cons e_10 (T_api_Type.T.len _ _ _ e_10) CsE.nil)) rfl
                refine O806.app 2 rfl rfl rfl ((O806.os 6 rfl).srcE rfl) (by decide) g34 fun A800 c801 h802 O803 => ?_
                refine ⟨_, _, _, rfl, ?_⟩
                have O807 := O803.nm
                refine O807.st0 0 rfl (Nat.le_of_ble_eq_true rfl) trivial fun h808 O809 => ?_
                refine O809.st 0 rfl 1 (Nat.le_of_ble_eq_true rfl) trivial fun h810 O811 => ?_
                have O812 := O811.nm
                exact (ih _ _ e) _ _ _ _ _ _ _ _ _ _ _ _ _ _ _ _ _ _ (O812.pick [0, 1, 2, 3]).nm rfl k_0 r_0 rfl rfl rfl tab
            · refine ⟨cs_10, rfl, (T_api_Type.T.len _ _ _ e_10), ?_⟩
              refine O14.new fun h813 x814 O815 => ?_
              have O817 := O815.recell 6 rfl (cs' := cs_10 ++ []) rfl
              refine ⟨x814, ?_⟩
              refine ⟨?_, ?_⟩
              · refine O817.new fun h818 x819 O820 => ?_
                refine ⟨x819, ?_⟩
                refine ⟨?_, ?_⟩
                · have O830 := O820.rowE (l := ([y_9.Name] : List ByteArray)) 7 rfl tell_str (show CsE _ _ _ _ _ from (CsE.cons (c1 := [(Value.string y_9.Name)]) rfl rfl CsE.nil)) rfl
                  refine O830.app 1 rfl rfl rfl ((O830.os 7 rfl).srcE rfl) (by decide) g20 fun A824 c825 h826 O827 => ?_
                  refine ⟨_, _, _, rfl, ?_⟩
                  refine ⟨_, ldk (k := 1) (Sub.refl _) (O827.all 0 rfl) rfl, _, _, _, rfl, ?_⟩
                  refine ⟨Ext.refl _, ?_⟩
                  have O839 := O827.rowE (l := ([y_10] : List T_api_Type)) 6 rfl T_api_Type.T (show CsE _ _ _ _ _ from (CsE.cons e_10 (T_api_Type.T.len _ _ _ e_10) CsE.nil)) rfl
                  refine O839.app 2 rfl rfl rfl ((O839.os 6 rfl).srcE rfl) (by decide) g34 fun A833 c834 h835 O836 => ?_
                  refine ⟨_, _, _, rfl, ?_⟩
                  have O840 := O836.nm
                  refine O840.st0 0 rfl (Nat.le_of_ble_eq_true rfl) trivial fun h841 O842 => ?_
                  refine O842.st 0 rfl 1 (Nat.le_of_ble_eq_true rfl) trivial fun h843 O844 => ?_
                  have O845 := O844.nm
                  exact (ih _ _ e) _ _ _ _ _ _ _ _ _ _ _ _ _ _ _ _ _ _ (O845.pick [0, 1, 2, 3]).nm rfl k_0 r_0 rfl rfl rfl tab
                · refine ⟨_, ldk (k := 1) (Sub.refl _) (O820.all 0 rfl) rfl, _, _, _, rfl, ?_⟩
                  refine ⟨Ext.refl _, ?_⟩
                  have O854 := O820.rowE (l := ([y_9.Name] : List ByteArray)) 7 rfl tell_str (show CsE _ _ _ _ _ from (CsE.cons (c1 := [(Value.string y_9.Name)]) rfl rfl CsE.nil)) rfl
                  refine O854.app 1 rfl rfl rfl ((O854.os 7 rfl).srcE rfl) (by decide) g20 fun A848 c849 h850 O851 => ?_
                  refine ⟨_, _, _, rfl, ?_⟩
                  have O863 := O851.rowE (l := ([y_10] : List T_api_Type)) 6 rfl T_api_Type.T (show CsE _ _ _ _ _ from (CsE.cons e_10 (T_api_Type.T.len _ _ _ e_10) CsE.nil)) rfl
                  refine O863.app 2 rfl rfl rfl ((O863.os 6 rfl).srcE rfl) (by decide) g34 fun A857 c858 h859 O860 => ?_
                  refine ⟨_, _, _, rfl, ?_⟩
                  have O864 := O860.nm
                  refine O864.st0 0 rfl (Nat.le_of_ble_eq_true rfl) trivial fun h865 O866 => ?_
                  refine O866.st 0 rfl 1 (Nat.le_of_ble_eq_true rfl) trivial fun h867 O868 => ?_
                  have O869 := O868.nm
                  exact (ih _ _ e) _ _ _ _ _ _ _ _ _ _ _ _ _ _ _ _ _ _ (O869.pick [0, 1, 2, 3]).nm rfl k_0 r_0 rfl rfl rfl tab
              · refine ⟨_, ldk (k := 1) (Sub.refl _) (O817.all 0 rfl) rfl, _, _, _, rfl, ?_⟩
                refine ⟨Ext.refl _, ?_⟩
                refine O817.new fun h870 x871 O872 => ?_
                refine ⟨x871, ?_⟩
                have O882 := O872.rowE (l := ([y_9.Name] : List ByteArray)) 7 rfl tell_str (show CsE _ _ _ _ _ from (CsE.cons (c1 := [(Value.string y_9.Name)]) rfl rfl CsE.nil)) rfl
                refine O882.app 1 rfl rfl rfl ((O882.os 7 rfl).srcE rfl) (by decide) g20 fun A876 c877 h878 O879 => ?_
                refine ⟨_, _, _, rfl, ?_⟩
                have O891 := O879.rowE (l := ([y_10] : List T_api_Type)) 6 rfl T_api_Type.T (show CsE _ _ _ _ _ from (CsE.cons e_10 (T_api_Type.T.len _ _ _ e_10) CsE.nil)) rfl
                refine O891.app 2 rfl rfl rfl ((O891.os 6 rfl).srcE rfl) (by decide) g34 fun A885 c886 h887 O888 => ?_
                refine ⟨_, _, _, rfl, ?_⟩
                have O892 := O888.nm
                refine O892.st0 0 rfl (Nat.le_of_ble_eq_true rfl) trivial fun h893 O894 => ?_
                refine O894.st 0 rfl 1 (Nat.le_of_ble_eq_true rfl) trivial fun h895 O896 => ?_
                have O897 := O896.nm
                exact (ih _ _ e) _ _ _ _ _ _ _ _ _ _ _ _ _ _ _ _ _ _ (O897.pick [0, 1, 2, 3]).nm rfl k_0 r_0 rfl rfl rfl tab
    · refine ⟨_, ldk (k := 1) (Sub.refl _) (O14.all 0 rfl) rfl, _, _, _, rfl, ?_⟩
      obtain ⟨y898, g899, e⟩ := bind_e e
      refine (O14.os 2 rfl).addr rfl g899 fun a900 cs901 ha902 hc903 he904 => ?_
      refine ⟨_, ldAn (Sub.refl _) hc903 rfl, ?_⟩
      obtain ⟨y905, g906, e⟩ := bind_e e
      obtain ⟨y912, g913, e⟩ := bind_e e
      refine ⟨?_, ?_⟩
      · refine (roadref2_TypeMark.walk (Hold.start (W := No) O14.s) he904 tab g906).mono ?_
        rintro _ h922 ⟨m923, Q924, rfl⟩
        have O926 := Hold.nm (O14.retC Q924 vfs_nil)
        refine ⟨_, rfl, ?_⟩
        refine ⟨_, ldAn (Sub.refl _) (O926.all 5 rfl) (T_api_Type.T.len _ _ _ e_10), ?_⟩
        refine ⟨Ext.refl _, ?_⟩
        refine (roadref2_TypeMark.walk (Hold.start (W := No) O926.s) e_10 tab g913).mono ?_
        rintro _ h929 ⟨m930, Q931, rfl⟩
        have O933 := Hold.nm (O926.retC Q931 vfs_nil)
        refine ⟨_, rfl, ?_⟩
        try rw [ba_list y905 y912]
        refine split_not ?_
        refine split_dec_e e (fun c934 e => ?_) (fun c934 e => ?_)
        · exact (ih _ _ e) _ _ _ _ _ _ _ _ _ _ _ _ _ _ _ _ _ _ (O933.pick [0, 1, 2, 3]).nm rfl k_0 r_0 rfl rfl rfl tab
        · cases e
          exact ⟨_, O933.pick [], rfl⟩
      · refine ⟨_, ldAn (Sub.refl _) (O14.all 5 rfl) (T_api_Type.T.len _ _ _ e_10), ?_⟩
        refine ⟨Ext.refl _, ?_⟩
        refine (roadref2_TypeMark.walk (Hold.start (W := No) O14.s) he904 tab g906).mono ?_
        rintro _ h937 ⟨m938, Q939, rfl⟩
        have O941 := Hold.nm (O14.retC Q939 vfs_nil)
        refine ⟨_, rfl, ?_⟩
        refine (roadref2_TypeMark.walk (Hold.start (W := No) O941.s) e_10 tab g913).mono ?_
        rintro _ h944 ⟨m945, Q946, rfl⟩
        have O948 := Hold.nm (O941.retC Q946 vfs_nil)
        refine ⟨_, rfl, ?_⟩
        try rw [ba_list y905 y912]
        refine split_not ?_
        refine split_dec_e e (fun c949 e => ?_) (fun c949 e => ?_)
        · exact (ih _ _ e) _ _ _ _ _ _ _ _ _ _ _ _ _ _ _ _ _ _ (O948.pick [0, 1, 2, 3]).nm rfl k_0 r_0 rfl rfl rfl tab
        · cases e
          exact ⟨_, O948.pick [], rfl⟩
  · exact (ih _ _ e) _ _ _ _ _ _ _ _ _ _ _ _ _ _ _ _ _ _ _ _ _ _ (O.pick [0, 1, 2, 3, 4, 5]).nm rfl k_0 r_0 rfl rfl rfl e_9 e_10 tab
set_option maxRecDepth 100000 in
theorem roadref2_Fitting.l0_k.step_j1 (go : (p : roadref2_Fitting.l0_k.Pt) → Option (Bool)) (ih : ∀ p r, go p = some r → roadref2_Fitting.l0_k.I p r) (a_0 : List ByteArray) (a_7_0 : (List ByteArray)) (a_7_1 : (List T_api_Type)) (a_8 : List (List T_api_Type)) (y_9 : T_api_Type) (y_10 : T_api_Type) (r : Bool) (e : roadref2_Fitting.l0_k.body go (.j1 a_0 a_7_0 a_7_1 a_8 y_9 y_10) = some r) : roadref2_Fitting.l0_k.I (.j1 a_0 a_7_0 a_7_1 a_8 y_9 y_10) r := by
  unfold roadref2_Fitting.l0_k.body at e
  intro W h0 m0 h m A_0 n_0 c_0 bk_7 A_7_0_0 n_7_0_0 c_7_0_0 A_7_1_0 n_7_1_0 c_7_1_0 A_8 n_8 c_8 bk_9 cs_9 bk_10 cs_10 O ne_0 k_0 r_0 ne_7_0_0 ne_7_1_0 ne_8 e_9 e_10 tab
  subst ne_0
  subst ne_7_0_0
  subst ne_7_1_0
  subst ne_8
  refine f19.j1_in ?_
  unfold f19.j1T
  refine ⟨_, ld0 (Sub.refl _) (O.all 4 rfl) (T_api_Type.g0 e_9), _, rfl, ?_⟩
  refine ⟨_, ld0 (Sub.refl _) (O.all 5 rfl) (T_api_Type.g0 e_10), _, rfl, ?_⟩
  refine split_ne_e e (fun c13 e => ?_) (fun c13 e => ?_)
  · cases e
    exact ⟨_, O.pick [], rfl⟩
  · refine ⟨_, ldk (k := 1) (Sub.refl _) (O.all 4 rfl) (T_api_Type.g1 e_9), _, rfl, ?_⟩
    refine ⟨_, ldk (k := 1) (Sub.refl _) (O.all 5 rfl) (T_api_Type.g1 e_10), _, rfl, ?_⟩
    try rw [ba_list y_9.Name y_10.Name]
    refine split_not ?_
    refine split_dec_e e (fun c12 e => ?_) (fun c12 e => ?_)
    · obtain ⟨A1, c2, q3, k4, r5⟩ := T_api_Type.g2 e_9
      refine ⟨_, ldk (k := 2) (Sub.refl _) (O.all 4 rfl) q3, _, _, _, rfl, ?_⟩
      obtain ⟨A6, c7, q8, k9, r10⟩ := T_api_Type.g2 e_10
      refine ⟨_, ldk (k := 2) (Sub.refl _) (O.all 5 rfl) q8, _, _, _, rfl, ?_⟩
      refine split_ne_e e (fun c11 e => ?_) (fun c11 e => ?_)
      · cases e
        exact ⟨_, O.pick [], rfl⟩
      · exact (ih _ _ e) _ _ _ _ _ _ _ _ _ _ _ _ _ _ _ _ _ _ _ _ _ _ (O.pick [0, 1, 2, 3, 4, 5]).nm rfl k_0 r_0 rfl rfl rfl e_9 e_10 tab
    · cases e
      exact ⟨_, O.pick [], rfl⟩
set_option maxRecDepth 100000 in
theorem roadref2_Fitting.l0_k.step_j3 (go : (p : roadref2_Fitting.l0_k.Pt) → Option (Bool)) (ih : ∀ p r, go p = some r → roadref2_Fitting.l0_k.I p r) (a_0 : List ByteArray) (a_7_0 : (List ByteArray)) (a_7_1 : (List T_api_Type)) (a_8 : List (List T_api_Type)) (y_9 : T_api_Type) (y_10 : T_api_Type) (r : Bool) (e : roadref2_Fitting.l0_k.body go (.j3 a_0 a_7_0 a_7_1 a_8 y_9 y_10) = some r) : roadref2_Fitting.l0_k.I (.j3 a_0 a_7_0 a_7_1 a_8 y_9 y_10) r := by
  unfold roadref2_Fitting.l0_k.body at e
  intro W h0 m0 h m A_0 n_0 c_0 bk_7 A_7_0_0 n_7_0_0 c_7_0_0 A_7_1_0 n_7_1_0 c_7_1_0 A_8 n_8 c_8 bk_9 cs_9 bk_10 cs_10 O ne_0 k_0 r_0 ne_7_0_0 ne_7_1_0 ne_8 e_9 e_10 tab
  subst ne_0
  subst ne_7_0_0
  subst ne_7_1_0
  subst ne_8
  refine f19.j3_in ?_
  unfold f19.j3T
  obtain ⟨A1, c2, q3, k4, r5⟩ := T_api_Type.g2 e_9
  refine ⟨_, ldk (k := 2) (Sub.refl _) (O.all 4 rfl) q3, _, _, _, rfl, ?_⟩
  exact (ih _ _ e) _ _ _ _ _ _ _ _ _ _ _ _ _ _ _ _ _ _ _ _ _ _ (O.pick [0, 1, 2, 3, 4, 5]).nm rfl k_0 r_0 rfl rfl rfl e_9 e_10 tab
set_option maxRecDepth 100000 in
theorem roadref2_Fitting.l0_k.step_l1 (go : (p : roadref2_Fitting.l0_k.Pt) → Option (Bool)) (ih : ∀ p r, go p = some r → roadref2_Fitting.l0_k.I p r) (a_0 : List ByteArray) (a_7_0 : (List ByteArray)) (a_7_1 : (List T_api_Type)) (a_8 : List (List T_api_Type)) (y_9 : T_api_Type) (y_10 : T_api_Type) (x_92 : Int) (x_93 : Int) (r : Bool) (e : roadref2_Fitting.l0_k.body go (.l1 a_0 a_7_0 a_7_1 a_8 y_9 y_10 x_92 x_93) = some r) : roadref2_Fitting.l0_k.I (.l1 a_0 a_7_0 a_7_1 a_8 y_9 y_10 x_92 x_93) r := by
  unfold roadref2_Fitting.l0_k.body at e
  intro W h0 m0 h m A_0 n_0 c_0 bk_7 A_7_0_0 n_7_0_0 c_7_0_0 A_7_1_0 n_7_1_0 c_7_1_0 A_8 n_8 c_8 bk_9 cs_9 bk_10 cs_10 O ne_0 k_0 r_0 ne_7_0_0 ne_7_1_0 ne_8 e_9 e_10 tab
  subst ne_0
  subst ne_7_0_0
  subst ne_7_1_0
  subst ne_8
  refine f19.l1_in ?_
  unfold f19.l1T
  refine split_dec_e e (fun c42 e => ?_) (fun c42 e => ?_)
  · obtain ⟨A1, c2, q3, k4, r5⟩ := T_api_Type.g2 e_9
    refine ⟨_, ldk (k := 2) (Sub.refl _) (O.all 4 rfl) q3, _, _, _, rfl, ?_⟩
    obtain ⟨y6, g7, e⟩ := bind_e e
    refine r5.addr rfl g7 fun a8 cs9 ha10 hc11 he12 => ?_
    refine ⟨_, ldAn O.s hc11 rfl, ?_⟩
    obtain ⟨A13, c14, q15, k16, r17⟩ := T_api_Type.g2 e_10
    refine ⟨_, ldk (k := 2) (Sub.refl _) (O.all 5 rfl) q15, _, _, _, rfl, ?_⟩
    obtain ⟨y18, g19, e⟩ := bind_e e
    refine r17.addr rfl g19 fun a20 cs21 ha22 hc23 he24 => ?_
    refine ⟨_, ldAn O.s hc23 rfl, ?_⟩
    obtain ⟨Ae25_2, ce25_2, rfl, ke25_2, re25_2⟩ := T_api_Type.iff.1 he12
    obtain ⟨Ae26_2, ce26_2, rfl, ke26_2, re26_2⟩ := T_api_Type.iff.1 he24
    refine ⟨[(Value.int .i64 y6.Kind), (Value.string y6.Name), (Value.slice Ae25_2 (List.length y6.Args) ce25_2)], rfl, rfl, ?_⟩
    refine ⟨[(Value.int .i64 y18.Kind), (Value.string y18.Name), (Value.slice Ae26_2 (List.length y18.Args) ce26_2)], rfl, rfl, ?_⟩
    refine ⟨[(Value.int .i64 y6.Kind), (Value.string y6.Name), (Value.slice Ae25_2 (List.length y6.Args) ce25_2), (Value.int .i64 y18.Kind), (Value.string y18.Name), (Value.slice Ae26_2 (List.length y18.Args) ce26_2)], rfl, ((tell_arrE 2 T_api_Type.T).len _ _ _ (show (eArrE 2 3 T_api_Type.E) m ([y6, y18] : List T_api_Type) [(Value.int .i64 y6.Kind), (Value.string y6.Name), (Value.slice Ae25_2 (List.length y6.Args) ce25_2), (Value.int .i64 y18.Kind), (Value.string y18.Name), (Value.slice Ae26_2 (List.length y18.Args) ce26_2)] from ⟨show CsE _ _ _ _ _ from (CsE.cons (c1 := [(Value.int .i64 y6.Kind), (Value.string y6.Name), (Value.slice Ae25_2 (List.length y6.Args) ce25_2)]) (T_api_Type.iff.2 ⟨_, _, rfl, ke25_2, re25_2⟩) rfl (CsE.cons (c1 := [(Value.int .i64 y18.Kind), (Value.string y18.Name), (Value.slice Ae26_2 (List.length y18.Args) ce26_2)]) (T_api_Type.iff.2 ⟨_, _, rfl, ke26_2, re26_2⟩) rfl CsE.nil)), rfl⟩)), ?_⟩
    refine O.new fun h27 x28 O29 => ?_
    have O31 := O29.recell 6 rfl (cs' := ([(Value.int .i64 y6.Kind), (Value.string y6.Name), (Value.slice Ae25_2 (List.length y6.Args) ce25_2), (Value.int .i64 y18.Kind), (Value.string y18.Name), (Value.slice Ae26_2 (List.length y18.Args) ce26_2)]) ++ []) rfl
    obtain ⟨l32, g33, e⟩ := bind_e e
    have O40 := O31.rowE (l := ([([y6, y18] : List T_api_Type)] : List (List T_api_Type))) 6 rfl (tell_arrE 2 T_api_Type.T) (show CsE _ _ _ _ _ from (CsE.cons (show (eArrE 2 3 T_api_Type.E) m ([y6, y18] : List T_api_Type) [(Value.int .i64 y6.Kind), (Value.string y6.Name), (Value.slice Ae25_2 (List.length y6.Args) ce25_2), (Value.int .i64 y18.Kind), (Value.string y18.Name), (Value.slice Ae26_2 (List.length y18.Args) ce26_2)] from ⟨show CsE _ _ _ _ _ from (CsE.cons (c1 := [(Value.int .i64 y6.Kind), (Value.string y6.Name), (Value.slice Ae25_2 (List.length y6.Args) ce25_2)]) (T_api_Type.iff.2 ⟨_, _, rfl, ke25_2, re25_2⟩) rfl (CsE.cons (c1 := [(Value.int .i64 y18.Kind), (Value.string y18.Name), (Value.slice Ae26_2 (List.length y18.Args) ce26_2)]) (T_api_Type.iff.2 ⟨_, _, rfl, ke26_2, re26_2⟩) rfl CsE.nil)), rfl⟩) ((tell_arrE 2 T_api_Type.T).len _ _ _ (show (eArrE 2 3 T_api_Type.E) m ([y6, y18] : List T_api_Type) [(Value.int .i64 y6.Kind), (Value.string y6.Name), (Value.slice Ae25_2 (List.length y6.Args) ce25_2), (Value.int .i64 y18.Kind), (Value.string y18.Name), (Value.slice Ae26_2 (List.length y18.Args) ce26_2)] from ⟨show CsE _ _ _ _ _ from (CsE.cons (c1 := [(Value.int .i64 y6.Kind), (Value.string y6.Name), (Value.slice Ae25_2 (List.length y6.Args) ce25_2)]) (T_api_Type.iff.2 ⟨_, _, rfl, ke25_2, re25_2⟩) rfl (CsE.cons (c1 := [(Value.int .i64 y18.Kind), (Value.string y18.Name), (Value.slice Ae26_2 (List.length y18.Args) ce26_2)]) (T_api_Type.iff.2 ⟨_, _, rfl, ke26_2, re26_2⟩) rfl CsE.nil)), rfl⟩)) CsE.nil)) rfl
    refine O40.app 3 rfl rfl rfl ((O40.os 6 rfl).srcE rfl) (by decide) g33 fun A34 c35 h36 O37 => ?_
    refine ⟨_, _, _, rfl, ?_⟩
    have O41 := O37.nm
    exact (ih _ _ e) _ _ _ _ _ _ _ _ _ _ _ _ _ _ _ _ _ _ _ _ _ _ (O41.pick [0, 1, 2, 3, 4, 5]).nm rfl k_0 r_0 rfl rfl rfl e_9 e_10 tab
  · exact (ih _ _ e) _ _ _ _ _ _ _ _ _ _ _ _ _ _ _ _ _ _ (O.pick [0, 1, 2, 3]).nm rfl k_0 r_0 rfl rfl rfl tab
theorem roadref2_Fitting.l0_k.all {p : roadref2_Fitting.l0_k.Pt} {r : (Bool)} (e : roadref2_Fitting.l0_k.go p = some r) : roadref2_Fitting.l0_k.I p r := fixF_ind (β := fun _ => (Bool)) roadref2_Fitting.l0_k.mono (I := roadref2_Fitting.l0_k.I) (fun go ih p r e => match p with
  | .l0 a_0 a_7_0 a_7_1 a_8 => roadref2_Fitting.l0_k.step_l0 go ih a_0 a_7_0 a_7_1 a_8 r e
  | .j0 a_0 a_7_0 a_7_1 a_8 y_9 y_10 => roadref2_Fitting.l0_k.step_j0 go ih a_0 a_7_0 a_7_1 a_8 y_9 y_10 r e
  | .j2 a_0 a_7_0 a_7_1 a_8 y_9 y_10 b_39 => roadref2_Fitting.l0_k.step_j2 go ih a_0 a_7_0 a_7_1 a_8 y_9 y_10 b_39 r e
  | .j1 a_0 a_7_0 a_7_1 a_8 y_9 y_10 => roadref2_Fitting.l0_k.step_j1 go ih a_0 a_7_0 a_7_1 a_8 y_9 y_10 r e
  | .j3 a_0 a_7_0 a_7_1 a_8 y_9 y_10 => roadref2_Fitting.l0_k.step_j3 go ih a_0 a_7_0 a_7_1 a_8 y_9 y_10 r e
  | .l1 a_0 a_7_0 a_7_1 a_8 y_9 y_10 x_92 x_93 => roadref2_Fitting.l0_k.step_l1 go ih a_0 a_7_0 a_7_1 a_8 y_9 y_10 x_92 x_93 r e
  ) e
theorem roadref2_Fitting.l0.walk {W : Nat → Prop} {h0 m0 h m : Heap} {A_0 : Option Addr} {n_0 c_0 : Nat} {bk_7 : Nat} {A_7_0_0 : Option Addr} {n_7_0_0 : Nat} {c_7_0_0 : Nat} {A_7_1_0 : Option Addr} {n_7_1_0 : Nat} {c_7_1_0 : Nat} {A_8 : Option Addr} {n_8 c_8 : Nat} {a_0 : List ByteArray} {a_7_0 : (List ByteArray)} {a_7_1 : (List T_api_Type)} {a_8 : List (List T_api_Type)} (O : Hold W h0 m0 h m [rV bk_7 80 [(Value.slice A_7_0_0 n_7_0_0 c_7_0_0), (Value.slice A_7_1_0 n_7_1_0 c_7_1_0)], rR (aE tell_str) A_7_0_0 c_7_0_0 a_7_0, rR (aE T_api_Type.T) A_7_1_0 c_7_1_0 a_7_1, rR (aE (tell_arrE 2 T_api_Type.T)) A_8 c_8 a_8]) (ne_0 : n_0 = List.length a_0) (k_0 : List.length a_0 ≤ c_0) (r_0 : Rd 1 eStr m A_0 a_0) (ne_7_0_0 : n_7_0_0 = List.length a_7_0) (ne_7_1_0 : n_7_1_0 = List.length a_7_1) (ne_8 : n_8 = List.length a_8) (tab : TB m) {r : Bool} (e : roadref2_Fitting.l0 a_0 a_7_0 a_7_1 a_8 = some r) : f19.l0 (roadref2_Fitting.post W h0 m0 r) A_0 n_0 c_0 (⟨bk_7, 0, none⟩ : Addr) A_8 n_8 c_8 h := roadref2_Fitting.l0_k.all (p := .l0 a_0 a_7_0 a_7_1 a_8) e W h0 m0 h m A_0 n_0 c_0 bk_7 A_7_0_0 n_7_0_0 c_7_0_0 A_7_1_0 n_7_1_0 c_7_1_0 A_8 n_8 c_8 O ne_0 k_0 r_0 ne_7_0_0 ne_7_1_0 ne_8 tab
noncomputable def roadref2_Fitting (a_0 : List ByteArray) (y_1 : T_api_Type) (y_2 : T_api_Type) : Option (Bool) :=
  (roadref2_Fitting.l0 a_0 ([] : List ByteArray) ([] : List T_api_Type) ([([y_1, y_2] : List T_api_Type)] : List (List T_api_Type)))
set_option maxRecDepth 100000 in
theorem roadref2_Fitting.walk {W : Nat → Prop} {h m : Heap} {A_0 : Option Addr} {n_0 c_0 : Nat} {cs_1 : List Value} {cs_2 : List Value} {a_0 : List ByteArray} {y_1 : T_api_Type} {y_2 : T_api_Type} (O : Hold W h m h m []) (ne_0 : n_0 = List.length a_0) (k_0 : List.length a_0 ≤ c_0) (r_0 : Rd 1 eStr m A_0 a_0) (e_1 : T_api_Type.E m y_1 cs_1) (e_2 : T_api_Type.E m y_2 cs_2) (tab : TB m) {r : Bool} (e : roadref2_Fitting a_0 y_1 y_2 = some r) : Run Tryd.prog 19 #[Value.slice A_0 n_0 c_0, Value.agg cs_1.toArray, Value.agg cs_2.toArray] h (roadref2_Fitting.post W h m r) := by
  unfold roadref2_Fitting at e
  subst ne_0
  refine f19.run ?_
  unfold f19.runT
  refine O.new fun h1 x2 O3 => ?_
  refine O3.new fun h5 x6 O7 => ?_
  refine O7.new fun h9 x10 O11 => ?_
  refine ⟨_, rfl, rfl, ?_⟩
  refine O11.stA 2 rfl rfl (Flats.cons trivial (Flats.cons trivial Flats.nil)) fun h13 O14 => ?_
  refine ⟨_, ldAn (Sub.refl _) (O14.all 0 rfl) (T_api_Type.T.len _ _ _ e_1), ?_⟩
  refine ⟨_, ldAn (Sub.refl _) (O14.all 1 rfl) (T_api_Type.T.len _ _ _ e_2), ?_⟩
  obtain ⟨Ae15_2, ce15_2, rfl, ke15_2, re15_2⟩ := T_api_Type.iff.1 e_1
  obtain ⟨Ae16_2, ce16_2, rfl, ke16_2, re16_2⟩ := T_api_Type.iff.1 e_2
  refine ⟨[(Value.int .i64 y_1.Kind), (Value.string y_1.Name), (Value.slice Ae15_2 (List.length y_1.Args) ce15_2)], rfl, rfl, ?_⟩
  refine ⟨[(Value.int .i64 y_2.Kind), (Value.string y_2.Name), (Value.slice Ae16_2 (List.length y_2.Args) ce16_2)], rfl, rfl, ?_⟩
  refine ⟨[(Value.int .i64 y_1.Kind), (Value.string y_1.Name), (Value.slice Ae15_2 (List.length y_1.Args) ce15_2), (Value.int .i64 y_2.Kind), (Value.string y_2.Name), (Value.slice Ae16_2 (List.length y_2.Args) ce16_2)], rfl, ((tell_arrE 2 T_api_Type.T).len _ _ _ (show (eArrE 2 3 T_api_Type.E) m ([y_1, y_2] : List T_api_Type) [(Value.int .i64 y_1.Kind), (Value.string y_1.Name), (Value.slice Ae15_2 (List.length y_1.Args) ce15_2), (Value.int .i64 y_2.Kind), (Value.string y_2.Name), (Value.slice Ae16_2 (List.length y_2.Args) ce16_2)] from ⟨show CsE _ _ _ _ _ from (CsE.cons (c1 := [(Value.int .i64 y_1.Kind), (Value.string y_1.Name), (Value.slice Ae15_2 (List.length y_1.Args) ce15_2)]) (T_api_Type.iff.2 ⟨_, _, rfl, ke15_2, re15_2⟩) rfl (CsE.cons (c1 := [(Value.int .i64 y_2.Kind), (Value.string y_2.Name), (Value.slice Ae16_2 (List.length y_2.Args) ce16_2)]) (T_api_Type.iff.2 ⟨_, _, rfl, ke16_2, re16_2⟩) rfl CsE.nil)), rfl⟩)), ?_⟩
  refine O14.new fun h17 x18 O19 => ?_
  have O21 := O19.recell 3 rfl (cs' := ([(Value.int .i64 y_1.Kind), (Value.string y_1.Name), (Value.slice Ae15_2 (List.length y_1.Args) ce15_2), (Value.int .i64 y_2.Kind), (Value.string y_2.Name), (Value.slice Ae16_2 (List.length y_2.Args) ce16_2)]) ++ []) rfl
  have O22 := O21.nm
  have O23 := O22.nil (aE tell_str) none
  have O25 := O23.nil (aE T_api_Type.T) none
  have O27 := O25.rowE (l := ([([y_1, y_2] : List T_api_Type)] : List (List T_api_Type))) 3 rfl (tell_arrE 2 T_api_Type.T) (show CsE _ _ _ _ _ from (CsE.cons (show (eArrE 2 3 T_api_Type.E) m ([y_1, y_2] : List T_api_Type) [(Value.int .i64 y_1.Kind), (Value.string y_1.Name), (Value.slice Ae15_2 (List.length y_1.Args) ce15_2), (Value.int .i64 y_2.Kind), (Value.string y_2.Name), (Value.slice Ae16_2 (List.length y_2.Args) ce16_2)] from ⟨show CsE _ _ _ _ _ from (CsE.cons (c1 := [(Value.int .i64 y_1.Kind), (Value.string y_1.Name), (Value.slice Ae15_2 (List.length y_1.Args) ce15_2)]) (T_api_Type.iff.2 ⟨_, _, rfl, ke15_2, re15_2⟩) rfl (CsE.cons (c1 := [(Value.int .i64 y_2.Kind), (Value.string y_2.Name), (Value.slice Ae16_2 (List.length y_2.Args) ce16_2)]) (T_api_Type.iff.2 ⟨_, _, rfl, ke16_2, re16_2⟩) rfl CsE.nil)), rfl⟩) ((tell_arrE 2 T_api_Type.T).len _ _ _ (show (eArrE 2 3 T_api_Type.E) m ([y_1, y_2] : List T_api_Type) [(Value.int .i64 y_1.Kind), (Value.string y_1.Name), (Value.slice Ae15_2 (List.length y_1.Args) ce15_2), (Value.int .i64 y_2.Kind), (Value.string y_2.Name), (Value.slice Ae16_2 (List.length y_2.Args) ce16_2)] from ⟨show CsE _ _ _ _ _ from (CsE.cons (c1 := [(Value.int .i64 y_1.Kind), (Value.string y_1.Name), (Value.slice Ae15_2 (List.length y_1.Args) ce15_2)]) (T_api_Type.iff.2 ⟨_, _, rfl, ke15_2, re15_2⟩) rfl (CsE.cons (c1 := [(Value.int .i64 y_2.Kind), (Value.string y_2.Name), (Value.slice Ae16_2 (List.length y_2.Args) ce16_2)]) (T_api_Type.iff.2 ⟨_, _, rfl, ke16_2, re16_2⟩) rfl CsE.nil)), rfl⟩)) CsE.nil)) rfl
  have O28 := O27.nm
  exact roadref2_Fitting.l0.walk (O28.pick [2, 4, 5, 3]).nm rfl k_0 r_0 rfl rfl rfl tab e
def roadlaw2_SchemeSays.post (W : Nat → Prop) (h0 m0 : Heap) (r : Bool) (v : Value) (h : Heap) : Prop := ∃ m , Hold W h0 m0 h m [] ∧ v = .bool r
inductive roadlaw2_SchemeSays.l3_k.Pt where
  | l3 (x_4 : Int) (y_5 : T_scheme_Scheme) (y_7 : T_api_Type) (y_23 : T_api_Type) (x_24 : Int) (a_25 : List T_api_Type) (x_153 : Int) (x_154 : Int)
noncomputable def roadlaw2_SchemeSays.l3_k.body (go : (p : roadlaw2_SchemeSays.l3_k.Pt) → Option (Bool)) : (p : roadlaw2_SchemeSays.l3_k.Pt) → Option (Bool)
  | .l3 x_4 y_5 y_7 y_23 x_24 a_25 x_153 x_154 => if x_154 < x_153 then (Option.bind (strconv_Itoa (IntKind.wrap .i64 (x_4 + x_154))) fun y1 => if ByteArray.size (ByteArray.mk #[63]) + ByteArray.size y1 ≤ 9223372036854775807 then (Option.bind (ap 48 a_25 ([(T_api_Type.mk (5 : Int) ((ByteArray.mk #[63]) ++ y1) ([] : List T_api_Type))] : List T_api_Type)) fun l13 => (go (.l3 x_4 y_5 y_7 y_23 x_24 l13 x_153 (IntKind.wrap .i64 (x_154 + (1 : Int)))))) else none) else (if x_24 = (IntKind.wrap .i64 (x_4 + (((List.length y_5.Params) : Nat) : Int))) then (Option.bind (roadref2_TypeMark y_23) fun y33 => Option.bind (roadref2_Swap y_5.Type_ y_5.Params a_25) fun y40 => Option.bind (roadref2_TypeMark y40) fun y57 => if y33 = y57 then (Option.bind (scheme_Name (7 : Int)) fun y64 => if y64 = (ByteArray.mk #[63, 55]) then (Option.bind (scheme_More y_5 y_7) fun y76 => Option.bind (roadref2_Fitting y_5.Params y_5.Type_ y_7) fun y83 => some ((y76 == y83))) else (some (false))) else (some (false))) else (some (false)))
theorem roadlaw2_SchemeSays.l3_k.mono : MonoF (β := fun _ => (Bool)) roadlaw2_SchemeSays.l3_k.body := fun f g hfg p => match p with
  | .l3 x_4 y_5 y_7 y_23 x_24 a_25 x_153 x_154 => LeO.ite (LeO.bind (LeO.refl _) fun y1 => LeO.ite (LeO.bind (LeO.refl _) fun l13 => (hfg _)) (LeO.refl _)) (LeO.ite (LeO.bind (LeO.refl _) fun y33 => LeO.bind (LeO.refl _) fun y40 => LeO.bind (LeO.refl _) fun y57 => LeO.ite (LeO.bind (LeO.refl _) fun y64 => LeO.ite (LeO.bind (LeO.refl _) fun y76 => LeO.bind (LeO.refl _) fun y83 => LeO.refl _) (LeO.refl _)) (LeO.refl _)) (LeO.refl _))
noncomputable def roadlaw2_SchemeSays.l3_k.go (p : roadlaw2_SchemeSays.l3_k.Pt) : Option (Bool) := fixF (β := fun _ => (Bool)) roadlaw2_SchemeSays.l3_k.body p
noncomputable def roadlaw2_SchemeSays.l3 (x_4 : Int) (y_5 : T_scheme_Scheme) (y_7 : T_api_Type) (y_23 : T_api_Type) (x_24 : Int) (a_25 : List T_api_Type) (x_153 : Int) (x_154 : Int) : Option (Bool) := roadlaw2_SchemeSays.l3_k.go (.l3 x_4 y_5 y_7 y_23 x_24 a_25 x_153 x_154)
theorem roadlaw2_SchemeSays.l3_eq (x_4 : Int) (y_5 : T_scheme_Scheme) (y_7 : T_api_Type) (y_23 : T_api_Type) (x_24 : Int) (a_25 : List T_api_Type) (x_153 : Int) (x_154 : Int) : roadlaw2_SchemeSays.l3 x_4 y_5 y_7 y_23 x_24 a_25 x_153 x_154 = if x_154 < x_153 then (Option.bind (strconv_Itoa (IntKind.wrap .i64 (x_4 + x_154))) fun y1 => if ByteArray.size (ByteArray.mk #[63]) + ByteArray.size y1 ≤ 9223372036854775807 then (Option.bind (ap 48 a_25 ([(T_api_Type.mk (5 : Int) ((ByteArray.mk #[63]) ++ y1) ([] : List T_api_Type))] : List T_api_Type)) fun l13 => (roadlaw2_SchemeSays.l3 x_4 y_5 y_7 y_23 x_24 l13 x_153 (IntKind.wrap .i64 (x_154 + (1 : Int))))) else none) else (if x_24 = (IntKind.wrap .i64 (x_4 + (((List.length y_5.Params) : Nat) : Int))) then (Option.bind (roadref2_TypeMark y_23) fun y33 => Option.bind (roadref2_Swap y_5.Type_ y_5.Params a_25) fun y40 => Option.bind (roadref2_TypeMark y40) fun y57 => if y33 = y57 then (Option.bind (scheme_Name (7 : Int)) fun y64 => if y64 = (ByteArray.mk #[63, 55]) then (Option.bind (scheme_More y_5 y_7) fun y76 => Option.bind (roadref2_Fitting y_5.Params y_5.Type_ y_7) fun y83 => some ((y76 == y83))) else (some (false))) else (some (false))) else (some (false))) := fixF_eq roadlaw2_SchemeSays.l3_k.mono _
def roadlaw2_SchemeSays.l3_k.I : (p : roadlaw2_SchemeSays.l3_k.Pt) → (Bool) → Prop
  | .l3 x_4 y_5 y_7 y_23 x_24 a_25 x_153 x_154, r => ∀ (W : Nat → Prop) (h0 m0 h m : Heap) (bk_5 : Nat) (cs_5 : List Value) (bk_7 : Nat) (cs_7 : List Value) (bk_23 : Nat) (cs_23 : List Value) (A_25 : Option Addr) (n_25 c_25 : Nat) (O : Hold W h0 m0 h m [rV bk_5 27 cs_5, rV bk_7 25 cs_7, rV bk_23 25 cs_23, rR (aE T_api_Type.T) A_25 c_25 a_25]) (e_5 : T_scheme_Scheme.E m y_5 cs_5) (e_7 : T_api_Type.E m y_7 cs_7) (e_23 : T_api_Type.E m y_23 cs_23) (ne_25 : n_25 = List.length a_25) (tab : TB m), f3.l3 (roadlaw2_SchemeSays.post W h0 m0 r) x_4 (⟨bk_5, 0, none⟩ : Addr) (⟨bk_7, 0, none⟩ : Addr) (⟨bk_23, 0, none⟩ : Addr) x_24 A_25 n_25 c_25 x_153 x_154 h
set_option maxHeartbeats 4000000 in
set_option maxRecDepth 100000 in
theorem roadlaw2_SchemeSays.l3_k.step_l3 (go : (p : roadlaw2_SchemeSays.l3_k.Pt) → Option (Bool)) (ih : ∀ p r, go p = some r → roadlaw2_SchemeSays.l3_k.I p r) (x_4 : Int) (y_5 : T_scheme_Scheme) (y_7 : T_api_Type) (y_23 : T_api_Type) (x_24 : Int) (a_25 : List T_api_Type) (x_153 : Int) (x_154 : Int) (r : Bool) (e : roadlaw2_SchemeSays.l3_k.body go (.l3 x_4 y_5 y_7 y_23 x_24 a_25 x_153 x_154) = some r) : roadlaw2_SchemeSays.l3_k.I (.l3 x_4 y_5 y_7 y_23 x_24 a_25 x_153 x_154) r := by
  unfold roadlaw2_SchemeSays.l3_k.body at e
  intro W h0 m0 h m bk_5 cs_5 bk_7 cs_7 bk_23 cs_23 A_25 n_25 c_25 O e_5 e_7 e_23 ne_25 tab
  subst ne_25
  refine f3.l3_in ?_
  unfold f3.l3T
  refine split_dec_e e (fun c93 e => ?_) (fun c93 e => ?_)
  · obtain ⟨y1, g2, e⟩ := bind_e e
    refine (strconv_Itoa.walk (Hold.start (W := No) O.s) tab g2).mono ?_
    rintro _ h3 ⟨m4, Q5, rfl⟩
    have O7 := Hold.nm (O.retC Q5 vfs_nil)
    refine ⟨_, rfl, ?_⟩
    obtain ⟨g8, e⟩ := guard_e e
    refine ⟨g8, ?_⟩
    refine ⟨[(Value.int .i64 (5 : Int)), (Value.string ((ByteArray.mk #[63]) ++ y1)), (Value.slice none 0 0)], rfl, rfl, ?_⟩
    refine O7.new fun h9 x10 O11 => ?_
    obtain ⟨l13, g14, e⟩ := bind_e e
    have O21 := O11.rowE (l := ([(T_api_Type.mk (5 : Int) ((ByteArray.mk #[63]) ++ y1) ([] : List T_api_Type))] : List T_api_Type)) 4 rfl T_api_Type.T (show CsE _ _ _ _ _ from (CsE.cons (c1 := [(Value.int .i64 (5 : Int)), (Value.string ((ByteArray.mk #[63]) ++ y1)), (Value.slice none 0 0)]) (T_api_Type.iff.2 ⟨_, _, rfl, (by exact Nat.le_refl 0), Rd.nil⟩) rfl CsE.nil)) rfl
    refine O21.app 3 rfl rfl rfl ((O21.os 4 rfl).srcE rfl) (by decide) g14 fun A15 c16 h17 O18 => ?_
    refine ⟨_, _, _, rfl, ?_⟩
    have O22 := O18.nm
    exact (ih _ _ e) _ _ _ _ _ _ _ _ _ _ _ _ _ _ (O22.pick [0, 1, 2, 3]).nm e_5 e_7 e_23 rfl tab
  · obtain ⟨A23, c24, q25, k26, r27⟩ := T_scheme_Scheme.g0 e_5
    refine ⟨_, ld0 (Sub.refl _) (O.all 0 rfl) q25, _, _, _, rfl, ?_⟩
    refine split_eq_e e (fun c92 e => ?_) (fun c92 e => ?_)
    · refine ⟨_, ldAn (Sub.refl _) (O.all 2 rfl) (T_api_Type.T.len _ _ _ e_23), ?_⟩
      refine ⟨_, ldAkn (Sub.refl _) (O.all 0 rfl) 1 3 (le_len (T_scheme_Scheme.T.len _ _ _ e_5) (by decide)), ?_⟩
      obtain ⟨A28, c29, q30, k31, r32⟩ := T_scheme_Scheme.g0 e_5
      refine ⟨_, ld0 (Sub.refl _) (O.all 0 rfl) q30, _, _, _, rfl, ?_⟩
      obtain ⟨y33, g34, e⟩ := bind_e e
      refine (roadref2_TypeMark.walk (Hold.start (W := No) O.s) e_23 tab g34).mono ?_
      rintro _ h35 ⟨m36, Q37, rfl⟩
      have O39 := Hold.nm (O.retC Q37 vfs_nil)
      refine ⟨_, rfl, ?_⟩
      refine ⟨Q37.S.ext, ?_⟩
      obtain ⟨y40, g41, e⟩ := bind_e e
      obtain ⟨m46, u47, s52, ⟨⟨r50, k51⟩, _⟩, B48, C49⟩ := O39.lend0 [3]
      replace r50 : Rd 3 T_api_Type.E m46 A_25 a_25 := r50
      replace k51 : List.length a_25 ≤ c_25 := k51
      refine (roadref2_Swap.walk (Hold.start (W := No) s52) (T_api_Type.T.mono _ _ _ _ u47 (T_scheme_Scheme.u1_25 e_5)) rfl k31 (r32.sub tell_str u47) rfl k51 r50 g41).mono ?_
      rintro _ h42 ⟨m43, cs54, Q44, rfl, he55⟩
      have O56 := Hold.nm (B48 Q44)
      obtain ⟨y57, g58, e⟩ := bind_e e
      refine (roadref2_TypeMark.walk (Hold.start (W := No) O56.s) he55 (TBg.sub tab (u47.trans Q44.S.up)) g58).mono ?_
      rintro _ h59 ⟨m60, Q61, rfl⟩
      have O63 := Hold.nm (O56.retC Q61 vfs_nil)
      refine ⟨_, rfl, ?_⟩
      try rw [ba_list y33 y57]
      refine split_dec_e e (fun c91 e => ?_) (fun c91 e => ?_)
      · obtain ⟨y64, g65, e⟩ := bind_e e
        refine (scheme_Name.walk (Hold.start (W := No) O63.s) (TBg.sub tab (u47.trans Q44.S.up)) g65).mono ?_
        rintro _ h66 ⟨m67, Q68, rfl⟩
        have O70 := Hold.nm (O63.retC Q68 vfs_nil)
        refine ⟨_, rfl, ?_⟩
        try rw [ba_list y64 (ByteArray.mk #[63, 55])]
        refine split_dec_e e (fun c90 e => ?_) (fun c90 e => ?_)
        · refine ⟨_, ldAn (Sub.refl _) (O70.all 0 rfl) (T_scheme_Scheme.T.len _ _ _ e_5), ?_⟩
          refine ⟨_, ldAn (Sub.refl _) (O70.all 1 rfl) (T_api_Type.T.len _ _ _ e_7), ?_⟩
          obtain ⟨A71, c72, q73, k74, r75⟩ := T_scheme_Scheme.g0 e_5
          refine ⟨_, ld0 (Sub.refl _) (O70.all 0 rfl) q73, _, _, _, rfl, ?_⟩
          refine ⟨_, ldAkn (Sub.refl _) (O70.all 0 rfl) 1 3 (le_len (T_scheme_Scheme.T.len _ _ _ e_5) (by decide)), ?_⟩
          refine ⟨_, ldAn (Sub.refl _) (O70.all 1 rfl) (T_api_Type.T.len _ _ _ e_7), ?_⟩
          obtain ⟨y76, g77, e⟩ := bind_e e
          refine (scheme_More.walk (Hold.start (W := No) O70.s) (T_scheme_Scheme.T.mono _ _ _ _ (u47.trans Q44.S.up) e_5) (T_api_Type.T.mono _ _ _ _ (u47.trans Q44.S.up) e_7) g77).mono ?_
          rintro _ h78 ⟨m79, Q80, rfl⟩
          have O82 := Hold.nm (O70.retC Q80 vfs_nil)
          refine ⟨_, rfl, ?_⟩
          refine ⟨Q80.S.ext, ?_⟩
          obtain ⟨y83, g84, e⟩ := bind_e e
          refine (roadref2_Fitting.walk (Hold.start (W := No) O82.s) rfl k74 (r75.sub tell_str (u47.trans Q44.S.up)) (T_api_Type.T.mono _ _ _ _ (u47.trans Q44.S.up) (T_scheme_Scheme.u1_25 e_5)) (T_api_Type.T.mono _ _ _ _ (u47.trans Q44.S.up) e_7) (TBg.sub tab (u47.trans Q44.S.up)) g84).mono ?_
          rintro _ h85 ⟨m86, Q87, rfl⟩
          have O89 := Hold.nm (O82.retC Q87 vfs_nil)
          refine ⟨_, rfl, ?_⟩
          cases e
          exact ⟨_, O89.pick [], rfl⟩
        · refine ⟨Ext.refl _, ?_⟩
          cases e
          exact ⟨_, O70.pick [], rfl⟩
      · refine ⟨Ext.refl _, ?_⟩
        cases e
        exact ⟨_, O63.pick [], rfl⟩
    · refine ⟨Ext.refl _, ?_⟩
      refine ⟨Ext.refl _, ?_⟩
      cases e
      exact ⟨_, O.pick [], rfl⟩
theorem roadlaw2_SchemeSays.l3_k.all {p : roadlaw2_SchemeSays.l3_k.Pt} {r : (Bool)} (e : roadlaw2_SchemeSays.l3_k.go p = some r) : roadlaw2_SchemeSays.l3_k.I p r := fixF_ind (β := fun _ => (Bool)) roadlaw2_SchemeSays.l3_k.mono (I := roadlaw2_SchemeSays.l3_k.I) (fun go ih p r e => match p with
  | .l3 x_4 y_5 y_7 y_23 x_24 a_25 x_153 x_154 => roadlaw2_SchemeSays.l3_k.step_l3 go ih x_4 y_5 y_7 y_23 x_24 a_25 x_153 x_154 r e
  ) e
theorem roadlaw2_SchemeSays.l3.walk {W : Nat → Prop} {h0 m0 h m : Heap} {bk_5 : Nat} {cs_5 : List Value} {bk_7 : Nat} {cs_7 : List Value} {bk_23 : Nat} {cs_23 : List Value} {A_25 : Option Addr} {n_25 c_25 : Nat} {x_4 : Int} {y_5 : T_scheme_Scheme} {y_7 : T_api_Type} {y_23 : T_api_Type} {x_24 : Int} {a_25 : List T_api_Type} {x_153 : Int} {x_154 : Int} (O : Hold W h0 m0 h m [rV bk_5 27 cs_5, rV bk_7 25 cs_7, rV bk_23 25 cs_23, rR (aE T_api_Type.T) A_25 c_25 a_25]) (e_5 : T_scheme_Scheme.E m y_5 cs_5) (e_7 : T_api_Type.E m y_7 cs_7) (e_23 : T_api_Type.E m y_23 cs_23) (ne_25 : n_25 = List.length a_25) (tab : TB m) {r : Bool} (e : roadlaw2_SchemeSays.l3 x_4 y_5 y_7 y_23 x_24 a_25 x_153 x_154 = some r) : f3.l3 (roadlaw2_SchemeSays.post W h0 m0 r) x_4 (⟨bk_5, 0, none⟩ : Addr) (⟨bk_7, 0, none⟩ : Addr) (⟨bk_23, 0, none⟩ : Addr) x_24 A_25 n_25 c_25 x_153 x_154 h := roadlaw2_SchemeSays.l3_k.all (p := .l3 x_4 y_5 y_7 y_23 x_24 a_25 x_153 x_154) e W h0 m0 h m bk_5 cs_5 bk_7 cs_7 bk_23 cs_23 A_25 n_25 c_25 O e_5 e_7 e_23 ne_25 tab
noncomputable def roadlaw2_SchemeSays.j1 (x_4 : Int) (y_5 : T_scheme_Scheme) (y_7 : T_api_Type) : Option (Bool) :=
  Option.bind (roadref2_Rest x_4 (1000000 : Int)) fun y1 => Option.bind (scheme_Fresh y_5 y1) fun y8 => (roadlaw2_SchemeSays.l3 y1 y_5 y_7 y8.1 y8.2 ([] : List T_api_Type) (((List.length y_5.Params) : Nat) : Int) (0 : Int))
set_option maxRecDepth 100000 in
theorem roadlaw2_SchemeSays.j1.walk {W : Nat → Prop} {h0 m0 h m : Heap} {bk_5 : Nat} {cs_5 : List Value} {bk_7 : Nat} {cs_7 : List Value} {x_4 : Int} {y_5 : T_scheme_Scheme} {y_7 : T_api_Type} (O : Hold W h0 m0 h m [rV bk_5 27 cs_5, rV bk_7 25 cs_7]) (e_5 : T_scheme_Scheme.E m y_5 cs_5) (e_7 : T_api_Type.E m y_7 cs_7) (tab : TB m) {r : Bool} (e : roadlaw2_SchemeSays.j1 x_4 y_5 y_7 = some r) : f3.j1 (roadlaw2_SchemeSays.post W h0 m0 r) x_4 (⟨bk_5, 0, none⟩ : Addr) (⟨bk_7, 0, none⟩ : Addr) h := by
  unfold roadlaw2_SchemeSays.j1 at e
  refine f3.j1_in ?_
  unfold f3.j1T
  obtain ⟨y1, g2, e⟩ := bind_e e
  refine (roadref2_Rest.walk (Hold.start (W := No) O.s)  g2).mono ?_
  rintro _ h3 ⟨m4, Q5, rfl⟩
  have O7 := Hold.nm (O.retC Q5 vfs_nil)
  refine ⟨_, rfl, ?_⟩
  refine ⟨_, ldAn (Sub.refl _) (O7.all 0 rfl) (T_scheme_Scheme.T.len _ _ _ e_5), ?_⟩
  obtain ⟨y8, g9, e⟩ := bind_e e
  refine (scheme_Fresh.walk (Hold.start (W := No) O7.s) e_5 tab g9).mono ?_
  rintro _ h10 ⟨m11, cs15, Q12, rfl, he16⟩
  have O17 := Hold.nm (O7.ret Q12)
  refine ⟨_, _, rfl, ?_⟩
  refine O17.new fun h18 x19 O20 => ?_
  refine ⟨_, rfl, (T_api_Type.T.len _ _ _ he16), ?_⟩
  refine O20.stA 2 rfl (T_api_Type.T.len _ _ _ he16) (T_api_Type.T.flat _ _ _ he16) fun h22 O23 => ?_
  obtain ⟨A24, c25, q26, k27, r28⟩ := T_scheme_Scheme.g0 e_5
  refine ⟨_, ld0 (Sub.refl _) (O23.all 0 rfl) q26, _, _, _, rfl, ?_⟩
  have O29 := O23.nil (aE T_api_Type.T) none
  have O31 := O29.nm
  exact roadlaw2_SchemeSays.l3.walk (O31.pick [0, 1, 2, 3]).nm (T_scheme_Scheme.T.mono _ _ _ _ Q12.S.up e_5) (T_api_Type.T.mono _ _ _ _ Q12.S.up e_7) he16 rfl (TBg.sub tab Q12.S.up) e
noncomputable def roadlaw2_SchemeSays.j0 (a_3 : List T_api_Type) (x_4 : Int) (y_5 : T_scheme_Scheme) (y_7 : T_api_Type) : Option (Bool) :=
  Option.bind (scheme_Instance y_5 a_3) fun y1 => if (((List.length a_3) : Nat) : Int) = (((List.length y_5.Params) : Nat) : Int) then (if y1.2 = (0 : Int) then (Option.bind (roadref2_TypeMark y1.1) fun y46 => Option.bind (roadref2_Swap y_5.Type_ y_5.Params a_3) fun y58 => Option.bind (roadref2_TypeMark y58) fun y68 => if y46 = y68 then ((roadlaw2_SchemeSays.j1 x_4 y_5 y_7)) else (some (false))) else (some (false))) else (if y1.2 = (1 : Int) then (Option.bind (roadref2_TypeMark y1.1) fun y23 => Option.bind (roadref2_TypeMark (T_api_Type.mk (0 : Int) (ByteArray.mk #[]) ([] : List T_api_Type))) fun y30 => if y23 = y30 then ((roadlaw2_SchemeSays.j1 x_4 y_5 y_7)) else (some (false))) else (some (false)))
set_option maxHeartbeats 4000000 in
set_option maxRecDepth 100000 in
theorem roadlaw2_SchemeSays.j0.walk {W : Nat → Prop} {h0 m0 h m : Heap} {A_3 : Option Addr} {n_3 c_3 : Nat} {bk_5 : Nat} {cs_5 : List Value} {bk_7 : Nat} {cs_7 : List Value} {a_3 : List T_api_Type} {x_4 : Int} {y_5 : T_scheme_Scheme} {y_7 : T_api_Type} (O : Hold W h0 m0 h m [rV bk_5 27 cs_5, rV bk_7 25 cs_7]) (ne_3 : n_3 = List.length a_3) (k_3 : List.length a_3 ≤ c_3) (r_3 : Rd 3 T_api_Type.E m A_3 a_3) (e_5 : T_scheme_Scheme.E m y_5 cs_5) (e_7 : T_api_Type.E m y_7 cs_7) (tab : TB m) {r : Bool} (e : roadlaw2_SchemeSays.j0 a_3 x_4 y_5 y_7 = some r) : f3.j0 (roadlaw2_SchemeSays.post W h0 m0 r) A_3 n_3 c_3 x_4 (⟨bk_5, 0, none⟩ : Addr) (⟨bk_7, 0, none⟩ : Addr) h := by
  unfold roadlaw2_SchemeSays.j0 at e
  subst ne_3
  refine f3.j0_in ?_
  unfold f3.j0T
  refine ⟨_, ldAn (Sub.refl _) (O.all 0 rfl) (T_scheme_Scheme.T.len _ _ _ e_5), ?_⟩
  obtain ⟨y1, g2, e⟩ := bind_e e
  refine (scheme_Instance.walk (Hold.start (W := No) O.s) e_5 rfl k_3 r_3 g2).mono ?_
  rintro _ h3 ⟨m4, cs8, Q5, rfl, he9⟩
  have O10 := Hold.nm (O.ret Q5)
  refine ⟨_, _, rfl, ?_⟩
  refine O10.new fun h11 x12 O13 => ?_
  refine ⟨_, rfl, (T_api_Type.T.len _ _ _ he9), ?_⟩
  refine O13.stA 2 rfl (T_api_Type.T.len _ _ _ he9) (T_api_Type.T.flat _ _ _ he9) fun h15 O16 => ?_
  obtain ⟨A17, c18, q19, k20, r21⟩ := T_scheme_Scheme.g0 e_5
  refine ⟨_, ld0 (Sub.refl _) (O16.all 0 rfl) q19, _, _, _, rfl, ?_⟩
  refine split_ne_e e (fun c245 e => ?_) (fun c245 e => ?_)
  · refine split_ne_e e (fun c38 e => ?_) (fun c38 e => ?_)
    · have O22 := O16.nm
      cases e
      exact ⟨_, O22.pick [], rfl⟩
    · refine ⟨_, ldAn (Sub.refl _) (O16.all 2 rfl) (T_api_Type.T.len _ _ _ he9), ?_⟩
      obtain ⟨y23, g24, e⟩ := bind_e e
      refine (roadref2_TypeMark.walk (Hold.start (W := No) O16.s) he9 (TBg.sub tab Q5.S.up) g24).mono ?_
      rintro _ h25 ⟨m26, Q27, rfl⟩
      have O29 := Hold.nm (O16.retC Q27 vfs_nil)
      refine ⟨_, rfl, ?_⟩
      obtain ⟨y30, g31, e⟩ := bind_e e
      refine (roadref2_TypeMark.walk (Hold.start (W := No) O29.s) (T_api_Type.iff.2 ⟨_, _, rfl, (by exact Nat.le_refl 0), Rd.nil⟩) (TBg.sub tab Q5.S.up) g31).mono ?_
      rintro _ h32 ⟨m33, Q34, rfl⟩
      have O36 := Hold.nm (O29.retC Q34 vfs_nil)
      refine ⟨_, rfl, ?_⟩
      try rw [ba_list y23 y30]
      refine split_not ?_
      refine split_dec_e e (fun c37 e => ?_) (fun c37 e => ?_)
      · exact roadlaw2_SchemeSays.j1.walk (O36.pick [0, 1]).nm (T_scheme_Scheme.T.mono _ _ _ _ Q5.S.up e_5) (T_api_Type.T.mono _ _ _ _ Q5.S.up e_7) (TBg.sub tab Q5.S.up) e
      · cases e
        exact ⟨_, O36.pick [], rfl⟩
  · refine split_ne_e e (fun c244 e => ?_) (fun c244 e => ?_)
    · refine ⟨?_, ?_⟩
      · refine ⟨?_, ?_⟩
        · refine ⟨Ext.refl _, ?_⟩
          refine ⟨Ext.refl _, ?_⟩
          have O40 := O16.nm
          cases e
          exact ⟨_, O40.pick [], rfl⟩
        · refine ⟨Ext.refl _, ?_⟩
          refine ⟨Ext.refl _, ?_⟩
          have O41 := O16.nm
          cases e
          exact ⟨_, O41.pick [], rfl⟩
      · refine ⟨?_, ?_⟩
        · refine ⟨Ext.refl _, ?_⟩
          refine ⟨?_, ?_⟩
          · refine ⟨Ext.refl _, ?_⟩
            have O42 := O16.nm
            cases e
            exact ⟨_, O42.pick [], rfl⟩
          · refine ⟨Ext.refl _, ?_⟩
            have O43 := O16.nm
            cases e
            exact ⟨_, O43.pick [], rfl⟩
        · refine ⟨Ext.refl _, ?_⟩
          refine ⟨?_, ?_⟩
          · refine ⟨Ext.refl _, ?_⟩
            have O44 := O16.nm
            cases e
            exact ⟨_, O44.pick [], rfl⟩
          · refine ⟨Ext.refl _, ?_⟩
            have O45 := O16.nm
            cases e
            exact ⟨_, O45.pick [], rfl⟩
    · refine ⟨_, ldAn (Sub.refl _) (O16.all 2 rfl) (T_api_Type.T.len _ _ _ he9), ?_⟩
      obtain ⟨y46, g47, e⟩ := bind_e e
      obtain ⟨y58, g59, e⟩ := bind_e e
      obtain ⟨y68, g69, e⟩ := bind_e e
      refine ⟨?_, ?_⟩
      · refine (roadref2_TypeMark.walk (Hold.start (W := No) O16.s) he9 (TBg.sub tab Q5.S.up) g47).mono ?_
        rintro _ h78 ⟨m79, Q80, rfl⟩
        have O82 := Hold.nm (O16.retC Q80 vfs_nil)
        refine ⟨_, rfl, ?_⟩
        refine ⟨?_, ?_⟩
        · refine ⟨_, ldAkn (Sub.refl _) (O82.all 0 rfl) 1 3 (le_len (T_scheme_Scheme.T.len _ _ _ e_5) (by decide)), ?_⟩
          refine ⟨Ext.refl _, ?_⟩
          obtain ⟨A83, c84, q85, k86, r87⟩ := T_scheme_Scheme.g0 e_5
          refine ⟨_, ld0 (Sub.refl _) (O82.all 0 rfl) q85, _, _, _, rfl, ?_⟩
          refine ⟨Ext.refl _, ?_⟩
          refine (roadref2_Swap.walk (Hold.start (W := No) O82.s) (T_api_Type.T.mono _ _ _ _ Q5.S.up (T_scheme_Scheme.u1_25 e_5)) rfl k86 (r87.sub tell_str Q5.S.up) rfl k_3 (r_3.sub T_api_Type.T Q5.S.up) g59).mono ?_
          rintro _ h90 ⟨m91, cs95, Q92, rfl, he96⟩
          have O97 := Hold.nm (O82.ret Q92)
          refine (roadref2_TypeMark.walk (Hold.start (W := No) O97.s) he96 (TBg.sub tab (Q5.S.up.trans Q92.S.up)) g69).mono ?_
          rintro _ h100 ⟨m101, Q102, rfl⟩
          have O104 := Hold.nm (O97.retC Q102 vfs_nil)
          refine ⟨_, rfl, ?_⟩
          try rw [ba_list y46 y68]
          refine split_not ?_
          refine split_dec_e e (fun c105 e => ?_) (fun c105 e => ?_)
          · exact roadlaw2_SchemeSays.j1.walk (O104.pick [0, 1]).nm (T_scheme_Scheme.T.mono _ _ _ _ (Q5.S.up.trans Q92.S.up) e_5) (T_api_Type.T.mono _ _ _ _ (Q5.S.up.trans Q92.S.up) e_7) (TBg.sub tab (Q5.S.up.trans Q92.S.up)) e
          · cases e
            exact ⟨_, O104.pick [], rfl⟩
        · obtain ⟨A106, c107, q108, k109, r110⟩ := T_scheme_Scheme.g0 e_5
          refine ⟨_, ld0 (Sub.refl _) (O82.all 0 rfl) q108, _, _, _, rfl, ?_⟩
          refine ⟨Ext.refl _, ?_⟩
          refine ⟨_, ldAkn (Sub.refl _) (O82.all 0 rfl) 1 3 (le_len (T_scheme_Scheme.T.len _ _ _ e_5) (by decide)), ?_⟩
          refine ⟨Ext.refl _, ?_⟩
          refine (roadref2_Swap.walk (Hold.start (W := No) O82.s) (T_api_Type.T.mono _ _ _ _ Q5.S.up (T_scheme_Scheme.u1_25 e_5)) rfl k109 (r110.sub tell_str Q5.S.up) rfl k_3 (r_3.sub T_api_Type.T Q5.S.up) g59).mono ?_
          rintro _ h113 ⟨m114, cs118, Q115, rfl, he119⟩
          have O120 := Hold.nm (O82.ret Q115)
          refine (roadref2_TypeMark.walk (Hold.start (W := No) O120.s) he119 (TBg.sub tab (Q5.S.up.trans Q115.S.up)) g69).mono ?_
          rintro _ h123 ⟨m124, Q125, rfl⟩
          have O127 := Hold.nm (O120.retC Q125 vfs_nil)
          refine ⟨_, rfl, ?_⟩
          try rw [ba_list y46 y68]
          refine split_not ?_
          refine split_dec_e e (fun c128 e => ?_) (fun c128 e => ?_)
          · exact roadlaw2_SchemeSays.j1.walk (O127.pick [0, 1]).nm (T_scheme_Scheme.T.mono _ _ _ _ (Q5.S.up.trans Q115.S.up) e_5) (T_api_Type.T.mono _ _ _ _ (Q5.S.up.trans Q115.S.up) e_7) (TBg.sub tab (Q5.S.up.trans Q115.S.up)) e
          · cases e
            exact ⟨_, O127.pick [], rfl⟩
      · refine ⟨?_, ?_⟩
        · refine ⟨_, ldAkn (Sub.refl _) (O16.all 0 rfl) 1 3 (le_len (T_scheme_Scheme.T.len _ _ _ e_5) (by decide)), ?_⟩
          refine ⟨Ext.refl _, ?_⟩
          refine ⟨?_, ?_⟩
          · refine (roadref2_TypeMark.walk (Hold.start (W := No) O16.s) he9 (TBg.sub tab Q5.S.up) g47).mono ?_
            rintro _ h131 ⟨m132, Q133, rfl⟩
            have O135 := Hold.nm (O16.retC Q133 vfs_nil)
            refine ⟨_, rfl, ?_⟩
            obtain ⟨A136, c137, q138, k139, r140⟩ := T_scheme_Scheme.g0 e_5
            refine ⟨_, ld0 (Sub.refl _) (O135.all 0 rfl) q138, _, _, _, rfl, ?_⟩
            refine ⟨Ext.refl _, ?_⟩
            refine (roadref2_Swap.walk (Hold.start (W := No) O135.s) (T_api_Type.T.mono _ _ _ _ Q5.S.up (T_scheme_Scheme.u1_25 e_5)) rfl k139 (r140.sub tell_str Q5.S.up) rfl k_3 (r_3.sub T_api_Type.T Q5.S.up) g59).mono ?_
            rintro _ h143 ⟨m144, cs148, Q145, rfl, he149⟩
            have O150 := Hold.nm (O135.ret Q145)
            refine (roadref2_TypeMark.walk (Hold.start (W := No) O150.s) he149 (TBg.sub tab (Q5.S.up.trans Q145.S.up)) g69).mono ?_
            rintro _ h153 ⟨m154, Q155, rfl⟩
            have O157 := Hold.nm (O150.retC Q155 vfs_nil)
            refine ⟨_, rfl, ?_⟩
            try rw [ba_list y46 y68]
            refine split_not ?_
            refine split_dec_e e (fun c158 e => ?_) (fun c158 e => ?_)
            · exact roadlaw2_SchemeSays.j1.walk (O157.pick [0, 1]).nm (T_scheme_Scheme.T.mono _ _ _ _ (Q5.S.up.trans Q145.S.up) e_5) (T_api_Type.T.mono _ _ _ _ (Q5.S.up.trans Q145.S.up) e_7) (TBg.sub tab (Q5.S.up.trans Q145.S.up)) e
            · cases e
              exact ⟨_, O157.pick [], rfl⟩
          · obtain ⟨A159, c160, q161, k162, r163⟩ := T_scheme_Scheme.g0 e_5
            refine ⟨_, ld0 (Sub.refl _) (O16.all 0 rfl) q161, _, _, _, rfl, ?_⟩
            refine ⟨Ext.refl _, ?_⟩
            refine (roadref2_TypeMark.walk (Hold.start (W := No) O16.s) he9 (TBg.sub tab Q5.S.up) g47).mono ?_
            rintro _ h166 ⟨m167, Q168, rfl⟩
            have O170 := Hold.nm (O16.retC Q168 vfs_nil)
            refine ⟨_, rfl, ?_⟩
            refine (roadref2_Swap.walk (Hold.start (W := No) O170.s) (T_api_Type.T.mono _ _ _ _ Q5.S.up (T_scheme_Scheme.u1_25 e_5)) rfl k162 (r163.sub tell_str Q5.S.up) rfl k_3 (r_3.sub T_api_Type.T Q5.S.up) g59).mono ?_
            rintro _ h173 ⟨m174, cs178, Q175, rfl, he179⟩
            have O180 := Hold.nm (O170.ret Q175)
            refine (roadref2_TypeMark.walk (Hold.start (W := No) O180.s) he179 (TBg.sub tab (Q5.S.up.trans Q175.S.up)) g69).mono ?_
            rintro _ h183 ⟨m184, Q185, rfl⟩
            have O187 := Hold.nm (O180.retC Q185 vfs_nil)
            refine ⟨_, rfl, ?_⟩
            try rw [ba_list y46 y68]
            refine split_not ?_
            refine split_dec_e e (fun c188 e => ?_) (fun c188 e => ?_)
            · exact roadlaw2_SchemeSays.j1.walk (O187.pick [0, 1]).nm (T_scheme_Scheme.T.mono _ _ _ _ (Q5.S.up.trans Q175.S.up) e_5) (T_api_Type.T.mono _ _ _ _ (Q5.S.up.trans Q175.S.up) e_7) (TBg.sub tab (Q5.S.up.trans Q175.S.up)) e
            · cases e
              exact ⟨_, O187.pick [], rfl⟩
        · obtain ⟨A189, c190, q191, k192, r193⟩ := T_scheme_Scheme.g0 e_5
          refine ⟨_, ld0 (Sub.refl _) (O16.all 0 rfl) q191, _, _, _, rfl, ?_⟩
          refine ⟨Ext.refl _, ?_⟩
          refine ⟨?_, ?_⟩
          · refine (roadref2_TypeMark.walk (Hold.start (W := No) O16.s) he9 (TBg.sub tab Q5.S.up) g47).mono ?_
            rintro _ h196 ⟨m197, Q198, rfl⟩
            have O200 := Hold.nm (O16.retC Q198 vfs_nil)
            refine ⟨_, rfl, ?_⟩
            refine ⟨_, ldAkn (Sub.refl _) (O200.all 0 rfl) 1 3 (le_len (T_scheme_Scheme.T.len _ _ _ e_5) (by decide)), ?_⟩
            refine ⟨Ext.refl _, ?_⟩
            refine (roadref2_Swap.walk (Hold.start (W := No) O200.s) (T_api_Type.T.mono _ _ _ _ Q5.S.up (T_scheme_Scheme.u1_25 e_5)) rfl k192 (r193.sub tell_str Q5.S.up) rfl k_3 (r_3.sub T_api_Type.T Q5.S.up) g59).mono ?_
            rintro _ h203 ⟨m204, cs208, Q205, rfl, he209⟩
            have O210 := Hold.nm (O200.ret Q205)
            refine (roadref2_TypeMark.walk (Hold.start (W := No) O210.s) he209 (TBg.sub tab (Q5.S.up.trans Q205.S.up)) g69).mono ?_
            rintro _ h213 ⟨m214, Q215, rfl⟩
            have O217 := Hold.nm (O210.retC Q215 vfs_nil)
            refine ⟨_, rfl, ?_⟩
            try rw [ba_list y46 y68]
            refine split_not ?_
            refine split_dec_e e (fun c218 e => ?_) (fun c218 e => ?_)
            · exact roadlaw2_SchemeSays.j1.walk (O217.pick [0, 1]).nm (T_scheme_Scheme.T.mono _ _ _ _ (Q5.S.up.trans Q205.S.up) e_5) (T_api_Type.T.mono _ _ _ _ (Q5.S.up.trans Q205.S.up) e_7) (TBg.sub tab (Q5.S.up.trans Q205.S.up)) e
            · cases e
              exact ⟨_, O217.pick [], rfl⟩
          · refine ⟨_, ldAkn (Sub.refl _) (O16.all 0 rfl) 1 3 (le_len (T_scheme_Scheme.T.len _ _ _ e_5) (by decide)), ?_⟩
            refine ⟨Ext.refl _, ?_⟩
            refine (roadref2_TypeMark.walk (Hold.start (W := No) O16.s) he9 (TBg.sub tab Q5.S.up) g47).mono ?_
            rintro _ h221 ⟨m222, Q223, rfl⟩
            have O225 := Hold.nm (O16.retC Q223 vfs_nil)
            refine ⟨_, rfl, ?_⟩
            refine (roadref2_Swap.walk (Hold.start (W := No) O225.s) (T_api_Type.T.mono _ _ _ _ Q5.S.up (T_scheme_Scheme.u1_25 e_5)) rfl k192 (r193.sub tell_str Q5.S.up) rfl k_3 (r_3.sub T_api_Type.T Q5.S.up) g59).mono ?_
            rintro _ h228 ⟨m229, cs233, Q230, rfl, he234⟩
            have O235 := Hold.nm (O225.ret Q230)
            refine (roadref2_TypeMark.walk (Hold.start (W := No) O235.s) he234 (TBg.sub tab (Q5.S.up.trans Q230.S.up)) g69).mono ?_
            rintro _ h238 ⟨m239, Q240, rfl⟩
            have O242 := Hold.nm (O235.retC Q240 vfs_nil)
            refine ⟨_, rfl, ?_⟩
            try rw [ba_list y46 y68]
            refine split_not ?_
            refine split_dec_e e (fun c243 e => ?_) (fun c243 e => ?_)
            · exact roadlaw2_SchemeSays.j1.walk (O242.pick [0, 1]).nm (T_scheme_Scheme.T.mono _ _ _ _ (Q5.S.up.trans Q230.S.up) e_5) (T_api_Type.T.mono _ _ _ _ (Q5.S.up.trans Q230.S.up) e_7) (TBg.sub tab (Q5.S.up.trans Q230.S.up)) e
            · cases e
              exact ⟨_, O242.pick [], rfl⟩
inductive roadlaw2_SchemeSays.l1_k.Pt where
  | l1 (a_3 : List T_api_Type) (x_4 : Int) (y_5 : T_scheme_Scheme) (y_7 : T_api_Type) (a_11 : List ByteArray) (y_17 : T_scheme_Scheme) (a_18 : List ByteArray) (a_64 : List ByteArray) (x_65 : Int) (x_66 : Int)
noncomputable def roadlaw2_SchemeSays.l1_k.body (go : (p : roadlaw2_SchemeSays.l1_k.Pt) → Option (Bool)) : (p : roadlaw2_SchemeSays.l1_k.Pt) → Option (Bool)
  | .l1 a_3 x_4 y_5 y_7 a_11 y_17 a_18 a_64 x_65 x_66 => if x_66 < x_65 then (Option.bind (gi a_64 x_66) fun y1 => Option.bind (slices_Contains_6 a_11 y1) fun y8 => if y8 = true then ((go (.l1 a_3 x_4 y_5 y_7 a_11 y_17 a_18 a_64 x_65 (IntKind.wrap .i64 (x_66 + (1 : Int)))))) else (Option.bind (ap 16 a_18 ([y1] : List ByteArray)) fun l26 => (go (.l1 a_3 x_4 y_5 y_7 a_11 y_17 l26 a_64 x_65 (IntKind.wrap .i64 (x_66 + (1 : Int))))))) else (Option.bind (slices_Equal_7 y_17.Params a_18) fun y42 => if y42 = true then (Option.bind (roadref2_TypeMark y_17.Type_) fun y56 => Option.bind (roadref2_TypeMark y_7) fun y63 => if y56 = y63 then (Option.bind (scheme_Plain y_7) fun y70 => Option.bind (roadref2_TypeMark y70.Type_) fun y79 => Option.bind (roadref2_TypeMark y_7) fun y86 => if y79 = y86 then (Option.bind (scheme_Plain y_7) fun y93 => if (((List.length y93.Params) : Nat) : Int) > (0 : Int) then (some (false)) else ((roadlaw2_SchemeSays.j0 a_3 x_4 y_5 y_7))) else (some (false))) else (some (false))) else (some (false)))
theorem roadlaw2_SchemeSays.l1_k.mono : MonoF (β := fun _ => (Bool)) roadlaw2_SchemeSays.l1_k.body := fun f g hfg p => match p with
  | .l1 a_3 x_4 y_5 y_7 a_11 y_17 a_18 a_64 x_65 x_66 => LeO.ite (LeO.bind (LeO.refl _) fun y1 => LeO.bind (LeO.refl _) fun y8 => LeO.ite ((hfg _)) (LeO.bind (LeO.refl _) fun l26 => (hfg _))) (LeO.bind (LeO.refl _) fun y42 => LeO.ite (LeO.bind (LeO.refl _) fun y56 => LeO.bind (LeO.refl _) fun y63 => LeO.ite (LeO.bind (LeO.refl _) fun y70 => LeO.bind (LeO.refl _) fun y79 => LeO.bind (LeO.refl _) fun y86 => LeO.ite (LeO.bind (LeO.refl _) fun y93 => LeO.ite (LeO.refl _) ((LeO.refl _))) (LeO.refl _)) (LeO.refl _)) (LeO.refl _))
noncomputable def roadlaw2_SchemeSays.l1_k.go (p : roadlaw2_SchemeSays.l1_k.Pt) : Option (Bool) := fixF (β := fun _ => (Bool)) roadlaw2_SchemeSays.l1_k.body p
noncomputable def roadlaw2_SchemeSays.l1 (a_3 : List T_api_Type) (x_4 : Int) (y_5 : T_scheme_Scheme) (y_7 : T_api_Type) (a_11 : List ByteArray) (y_17 : T_scheme_Scheme) (a_18 : List ByteArray) (a_64 : List ByteArray) (x_65 : Int) (x_66 : Int) : Option (Bool) := roadlaw2_SchemeSays.l1_k.go (.l1 a_3 x_4 y_5 y_7 a_11 y_17 a_18 a_64 x_65 x_66)
theorem roadlaw2_SchemeSays.l1_eq (a_3 : List T_api_Type) (x_4 : Int) (y_5 : T_scheme_Scheme) (y_7 : T_api_Type) (a_11 : List ByteArray) (y_17 : T_scheme_Scheme) (a_18 : List ByteArray) (a_64 : List ByteArray) (x_65 : Int) (x_66 : Int) : roadlaw2_SchemeSays.l1 a_3 x_4 y_5 y_7 a_11 y_17 a_18 a_64 x_65 x_66 = if x_66 < x_65 then (Option.bind (gi a_64 x_66) fun y1 => Option.bind (slices_Contains_6 a_11 y1) fun y8 => if y8 = true then ((roadlaw2_SchemeSays.l1 a_3 x_4 y_5 y_7 a_11 y_17 a_18 a_64 x_65 (IntKind.wrap .i64 (x_66 + (1 : Int))))) else (Option.bind (ap 16 a_18 ([y1] : List ByteArray)) fun l26 => (roadlaw2_SchemeSays.l1 a_3 x_4 y_5 y_7 a_11 y_17 l26 a_64 x_65 (IntKind.wrap .i64 (x_66 + (1 : Int)))))) else (Option.bind (slices_Equal_7 y_17.Params a_18) fun y42 => if y42 = true then (Option.bind (roadref2_TypeMark y_17.Type_) fun y56 => Option.bind (roadref2_TypeMark y_7) fun y63 => if y56 = y63 then (Option.bind (scheme_Plain y_7) fun y70 => Option.bind (roadref2_TypeMark y70.Type_) fun y79 => Option.bind (roadref2_TypeMark y_7) fun y86 => if y79 = y86 then (Option.bind (scheme_Plain y_7) fun y93 => if (((List.length y93.Params) : Nat) : Int) > (0 : Int) then (some (false)) else ((roadlaw2_SchemeSays.j0 a_3 x_4 y_5 y_7))) else (some (false))) else (some (false))) else (some (false))) := fixF_eq roadlaw2_SchemeSays.l1_k.mono _
def roadlaw2_SchemeSays.l1_k.I : (p : roadlaw2_SchemeSays.l1_k.Pt) → (Bool) → Prop
  | .l1 a_3 x_4 y_5 y_7 a_11 y_17 a_18 a_64 x_65 x_66, r => ∀ (W : Nat → Prop) (h0 m0 h m : Heap) (A_3 : Option Addr) (n_3 c_3 : Nat) (bk_5 : Nat) (cs_5 : List Value) (bk_7 : Nat) (cs_7 : List Value) (A_11 : Option Addr) (n_11 c_11 : Nat) (bk_17 : Nat) (cs_17 : List Value) (A_18 : Option Addr) (n_18 c_18 : Nat) (A_64 : Option Addr) (n_64 c_64 : Nat) (O : Hold W h0 m0 h m [rV bk_5 27 cs_5, rV bk_7 25 cs_7, rR (aE tell_str) A_11 c_11 a_11, rV bk_17 27 cs_17, rR (aE tell_str) A_18 c_18 a_18, rR (aE tell_str) A_64 c_64 a_64]) (ne_3 : n_3 = List.length a_3) (k_3 : List.length a_3 ≤ c_3) (r_3 : Rd 3 T_api_Type.E m A_3 a_3) (e_5 : T_scheme_Scheme.E m y_5 cs_5) (e_7 : T_api_Type.E m y_7 cs_7) (ne_11 : n_11 = List.length a_11) (e_17 : T_scheme_Scheme.E m y_17 cs_17) (ne_18 : n_18 = List.length a_18) (ne_64 : n_64 = List.length a_64) (tab : TB m), f3.l1 (roadlaw2_SchemeSays.post W h0 m0 r) A_3 n_3 c_3 x_4 (⟨bk_5, 0, none⟩ : Addr) (⟨bk_7, 0, none⟩ : Addr) A_11 n_11 c_11 (⟨bk_17, 0, none⟩ : Addr) A_18 n_18 c_18 A_64 n_64 c_64 x_65 x_66 h
set_option maxHeartbeats 4000000 in
set_option maxRecDepth 100000 in
theorem roadlaw2_SchemeSays.l1_k.step_l1 (go : (p : roadlaw2_SchemeSays.l1_k.Pt) → Option (Bool)) (ih : ∀ p r, go p = some r → roadlaw2_SchemeSays.l1_k.I p r) (a_3 : List T_api_Type) (x_4 : Int) (y_5 : T_scheme_Scheme) (y_7 : T_api_Type) (a_11 : List ByteArray) (y_17 : T_scheme_Scheme) (a_18 : List ByteArray) (a_64 : List ByteArray) (x_65 : Int) (x_66 : Int) (r : Bool) (e : roadlaw2_SchemeSays.l1_k.body go (.l1 a_3 x_4 y_5 y_7 a_11 y_17 a_18 a_64 x_65 x_66) = some r) : roadlaw2_SchemeSays.l1_k.I (.l1 a_3 x_4 y_5 y_7 a_11 y_17 a_18 a_64 x_65 x_66) r := by
  unfold roadlaw2_SchemeSays.l1_k.body at e
  intro W h0 m0 h m A_3 n_3 c_3 bk_5 cs_5 bk_7 cs_7 A_11 n_11 c_11 bk_17 cs_17 A_18 n_18 c_18 A_64 n_64 c_64 O ne_3 k_3 r_3 e_5 e_7 ne_11 e_17 ne_18 ne_64 tab
  subst ne_3
  subst ne_11
  subst ne_18
  subst ne_64
  refine f3.l1_in ?_
  unfold f3.l1T
  refine split_dec_e e (fun c106 e => ?_) (fun c106 e => ?_)
  · obtain ⟨y1, g2, e⟩ := bind_e e
    refine (O.os 5 rfl).addr rfl g2 fun a3 cs4 ha5 hc6 he7 => ?_
    obtain rfl : cs4 = [(Value.string y1)] := he7
    refine ⟨_, ld0 (Sub.refl _) hc6 rfl, _, rfl, ?_⟩
    obtain ⟨y8, g9, e⟩ := bind_e e
    obtain ⟨m14, u15, s20, ⟨⟨r18, k19⟩, _⟩, B16, C17⟩ := O.lend0 [2]
    replace r18 : Rd 1 eStr m14 A_11 a_11 := r18
    replace k19 : List.length a_11 ≤ c_11 := k19
    refine (slices_Contains_6.walk (Hold.start (W := No) s20) rfl k19 r18 g9).mono ?_
    rintro _ h10 ⟨m11, Q12, rfl⟩
    have O21 := Hold.nm (C17 Q12 vfs_nil)
    refine ⟨_, rfl, ?_⟩
    refine split_not ?_
    refine split_any_e e (fun c36 e => ?_) (fun c36 e => ?_)
    · exact (ih _ _ e) _ _ _ _ _ _ _ _ _ _ _ _ _ _ _ _ _ _ _ _ _ _ _ (O21.pick [0, 1, 2, 3, 4, 5]).nm rfl k_3 r_3 e_5 e_7 rfl e_17 rfl rfl tab
    · refine O21.new fun h22 x23 O24 => ?_
      obtain ⟨l26, g27, e⟩ := bind_e e
      have O34 := O24.rowE (l := ([y1] : List ByteArray)) 6 rfl tell_str (show CsE _ _ _ _ _ from (CsE.cons (c1 := [(Value.string y1)]) rfl rfl CsE.nil)) rfl
      refine O34.app 4 rfl rfl rfl ((O34.os 6 rfl).srcE rfl) (by decide) g27 fun A28 c29 h30 O31 => ?_
      refine ⟨_, _, _, rfl, ?_⟩
      have O35 := O31.nm
      exact (ih _ _ e) _ _ _ _ _ _ _ _ _ _ _ _ _ _ _ _ _ _ _ _ _ _ _ (O35.pick [0, 1, 2, 3, 4, 5]).nm rfl k_3 r_3 e_5 e_7 rfl e_17 rfl rfl tab
  · obtain ⟨A37, c38, q39, k40, r41⟩ := T_scheme_Scheme.g0 e_17
    refine ⟨_, ld0 (Sub.refl _) (O.all 3 rfl) q39, _, _, _, rfl, ?_⟩
    obtain ⟨y42, g43, e⟩ := bind_e e
    obtain ⟨m48, u49, s54, ⟨⟨r52, k53⟩, _⟩, B50, C51⟩ := O.lend0 [4]
    replace r52 : Rd 1 eStr m48 A_18 a_18 := r52
    replace k53 : List.length a_18 ≤ c_18 := k53
    refine (slices_Equal_7.walk (Hold.start (W := No) s54) rfl k40 (r41.sub tell_str u49) rfl k53 r52 g43).mono ?_
    rintro _ h44 ⟨m45, Q46, rfl⟩
    have O55 := Hold.nm (C51 Q46 vfs_nil)
    refine ⟨_, rfl, ?_⟩
    refine split_not ?_
    refine split_any_e e (fun c105 e => ?_) (fun c105 e => ?_)
    · refine ⟨_, ldAkn (Sub.refl _) (O55.all 3 rfl) 1 3 (le_len (T_scheme_Scheme.T.len _ _ _ e_17) (by decide)), ?_⟩
      refine ⟨_, ldAn (Sub.refl _) (O55.all 1 rfl) (T_api_Type.T.len _ _ _ e_7), ?_⟩
      obtain ⟨y56, g57, e⟩ := bind_e e
      refine (roadref2_TypeMark.walk (Hold.start (W := No) O55.s) (T_scheme_Scheme.u1_25 e_17) tab g57).mono ?_
      rintro _ h58 ⟨m59, Q60, rfl⟩
      have O62 := Hold.nm (O55.retC Q60 vfs_nil)
      refine ⟨_, rfl, ?_⟩
      refine ⟨Q60.S.ext, ?_⟩
      obtain ⟨y63, g64, e⟩ := bind_e e
      refine (roadref2_TypeMark.walk (Hold.start (W := No) O62.s) e_7 tab g64).mono ?_
      rintro _ h65 ⟨m66, Q67, rfl⟩
      have O69 := Hold.nm (O62.retC Q67 vfs_nil)
      refine ⟨_, rfl, ?_⟩
      try rw [ba_list y56 y63]
      refine split_not ?_
      refine split_dec_e e (fun c104 e => ?_) (fun c104 e => ?_)
      · refine ⟨_, ldAn (Sub.refl _) (O69.all 1 rfl) (T_api_Type.T.len _ _ _ e_7), ?_⟩
        refine ⟨_, ldAn (Sub.refl _) (O69.all 1 rfl) (T_api_Type.T.len _ _ _ e_7), ?_⟩
        obtain ⟨y70, g71, e⟩ := bind_e e
        refine (scheme_Plain.walk (Hold.start (W := No) O69.s) e_7 g71).mono ?_
        rintro _ h72 ⟨m73, A_76_0, n_76_0, c_76_0, A_76_3, n_76_3, c_76_3, Q74, rfl, ne_76_0, ne_76_3, k_76_3, r_76_3⟩
        have O78 := Hold.nm (O69.ret Q74)
        subst ne_76_0
        subst ne_76_3
        refine ⟨Q74.S.ext, ?_⟩
        refine ⟨(Value.agg #[(Value.int .i64 y70.Type_.Kind), (Value.string y70.Type_.Name), (Value.slice A_76_3 (List.length y70.Type_.Args) c_76_3)]), rfl, ?_⟩
        obtain ⟨y79, g80, e⟩ := bind_e e
        refine (roadref2_TypeMark.walk (Hold.start (W := No) O78.s) (T_api_Type.iff.2 ⟨_, _, rfl, k_76_3, r_76_3⟩) (TBg.sub tab Q74.S.up) g80).mono ?_
        rintro _ h81 ⟨m82, Q83, rfl⟩
        have O85 := Hold.nm (O78.retC Q83 vfs_nil)
        refine ⟨_, rfl, ?_⟩
        refine ⟨Q83.S.ext, ?_⟩
        obtain ⟨y86, g87, e⟩ := bind_e e
        refine (roadref2_TypeMark.walk (Hold.start (W := No) O85.s) (T_api_Type.T.mono _ _ _ _ Q74.S.up e_7) (TBg.sub tab Q74.S.up) g87).mono ?_
        rintro _ h88 ⟨m89, Q90, rfl⟩
        have O92 := Hold.nm (O85.retC Q90 vfs_nil)
        refine ⟨_, rfl, ?_⟩
        try rw [ba_list y79 y86]
        refine split_not ?_
        refine split_dec_e e (fun c103 e => ?_) (fun c103 e => ?_)
        · refine ⟨_, ldAn (Sub.refl _) (O92.all 1 rfl) (T_api_Type.T.len _ _ _ e_7), ?_⟩
          obtain ⟨y93, g94, e⟩ := bind_e e
          refine (scheme_Plain.walk (Hold.start (W := No) O92.s) (T_api_Type.T.mono _ _ _ _ Q74.S.up e_7) g94).mono ?_
          rintro _ h95 ⟨m96, A_99_0, n_99_0, c_99_0, A_99_3, n_99_3, c_99_3, Q97, rfl, ne_99_0, ne_99_3, k_99_3, r_99_3⟩
          have O101 := Hold.nm (O92.ret Q97)
          subst ne_99_0
          subst ne_99_3
          refine ⟨(Value.slice A_99_0 (List.length y93.Params) c_99_0), rfl, _, _, _, rfl, ?_⟩
          refine split_dec_e e (fun c102 e => ?_) (fun c102 e => ?_)
          · cases e
            exact ⟨_, O101.pick [], rfl⟩
          · exact roadlaw2_SchemeSays.j0.walk (O101.pick [0, 1]).nm rfl k_3 (r_3.sub T_api_Type.T (Q74.S.up.trans Q97.S.up)) (T_scheme_Scheme.T.mono _ _ _ _ (Q74.S.up.trans Q97.S.up) e_5) (T_api_Type.T.mono _ _ _ _ (Q74.S.up.trans Q97.S.up) e_7) (TBg.sub tab (Q74.S.up.trans Q97.S.up)) e
        · cases e
          exact ⟨_, O92.pick [], rfl⟩
      · refine ⟨Ext.refl _, ?_⟩
        refine ⟨Ext.refl _, ?_⟩
        cases e
        exact ⟨_, O69.pick [], rfl⟩
    · refine ⟨Ext.refl _, ?_⟩
      refine ⟨Ext.refl _, ?_⟩
      refine ⟨Ext.refl _, ?_⟩
      cases e
      exact ⟨_, O55.pick [], rfl⟩
theorem roadlaw2_SchemeSays.l1_k.all {p : roadlaw2_SchemeSays.l1_k.Pt} {r : (Bool)} (e : roadlaw2_SchemeSays.l1_k.go p = some r) : roadlaw2_SchemeSays.l1_k.I p r := fixF_ind (β := fun _ => (Bool)) roadlaw2_SchemeSays.l1_k.mono (I := roadlaw2_SchemeSays.l1_k.I) (fun go ih p r e => match p with
  | .l1 a_3 x_4 y_5 y_7 a_11 y_17 a_18 a_64 x_65 x_66 => roadlaw2_SchemeSays.l1_k.step_l1 go ih a_3 x_4 y_5 y_7 a_11 y_17 a_18 a_64 x_65 x_66 r e
  ) e
theorem roadlaw2_SchemeSays.l1.walk {W : Nat → Prop} {h0 m0 h m : Heap} {A_3 : Option Addr} {n_3 c_3 : Nat} {bk_5 : Nat} {cs_5 : List Value} {bk_7 : Nat} {cs_7 : List Value} {A_11 : Option Addr} {n_11 c_11 : Nat} {bk_17 : Nat} {cs_17 : List Value} {A_18 : Option Addr} {n_18 c_18 : Nat} {A_64 : Option Addr} {n_64 c_64 : Nat} {a_3 : List T_api_Type} {x_4 : Int} {y_5 : T_scheme_Scheme} {y_7 : T_api_Type} {a_11 : List ByteArray} {y_17 : T_scheme_Scheme} {a_18 : List ByteArray} {a_64 : List ByteArray} {x_65 : Int} {x_66 : Int} (O : Hold W h0 m0 h m [rV bk_5 27 cs_5, rV bk_7 25 cs_7, rR (aE tell_str) A_11 c_11 a_11, rV bk_17 27 cs_17, rR (aE tell_str) A_18 c_18 a_18, rR (aE tell_str) A_64 c_64 a_64]) (ne_3 : n_3 = List.length a_3) (k_3 : List.length a_3 ≤ c_3) (r_3 : Rd 3 T_api_Type.E m A_3 a_3) (e_5 : T_scheme_Scheme.E m y_5 cs_5) (e_7 : T_api_Type.E m y_7 cs_7) (ne_11 : n_11 = List.length a_11) (e_17 : T_scheme_Scheme.E m y_17 cs_17) (ne_18 : n_18 = List.length a_18) (ne_64 : n_64 = List.length a_64) (tab : TB m) {r : Bool} (e : roadlaw2_SchemeSays.l1 a_3 x_4 y_5 y_7 a_11 y_17 a_18 a_64 x_65 x_66 = some r) : f3.l1 (roadlaw2_SchemeSays.post W h0 m0 r) A_3 n_3 c_3 x_4 (⟨bk_5, 0, none⟩ : Addr) (⟨bk_7, 0, none⟩ : Addr) A_11 n_11 c_11 (⟨bk_17, 0, none⟩ : Addr) A_18 n_18 c_18 A_64 n_64 c_64 x_65 x_66 h := roadlaw2_SchemeSays.l1_k.all (p := .l1 a_3 x_4 y_5 y_7 a_11 y_17 a_18 a_64 x_65 x_66) e W h0 m0 h m A_3 n_3 c_3 bk_5 cs_5 bk_7 cs_7 A_11 n_11 c_11 bk_17 cs_17 A_18 n_18 c_18 A_64 n_64 c_64 O ne_3 k_3 r_3 e_5 e_7 ne_11 e_17 ne_18 ne_64 tab
inductive roadlaw2_SchemeSays.l0_k.Pt where
  | l0 (a_1 : List T_scheme_Scheme) (a_3 : List T_api_Type) (x_4 : Int) (y_5 : T_scheme_Scheme) (y_7 : T_api_Type) (a_11 : List ByteArray) (a_27 : List T_scheme_Scheme) (x_28 : Int) (x_29 : Int)
  | l2 (a_1 : List T_scheme_Scheme) (a_3 : List T_api_Type) (x_4 : Int) (y_5 : T_scheme_Scheme) (y_7 : T_api_Type) (a_11 : List ByteArray) (y_13 : T_scheme_Scheme) (a_14 : List ByteArray) (a_27 : List T_scheme_Scheme) (x_28 : Int) (x_29 : Int) (a_35 : List ByteArray) (x_36 : Int) (x_37 : Int)
noncomputable def roadlaw2_SchemeSays.l0_k.body (go : (p : roadlaw2_SchemeSays.l0_k.Pt) → Option (Bool)) : (p : roadlaw2_SchemeSays.l0_k.Pt) → Option (Bool)
  | .l0 a_1 a_3 x_4 y_5 y_7 a_11 a_27 x_28 x_29 => if x_29 < x_28 then (Option.bind (gi a_27 x_29) fun y1 => Option.bind (roadref2_UnknownsOf y1.Type_) fun y14 => (go (.l2 a_1 a_3 x_4 y_5 y_7 a_11 y1 ([] : List ByteArray) a_27 x_28 x_29 y14 (((List.length y14) : Nat) : Int) (0 : Int)))) else (Option.bind (scheme_Close a_1 y_7) fun y29 => Option.bind (roadref2_UnknownsOf y_7) fun y45 => (roadlaw2_SchemeSays.l1 a_3 x_4 y_5 y_7 a_11 y29 ([] : List ByteArray) y45 (((List.length y45) : Nat) : Int) (0 : Int)))
  | .l2 a_1 a_3 x_4 y_5 y_7 a_11 y_13 a_14 a_27 x_28 x_29 a_35 x_36 x_37 => if x_37 < x_36 then (Option.bind (gi a_35 x_37) fun y1 => Option.bind (slices_Contains_6 y_13.Params y1) fun y13 => if y13 = true then ((go (.l2 a_1 a_3 x_4 y_5 y_7 a_11 y_13 a_14 a_27 x_28 x_29 a_35 x_36 (IntKind.wrap .i64 (x_37 + (1 : Int)))))) else (Option.bind (ap 16 a_14 ([y1] : List ByteArray)) fun l24 => (go (.l2 a_1 a_3 x_4 y_5 y_7 a_11 y_13 l24 a_27 x_28 x_29 a_35 x_36 (IntKind.wrap .i64 (x_37 + (1 : Int))))))) else (Option.bind (scheme_Free y_13) fun y35 => Option.bind (slices_Equal_7 y35 a_14) fun y47 => if y47 = true then (Option.bind (ap 16 a_11 a_14) fun l63 => (go (.l0 a_1 a_3 x_4 y_5 y_7 l63 a_27 x_28 (IntKind.wrap .i64 (x_29 + (1 : Int)))))) else (some (false)))
theorem roadlaw2_SchemeSays.l0_k.mono : MonoF (β := fun _ => (Bool)) roadlaw2_SchemeSays.l0_k.body := fun f g hfg p => match p with
  | .l0 a_1 a_3 x_4 y_5 y_7 a_11 a_27 x_28 x_29 => LeO.ite (LeO.bind (LeO.refl _) fun y1 => LeO.bind (LeO.refl _) fun y14 => (hfg _)) (LeO.bind (LeO.refl _) fun y29 => LeO.bind (LeO.refl _) fun y45 => (LeO.refl _))
  | .l2 a_1 a_3 x_4 y_5 y_7 a_11 y_13 a_14 a_27 x_28 x_29 a_35 x_36 x_37 => LeO.ite (LeO.bind (LeO.refl _) fun y1 => LeO.bind (LeO.refl _) fun y13 => LeO.ite ((hfg _)) (LeO.bind (LeO.refl _) fun l24 => (hfg _))) (LeO.bind (LeO.refl _) fun y35 => LeO.bind (LeO.refl _) fun y47 => LeO.ite (LeO.bind (LeO.refl _) fun l63 => (hfg _)) (LeO.refl _))
noncomputable def roadlaw2_SchemeSays.l0_k.go (p : roadlaw2_SchemeSays.l0_k.Pt) : Option (Bool) := fixF (β := fun _ => (Bool)) roadlaw2_SchemeSays.l0_k.body p
noncomputable def roadlaw2_SchemeSays.l0 (a_1 : List T_scheme_Scheme) (a_3 : List T_api_Type) (x_4 : Int) (y_5 : T_scheme_Scheme) (y_7 : T_api_Type) (a_11 : List ByteArray) (a_27 : List T_scheme_Scheme) (x_28 : Int) (x_29 : Int) : Option (Bool) := roadlaw2_SchemeSays.l0_k.go (.l0 a_1 a_3 x_4 y_5 y_7 a_11 a_27 x_28 x_29)
noncomputable def roadlaw2_SchemeSays.l2 (a_1 : List T_scheme_Scheme) (a_3 : List T_api_Type) (x_4 : Int) (y_5 : T_scheme_Scheme) (y_7 : T_api_Type) (a_11 : List ByteArray) (y_13 : T_scheme_Scheme) (a_14 : List ByteArray) (a_27 : List T_scheme_Scheme) (x_28 : Int) (x_29 : Int) (a_35 : List ByteArray) (x_36 : Int) (x_37 : Int) : Option (Bool) := roadlaw2_SchemeSays.l0_k.go (.l2 a_1 a_3 x_4 y_5 y_7 a_11 y_13 a_14 a_27 x_28 x_29 a_35 x_36 x_37)
theorem roadlaw2_SchemeSays.l0_eq (a_1 : List T_scheme_Scheme) (a_3 : List T_api_Type) (x_4 : Int) (y_5 : T_scheme_Scheme) (y_7 : T_api_Type) (a_11 : List ByteArray) (a_27 : List T_scheme_Scheme) (x_28 : Int) (x_29 : Int) : roadlaw2_SchemeSays.l0 a_1 a_3 x_4 y_5 y_7 a_11 a_27 x_28 x_29 = if x_29 < x_28 then (Option.bind (gi a_27 x_29) fun y1 => Option.bind (roadref2_UnknownsOf y1.Type_) fun y14 => (roadlaw2_SchemeSays.l2 a_1 a_3 x_4 y_5 y_7 a_11 y1 ([] : List ByteArray) a_27 x_28 x_29 y14 (((List.length y14) : Nat) : Int) (0 : Int))) else (Option.bind (scheme_Close a_1 y_7) fun y29 => Option.bind (roadref2_UnknownsOf y_7) fun y45 => (roadlaw2_SchemeSays.l1 a_3 x_4 y_5 y_7 a_11 y29 ([] : List ByteArray) y45 (((List.length y45) : Nat) : Int) (0 : Int))) := fixF_eq roadlaw2_SchemeSays.l0_k.mono _
theorem roadlaw2_SchemeSays.l2_eq (a_1 : List T_scheme_Scheme) (a_3 : List T_api_Type) (x_4 : Int) (y_5 : T_scheme_Scheme) (y_7 : T_api_Type) (a_11 : List ByteArray) (y_13 : T_scheme_Scheme) (a_14 : List ByteArray) (a_27 : List T_scheme_Scheme) (x_28 : Int) (x_29 : Int) (a_35 : List ByteArray) (x_36 : Int) (x_37 : Int) : roadlaw2_SchemeSays.l2 a_1 a_3 x_4 y_5 y_7 a_11 y_13 a_14 a_27 x_28 x_29 a_35 x_36 x_37 = if x_37 < x_36 then (Option.bind (gi a_35 x_37) fun y1 => Option.bind (slices_Contains_6 y_13.Params y1) fun y13 => if y13 = true then ((roadlaw2_SchemeSays.l2 a_1 a_3 x_4 y_5 y_7 a_11 y_13 a_14 a_27 x_28 x_29 a_35 x_36 (IntKind.wrap .i64 (x_37 + (1 : Int))))) else (Option.bind (ap 16 a_14 ([y1] : List ByteArray)) fun l24 => (roadlaw2_SchemeSays.l2 a_1 a_3 x_4 y_5 y_7 a_11 y_13 l24 a_27 x_28 x_29 a_35 x_36 (IntKind.wrap .i64 (x_37 + (1 : Int)))))) else (Option.bind (scheme_Free y_13) fun y35 => Option.bind (slices_Equal_7 y35 a_14) fun y47 => if y47 = true then (Option.bind (ap 16 a_11 a_14) fun l63 => (roadlaw2_SchemeSays.l0 a_1 a_3 x_4 y_5 y_7 l63 a_27 x_28 (IntKind.wrap .i64 (x_29 + (1 : Int))))) else (some (false))) := fixF_eq roadlaw2_SchemeSays.l0_k.mono _
def roadlaw2_SchemeSays.l0_k.I : (p : roadlaw2_SchemeSays.l0_k.Pt) → (Bool) → Prop
  | .l0 a_1 a_3 x_4 y_5 y_7 a_11 a_27 x_28 x_29, r => ∀ (W : Nat → Prop) (h0 m0 h m : Heap) (A_1 : Option Addr) (n_1 c_1 : Nat) (A_3 : Option Addr) (n_3 c_3 : Nat) (bk_5 : Nat) (cs_5 : List Value) (bk_7 : Nat) (cs_7 : List Value) (A_11 : Option Addr) (n_11 c_11 : Nat) (A_27 : Option Addr) (n_27 c_27 : Nat) (O : Hold W h0 m0 h m [rV bk_5 27 cs_5, rV bk_7 25 cs_7, rR (aE tell_str) A_11 c_11 a_11]) (ne_1 : n_1 = List.length a_1) (k_1 : List.length a_1 ≤ c_1) (r_1 : Rd 4 T_scheme_Scheme.E m A_1 a_1) (ne_3 : n_3 = List.length a_3) (k_3 : List.length a_3 ≤ c_3) (r_3 : Rd 3 T_api_Type.E m A_3 a_3) (e_5 : T_scheme_Scheme.E m y_5 cs_5) (e_7 : T_api_Type.E m y_7 cs_7) (ne_11 : n_11 = List.length a_11) (ne_27 : n_27 = List.length a_27) (k_27 : List.length a_27 ≤ c_27) (r_27 : Rd 4 T_scheme_Scheme.E m A_27 a_27) (tab : TB m), f3.l0 (roadlaw2_SchemeSays.post W h0 m0 r) A_1 n_1 c_1 A_3 n_3 c_3 x_4 (⟨bk_5, 0, none⟩ : Addr) (⟨bk_7, 0, none⟩ : Addr) A_11 n_11 c_11 A_27 n_27 c_27 x_28 x_29 h
  | .l2 a_1 a_3 x_4 y_5 y_7 a_11 y_13 a_14 a_27 x_28 x_29 a_35 x_36 x_37, r => ∀ (W : Nat → Prop) (h0 m0 h m : Heap) (A_1 : Option Addr) (n_1 c_1 : Nat) (A_3 : Option Addr) (n_3 c_3 : Nat) (bk_5 : Nat) (cs_5 : List Value) (bk_7 : Nat) (cs_7 : List Value) (A_11 : Option Addr) (n_11 c_11 : Nat) (bk_13 : Nat) (cs_13 : List Value) (A_14 : Option Addr) (n_14 c_14 : Nat) (A_27 : Option Addr) (n_27 c_27 : Nat) (A_35 : Option Addr) (n_35 c_35 : Nat) (O : Hold W h0 m0 h m [rV bk_5 27 cs_5, rV bk_7 25 cs_7, rR (aE tell_str) A_11 c_11 a_11, rV bk_13 27 cs_13, rR (aE tell_str) A_14 c_14 a_14, rR (aE tell_str) A_35 c_35 a_35]) (ne_1 : n_1 = List.length a_1) (k_1 : List.length a_1 ≤ c_1) (r_1 : Rd 4 T_scheme_Scheme.E m A_1 a_1) (ne_3 : n_3 = List.length a_3) (k_3 : List.length a_3 ≤ c_3) (r_3 : Rd 3 T_api_Type.E m A_3 a_3) (e_5 : T_scheme_Scheme.E m y_5 cs_5) (e_7 : T_api_Type.E m y_7 cs_7) (ne_11 : n_11 = List.length a_11) (e_13 : T_scheme_Scheme.E m y_13 cs_13) (ne_14 : n_14 = List.length a_14) (ne_27 : n_27 = List.length a_27) (k_27 : List.length a_27 ≤ c_27) (r_27 : Rd 4 T_scheme_Scheme.E m A_27 a_27) (ne_35 : n_35 = List.length a_35) (tab : TB m), f3.l2 (roadlaw2_SchemeSays.post W h0 m0 r) A_1 n_1 c_1 A_3 n_3 c_3 x_4 (⟨bk_5, 0, none⟩ : Addr) (⟨bk_7, 0, none⟩ : Addr) A_11 n_11 c_11 (⟨bk_13, 0, none⟩ : Addr) A_14 n_14 c_14 A_27 n_27 c_27 x_28 x_29 A_35 n_35 c_35 x_36 x_37 h
set_option maxHeartbeats 4000000 in
set_option maxRecDepth 100000 in
theorem roadlaw2_SchemeSays.l0_k.step_l0 (go : (p : roadlaw2_SchemeSays.l0_k.Pt) → Option (Bool)) (ih : ∀ p r, go p = some r → roadlaw2_SchemeSays.l0_k.I p r) (a_1 : List T_scheme_Scheme) (a_3 : List T_api_Type) (x_4 : Int) (y_5 : T_scheme_Scheme) (y_7 : T_api_Type) (a_11 : List ByteArray) (a_27 : List T_scheme_Scheme) (x_28 : Int) (x_29 : Int) (r : Bool) (e : roadlaw2_SchemeSays.l0_k.body go (.l0 a_1 a_3 x_4 y_5 y_7 a_11 a_27 x_28 x_29) = some r) : roadlaw2_SchemeSays.l0_k.I (.l0 a_1 a_3 x_4 y_5 y_7 a_11 a_27 x_28 x_29) r := by
  unfold roadlaw2_SchemeSays.l0_k.body at e
  intro W h0 m0 h m A_1 n_1 c_1 A_3 n_3 c_3 bk_5 cs_5 bk_7 cs_7 A_11 n_11 c_11 A_27 n_27 c_27 O ne_1 k_1 r_1 ne_3 k_3 r_3 e_5 e_7 ne_11 ne_27 k_27 r_27 tab
  subst ne_1
  subst ne_3
  subst ne_11
  subst ne_27
  refine f3.l0_in ?_
  unfold f3.l0T
  refine split_dec_e e (fun c60 e => ?_) (fun c60 e => ?_)
  · obtain ⟨y1, g2, e⟩ := bind_e e
    refine r_27.addr rfl g2 fun a3 cs4 ha5 hc6 he7 => ?_
    refine ⟨_, ldAn O.s hc6 rfl, ?_⟩
    refine O.new fun h8 x9 O10 => ?_
    refine ⟨_, rfl, (T_scheme_Scheme.T.len _ _ _ he7), ?_⟩
    refine O10.stA 3 rfl (T_scheme_Scheme.T.len _ _ _ he7) (T_scheme_Scheme.T.flat _ _ _ he7) fun h12 O13 => ?_
    refine ⟨_, ldAkn (Sub.refl _) (O13.all 3 rfl) 1 3 (le_len (T_scheme_Scheme.T.len _ _ _ he7) (by decide)), ?_⟩
    obtain ⟨y14, g15, e⟩ := bind_e e
    refine (roadref2_UnknownsOf.walk (Hold.start (W := No) O13.s) (T_scheme_Scheme.u1_25 he7) g15).mono ?_
    rintro _ h16 ⟨m17, A20, n21, c22, Q18, rfl, ne23⟩
    have O25 := Hold.nm (O13.retC Q18 (vfs_cons (rR_vf (aE_vf (fun _ _ _ _ h => h))) vfs_nil))
    subst ne23
    refine ⟨_, _, _, rfl, ?_⟩
    have O26 := O25.nil (aE tell_str) none
    have O28 := O26.nm
    exact (ih _ _ e) _ _ _ _ _ _ _ _ _ _ _ _ _ _ _ _ _ _ _ _ _ _ _ _ _ _ _ _ _ (O28.pick [0, 1, 2, 3, 5, 4]).nm rfl k_1 r_1 rfl k_3 r_3 e_5 e_7 rfl he7 rfl rfl k_27 r_27 rfl tab
  · refine ⟨_, ldAn (Sub.refl _) (O.all 1 rfl) (T_api_Type.T.len _ _ _ e_7), ?_⟩
    obtain ⟨y29, g30, e⟩ := bind_e e
    refine (scheme_Close.walk (Hold.start (W := No) O.s) rfl k_1 r_1 e_7 g30).mono ?_
    rintro _ h31 ⟨m32, cs36, Q33, rfl, he37⟩
    have O38 := Hold.nm (O.ret Q33)
    refine O38.new fun h39 x40 O41 => ?_
    refine ⟨_, rfl, (T_scheme_Scheme.T.len _ _ _ he37), ?_⟩
    refine O41.stA 3 rfl (T_scheme_Scheme.T.len _ _ _ he37) (T_scheme_Scheme.T.flat _ _ _ he37) fun h43 O44 => ?_
    refine ⟨_, ldAn (Sub.refl _) (O44.all 1 rfl) (T_api_Type.T.len _ _ _ e_7), ?_⟩
    obtain ⟨y45, g46, e⟩ := bind_e e
    refine (roadref2_UnknownsOf.walk (Hold.start (W := No) O44.s) (T_api_Type.T.mono _ _ _ _ Q33.S.up e_7) g46).mono ?_
    rintro _ h47 ⟨m48, A51, n52, c53, Q49, rfl, ne54⟩
    have O56 := Hold.nm (O44.retC Q49 (vfs_cons (rR_vf (aE_vf (fun _ _ _ _ h => h))) vfs_nil))
    subst ne54
    refine ⟨_, _, _, rfl, ?_⟩
    have O57 := O56.nil (aE tell_str) none
    have O59 := O57.nm
    exact roadlaw2_SchemeSays.l1.walk (O59.pick [0, 1, 2, 3, 5, 4]).nm rfl k_3 (r_3.sub T_api_Type.T Q33.S.up) (T_scheme_Scheme.T.mono _ _ _ _ Q33.S.up e_5) (T_api_Type.T.mono _ _ _ _ Q33.S.up e_7) rfl he37 rfl rfl (TBg.sub tab Q33.S.up) e
set_option maxHeartbeats 4000000 in
set_option maxRecDepth 100000 in
theorem roadlaw2_SchemeSays.l0_k.step_l2 (go : (p : roadlaw2_SchemeSays.l0_k.Pt) → Option (Bool)) (ih : ∀ p r, go p = some r → roadlaw2_SchemeSays.l0_k.I p r) (a_1 : List T_scheme_Scheme) (a_3 : List T_api_Type) (x_4 : Int) (y_5 : T_scheme_Scheme) (y_7 : T_api_Type) (a_11 : List ByteArray) (y_13 : T_scheme_Scheme) (a_14 : List ByteArray) (a_27 : List T_scheme_Scheme) (x_28 : Int) (x_29 : Int) (a_35 : List ByteArray) (x_36 : Int) (x_37 : Int) (r : Bool) (e : roadlaw2_SchemeSays.l0_k.body go (.l2 a_1 a_3 x_4 y_5 y_7 a_11 y_13 a_14 a_27 x_28 x_29 a_35 x_36 x_37) = some r) : roadlaw2_SchemeSays.l0_k.I (.l2 a_1 a_3 x_4 y_5 y_7 a_11 y_13 a_14 a_27 x_28 x_29 a_35 x_36 x_37) r := by
  unfold roadlaw2_SchemeSays.l0_k.body at e
  intro W h0 m0 h m A_1 n_1 c_1 A_3 n_3 c_3 bk_5 cs_5 bk_7 cs_7 A_11 n_11 c_11 bk_13 cs_13 A_14 n_14 c_14 A_27 n_27 c_27 A_35 n_35 c_35 O ne_1 k_1 r_1 ne_3 k_3 r_3 e_5 e_7 ne_11 e_13 ne_14 ne_27 k_27 r_27 ne_35 tab
  subst ne_1
  subst ne_3
  subst ne_11
  subst ne_14
  subst ne_27
  subst ne_35
  refine f3.l2_in ?_
  unfold f3.l2T
  refine split_dec_e e (fun c73 e => ?_) (fun c73 e => ?_)
  · obtain ⟨y1, g2, e⟩ := bind_e e
    refine (O.os 5 rfl).addr rfl g2 fun a3 cs4 ha5 hc6 he7 => ?_
    obtain rfl : cs4 = [(Value.string y1)] := he7
    refine ⟨_, ld0 (Sub.refl _) hc6 rfl, _, rfl, ?_⟩
    obtain ⟨A8, c9, q10, k11, r12⟩ := T_scheme_Scheme.g0 e_13
    refine ⟨_, ld0 (Sub.refl _) (O.all 3 rfl) q10, _, _, _, rfl, ?_⟩
    obtain ⟨y13, g14, e⟩ := bind_e e
    refine (slices_Contains_6.walk (Hold.start (W := No) O.s) rfl k11 r12 g14).mono ?_
    rintro _ h15 ⟨m16, Q17, rfl⟩
    have O19 := Hold.nm (O.retC Q17 vfs_nil)
    refine ⟨_, rfl, ?_⟩
    refine split_not ?_
    refine split_any_e e (fun c34 e => ?_) (fun c34 e => ?_)
    · exact (ih _ _ e) _ _ _ _ _ _ _ _ _ _ _ _ _ _ _ _ _ _ _ _ _ _ _ _ _ _ _ _ _ (O19.pick [0, 1, 2, 3, 4, 5]).nm rfl k_1 r_1 rfl k_3 r_3 e_5 e_7 rfl e_13 rfl rfl k_27 r_27 rfl tab
    · refine O19.new fun h20 x21 O22 => ?_
      obtain ⟨l24, g25, e⟩ := bind_e e
      have O32 := O22.rowE (l := ([y1] : List ByteArray)) 6 rfl tell_str (show CsE _ _ _ _ _ from (CsE.cons (c1 := [(Value.string y1)]) rfl rfl CsE.nil)) rfl
      refine O32.app 4 rfl rfl rfl ((O32.os 6 rfl).srcE rfl) (by decide) g25 fun A26 c27 h28 O29 => ?_
      refine ⟨_, _, _, rfl, ?_⟩
      have O33 := O29.nm
      exact (ih _ _ e) _ _ _ _ _ _ _ _ _ _ _ _ _ _ _ _ _ _ _ _ _ _ _ _ _ _ _ _ _ (O33.pick [0, 1, 2, 3, 4, 5]).nm rfl k_1 r_1 rfl k_3 r_3 e_5 e_7 rfl e_13 rfl rfl k_27 r_27 rfl tab
  · refine ⟨_, ldAn (Sub.refl _) (O.all 3 rfl) (T_scheme_Scheme.T.len _ _ _ e_13), ?_⟩
    obtain ⟨y35, g36, e⟩ := bind_e e
    refine (scheme_Free.walk (Hold.start (W := No) O.s) e_13 g36).mono ?_
    rintro _ h37 ⟨m38, A41, n42, c43, Q39, rfl, ne44⟩
    have O46 := Hold.nm (O.retC Q39 (vfs_cons (rR_vf (aE_vf (fun _ _ _ _ h => h))) vfs_nil))
    subst ne44
    refine ⟨_, _, _, rfl, ?_⟩
    obtain ⟨y47, g48, e⟩ := bind_e e
    obtain ⟨m53, u54, s61, ⟨⟨r57, k58⟩, ⟨r59, k60⟩, _⟩, B55, C56⟩ := O46.lend0 [6, 4]
    replace r57 : Rd 1 eStr m53 A41 y35 := r57
    replace k58 : List.length y35 ≤ c43 := k58
    replace r59 : Rd 1 eStr m53 A_14 a_14 := r59
    replace k60 : List.length a_14 ≤ c_14 := k60
    refine (slices_Equal_7.walk (Hold.start (W := No) s61) rfl k58 r57 rfl k60 r59 g48).mono ?_
    rintro _ h49 ⟨m50, Q51, rfl⟩
    have O62 := Hold.nm (C56 Q51 vfs_nil)
    refine ⟨_, rfl, ?_⟩
    refine split_not ?_
    refine split_any_e e (fun c72 e => ?_) (fun c72 e => ?_)
    · obtain ⟨l63, g64, e⟩ := bind_e e
      refine O62.app 2 rfl rfl rfl ((O62.os 4 rfl).srcE rfl) (by decide) g64 fun A65 c66 h67 O68 => ?_
      refine ⟨_, _, _, rfl, ?_⟩
      have O71 := O68.nm
      exact (ih _ _ e) _ _ _ _ _ _ _ _ _ _ _ _ _ _ _ _ _ _ _ _ _ (O71.pick [0, 1, 2]).nm rfl k_1 r_1 rfl k_3 r_3 e_5 e_7 rfl rfl k_27 r_27 tab
    · cases e
      exact ⟨_, O62.pick [], rfl⟩
theorem roadlaw2_SchemeSays.l0_k.all {p : roadlaw2_SchemeSays.l0_k.Pt} {r : (Bool)} (e : roadlaw2_SchemeSays.l0_k.go p = some r) : roadlaw2_SchemeSays.l0_k.I p r := fixF_ind (β := fun _ => (Bool)) roadlaw2_SchemeSays.l0_k.mono (I := roadlaw2_SchemeSays.l0_k.I) (fun go ih p r e => match p with
  | .l0 a_1 a_3 x_4 y_5 y_7 a_11 a_27 x_28 x_29 => roadlaw2_SchemeSays.l0_k.step_l0 go ih a_1 a_3 x_4 y_5 y_7 a_11 a_27 x_28 x_29 r e
  | .l2 a_1 a_3 x_4 y_5 y_7 a_11 y_13 a_14 a_27 x_28 x_29 a_35 x_36 x_37 => roadlaw2_SchemeSays.l0_k.step_l2 go ih a_1 a_3 x_4 y_5 y_7 a_11 y_13 a_14 a_27 x_28 x_29 a_35 x_36 x_37 r e
  ) e
theorem roadlaw2_SchemeSays.l0.walk {W : Nat → Prop} {h0 m0 h m : Heap} {A_1 : Option Addr} {n_1 c_1 : Nat} {A_3 : Option Addr} {n_3 c_3 : Nat} {bk_5 : Nat} {cs_5 : List Value} {bk_7 : Nat} {cs_7 : List Value} {A_11 : Option Addr} {n_11 c_11 : Nat} {A_27 : Option Addr} {n_27 c_27 : Nat} {a_1 : List T_scheme_Scheme} {a_3 : List T_api_Type} {x_4 : Int} {y_5 : T_scheme_Scheme} {y_7 : T_api_Type} {a_11 : List ByteArray} {a_27 : List T_scheme_Scheme} {x_28 : Int} {x_29 : Int} (O : Hold W h0 m0 h m [rV bk_5 27 cs_5, rV bk_7 25 cs_7, rR (aE tell_str) A_11 c_11 a_11]) (ne_1 : n_1 = List.length a_1) (k_1 : List.length a_1 ≤ c_1) (r_1 : Rd 4 T_scheme_Scheme.E m A_1 a_1) (ne_3 : n_3 = List.length a_3) (k_3 : List.length a_3 ≤ c_3) (r_3 : Rd 3 T_api_Type.E m A_3 a_3) (e_5 : T_scheme_Scheme.E m y_5 cs_5) (e_7 : T_api_Type.E m y_7 cs_7) (ne_11 : n_11 = List.length a_11) (ne_27 : n_27 = List.length a_27) (k_27 : List.length a_27 ≤ c_27) (r_27 : Rd 4 T_scheme_Scheme.E m A_27 a_27) (tab : TB m) {r : Bool} (e : roadlaw2_SchemeSays.l0 a_1 a_3 x_4 y_5 y_7 a_11 a_27 x_28 x_29 = some r) : f3.l0 (roadlaw2_SchemeSays.post W h0 m0 r) A_1 n_1 c_1 A_3 n_3 c_3 x_4 (⟨bk_5, 0, none⟩ : Addr) (⟨bk_7, 0, none⟩ : Addr) A_11 n_11 c_11 A_27 n_27 c_27 x_28 x_29 h := roadlaw2_SchemeSays.l0_k.all (p := .l0 a_1 a_3 x_4 y_5 y_7 a_11 a_27 x_28 x_29) e W h0 m0 h m A_1 n_1 c_1 A_3 n_3 c_3 bk_5 cs_5 bk_7 cs_7 A_11 n_11 c_11 A_27 n_27 c_27 O ne_1 k_1 r_1 ne_3 k_3 r_3 e_5 e_7 ne_11 ne_27 k_27 r_27 tab
noncomputable def roadlaw2_SchemeSays (y_0 : T_scheme_Scheme) (a_1 : List T_scheme_Scheme) (y_2 : T_api_Type) (a_3 : List T_api_Type) (x_4 : Int) : Option (Bool) :=
  (roadlaw2_SchemeSays.l0 a_1 a_3 x_4 y_0 y_2 ([] : List ByteArray) a_1 (((List.length a_1) : Nat) : Int) (0 : Int))
set_option maxRecDepth 100000 in
theorem roadlaw2_SchemeSays.walk {W : Nat → Prop} {h m : Heap} {cs_0 : List Value} {A_1 : Option Addr} {n_1 c_1 : Nat} {cs_2 : List Value} {A_3 : Option Addr} {n_3 c_3 : Nat} {y_0 : T_scheme_Scheme} {a_1 : List T_scheme_Scheme} {y_2 : T_api_Type} {a_3 : List T_api_Type} {x_4 : Int} (O : Hold W h m h m []) (e_0 : T_scheme_Scheme.E m y_0 cs_0) (ne_1 : n_1 = List.length a_1) (k_1 : List.length a_1 ≤ c_1) (r_1 : Rd 4 T_scheme_Scheme.E m A_1 a_1) (e_2 : T_api_Type.E m y_2 cs_2) (ne_3 : n_3 = List.length a_3) (k_3 : List.length a_3 ≤ c_3) (r_3 : Rd 3 T_api_Type.E m A_3 a_3) (tab : TB m) {r : Bool} (e : roadlaw2_SchemeSays y_0 a_1 y_2 a_3 x_4 = some r) : Run Tryd.prog 3 #[Value.agg cs_0.toArray, Value.slice A_1 n_1 c_1, Value.agg cs_2.toArray, Value.slice A_3 n_3 c_3, Value.int .i64 x_4] h (roadlaw2_SchemeSays.post W h m r) := by
  unfold roadlaw2_SchemeSays at e
  subst ne_1
  subst ne_3
  refine f3.run ?_
  unfold f3.runT
  refine O.new fun h1 x2 O3 => ?_
  refine O3.new fun h5 x6 O7 => ?_
  have O9 := O7.nil (aE tell_str) none
  have O11 := O9.nm
  exact roadlaw2_SchemeSays.l0.walk (O11.pick [0, 1, 2]).nm rfl k_1 r_1 rfl k_3 r_3 e_0 e_2 rfl rfl k_1 r_1 tab e
end Go.Proofs.YtdlihfedhojdgaaDoor.Fw

end
section
namespace Go.Proofs.YtdlihfedhojdgaaDoor.Fw
open Go Go.Hw Go.Proofs
set_option linter.unusedVariables false
set_option linter.unusedSectionVars false
def BA0 : ByteArray := ByteArray.mk #[]
def cat : List ByteArray → ByteArray
  | [] => BA0
  | a :: l => a ++ cat l
theorem ba0_size : BA0.size = 0 := rfl
theorem app_size (a b : ByteArray) : (a ++ b).size = a.size + b.size := ByteArray.size_append
theorem app_assoc (a b c : ByteArray) : a ++ b ++ c = a ++ (b ++ c) := ByteArray.append_assoc
theorem app_nil (a : ByteArray) : a ++ BA0 = a := ByteArray.append_empty
theorem nil_app (a : ByteArray) : BA0 ++ a = a := ByteArray.empty_append
theorem cat_size : ∀ l : List ByteArray, (cat l).size = (l.map ByteArray.size).sum
  | [] => rfl
  | a :: l => by rw [cat, app_size, cat_size l, List.map_cons, List.sum_cons]
theorem cat_one (a : ByteArray) : cat [a] = a := by rw [cat, cat, app_nil]
theorem cat_loop' {α β : Type} {F : ByteArray → Int → Option β} {r : Option β} {l : List α} {T : α → ByteArray}
    (step : ∀ (s : ByteArray) (i : Nat) (hi : i < l.length), s.size + (T l[i]).size ≤ 1000000000000000 → F s (i : Int) = F (s ++ T l[i]) ((i + 1 : Nat) : Int))
    (s : ByteArray) (hs : s.size + (cat (l.map T)).size ≤ 1000000000000000) (fin : F (s ++ cat (l.map T)) (l.length : Int) = r) : F s 0 = r := by
  have key : ∀ (d i : Nat) (s : ByteArray), d + i = l.length → s.size + (cat ((l.drop i).map T)).size ≤ 1000000000000000 → F s (i : Int) = F (s ++ cat ((l.drop i).map T)) (l.length : Int) := by
    intro d
    induction d with
    | zero =>
      intro i s hi hs
      obtain rfl : i = l.length := by omega
      rw [List.drop_length]
      show _ = F (s ++ BA0) _
      rw [app_nil]
    | succ d ih =>
      intro i s hi hs
      have hlt : i < l.length := by omega
      rw [List.drop_eq_getElem_cons hlt, List.map_cons] at hs ⊢
      rw [cat, app_size] at hs
      rw [step s i hlt (by omega), ih (i + 1) _ (by omega) (by rw [app_size]; omega), cat, app_assoc]
  have := key l.length 0 s (by omega) (by rw [List.drop_zero]; exact hs)
  rw [List.drop_zero] at this
  exact this.trans fin
theorem cat_loop {α β : Type} {F : ByteArray → Int → Option β} {E : ByteArray → Option β} {l : List α} {T : α → ByteArray}
    (step : ∀ (s : ByteArray) (i : Nat) (hi : i < l.length), s.size + (T l[i]).size ≤ 1000000000000000 → F s (i : Int) = F (s ++ T l[i]) ((i + 1 : Nat) : Int))
    (fin : ∀ s, F s (l.length : Int) = E s) (s : ByteArray) (hs : s.size + (cat (l.map T)).size ≤ 1000000000000000) : F s 0 = E (s ++ cat (l.map T)) := cat_loop' step s hs (fin _)
theorem sum_le {α : Type} {f g : α → Nat} : ∀ {l : List α}, (∀ x ∈ l, f x ≤ g x) → (l.map f).sum ≤ (l.map g).sum
  | [], _ => Nat.le_refl _
  | x :: l, h => by
    rw [List.map_cons, List.map_cons, List.sum_cons, List.sum_cons]
    exact Nat.add_le_add (h x (List.mem_cons_self ..)) (sum_le fun y hy => h y (List.mem_cons_of_mem _ hy))
theorem sum_mul {α : Type} (f : α → Nat) (k : Nat) : ∀ l : List α, (l.map fun x => k * f x).sum = k * (l.map f).sum
  | [] => rfl
  | x :: l => by rw [List.map_cons, List.map_cons, List.sum_cons, List.sum_cons, sum_mul f k l, Nat.mul_add]
theorem le_sum {α : Type} {f : α → Nat} : ∀ {l : List α} {x : α}, x ∈ l → f x ≤ (l.map f).sum
  | y :: l, x, h => by
    rw [List.map_cons, List.sum_cons]
    rcases List.mem_cons.1 h with rfl | h
    · omega
    · have := le_sum (f := f) h; omega
theorem cat_le {α : Type} {T : α → ByteArray} {g : α → Nat} {l : List α} (h : ∀ x ∈ l, (T x).size ≤ 22 * g x) : (cat (l.map T)).size ≤ 22 * (l.map g).sum := by
  rw [cat_size, List.map_map, ← sum_mul]
  exact sum_le h
theorem len_le_sum {α : Type} {f : α → Nat} : ∀ {l : List α}, (∀ x ∈ l, 1 ≤ f x) → l.length ≤ (l.map f).sum
  | [], _ => Nat.le_refl _
  | x :: l, h => by
    rw [List.map_cons, List.sum_cons, List.length_cons]
    have := h x (List.mem_cons_self ..); have := len_le_sum fun y hy => h y (List.mem_cons_of_mem x hy); omega
def i64 (x : Int) : Prop := -9223372036854775808 ≤ x ∧ x ≤ 9223372036854775807
theorem i64_nat {n : Nat} (h : n ≤ 1000000000000000) : i64 (n : Int) := ⟨by omega, by omega⟩
def nm1 (x : Int) : ByteArray := itoaB x ++ ByteArray.mk #[44]
def nm (l : List Int) : ByteArray := cat (l.map nm1)
def tx1 (s : ByteArray) : ByteArray := nm [(s.size : Int)] ++ s
def tx (l : List ByteArray) : ByteArray := cat (l.map tx1)
theorem nm1_size {x : Int} (h : i64 x) : (nm1 x).size ≤ 22 := by
  unfold nm1
  rw [app_size]
  have h1 : (itoaB x).size = (Lib.itoa x).length := by unfold itoaB; show (Lib.itoa x).toArray.size = _; simp
  have h2 := Lib.itoa_length_le x h.1 h.2
  have h3 : (ByteArray.mk #[44]).size = 1 := rfl
  omega
theorem nm_size {l : List Int} (h : ∀ x ∈ l, i64 x) : (nm l).size ≤ 22 * l.length := by
  have := cat_le (T := nm1) (g := fun _ => 1) (l := l) fun x hx => nm1_size (h x hx)
  rw [List.map_const', List.sum_replicate_nat] at this
  unfold nm; omega
theorem itoa_val {x : Int} (h : i64 x) : strconv_Itoa x = some (itoaB x) := by unfold strconv_Itoa; rw [if_pos (show -9223372036854775808 ≤ x ∧ x ≤ 9223372036854775807 from h)]
theorem nums_val {l : List Int} (h : ∀ x ∈ l, i64 x) (hl : l.length ≤ 10000000000000) : roadref2_nums l = some (nm l) := by
  have hs := nm_size h
  unfold roadref2_nums
  have := cat_loop (F := fun s i => roadref2_nums.l0 s l (l.length : Int) i) (E := fun s => some s) (l := l) (T := nm1) (fun s i hi hs => by
    have hx := nm1_size (h _ (List.getElem_mem hi))
    have e1 : (nm1 l[i]).size = (itoaB l[i]).size + (ByteArray.mk #[44]).size := app_size ..
    rw [roadref2_nums.l0_eq, if_pos (by omega), gi_at hi, Option.bind_some, itoa_val (h _ (List.getElem_mem hi)), Option.bind_some, if_pos (by omega), if_pos (by show _ + (nm1 l[i]).size ≤ _; omega), w_succ (by omega)]
    rfl) (fun s => by rw [roadref2_nums.l0_eq, if_neg (by omega)]) BA0 (by rw [ba0_size]; unfold nm at hs; omega)
  rw [nil_app] at this
  exact this
theorem tx1_size {s : ByteArray} (h : s.size ≤ 1000000000000000) : (tx1 s).size ≤ 22 + s.size := by
  unfold tx1
  rw [app_size]
  have := nm_size (l := [(s.size : Int)]) (by intro x hx; rw [List.mem_singleton.1 hx]; exact i64_nat h)
  simp only [List.length_cons, List.length_nil] at this
  omega
theorem tx_size {l : List ByteArray} (h : ∀ s ∈ l, s.size ≤ 1000000000000000) : (tx l).size ≤ 22 * (l.map fun s => s.size + 1).sum :=
  cat_le fun s hs => by have := tx1_size (h s hs); omega
theorem texts_val {l : List ByteArray} (h : (l.map fun s => s.size + 1).sum ≤ 10000000000000) : roadref2_texts l = some (tx l) := by
  have h1 : ∀ s ∈ l, s.size + 1 ≤ 10000000000000 := fun s hs => Nat.le_trans (le_sum (f := fun s : ByteArray => s.size + 1) hs) h
  have hs := tx_size (l := l) fun s hs => by have := h1 s hs; omega
  have hlen : l.length ≤ 10000000000000 := Nat.le_trans (len_le_sum (f := fun s : ByteArray => s.size + 1) fun _ _ => by omega) h
  unfold roadref2_texts
  have := cat_loop (F := fun s i => roadref2_texts.l0 s l (l.length : Int) i) (E := fun s => some s) (l := l) (T := tx1) (fun s i hi hs => by
    have hx := h1 _ (List.getElem_mem hi)
    have e1 : (tx1 l[i]).size = (nm [((l[i]).size : Int)]).size + (l[i]).size := app_size ..
    rw [roadref2_texts.l0_eq, if_pos (by omega), gi_at hi, Option.bind_some, nums_val (by intro x hx'; rw [List.mem_singleton.1 hx']; exact i64_nat (by omega)) (by simp), Option.bind_some, if_pos (by omega), if_pos (by show _ + (tx1 l[i]).size ≤ _; omega), w_succ (by omega)]
    rfl) (fun s => by rw [roadref2_texts.l0_eq, if_neg (by omega)]) BA0 (by rw [ba0_size]; unfold tx at hs; omega)
  rw [nil_app] at this
  exact this
theorem tx_one (s : ByteArray) : tx [s] = tx1 s := cat_one _
theorem text_val {s : ByteArray} (h : s.size ≤ 5000000000000) : roadref2_texts [s] = some (tx1 s) := by
  rw [texts_val (by simp; omega), tx_one]
noncomputable def TM (t : T_api_Type) : ByteArray := (roadref2_TypeMark t).getD BA0
theorem getD_of {α : Type} {o : Option α} {x d : α} (h : o = some x) : o.getD d = x := by rw [h]; rfl
theorem i64_2 {a b : Int} (ha : i64 a) (hb : i64 b) : ∀ x ∈ [a, b], i64 x := by
  intro x hx; simp only [List.mem_cons, List.mem_nil_iff, or_false] at hx; rcases hx with rfl | rfl <;> assumption
theorem tbulk (t : T_api_Type) : t.bulk = t.Name.size + (t.Args.map T_api_Type.bulk).sum + 4 := by rw [T_api_Type.bulk_eq]; omega
theorem tbulk_pos (t : T_api_Type) : 1 ≤ t.bulk := by rw [tbulk]; omega
theorem type_mark : ∀ (n : Nat) (t : T_api_Type), t.bulk ≤ n → n ≤ 2000000000000 → t.Q →
    roadref2_TypeMark t = some (TM t) ∧ (TM t).size ≤ 22 * t.bulk ∧ TM t = nm [t.Kind, (t.Args.length : Int)] ++ tx1 t.Name ++ cat (t.Args.map TM) := by
  intro n
  induction n with
  | zero => intro t h; have := tbulk_pos t; omega
  | succ n ih =>
    intro t hn hN q
    obtain ⟨q1, q2, q3, q4⟩ := T_api_Type.Q_iff.1 q
    have hb := tbulk t
    have hlen : t.Args.length ≤ (t.Args.map T_api_Type.bulk).sum := len_le_sum fun x _ => tbulk_pos x
    have hc : ∀ x ∈ t.Args, roadref2_TypeMark x = some (TM x) ∧ (TM x).size ≤ 22 * x.bulk := fun x hx => by
      have := le_sum (f := T_api_Type.bulk) hx
      have := ih x (by omega) (by omega) (q4 x hx)
      exact ⟨this.1, this.2.1⟩
    have hcat := cat_le (T := TM) (g := T_api_Type.bulk) (l := t.Args) fun x hx => (hc x hx).2
    have hk : ∀ x ∈ [t.Kind, (t.Args.length : Int)], i64 x := i64_2 q1 (i64_nat (by omega))
    have h1 := nm_size hk
    have h2 := tx1_size (s := t.Name) (by omega)
    simp only [List.length_cons, List.length_nil] at h1
    have e : roadref2_TypeMark t = some (nm [t.Kind, (t.Args.length : Int)] ++ tx1 t.Name ++ cat (t.Args.map TM)) := by
      rw [roadref2_TypeMark_eq, nums_val hk (by simp), Option.bind_some, text_val (by omega), Option.bind_some, if_pos (by omega), roadref2_TypeMark.j0_eq]
      exact cat_loop (F := fun s i => roadref2_TypeMark.l0 s t.Args (t.Args.length : Int) i) (E := fun s => some s) (l := t.Args) (T := TM) (fun s i hi hs => by
        rw [roadref2_TypeMark.l0_eq, if_pos (by omega), gi_at hi, Option.bind_some, (hc _ (List.getElem_mem hi)).1, Option.bind_some, if_pos (by omega), w_succ (by omega)]) (fun s => by rw [roadref2_TypeMark.l0_eq, if_neg (by omega)]) _ (by rw [app_size]; omega)
    have e2 : TM t = _ := getD_of e
    refine ⟨by rw [e, e2], ?_, e2⟩
    rw [e2, app_size, app_size]; omega
theorem gen_loop {α β γ : Type} {l : List α} {F : β → Int → Option γ} {g : β → α → β} (P : List α → β → Prop)
    (step : ∀ (s : β) (i : Nat) (hi : i < l.length), P (l[i] :: l.drop (i + 1)) s → F s (i : Int) = F (g s l[i]) ((i + 1 : Nat) : Int) ∧ P (l.drop (i + 1)) (g s l[i])) (s : β) (h : P l s) : F s 0 = F (l.foldl g s) (l.length : Int) := by
  have key : ∀ (d i : Nat) (s : β), l.length - i = d → i ≤ l.length → P (l.drop i) s → F s (i : Int) = F ((l.drop i).foldl g s) (l.length : Int) := by
    intro d
    induction d with
    | zero =>
      intro i s hd hi _
      obtain rfl : i = l.length := by omega
      rw [List.drop_length, List.foldl_nil]
    | succ d ih =>
      intro i s hd hi hP
      have hlt : i < l.length := by omega
      rw [List.drop_eq_getElem_cons hlt] at hP ⊢
      have := step s i hlt hP
      rw [this.1, ih (i + 1) _ (by omega) hlt this.2, List.foldl_cons]
  have := key l.length 0 s (by omega) (by omega) (by rw [List.drop_zero]; exact h)
  rw [List.drop_zero] at this
  exact this
theorem fold_app {α β : Type} (T : α → List β) : ∀ (l : List α) (x : List β), l.foldl (fun s a => s ++ T a) x = x ++ l.flatMap T
  | [], x => by simp
  | a :: l, x => by rw [List.foldl_cons, fold_app T l, List.flatMap_cons, List.append_assoc]
theorem app_loop {α β γ : Type} {l : List α} {F : List β → Int → Option γ} {T : α → List β} {B : Nat} (step : ∀ (s : List β) (i : Nat) (hi : i < l.length), s.length + (T l[i]).length ≤ B → F s (i : Int) = F (s ++ T l[i]) ((i + 1 : Nat) : Int)) (x : List β) (hB : x.length + (l.map fun a => (T a).length).sum ≤ B) : F x 0 = F (x ++ l.flatMap T) (l.length : Int) := by
  rw [← fold_app]
  exact gen_loop (F := F) (g := fun s a => s ++ T a) (fun r s => s.length + (r.map fun a => (T a).length).sum ≤ B) (fun s i hi h => by
    rw [List.map_cons, List.sum_cons] at h
    exact ⟨step s i hi (by omega), by show (s ++ T l[i]).length + _ ≤ B; rw [List.length_append]; omega⟩) x hB
theorem flat_one {α β : Type} (f : α → β) : ∀ l : List α, l.flatMap (fun x => [f x]) = l.map f
  | [] => rfl
  | a :: l => by rw [List.flatMap_cons, flat_one f l]; rfl
theorem one_len {α β : Type} (f : α → β) (l : List α) : (l.map fun a => [f a].length).sum = l.length := by
  induction l with
  | nil => rfl
  | cons a l ih => rw [List.map_cons, List.sum_cons, ih, List.length_cons, List.length_cons, List.length_nil]; omega
theorem map_loop {α β γ : Type} {l : List α} {F : List β → Int → Option γ} {f : α → β} {B : Nat} (step : ∀ (s : List β) (i : Nat) (hi : i < l.length), s.length + 1 ≤ B → F s (i : Int) = F (s ++ [f l[i]]) ((i + 1 : Nat) : Int)) (hB : l.length ≤ B) : F [] 0 = F (l.map f) (l.length : Int) := by
  have := app_loop (l := l) (F := F) (T := fun x => [f x]) (B := B) (fun s i hi h => step s i hi h) [] (by
    have : ∀ l : List α, (l.map fun a => [f a].length).sum = l.length := fun l => by induction l with
      | nil => rfl
      | cons a l ih => rw [List.map_cons, List.sum_cons, ih, List.length_cons, List.length_cons, List.length_nil]; omega
    rw [this, List.length_nil]; omega)
  rw [flat_one, List.nil_append] at this
  exact this
theorem nlt (n : Int) : ¬ n < n := by omega
abbrev Ty := T_api_Type
instance memBA (n : ByteArray) (l : List ByteArray) : Decidable (n ∈ l) := @List.instDecidableMemOfLawfulBEq ByteArray instBEqOfDecidableEq inferInstance n l
theorem has_val {l : List ByteArray} (s : ByteArray) (hl : l.length ≤ 4000000) : slices_Contains_6 l s = some (decide (s ∈ l)) := by
  rw [slices_Contains_6.val s (by omega)]
  congr 1
  by_cases h : s ∈ l
  · rw [decide_eq_true h, List.any_eq_true]
    exact ⟨s, h, decide_eq_true rfl⟩
  · rw [decide_eq_false h, List.any_eq_false]
    intro x hx e
    exact h (by rw [of_decide_eq_true e]; exact hx)
theorem targs_len (t : Ty) : t.Args.length + 1 ≤ t.bulk := by
  have h : t.Args.length ≤ (t.Args.map T_api_Type.bulk).sum := len_le_sum fun x _ => tbulk_pos x
  have := tbulk t; omega
theorem targ_bulk {t x : Ty} (h : x ∈ t.Args) : x.bulk < t.bulk := by
  have := le_sum (f := T_api_Type.bulk) h
  have := tbulk t; omega
theorem concatT {a b : List Ty} (h : a.length + b.length ≤ 100000000) : slices_Concat_31 [a, b] = some (a ++ b) := by
  rw [slices_Concat_31.val [a, b] (by simp) (by simp only [List.flatten_cons, List.flatten_nil, List.append_nil, List.length_append]; omega)]
  simp
theorem type_eta (t : Ty) : T_api_Type.mk t.Kind t.Name t.Args = t := by cases t; rfl
theorem set_loop {α γ : Type} {l : List α} {F : List α → Int → Option γ} {f : α → α} (step : ∀ (s : List α) (i : Nat) (hi : i < l.length), s.length = l.length → s[i]? = some l[i] → F s (i : Int) = F (s.set i (f l[i])) ((i + 1 : Nat) : Int)) : F l 0 = F (l.map f) (l.length : Int) := by
  have key : ∀ (d i : Nat), l.length - i = d → i ≤ l.length → F ((l.take i).map f ++ l.drop i) (i : Int) = F (l.map f) (l.length : Int) := by
    intro d
    induction d with
    | zero =>
      intro i hd hi
      obtain rfl : i = l.length := by omega
      rw [List.take_length, List.drop_length, List.append_nil]
    | succ d ih =>
      intro i hd hi
      have hlt : i < l.length := by omega
      have hlen : ((l.take i).map f).length = i := by rw [List.length_map, List.length_take]; omega
      have hg : ((l.take i).map f ++ l.drop i)[i]? = some l[i] := by
        rw [List.getElem?_append_right (by omega), hlen, Nat.sub_self, List.getElem?_drop, Nat.add_zero]
        exact List.getElem?_eq_getElem hlt
      rw [step _ i hlt (by rw [List.length_append, hlen, List.length_drop]; omega) hg]
      have : ((l.take i).map f ++ l.drop i).set i (f l[i]) = (l.take (i + 1)).map f ++ l.drop (i + 1) := by
        rw [List.set_append_right _ _ (by omega), hlen, Nat.sub_self, List.drop_eq_getElem_cons hlt, List.set_cons_zero, List.take_succ_eq_append_getElem hlt, List.map_append, List.append_assoc]
        rfl
      rw [this]
      exact ih (i + 1) (by omega) hlt
  have := key l.length 0 (by omega) (by omega)
  rw [List.take_zero, List.map_nil, List.nil_append, List.drop_zero] at this
  exact this
theorem idx_nil (s : ByteArray) : slices_Index_33 ([] : List ByteArray) s = some (-1) := by
  unfold slices_Index_33
  rw [slices_Index_33.l0_eq, if_neg (by simp)]
theorem copy_all : ∀ (n : Nat) (t : Ty), t.bulk ≤ n → n ≤ 2000000 → kind_Put t [] [] = some t ∧ roadref2_Swap t [] [] = some t := by
  intro n
  induction n with
  | zero => intro t h; have := tbulk_pos t; omega
  | succ n ih =>
    intro t ht hn
    have hl := targs_len t
    have j0 : ∀ z : Ty, kind_Put.j0 [] [] t z = some t := fun z => by
      rw [kind_Put.j0_eq, slices_Clone_42.val _ (by omega), Option.bind_some]
      refine (set_loop (l := t.Args) (F := fun s i => kind_Put.l0 [] [] t.Kind t.Name s z (t.Args.length : Int) i) (f := fun x => x) (fun s i hi hs hg => by
        have h0 := targ_bulk (List.getElem_mem hi)
        have hgi : gi s (i : Int) = some t.Args[i] := gi_some rfl hg
        rw [kind_Put.l0_eq, if_pos (by omega), hgi, Option.bind_some, (ih _ (by omega) (by omega)).1, Option.bind_some, Option.bind_some, Option.bind_some, w_succ (by omega)]
        rfl)).trans ?_
      rw [kind_Put.l0_eq, if_neg (nlt _), List.map_id', type_eta]
    have s0 : ∀ z : Ty, roadref2_Swap.j0 [] [] t z = some t := fun z => by
      rw [roadref2_Swap.j0_eq]
      refine (map_loop (l := t.Args) (F := fun s i => roadref2_Swap.l0 [] [] z t.Kind t.Name s t.Args (t.Args.length : Int) i) (f := fun x => x) (B := 2000000) (fun s i hi hs => by
        have h0 := targ_bulk (List.getElem_mem hi)
        rw [roadref2_Swap.l0_eq, if_pos (by omega), gi_at hi, Option.bind_some, (ih _ (by omega) (by omega)).2, Option.bind_some, ap_one (by omega), Option.bind_some, w_succ (by omega)]) (by omega)).trans ?_
      rw [roadref2_Swap.l0_eq, if_neg (nlt _), List.map_id', type_eta]
    constructor
    · rw [kind_Put_eq, idx_nil]
      by_cases k5 : t.Kind = 5
      · rw [if_pos k5, Option.bind_some, if_neg (by decide : ¬ (-1 : Int) ≥ 0), kind_Put.j1_eq, if_neg (by decide : ¬ (false = true)), j0]
      · rw [if_neg k5, j0]
    · rw [roadref2_Swap_eq, idx_nil, Option.bind_some]
      by_cases k5 : t.Kind = 5
      · rw [if_pos k5, if_neg (by decide : ¬ (-1 : Int) ≥ 0), roadref2_Swap.j1_eq, if_neg (by decide : ¬ (false = true)), s0]
      · rw [if_neg k5, roadref2_Swap.j1_eq, if_neg (by decide : ¬ (false = true)), s0]
def bs8 (s : ByteArray) : List UInt8 := s.data.toList
theorem bs8_app (a b : ByteArray) : bs8 (a ++ b) = bs8 a ++ bs8 b := by unfold bs8; rw [ByteArray.data_append, Array.toList_append]
theorem bs8_inj {a b : ByteArray} (h : bs8 a = bs8 b) : a = b := by
  unfold bs8 at h
  exact ByteArray.ext (Array.toList_inj.1 h)
theorem bs8_size (a : ByteArray) : (bs8 a).length = a.size := by unfold bs8; rw [Array.length_toList]; rfl
theorem app_inj {a b s s' : ByteArray} (hs : a.size = b.size) (h : a ++ s = b ++ s') : a = b ∧ s = s' := by
  have h2 : bs8 a ++ bs8 s = bs8 b ++ bs8 s' := by rw [← bs8_app, ← bs8_app, h]
  have := List.append_inj h2 (by rw [bs8_size, bs8_size, hs])
  exact ⟨bs8_inj this.1, bs8_inj this.2⟩
theorem dec_mem : ∀ (u : Nat), ∀ c ∈ Lib.decDigits u, 48 ≤ c.toNat ∧ c.toNat ≤ 57 := by
  intro u
  induction u using Nat.strongRecOn with
  | _ u ih =>
    intro c hc
    rw [Lib.decDigits] at hc
    split at hc
    · rw [List.mem_singleton] at hc
      subst hc
      rw [UInt8.toNat_ofNat']
      omega
    · rcases List.mem_append.1 hc with hc | hc
      · exact ih _ (by omega) c hc
      · rw [List.mem_singleton] at hc
        subst hc
        rw [UInt8.toNat_ofNat']
        omega
def dval (l : List UInt8) : Nat := l.foldl (fun a c => 10 * a + (c.toNat - 48)) 0
theorem dval_dec (u : Nat) : dval (Lib.decDigits u) = u := by
  induction u using Nat.strongRecOn with
  | _ u ih =>
    rw [Lib.decDigits]
    split
    · show 10 * 0 + ((UInt8.ofNat (48 + u)).toNat - 48) = u
      rw [UInt8.toNat_ofNat']
      omega
    · have := ih (u / 10) (by omega)
      unfold dval at this ⊢
      rw [List.foldl_append, this]
      show 10 * (u / 10) + ((UInt8.ofNat (48 + u % 10)).toNat - 48) = u
      rw [UInt8.toNat_ofNat']
      omega
theorem dec_inj {u v : Nat} (h : Lib.decDigits u = Lib.decDigits v) : u = v := by
  have := dval_dec u; rw [h, dval_dec] at this; exact this.symm
theorem itoa_mem (x : Int) : ∀ c ∈ Lib.itoa x, c.toNat ≠ 44 := by
  intro c hc
  unfold Lib.itoa at hc
  split at hc
  · rcases List.mem_cons.1 hc with rfl | hc
    · decide
    · have := dec_mem _ c hc; omega
  · have := dec_mem _ c hc; omega
theorem itoa_inj {x y : Int} (h : Lib.itoa x = Lib.itoa y) : x = y := by
  unfold Lib.itoa at h
  have no : ∀ u v : Nat, 45 :: Lib.decDigits u = Lib.decDigits v → False := fun u v e => by
    have := dec_mem v 45 (by rw [← e]; exact List.mem_cons_self ..)
    have h45 : (45 : UInt8).toNat = 45 := rfl
    omega
  split at h <;> split at h
  · have := dec_inj (List.cons.inj h).2; omega
  · exact (no _ _ h).elim
  · exact (no _ _ h.symm).elim
  · have := dec_inj h; omega
theorem comma_inj : ∀ {l m s s' : List UInt8}, (∀ c ∈ l, c.toNat ≠ 44) → (∀ c ∈ m, c.toNat ≠ 44) → l ++ 44 :: s = m ++ 44 :: s' → l = m ∧ s = s'
  | [], [], s, s', _, _, h => ⟨rfl, (List.cons.inj h).2⟩
  | [], y :: m, s, s', _, hm, h => by
    have := (List.cons.inj h).1
    exact absurd (by rw [← this]; rfl) (hm y (List.mem_cons_self ..))
  | x :: l, [], s, s', hl, _, h => by
    have := (List.cons.inj h).1
    exact absurd (by rw [this]; rfl) (hl x (List.mem_cons_self ..))
  | x :: l, y :: m, s, s', hl, hm, h => by
    have e := List.cons.inj h
    have := comma_inj (fun c hc => hl c (List.mem_cons_of_mem _ hc)) (fun c hc => hm c (List.mem_cons_of_mem _ hc)) e.2
    exact ⟨by rw [e.1, this.1], this.2⟩
theorem bs8_itoa (x : Int) : bs8 (itoaB x) = Lib.itoa x := by unfold itoaB bs8; simp
theorem nm1_inj {x y : Int} {s s' : ByteArray} (h : nm1 x ++ s = nm1 y ++ s') : x = y ∧ s = s' := by
  have h2 : bs8 (nm1 x ++ s) = bs8 (nm1 y ++ s') := by rw [h]
  unfold nm1 at h2
  rw [bs8_app, bs8_app, bs8_app, bs8_app, bs8_itoa, bs8_itoa, List.append_assoc, List.append_assoc] at h2
  have := comma_inj (itoa_mem x) (itoa_mem y) h2
  exact ⟨itoa_inj this.1, bs8_inj this.2⟩
theorem nm_inj : ∀ {l m : List Int} {s s' : ByteArray}, l.length = m.length → nm l ++ s = nm m ++ s' → l = m ∧ s = s'
  | [], [], s, s', _, h => ⟨rfl, by unfold nm at h; simp only [List.map_nil, cat, nil_app] at h; exact h⟩
  | x :: l, y :: m, s, s', hl, h => by
    unfold nm at h
    rw [List.map_cons, List.map_cons, cat, cat, app_assoc, app_assoc] at h
    have e := nm1_inj h
    have := nm_inj (l := l) (m := m) (by simpa using hl) e.2
    exact ⟨by rw [e.1, this.1], this.2⟩
theorem tx1_inj {a b s s' : ByteArray} (h : tx1 a ++ s = tx1 b ++ s') : a = b ∧ s = s' := by
  unfold tx1 at h
  rw [app_assoc, app_assoc] at h
  have e := nm_inj (by simp) h
  have e1 := List.cons.inj e.1
  exact app_inj (by omega) e.2
theorem len_of_map {α : Type} {M : α → ByteArray} {l m : List α} (h : l.map M = m.map M) : l.length = m.length := by
  have := congrArg List.length h; simpa using this
def TP (t : T_api_Type) : Prop := t.bulk ≤ 2000000 ∧ t.Q
theorem tp_args {t : T_api_Type} (h : TP t) : ∀ x ∈ t.Args, TP x := fun x hx => by
  obtain ⟨q1, q2, q3, q4⟩ := T_api_Type.Q_iff.1 h.2
  have hb := tbulk t; have := h.1
  have := le_sum (f := T_api_Type.bulk) hx
  exact ⟨by omega, q4 x hx⟩
theorem tm_eq {t : T_api_Type} (h : TP t) : TM t = nm [t.Kind, (t.Args.length : Int)] ++ tx1 t.Name ++ cat (t.Args.map TM) := (type_mark t.bulk t (Nat.le_refl _) (by have := h.1; omega) h.2).2.2
theorem tm_split : ∀ (n : Nat) (x y : T_api_Type) (s s' : ByteArray), x.bulk ≤ n → TP x → TP y → TM x ++ s = TM y ++ s' → (x.Kind = y.Kind ∧ x.Name = y.Name ∧ x.Args.map TM = y.Args.map TM) ∧ s = s' := by
  intro n
  induction n with
  | zero => intro x y s s' hx; have := tbulk_pos x; omega
  | succ n ih =>
    intro x y s s' hx px py h
    rw [tm_eq px, tm_eq py] at h
    simp only [app_assoc] at h
    have a := nm_inj (by simp) h
    simp only [List.cons.injEq, and_true] at a
    have b := tx1_inj a.2
    have hl : x.Args.length = y.Args.length := by have := a.1.2; omega
    have hb := tbulk x
    -- the arguments, one after another
    have key : ∀ (l m : List T_api_Type) (s s' : ByteArray), (∀ z ∈ l, z.bulk ≤ n ∧ TP z) → (∀ z ∈ m, TP z) → l.length = m.length → cat (l.map TM) ++ s = cat (m.map TM) ++ s' → l.map TM = m.map TM ∧ s = s' := by
      intro l
      induction l with
      | nil =>
        intro m s s' _ _ hn h
        have : m = [] := List.eq_nil_of_length_eq_zero (by simpa using hn.symm)
        subst this
        exact ⟨rfl, by simp only [List.map_nil, cat, nil_app] at h; exact h⟩
      | cons z l il =>
        intro m s s' hl hm hn h
        cases m with
        | nil => simp at hn
        | cons w m =>
          rw [List.map_cons, List.map_cons, cat, cat, app_assoc, app_assoc] at h
          have pz := hl z (List.mem_cons_self ..)
          have pw := hm w (List.mem_cons_self ..)
          have e := ih z w _ _ pz.1 pz.2 pw h
          have ez : TM z = TM w := by
            rw [tm_eq pz.2, tm_eq pw, e.1.1, e.1.2.1, e.1.2.2, len_of_map e.1.2.2]
          have := il m s s' (fun q hq => hl q (List.mem_cons_of_mem _ hq)) (fun q hq => hm q (List.mem_cons_of_mem _ hq)) (by simpa using hn) e.2
          exact ⟨by rw [List.map_cons, List.map_cons, ez, this.1], this.2⟩
    have c := key _ _ _ _ (fun z hz => ⟨by have := le_sum (f := T_api_Type.bulk) hz; omega, tp_args px z hz⟩) (tp_args py) hl b.2
    exact ⟨⟨a.1.1, b.1, c.1⟩, c.2⟩
theorem tm_iff {x y : T_api_Type} (px : TP x) (py : TP y) : TM x = TM y ↔ x.Kind = y.Kind ∧ x.Name = y.Name ∧ x.Args.map TM = y.Args.map TM :=
  ⟨fun h => (tm_split x.bulk x y BA0 BA0 (Nat.le_refl _) px py (by rw [h])).1, fun ⟨h1, h2, h3⟩ => by rw [tm_eq px, tm_eq py, h1, h2, h3, len_of_map h3]⟩
theorem eqf_loop {α β : Type} [DecidableEq β] {M : α → β} {l m : List α} {F : Int → Option Bool} (hn : l.length = m.length)
    (step : ∀ (i : Nat) (h1 : i < l.length) (h2 : i < m.length), F (i : Int) = if M l[i] = M m[i] then F ((i + 1 : Nat) : Int) else some false) (fin : F (l.length : Int) = some true) : F 0 = some (decide (l.map M = m.map M)) := by
  have key : ∀ (d i : Nat), l.length - i = d → i ≤ l.length → F (i : Int) = some (decide ((l.drop i).map M = (m.drop i).map M)) := by
    intro d
    induction d with
    | zero =>
      intro i hd hi
      obtain rfl : i = l.length := by omega
      rw [fin, List.drop_length, hn, List.drop_length]; simp
    | succ d ih =>
      intro i hd hi
      rw [step i (by omega) (by omega), List.drop_eq_getElem_cons (by omega : i < l.length), List.drop_eq_getElem_cons (by omega : i < m.length), List.map_cons, List.map_cons]
      by_cases c : M l[i] = M m[i]
      · rw [if_pos c, ih (i + 1) (by omega) (by omega), c]
        simp
      · rw [if_neg c]
        simp [c]
  have := key l.length 0 (by omega) (by omega)
  simpa using this
theorem map_ne {α β : Type} {M : α → β} {l m : List α} (h : l.length ≠ m.length) : ¬ l.map M = m.map M := fun e => h (by have := congrArg List.length e; simpa using this)
theorem if_dec {p : Prop} [Decidable p] {α : Type} (x y : α) : (if decide p = true then x else y) = if p then x else y := by by_cases h : p <;> simp [h]
theorem eq20 {l m : List ByteArray} (hl : l.length ≤ 2000000) : slices_Equal_7 l m = some (decide (l = m)) := by
  unfold slices_Equal_7
  by_cases c : l.length = m.length
  · rw [if_pos (by omega)]
    have := eqf_loop (M := id) (l := l) (m := m) (F := fun i => slices_Equal_7.l0 l m (l.length : Int) i) c (fun i h1 h2 => by
      rw [slices_Equal_7.l0_eq, if_pos (by omega), gi_at h1, Option.bind_some, gi_at h2, Option.bind_some, w_succ (by omega)]
      rfl) (by rw [slices_Equal_7.l0_eq, if_neg (by omega)])
    rw [List.map_id, List.map_id] at this
    exact this
  · rw [if_neg (by omega), decide_eq_false (fun e => c (by rw [e]))]
theorem eq48_s1 {l m : List T_api_Type} (M : T_api_Type → ByteArray) (hl : l.length ≤ 2000000) (h : ∀ x ∈ l, ∀ y ∈ m, tree_SameType x y = some (decide (M x = M y))) : slices_EqualFunc_65_s1 l m = some (decide (l.map M = m.map M)) := by
  rw [slices_EqualFunc_65_s1_eq]
  by_cases c : l.length = m.length
  · rw [if_pos (by omega)]
    exact eqf_loop (M := M) (l := l) (m := m) (F := fun i => slices_EqualFunc_65_s1.l0 m l (l.length : Int) i) c (fun i h1 h2 => by
      rw [slices_EqualFunc_65_s1.l0_eq, if_pos (by omega), gi_at h1, Option.bind_some, gi_at h2, Option.bind_some, h _ (List.getElem_mem h1) _ (List.getElem_mem h2), Option.bind_some, w_succ (by omega), if_dec]) (by rw [slices_EqualFunc_65_s1.l0_eq, if_neg (by omega)])
  · rw [if_neg (by omega), decide_eq_false (map_ne c)]
theorem types_len {t : T_api_Type} (h : TP t) : t.Args.length ≤ 2000000 := by
  have : t.Args.length ≤ (t.Args.map T_api_Type.bulk).sum := len_le_sum fun x _ => tbulk_pos x
  have hb := tbulk t; have := h.1; omega
theorem same_type : ∀ (n : Nat) (x y : T_api_Type), x.bulk ≤ n → TP x → TP y → tree_SameType x y = some (decide (TM x = TM y)) := by
  intro n
  induction n with
  | zero => intro x y hx; have := tbulk_pos x; omega
  | succ n ih =>
    intro x y hx px py
    have hb := tbulk x
    rw [tree_SameType_eq]
    have no : ¬ (x.Kind = y.Kind ∧ x.Name = y.Name ∧ x.Args.map TM = y.Args.map TM) → some false = some (decide (TM x = TM y)) := fun h => by rw [decide_eq_false (fun e => h ((tm_iff px py).1 e))]
    by_cases c1 : x.Kind = y.Kind
    · by_cases c2 : x.Name = y.Name
      · rw [if_pos c1, if_pos c2, eq48_s1 TM (types_len px) (fun z hz w hw => ih z w (by have := le_sum (f := T_api_Type.bulk) hz; omega) (tp_args px z hz) (tp_args py w hw)), Option.bind_some]
        congr 1
        rw [decide_eq_decide, tm_iff px py]
        exact ⟨fun h => ⟨c1, c2, h⟩, fun h => h.2.2⟩
      · rw [if_pos c1, if_neg c2]; exact no fun h => c2 h.2.1
    · rw [if_neg c1]; exact no fun h => c1 h.1
theorem sameT {x y : T_api_Type} (px : TP x) (py : TP y) : tree_SameType x y = some (decide (TM x = TM y)) := same_type _ x y (Nat.le_refl _) px py
theorem idx_ok {N : List ByteArray} (s : ByteArray) (hN : N.length ≤ 4000000) : ∃ k : Int, slices_Index_33 N s = some k ∧ ((k < 0 ∧ s ∉ N) ∨ ∃ i : Nat, ∃ h : i < N.length, k = (i : Int) ∧ N[i] = s) := by
  refine ⟨_, slices_Index_33.val s (by omega), ?_⟩
  unfold idxOf
  cases h : N.findIdx? (fun y => decide (s = y)) with
  | none =>
    refine .inl ⟨by decide, fun hm => ?_⟩
    rw [List.findIdx?_eq_none_iff] at h
    have := h s hm
    simp at this
  | some i =>
    obtain ⟨h1, h2, _⟩ := List.findIdx?_eq_some_iff_getElem.1 h
    exact .inr ⟨i, h1, rfl, (of_decide_eq_true h2).symm⟩
noncomputable def puL (ps : List ByteArray) (us : List Ty) (t : Ty) : Ty := (kind_Put t ps us).getD t
theorem put_all {ps : List ByteArray} {us : List Ty} {U : Nat} (hp : ps.length ≤ 1048576) (hul : us.length ≤ 1048576) (hU1 : 1 ≤ U) (hU : U ≤ 1048576) (hu : ∀ u ∈ us, u.bulk ≤ U ∧ u.Q) : ∀ (n : Nat) (t : Ty), t.bulk ≤ n → n ≤ 1048576 → t.Q → kind_Put t ps us = some (puL ps us t) ∧ roadref2_Swap t ps us = some (puL ps us t) ∧ (puL ps us t).Q ∧ (puL ps us t).bulk ≤ t.bulk * U := by
  intro n
  induction n with
  | zero => intro t h; have := tbulk_pos t; omega
  | succ n ih =>
    intro t ht hn q
    have hl := targs_len t
    have hb := tbulk t
    obtain ⟨q1, q2, q3, q4⟩ := T_api_Type.Q_iff.1 q
    have c : ∀ x ∈ t.Args, kind_Put x ps us = some (puL ps us x) ∧ roadref2_Swap x ps us = some (puL ps us x) ∧ (puL ps us x).Q ∧ (puL ps us x).bulk ≤ x.bulk * U := fun x hx => by
      have := targ_bulk hx
      exact ih x (by omega) (by omega) (q4 x hx)
    have j0 : ∀ z : Ty, kind_Put.j0 ps us t z = some (T_api_Type.mk t.Kind t.Name (t.Args.map (puL ps us))) := fun z => by
      rw [kind_Put.j0_eq, slices_Clone_42.val _ (by omega), Option.bind_some]
      refine (set_loop (l := t.Args) (F := fun s i => kind_Put.l0 ps us t.Kind t.Name s z (t.Args.length : Int) i) (f := puL ps us) (fun s i hi hs hg => by
        have hgi : gi s (i : Int) = some t.Args[i] := gi_some rfl hg
        rw [kind_Put.l0_eq, if_pos (by omega), hgi, Option.bind_some, (c _ (List.getElem_mem hi)).1, Option.bind_some, Option.bind_some, Option.bind_some, w_succ (by omega)]
        rfl)).trans ?_
      rw [kind_Put.l0_eq, if_neg (nlt _)]
    have s0 : ∀ z : Ty, roadref2_Swap.j0 ps us t z = some (T_api_Type.mk t.Kind t.Name (t.Args.map (puL ps us))) := fun z => by
      rw [roadref2_Swap.j0_eq]
      refine (map_loop (l := t.Args) (F := fun s i => roadref2_Swap.l0 ps us z t.Kind t.Name s t.Args (t.Args.length : Int) i) (f := puL ps us) (B := 2000000) (fun s i hi hs => by
        rw [roadref2_Swap.l0_eq, if_pos (by omega), gi_at hi, Option.bind_some, (c _ (List.getElem_mem hi)).2.1, Option.bind_some, ap_one (by omega), Option.bind_some, w_succ (by omega)]) (by omega)).trans ?_
      rw [roadref2_Swap.l0_eq, if_neg (nlt _)]
    obtain ⟨k, hk, hkk⟩ := idx_ok (N := ps) t.Name (by omega)
    have plainQ : (T_api_Type.mk t.Kind t.Name (t.Args.map (puL ps us))).Q := by
      rw [T_api_Type.Q_iff]
      refine ⟨q1, q2, by rw [List.length_map]; exact q3, fun x hx => ?_⟩
      obtain ⟨y, hy, rfl⟩ := List.mem_map.1 hx
      exact (c y hy).2.2.1
    have plainB : (T_api_Type.mk t.Kind t.Name (t.Args.map (puL ps us))).bulk ≤ t.bulk * U := by
      rw [tbulk, hb]
      simp only
      rw [List.map_map]
      have h1 : (t.Args.map (T_api_Type.bulk ∘ puL ps us)).sum ≤ (t.Args.map fun x => U * x.bulk).sum := sum_le fun x hx => by
        have := (c x hx).2.2.2
        rw [Nat.mul_comm] at this
        exact this
      rw [sum_mul] at h1
      have h2 : t.Name.size + 4 ≤ (t.Name.size + 4) * U := Nat.le_mul_of_pos_right _ hU1
      have h3 : (t.Name.size + (t.Args.map T_api_Type.bulk).sum + 4) * U = (t.Name.size + 4) * U + U * (t.Args.map T_api_Type.bulk).sum := by
        rw [Nat.mul_comm U, ← Nat.add_mul]
        congr 1; omega
      omega
    have res : ∃ r, kind_Put t ps us = some r ∧ roadref2_Swap t ps us = some r ∧ r.Q ∧ r.bulk ≤ t.bulk * U := by
      rw [kind_Put_eq, roadref2_Swap_eq, hk]
      by_cases k5 : t.Kind = 5
      · rw [if_pos k5, Option.bind_some, Option.bind_some, if_pos k5]
        by_cases k0 : k ≥ 0
        · rw [if_pos k0, if_pos k0, kind_Put.j1_eq, roadref2_Swap.j1_eq]
          by_cases k1 : k < ((us.length : Nat) : Int)
          · obtain ⟨i, rfl⟩ := Int.eq_ofNat_of_zero_le k0
            have hi : i < us.length := by omega
            have hui := hu _ (List.getElem_mem hi)
            have cu := copy_all us[i].bulk us[i] (Nat.le_refl _) (by omega)
            rw [decide_eq_true k1, if_pos rfl, if_pos rfl, gi_at hi, Option.bind_some, Option.bind_some, kind_Copy_eq, cu.1, cu.2]
            refine ⟨us[i], rfl, rfl, hui.2, ?_⟩
            exact Nat.le_trans hui.1 (Nat.le_mul_of_pos_left _ (tbulk_pos t))
          · rw [decide_eq_false k1, if_neg (by decide), if_neg (by decide), j0, s0]
            exact ⟨_, rfl, rfl, plainQ, plainB⟩
        · rw [if_neg k0, if_neg k0, kind_Put.j1_eq, roadref2_Swap.j1_eq, if_neg (by decide), if_neg (by decide), j0, s0]
          exact ⟨_, rfl, rfl, plainQ, plainB⟩
      · rw [if_neg k5, Option.bind_some, if_neg k5, roadref2_Swap.j1_eq, if_neg (by decide), j0, s0]
        exact ⟨_, rfl, rfl, plainQ, plainB⟩
    obtain ⟨r, r1, r2, r3, r4⟩ := res
    have : puL ps us t = r := by unfold puL; rw [r1]; rfl
    rw [this]
    exact ⟨r1, r2, r3, r4⟩
theorem prefix_some (s : ByteArray) : ∃ b, strings_HasPrefix s (ByteArray.mk #[63]) = some b := by
  unfold strings_HasPrefix internal_stringslite_HasPrefix
  by_cases h : ((ByteArray.size s : Nat) : Int) ≥ ((ByteArray.size (ByteArray.mk #[63]) : Nat) : Int)
  · rw [if_pos h, if_pos ⟨by omega, by omega, by omega⟩, Option.bind_some]; exact ⟨_, rfl⟩
  · rw [if_neg h, Option.bind_some]; exact ⟨_, rfl⟩
theorem unk_some (t : Ty) : ∃ b, roadref2_Unknown t = some b := by
  obtain ⟨b, hb⟩ := prefix_some t.Name
  unfold roadref2_Unknown
  by_cases k5 : t.Kind = 5
  · rw [if_pos k5]
    by_cases k0 : ((t.Args.length : Nat) : Int) = 0
    · rw [if_pos k0, hb, Option.bind_some]; exact ⟨_, rfl⟩
    · rw [if_neg k0]; exact ⟨_, rfl⟩
  · rw [if_neg k5]; exact ⟨_, rfl⟩
noncomputable def unk (t : Ty) : Bool := (roadref2_Unknown t).getD false
theorem unk_ref (t : Ty) : roadref2_Unknown t = some (unk t) := by
  obtain ⟨b, hb⟩ := unk_some t
  unfold unk; rw [hb]; rfl
theorem unk_pro (t : Ty) : unify_Unknown t = some (unk t) := by
  rw [← unk_ref]; rfl
theorem targ_lt {t x : Ty} (h : x ∈ t.Args) : SizeOf.sizeOf x < SizeOf.sizeOf t := by
  cases t
  have := List.sizeOf_lt_of_mem h
  simp only [T_api_Type.mk.sizeOf_spec]
  simp only at this
  omega
noncomputable def pre (t : Ty) : List ByteArray := (if unk t = true then [t.Name] else []) ++ t.Args.attach.flatMap fun y => pre y.1
termination_by SizeOf.sizeOf t
decreasing_by exact targ_lt y.2
theorem pre_eq (t : Ty) : pre t = (if unk t = true then [t.Name] else []) ++ t.Args.flatMap pre := by
  rw [pre]
  congr 1
  have : (t.Args.attach.flatMap fun y => pre y.1) = (t.Args.attach.map (fun y => y.1)).flatMap pre := by rw [List.flatMap_map]
  rw [this, List.attach_map_subtype_val]
theorem pre_len : ∀ (n : Nat) (t : Ty), t.bulk ≤ n → (pre t).length ≤ t.bulk := by
  intro n
  induction n with
  | zero => intro t h; have := tbulk_pos t; omega
  | succ n ih =>
    intro t ht
    have hb := tbulk t
    rw [pre_eq, List.length_append, List.length_flatMap]
    have h1 : (t.Args.map fun x => (pre x).length).sum ≤ (t.Args.map T_api_Type.bulk).sum := sum_le fun x hx => by
      have := targ_bulk hx
      exact ih x (by omega)
    have h2 : (if unk t = true then [t.Name] else ([] : List ByteArray)).length ≤ 1 := by split <;> simp
    omega
def add1 (o : List ByteArray) (n : ByteArray) : List ByteArray := if n ∈ o then o else o ++ [n]
def addl (o : List ByteArray) (l : List ByteArray) : List ByteArray := l.foldl add1 o
theorem addl_len : ∀ (l o : List ByteArray), (addl o l).length ≤ o.length + l.length
  | [], o => by simp [addl]
  | n :: l, o => by
    have := addl_len l (add1 o n)
    have h : (add1 o n).length ≤ o.length + 1 := by unfold add1; split <;> simp
    unfold addl at this ⊢
    rw [List.foldl_cons, List.length_cons]; omega
theorem addl_app (o a b : List ByteArray) : addl o (a ++ b) = addl (addl o a) b := List.foldl_append ..
theorem unknowns_all : ∀ (n : Nat) (t : Ty) (o : List ByteArray), t.bulk ≤ n → o.length + t.bulk ≤ 4000000 → unify_unknowns t o = some (addl o (pre t)) := by
  intro n
  induction n with
  | zero => intro t o h; have := tbulk_pos t; omega
  | succ n ih =>
    intro t o ht ho
    have hb := tbulk t
    have hl := targs_len t
    have j0 : ∀ o1 : List ByteArray, o1.length + (t.Args.map T_api_Type.bulk).sum ≤ 4000000 → unify_unknowns.j0 o1 t = some (addl o1 (t.Args.flatMap pre)) := fun o1 h1 => by
      rw [unify_unknowns.j0_eq]
      have hg : ∀ (l : List Ty) (o : List ByteArray), l.foldl (fun o x => addl o (pre x)) o = addl o (l.flatMap pre) := by
        intro l
        induction l with
        | nil => intro o; rfl
        | cons x l il => intro o; rw [List.foldl_cons, il, List.flatMap_cons, addl_app]
      rw [← hg]
      refine (gen_loop (l := t.Args) (F := fun o i => unify_unknowns.l0 o t.Args (t.Args.length : Int) i) (g := fun o x => addl o (pre x)) (fun r o => o.length + (r.map T_api_Type.bulk).sum ≤ 4000000) (fun o i hi h => by
        rw [List.map_cons, List.sum_cons] at h
        have hx := targ_bulk (List.getElem_mem hi)
        have h3 := addl_len (pre t.Args[i]) o
        have h4 := pre_len _ t.Args[i] (Nat.le_refl _)
        refine ⟨?_, by show (addl o (pre t.Args[i])).length + _ ≤ 4000000; omega⟩
        rw [unify_unknowns.l0_eq, if_pos (by omega), gi_at hi, Option.bind_some, ih _ o (by omega) (by omega), Option.bind_some, w_succ (by omega)]) o1 h1).trans ?_
      rw [unify_unknowns.l0_eq, if_neg (nlt _)]
    rw [unify_unknowns_eq, unk_pro, Option.bind_some, pre_eq, addl_app]
    cases hu : unk t with
    | true =>
      rw [if_pos rfl, if_pos rfl, has_val _ (by omega), Option.bind_some, unify_unknowns.j1_eq]
      by_cases hm : t.Name ∈ o
      · rw [decide_eq_true hm, if_neg (by decide), j0 _ (by omega)]
        have : addl o [t.Name] = o := by show add1 o t.Name = o; unfold add1; rw [if_pos hm]
        rw [this]
      · rw [decide_eq_false hm, if_pos (by decide), ap_one (by omega), Option.bind_some, j0 _ (by rw [List.length_append, List.length_singleton]; omega)]
        have : addl o [t.Name] = o ++ [t.Name] := by show add1 o t.Name = _; unfold add1; rw [if_neg hm]
        rw [this]
    | false =>
      rw [if_neg (by decide), if_neg (by decide), unify_unknowns.j1_eq, if_neg (by decide), j0 _ (by omega)]
      rfl
noncomputable def un (t : Ty) : List ByteArray := addl [] (pre t)
theorem un_len (t : Ty) : (un t).length ≤ t.bulk := by
  have := addl_len (pre t) []
  have := pre_len _ t (Nat.le_refl _)
  unfold un
  simp only [List.length_nil] at *
  omega
theorem Unknowns_val {t : Ty} (h : t.bulk ≤ 1048576) : unify_Unknowns t = some (un t) := by
  unfold unify_Unknowns
  rw [unknowns_all _ t [] (Nat.le_refl _) (by rw [List.length_nil]; omega), Option.bind_some]; rfl
theorem unknownsOf_l0 : ∀ (n : Nat) (row : List Ty) (o : List ByteArray), (row.map T_api_Type.bulk).sum ≤ n → o.length + n ≤ 4000000 → roadref2_UnknownsOf.l0 o row = some (addl o (row.flatMap pre)) := by
  intro n
  induction n with
  | zero =>
    intro row o h1 h2
    cases row with
    | nil => rw [roadref2_UnknownsOf.l0_eq, if_neg (by simp)]; rfl
    | cons x row => have := tbulk_pos x; rw [List.map_cons, List.sum_cons] at h1; omega
  | succ n ih =>
    intro row o h1 h2
    cases row with
    | nil => rw [roadref2_UnknownsOf.l0_eq, if_neg (by simp)]; rfl
    | cons x row =>
      rw [List.map_cons, List.sum_cons] at h1
      have hb := tbulk x
      have hl := targs_len x
      have hrow : row.length ≤ (row.map T_api_Type.bulk).sum := len_le_sum fun x _ => tbulk_pos x
      have hs : sls (x :: row) 1 (((x :: row).length : Nat) : Int) = some row := sls_drop (x := 1) (k := 1) rfl (by rw [List.length_cons]; omega)
      have hsum : ((x.Args ++ row).map T_api_Type.bulk).sum ≤ n := by rw [List.map_append, List.sum_append]; omega
      have hfl : ((x :: row).flatMap pre) = (if unk x = true then [x.Name] else []) ++ (x.Args ++ row).flatMap pre := by
        rw [List.flatMap_cons, pre_eq, List.flatMap_append, List.append_assoc]
      rw [roadref2_UnknownsOf.l0_eq, if_pos (by simp only [List.length_cons]; omega), gi_cons, Option.bind_some, hs, Option.bind_some, concatT (by omega), Option.bind_some, unk_ref, Option.bind_some, hfl, addl_app]
      cases hu : unk x with
      | true =>
        rw [if_pos rfl, if_pos rfl, has_val _ (by omega), Option.bind_some, roadref2_UnknownsOf.j0_eq]
        by_cases hm : x.Name ∈ o
        · rw [decide_eq_true hm, if_neg (by decide), ih _ _ hsum (by omega)]
          have : addl o [x.Name] = o := by show add1 o x.Name = o; unfold add1; rw [if_pos hm]
          rw [this]
        · rw [decide_eq_false hm, if_pos (by decide), ap_one (by omega), Option.bind_some, ih _ _ hsum (by rw [List.length_append, List.length_singleton]; omega)]
          have : addl o [x.Name] = o ++ [x.Name] := by show add1 o x.Name = _; unfold add1; rw [if_neg hm]
          rw [this]
      | false =>
        rw [if_neg (by decide), if_neg (by decide), roadref2_UnknownsOf.j0_eq, if_neg (by decide), ih _ _ hsum (by omega)]
        rfl
theorem UnknownsOf_val {t : Ty} (h : t.bulk ≤ 1048576) : roadref2_UnknownsOf t = some (un t) := by
  unfold roadref2_UnknownsOf
  rw [unknownsOf_l0 1048576 [t] [] (by simpa using h) (by simp), List.flatMap_cons, List.flatMap_nil, List.append_nil]; rfl
def Par (ps : List ByteArray) (a : Ty) : Prop := a.Kind = 5 ∧ a.Name ∈ ps
inductive Fits (ps : List ByteArray) (σ : ByteArray → ByteArray) : Ty → Ty → Prop
  | var {a b : Ty} : Par ps a → σ a.Name = TM b → Fits ps σ a b
  | node {a b : Ty} : ¬ Par ps a → a.Kind = b.Kind → a.Name = b.Name → a.Args.length = b.Args.length → (∀ (i : Nat) (h1 : i < a.Args.length) (h2 : i < b.Args.length), Fits ps σ a.Args[i] b.Args[i]) → Fits ps σ a b
variable {ps : List ByteArray} {σ : ByteArray → ByteArray}
theorem fits_var {a b : Ty} (h : Par ps a) : Fits ps σ a b ↔ σ a.Name = TM b := by
  constructor
  · intro f
    cases f with
    | var _ e => exact e
    | node n => exact absurd h n
  · exact fun e => .var h e
theorem fits_node {a b : Ty} (h : ¬ Par ps a) : Fits ps σ a b ↔ a.Kind = b.Kind ∧ a.Name = b.Name ∧ a.Args.length = b.Args.length ∧ ∀ (i : Nat) (h1 : i < a.Args.length) (h2 : i < b.Args.length), Fits ps σ a.Args[i] b.Args[i] := by
  constructor
  · intro f
    cases f with
    | var n _ => exact absurd n h
    | node _ h1 h2 h3 h4 => exact ⟨h1, h2, h3, h4⟩
  · rintro ⟨h1, h2, h3, h4⟩; exact .node h h1 h2 h3 h4
def Ext_ (σ : ByteArray → ByteArray) (es : List (ByteArray × Ty)) : Prop := ∀ k t, pget es k = some t → σ k = TM t
def AllT (es : List (ByteArray × Ty)) : Prop := ∀ k t, pget es k = some t → TP t
theorem match_val (hp : ps.length ≤ 1048576) : ∀ (n : Nat) (a b : Ty) (es : List (ByteArray × Ty)), a.bulk ≤ n → n ≤ 1048576 → TP b → AllT es →
    ∃ r es', scheme_match ps a b es = some (r, es') ∧ AllT es' ∧ (r = true → ∀ σ, (Ext_ σ es ∧ Fits ps σ a b) ↔ Ext_ σ es') ∧ (r = false → ∀ σ, Ext_ σ es → ¬ Fits ps σ a b) := by
  intro n
  induction n with
  | zero => intro a b es h; have := tbulk_pos a; omega
  | succ n ih =>
    intro a b es ha hn pb hes
    have hl := targs_len a
    have hlb := types_len pb
    -- the case of another head
    have no : ∀ es : List (ByteArray × Ty), ¬ Par ps a → AllT es → ¬ (a.Kind = b.Kind ∧ a.Name = b.Name ∧ a.Args.length = b.Args.length) → ∃ r es', some (false, es) = some (r, es') ∧ AllT es' ∧ (r = true → ∀ σ, (Ext_ σ es ∧ Fits ps σ a b) ↔ Ext_ σ es') ∧ (r = false → ∀ σ, Ext_ σ es → ¬ Fits ps σ a b) :=
      fun es hP he hc => ⟨false, es, rfl, he, fun h => (by cases h), fun _ σ _ f => hc ⟨((fits_node hP).1 f).1, ((fits_node hP).1 f).2.1, ((fits_node hP).1 f).2.2.1⟩⟩
    have j0 : ¬ Par ps a → ∃ r es', scheme_match.j0 ps es a b = some (r, es') ∧ AllT es' ∧ (r = true → ∀ σ, (Ext_ σ es ∧ Fits ps σ a b) ↔ Ext_ σ es') ∧ (r = false → ∀ σ, Ext_ σ es → ¬ Fits ps σ a b) := by
      intro hP
      rw [scheme_match.j0_eq]
      by_cases c1 : a.Kind = b.Kind
      · rw [if_pos c1]
        by_cases c2 : a.Name = b.Name
        · rw [if_pos c2]
          by_cases c3 : a.Args.length = b.Args.length
          · rw [if_pos (by omega), scheme_match.j2_eq]
            have key : ∀ (d i : Nat) (es : List (ByteArray × Ty)), i + d = a.Args.length → AllT es →
                ∃ r es', scheme_match.l0 ps es b a.Args (a.Args.length : Int) (i : Int) = some (r, es') ∧ AllT es' ∧ (r = true → ∀ σ, (Ext_ σ es ∧ ∀ (k : Nat) (h1 : k < a.Args.length) (h2 : k < b.Args.length), i ≤ k → Fits ps σ a.Args[k] b.Args[k]) ↔ Ext_ σ es') ∧ (r = false → ∀ σ, Ext_ σ es → ¬ ∀ (k : Nat) (h1 : k < a.Args.length) (h2 : k < b.Args.length), i ≤ k → Fits ps σ a.Args[k] b.Args[k]) := by
              intro d
              induction d with
              | zero =>
                intro i es hi he
                rw [scheme_match.l0_eq, if_neg (by omega)]
                exact ⟨true, es, rfl, he, fun _ σ => ⟨fun h => h.1, fun h => ⟨h, fun k h1 h2 h3 => by omega⟩⟩, fun h => by cases h⟩
              | succ d il =>
                intro i es hi he
                have hia : i < a.Args.length := by omega
                have hib : i < b.Args.length := by omega
                have hba := targ_bulk (List.getElem_mem hia)
                obtain ⟨r, es1, e1, e2, e3, e4⟩ := ih a.Args[i] b.Args[i] es (by omega) (by omega) (tp_args pb _ (List.getElem_mem hib)) he
                rw [scheme_match.l0_eq, if_pos (by omega), gi_at hia, Option.bind_some, gi_at hib, Option.bind_some, e1, Option.bind_some]
                cases r with
                | false =>
                  rw [if_neg (show ¬ ((false, es1).1 = true) from (by decide : ¬ (false = true)))]
                  exact ⟨false, es1, rfl, e2, fun h => (by cases h), fun _ σ hx hf => e4 rfl σ hx (hf i hia hib (Nat.le_refl _))⟩
                | true =>
                  rw [if_pos rfl, w_succ (by omega)]
                  obtain ⟨r2, es2, f1, f2, f3, f4⟩ := il (i + 1) es1 (by omega) e2
                  refine ⟨r2, es2, f1, f2, fun hr σ => ?_, fun hr σ hx hf => ?_⟩
                  · rw [← f3 hr σ, ← e3 rfl σ]
                    constructor
                    · rintro ⟨h1, h2⟩
                      exact ⟨⟨h1, h2 i hia hib (Nat.le_refl _)⟩, fun k k1 k2 k3 => h2 k k1 k2 (by omega)⟩
                    · rintro ⟨⟨h1, h2⟩, h3⟩
                      refine ⟨h1, fun k k1 k2 k3 => ?_⟩
                      by_cases e : k = i
                      · subst e; exact h2
                      · exact h3 k k1 k2 (by omega)
                  · exact f4 hr σ ((e3 rfl σ).1 ⟨hx, hf i hia hib (Nat.le_refl _)⟩) fun k k1 k2 k3 => hf k k1 k2 (by omega)
            obtain ⟨r, es', f1, f2, f3, f4⟩ := key a.Args.length 0 es (by omega) hes
            refine ⟨r, es', f1, f2, fun hr σ => ?_, fun hr σ hx hf => f4 hr σ hx fun k k1 k2 _ => ((fits_node hP).1 hf).2.2.2 k k1 k2⟩
            rw [← f3 hr σ, fits_node hP]
            exact ⟨fun ⟨h1, _, _, _, h2⟩ => ⟨h1, fun k k1 k2 _ => h2 k k1 k2⟩, fun ⟨h1, h2⟩ => ⟨h1, c1, c2, c3, fun k k1 k2 => h2 k k1 k2 (Nat.zero_le _)⟩⟩
          · rw [if_neg (by omega)]; exact no es hP hes fun h => c3 h.2.2
        · rw [if_neg c2]; exact no es hP hes fun h => c2 h.2.1
      · rw [if_neg c1]; exact no es hP hes fun h => c1 h.1
    rw [scheme_match_eq]
    by_cases k5 : a.Kind = 5
    · rw [if_pos k5, has_val _ (by omega), Option.bind_some, scheme_match.j1_eq]
      by_cases hm : a.Name ∈ ps
      · have hP : Par ps a := ⟨k5, hm⟩
        rw [decide_eq_true hm, if_pos rfl]
        cases hg : pget es a.Name with
        | some t0 =>
          rw [Option.isSome_some, if_pos rfl, show pgd es a.Name (T_api_Type.mk 0 (ByteArray.mk #[]) ([] : (List T_api_Type))) = t0 by unfold pgd; rw [hg]; rfl, sameT (hes _ _ hg) pb, Option.bind_some]
          refine ⟨_, es, rfl, hes, fun hr σ => ?_, fun hr σ hx hf => ?_⟩
          · have e := of_decide_eq_true hr
            rw [fits_var hP]
            exact ⟨fun h => h.1, fun h => ⟨h, by rw [← e]; exact h _ _ hg⟩⟩
          · have e := of_decide_eq_false hr
            rw [fits_var hP] at hf
            exact e (by rw [← hf]; exact (hx _ _ hg).symm)
        | none =>
          rw [Option.isSome_none, if_neg (by decide), Option.bind_some]
          refine ⟨true, _, rfl, fun k t h => ?_, fun _ σ => ?_, fun h => by cases h⟩
          · rw [pget_pset] at h
            by_cases e : k = a.Name
            · rw [if_pos e] at h; cases h; exact pb
            · rw [if_neg e] at h; exact hes k t h
          · rw [fits_var hP]
            constructor
            · rintro ⟨h1, h2⟩ k t h
              rw [pget_pset] at h
              by_cases e : k = a.Name
              · rw [if_pos e] at h; cases h; rw [e]; exact h2
              · rw [if_neg e] at h; exact h1 k t h
            · intro h
              refine ⟨fun k t hk => h k t ?_, h a.Name b (by rw [pget_pset, if_pos rfl])⟩
              rw [pget_pset]
              by_cases e : k = a.Name
              · rw [e, hg] at hk; cases hk
              · rw [if_neg e]; exact hk
      · rw [decide_eq_false hm, if_neg (by decide)]
        exact j0 fun h => hm h.2
    · rw [if_neg k5, scheme_match.j1_eq, if_neg (by decide)]
      exact j0 fun h => k5 h.1
theorem More_val {y : T_scheme_Scheme} {b : Ty} (hp : y.Params.length ≤ 1048576) (ha : y.Type_.bulk ≤ 1048576) (pb : TP b) : ∃ r, scheme_More y b = some r ∧ (r = true ↔ ∃ σ, Fits y.Params σ y.Type_ b) := by
  obtain ⟨r, es', e1, e2, e3, e4⟩ := match_val hp _ y.Type_ b [] (Nat.le_refl _) ha pb (fun k t h => by cases h)
  unfold scheme_More
  rw [e1, Option.bind_some]
  refine ⟨r, rfl, fun hr => ?_, fun ⟨σ, hf⟩ => ?_⟩
  · let σ : ByteArray → ByteArray := fun k => TM ((pget es' k).getD (T_api_Type.mk 0 (ByteArray.mk #[]) []))
    refine ⟨σ, ((e3 hr σ).2 fun k t h => ?_).2⟩
    show TM ((pget es' k).getD _) = TM t
    rw [h]; rfl
  · cases r with
    | true => rfl
    | false => exact absurd hf (e4 rfl σ fun k t h => by cases h)
def ExtL (σ : ByteArray → ByteArray) (N : List ByteArray) (T : List Ty) : Prop := ∀ (i : Nat) (h1 : i < N.length) (h2 : i < T.length), σ N[i] = TM T[i]
theorem extL_snoc {N : List ByteArray} {T : List Ty} (hl : N.length = T.length) {s : ByteArray} {t : Ty} : ExtL σ (N ++ [s]) (T ++ [t]) ↔ ExtL σ N T ∧ σ s = TM t := by
  constructor
  · intro h
    refine ⟨fun i h1 h2 => ?_, ?_⟩
    · have := h i (by rw [List.length_append]; omega) (by rw [List.length_append]; omega)
      rwa [List.getElem_append_left h1, List.getElem_append_left h2] at this
    · have := h N.length (by simp) (by simp [hl])
      simpa [hl] using this
  · rintro ⟨h, e⟩ i h1 h2
    rw [List.length_append, List.length_singleton] at h1 h2
    by_cases c : i < N.length
    · rw [List.getElem_append_left c, List.getElem_append_left (by omega)]; exact h i c (by omega)
    · have hi : i = N.length := by omega
      subst hi
      simpa [hl] using e
abbrev pr2 (p : Ty × Ty) : List Ty := [p.1, p.2]
theorem fitting_l0 (hp : ps.length ≤ 1048576) : ∀ (n : Nat) (N : List ByteArray) (T : List Ty) (row : List (Ty × Ty)), (row.map fun p => p.1.bulk).sum ≤ n → N.length + n ≤ 2000000 → N.length = T.length → (∀ t ∈ T, TP t) → (∀ p ∈ row, TP p.2) → (∃ σ, ExtL σ N T) →
    ∃ r, roadref2_Fitting.l0 ps N T (row.map pr2) = some r ∧ (r = true ↔ ∃ σ, ExtL σ N T ∧ ∀ p ∈ row, Fits ps σ p.1 p.2) := by
  intro n
  induction n with
  | zero =>
    intro N T row h1 h2 h3 h4 h5 h6
    cases row with
    | nil => rw [roadref2_Fitting.l0_eq, if_neg (by simp)]; exact ⟨true, rfl, fun _ => h6.imp fun σ h => ⟨h, fun p hp => by cases hp⟩, fun _ => rfl⟩
    | cons p row => have := tbulk_pos p.1; rw [List.map_cons, List.sum_cons] at h1; omega
  | succ n ih =>
    intro N T row h1 h2 h3 h4 h5 h6
    cases row with
    | nil => rw [roadref2_Fitting.l0_eq, if_neg (by simp)]; exact ⟨true, rfl, fun _ => h6.imp fun σ h => ⟨h, fun p hp => by cases hp⟩, fun _ => rfl⟩
    | cons p row =>
      obtain ⟨a, b⟩ := p
      rw [List.map_cons, List.sum_cons] at h1
      simp only at h1
      have pb : TP b := h5 (a, b) (List.mem_cons_self ..)
      have hrow : ∀ p ∈ row, TP p.2 := fun p hp => h5 p (List.mem_cons_of_mem _ hp)
      have hab := tbulk_pos a
      have hb := tbulk a
      have hl := targs_len a
      have hlb := types_len pb
      have hrl : row.length ≤ (row.map fun p => p.1.bulk).sum := len_le_sum fun p _ => tbulk_pos p.1
      have hs : sls (pr2 (a, b) :: row.map pr2) 1 (((pr2 (a, b) :: row.map pr2).length : Nat) : Int) = some (row.map pr2) := sls_drop (x := 1) (k := 1) rfl (by rw [List.length_cons]; omega)
      have hg0 : gi (pr2 (a, b)) 0 = some a := rfl
      have hg1 : gi (pr2 (a, b)) 1 = some b := rfl
      rw [List.map_cons, roadref2_Fitting.l0_eq, if_pos (by simp only [List.length_cons]; omega), gi_cons, Option.bind_some, hg0, Option.bind_some, Option.bind_some, hg1, Option.bind_some, roadref2_Fitting.j0_eq, hs, Option.bind_some]
      -- another head
      have no : ¬ Par ps a → ¬ (a.Kind = b.Kind ∧ a.Name = b.Name ∧ a.Args.length = b.Args.length) → ∃ r, some false = some r ∧ (r = true ↔ ∃ σ, ExtL σ N T ∧ ∀ p ∈ (a, b) :: row, Fits ps σ p.1 p.2) :=
        fun hP hc => ⟨false, rfl, fun h => (by cases h), fun ⟨σ, _, hf⟩ => absurd (let q := (fits_node hP).1 (hf (a, b) (List.mem_cons_self ..)); ⟨q.1, q.2.1, q.2.2.1⟩) hc⟩
      have j1 : ¬ Par ps a → ∃ r, roadref2_Fitting.j1 ps N T (row.map pr2) a b = some r ∧ (r = true ↔ ∃ σ, ExtL σ N T ∧ ∀ p ∈ (a, b) :: row, Fits ps σ p.1 p.2) := by
        intro hP
        rw [roadref2_Fitting.j1_eq]
        by_cases c1 : a.Kind = b.Kind
        · rw [if_pos c1]
          by_cases c2 : a.Name = b.Name
          · rw [if_pos c2]
            by_cases c3 : a.Args.length = b.Args.length
            · rw [if_pos (by omega), roadref2_Fitting.j3_eq]
              have hz : (a.Args.zip b.Args).length = a.Args.length := by rw [List.length_zip]; omega
              have lp := app_loop (l := a.Args.zip b.Args) (F := fun s i => roadref2_Fitting.l1 ps N T s a b (a.Args.length : Int) i) (T := fun p => [pr2 p]) (B := 6000000) (fun s i hi hs => by
                have hia : i < a.Args.length := by omega
                have hib : i < b.Args.length := by omega
                rw [List.length_singleton] at hs
                rw [roadref2_Fitting.l1_eq, if_pos (by omega), gi_at hia, Option.bind_some, gi_at hib, Option.bind_some, ap_one (by omega), Option.bind_some, w_succ (by omega), List.getElem_zip]) (row.map pr2) (by
                have := one_len pr2 (a.Args.zip b.Args)
                rw [this, List.length_map, hz]; omega)
              rw [lp, hz, roadref2_Fitting.l1_eq, if_neg (nlt _), flat_one, ← List.map_append]
              have hsum : ((row ++ a.Args.zip b.Args).map fun p => p.1.bulk).sum ≤ n := by
                rw [List.map_append, List.sum_append]
                have : ((a.Args.zip b.Args).map fun p => p.1.bulk) = a.Args.map T_api_Type.bulk := by
                  have e : (a.Args.zip b.Args).map Prod.fst = a.Args := List.map_fst_zip (by omega)
                  conv => rhs; rw [← e, List.map_map]
                  rfl
                rw [this]; omega
              obtain ⟨r, e1, e2⟩ := ih N T (row ++ a.Args.zip b.Args) hsum (by omega) h3 h4 (fun p hp => by
                rcases List.mem_append.1 hp with h | h
                · exact hrow p h
                · exact tp_args pb _ (List.of_mem_zip h).2) h6
              refine ⟨r, e1, e2.trans ?_⟩
              constructor
              · rintro ⟨σ, s1, s2⟩
                refine ⟨σ, s1, fun p hp => ?_⟩
                rcases List.mem_cons.1 hp with h | h
                · subst h
                  refine (fits_node hP).2 ⟨c1, c2, c3, fun i i1 i2 => ?_⟩
                  have hzi : i < (a.Args.zip b.Args).length := by omega
                  have := s2 _ (List.mem_append_right _ (List.getElem_mem hzi))
                  rw [List.getElem_zip] at this
                  exact this
                · exact s2 p (List.mem_append_left _ h)
              · rintro ⟨σ, s1, s2⟩
                refine ⟨σ, s1, fun p hp => ?_⟩
                rcases List.mem_append.1 hp with h | h
                · exact s2 p (List.mem_cons_of_mem _ h)
                · obtain ⟨i, hi, e⟩ := List.getElem_of_mem h
                  rw [List.getElem_zip] at e
                  rw [← e]
                  exact ((fits_node hP).1 (s2 (a, b) (List.mem_cons_self ..))).2.2.2 i (show i < a.Args.length by omega) (show i < b.Args.length by omega)
            · rw [if_neg (by omega)]; exact no hP fun h => c3 h.2.2
          · rw [if_neg c2]; exact no hP fun h => c2 h.2.1
        · rw [if_neg c1]; exact no hP fun h => c1 h.1
      by_cases k5 : a.Kind = 5
      · rw [if_pos k5, has_val _ (by omega), Option.bind_some, roadref2_Fitting.j2_eq]
        by_cases hm : a.Name ∈ ps
        · have hP : Par ps a := ⟨k5, hm⟩
          rw [decide_eq_true hm, if_pos rfl]
          obtain ⟨k, hk, hkk⟩ := idx_ok (N := N) a.Name (by omega)
          rw [hk, Option.bind_some]
          have split : ∀ {M : List ByteArray} {U : List Ty}, (∃ σ, ExtL σ M U ∧ ∀ p ∈ (a, b) :: row, Fits ps σ p.1 p.2) ↔ ∃ σ, (ExtL σ M U ∧ σ a.Name = TM b) ∧ ∀ p ∈ row, Fits ps σ p.1 p.2 := by
            intro M U
            constructor
            · rintro ⟨σ, s1, s2⟩
              exact ⟨σ, ⟨s1, (fits_var hP).1 (s2 (a, b) (List.mem_cons_self ..))⟩, fun p hp => s2 p (List.mem_cons_of_mem _ hp)⟩
            · rintro ⟨σ, ⟨s1, s3⟩, s2⟩
              refine ⟨σ, s1, fun p hp => ?_⟩
              rcases List.mem_cons.1 hp with h | h
              · subst h; exact (fits_var hP).2 s3
              · exact s2 p h
          rw [split]
          rcases hkk with ⟨k0, hno⟩ | ⟨i, hi, rfl, hNi⟩
          · rw [if_pos k0, ap_one (by omega), Option.bind_some, ap_one (by omega), Option.bind_some]
            obtain ⟨r, e1, e2⟩ := ih (N ++ [a.Name]) (T ++ [b]) row (by omega) (by rw [List.length_append, List.length_singleton]; omega) (by simp [h3]) (fun t ht => by
              rcases List.mem_append.1 ht with h | h
              · exact h4 t h
              · rw [List.mem_singleton.1 h]; exact pb) hrow (by
              obtain ⟨σ, hσ⟩ := h6
              refine ⟨fun k => if k = a.Name then TM b else σ k, (extL_snoc h3).2 ⟨fun i i1 i2 => ?_, if_pos rfl⟩⟩
              show (if N[i] = a.Name then TM b else σ N[i]) = TM T[i]
              rw [if_neg (fun e => hno (by rw [← e]; exact List.getElem_mem i1))]
              exact hσ i i1 i2)
            refine ⟨r, e1, e2.trans ?_⟩
            simp only [extL_snoc h3]
          · rw [if_neg (by omega), gi_at (by omega : i < T.length), Option.bind_some, (type_mark _ T[i] (Nat.le_refl _) (by have := (h4 _ (List.getElem_mem (by omega : i < T.length))).1; omega) (h4 _ (List.getElem_mem _)).2).1, Option.bind_some, (type_mark _ b (Nat.le_refl _) (by have := pb.1; omega) pb.2).1, Option.bind_some]
            have hi2 : i < T.length := by omega
            by_cases c : TM T[i] = TM b
            · rw [if_pos c]
              obtain ⟨r, e1, e2⟩ := ih N T row (by omega) (by omega) h3 h4 hrow h6
              refine ⟨r, e1, e2.trans ?_⟩
              constructor
              · rintro ⟨σ, s1, s2⟩
                refine ⟨σ, ⟨s1, ?_⟩, s2⟩
                have := s1 i hi hi2
                rw [hNi] at this
                rw [this, c]
              · rintro ⟨σ, ⟨s1, _⟩, s2⟩; exact ⟨σ, s1, s2⟩
            · rw [if_neg c]
              refine ⟨false, rfl, fun h => (by cases h), fun ⟨σ, ⟨s1, s3⟩, _⟩ => ?_⟩
              have := s1 i hi hi2
              rw [hNi] at this
              exact absurd (by rw [← this, s3]) c
        · rw [decide_eq_false hm, if_neg (by decide)]
          exact j1 fun h => hm h.2
      · rw [if_neg k5, roadref2_Fitting.j2_eq, if_neg (by decide)]
        exact j1 fun h => k5 h.1
theorem Fitting_val (hp : ps.length ≤ 1048576) {a b : Ty} (ha : a.bulk ≤ 1048576) (pb : TP b) : ∃ r, roadref2_Fitting ps a b = some r ∧ (r = true ↔ ∃ σ, Fits ps σ a b) := by
  obtain ⟨r, e1, e2⟩ := fitting_l0 hp 1048576 [] [] [(a, b)] (by simpa using ha) (by simp) rfl (fun t h => by cases h) (fun p h => by rw [List.mem_singleton.1 h]; exact pb) ⟨fun _ => BA0, fun i h => absurd h (Nat.not_lt_zero _)⟩
  unfold roadref2_Fitting
  refine ⟨r, e1, e2.trans ?_⟩
  constructor
  · rintro ⟨σ, _, s2⟩; exact ⟨σ, s2 (a, b) (List.mem_singleton_self _)⟩
  · rintro ⟨σ, s⟩; exact ⟨σ, fun i h => absurd h (Nat.not_lt_zero _), fun p h => by rw [List.mem_singleton.1 h]; exact s⟩
abbrev Sch := T_scheme_Scheme
def T1 (ps : List ByteArray) (n : ByteArray) : List ByteArray := if n ∈ ps then [] else [n]
def fr (ps l : List ByteArray) : List ByteArray := l.flatMap (T1 ps)
theorem T1_len (ps : List ByteArray) (n : ByteArray) : (T1 ps n).length ≤ 1 := by unfold T1; split <;> simp
theorem fr_sum (ps : List ByteArray) : ∀ l : List ByteArray, (l.map fun n => (T1 ps n).length).sum ≤ l.length
  | [] => by simp
  | n :: l => by have := fr_sum ps l; have := T1_len ps n; rw [List.map_cons, List.sum_cons, List.length_cons]; omega
theorem fr_len (ps l : List ByteArray) : (fr ps l).length ≤ l.length := by
  unfold fr; rw [List.length_flatMap]; exact fr_sum ps l
theorem fr_loop {γ : Type} {ps l : List ByteArray} {F : List ByteArray → Int → Option γ} (hp : ps.length ≤ 4000000) (hl : l.length ≤ 4000000)
    (s1 : ∀ (s : List ByteArray) (i : Nat) (hi : i < l.length), l[i] ∈ ps → F s (i : Int) = F s ((i + 1 : Nat) : Int))
    (s2 : ∀ (s : List ByteArray) (i : Nat) (hi : i < l.length), s.length ≤ 4000000 → l[i] ∉ ps → F s (i : Int) = F (s ++ [l[i]]) ((i + 1 : Nat) : Int)) : F [] 0 = F (fr ps l) (l.length : Int) := by
  have := app_loop (l := l) (F := F) (T := T1 ps) (B := 4000000) (fun s i hi hs => by
    by_cases h : l[i] ∈ ps
    · rw [s1 s i hi h]; unfold T1; rw [if_pos h, List.append_nil]
    · rw [s2 s i hi (by omega) h]; unfold T1; rw [if_neg h]) [] (by have := fr_sum ps l; simp only [List.length_nil]; omega)
  rw [this, List.nil_append]; rfl
noncomputable def frS (x : Sch) : List ByteArray := fr x.Params (un x.Type_)
theorem sch_bulk (x : Sch) : (x.Params.map fun s => s.size + 1).sum + x.Type_.bulk + 2 = x.bulk := by unfold T_scheme_Scheme.bulk; omega
theorem sch_par (x : Sch) : x.Params.length + x.Type_.bulk + 2 ≤ x.bulk := by
  have := sch_bulk x
  have : x.Params.length ≤ (x.Params.map fun s => s.size + 1).sum := len_le_sum fun s _ => by omega
  omega
theorem frS_len (x : Sch) : (frS x).length ≤ x.bulk := by
  have := fr_len x.Params (un x.Type_)
  have := un_len x.Type_
  have := sch_par x
  unfold frS; omega
theorem Free_val {x : Sch} (h : x.bulk ≤ 1048576) : scheme_Free x = some (frS x) := by
  have hp := sch_par x
  have hu := un_len x.Type_
  unfold scheme_Free
  rw [Unknowns_val (by omega), Option.bind_some]
  refine (fr_loop (ps := x.Params) (l := un x.Type_) (F := fun s i => scheme_Free.l0 x s (un x.Type_) ((un x.Type_).length : Int) i) (by omega) (by omega) (fun s i hi hm => by
    rw [scheme_Free.l0_eq, if_pos (by omega), gi_at hi, Option.bind_some, has_val _ (by omega), Option.bind_some, decide_eq_true hm, if_pos rfl, w_succ (by omega)]) (fun s i hi hs hm => by
    rw [scheme_Free.l0_eq, if_pos (by omega), gi_at hi, Option.bind_some, has_val _ (by omega), Option.bind_some, decide_eq_false hm, if_neg (by decide), ap_one (by omega), Option.bind_some, w_succ (by omega)])).trans ?_
  rw [scheme_Free.l0_eq, if_neg (nlt _)]; rfl
theorem Plain_val {t : Ty} (h : t.bulk ≤ 1048576) : scheme_Plain t = some (T_scheme_Scheme.mk [] t) := by
  unfold scheme_Plain
  rw [kind_Copy_eq, (copy_all t.bulk t (Nat.le_refl _) (by omega)).1]; rfl
noncomputable def frE (env : List Sch) : List ByteArray := env.flatMap frS
theorem frE_sum (env : List Sch) : (env.map fun x => (frS x).length).sum ≤ (env.map T_scheme_Scheme.bulk).sum := sum_le fun x _ => frS_len x
theorem frE_len (env : List Sch) : (frE env).length ≤ (env.map T_scheme_Scheme.bulk).sum := by
  unfold frE; rw [List.length_flatMap]; exact frE_sum env
theorem env_len (env : List Sch) : env.length ≤ (env.map T_scheme_Scheme.bulk).sum := len_le_sum fun x _ => by have := sch_par x; omega
theorem Close_val {env : List Sch} {t : Ty} (he : (env.map T_scheme_Scheme.bulk).sum ≤ 1048576) (ht : t.bulk ≤ 1048576) : scheme_Close env t = some (T_scheme_Scheme.mk (fr (frE env) (un t)) t) := by
  have h1 := frE_len env
  have h2 := env_len env
  have h3 := frE_sum env
  have hu := un_len t
  unfold scheme_Close
  refine (app_loop (l := env) (F := fun s i => scheme_Close.l0 t (T_scheme_Scheme.mk ([] : List ByteArray) (T_api_Type.mk 0 (ByteArray.mk #[]) ([] : List T_api_Type))) s env (env.length : Int) i) (T := frS) (B := 1048576) (fun s i hi hs => by
    have := le_sum (f := T_scheme_Scheme.bulk) (List.getElem_mem hi)
    rw [scheme_Close.l0_eq, if_pos (by omega), gi_at hi, Option.bind_some, Free_val (by omega), Option.bind_some, ap_of (by omega), Option.bind_some, w_succ (by omega)]) [] (by simp only [List.length_nil]; omega)).trans ?_
  rw [scheme_Close.l0_eq, if_neg (nlt _), Plain_val ht, Option.bind_some, Unknowns_val ht, Option.bind_some, List.nil_append]
  show scheme_Close.l1 _ (frE env) [] t.Kind t.Name t.Args (un t) ((un t).length : Int) 0 = _
  refine (fr_loop (ps := frE env) (l := un t) (F := fun s i => scheme_Close.l1 (T_scheme_Scheme.mk ([] : List ByteArray) (T_api_Type.mk 0 (ByteArray.mk #[]) ([] : List T_api_Type))) (frE env) s t.Kind t.Name t.Args (un t) ((un t).length : Int) i) (by omega) (by omega) (fun s i hi hm => by
    rw [scheme_Close.l1_eq, if_pos (by omega), gi_at hi, Option.bind_some, has_val _ (by omega), Option.bind_some, decide_eq_true hm, if_pos rfl, w_succ (by omega)]) (fun s i hi hs hm => by
    rw [scheme_Close.l1_eq, if_pos (by omega), gi_at hi, Option.bind_some, has_val _ (by omega), Option.bind_some, decide_eq_false hm, if_neg (by decide), ap_one (by omega), Option.bind_some, w_succ (by omega)])).trans ?_
  rw [scheme_Close.l1_eq, if_neg (nlt _), type_eta]
theorem eq_self {l : List ByteArray} (h : l.length ≤ 2000000) : slices_Equal_7 l l = some true := by rw [eq20 h, decide_eq_true rfl]
def q63 : ByteArray := ByteArray.mk #[63]
theorem itoa_size {n : Int} (h : i64 n) : (itoaB n).size ≤ 21 := by
  have := nm1_size h
  unfold nm1 at this
  rw [app_size] at this
  have e : (ByteArray.mk #[44]).size = 1 := rfl
  omega
theorem Name_val {n : Int} (h : i64 n) : scheme_Name n = some (q63 ++ itoaB n) := by
  have := itoa_size h
  have e : (ByteArray.mk #[63]).size = 1 := rfl
  unfold scheme_Name
  rw [itoa_val h, Option.bind_some, if_pos (by omega)]; rfl
def fv (n : Int) (j : Nat) : Ty := T_api_Type.mk 5 (q63 ++ itoaB (n + (j : Int))) []
def fl (n : Int) (k : Nat) : List Ty := (List.range k).map (fv n)
theorem fl_ok {n : Int} (h0 : 0 ≤ n) (h1 : n < 1000000) {k : Nat} (hk : k ≤ 1048576) : ∀ u ∈ fl n k, u.bulk ≤ 1048576 ∧ u.Q := by
  intro u hu
  obtain ⟨j, hj, rfl⟩ := List.mem_map.1 hu
  have hj := List.mem_range.1 hj
  have h2 : i64 (n + (j : Int)) := ⟨by omega, by omega⟩
  have h3 := itoa_size h2
  have e : q63.size = 1 := rfl
  constructor
  · rw [tbulk]
    simp only [fv, List.map_nil, List.sum_nil, app_size]; omega
  · rw [T_api_Type.Q_iff]
    refine ⟨by simp only [fv]; omega, by simp only [fv, app_size]; omega, by simp [fv], fun x hx => by simp [fv] at hx⟩
theorem Fresh_val {s : Sch} {n : Int} (hs : s.bulk ≤ 1048576) (qs : s.Type_.Q) (h0 : 0 ≤ n) (h1 : n < 1000000) : scheme_Fresh s n = some (puL s.Params (fl n s.Params.length) s.Type_, n + (s.Params.length : Int)) := by
  have hp := sch_par s
  unfold scheme_Fresh
  have lp := map_loop (l := List.range s.Params.length) (F := fun o i => scheme_Fresh.l0 n s (T_api_Type.mk 0 (ByteArray.mk #[]) ([] : List T_api_Type)) o (s.Params.length : Int) i) (f := fv n) (B := 2000000) (fun o i hi hs => by
    rw [List.length_range] at hi
    rw [scheme_Fresh.l0_eq, if_pos (by omega), wrap_in (by omega) (by omega), Name_val ⟨by omega, by omega⟩, Option.bind_some, ap_one (by omega), Option.bind_some, w_succ (by omega), List.getElem_range]; rfl) (by rw [List.length_range]; omega)
  rw [List.length_range] at lp
  refine lp.trans ?_
  rw [scheme_Fresh.l0_eq, if_neg (nlt _), wrap_in (by omega) (by omega)]
  show Option.bind (kind_Put s.Type_ s.Params (fl n s.Params.length)) _ = _
  rw [(put_all (ps := s.Params) (us := fl n s.Params.length) (U := 1048576) (by omega) (by unfold fl; rw [List.length_map, List.length_range]; omega) (by decide) (Nat.le_refl _) (fl_ok h0 h1 (by omega)) _ s.Type_ (Nat.le_refl _) (by omega) qs).1]; rfl
theorem Rest_val (x : Int) (hx : i64 x) : ∃ n, roadref2_Rest x 1000000 = some n ∧ 0 ≤ n ∧ n < 1000000 := by
  unfold roadref2_Rest
  rw [if_pos (by decide)]
  have h1 := Int.tmod_lt_of_pos x (show (0 : Int) < 1000000 by decide)
  have h2 := Int.lt_tmod_of_pos x (show (0 : Int) < 1000000 by decide)
  by_cases h : Int.tmod x 1000000 < 0
  · rw [if_pos h, wrap_in (by omega) (by omega)]; exact ⟨_, rfl, by omega, by omega⟩
  · rw [if_neg h]; exact ⟨_, rfl, by omega, by omega⟩
theorem seven : itoaB 7 = ByteArray.mk #[55] := by decide +kernel
section
variable {s : Sch} {t : Ty} {l : List Ty} (hs : s.bulk ≤ 1048576) (qs : s.Type_.Q) (ht : t.bulk ≤ 1048576) (qt : t.Q) (hl : (l.map T_api_Type.bulk).sum ≤ 1048576) (ql : ∀ u ∈ l, u.Q)
include hs qs ht qt
theorem tail_val {n : Int} (h0 : 0 ≤ n) (h1 : n < 1000000) : roadlaw2_SchemeSays.l3 n s t (puL s.Params (fl n s.Params.length) s.Type_) (n + (s.Params.length : Int)) [] (s.Params.length : Int) 0 = some true := by
  have hp := sch_par s
  have e63 : (ByteArray.mk #[63]).size = 1 := rfl
  have lp := map_loop (l := List.range s.Params.length) (F := fun o i => roadlaw2_SchemeSays.l3 n s t (puL s.Params (fl n s.Params.length) s.Type_) (n + (s.Params.length : Int)) o (s.Params.length : Int) i) (f := fv n) (B := 2000000) (fun o i hi hs => by
    rw [List.length_range] at hi
    have hi64 : i64 (n + (i : Int)) := ⟨by omega, by omega⟩
    have := itoa_size hi64
    rw [roadlaw2_SchemeSays.l3_eq, if_pos (by omega), wrap_in (by omega) (by omega), itoa_val hi64, Option.bind_some, if_pos (by omega), ap_one (by omega), Option.bind_some, w_succ (by omega), List.getElem_range]; rfl) (by rw [List.length_range]; omega)
  rw [List.length_range] at lp
  refine lp.trans ?_
  have pa := put_all (ps := s.Params) (us := fl n s.Params.length) (U := 1048576) (by omega) (by unfold fl; rw [List.length_map, List.length_range]; omega) (by decide) (Nat.le_refl _) (fl_ok h0 h1 (by omega)) _ s.Type_ (Nat.le_refl _) (by omega) qs
  have hbig : (puL s.Params (fl n s.Params.length) s.Type_).bulk ≤ 2000000000000 := by
    have := pa.2.2.2
    have h4 : s.Type_.bulk * 1048576 ≤ 1048576 * 1048576 := Nat.mul_le_mul_right _ (by omega)
    omega
  have tm := (type_mark _ _ (Nat.le_refl _) hbig pa.2.2.1).1
  rw [roadlaw2_SchemeSays.l3_eq, if_neg (nlt _), wrap_in (by omega) (by omega), if_pos rfl, tm, Option.bind_some]
  show Option.bind (roadref2_Swap s.Type_ s.Params (fl n s.Params.length)) _ = _
  rw [pa.2.1, Option.bind_some, tm, Option.bind_some, if_pos rfl, Name_val ⟨by decide, by decide⟩, Option.bind_some, seven, if_pos (by decide +kernel)]
  obtain ⟨r, r1, r2⟩ := More_val (y := s) (b := t) (by omega) (by omega) ⟨by omega, qt⟩
  obtain ⟨r', r1', r2'⟩ := Fitting_val (ps := s.Params) (a := s.Type_) (b := t) (by omega) (by omega) ⟨by omega, qt⟩
  rw [r1, Option.bind_some, r1', Option.bind_some]
  have : r = r' := by
    have := r2.trans r2'.symm
    cases r <;> cases r' <;> simp at this ⊢
  rw [this]; simp
include hl ql
theorem j0_val {x : Int} (hx : i64 x) : roadlaw2_SchemeSays.j0 l x s t = some true := by
  have hp := sch_par s
  have j1 : roadlaw2_SchemeSays.j1 x s t = some true := by
    unfold roadlaw2_SchemeSays.j1
    obtain ⟨n, n1, n2, n3⟩ := Rest_val x hx
    rw [n1, Option.bind_some, Fresh_val hs qs n2 n3, Option.bind_some]
    exact tail_val hs qs ht qt n2 n3
  unfold roadlaw2_SchemeSays.j0 scheme_Instance
  have hll : l.length ≤ (l.map T_api_Type.bulk).sum := len_le_sum fun u _ => tbulk_pos u
  by_cases c : ((l.length : Nat) : Int) = ((s.Params.length : Nat) : Int)
  · rw [if_pos c]
    have pa := put_all (ps := s.Params) (us := l) (U := 1048576) (by omega) (by omega) (by decide) (Nat.le_refl _) (fun u hu => ⟨by have := le_sum (f := T_api_Type.bulk) hu; omega, ql u hu⟩) _ s.Type_ (Nat.le_refl _) (by omega) qs
    have hbig : (puL s.Params l s.Type_).bulk ≤ 2000000000000 := by
      have := pa.2.2.2
      have h4 : s.Type_.bulk * 1048576 ≤ 1048576 * 1048576 := Nat.mul_le_mul_right _ (by omega)
      omega
    have tm := (type_mark _ _ (Nat.le_refl _) hbig pa.2.2.1).1
    rw [pa.1, Option.bind_some, Option.bind_some, if_pos c, if_pos rfl, tm, Option.bind_some, pa.2.1, Option.bind_some, tm, Option.bind_some, if_pos rfl]
    exact j1
  · rw [if_neg c, Option.bind_some, if_neg c, if_pos rfl]
    obtain ⟨m, hm⟩ : ∃ m, roadref2_TypeMark (T_api_Type.mk 0 (ByteArray.mk #[]) ([] : List T_api_Type)) = some m := ⟨_, (type_mark 100 _ (by rw [tbulk]; decide) (by decide) (by rw [T_api_Type.Q_iff]; exact ⟨by decide, by decide, by decide, fun a h => by cases h⟩)).1⟩
    rw [hm, Option.bind_some, Option.bind_some, if_pos rfl]
    exact j1
end
theorem SchemeSays (s : T_scheme_Scheme) (env : List T_scheme_Scheme) (t : T_api_Type) (l : List T_api_Type) (x : Int) (q : s.Q) (qe : env.length * 72 ≤ 140737488351232 ∧ ∀ z ∈ env, T_scheme_Scheme.Q z) (qt : t.Q) (ql : l.length * 48 ≤ 140737488351232 ∧ ∀ z ∈ l, T_api_Type.Q z) (hx : -9223372036854775808 ≤ x ∧ x ≤ 9223372036854775807) (hb : s.bulk + ((env.map T_scheme_Scheme.bulk).sum + 1) + t.bulk + ((l.map T_api_Type.bulk).sum + 1) + 1 ≤ 1048576) : roadlaw2_SchemeSays s env t l x = some true := by
  have h1 := frE_len env
  have h2 := env_len env
  have h3 := frE_sum env
  have hu := un_len t
  unfold roadlaw2_SchemeSays
  refine (app_loop (l := env) (F := fun a i => roadlaw2_SchemeSays.l0 env l x s t a env (env.length : Int) i) (T := frS) (B := 1048576) (fun a i hi hs => by
    have hz := le_sum (f := T_scheme_Scheme.bulk) (List.getElem_mem hi)
    have hp := sch_par env[i]
    have hun := un_len env[i].Type_
    have hfl := frS_len env[i]
    rw [roadlaw2_SchemeSays.l0_eq, if_pos (by omega), gi_at hi, Option.bind_some, UnknownsOf_val (by omega), Option.bind_some]
    refine (fr_loop (ps := env[i].Params) (l := un env[i].Type_) (F := fun o k => roadlaw2_SchemeSays.l2 env l x s t a env[i] o env (env.length : Int) (i : Int) (un env[i].Type_) ((un env[i].Type_).length : Int) k) (by omega) (by omega) (fun o k hk hm => by
      rw [roadlaw2_SchemeSays.l2_eq, if_pos (by omega), gi_at hk, Option.bind_some, has_val _ (by omega), Option.bind_some, decide_eq_true hm, if_pos rfl, w_succ (by omega)]) (fun o k hk ho hm => by
      rw [roadlaw2_SchemeSays.l2_eq, if_pos (by omega), gi_at hk, Option.bind_some, has_val _ (by omega), Option.bind_some, decide_eq_false hm, if_neg (by decide), ap_one (by omega), Option.bind_some, w_succ (by omega)])).trans ?_
    rw [roadlaw2_SchemeSays.l2_eq, if_neg (nlt _), Free_val (by omega), Option.bind_some]
    show Option.bind (slices_Equal_7 (frS env[i]) (frS env[i])) _ = _
    rw [eq_self (by omega), Option.bind_some, if_pos rfl]
    show Option.bind (ap 16 a (frS env[i])) _ = _
    rw [ap_of (by omega), Option.bind_some, w_succ (by omega)]) [] (by rw [List.length_nil, Nat.zero_add]; exact Nat.le_trans h3 (by omega))).trans ?_
  have tm := (type_mark _ t (Nat.le_refl _) (by omega) qt).1
  rw [roadlaw2_SchemeSays.l0_eq, if_neg (nlt _), Close_val (env := env) (t := t) (by omega) (by omega), Option.bind_some, UnknownsOf_val (t := t) (by omega), Option.bind_some, List.nil_append]
  refine (fr_loop (ps := frE env) (l := un t) (F := fun o k => roadlaw2_SchemeSays.l1 l x s t (frE env) (T_scheme_Scheme.mk (fr (frE env) (un t)) t) o (un t) ((un t).length : Int) k) (by omega) (by omega) (fun o k hk hm => by
    rw [roadlaw2_SchemeSays.l1_eq, if_pos (by omega), gi_at hk, Option.bind_some, has_val _ (by omega), Option.bind_some, decide_eq_true hm, if_pos rfl, w_succ (by omega)]) (fun o k hk ho hm => by
    rw [roadlaw2_SchemeSays.l1_eq, if_pos (by omega), gi_at hk, Option.bind_some, has_val _ (by omega), Option.bind_some, decide_eq_false hm, if_neg (by decide), ap_one (by omega), Option.bind_some, w_succ (by omega)])).trans ?_
  have hfl := fr_len (frE env) (un t)
  rw [roadlaw2_SchemeSays.l1_eq, if_neg (nlt _), eq_self (l := fr (frE env) (un t)) (by omega), Option.bind_some, if_pos rfl, tm, Option.bind_some, Option.bind_some, if_pos rfl, Plain_val (t := t) (by omega), Option.bind_some, tm, Option.bind_some, Option.bind_some, if_pos rfl, Option.bind_some]
  rw [if_neg (show ¬ ((((T_scheme_Scheme.mk [] t).Params.length : Nat) : Int) > 0) from (by decide : ¬ ((0 : Int) > 0)))]
  exact j0_val (by omega) q.2 (by omega) qt (by omega) ql.2 hx
end Go.Proofs.YtdlihfedhojdgaaDoor.Fw

end
section
namespace Go.Proofs.YtdlihfedhojdgaaDoor.schemeSays
open Go Go.Hw Go.ChangeShapes Go.WideShapes Go.ChangeAt Go.RowKit Go.Proofs.YtdlihfedhojdgaaDoor.Fw
open Go.ChangeMaps (open_string shut_string)
set_option linter.unusedVariables false
theorem own : ownKnob Tryd.prog.godebug = none := by kernel_rfl
theorem laidOut : laidOutB Tryd.prog = true := by kernel_rfl
theorem bulkAll {H : Type} : ∀ l : List (DataW H), Rows.uptoBulkAll l = (l.map Rows.uptoBulk).sum
  | [] => rfl
  | d :: r => by rw [Rows.uptoBulkAll, List.map_cons, List.sum_cons, bulkAll r]
theorem measure {H : Type} : Measure (Rows.uptoBulk (H := H)) where
  pos d := by
    cases d with
    | lit l => cases l <;> simp [Rows.uptoBulk]
    | _ => simp [Rows.uptoBulk]
  str b := by simp [Rows.uptoBulk]
  slice e s := by rw [Rows.uptoBulk, bulkAll]; omega
  agg ps := by rw [Rows.uptoBulk, bulkAll]; omega
theorem gTab : Tryd.prog.globalNamed "internal/strconv.uint64pow10" = some 0 := by kernel_rfl
theorem gTabType : (Tryd.prog.globals[0]?).map (·.type) = some 135 := by kernel_rfl
theorem table {W : World} (h : laidMetH Tryd.prog Rows.schemeSaysUptoRow.laid W) : Lib.TabIs Tryd.prog W "internal/strconv.uint64pow10" .u64 Lib.pow10Tab :=
  Lib.tabIs_of_head (rest := []) gTab gTabType (show Tryd.prog.underlying 135 = some (.array 20 124) by kernel_rfl) (show Tryd.prog.underlying 124 = some (.int .u64) by kernel_rfl) (by kernel_rfl) (by kernel_rfl) (laidMet.tail (laidMet.tail (show laidMet Tryd.prog Rows.schemeSaysUptoRow.laid W from h)))
noncomputable def laidHeap (os : Os) : Array Obj :=
  ((((World.holding Tryd.prog os ⟨#[], #[], []⟩).heap).modify 1 (fun
      | .cells _ t frozen => .cells #[(.int .u8 0), (.int .u8 1), (.int .u8 28), (.int .u8 2), (.int .u8 29), (.int .u8 14), (.int .u8 24), (.int .u8 3), (.int .u8 30), (.int .u8 22), (.int .u8 20), (.int .u8 15), (.int .u8 25), (.int .u8 17), (.int .u8 4), (.int .u8 8), (.int .u8 31), (.int .u8 27), (.int .u8 13), (.int .u8 23), (.int .u8 21), (.int .u8 19), (.int .u8 16), (.int .u8 7), (.int .u8 26), (.int .u8 12), (.int .u8 18), (.int .u8 6), (.int .u8 11), (.int .u8 5), (.int .u8 10), (.int .u8 9)] t frozen
      | o => o)).modify 2 (fun
      | .cells _ t frozen => .cells #[(.int .u8 0), (.int .u8 1), (.int .u8 56), (.int .u8 2), (.int .u8 57), (.int .u8 49), (.int .u8 28), (.int .u8 3), (.int .u8 61), (.int .u8 58), (.int .u8 42), (.int .u8 50), (.int .u8 38), (.int .u8 29), (.int .u8 17), (.int .u8 4), (.int .u8 62), (.int .u8 47), (.int .u8 59), (.int .u8 36), (.int .u8 45), (.int .u8 43), (.int .u8 51), (.int .u8 22), (.int .u8 53), (.int .u8 39), (.int .u8 33), (.int .u8 30), (.int .u8 24), (.int .u8 18), (.int .u8 12), (.int .u8 5), (.int .u8 63), (.int .u8 55), (.int .u8 48), (.int .u8 27), (.int .u8 60), (.int .u8 41), (.int .u8 37), (.int .u8 16), (.int .u8 46), (.int .u8 35), (.int .u8 44), (.int .u8 21), (.int .u8 52), (.int .u8 32), (.int .u8 23), (.int .u8 11), (.int .u8 54), (.int .u8 26), (.int .u8 40), (.int .u8 15), (.int .u8 34), (.int .u8 20), (.int .u8 31), (.int .u8 10), (.int .u8 25), (.int .u8 14), (.int .u8 19), (.int .u8 9), (.int .u8 13), (.int .u8 8), (.int .u8 7), (.int .u8 6)] t frozen
      | o => o)).modify 0 (fun
      | .cells _ t frozen => .cells #[(.int .u64 1), (.int .u64 10), (.int .u64 100), (.int .u64 1000), (.int .u64 10000), (.int .u64 100000), (.int .u64 1000000), (.int .u64 10000000), (.int .u64 100000000), (.int .u64 1000000000), (.int .u64 10000000000), (.int .u64 100000000000), (.int .u64 1000000000000), (.int .u64 10000000000000), (.int .u64 100000000000000), (.int .u64 1000000000000000), (.int .u64 10000000000000000), (.int .u64 100000000000000000), (.int .u64 1000000000000000000), (.int .u64 10000000000000000000)] t frozen
      | o => o)
noncomputable def laidWorld (os : Os) : World :=
  { World.holding Tryd.prog os ⟨#[], #[], []⟩ with heap := laidHeap os }
theorem laid_met (os : Os) : laidMet Tryd.prog Rows.schemeSaysUptoRow.laid ((laidWorld os).forCall (fun _ _ => 0) ⟨#[], #[(.agg #[(.slice none 0 0), (.int .i64 (0 : Int)), (.string (ByteArray.mk #[])), (.slice none 0 0)]), (.slice none 0 0), (.agg #[(.int .i64 (0 : Int)), (.string (ByteArray.mk #[])), (.slice none 0 0)]), (.slice none 0 0), (.int .i64 (0 : Int))], []⟩).memory :=
  laidMet_of_run' 8 (by kernel_rfl) (by kernel_rfl)
theorem reads (os : Os) {H : Type} (enc : TypeId × Value → H) : ∃ places, DataW.whole enc Tryd.prog ((laidWorld os).forCall (fun _ _ => 0) ⟨#[], #[(.agg #[(.slice none 0 0), (.int .i64 (0 : Int)), (.string (ByteArray.mk #[])), (.slice none 0 0)]), (.slice none 0 0), (.agg #[(.int .i64 (0 : Int)), (.string (ByteArray.mk #[])), (.slice none 0 0)]), (.slice none 0 0), (.int .i64 (0 : Int))], []⟩).memory Tryd.f3.params.toList Rows.schemeSaysSpec.vars false (#[(.agg #[(.slice none 0 0), (.int .i64 (0 : Int)), (.string (ByteArray.mk #[])), (.slice none 0 0)]), (.slice none 0 0), (.agg #[(.int .i64 (0 : Int)), (.string (ByteArray.mk #[])), (.slice none 0 0)]), (.slice none 0 0), (.int .i64 (0 : Int))] : Array Value).toList 8 = some ([DataW.agg [DataW.nil, DataW.agg [DataW.lit (.int .i64 0), DataW.lit (.string []), DataW.nil]], DataW.nil, DataW.agg [DataW.lit (.int .i64 0), DataW.lit (.string []), DataW.nil], DataW.nil, DataW.lit (.int .i64 0)], [], places) :=
  ⟨[], by kernel_rfl⟩
set_option maxRecDepth 100000 in
theorem lifted (os : Os) (started : os.Started) (H : Type) (enc : TypeId × Value → H) (F : Stop.Interp) :
    ReturnsInHanded {} Tryd.checked os 3 .any ((Rows.OpenSpec.upto Rows.schemeSaysSpec).preRow enc Tryd.prog Tryd.f3 Rows.schemeSaysUptoRow.domain false Rows.schemeSaysUptoRow.laid) (((Rows.OpenSpec.upto Rows.schemeSaysSpec).at F).post enc Tryd.prog Tryd.f3 false true false false) := by
  obtain ⟨places, hx⟩ := reads os enc
  refine returnsInHanded_of_row (C := Tryd.checked) (s := (Rows.OpenSpec.upto Rows.schemeSaysSpec)) own started (by kernel_rfl) Tryd.func3
    (witness_row_at (enc := enc) (C := Tryd.checked) false (laidWorld os) #[(.agg #[(.slice none 0 0), (.int .i64 (0 : Int)), (.string (ByteArray.mk #[])), (.slice none 0 0)]), (.slice none 0 0), (.agg #[(.int .i64 (0 : Int)), (.string (ByteArray.mk #[])), (.slice none 0 0)]), (.slice none 0 0), (.int .i64 (0 : Int))] rfl (by kernel_rfl) (by kernel_rfl) (by kernel_rfl)
      (OpenSpec.preRow_of_cond 8 hx (by kernel_rfl) (fun k hk => by cases hk; kernel_rfl) (by kernel_rfl) (laid_met os))) ?_
  intro W base args ds gs before hval0 hW hcnd hkk0 hsz0 hL _ _
  have hkk : Rows.uptoSmall H (ds ++ gs) = true := hkk0 _ rfl
  have hsz : (DataW.weightsEach Tryd.prog (Tryd.f3.params.toList ++ (Rows.OpenSpec.upto Rows.schemeSaysSpec).bare.plain.varTypes Tryd.prog) (ds ++ gs)).all (· ≤ reachBytes) = true := hsz0
  have hval : ∀ (j : Nat) t v, Tryd.f3.params[j]? = some t → args[j]? = some v → Value.okWide Tryd.prog W .any base t v := hval0
  have hW' := hW
  obtain ⟨p, q, hA0, hV, rfl, hfz, hnd⟩ := hW
  have hA : DataW.TrodAll enc Tryd.prog W 0 (fun _ => true) true Tryd.f3.params.toList args.toList ds p := hA0
  rw [Tryd.params3] at hA hval hsz
  obtain ⟨v0, vs0, d0, ds0, p0, q0_, hargs, rfl, rfl, h0, r0_⟩ := trodAll_cons hA
  obtain ⟨v1, vs1, d1, ds1, p1, q1_, rfl, rfl, rfl, h1, r1_⟩ := trodAll_cons r0_
  obtain ⟨v2, vs2, d2, ds2, p2, q2_, rfl, rfl, rfl, h2, r2_⟩ := trodAll_cons r1_
  obtain ⟨v3, vs3, d3, ds3, p3, q3_, rfl, rfl, rfl, h3, r3_⟩ := trodAll_cons r2_
  obtain ⟨v4, vs4, d4, ds4, p4, q4_, rfl, rfl, rfl, h4, r4_⟩ := trodAll_cons r3_
  obtain ⟨rfl, rfl, rfl⟩ := trodAll_nil r4_
  obtain rfl : args = #[v0, v1, v2, v3, v4] := by cases args; simp_all
  obtain ⟨rfl, rfl⟩ := trodVars_none hV
  have hs : (DataW.weightsEach Tryd.prog [27, 28, 25, 23, 3] [d0, d1, d2, d3, d4]).all (· ≤ reachBytes) = true := hsz
  simp only [DataW.weightsEach, List.append_nil, List.all_append, Bool.and_eq_true] at hs
  obtain ⟨hw0, hw1, hw2, hw3, hw4⟩ := hs
  have k0 := h0
  have lt0 : ∀ x ∈ p0, x.block < W.heap.size := by obtain ⟨m, hm⟩ := k0; exact DataW.trod_lt m _ _ _ hm
  obtain ⟨cs0, rfl⟩ : ∃ cs : List Value, v0 = .agg cs.toArray := okWide_agg_of (show shapeOf Tryd.prog 27 = some [(22, 0), (25, 1)] by kernel_rfl) (hval 0 27 v0 rfl rfl)
  obtain ⟨fuel0, hf0⟩ := h0
  obtain ⟨x0, e0, q0⟩ := T_scheme_Scheme.tells fuel0 _ _ hf0 hw0
  have b0 := (T_scheme_Scheme.kt (N := fuel0 + 1) (enc := enc) (W := W) measure) fuel0 (Nat.lt_succ_self _) _ _ hf0 _ e0
  have e0 : T_scheme_Scheme.E W.heap x0 cs0 := by simpa [Value.cells] using e0
  have k1 := h1
  have lt1 : ∀ x ∈ p1, x.block < W.heap.size := by obtain ⟨m, hm⟩ := k1; exact DataW.trod_lt m _ _ _ hm
  obtain ⟨A1, n1, c1, rfl⟩ := okWide_slice (show Tryd.prog.underlying 28 = some (.slice 27) by kernel_rfl) (hval 1 28 v1 rfl rfl)
  obtain ⟨fuel1, hf1⟩ := h1
  obtain ⟨l1, E1, q1⟩ := (tells_sliceL (t := 28) (e := 27) (sz := 4) (B := 72) (by kernel_rfl) (by kernel_rfl) (by kernel_rfl) T_scheme_Scheme.tells) fuel1 _ _ hf1 hw1
  have b1 := (let M := measure (H := H); (kt_slice M (t := 28) (e := 27) (sz := 4) (by kernel_rfl) (by kernel_rfl) (T_scheme_Scheme.kt M)) : KT (fuel1 + 1) Rows.uptoBulk enc Tryd.prog W 28 (eRow 4 T_scheme_Scheme.E) (fun l : (List T_scheme_Scheme) => (List.map T_scheme_Scheme.bulk l).sum + 1)) fuel1 (Nat.lt_succ_self _) _ _ hf1 _ E1
  obtain ⟨A1', c1', hcs1, hle1, r1⟩ := E1
  simp only [Value.cells, List.cons.injEq, Value.slice.injEq, and_true] at hcs1
  obtain ⟨rfl, rfl, rfl⟩ := hcs1
  have k2 := h2
  have lt2 : ∀ x ∈ p2, x.block < W.heap.size := by obtain ⟨m, hm⟩ := k2; exact DataW.trod_lt m _ _ _ hm
  obtain ⟨cs2, rfl⟩ : ∃ cs : List Value, v2 = .agg cs.toArray := okWide_agg_of (show shapeOf Tryd.prog 25 = some [(3, 0), (9, 1), (23, 2)] by kernel_rfl) (hval 2 25 v2 rfl rfl)
  obtain ⟨fuel2, hf2⟩ := h2
  obtain ⟨x2, e2, q2⟩ := T_api_Type.tells fuel2 _ _ hf2 hw2
  have b2 := (T_api_Type.kt (N := fuel2 + 1) (enc := enc) (W := W) measure) fuel2 (Nat.lt_succ_self _) _ _ hf2 _ e2
  have e2 : T_api_Type.E W.heap x2 cs2 := by simpa [Value.cells] using e2
  have k3 := h3
  have lt3 : ∀ x ∈ p3, x.block < W.heap.size := by obtain ⟨m, hm⟩ := k3; exact DataW.trod_lt m _ _ _ hm
  obtain ⟨A3, n3, c3, rfl⟩ := okWide_slice (show Tryd.prog.underlying 23 = some (.slice 25) by kernel_rfl) (hval 3 23 v3 rfl rfl)
  obtain ⟨fuel3, hf3⟩ := h3
  obtain ⟨l3, E3, q3⟩ := (tells_sliceL (t := 23) (e := 25) (sz := 3) (B := 48) (by kernel_rfl) (by kernel_rfl) (by kernel_rfl) T_api_Type.tells) fuel3 _ _ hf3 hw3
  have b3 := (let M := measure (H := H); (kt_slice M (t := 23) (e := 25) (sz := 3) (by kernel_rfl) (by kernel_rfl) (T_api_Type.kt M)) : KT (fuel3 + 1) Rows.uptoBulk enc Tryd.prog W 23 (eRow 3 T_api_Type.E) (fun l : (List T_api_Type) => (List.map T_api_Type.bulk l).sum + 1)) fuel3 (Nat.lt_succ_self _) _ _ hf3 _ E3
  obtain ⟨A3', c3', hcs3, hle3, r3⟩ := E3
  simp only [Value.cells, List.cons.injEq, Value.slice.injEq, and_true] at hcs3
  obtain ⟨rfl, rfl, rfl⟩ := hcs3
  have k4 := h4
  have lt4 : ∀ x ∈ p4, x.block < W.heap.size := by obtain ⟨m, hm⟩ := k4; exact DataW.trod_lt m _ _ _ hm
  obtain ⟨a4, rfl, rfl, rfl, w4⟩ := open_int (show Tryd.prog.underlying 3 = some (.int .i64) by kernel_rfl) (hval 4 3 v4 rfl rfl) h4
  have hb : (T_scheme_Scheme.bulk x0) + ((fun l => (List.map T_scheme_Scheme.bulk l).sum + 1) l1) + (T_api_Type.bulk x2) + ((fun l => (List.map T_api_Type.bulk l).sum + 1) l3) + 1 ≤ 1048576 := by
    have hk : Rows.uptoBulkAll ([d0, d1, d2, d3, (DataW.lit (.int .i64 a4))] ++ []) ≤ 1048576 := of_decide_eq_true hkk
    have := b0
    have := b1
    have := b2
    have := b3
    have := (measure (H := H)).pos (DataW.lit (.int .i64 a4))
    simp only [List.append_nil, Rows.uptoBulkAll] at hk
    simp only at *
    omega
  refine ((Run.mono (R' := fun v h' => v = Value.bool true ∧ Ext W.heap h') (Fw.roadlaw2_SchemeSays.walk (W := No) (Hold.start (Sub.refl _)) e0 rfl hle1 r1 e2 rfl hle3 r3 (TBg.of gTab (table hL)) (Fw.SchemeSays x0 l1 x2 l3 a4 q0 q1 q2 q3 (wf_i64 w4) hb)) (fun v h' hp => by obtain ⟨m', st, hv⟩ := hp; exact ⟨hv, st.S.ext⟩)) W rfl).mono fun e W' he => ?_
  obtain ⟨v, rfl, ⟨rfl, ext⟩, same⟩ := he
  have bel := below_of ext same
  exact ⟨_, rfl, _, _, _, [], _, [], hW', trodAll_mk1 (shut_bool (show Tryd.prog.underlying 4 = some .bool by kernel_rfl) _), (trodAll_cons_mk (Below.trod laidOut (by kernel_rfl) (of_decide_eq_true (by kernel_rfl)) k0 bel lt0) (trodAll_cons_mk (Below.trod laidOut (by kernel_rfl) (of_decide_eq_true (by kernel_rfl)) k1 bel lt1) (trodAll_cons_mk (Below.trod laidOut (by kernel_rfl) (of_decide_eq_true (by kernel_rfl)) k2 bel lt2) (trodAll_cons_mk (Below.trod laidOut (by kernel_rfl) (of_decide_eq_true (by kernel_rfl)) k3 bel lt3) (trodAll_cons_mk (Below.trod laidOut (by kernel_rfl) (of_decide_eq_true (by kernel_rfl)) k4 bel lt4) trodAll_mk0))))), rfl, bel.frame _, fun h => by cases h⟩
theorem over : Rows.schemeSaysUptoRow.holds Tryd.pinned (Rows.OpenSpec.upto Rows.schemeSaysSpec) :=
  OpenClaim.holds_of_cond 3 Tryd.f3 rfl rfl rfl rfl rfl rfl rfl ⟨rfl, rfl, rfl, rfl, rfl⟩ rfl rfl rfl rfl rfl (by kernel_rfl) Tryd.func3 (by kernel_rfl)
    (of_decide_eq_true (by kernel_rfl)) (by unfold Func.isWrapper; first | (rw [if_pos (by decide +kernel)]; kernel_rfl) | (rw [if_neg (by decide +kernel)]; exact ⟨rfl, rfl⟩))
    (fun os started H enc _ F => by rw [OpenClaim.pre_eq_preRow]; exact lifted os started H enc F)
theorem plain (f : FuncId) (fn : Func) (hf : Tryd.pinned.checked.prog.funcNamed "roadstead/roadlaw2.SchemeSays" = some f) (hfn : Tryd.pinned.checked.prog.funcs[f]? = some fn) :
    false = Tryd.pinned.checked.prog.looks [] ∧ ∀ (j : Nat) t, fn.params[j]? = some t → Tryd.pinned.checked.prog.wantsStandIn t = false := by
  obtain rfl : f = 3 := Option.some.inj ((show Tryd.prog.funcNamed "roadstead/roadlaw2.SchemeSays" = some 3 by kernel_rfl).symm.trans hf) |>.symm
  obtain rfl : fn = Tryd.f3 := (Option.some.inj (Tryd.func3.symm.trans hfn)).symm
  refine ⟨by kernel_rfl, fun j t ht => ?_⟩
  rw [Tryd.params3] at ht
  have hm : t ∈ [27, 28, 25, 23, 3] := by simpa using Array.mem_of_getElem? ht
  have hall : ([27, 28, 25, 23, 3].all fun u => !Tryd.prog.wantsStandIn u) = true := by kernel_rfl
  exact (show Tryd.prog.wantsStandIn t = false by simpa using List.all_eq_true.1 hall t hm)
end Go.Proofs.YtdlihfedhojdgaaDoor.schemeSays
namespace Go.Proofs.YtdlihfedhojdgaaDoor
theorem schemeSays_holds : Rows.SchemeSaysUptoCardSaid :=
  Claim7.holds_tied_plain_at .later [] _ _ _ _ schemeSays.over (fun _ h => by cases h) (by kernel_rfl) (fun _ h => by cases h) schemeSaysUpto_row_tie rfl ⟨rfl, rfl⟩ (by kernel_rfl) rfl schemeSays.plain (by kernel_rfl)
end Go.Proofs.YtdlihfedhojdgaaDoor

end
