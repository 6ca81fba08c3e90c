/- Last part: what the law ExcerptSays needs, put together out of texts of this session. -/
import Derived.Lib.ItoaLen
import Derived.Test.YtnlocljmalhddaaDoorRows
import Derived.WalkKit
import Derived.ProofKit
import Derived.OpenShut
import Derived.Deep.DeepHandedRow
import Derived.Lib.LaidTab
import Derived.Stop.LaidErr
import Derived.Test.YtnlocljmalhddaaDoorCards
import Derived.Test.YtnlocljmalhddaaDoorTie
import Derived.JoinedCond
import Derived.Deep.CondSized
import Derived.Test.YtnlocljmalhddaaDoorZExcerptSaysc
section
namespace Go.Proofs.YtnlocljmalhddaaDoor.Fw
open Go Go.Hw Go.Proofs
set_option linter.unusedVariables false
set_option synthInstance.maxHeartbeats 400000
set_option synthInstance.maxSize 1000
def roadref2_Mark.post (W : Nat → Prop) (h0 m0 : Heap) (r : ByteArray) (v : Value) (h : Heap) : Prop := ∃ m , Hold W h0 m0 h m [] ∧ v = .string r
inductive roadref2_Mark.l4_k.Pt where
  | l4 (s_3 : ByteArray) (a_147 : List T_api_Actor) (x_148 : Int) (x_149 : Int)
noncomputable def roadref2_Mark.l4_k.body (go : (p : roadref2_Mark.l4_k.Pt) → Option (ByteArray)) : (p : roadref2_Mark.l4_k.Pt) → Option (ByteArray)
  | .l4 s_3 a_147 x_148 x_149 => if x_149 < x_148 then (Option.bind (gi a_147 x_149) fun y1 => Option.bind (roadref2_texts ([y1.Name] : List ByteArray)) fun y29 => Option.bind (roadref2_namesMark y1.Names) fun y44 => if ByteArray.size y29 + ByteArray.size y44 ≤ 9223372036854775807 then (Option.bind (roadref2_typesMark y1.Types) fun y52 => if ByteArray.size (y29 ++ y44) + ByteArray.size y52 ≤ 9223372036854775807 then (Option.bind (roadref2_TypeMark y1.Msg) fun y60 => if ByteArray.size ((y29 ++ y44) ++ y52) + ByteArray.size y60 ≤ 9223372036854775807 then (Option.bind (roadref2_ExprMark y1.Body) fun y68 => if ByteArray.size (((y29 ++ y44) ++ y52) ++ y60) + ByteArray.size y68 ≤ 9223372036854775807 then (if ByteArray.size s_3 + ByteArray.size ((((y29 ++ y44) ++ y52) ++ y60) ++ y68) ≤ 9223372036854775807 then ((go (.l4 (s_3 ++ ((((y29 ++ y44) ++ y52) ++ y60) ++ y68)) a_147 x_148 (IntKind.wrap .i64 (x_149 + (1 : Int)))))) else none) else none) else none) else none) else none) else (some (s_3))
theorem roadref2_Mark.l4_k.mono : MonoF (β := fun _ => (ByteArray)) roadref2_Mark.l4_k.body := fun f g hfg p => match p with
  | .l4 s_3 a_147 x_148 x_149 => LeO.ite (LeO.bind (LeO.refl _) fun y1 => LeO.bind (LeO.refl _) fun y29 => LeO.bind (LeO.refl _) fun y44 => LeO.ite (LeO.bind (LeO.refl _) fun y52 => LeO.ite (LeO.bind (LeO.refl _) fun y60 => LeO.ite (LeO.bind (LeO.refl _) fun y68 => LeO.ite (LeO.ite ((hfg _)) (LeO.refl _)) (LeO.refl _)) (LeO.refl _)) (LeO.refl _)) (LeO.refl _)) (LeO.refl _)
noncomputable def roadref2_Mark.l4_k.go (p : roadref2_Mark.l4_k.Pt) : Option (ByteArray) := fixF (β := fun _ => (ByteArray)) roadref2_Mark.l4_k.body p
noncomputable def roadref2_Mark.l4 (s_3 : ByteArray) (a_147 : List T_api_Actor) (x_148 : Int) (x_149 : Int) : Option (ByteArray) := roadref2_Mark.l4_k.go (.l4 s_3 a_147 x_148 x_149)
theorem roadref2_Mark.l4_eq (s_3 : ByteArray) (a_147 : List T_api_Actor) (x_148 : Int) (x_149 : Int) : roadref2_Mark.l4 s_3 a_147 x_148 x_149 = if x_149 < x_148 then (Option.bind (gi a_147 x_149) fun y1 => Option.bind (roadref2_texts ([y1.Name] : List ByteArray)) fun y29 => Option.bind (roadref2_namesMark y1.Names) fun y44 => if ByteArray.size y29 + ByteArray.size y44 ≤ 9223372036854775807 then (Option.bind (roadref2_typesMark y1.Types) fun y52 => if ByteArray.size (y29 ++ y44) + ByteArray.size y52 ≤ 9223372036854775807 then (Option.bind (roadref2_TypeMark y1.Msg) fun y60 => if ByteArray.size ((y29 ++ y44) ++ y52) + ByteArray.size y60 ≤ 9223372036854775807 then (Option.bind (roadref2_ExprMark y1.Body) fun y68 => if ByteArray.size (((y29 ++ y44) ++ y52) ++ y60) + ByteArray.size y68 ≤ 9223372036854775807 then (if ByteArray.size s_3 + ByteArray.size ((((y29 ++ y44) ++ y52) ++ y60) ++ y68) ≤ 9223372036854775807 then ((roadref2_Mark.l4 (s_3 ++ ((((y29 ++ y44) ++ y52) ++ y60) ++ y68)) a_147 x_148 (IntKind.wrap .i64 (x_149 + (1 : Int))))) else none) else none) else none) else none) else none) else (some (s_3)) := fixF_eq roadref2_Mark.l4_k.mono _
def roadref2_Mark.l4_k.I : (p : roadref2_Mark.l4_k.Pt) → (ByteArray) → Prop
  | .l4 s_3 a_147 x_148 x_149, r => ∀ (W : Nat → Prop) (h0 m0 h m : Heap) (A_147 : Option Addr) (n_147 c_147 : Nat) (O : Hold W h0 m0 h m []) (ne_147 : n_147 = List.length a_147) (k_147 : List.length a_147 ≤ c_147) (r_147 : Rd 14 T_api_Actor.E m A_147 a_147) (tab : TB m), f6.l4 (roadref2_Mark.post W h0 m0 r) s_3 A_147 n_147 c_147 x_148 x_149 h
set_option maxHeartbeats 4000000 in
set_option maxRecDepth 100000 in
theorem roadref2_Mark.l4_k.step_l4 (go : (p : roadref2_Mark.l4_k.Pt) → Option (ByteArray)) (ih : ∀ p r, go p = some r → roadref2_Mark.l4_k.I p r) (s_3 : ByteArray) (a_147 : List T_api_Actor) (x_148 : Int) (x_149 : Int) (r : ByteArray) (e : roadref2_Mark.l4_k.body go (.l4 s_3 a_147 x_148 x_149) = some r) : roadref2_Mark.l4_k.I (.l4 s_3 a_147 x_148 x_149) r := by
  unfold roadref2_Mark.l4_k.body at e
  intro W h0 m0 h m A_147 n_147 c_147 O ne_147 k_147 r_147 tab
  subst ne_147
  refine f6.l4_in ?_
  unfold f6.l4T
  refine split_dec_e e (fun c77 e => ?_) (fun c77 e => ?_)
  · obtain ⟨y1, g2, e⟩ := bind_e e
    refine r_147.addr rfl g2 fun a3 cs4 ha5 hc6 he7 => ?_
    refine ⟨_, ldAn O.s hc6 rfl, ?_⟩
    refine O.new fun h8 x9 O10 => ?_
    refine ⟨_, rfl, (T_api_Actor.T.len _ _ _ he7), ?_⟩
    refine O10.stA 0 rfl (T_api_Actor.T.len _ _ _ he7) (T_api_Actor.T.flat _ _ _ he7) fun h12 O13 => ?_
    refine ⟨_, ld0 (Sub.refl _) (O13.all 0 rfl) (T_api_Actor.g0 he7), _, rfl, ?_⟩
    obtain ⟨A14, c15, q16, k17, r18⟩ := T_api_Actor.g1 he7
    refine ⟨_, ldk (k := 1) (Sub.refl _) (O13.all 0 rfl) q16, _, _, _, rfl, ?_⟩
    obtain ⟨A19, c20, q21, k22, r23⟩ := T_api_Actor.g2 he7
    refine ⟨_, ldk (k := 2) (Sub.refl _) (O13.all 0 rfl) q21, _, _, _, rfl, ?_⟩
    refine ⟨_, ldAkn (Sub.refl _) (O13.all 0 rfl) 3 3 (le_len (T_api_Actor.T.len _ _ _ he7) (by decide)), ?_⟩
    refine ⟨_, ldAkn (Sub.refl _) (O13.all 0 rfl) 6 8 (le_len (T_api_Actor.T.len _ _ _ he7) (by decide)), ?_⟩
    refine O13.new fun h24 x25 O26 => ?_
    refine ⟨x25, ?_⟩
    obtain ⟨y29, g30, e⟩ := bind_e e
    have O28 := O26.rowE (l := ([y1.Name] : List ByteArray)) 1 rfl tell_str (show CsE _ _ _ _ _ from (CsE.cons (c1 := [(Value.string y1.Name)]) rfl rfl CsE.nil)) rfl
    have O35 := O28.nm
    obtain ⟨m36, u37, s42, ⟨⟨r40, k41⟩, _⟩, B38, C39⟩ := O35.lend0 [1]
    replace r40 : Rd 1 eStr m36 (some ⟨(Array.size h12), 0, none⟩) ([y1.Name] : List ByteArray) := r40
    replace k41 : List.length ([y1.Name] : List ByteArray) ≤ 1 := k41
    refine (roadref2_texts.walk (Hold.start (W := No) s42) rfl k41 r40 (TBg.sub tab u37) g30).mono ?_
    rintro _ h31 ⟨m32, Q33, rfl⟩
    have O43 := Hold.nm (C39 Q33 vfs_nil)
    refine ⟨_, rfl, ?_⟩
    refine ⟨Q33.S.ext, ?_⟩
    obtain ⟨y44, g45, e⟩ := bind_e e
    refine (roadref2_namesMark.walk (Hold.start (W := No) O43.s) rfl k17 r18 tab g45).mono ?_
    rintro _ h46 ⟨m47, Q48, rfl⟩
    have O50 := Hold.nm (O43.retC Q48 vfs_nil)
    refine ⟨_, rfl, ?_⟩
    refine ⟨Q48.S.ext, ?_⟩
    obtain ⟨g51, e⟩ := guard_e e
    refine ⟨g51, ?_⟩
    obtain ⟨y52, g53, e⟩ := bind_e e
    refine (roadref2_typesMark.walk (Hold.start (W := No) O50.s) rfl k22 r23 tab g53).mono ?_
    rintro _ h54 ⟨m55, Q56, rfl⟩
    have O58 := Hold.nm (O50.retC Q56 vfs_nil)
    refine ⟨_, rfl, ?_⟩
    refine ⟨Q56.S.ext, ?_⟩
    obtain ⟨g59, e⟩ := guard_e e
    refine ⟨g59, ?_⟩
    obtain ⟨y60, g61, e⟩ := bind_e e
    refine (roadref2_TypeMark.walk (Hold.start (W := No) O58.s) (T_api_Actor.u3_55 he7) tab g61).mono ?_
    rintro _ h62 ⟨m63, Q64, rfl⟩
    have O66 := Hold.nm (O58.retC Q64 vfs_nil)
    refine ⟨_, rfl, ?_⟩
    refine ⟨Q64.S.ext, ?_⟩
    obtain ⟨g67, e⟩ := guard_e e
    refine ⟨g67, ?_⟩
    obtain ⟨y68, g69, e⟩ := bind_e e
    refine (roadref2_ExprMark.walk (Hold.start (W := No) O66.s) (T_api_Actor.u6_59 he7) tab g69).mono ?_
    rintro _ h70 ⟨m71, Q72, rfl⟩
    have O74 := Hold.nm (O66.retC Q72 vfs_nil)
    refine ⟨_, rfl, ?_⟩
    obtain ⟨g75, e⟩ := guard_e e
    refine ⟨g75, ?_⟩
    obtain ⟨g76, e⟩ := guard_e e
    refine ⟨g76, ?_⟩
    exact (ih _ _ e) _ _ _ _ _ _ _ _ (O74.pick []).nm rfl k_147 r_147 tab
  · cases e
    exact ⟨_, O.pick [], rfl⟩
theorem roadref2_Mark.l4_k.all {p : roadref2_Mark.l4_k.Pt} {r : (ByteArray)} (e : roadref2_Mark.l4_k.go p = some r) : roadref2_Mark.l4_k.I p r := fixF_ind (β := fun _ => (ByteArray)) roadref2_Mark.l4_k.mono (I := roadref2_Mark.l4_k.I) (fun go ih p r e => match p with
  | .l4 s_3 a_147 x_148 x_149 => roadref2_Mark.l4_k.step_l4 go ih s_3 a_147 x_148 x_149 r e
  ) e
theorem roadref2_Mark.l4.walk {W : Nat → Prop} {h0 m0 h m : Heap} {A_147 : Option Addr} {n_147 c_147 : Nat} {s_3 : ByteArray} {a_147 : List T_api_Actor} {x_148 : Int} {x_149 : Int} (O : Hold W h0 m0 h m []) (ne_147 : n_147 = List.length a_147) (k_147 : List.length a_147 ≤ c_147) (r_147 : Rd 14 T_api_Actor.E m A_147 a_147) (tab : TB m) {r : ByteArray} (e : roadref2_Mark.l4 s_3 a_147 x_148 x_149 = some r) : f6.l4 (roadref2_Mark.post W h0 m0 r) s_3 A_147 n_147 c_147 x_148 x_149 h := roadref2_Mark.l4_k.all (p := .l4 s_3 a_147 x_148 x_149) e W h0 m0 h m A_147 n_147 c_147 O ne_147 k_147 r_147 tab
inductive roadref2_Mark.l3_k.Pt where
  | l3 (y_1 : T_api_Program) (s_3 : ByteArray) (a_122 : List T_api_Impl) (x_123 : Int) (x_124 : Int)
noncomputable def roadref2_Mark.l3_k.body (go : (p : roadref2_Mark.l3_k.Pt) → Option (ByteArray)) : (p : roadref2_Mark.l3_k.Pt) → Option (ByteArray)
  | .l3 y_1 s_3 a_122 x_123 x_124 => if x_124 < x_123 then (Option.bind (gi a_122 x_124) fun y1 => Option.bind (roadref2_texts ([y1.Trait, y1.For] : List ByteArray)) fun y19 => Option.bind (roadref2_funcsMark y1.Funcs) fun y39 => if ByteArray.size y19 + ByteArray.size y39 ≤ 9223372036854775807 then (if ByteArray.size s_3 + ByteArray.size (y19 ++ y39) ≤ 9223372036854775807 then ((go (.l3 y_1 (s_3 ++ (y19 ++ y39)) a_122 x_123 (IntKind.wrap .i64 (x_124 + (1 : Int)))))) else none) else none) else (Option.bind (roadref2_funcsMark y_1.Funcs) fun y151 => if ByteArray.size s_3 + ByteArray.size y151 ≤ 9223372036854775807 then ((roadref2_Mark.l4 (s_3 ++ y151) y_1.Actors (((List.length y_1.Actors) : Nat) : Int) (0 : Int))) else none)
theorem roadref2_Mark.l3_k.mono : MonoF (β := fun _ => (ByteArray)) roadref2_Mark.l3_k.body := fun f g hfg p => match p with
  | .l3 y_1 s_3 a_122 x_123 x_124 => LeO.ite (LeO.bind (LeO.refl _) fun y1 => LeO.bind (LeO.refl _) fun y19 => LeO.bind (LeO.refl _) fun y39 => LeO.ite (LeO.ite ((hfg _)) (LeO.refl _)) (LeO.refl _)) (LeO.bind (LeO.refl _) fun y151 => LeO.ite ((LeO.refl _)) (LeO.refl _))
noncomputable def roadref2_Mark.l3_k.go (p : roadref2_Mark.l3_k.Pt) : Option (ByteArray) := fixF (β := fun _ => (ByteArray)) roadref2_Mark.l3_k.body p
noncomputable def roadref2_Mark.l3 (y_1 : T_api_Program) (s_3 : ByteArray) (a_122 : List T_api_Impl) (x_123 : Int) (x_124 : Int) : Option (ByteArray) := roadref2_Mark.l3_k.go (.l3 y_1 s_3 a_122 x_123 x_124)
theorem roadref2_Mark.l3_eq (y_1 : T_api_Program) (s_3 : ByteArray) (a_122 : List T_api_Impl) (x_123 : Int) (x_124 : Int) : roadref2_Mark.l3 y_1 s_3 a_122 x_123 x_124 = if x_124 < x_123 then (Option.bind (gi a_122 x_124) fun y1 => Option.bind (roadref2_texts ([y1.Trait, y1.For] : List ByteArray)) fun y19 => Option.bind (roadref2_funcsMark y1.Funcs) fun y39 => if ByteArray.size y19 + ByteArray.size y39 ≤ 9223372036854775807 then (if ByteArray.size s_3 + ByteArray.size (y19 ++ y39) ≤ 9223372036854775807 then ((roadref2_Mark.l3 y_1 (s_3 ++ (y19 ++ y39)) a_122 x_123 (IntKind.wrap .i64 (x_124 + (1 : Int))))) else none) else none) else (Option.bind (roadref2_funcsMark y_1.Funcs) fun y151 => if ByteArray.size s_3 + ByteArray.size y151 ≤ 9223372036854775807 then ((roadref2_Mark.l4 (s_3 ++ y151) y_1.Actors (((List.length y_1.Actors) : Nat) : Int) (0 : Int))) else none) := fixF_eq roadref2_Mark.l3_k.mono _
def roadref2_Mark.l3_k.I : (p : roadref2_Mark.l3_k.Pt) → (ByteArray) → Prop
  | .l3 y_1 s_3 a_122 x_123 x_124, r => ∀ (W : Nat → Prop) (h0 m0 h m : Heap) (bk_1 : Nat) (cs_1 : List Value) (A_122 : Option Addr) (n_122 c_122 : Nat) (O : Hold W h0 m0 h m [rV bk_1 29 cs_1]) (e_1 : T_api_Program.E m y_1 cs_1) (ne_122 : n_122 = List.length a_122) (k_122 : List.length a_122 ≤ c_122) (r_122 : Rd 3 T_api_Impl.E m A_122 a_122) (tab : TB m), f6.l3 (roadref2_Mark.post W h0 m0 r) (⟨bk_1, 0, none⟩ : Addr) s_3 A_122 n_122 c_122 x_123 x_124 h
set_option maxHeartbeats 4000000 in
set_option maxRecDepth 100000 in
theorem roadref2_Mark.l3_k.step_l3 (go : (p : roadref2_Mark.l3_k.Pt) → Option (ByteArray)) (ih : ∀ p r, go p = some r → roadref2_Mark.l3_k.I p r) (y_1 : T_api_Program) (s_3 : ByteArray) (a_122 : List T_api_Impl) (x_123 : Int) (x_124 : Int) (r : ByteArray) (e : roadref2_Mark.l3_k.body go (.l3 y_1 s_3 a_122 x_123 x_124) = some r) : roadref2_Mark.l3_k.I (.l3 y_1 s_3 a_122 x_123 x_124) r := by
  unfold roadref2_Mark.l3_k.body at e
  intro W h0 m0 h m bk_1 cs_1 A_122 n_122 c_122 O e_1 ne_122 k_122 r_122 tab
  subst ne_122
  refine f6.l3_in ?_
  unfold f6.l3T
  refine split_dec_e e (fun c164 e => ?_) (fun c164 e => ?_)
  · obtain ⟨y1, g2, e⟩ := bind_e e
    refine r_122.addr rfl g2 fun a3 cs4 ha5 hc6 he7 => ?_
    refine ⟨_, ldAn O.s hc6 rfl, ?_⟩
    refine O.new fun h8 x9 O10 => ?_
    refine ⟨_, rfl, (T_api_Impl.T.len _ _ _ he7), ?_⟩
    refine O10.stA 1 rfl (T_api_Impl.T.len _ _ _ he7) (T_api_Impl.T.flat _ _ _ he7) fun h12 O13 => ?_
    refine ⟨_, ld0 (Sub.refl _) (O13.all 1 rfl) (T_api_Impl.g0 he7), _, rfl, ?_⟩
    refine ⟨_, ldk (k := 1) (Sub.refl _) (O13.all 1 rfl) (T_api_Impl.g1 he7), _, rfl, ?_⟩
    obtain ⟨y19, g20, e⟩ := bind_e e
    obtain ⟨y39, g40, e⟩ := bind_e e
    refine ⟨?_, ?_⟩
    · refine O13.new fun h48 x49 O50 => ?_
      refine ⟨?_, ?_⟩
      · have O52 := O50.rowE (l := ([y1.Trait, y1.For] : List ByteArray)) 2 rfl tell_str (show CsE _ _ _ _ _ from (CsE.cons (c1 := [(Value.string y1.Trait)]) rfl rfl (CsE.cons (c1 := [(Value.string y1.For)]) rfl rfl CsE.nil))) rfl
        have O59 := O52.nm
        obtain ⟨m60, u61, s66, ⟨⟨r64, k65⟩, _⟩, B62, C63⟩ := O59.lend0 [2]
        replace r64 : Rd 1 eStr m60 (some ⟨(Array.size h12), 0, none⟩) ([y1.Trait, y1.For] : List ByteArray) := r64
        replace k65 : List.length ([y1.Trait, y1.For] : List ByteArray) ≤ 2 := k65
        refine (roadref2_texts.walk (Hold.start (W := No) s66) rfl k65 r64 (TBg.sub tab u61) g20).mono ?_
        rintro _ h55 ⟨m56, Q57, rfl⟩
        have O67 := Hold.nm (C63 Q57 vfs_nil)
        refine ⟨_, rfl, ?_⟩
        obtain ⟨A68, c69, q70, k71, r72⟩ := T_api_Impl.g2 he7
        refine ⟨_, ldk (k := 2) (Sub.refl _) (O67.all 1 rfl) q70, _, _, _, rfl, ?_⟩
        refine ⟨Ext.refl _, ?_⟩
        refine (roadref2_funcsMark.walk (Hold.start (W := No) O67.s) rfl k71 r72 tab g40).mono ?_
        rintro _ h75 ⟨m76, Q77, rfl⟩
        have O79 := Hold.nm (O67.retC Q77 vfs_nil)
        refine ⟨_, rfl, ?_⟩
        obtain ⟨g80, e⟩ := guard_e e
        refine ⟨g80, ?_⟩
        obtain ⟨g81, e⟩ := guard_e e
        refine ⟨g81, ?_⟩
        exact (ih _ _ e) _ _ _ _ _ _ _ _ _ _ (O79.pick [0]).nm e_1 rfl k_122 r_122 tab
      · obtain ⟨A82, c83, q84, k85, r86⟩ := T_api_Impl.g2 he7
        refine ⟨_, ldk (k := 2) (Sub.refl _) (O50.all 1 rfl) q84, _, _, _, rfl, ?_⟩
        refine ⟨Ext.refl _, ?_⟩
        have O87 := O50.rowE (l := ([y1.Trait, y1.For] : List ByteArray)) 2 rfl tell_str (show CsE _ _ _ _ _ from (CsE.cons (c1 := [(Value.string y1.Trait)]) rfl rfl (CsE.cons (c1 := [(Value.string y1.For)]) rfl rfl CsE.nil))) rfl
        have O94 := O87.nm
        obtain ⟨m95, u96, s101, ⟨⟨r99, k100⟩, _⟩, B97, C98⟩ := O94.lend0 [2]
        replace r99 : Rd 1 eStr m95 (some ⟨(Array.size h12), 0, none⟩) ([y1.Trait, y1.For] : List ByteArray) := r99
        replace k100 : List.length ([y1.Trait, y1.For] : List ByteArray) ≤ 2 := k100
        refine (roadref2_texts.walk (Hold.start (W := No) s101) rfl k100 r99 (TBg.sub tab u96) g20).mono ?_
        rintro _ h90 ⟨m91, Q92, rfl⟩
        have O102 := Hold.nm (C98 Q92 vfs_nil)
        refine ⟨_, rfl, ?_⟩
        refine (roadref2_funcsMark.walk (Hold.start (W := No) O102.s) rfl k85 r86 tab g40).mono ?_
        rintro _ h105 ⟨m106, Q107, rfl⟩
        have O109 := Hold.nm (O102.retC Q107 vfs_nil)
        refine ⟨_, rfl, ?_⟩
        obtain ⟨g110, e⟩ := guard_e e
        refine ⟨g110, ?_⟩
        obtain ⟨g111, e⟩ := guard_e e
        refine ⟨g111, ?_⟩
        exact (ih _ _ e) _ _ _ _ _ _ _ _ _ _ (O109.pick [0]).nm e_1 rfl k_122 r_122 tab
    · obtain ⟨A112, c113, q114, k115, r116⟩ := T_api_Impl.g2 he7
      refine ⟨_, ldk (k := 2) (Sub.refl _) (O13.all 1 rfl) q114, _, _, _, rfl, ?_⟩
      refine ⟨Ext.refl _, ?_⟩
      refine O13.new fun h117 x118 O119 => ?_
      have O121 := O119.rowE (l := ([y1.Trait, y1.For] : List ByteArray)) 2 rfl tell_str (show CsE _ _ _ _ _ from (CsE.cons (c1 := [(Value.string y1.Trait)]) rfl rfl (CsE.cons (c1 := [(Value.string y1.For)]) rfl rfl CsE.nil))) rfl
      have O128 := O121.nm
      obtain ⟨m129, u130, s135, ⟨⟨r133, k134⟩, _⟩, B131, C132⟩ := O128.lend0 [2]
      replace r133 : Rd 1 eStr m129 (some ⟨(Array.size h12), 0, none⟩) ([y1.Trait, y1.For] : List ByteArray) := r133
      replace k134 : List.length ([y1.Trait, y1.For] : List ByteArray) ≤ 2 := k134
      refine (roadref2_texts.walk (Hold.start (W := No) s135) rfl k134 r133 (TBg.sub tab u130) g20).mono ?_
      rintro _ h124 ⟨m125, Q126, rfl⟩
      have O136 := Hold.nm (C132 Q126 vfs_nil)
      refine ⟨_, rfl, ?_⟩
      refine (roadref2_funcsMark.walk (Hold.start (W := No) O136.s) rfl k115 r116 tab g40).mono ?_
      rintro _ h139 ⟨m140, Q141, rfl⟩
      have O143 := Hold.nm (O136.retC Q141 vfs_nil)
      refine ⟨_, rfl, ?_⟩
      obtain ⟨g144, e⟩ := guard_e e
      refine ⟨g144, ?_⟩
      obtain ⟨g145, e⟩ := guard_e e
      refine ⟨g145, ?_⟩
      exact (ih _ _ e) _ _ _ _ _ _ _ _ _ _ (O143.pick [0]).nm e_1 rfl k_122 r_122 tab
  · obtain ⟨A146, c147, q148, k149, r150⟩ := T_api_Program.g6 e_1
    refine ⟨_, ldk (k := 6) (Sub.refl _) (O.all 0 rfl) q148, _, _, _, rfl, ?_⟩
    obtain ⟨y151, g152, e⟩ := bind_e e
    refine (roadref2_funcsMark.walk (Hold.start (W := No) O.s) rfl k149 r150 tab g152).mono ?_
    rintro _ h153 ⟨m154, Q155, rfl⟩
    have O157 := Hold.nm (O.retC Q155 vfs_nil)
    refine ⟨_, rfl, ?_⟩
    obtain ⟨g158, e⟩ := guard_e e
    refine ⟨g158, ?_⟩
    obtain ⟨A159, c160, q161, k162, r163⟩ := T_api_Program.g7 e_1
    refine ⟨_, ldk (k := 7) (Sub.refl _) (O157.all 0 rfl) q161, _, _, _, rfl, ?_⟩
    exact roadref2_Mark.l4.walk (O157.pick []).nm rfl k162 r163 tab e
theorem roadref2_Mark.l3_k.all {p : roadref2_Mark.l3_k.Pt} {r : (ByteArray)} (e : roadref2_Mark.l3_k.go p = some r) : roadref2_Mark.l3_k.I p r := fixF_ind (β := fun _ => (ByteArray)) roadref2_Mark.l3_k.mono (I := roadref2_Mark.l3_k.I) (fun go ih p r e => match p with
  | .l3 y_1 s_3 a_122 x_123 x_124 => roadref2_Mark.l3_k.step_l3 go ih y_1 s_3 a_122 x_123 x_124 r e
  ) e
theorem roadref2_Mark.l3.walk {W : Nat → Prop} {h0 m0 h m : Heap} {bk_1 : Nat} {cs_1 : List Value} {A_122 : Option Addr} {n_122 c_122 : Nat} {y_1 : T_api_Program} {s_3 : ByteArray} {a_122 : List T_api_Impl} {x_123 : Int} {x_124 : Int} (O : Hold W h0 m0 h m [rV bk_1 29 cs_1]) (e_1 : T_api_Program.E m y_1 cs_1) (ne_122 : n_122 = List.length a_122) (k_122 : List.length a_122 ≤ c_122) (r_122 : Rd 3 T_api_Impl.E m A_122 a_122) (tab : TB m) {r : ByteArray} (e : roadref2_Mark.l3 y_1 s_3 a_122 x_123 x_124 = some r) : f6.l3 (roadref2_Mark.post W h0 m0 r) (⟨bk_1, 0, none⟩ : Addr) s_3 A_122 n_122 c_122 x_123 x_124 h := roadref2_Mark.l3_k.all (p := .l3 y_1 s_3 a_122 x_123 x_124) e W h0 m0 h m bk_1 cs_1 A_122 n_122 c_122 O e_1 ne_122 k_122 r_122 tab
inductive roadref2_Mark.l2_k.Pt where
  | l2 (y_1 : T_api_Program) (s_3 : ByteArray) (a_104 : List T_api_Trait) (x_105 : Int) (x_106 : Int)
noncomputable def roadref2_Mark.l2_k.body (go : (p : roadref2_Mark.l2_k.Pt) → Option (ByteArray)) : (p : roadref2_Mark.l2_k.Pt) → Option (ByteArray)
  | .l2 y_1 s_3 a_104 x_105 x_106 => if x_106 < x_105 then (Option.bind (gi a_104 x_106) fun y1 => Option.bind (roadref2_texts ([y1.Name] : List ByteArray)) fun y19 => Option.bind (roadref2_funcsMark y1.Funcs) fun y39 => if ByteArray.size y19 + ByteArray.size y39 ≤ 9223372036854775807 then (if ByteArray.size s_3 + ByteArray.size (y19 ++ y39) ≤ 9223372036854775807 then ((go (.l2 y_1 (s_3 ++ (y19 ++ y39)) a_104 x_105 (IntKind.wrap .i64 (x_106 + (1 : Int)))))) else none) else none) else ((roadref2_Mark.l3 y_1 s_3 y_1.Impls (((List.length y_1.Impls) : Nat) : Int) (0 : Int)))
theorem roadref2_Mark.l2_k.mono : MonoF (β := fun _ => (ByteArray)) roadref2_Mark.l2_k.body := fun f g hfg p => match p with
  | .l2 y_1 s_3 a_104 x_105 x_106 => LeO.ite (LeO.bind (LeO.refl _) fun y1 => LeO.bind (LeO.refl _) fun y19 => LeO.bind (LeO.refl _) fun y39 => LeO.ite (LeO.ite ((hfg _)) (LeO.refl _)) (LeO.refl _)) ((LeO.refl _))
noncomputable def roadref2_Mark.l2_k.go (p : roadref2_Mark.l2_k.Pt) : Option (ByteArray) := fixF (β := fun _ => (ByteArray)) roadref2_Mark.l2_k.body p
noncomputable def roadref2_Mark.l2 (y_1 : T_api_Program) (s_3 : ByteArray) (a_104 : List T_api_Trait) (x_105 : Int) (x_106 : Int) : Option (ByteArray) := roadref2_Mark.l2_k.go (.l2 y_1 s_3 a_104 x_105 x_106)
theorem roadref2_Mark.l2_eq (y_1 : T_api_Program) (s_3 : ByteArray) (a_104 : List T_api_Trait) (x_105 : Int) (x_106 : Int) : roadref2_Mark.l2 y_1 s_3 a_104 x_105 x_106 = if x_106 < x_105 then (Option.bind (gi a_104 x_106) fun y1 => Option.bind (roadref2_texts ([y1.Name] : List ByteArray)) fun y19 => Option.bind (roadref2_funcsMark y1.Funcs) fun y39 => if ByteArray.size y19 + ByteArray.size y39 ≤ 9223372036854775807 then (if ByteArray.size s_3 + ByteArray.size (y19 ++ y39) ≤ 9223372036854775807 then ((roadref2_Mark.l2 y_1 (s_3 ++ (y19 ++ y39)) a_104 x_105 (IntKind.wrap .i64 (x_106 + (1 : Int))))) else none) else none) else ((roadref2_Mark.l3 y_1 s_3 y_1.Impls (((List.length y_1.Impls) : Nat) : Int) (0 : Int))) := fixF_eq roadref2_Mark.l2_k.mono _
def roadref2_Mark.l2_k.I : (p : roadref2_Mark.l2_k.Pt) → (ByteArray) → Prop
  | .l2 y_1 s_3 a_104 x_105 x_106, r => ∀ (W : Nat → Prop) (h0 m0 h m : Heap) (bk_1 : Nat) (cs_1 : List Value) (A_104 : Option Addr) (n_104 c_104 : Nat) (O : Hold W h0 m0 h m [rV bk_1 29 cs_1]) (e_1 : T_api_Program.E m y_1 cs_1) (ne_104 : n_104 = List.length a_104) (k_104 : List.length a_104 ≤ c_104) (r_104 : Rd 2 T_api_Trait.E m A_104 a_104) (tab : TB m), f6.l2 (roadref2_Mark.post W h0 m0 r) (⟨bk_1, 0, none⟩ : Addr) s_3 A_104 n_104 c_104 x_105 x_106 h
set_option maxHeartbeats 4000000 in
set_option maxRecDepth 100000 in
theorem roadref2_Mark.l2_k.step_l2 (go : (p : roadref2_Mark.l2_k.Pt) → Option (ByteArray)) (ih : ∀ p r, go p = some r → roadref2_Mark.l2_k.I p r) (y_1 : T_api_Program) (s_3 : ByteArray) (a_104 : List T_api_Trait) (x_105 : Int) (x_106 : Int) (r : ByteArray) (e : roadref2_Mark.l2_k.body go (.l2 y_1 s_3 a_104 x_105 x_106) = some r) : roadref2_Mark.l2_k.I (.l2 y_1 s_3 a_104 x_105 x_106) r := by
  unfold roadref2_Mark.l2_k.body at e
  intro W h0 m0 h m bk_1 cs_1 A_104 n_104 c_104 O e_1 ne_104 k_104 r_104 tab
  subst ne_104
  refine f6.l2_in ?_
  unfold f6.l2T
  refine split_dec_e e (fun c151 e => ?_) (fun c151 e => ?_)
  · obtain ⟨y1, g2, e⟩ := bind_e e
    refine r_104.addr rfl g2 fun a3 cs4 ha5 hc6 he7 => ?_
    refine ⟨_, ldAn O.s hc6 rfl, ?_⟩
    refine O.new fun h8 x9 O10 => ?_
    refine ⟨_, rfl, (T_api_Trait.T.len _ _ _ he7), ?_⟩
    refine O10.stA 1 rfl (T_api_Trait.T.len _ _ _ he7) (T_api_Trait.T.flat _ _ _ he7) fun h12 O13 => ?_
    refine ⟨_, ld0 (Sub.refl _) (O13.all 1 rfl) (T_api_Trait.g0 he7), _, rfl, ?_⟩
    obtain ⟨y19, g20, e⟩ := bind_e e
    obtain ⟨y39, g40, e⟩ := bind_e e
    refine ⟨?_, ?_⟩
    · refine O13.new fun h48 x49 O50 => ?_
      refine ⟨?_, ?_⟩
      · have O52 := O50.rowE (l := ([y1.Name] : List ByteArray)) 2 rfl tell_str (show CsE _ _ _ _ _ from (CsE.cons (c1 := [(Value.string y1.Name)]) rfl rfl CsE.nil)) rfl
        have O59 := O52.nm
        obtain ⟨m60, u61, s66, ⟨⟨r64, k65⟩, _⟩, B62, C63⟩ := O59.lend0 [2]
        replace r64 : Rd 1 eStr m60 (some ⟨(Array.size h12), 0, none⟩) ([y1.Name] : List ByteArray) := r64
        replace k65 : List.length ([y1.Name] : List ByteArray) ≤ 1 := k65
        refine (roadref2_texts.walk (Hold.start (W := No) s66) rfl k65 r64 (TBg.sub tab u61) g20).mono ?_
        rintro _ h55 ⟨m56, Q57, rfl⟩
        have O67 := Hold.nm (C63 Q57 vfs_nil)
        refine ⟨_, rfl, ?_⟩
        obtain ⟨A68, c69, q70, k71, r72⟩ := T_api_Trait.g1 he7
        refine ⟨_, ldk (k := 1) (Sub.refl _) (O67.all 1 rfl) q70, _, _, _, rfl, ?_⟩
        refine ⟨Ext.refl _, ?_⟩
        refine (roadref2_funcsMark.walk (Hold.start (W := No) O67.s) rfl k71 r72 tab g40).mono ?_
        rintro _ h75 ⟨m76, Q77, rfl⟩
        have O79 := Hold.nm (O67.retC Q77 vfs_nil)
        refine ⟨_, rfl, ?_⟩
        obtain ⟨g80, e⟩ := guard_e e
        refine ⟨g80, ?_⟩
        obtain ⟨g81, e⟩ := guard_e e
        refine ⟨g81, ?_⟩
        exact (ih _ _ e) _ _ _ _ _ _ _ _ _ _ (O79.pick [0]).nm e_1 rfl k_104 r_104 tab
      · obtain ⟨A82, c83, q84, k85, r86⟩ := T_api_Trait.g1 he7
        refine ⟨_, ldk (k := 1) (Sub.refl _) (O50.all 1 rfl) q84, _, _, _, rfl, ?_⟩
        refine ⟨Ext.refl _, ?_⟩
        have O87 := O50.rowE (l := ([y1.Name] : List ByteArray)) 2 rfl tell_str (show CsE _ _ _ _ _ from (CsE.cons (c1 := [(Value.string y1.Name)]) rfl rfl CsE.nil)) rfl
        have O94 := O87.nm
        obtain ⟨m95, u96, s101, ⟨⟨r99, k100⟩, _⟩, B97, C98⟩ := O94.lend0 [2]
        replace r99 : Rd 1 eStr m95 (some ⟨(Array.size h12), 0, none⟩) ([y1.Name] : List ByteArray) := r99
        replace k100 : List.length ([y1.Name] : List ByteArray) ≤ 1 := k100
        refine (roadref2_texts.walk (Hold.start (W := No) s101) rfl k100 r99 (TBg.sub tab u96) g20).mono ?_
        rintro _ h90 ⟨m91, Q92, rfl⟩
        have O102 := Hold.nm (C98 Q92 vfs_nil)
        refine ⟨_, rfl, ?_⟩
        refine (roadref2_funcsMark.walk (Hold.start (W := No) O102.s) rfl k85 r86 tab g40).mono ?_
        rintro _ h105 ⟨m106, Q107, rfl⟩
        have O109 := Hold.nm (O102.retC Q107 vfs_nil)
        refine ⟨_, rfl, ?_⟩
        obtain ⟨g110, e⟩ := guard_e e
        refine ⟨g110, ?_⟩
        obtain ⟨g111, e⟩ := guard_e e
        refine ⟨g111, ?_⟩
        exact (ih _ _ e) _ _ _ _ _ _ _ _ _ _ (O109.pick [0]).nm e_1 rfl k_104 r_104 tab
    · obtain ⟨A112, c113, q114, k115, r116⟩ := T_api_Trait.g1 he7
      refine ⟨_, ldk (k := 1) (Sub.refl _) (O13.all 1 rfl) q114, _, _, _, rfl, ?_⟩
      refine ⟨Ext.refl _, ?_⟩
      refine O13.new fun h117 x118 O119 => ?_
      have O121 := O119.rowE (l := ([y1.Name] : List ByteArray)) 2 rfl tell_str (show CsE _ _ _ _ _ from (CsE.cons (c1 := [(Value.string y1.Name)]) rfl rfl CsE.nil)) rfl
      have O128 := O121.nm
      obtain ⟨m129, u130, s135, ⟨⟨r133, k134⟩, _⟩, B131, C132⟩ := O128.lend0 [2]
      replace r133 : Rd 1 eStr m129 (some ⟨(Array.size h12), 0, none⟩) ([y1.Name] : List ByteArray) := r133
      replace k134 : List.length ([y1.Name] : List ByteArray) ≤ 1 := k134
      refine (roadref2_texts.walk (Hold.start (W := No) s135) rfl k134 r133 (TBg.sub tab u130) g20).mono ?_
      rintro _ h124 ⟨m125, Q126, rfl⟩
      have O136 := Hold.nm (C132 Q126 vfs_nil)
      refine ⟨_, rfl, ?_⟩
      refine (roadref2_funcsMark.walk (Hold.start (W := No) O136.s) rfl k115 r116 tab g40).mono ?_
      rintro _ h139 ⟨m140, Q141, rfl⟩
      have O143 := Hold.nm (O136.retC Q141 vfs_nil)
      refine ⟨_, rfl, ?_⟩
      obtain ⟨g144, e⟩ := guard_e e
      refine ⟨g144, ?_⟩
      obtain ⟨g145, e⟩ := guard_e e
      refine ⟨g145, ?_⟩
      exact (ih _ _ e) _ _ _ _ _ _ _ _ _ _ (O143.pick [0]).nm e_1 rfl k_104 r_104 tab
  · obtain ⟨A146, c147, q148, k149, r150⟩ := T_api_Program.g5 e_1
    refine ⟨_, ldk (k := 5) (Sub.refl _) (O.all 0 rfl) q148, _, _, _, rfl, ?_⟩
    exact roadref2_Mark.l3.walk (O.pick [0]).nm e_1 rfl k149 r150 tab e
theorem roadref2_Mark.l2_k.all {p : roadref2_Mark.l2_k.Pt} {r : (ByteArray)} (e : roadref2_Mark.l2_k.go p = some r) : roadref2_Mark.l2_k.I p r := fixF_ind (β := fun _ => (ByteArray)) roadref2_Mark.l2_k.mono (I := roadref2_Mark.l2_k.I) (fun go ih p r e => match p with
  | .l2 y_1 s_3 a_104 x_105 x_106 => roadref2_Mark.l2_k.step_l2 go ih y_1 s_3 a_104 x_105 x_106 r e
  ) e
theorem roadref2_Mark.l2.walk {W : Nat → Prop} {h0 m0 h m : Heap} {bk_1 : Nat} {cs_1 : List Value} {A_104 : Option Addr} {n_104 c_104 : Nat} {y_1 : T_api_Program} {s_3 : ByteArray} {a_104 : List T_api_Trait} {x_105 : Int} {x_106 : Int} (O : Hold W h0 m0 h m [rV bk_1 29 cs_1]) (e_1 : T_api_Program.E m y_1 cs_1) (ne_104 : n_104 = List.length a_104) (k_104 : List.length a_104 ≤ c_104) (r_104 : Rd 2 T_api_Trait.E m A_104 a_104) (tab : TB m) {r : ByteArray} (e : roadref2_Mark.l2 y_1 s_3 a_104 x_105 x_106 = some r) : f6.l2 (roadref2_Mark.post W h0 m0 r) (⟨bk_1, 0, none⟩ : Addr) s_3 A_104 n_104 c_104 x_105 x_106 h := roadref2_Mark.l2_k.all (p := .l2 y_1 s_3 a_104 x_105 x_106) e W h0 m0 h m bk_1 cs_1 A_104 n_104 c_104 O e_1 ne_104 k_104 r_104 tab
inductive roadref2_Mark.l1_k.Pt where
  | l1 (y_1 : T_api_Program) (s_3 : ByteArray) (a_62 : List T_api_Data) (x_63 : Int) (x_64 : Int)
  | j1 (y_1 : T_api_Program) (s_3 : ByteArray) (y_7 : T_api_Data) (a_62 : List T_api_Data) (x_63 : Int) (x_64 : Int)
  | l5 (y_1 : T_api_Program) (s_3 : ByteArray) (a_62 : List T_api_Data) (x_63 : Int) (x_64 : Int) (a_85 : List T_api_Make) (x_86 : Int) (x_87 : Int)
noncomputable def roadref2_Mark.l1_k.body (go : (p : roadref2_Mark.l1_k.Pt) → Option (ByteArray)) : (p : roadref2_Mark.l1_k.Pt) → Option (ByteArray)
  | .l1 y_1 s_3 a_62 x_63 x_64 => if x_64 < x_63 then (Option.bind (gi a_62 x_64) fun y1 => Option.bind (roadref2_texts ([y1.Name] : List ByteArray)) fun y29 => Option.bind (roadref2_nums ([(((List.length y1.Makes) : Nat) : Int)] : List Int)) fun y49 => if ByteArray.size y29 + ByteArray.size y49 ≤ 9223372036854775807 then (Option.bind (roadref2_namesMark y1.Params) fun y65 => if ByteArray.size (y29 ++ y49) + ByteArray.size y65 ≤ 9223372036854775807 then (if ByteArray.size s_3 + ByteArray.size ((y29 ++ y49) ++ y65) ≤ 9223372036854775807 then ((go (.j1 y_1 (s_3 ++ ((y29 ++ y49) ++ y65)) y1 a_62 x_63 x_64))) else none) else none) else none) else ((roadref2_Mark.l2 y_1 s_3 y_1.Traits (((List.length y_1.Traits) : Nat) : Int) (0 : Int)))
  | .j1 y_1 s_3 y_7 a_62 x_63 x_64 => (go (.l5 y_1 s_3 a_62 x_63 x_64 y_7.Makes (((List.length y_7.Makes) : Nat) : Int) (0 : Int)))
  | .l5 y_1 s_3 a_62 x_63 x_64 a_85 x_86 x_87 => if x_87 < x_86 then (Option.bind (gi a_85 x_87) fun y1 => Option.bind (roadref2_texts ([y1.Name] : List ByteArray)) fun y19 => Option.bind (roadref2_typesMark y1.Args) fun y39 => if ByteArray.size y19 + ByteArray.size y39 ≤ 9223372036854775807 then (if ByteArray.size s_3 + ByteArray.size (y19 ++ y39) ≤ 9223372036854775807 then ((go (.l5 y_1 (s_3 ++ (y19 ++ y39)) a_62 x_63 x_64 a_85 x_86 (IntKind.wrap .i64 (x_87 + (1 : Int)))))) else none) else none) else ((go (.l1 y_1 s_3 a_62 x_63 (IntKind.wrap .i64 (x_64 + (1 : Int))))))
theorem roadref2_Mark.l1_k.mono : MonoF (β := fun _ => (ByteArray)) roadref2_Mark.l1_k.body := fun f g hfg p => match p with
  | .l1 y_1 s_3 a_62 x_63 x_64 => LeO.ite (LeO.bind (LeO.refl _) fun y1 => LeO.bind (LeO.refl _) fun y29 => LeO.bind (LeO.refl _) fun y49 => LeO.ite (LeO.bind (LeO.refl _) fun y65 => LeO.ite (LeO.ite ((hfg _)) (LeO.refl _)) (LeO.refl _)) (LeO.refl _)) ((LeO.refl _))
  | .j1 y_1 s_3 y_7 a_62 x_63 x_64 => (hfg _)
  | .l5 y_1 s_3 a_62 x_63 x_64 a_85 x_86 x_87 => LeO.ite (LeO.bind (LeO.refl _) fun y1 => LeO.bind (LeO.refl _) fun y19 => LeO.bind (LeO.refl _) fun y39 => LeO.ite (LeO.ite ((hfg _)) (LeO.refl _)) (LeO.refl _)) ((hfg _))
noncomputable def roadref2_Mark.l1_k.go (p : roadref2_Mark.l1_k.Pt) : Option (ByteArray) := fixF (β := fun _ => (ByteArray)) roadref2_Mark.l1_k.body p
noncomputable def roadref2_Mark.l1 (y_1 : T_api_Program) (s_3 : ByteArray) (a_62 : List T_api_Data) (x_63 : Int) (x_64 : Int) : Option (ByteArray) := roadref2_Mark.l1_k.go (.l1 y_1 s_3 a_62 x_63 x_64)
noncomputable def roadref2_Mark.j1 (y_1 : T_api_Program) (s_3 : ByteArray) (y_7 : T_api_Data) (a_62 : List T_api_Data) (x_63 : Int) (x_64 : Int) : Option (ByteArray) := roadref2_Mark.l1_k.go (.j1 y_1 s_3 y_7 a_62 x_63 x_64)
noncomputable def roadref2_Mark.l5 (y_1 : T_api_Program) (s_3 : ByteArray) (a_62 : List T_api_Data) (x_63 : Int) (x_64 : Int) (a_85 : List T_api_Make) (x_86 : Int) (x_87 : Int) : Option (ByteArray) := roadref2_Mark.l1_k.go (.l5 y_1 s_3 a_62 x_63 x_64 a_85 x_86 x_87)
theorem roadref2_Mark.l1_eq (y_1 : T_api_Program) (s_3 : ByteArray) (a_62 : List T_api_Data) (x_63 : Int) (x_64 : Int) : roadref2_Mark.l1 y_1 s_3 a_62 x_63 x_64 = if x_64 < x_63 then (Option.bind (gi a_62 x_64) fun y1 => Option.bind (roadref2_texts ([y1.Name] : List ByteArray)) fun y29 => Option.bind (roadref2_nums ([(((List.length y1.Makes) : Nat) : Int)] : List Int)) fun y49 => if ByteArray.size y29 + ByteArray.size y49 ≤ 9223372036854775807 then (Option.bind (roadref2_namesMark y1.Params) fun y65 => if ByteArray.size (y29 ++ y49) + ByteArray.size y65 ≤ 9223372036854775807 then (if ByteArray.size s_3 + ByteArray.size ((y29 ++ y49) ++ y65) ≤ 9223372036854775807 then ((roadref2_Mark.j1 y_1 (s_3 ++ ((y29 ++ y49) ++ y65)) y1 a_62 x_63 x_64)) else none) else none) else none) else ((roadref2_Mark.l2 y_1 s_3 y_1.Traits (((List.length y_1.Traits) : Nat) : Int) (0 : Int))) := fixF_eq roadref2_Mark.l1_k.mono _
theorem roadref2_Mark.j1_eq (y_1 : T_api_Program) (s_3 : ByteArray) (y_7 : T_api_Data) (a_62 : List T_api_Data) (x_63 : Int) (x_64 : Int) : roadref2_Mark.j1 y_1 s_3 y_7 a_62 x_63 x_64 = (roadref2_Mark.l5 y_1 s_3 a_62 x_63 x_64 y_7.Makes (((List.length y_7.Makes) : Nat) : Int) (0 : Int)) := fixF_eq roadref2_Mark.l1_k.mono _
theorem roadref2_Mark.l5_eq (y_1 : T_api_Program) (s_3 : ByteArray) (a_62 : List T_api_Data) (x_63 : Int) (x_64 : Int) (a_85 : List T_api_Make) (x_86 : Int) (x_87 : Int) : roadref2_Mark.l5 y_1 s_3 a_62 x_63 x_64 a_85 x_86 x_87 = if x_87 < x_86 then (Option.bind (gi a_85 x_87) fun y1 => Option.bind (roadref2_texts ([y1.Name] : List ByteArray)) fun y19 => Option.bind (roadref2_typesMark y1.Args) fun y39 => if ByteArray.size y19 + ByteArray.size y39 ≤ 9223372036854775807 then (if ByteArray.size s_3 + ByteArray.size (y19 ++ y39) ≤ 9223372036854775807 then ((roadref2_Mark.l5 y_1 (s_3 ++ (y19 ++ y39)) a_62 x_63 x_64 a_85 x_86 (IntKind.wrap .i64 (x_87 + (1 : Int))))) else none) else none) else ((roadref2_Mark.l1 y_1 s_3 a_62 x_63 (IntKind.wrap .i64 (x_64 + (1 : Int))))) := fixF_eq roadref2_Mark.l1_k.mono _
def roadref2_Mark.l1_k.I : (p : roadref2_Mark.l1_k.Pt) → (ByteArray) → Prop
  | .l1 y_1 s_3 a_62 x_63 x_64, r => ∀ (W : Nat → Prop) (h0 m0 h m : Heap) (bk_1 : Nat) (cs_1 : List Value) (A_62 : Option Addr) (n_62 c_62 : Nat) (O : Hold W h0 m0 h m [rV bk_1 29 cs_1]) (e_1 : T_api_Program.E m y_1 cs_1) (ne_62 : n_62 = List.length a_62) (k_62 : List.length a_62 ≤ c_62) (r_62 : Rd 3 T_api_Data.E m A_62 a_62) (tab : TB m), f6.l1 (roadref2_Mark.post W h0 m0 r) (⟨bk_1, 0, none⟩ : Addr) s_3 A_62 n_62 c_62 x_63 x_64 h
  | .j1 y_1 s_3 y_7 a_62 x_63 x_64, r => ∀ (W : Nat → Prop) (h0 m0 h m : Heap) (bk_1 : Nat) (cs_1 : List Value) (bk_7 : Nat) (cs_7 : List Value) (A_62 : Option Addr) (n_62 c_62 : Nat) (O : Hold W h0 m0 h m [rV bk_1 29 cs_1, rV bk_7 45 cs_7]) (e_1 : T_api_Program.E m y_1 cs_1) (e_7 : T_api_Data.E m y_7 cs_7) (ne_62 : n_62 = List.length a_62) (k_62 : List.length a_62 ≤ c_62) (r_62 : Rd 3 T_api_Data.E m A_62 a_62) (tab : TB m), f6.j1 (roadref2_Mark.post W h0 m0 r) (⟨bk_1, 0, none⟩ : Addr) s_3 (⟨bk_7, 0, none⟩ : Addr) A_62 n_62 c_62 x_63 x_64 h
  | .l5 y_1 s_3 a_62 x_63 x_64 a_85 x_86 x_87, r => ∀ (W : Nat → Prop) (h0 m0 h m : Heap) (bk_1 : Nat) (cs_1 : List Value) (A_62 : Option Addr) (n_62 c_62 : Nat) (A_85 : Option Addr) (n_85 c_85 : Nat) (O : Hold W h0 m0 h m [rV bk_1 29 cs_1]) (e_1 : T_api_Program.E m y_1 cs_1) (ne_62 : n_62 = List.length a_62) (k_62 : List.length a_62 ≤ c_62) (r_62 : Rd 3 T_api_Data.E m A_62 a_62) (ne_85 : n_85 = List.length a_85) (k_85 : List.length a_85 ≤ c_85) (r_85 : Rd 2 T_api_Make.E m A_85 a_85) (tab : TB m), f6.l5 (roadref2_Mark.post W h0 m0 r) (⟨bk_1, 0, none⟩ : Addr) s_3 A_62 n_62 c_62 x_63 x_64 A_85 n_85 c_85 x_86 x_87 h
set_option maxHeartbeats 4000000 in
set_option maxRecDepth 100000 in
theorem roadref2_Mark.l1_k.step_l1 (go : (p : roadref2_Mark.l1_k.Pt) → Option (ByteArray)) (ih : ∀ p r, go p = some r → roadref2_Mark.l1_k.I p r) (y_1 : T_api_Program) (s_3 : ByteArray) (a_62 : List T_api_Data) (x_63 : Int) (x_64 : Int) (r : ByteArray) (e : roadref2_Mark.l1_k.body go (.l1 y_1 s_3 a_62 x_63 x_64) = some r) : roadref2_Mark.l1_k.I (.l1 y_1 s_3 a_62 x_63 x_64) r := by
  unfold roadref2_Mark.l1_k.body at e
  intro W h0 m0 h m bk_1 cs_1 A_62 n_62 c_62 O e_1 ne_62 k_62 r_62 tab
  subst ne_62
  refine f6.l1_in ?_
  unfold f6.l1T
  refine split_dec_e e (fun c225 e => ?_) (fun c225 e => ?_)
  · obtain ⟨y1, g2, e⟩ := bind_e e
    refine r_62.addr rfl g2 fun a3 cs4 ha5 hc6 he7 => ?_
    refine ⟨_, ldAn O.s hc6 rfl, ?_⟩
    refine O.new fun h8 x9 O10 => ?_
    refine ⟨_, rfl, (T_api_Data.T.len _ _ _ he7), ?_⟩
    refine O10.stA 1 rfl (T_api_Data.T.len _ _ _ he7) (T_api_Data.T.flat _ _ _ he7) fun h12 O13 => ?_
    refine ⟨_, ld0 (Sub.refl _) (O13.all 1 rfl) (T_api_Data.g0 he7), _, rfl, ?_⟩
    obtain ⟨A14, c15, q16, k17, r18⟩ := T_api_Data.g2 he7
    refine ⟨_, ldk (k := 2) (Sub.refl _) (O13.all 1 rfl) q16, _, _, _, rfl, ?_⟩
    obtain ⟨A19, c20, q21, k22, r23⟩ := T_api_Data.g1 he7
    refine ⟨_, ldk (k := 1) (Sub.refl _) (O13.all 1 rfl) q21, _, _, _, rfl, ?_⟩
    obtain ⟨y29, g30, e⟩ := bind_e e
    obtain ⟨y49, g50, e⟩ := bind_e e
    obtain ⟨g64, e⟩ := guard_e e
    obtain ⟨y65, g66, e⟩ := bind_e e
    refine ⟨?_, ?_⟩
    · refine O13.new fun h74 x75 O76 => ?_
      refine ⟨x75, ?_⟩
      refine ⟨?_, ?_⟩
      · have O78 := O76.rowE (l := ([y1.Name] : List ByteArray)) 2 rfl tell_str (show CsE _ _ _ _ _ from (CsE.cons (c1 := [(Value.string y1.Name)]) rfl rfl CsE.nil)) rfl
        have O85 := O78.nm
        obtain ⟨m86, u87, s92, ⟨⟨r90, k91⟩, _⟩, B88, C89⟩ := O85.lend0 [2]
        replace r90 : Rd 1 eStr m86 (some ⟨(Array.size h12), 0, none⟩) ([y1.Name] : List ByteArray) := r90
        replace k91 : List.length ([y1.Name] : List ByteArray) ≤ 1 := k91
        refine (roadref2_texts.walk (Hold.start (W := No) s92) rfl k91 r90 (TBg.sub tab u87) g30).mono ?_
        rintro _ h81 ⟨m82, Q83, rfl⟩
        have O93 := Hold.nm (C89 Q83 vfs_nil)
        refine ⟨_, rfl, ?_⟩
        refine ⟨Q83.S.ext, ?_⟩
        refine O93.new fun h94 x95 O96 => ?_
        refine ⟨x95, ?_⟩
        have O98 := O96.rowE (l := ([(((List.length y1.Makes) : Nat) : Int)] : List Int)) 3 rfl (tell_int .i64) (show CsE _ _ _ _ _ from (CsE.cons (c1 := [(Value.int .i64 (((List.length y1.Makes) : Nat) : Int))]) rfl rfl CsE.nil)) rfl
        have O105 := O98.nm
        obtain ⟨m106, u107, s112, ⟨⟨r110, k111⟩, _⟩, B108, C109⟩ := O105.lend0 [3]
        replace r110 : Rd 1 (eInt .i64) m106 (some ⟨(Array.size h81), 0, none⟩) ([(((List.length y1.Makes) : Nat) : Int)] : List Int) := r110
        replace k111 : List.length ([(((List.length y1.Makes) : Nat) : Int)] : List Int) ≤ 1 := k111
        refine (roadref2_nums.walk (Hold.start (W := No) s112) rfl k111 r110 (TBg.sub tab u107) g50).mono ?_
        rintro _ h101 ⟨m102, Q103, rfl⟩
        have O113 := Hold.nm (C109 Q103 vfs_nil)
        refine ⟨_, rfl, ?_⟩
        refine ⟨Q103.S.ext, ?_⟩
        refine ⟨g64, ?_⟩
        refine (roadref2_namesMark.walk (Hold.start (W := No) O113.s) rfl k22 r23 tab g66).mono ?_
        rintro _ h117 ⟨m118, Q119, rfl⟩
        have O121 := Hold.nm (O113.retC Q119 vfs_nil)
        refine ⟨_, rfl, ?_⟩
        obtain ⟨g122, e⟩ := guard_e e
        refine ⟨g122, ?_⟩
        obtain ⟨g123, e⟩ := guard_e e
        refine ⟨g123, ?_⟩
        exact (ih _ _ e) _ _ _ _ _ _ _ _ _ _ _ _ (O121.pick [0, 1]).nm e_1 he7 rfl k_62 r_62 tab
      · refine O76.new fun h124 x125 O126 => ?_
        refine ⟨x125, ?_⟩
        have O128 := O126.rowE (l := ([y1.Name] : List ByteArray)) 2 rfl tell_str (show CsE _ _ _ _ _ from (CsE.cons (c1 := [(Value.string y1.Name)]) rfl rfl CsE.nil)) rfl
        have O135 := O128.nm
        obtain ⟨m136, u137, s142, ⟨⟨r140, k141⟩, _⟩, B138, C139⟩ := O135.lend0 [2]
        replace r140 : Rd 1 eStr m136 (some ⟨(Array.size h12), 0, none⟩) ([y1.Name] : List ByteArray) := r140
        replace k141 : List.length ([y1.Name] : List ByteArray) ≤ 1 := k141
        refine (roadref2_texts.walk (Hold.start (W := No) s142) rfl k141 r140 (TBg.sub tab u137) g30).mono ?_
        rintro _ h131 ⟨m132, Q133, rfl⟩
        have O143 := Hold.nm (C139 Q133 vfs_nil)
        refine ⟨_, rfl, ?_⟩
        refine ⟨Q133.S.ext, ?_⟩
        have O144 := O143.rowE (l := ([(((List.length y1.Makes) : Nat) : Int)] : List Int)) 3 rfl (tell_int .i64) (show CsE _ _ _ _ _ from (CsE.cons (c1 := [(Value.int .i64 (((List.length y1.Makes) : Nat) : Int))]) rfl rfl CsE.nil)) rfl
        have O151 := O144.nm
        obtain ⟨m152, u153, s158, ⟨⟨r156, k157⟩, _⟩, B154, C155⟩ := O151.lend0 [3]
        replace r156 : Rd 1 (eInt .i64) m152 (some ⟨(Array.size h74), 0, none⟩) ([(((List.length y1.Makes) : Nat) : Int)] : List Int) := r156
        replace k157 : List.length ([(((List.length y1.Makes) : Nat) : Int)] : List Int) ≤ 1 := k157
        refine (roadref2_nums.walk (Hold.start (W := No) s158) rfl k157 r156 (TBg.sub tab u153) g50).mono ?_
        rintro _ h147 ⟨m148, Q149, rfl⟩
        have O159 := Hold.nm (C155 Q149 vfs_nil)
        refine ⟨_, rfl, ?_⟩
        refine ⟨Q149.S.ext, ?_⟩
        refine ⟨g64, ?_⟩
        refine (roadref2_namesMark.walk (Hold.start (W := No) O159.s) rfl k22 r23 tab g66).mono ?_
        rintro _ h163 ⟨m164, Q165, rfl⟩
        have O167 := Hold.nm (O159.retC Q165 vfs_nil)
        refine ⟨_, rfl, ?_⟩
        obtain ⟨g168, e⟩ := guard_e e
        refine ⟨g168, ?_⟩
        obtain ⟨g169, e⟩ := guard_e e
        refine ⟨g169, ?_⟩
        exact (ih _ _ e) _ _ _ _ _ _ _ _ _ _ _ _ (O167.pick [0, 1]).nm e_1 he7 rfl k_62 r_62 tab
    · refine O13.new fun h170 x171 O172 => ?_
      refine ⟨x171, ?_⟩
      refine O172.new fun h174 x175 O176 => ?_
      refine ⟨x175, ?_⟩
      have O178 := O176.rowE (l := ([y1.Name] : List ByteArray)) 3 rfl tell_str (show CsE _ _ _ _ _ from (CsE.cons (c1 := [(Value.string y1.Name)]) rfl rfl CsE.nil)) rfl
      have O185 := O178.nm
      obtain ⟨m186, u187, s192, ⟨⟨r190, k191⟩, _⟩, B188, C189⟩ := O185.lend0 [3]
      replace r190 : Rd 1 eStr m186 (some ⟨(Array.size h170), 0, none⟩) ([y1.Name] : List ByteArray) := r190
      replace k191 : List.length ([y1.Name] : List ByteArray) ≤ 1 := k191
      refine (roadref2_texts.walk (Hold.start (W := No) s192) rfl k191 r190 (TBg.sub tab u187) g30).mono ?_
      rintro _ h181 ⟨m182, Q183, rfl⟩
      have O193 := Hold.nm (C189 Q183 vfs_nil)
      refine ⟨_, rfl, ?_⟩
      refine ⟨Q183.S.ext, ?_⟩
      have O194 := O193.rowE (l := ([(((List.length y1.Makes) : Nat) : Int)] : List Int)) 2 rfl (tell_int .i64) (show CsE _ _ _ _ _ from (CsE.cons (c1 := [(Value.int .i64 (((List.length y1.Makes) : Nat) : Int))]) rfl rfl CsE.nil)) rfl
      have O201 := O194.nm
      obtain ⟨m202, u203, s208, ⟨⟨r206, k207⟩, _⟩, B204, C205⟩ := O201.lend0 [2]
      replace r206 : Rd 1 (eInt .i64) m202 (some ⟨(Array.size h12), 0, none⟩) ([(((List.length y1.Makes) : Nat) : Int)] : List Int) := r206
      replace k207 : List.length ([(((List.length y1.Makes) : Nat) : Int)] : List Int) ≤ 1 := k207
      refine (roadref2_nums.walk (Hold.start (W := No) s208) rfl k207 r206 (TBg.sub tab u203) g50).mono ?_
      rintro _ h197 ⟨m198, Q199, rfl⟩
      have O209 := Hold.nm (C205 Q199 vfs_nil)
      refine ⟨_, rfl, ?_⟩
      refine ⟨Q199.S.ext, ?_⟩
      refine ⟨g64, ?_⟩
      refine (roadref2_namesMark.walk (Hold.start (W := No) O209.s) rfl k22 r23 tab g66).mono ?_
      rintro _ h213 ⟨m214, Q215, rfl⟩
      have O217 := Hold.nm (O209.retC Q215 vfs_nil)
      refine ⟨_, rfl, ?_⟩
      obtain ⟨g218, e⟩ := guard_e e
      refine ⟨g218, ?_⟩
      obtain ⟨g219, e⟩ := guard_e e
      refine ⟨g219, ?_⟩
      exact (ih _ _ e) _ _ _ _ _ _ _ _ _ _ _ _ (O217.pick [0, 1]).nm e_1 he7 rfl k_62 r_62 tab
  · obtain ⟨A220, c221, q222, k223, r224⟩ := T_api_Program.g4 e_1
    refine ⟨_, ldk (k := 4) (Sub.refl _) (O.all 0 rfl) q222, _, _, _, rfl, ?_⟩
    exact roadref2_Mark.l2.walk (O.pick [0]).nm e_1 rfl k223 r224 tab e
set_option maxRecDepth 100000 in
theorem roadref2_Mark.l1_k.step_j1 (go : (p : roadref2_Mark.l1_k.Pt) → Option (ByteArray)) (ih : ∀ p r, go p = some r → roadref2_Mark.l1_k.I p r) (y_1 : T_api_Program) (s_3 : ByteArray) (y_7 : T_api_Data) (a_62 : List T_api_Data) (x_63 : Int) (x_64 : Int) (r : ByteArray) (e : roadref2_Mark.l1_k.body go (.j1 y_1 s_3 y_7 a_62 x_63 x_64) = some r) : roadref2_Mark.l1_k.I (.j1 y_1 s_3 y_7 a_62 x_63 x_64) r := by
  unfold roadref2_Mark.l1_k.body at e
  intro W h0 m0 h m bk_1 cs_1 bk_7 cs_7 A_62 n_62 c_62 O e_1 e_7 ne_62 k_62 r_62 tab
  subst ne_62
  refine f6.j1_in ?_
  unfold f6.j1T
  obtain ⟨A1, c2, q3, k4, r5⟩ := T_api_Data.g2 e_7
  refine ⟨_, ldk (k := 2) (Sub.refl _) (O.all 1 rfl) q3, _, _, _, rfl, ?_⟩
  exact (ih _ _ e) _ _ _ _ _ _ _ _ _ _ _ _ _ (O.pick [0]).nm e_1 rfl k_62 r_62 rfl k4 r5 tab
set_option maxHeartbeats 4000000 in
set_option maxRecDepth 100000 in
theorem roadref2_Mark.l1_k.step_l5 (go : (p : roadref2_Mark.l1_k.Pt) → Option (ByteArray)) (ih : ∀ p r, go p = some r → roadref2_Mark.l1_k.I p r) (y_1 : T_api_Program) (s_3 : ByteArray) (a_62 : List T_api_Data) (x_63 : Int) (x_64 : Int) (a_85 : List T_api_Make) (x_86 : Int) (x_87 : Int) (r : ByteArray) (e : roadref2_Mark.l1_k.body go (.l5 y_1 s_3 a_62 x_63 x_64 a_85 x_86 x_87) = some r) : roadref2_Mark.l1_k.I (.l5 y_1 s_3 a_62 x_63 x_64 a_85 x_86 x_87) r := by
  unfold roadref2_Mark.l1_k.body at e
  intro W h0 m0 h m bk_1 cs_1 A_62 n_62 c_62 A_85 n_85 c_85 O e_1 ne_62 k_62 r_62 ne_85 k_85 r_85 tab
  subst ne_62
  subst ne_85
  refine f6.l5_in ?_
  unfold f6.l5T
  refine split_dec_e e (fun c146 e => ?_) (fun c146 e => ?_)
  · obtain ⟨y1, g2, e⟩ := bind_e e
    refine r_85.addr rfl g2 fun a3 cs4 ha5 hc6 he7 => ?_
    refine ⟨_, ldAn O.s hc6 rfl, ?_⟩
    refine O.new fun h8 x9 O10 => ?_
    refine ⟨_, rfl, (T_api_Make.T.len _ _ _ he7), ?_⟩
    refine O10.stA 1 rfl (T_api_Make.T.len _ _ _ he7) (T_api_Make.T.flat _ _ _ he7) fun h12 O13 => ?_
    refine ⟨_, ld0 (Sub.refl _) (O13.all 1 rfl) (T_api_Make.g0 he7), _, rfl, ?_⟩
    obtain ⟨y19, g20, e⟩ := bind_e e
    obtain ⟨y39, g40, e⟩ := bind_e e
    refine ⟨?_, ?_⟩
    · refine O13.new fun h48 x49 O50 => ?_
      refine ⟨?_, ?_⟩
      · have O52 := O50.rowE (l := ([y1.Name] : List ByteArray)) 2 rfl tell_str (show CsE _ _ _ _ _ from (CsE.cons (c1 := [(Value.string y1.Name)]) rfl rfl CsE.nil)) rfl
        have O59 := O52.nm
        obtain ⟨m60, u61, s66, ⟨⟨r64, k65⟩, _⟩, B62, C63⟩ := O59.lend0 [2]
        replace r64 : Rd 1 eStr m60 (some ⟨(Array.size h12), 0, none⟩) ([y1.Name] : List ByteArray) := r64
        replace k65 : List.length ([y1.Name] : List ByteArray) ≤ 1 := k65
        refine (roadref2_texts.walk (Hold.start (W := No) s66) rfl k65 r64 (TBg.sub tab u61) g20).mono ?_
        rintro _ h55 ⟨m56, Q57, rfl⟩
        have O67 := Hold.nm (C63 Q57 vfs_nil)
        refine ⟨_, rfl, ?_⟩
        obtain ⟨A68, c69, q70, k71, r72⟩ := T_api_Make.g1 he7
        refine ⟨_, ldk (k := 1) (Sub.refl _) (O67.all 1 rfl) q70, _, _, _, rfl, ?_⟩
        refine ⟨Ext.refl _, ?_⟩
        refine (roadref2_typesMark.walk (Hold.start (W := No) O67.s) rfl k71 r72 tab g40).mono ?_
        rintro _ h75 ⟨m76, Q77, rfl⟩
        have O79 := Hold.nm (O67.retC Q77 vfs_nil)
        refine ⟨_, rfl, ?_⟩
        obtain ⟨g80, e⟩ := guard_e e
        refine ⟨g80, ?_⟩
        obtain ⟨g81, e⟩ := guard_e e
        refine ⟨g81, ?_⟩
        exact (ih _ _ e) _ _ _ _ _ _ _ _ _ _ _ _ _ (O79.pick [0]).nm e_1 rfl k_62 r_62 rfl k_85 r_85 tab
      · obtain ⟨A82, c83, q84, k85, r86⟩ := T_api_Make.g1 he7
        refine ⟨_, ldk (k := 1) (Sub.refl _) (O50.all 1 rfl) q84, _, _, _, rfl, ?_⟩
        refine ⟨Ext.refl _, ?_⟩
        have O87 := O50.rowE (l := ([y1.Name] : List ByteArray)) 2 rfl tell_str (show CsE _ _ _ _ _ from (CsE.cons (c1 := [(Value.string y1.Name)]) rfl rfl CsE.nil)) rfl
        have O94 := O87.nm
        obtain ⟨m95, u96, s101, ⟨⟨r99, k100⟩, _⟩, B97, C98⟩ := O94.lend0 [2]
        replace r99 : Rd 1 eStr m95 (some ⟨(Array.size h12), 0, none⟩) ([y1.Name] : List ByteArray) := r99
        replace k100 : List.length ([y1.Name] : List ByteArray) ≤ 1 := k100
        refine (roadref2_texts.walk (Hold.start (W := No) s101) rfl k100 r99 (TBg.sub tab u96) g20).mono ?_
        rintro _ h90 ⟨m91, Q92, rfl⟩
        have O102 := Hold.nm (C98 Q92 vfs_nil)
        refine ⟨_, rfl, ?_⟩
        refine (roadref2_typesMark.walk (Hold.start (W := No) O102.s) rfl k85 r86 tab g40).mono ?_
        rintro _ h105 ⟨m106, Q107, rfl⟩
        have O109 := Hold.nm (O102.retC Q107 vfs_nil)
        refine ⟨_, rfl, ?_⟩
        obtain ⟨g110, e⟩ := guard_e e
        refine ⟨g110, ?_⟩
        obtain ⟨g111, e⟩ := guard_e e
        refine ⟨g111, ?_⟩
        exact (ih _ _ e) _ _ _ _ _ _ _ _ _ _ _ _ _ (O109.pick [0]).nm e_1 rfl k_62 r_62 rfl k_85 r_85 tab
    · obtain ⟨A112, c113, q114, k115, r116⟩ := T_api_Make.g1 he7
      refine ⟨_, ldk (k := 1) (Sub.refl _) (O13.all 1 rfl) q114, _, _, _, rfl, ?_⟩
      refine ⟨Ext.refl _, ?_⟩
      refine O13.new fun h117 x118 O119 => ?_
      have O121 := O119.rowE (l := ([y1.Name] : List ByteArray)) 2 rfl tell_str (show CsE _ _ _ _ _ from (CsE.cons (c1 := [(Value.string y1.Name)]) rfl rfl CsE.nil)) rfl
      have O128 := O121.nm
      obtain ⟨m129, u130, s135, ⟨⟨r133, k134⟩, _⟩, B131, C132⟩ := O128.lend0 [2]
      replace r133 : Rd 1 eStr m129 (some ⟨(Array.size h12), 0, none⟩) ([y1.Name] : List ByteArray) := r133
      replace k134 : List.length ([y1.Name] : List ByteArray) ≤ 1 := k134
      refine (roadref2_texts.walk (Hold.start (W := No) s135) rfl k134 r133 (TBg.sub tab u130) g20).mono ?_
      rintro _ h124 ⟨m125, Q126, rfl⟩
      have O136 := Hold.nm (C132 Q126 vfs_nil)
      refine ⟨_, rfl, ?_⟩
      refine (roadref2_typesMark.walk (Hold.start (W := No) O136.s) rfl k115 r116 tab g40).mono ?_
      rintro _ h139 ⟨m140, Q141, rfl⟩
      have O143 := Hold.nm (O136.retC Q141 vfs_nil)
      refine ⟨_, rfl, ?_⟩
      obtain ⟨g144, e⟩ := guard_e e
      refine ⟨g144, ?_⟩
      obtain ⟨g145, e⟩ := guard_e e
      refine ⟨g145, ?_⟩
      exact (ih _ _ e) _ _ _ _ _ _ _ _ _ _ _ _ _ (O143.pick [0]).nm e_1 rfl k_62 r_62 rfl k_85 r_85 tab
  · exact (ih _ _ e) _ _ _ _ _ _ _ _ _ _ (O.pick [0]).nm e_1 rfl k_62 r_62 tab
theorem roadref2_Mark.l1_k.all {p : roadref2_Mark.l1_k.Pt} {r : (ByteArray)} (e : roadref2_Mark.l1_k.go p = some r) : roadref2_Mark.l1_k.I p r := fixF_ind (β := fun _ => (ByteArray)) roadref2_Mark.l1_k.mono (I := roadref2_Mark.l1_k.I) (fun go ih p r e => match p with
  | .l1 y_1 s_3 a_62 x_63 x_64 => roadref2_Mark.l1_k.step_l1 go ih y_1 s_3 a_62 x_63 x_64 r e
  | .j1 y_1 s_3 y_7 a_62 x_63 x_64 => roadref2_Mark.l1_k.step_j1 go ih y_1 s_3 y_7 a_62 x_63 x_64 r e
  | .l5 y_1 s_3 a_62 x_63 x_64 a_85 x_86 x_87 => roadref2_Mark.l1_k.step_l5 go ih y_1 s_3 a_62 x_63 x_64 a_85 x_86 x_87 r e
  ) e
theorem roadref2_Mark.l1.walk {W : Nat → Prop} {h0 m0 h m : Heap} {bk_1 : Nat} {cs_1 : List Value} {A_62 : Option Addr} {n_62 c_62 : Nat} {y_1 : T_api_Program} {s_3 : ByteArray} {a_62 : List T_api_Data} {x_63 : Int} {x_64 : Int} (O : Hold W h0 m0 h m [rV bk_1 29 cs_1]) (e_1 : T_api_Program.E m y_1 cs_1) (ne_62 : n_62 = List.length a_62) (k_62 : List.length a_62 ≤ c_62) (r_62 : Rd 3 T_api_Data.E m A_62 a_62) (tab : TB m) {r : ByteArray} (e : roadref2_Mark.l1 y_1 s_3 a_62 x_63 x_64 = some r) : f6.l1 (roadref2_Mark.post W h0 m0 r) (⟨bk_1, 0, none⟩ : Addr) s_3 A_62 n_62 c_62 x_63 x_64 h := roadref2_Mark.l1_k.all (p := .l1 y_1 s_3 a_62 x_63 x_64) e W h0 m0 h m bk_1 cs_1 A_62 n_62 c_62 O e_1 ne_62 k_62 r_62 tab
inductive roadref2_Mark.l0_k.Pt where
  | l0 (y_1 : T_api_Program) (s_3 : ByteArray) (a_41 : List T_api_Use) (x_42 : Int) (x_43 : Int)
noncomputable def roadref2_Mark.l0_k.body (go : (p : roadref2_Mark.l0_k.Pt) → Option (ByteArray)) : (p : roadref2_Mark.l0_k.Pt) → Option (ByteArray)
  | .l0 y_1 s_3 a_41 x_42 x_43 => if x_43 < x_42 then (Option.bind (gi a_41 x_43) fun y1 => Option.bind (roadref2_texts ([y1.Name] : List ByteArray)) fun y19 => Option.bind (roadref2_nums ([y1.Low, y1.High] : List Int)) fun y39 => if ByteArray.size y19 + ByteArray.size y39 ≤ 9223372036854775807 then (if ByteArray.size s_3 + ByteArray.size (y19 ++ y39) ≤ 9223372036854775807 then ((go (.l0 y_1 (s_3 ++ (y19 ++ y39)) a_41 x_42 (IntKind.wrap .i64 (x_43 + (1 : Int)))))) else none) else none) else ((roadref2_Mark.l1 y_1 s_3 y_1.Datas (((List.length y_1.Datas) : Nat) : Int) (0 : Int)))
theorem roadref2_Mark.l0_k.mono : MonoF (β := fun _ => (ByteArray)) roadref2_Mark.l0_k.body := fun f g hfg p => match p with
  | .l0 y_1 s_3 a_41 x_42 x_43 => LeO.ite (LeO.bind (LeO.refl _) fun y1 => LeO.bind (LeO.refl _) fun y19 => LeO.bind (LeO.refl _) fun y39 => LeO.ite (LeO.ite ((hfg _)) (LeO.refl _)) (LeO.refl _)) ((LeO.refl _))
noncomputable def roadref2_Mark.l0_k.go (p : roadref2_Mark.l0_k.Pt) : Option (ByteArray) := fixF (β := fun _ => (ByteArray)) roadref2_Mark.l0_k.body p
noncomputable def roadref2_Mark.l0 (y_1 : T_api_Program) (s_3 : ByteArray) (a_41 : List T_api_Use) (x_42 : Int) (x_43 : Int) : Option (ByteArray) := roadref2_Mark.l0_k.go (.l0 y_1 s_3 a_41 x_42 x_43)
theorem roadref2_Mark.l0_eq (y_1 : T_api_Program) (s_3 : ByteArray) (a_41 : List T_api_Use) (x_42 : Int) (x_43 : Int) : roadref2_Mark.l0 y_1 s_3 a_41 x_42 x_43 = if x_43 < x_42 then (Option.bind (gi a_41 x_43) fun y1 => Option.bind (roadref2_texts ([y1.Name] : List ByteArray)) fun y19 => Option.bind (roadref2_nums ([y1.Low, y1.High] : List Int)) fun y39 => if ByteArray.size y19 + ByteArray.size y39 ≤ 9223372036854775807 then (if ByteArray.size s_3 + ByteArray.size (y19 ++ y39) ≤ 9223372036854775807 then ((roadref2_Mark.l0 y_1 (s_3 ++ (y19 ++ y39)) a_41 x_42 (IntKind.wrap .i64 (x_43 + (1 : Int))))) else none) else none) else ((roadref2_Mark.l1 y_1 s_3 y_1.Datas (((List.length y_1.Datas) : Nat) : Int) (0 : Int))) := fixF_eq roadref2_Mark.l0_k.mono _
def roadref2_Mark.l0_k.I : (p : roadref2_Mark.l0_k.Pt) → (ByteArray) → Prop
  | .l0 y_1 s_3 a_41 x_42 x_43, r => ∀ (W : Nat → Prop) (h0 m0 h m : Heap) (bk_1 : Nat) (cs_1 : List Value) (A_41 : Option Addr) (n_41 c_41 : Nat) (O : Hold W h0 m0 h m [rV bk_1 29 cs_1]) (e_1 : T_api_Program.E m y_1 cs_1) (ne_41 : n_41 = List.length a_41) (k_41 : List.length a_41 ≤ c_41) (r_41 : Rd 3 T_api_Use.E m A_41 a_41) (tab : TB m), f6.l0 (roadref2_Mark.post W h0 m0 r) (⟨bk_1, 0, none⟩ : Addr) s_3 A_41 n_41 c_41 x_42 x_43 h
set_option maxHeartbeats 4000000 in
set_option maxRecDepth 100000 in
theorem roadref2_Mark.l0_k.step_l0 (go : (p : roadref2_Mark.l0_k.Pt) → Option (ByteArray)) (ih : ∀ p r, go p = some r → roadref2_Mark.l0_k.I p r) (y_1 : T_api_Program) (s_3 : ByteArray) (a_41 : List T_api_Use) (x_42 : Int) (x_43 : Int) (r : ByteArray) (e : roadref2_Mark.l0_k.body go (.l0 y_1 s_3 a_41 x_42 x_43) = some r) : roadref2_Mark.l0_k.I (.l0 y_1 s_3 a_41 x_42 x_43) r := by
  unfold roadref2_Mark.l0_k.body at e
  intro W h0 m0 h m bk_1 cs_1 A_41 n_41 c_41 O e_1 ne_41 k_41 r_41 tab
  subst ne_41
  refine f6.l0_in ?_
  unfold f6.l0T
  refine split_dec_e e (fun c183 e => ?_) (fun c183 e => ?_)
  · obtain ⟨y1, g2, e⟩ := bind_e e
    refine r_41.addr rfl g2 fun a3 cs4 ha5 hc6 he7 => ?_
    refine ⟨_, ldAn O.s hc6 rfl, ?_⟩
    refine O.new fun h8 x9 O10 => ?_
    refine ⟨_, rfl, (T_api_Use.T.len _ _ _ he7), ?_⟩
    refine O10.stA 1 rfl (T_api_Use.T.len _ _ _ he7) (T_api_Use.T.flat _ _ _ he7) fun h12 O13 => ?_
    refine ⟨_, ld0 (Sub.refl _) (O13.all 1 rfl) (T_api_Use.g0 he7), _, rfl, ?_⟩
    refine ⟨_, ldk (k := 1) (Sub.refl _) (O13.all 1 rfl) (T_api_Use.g1 he7), _, rfl, ?_⟩
    refine ⟨_, ldk (k := 2) (Sub.refl _) (O13.all 1 rfl) (T_api_Use.g2 he7), _, rfl, ?_⟩
    obtain ⟨y19, g20, e⟩ := bind_e e
    obtain ⟨y39, g40, e⟩ := bind_e e
    refine ⟨?_, ?_⟩
    · refine O13.new fun h56 x57 O58 => ?_
      refine ⟨x57, ?_⟩
      refine ⟨?_, ?_⟩
      · have O60 := O58.rowE (l := ([y1.Name] : List ByteArray)) 2 rfl tell_str (show CsE _ _ _ _ _ from (CsE.cons (c1 := [(Value.string y1.Name)]) rfl rfl CsE.nil)) rfl
        have O67 := O60.nm
        obtain ⟨m68, u69, s74, ⟨⟨r72, k73⟩, _⟩, B70, C71⟩ := O67.lend0 [2]
        replace r72 : Rd 1 eStr m68 (some ⟨(Array.size h12), 0, none⟩) ([y1.Name] : List ByteArray) := r72
        replace k73 : List.length ([y1.Name] : List ByteArray) ≤ 1 := k73
        refine (roadref2_texts.walk (Hold.start (W := No) s74) rfl k73 r72 (TBg.sub tab u69) g20).mono ?_
        rintro _ h63 ⟨m64, Q65, rfl⟩
        have O75 := Hold.nm (C71 Q65 vfs_nil)
        refine ⟨_, rfl, ?_⟩
        refine ⟨Q65.S.ext, ?_⟩
        refine O75.new fun h76 x77 O78 => ?_
        refine ⟨x77, ?_⟩
        have O80 := O78.rowE (l := ([y1.Low, y1.High] : List Int)) 3 rfl (tell_int .i64) (show CsE _ _ _ _ _ from (CsE.cons (c1 := [(Value.int .i64 y1.Low)]) rfl rfl (CsE.cons (c1 := [(Value.int .i64 y1.High)]) rfl rfl CsE.nil))) rfl
        have O87 := O80.nm
        obtain ⟨m88, u89, s94, ⟨⟨r92, k93⟩, _⟩, B90, C91⟩ := O87.lend0 [3]
        replace r92 : Rd 1 (eInt .i64) m88 (some ⟨(Array.size h63), 0, none⟩) ([y1.Low, y1.High] : List Int) := r92
        replace k93 : List.length ([y1.Low, y1.High] : List Int) ≤ 2 := k93
        refine (roadref2_nums.walk (Hold.start (W := No) s94) rfl k93 r92 (TBg.sub tab u89) g40).mono ?_
        rintro _ h83 ⟨m84, Q85, rfl⟩
        have O95 := Hold.nm (C91 Q85 vfs_nil)
        refine ⟨_, rfl, ?_⟩
        obtain ⟨g96, e⟩ := guard_e e
        refine ⟨g96, ?_⟩
        obtain ⟨g97, e⟩ := guard_e e
        refine ⟨g97, ?_⟩
        exact (ih _ _ e) _ _ _ _ _ _ _ _ _ _ (O95.pick [0]).nm e_1 rfl k_41 r_41 tab
      · refine O58.new fun h98 x99 O100 => ?_
        refine ⟨x99, ?_⟩
        have O102 := O100.rowE (l := ([y1.Name] : List ByteArray)) 2 rfl tell_str (show CsE _ _ _ _ _ from (CsE.cons (c1 := [(Value.string y1.Name)]) rfl rfl CsE.nil)) rfl
        have O109 := O102.nm
        obtain ⟨m110, u111, s116, ⟨⟨r114, k115⟩, _⟩, B112, C113⟩ := O109.lend0 [2]
        replace r114 : Rd 1 eStr m110 (some ⟨(Array.size h12), 0, none⟩) ([y1.Name] : List ByteArray) := r114
        replace k115 : List.length ([y1.Name] : List ByteArray) ≤ 1 := k115
        refine (roadref2_texts.walk (Hold.start (W := No) s116) rfl k115 r114 (TBg.sub tab u111) g20).mono ?_
        rintro _ h105 ⟨m106, Q107, rfl⟩
        have O117 := Hold.nm (C113 Q107 vfs_nil)
        refine ⟨_, rfl, ?_⟩
        refine ⟨Q107.S.ext, ?_⟩
        have O118 := O117.rowE (l := ([y1.Low, y1.High] : List Int)) 3 rfl (tell_int .i64) (show CsE _ _ _ _ _ from (CsE.cons (c1 := [(Value.int .i64 y1.Low)]) rfl rfl (CsE.cons (c1 := [(Value.int .i64 y1.High)]) rfl rfl CsE.nil))) rfl
        have O125 := O118.nm
        obtain ⟨m126, u127, s132, ⟨⟨r130, k131⟩, _⟩, B128, C129⟩ := O125.lend0 [3]
        replace r130 : Rd 1 (eInt .i64) m126 (some ⟨(Array.size h56), 0, none⟩) ([y1.Low, y1.High] : List Int) := r130
        replace k131 : List.length ([y1.Low, y1.High] : List Int) ≤ 2 := k131
        refine (roadref2_nums.walk (Hold.start (W := No) s132) rfl k131 r130 (TBg.sub tab u127) g40).mono ?_
        rintro _ h121 ⟨m122, Q123, rfl⟩
        have O133 := Hold.nm (C129 Q123 vfs_nil)
        refine ⟨_, rfl, ?_⟩
        obtain ⟨g134, e⟩ := guard_e e
        refine ⟨g134, ?_⟩
        obtain ⟨g135, e⟩ := guard_e e
        refine ⟨g135, ?_⟩
        exact (ih _ _ e) _ _ _ _ _ _ _ _ _ _ (O133.pick [0]).nm e_1 rfl k_41 r_41 tab
    · refine O13.new fun h136 x137 O138 => ?_
      refine ⟨x137, ?_⟩
      refine O138.new fun h140 x141 O142 => ?_
      refine ⟨x141, ?_⟩
      have O144 := O142.rowE (l := ([y1.Name] : List ByteArray)) 3 rfl tell_str (show CsE _ _ _ _ _ from (CsE.cons (c1 := [(Value.string y1.Name)]) rfl rfl CsE.nil)) rfl
      have O151 := O144.nm
      obtain ⟨m152, u153, s158, ⟨⟨r156, k157⟩, _⟩, B154, C155⟩ := O151.lend0 [3]
      replace r156 : Rd 1 eStr m152 (some ⟨(Array.size h136), 0, none⟩) ([y1.Name] : List ByteArray) := r156
      replace k157 : List.length ([y1.Name] : List ByteArray) ≤ 1 := k157
      refine (roadref2_texts.walk (Hold.start (W := No) s158) rfl k157 r156 (TBg.sub tab u153) g20).mono ?_
      rintro _ h147 ⟨m148, Q149, rfl⟩
      have O159 := Hold.nm (C155 Q149 vfs_nil)
      refine ⟨_, rfl, ?_⟩
      refine ⟨Q149.S.ext, ?_⟩
      have O160 := O159.rowE (l := ([y1.Low, y1.High] : List Int)) 2 rfl (tell_int .i64) (show CsE _ _ _ _ _ from (CsE.cons (c1 := [(Value.int .i64 y1.Low)]) rfl rfl (CsE.cons (c1 := [(Value.int .i64 y1.High)]) rfl rfl CsE.nil))) rfl
      have O167 := O160.nm
      obtain ⟨m168, u169, s174, ⟨⟨r172, k173⟩, _⟩, B170, C171⟩ := O167.lend0 [2]
      replace r172 : Rd 1 (eInt .i64) m168 (some ⟨(Array.size h12), 0, none⟩) ([y1.Low, y1.High] : List Int) := r172
      replace k173 : List.length ([y1.Low, y1.High] : List Int) ≤ 2 := k173
      refine (roadref2_nums.walk (Hold.start (W := No) s174) rfl k173 r172 (TBg.sub tab u169) g40).mono ?_
      rintro _ h163 ⟨m164, Q165, rfl⟩
      have O175 := Hold.nm (C171 Q165 vfs_nil)
      refine ⟨_, rfl, ?_⟩
      obtain ⟨g176, e⟩ := guard_e e
      refine ⟨g176, ?_⟩
      obtain ⟨g177, e⟩ := guard_e e
      refine ⟨g177, ?_⟩
      exact (ih _ _ e) _ _ _ _ _ _ _ _ _ _ (O175.pick [0]).nm e_1 rfl k_41 r_41 tab
  · obtain ⟨A178, c179, q180, k181, r182⟩ := T_api_Program.g3 e_1
    refine ⟨_, ldk (k := 3) (Sub.refl _) (O.all 0 rfl) q180, _, _, _, rfl, ?_⟩
    exact roadref2_Mark.l1.walk (O.pick [0]).nm e_1 rfl k181 r182 tab e
theorem roadref2_Mark.l0_k.all {p : roadref2_Mark.l0_k.Pt} {r : (ByteArray)} (e : roadref2_Mark.l0_k.go p = some r) : roadref2_Mark.l0_k.I p r := fixF_ind (β := fun _ => (ByteArray)) roadref2_Mark.l0_k.mono (I := roadref2_Mark.l0_k.I) (fun go ih p r e => match p with
  | .l0 y_1 s_3 a_41 x_42 x_43 => roadref2_Mark.l0_k.step_l0 go ih y_1 s_3 a_41 x_42 x_43 r e
  ) e
theorem roadref2_Mark.l0.walk {W : Nat → Prop} {h0 m0 h m : Heap} {bk_1 : Nat} {cs_1 : List Value} {A_41 : Option Addr} {n_41 c_41 : Nat} {y_1 : T_api_Program} {s_3 : ByteArray} {a_41 : List T_api_Use} {x_42 : Int} {x_43 : Int} (O : Hold W h0 m0 h m [rV bk_1 29 cs_1]) (e_1 : T_api_Program.E m y_1 cs_1) (ne_41 : n_41 = List.length a_41) (k_41 : List.length a_41 ≤ c_41) (r_41 : Rd 3 T_api_Use.E m A_41 a_41) (tab : TB m) {r : ByteArray} (e : roadref2_Mark.l0 y_1 s_3 a_41 x_42 x_43 = some r) : f6.l0 (roadref2_Mark.post W h0 m0 r) (⟨bk_1, 0, none⟩ : Addr) s_3 A_41 n_41 c_41 x_42 x_43 h := roadref2_Mark.l0_k.all (p := .l0 y_1 s_3 a_41 x_42 x_43) e W h0 m0 h m bk_1 cs_1 A_41 n_41 c_41 O e_1 ne_41 k_41 r_41 tab
noncomputable def roadref2_Mark.j0 (y_1 : T_api_Program) (s_3 : ByteArray) : Option (ByteArray) :=
  (roadref2_Mark.l0 y_1 s_3 y_1.Uses (((List.length y_1.Uses) : Nat) : Int) (0 : Int))
set_option maxRecDepth 100000 in
theorem roadref2_Mark.j0.walk {W : Nat → Prop} {h0 m0 h m : Heap} {bk_1 : Nat} {cs_1 : List Value} {y_1 : T_api_Program} {s_3 : ByteArray} (O : Hold W h0 m0 h m [rV bk_1 29 cs_1]) (e_1 : T_api_Program.E m y_1 cs_1) (tab : TB m) {r : ByteArray} (e : roadref2_Mark.j0 y_1 s_3 = some r) : f6.j0 (roadref2_Mark.post W h0 m0 r) (⟨bk_1, 0, none⟩ : Addr) s_3 h := by
  unfold roadref2_Mark.j0 at e
  refine f6.j0_in ?_
  unfold f6.j0T
  obtain ⟨A1, c2, q3, k4, r5⟩ := T_api_Program.g2 e_1
  refine ⟨_, ldk (k := 2) (Sub.refl _) (O.all 0 rfl) q3, _, _, _, rfl, ?_⟩
  exact roadref2_Mark.l0.walk (O.pick [0]).nm e_1 rfl k4 r5 tab e
noncomputable def roadref2_Mark (y_0 : T_api_Program) : Option (ByteArray) :=
  Option.bind (roadref2_texts ([y_0.Name] : List ByteArray)) fun y35 => Option.bind (roadref2_nums ([y_0.Version, (((List.length y_0.Uses) : Nat) : Int), (((List.length y_0.Datas) : Nat) : Int), (((List.length y_0.Traits) : Nat) : Int), (((List.length y_0.Impls) : Nat) : Int), (((List.length y_0.Actors) : Nat) : Int)] : List Int)) fun y55 => if ByteArray.size y35 + ByteArray.size y55 ≤ 9223372036854775807 then ((roadref2_Mark.j0 y_0 (y35 ++ y55))) else none
set_option maxHeartbeats 4000000 in
set_option maxRecDepth 100000 in
theorem roadref2_Mark.walk {W : Nat → Prop} {h m : Heap} {cs_0 : List Value} {y_0 : T_api_Program} (O : Hold W h m h m []) (e_0 : T_api_Program.E m y_0 cs_0) (tab : TB m) {r : ByteArray} (e : roadref2_Mark y_0 = some r) : Run Tryd.prog 6 #[Value.agg cs_0.toArray] h (roadref2_Mark.post W h m r) := by
  unfold roadref2_Mark at e
  refine f6.run ?_
  unfold f6.runT
  refine O.new fun h1 x2 O3 => ?_
  refine ⟨_, ld0 (Sub.refl _) (O3.all 0 rfl) (T_api_Program.g0 e_0), _, rfl, ?_⟩
  refine ⟨_, ldk (k := 1) (Sub.refl _) (O3.all 0 rfl) (T_api_Program.g1 e_0), _, rfl, ?_⟩
  obtain ⟨A5, c6, q7, k8, r9⟩ := T_api_Program.g2 e_0
  refine ⟨_, ldk (k := 2) (Sub.refl _) (O3.all 0 rfl) q7, _, _, _, rfl, ?_⟩
  obtain ⟨A10, c11, q12, k13, r14⟩ := T_api_Program.g3 e_0
  refine ⟨_, ldk (k := 3) (Sub.refl _) (O3.all 0 rfl) q12, _, _, _, rfl, ?_⟩
  obtain ⟨A15, c16, q17, k18, r19⟩ := T_api_Program.g4 e_0
  refine ⟨_, ldk (k := 4) (Sub.refl _) (O3.all 0 rfl) q17, _, _, _, rfl, ?_⟩
  obtain ⟨A20, c21, q22, k23, r24⟩ := T_api_Program.g5 e_0
  refine ⟨_, ldk (k := 5) (Sub.refl _) (O3.all 0 rfl) q22, _, _, _, rfl, ?_⟩
  obtain ⟨A25, c26, q27, k28, r29⟩ := T_api_Program.g7 e_0
  refine ⟨_, ldk (k := 7) (Sub.refl _) (O3.all 0 rfl) q27, _, _, _, rfl, ?_⟩
  obtain ⟨y35, g36, e⟩ := bind_e e
  obtain ⟨y55, g56, e⟩ := bind_e e
  refine ⟨?_, ?_⟩
  · refine O3.new fun h71 x72 O73 => ?_
    refine ⟨x72, ?_⟩
    refine ⟨?_, ?_⟩
    · have O75 := O73.rowE (l := ([y_0.Name] : List ByteArray)) 1 rfl tell_str (show CsE _ _ _ _ _ from (CsE.cons (c1 := [(Value.string y_0.Name)]) rfl rfl CsE.nil)) rfl
      have O82 := O75.nm
      obtain ⟨m83, u84, s89, ⟨⟨r87, k88⟩, _⟩, B85, C86⟩ := O82.lend0 [1]
      replace r87 : Rd 1 eStr m83 (some ⟨(Array.size h1), 0, none⟩) ([y_0.Name] : List ByteArray) := r87
      replace k88 : List.length ([y_0.Name] : List ByteArray) ≤ 1 := k88
      refine (roadref2_texts.walk (Hold.start (W := No) s89) rfl k88 r87 (TBg.sub tab u84) g36).mono ?_
      rintro _ h78 ⟨m79, Q80, rfl⟩
      have O90 := Hold.nm (C86 Q80 vfs_nil)
      refine ⟨_, rfl, ?_⟩
      refine ⟨Q80.S.ext, ?_⟩
      refine O90.new fun h91 x92 O93 => ?_
      refine ⟨x92, ?_⟩
      have O95 := O93.rowE (l := ([y_0.Version, (((List.length y_0.Uses) : Nat) : Int), (((List.length y_0.Datas) : Nat) : Int), (((List.length y_0.Traits) : Nat) : Int), (((List.length y_0.Impls) : Nat) : Int), (((List.length y_0.Actors) : Nat) : Int)] : List Int)) 2 rfl (tell_int .i64) (show CsE _ _ _ _ _ from (CsE.cons (c1 := [(Value.int .i64 y_0.Version)]) rfl rfl (CsE.cons (c1 := [(Value.int .i64 (((List.length y_0.Uses) : Nat) : Int))]) rfl rfl (CsE.cons (c1 := [(Value.int .i64 (((List.length y_0.Datas) : Nat) : Int))]) rfl rfl (CsE.cons (c1 := [(Value.int .i64 (((List.length y_0.Traits) : Nat) : Int))]) rfl rfl (CsE.cons (c1 := [(Value.int .i64 (((List.length y_0.Impls) : Nat) : Int))]) rfl rfl (CsE.cons (c1 := [(Value.int .i64 (((List.length y_0.Actors) : Nat) : Int))]) rfl rfl CsE.nil))))))) rfl
      have O102 := O95.nm
      obtain ⟨m103, u104, s109, ⟨⟨r107, k108⟩, _⟩, B105, C106⟩ := O102.lend0 [2]
      replace r107 : Rd 1 (eInt .i64) m103 (some ⟨(Array.size h78), 0, none⟩) ([y_0.Version, (((List.length y_0.Uses) : Nat) : Int), (((List.length y_0.Datas) : Nat) : Int), (((List.length y_0.Traits) : Nat) : Int), (((List.length y_0.Impls) : Nat) : Int), (((List.length y_0.Actors) : Nat) : Int)] : List Int) := r107
      replace k108 : List.length ([y_0.Version, (((List.length y_0.Uses) : Nat) : Int), (((List.length y_0.Datas) : Nat) : Int), (((List.length y_0.Traits) : Nat) : Int), (((List.length y_0.Impls) : Nat) : Int), (((List.length y_0.Actors) : Nat) : Int)] : List Int) ≤ 6 := k108
      refine (roadref2_nums.walk (Hold.start (W := No) s109) rfl k108 r107 (TBg.sub tab u104) g56).mono ?_
      rintro _ h98 ⟨m99, Q100, rfl⟩
      have O110 := Hold.nm (C106 Q100 vfs_nil)
      refine ⟨_, rfl, ?_⟩
      obtain ⟨g111, e⟩ := guard_e e
      refine ⟨g111, ?_⟩
      exact roadref2_Mark.j0.walk (O110.pick [0]).nm e_0 tab e
    · refine O73.new fun h112 x113 O114 => ?_
      refine ⟨x113, ?_⟩
      have O116 := O114.rowE (l := ([y_0.Name] : List ByteArray)) 1 rfl tell_str (show CsE _ _ _ _ _ from (CsE.cons (c1 := [(Value.string y_0.Name)]) rfl rfl CsE.nil)) rfl
      have O123 := O116.nm
      obtain ⟨m124, u125, s130, ⟨⟨r128, k129⟩, _⟩, B126, C127⟩ := O123.lend0 [1]
      replace r128 : Rd 1 eStr m124 (some ⟨(Array.size h1), 0, none⟩) ([y_0.Name] : List ByteArray) := r128
      replace k129 : List.length ([y_0.Name] : List ByteArray) ≤ 1 := k129
      refine (roadref2_texts.walk (Hold.start (W := No) s130) rfl k129 r128 (TBg.sub tab u125) g36).mono ?_
      rintro _ h119 ⟨m120, Q121, rfl⟩
      have O131 := Hold.nm (C127 Q121 vfs_nil)
      refine ⟨_, rfl, ?_⟩
      refine ⟨Q121.S.ext, ?_⟩
      have O132 := O131.rowE (l := ([y_0.Version, (((List.length y_0.Uses) : Nat) : Int), (((List.length y_0.Datas) : Nat) : Int), (((List.length y_0.Traits) : Nat) : Int), (((List.length y_0.Impls) : Nat) : Int), (((List.length y_0.Actors) : Nat) : Int)] : List Int)) 2 rfl (tell_int .i64) (show CsE _ _ _ _ _ from (CsE.cons (c1 := [(Value.int .i64 y_0.Version)]) rfl rfl (CsE.cons (c1 := [(Value.int .i64 (((List.length y_0.Uses) : Nat) : Int))]) rfl rfl (CsE.cons (c1 := [(Value.int .i64 (((List.length y_0.Datas) : Nat) : Int))]) rfl rfl (CsE.cons (c1 := [(Value.int .i64 (((List.length y_0.Traits) : Nat) : Int))]) rfl rfl (CsE.cons (c1 := [(Value.int .i64 (((List.length y_0.Impls) : Nat) : Int))]) rfl rfl (CsE.cons (c1 := [(Value.int .i64 (((List.length y_0.Actors) : Nat) : Int))]) rfl rfl CsE.nil))))))) rfl
      have O139 := O132.nm
      obtain ⟨m140, u141, s146, ⟨⟨r144, k145⟩, _⟩, B142, C143⟩ := O139.lend0 [2]
      replace r144 : Rd 1 (eInt .i64) m140 (some ⟨(Array.size h71), 0, none⟩) ([y_0.Version, (((List.length y_0.Uses) : Nat) : Int), (((List.length y_0.Datas) : Nat) : Int), (((List.length y_0.Traits) : Nat) : Int), (((List.length y_0.Impls) : Nat) : Int), (((List.length y_0.Actors) : Nat) : Int)] : List Int) := r144
      replace k145 : List.length ([y_0.Version, (((List.length y_0.Uses) : Nat) : Int), (((List.length y_0.Datas) : Nat) : Int), (((List.length y_0.Traits) : Nat) : Int), (((List.length y_0.Impls) : Nat) : Int), (((List.length y_0.Actors) : Nat) : Int)] : List Int) ≤ 6 := k145
      refine (roadref2_nums.walk (Hold.start (W := No) s146) rfl k145 r144 (TBg.sub tab u141) g56).mono ?_
      rintro _ h135 ⟨m136, Q137, rfl⟩
      have O147 := Hold.nm (C143 Q137 vfs_nil)
      refine ⟨_, rfl, ?_⟩
      obtain ⟨g148, e⟩ := guard_e e
      refine ⟨g148, ?_⟩
      exact roadref2_Mark.j0.walk (O147.pick [0]).nm e_0 tab e
  · refine O3.new fun h149 x150 O151 => ?_
    refine ⟨x150, ?_⟩
    refine O151.new fun h153 x154 O155 => ?_
    refine ⟨x154, ?_⟩
    have O157 := O155.rowE (l := ([y_0.Name] : List ByteArray)) 2 rfl tell_str (show CsE _ _ _ _ _ from (CsE.cons (c1 := [(Value.string y_0.Name)]) rfl rfl CsE.nil)) rfl
    have O164 := O157.nm
    obtain ⟨m165, u166, s171, ⟨⟨r169, k170⟩, _⟩, B167, C168⟩ := O164.lend0 [2]
    replace r169 : Rd 1 eStr m165 (some ⟨(Array.size h149), 0, none⟩) ([y_0.Name] : List ByteArray) := r169
    replace k170 : List.length ([y_0.Name] : List ByteArray) ≤ 1 := k170
    refine (roadref2_texts.walk (Hold.start (W := No) s171) rfl k170 r169 (TBg.sub tab u166) g36).mono ?_
    rintro _ h160 ⟨m161, Q162, rfl⟩
    have O172 := Hold.nm (C168 Q162 vfs_nil)
    refine ⟨_, rfl, ?_⟩
    refine ⟨Q162.S.ext, ?_⟩
    have O173 := O172.rowE (l := ([y_0.Version, (((List.length y_0.Uses) : Nat) : Int), (((List.length y_0.Datas) : Nat) : Int), (((List.length y_0.Traits) : Nat) : Int), (((List.length y_0.Impls) : Nat) : Int), (((List.length y_0.Actors) : Nat) : Int)] : List Int)) 1 rfl (tell_int .i64) (show CsE _ _ _ _ _ from (CsE.cons (c1 := [(Value.int .i64 y_0.Version)]) rfl rfl (CsE.cons (c1 := [(Value.int .i64 (((List.length y_0.Uses) : Nat) : Int))]) rfl rfl (CsE.cons (c1 := [(Value.int .i64 (((List.length y_0.Datas) : Nat) : Int))]) rfl rfl (CsE.cons (c1 := [(Value.int .i64 (((List.length y_0.Traits) : Nat) : Int))]) rfl rfl (CsE.cons (c1 := [(Value.int .i64 (((List.length y_0.Impls) : Nat) : Int))]) rfl rfl (CsE.cons (c1 := [(Value.int .i64 (((List.length y_0.Actors) : Nat) : Int))]) rfl rfl CsE.nil))))))) rfl
    have O180 := O173.nm
    obtain ⟨m181, u182, s187, ⟨⟨r185, k186⟩, _⟩, B183, C184⟩ := O180.lend0 [1]
    replace r185 : Rd 1 (eInt .i64) m181 (some ⟨(Array.size h1), 0, none⟩) ([y_0.Version, (((List.length y_0.Uses) : Nat) : Int), (((List.length y_0.Datas) : Nat) : Int), (((List.length y_0.Traits) : Nat) : Int), (((List.length y_0.Impls) : Nat) : Int), (((List.length y_0.Actors) : Nat) : Int)] : List Int) := r185
    replace k186 : List.length ([y_0.Version, (((List.length y_0.Uses) : Nat) : Int), (((List.length y_0.Datas) : Nat) : Int), (((List.length y_0.Traits) : Nat) : Int), (((List.length y_0.Impls) : Nat) : Int), (((List.length y_0.Actors) : Nat) : Int)] : List Int) ≤ 6 := k186
    refine (roadref2_nums.walk (Hold.start (W := No) s187) rfl k186 r185 (TBg.sub tab u182) g56).mono ?_
    rintro _ h176 ⟨m177, Q178, rfl⟩
    have O188 := Hold.nm (C184 Q178 vfs_nil)
    refine ⟨_, rfl, ?_⟩
    obtain ⟨g189, e⟩ := guard_e e
    refine ⟨g189, ?_⟩
    exact roadref2_Mark.j0.walk (O188.pick [0]).nm e_0 tab e
def roadlaw2_cut_7.post (W : Nat → Prop) (h0 m0 : Heap) (r : (List T_api_Use)) (v : Value) (h : Heap) : Prop := ∃ m A0 n0 c0, Hold W h0 m0 h m [rR (aE T_api_Use.T) A0 c0 r] ∧ v = .slice A0 n0 c0 ∧ n0 = List.length r
inductive roadlaw2_cut_7.l0_k.Pt where
  | l0 (x_1 : Int) (a_5 : List T_api_Use) (a_8 : List T_api_Use) (x_9 : Int) (x_10 : Int)
noncomputable def roadlaw2_cut_7.l0_k.body (go : (p : roadlaw2_cut_7.l0_k.Pt) → Option ((List T_api_Use))) : (p : roadlaw2_cut_7.l0_k.Pt) → Option ((List T_api_Use))
  | .l0 x_1 a_5 a_8 x_9 x_10 => if x_10 < x_9 then (Option.bind (gi a_8 x_10) fun y1 => if x_10 = x_1 then ((go (.l0 x_1 a_5 a_8 x_9 (IntKind.wrap .i64 (x_10 + (1 : Int)))))) else (Option.bind (ap 32 a_5 ([y1] : List T_api_Use)) fun l19 => (go (.l0 x_1 l19 a_8 x_9 (IntKind.wrap .i64 (x_10 + (1 : Int))))))) else (some (a_5))
theorem roadlaw2_cut_7.l0_k.mono : MonoF (β := fun _ => ((List T_api_Use))) roadlaw2_cut_7.l0_k.body := fun f g hfg p => match p with
  | .l0 x_1 a_5 a_8 x_9 x_10 => LeO.ite (LeO.bind (LeO.refl _) fun y1 => LeO.ite ((hfg _)) (LeO.bind (LeO.refl _) fun l19 => (hfg _))) (LeO.refl _)
noncomputable def roadlaw2_cut_7.l0_k.go (p : roadlaw2_cut_7.l0_k.Pt) : Option ((List T_api_Use)) := fixF (β := fun _ => ((List T_api_Use))) roadlaw2_cut_7.l0_k.body p
noncomputable def roadlaw2_cut_7.l0 (x_1 : Int) (a_5 : List T_api_Use) (a_8 : List T_api_Use) (x_9 : Int) (x_10 : Int) : Option ((List T_api_Use)) := roadlaw2_cut_7.l0_k.go (.l0 x_1 a_5 a_8 x_9 x_10)
theorem roadlaw2_cut_7.l0_eq (x_1 : Int) (a_5 : List T_api_Use) (a_8 : List T_api_Use) (x_9 : Int) (x_10 : Int) : roadlaw2_cut_7.l0 x_1 a_5 a_8 x_9 x_10 = if x_10 < x_9 then (Option.bind (gi a_8 x_10) fun y1 => if x_10 = x_1 then ((roadlaw2_cut_7.l0 x_1 a_5 a_8 x_9 (IntKind.wrap .i64 (x_10 + (1 : Int))))) else (Option.bind (ap 32 a_5 ([y1] : List T_api_Use)) fun l19 => (roadlaw2_cut_7.l0 x_1 l19 a_8 x_9 (IntKind.wrap .i64 (x_10 + (1 : Int)))))) else (some (a_5)) := fixF_eq roadlaw2_cut_7.l0_k.mono _
def roadlaw2_cut_7.l0_k.I : (p : roadlaw2_cut_7.l0_k.Pt) → ((List T_api_Use)) → Prop
  | .l0 x_1 a_5 a_8 x_9 x_10, r => ∀ (W : Nat → Prop) (h0 m0 h m : Heap) (A_5 : Option Addr) (n_5 c_5 : Nat) (A_8 : Option Addr) (n_8 c_8 : Nat) (O : Hold W h0 m0 h m [rR (aE T_api_Use.T) A_5 c_5 a_5]) (ne_5 : n_5 = List.length a_5) (ne_8 : n_8 = List.length a_8) (k_8 : List.length a_8 ≤ c_8) (r_8 : Rd 3 T_api_Use.E m A_8 a_8), f7.l0 (roadlaw2_cut_7.post W h0 m0 r) x_1 A_5 n_5 c_5 A_8 n_8 c_8 x_9 x_10 h
set_option maxRecDepth 100000 in
theorem roadlaw2_cut_7.l0_k.step_l0 (go : (p : roadlaw2_cut_7.l0_k.Pt) → Option ((List T_api_Use))) (ih : ∀ p r, go p = some r → roadlaw2_cut_7.l0_k.I p r) (x_1 : Int) (a_5 : List T_api_Use) (a_8 : List T_api_Use) (x_9 : Int) (x_10 : Int) (r : (List T_api_Use)) (e : roadlaw2_cut_7.l0_k.body go (.l0 x_1 a_5 a_8 x_9 x_10) = some r) : roadlaw2_cut_7.l0_k.I (.l0 x_1 a_5 a_8 x_9 x_10) r := by
  unfold roadlaw2_cut_7.l0_k.body at e
  intro W h0 m0 h m A_5 n_5 c_5 A_8 n_8 c_8 O ne_5 ne_8 k_8 r_8
  subst ne_5
  subst ne_8
  refine f7.l0_in ?_
  unfold f7.l0T
  refine split_dec_e e (fun c31 e => ?_) (fun c31 e => ?_)
  · obtain ⟨y1, g2, e⟩ := bind_e e
    refine r_8.addr rfl g2 fun a3 cs4 ha5 hc6 he7 => ?_
    refine ⟨_, ldAn O.s hc6 rfl, ?_⟩
    refine O.new fun h8 x9 O10 => ?_
    refine ⟨_, rfl, (T_api_Use.T.len _ _ _ he7), ?_⟩
    refine O10.stA 1 rfl (T_api_Use.T.len _ _ _ he7) (T_api_Use.T.flat _ _ _ he7) fun h12 O13 => ?_
    refine split_ne_e e (fun c30 e => ?_) (fun c30 e => ?_)
    · refine ⟨_, ldAn (Sub.refl _) (O13.all 1 rfl) (T_api_Use.T.len _ _ _ he7), ?_⟩
      refine ⟨cs4, rfl, (T_api_Use.T.len _ _ _ he7), ?_⟩
      refine O13.new fun h14 x15 O16 => ?_
      have O18 := O16.recell 2 rfl (cs' := cs4 ++ []) rfl
      obtain ⟨l19, g20, e⟩ := bind_e e
      have O27 := O18.rowE (l := ([y1] : List T_api_Use)) 2 rfl T_api_Use.T (show CsE _ _ _ _ _ from (CsE.cons he7 (T_api_Use.T.len _ _ _ he7) CsE.nil)) rfl
      refine O27.app 0 rfl rfl rfl ((O27.os 2 rfl).srcE rfl) (by decide) g20 fun A21 c22 h23 O24 => ?_
      refine ⟨_, _, _, rfl, ?_⟩
      have O28 := O24.nm
      exact (ih _ _ e) _ _ _ _ _ _ _ _ _ _ _ (O28.pick [0]).nm rfl rfl k_8 r_8
    · have O29 := O13.nm
      exact (ih _ _ e) _ _ _ _ _ _ _ _ _ _ _ (O29.pick [0]).nm rfl rfl k_8 r_8
  · cases e
    exact ⟨_, _, _, _, O.pick [0], rfl, rfl⟩
theorem roadlaw2_cut_7.l0_k.all {p : roadlaw2_cut_7.l0_k.Pt} {r : ((List T_api_Use))} (e : roadlaw2_cut_7.l0_k.go p = some r) : roadlaw2_cut_7.l0_k.I p r := fixF_ind (β := fun _ => ((List T_api_Use))) roadlaw2_cut_7.l0_k.mono (I := roadlaw2_cut_7.l0_k.I) (fun go ih p r e => match p with
  | .l0 x_1 a_5 a_8 x_9 x_10 => roadlaw2_cut_7.l0_k.step_l0 go ih x_1 a_5 a_8 x_9 x_10 r e
  ) e
theorem roadlaw2_cut_7.l0.walk {W : Nat → Prop} {h0 m0 h m : Heap} {A_5 : Option Addr} {n_5 c_5 : Nat} {A_8 : Option Addr} {n_8 c_8 : Nat} {x_1 : Int} {a_5 : List T_api_Use} {a_8 : List T_api_Use} {x_9 : Int} {x_10 : Int} (O : Hold W h0 m0 h m [rR (aE T_api_Use.T) A_5 c_5 a_5]) (ne_5 : n_5 = List.length a_5) (ne_8 : n_8 = List.length a_8) (k_8 : List.length a_8 ≤ c_8) (r_8 : Rd 3 T_api_Use.E m A_8 a_8) {r : (List T_api_Use)} (e : roadlaw2_cut_7.l0 x_1 a_5 a_8 x_9 x_10 = some r) : f7.l0 (roadlaw2_cut_7.post W h0 m0 r) x_1 A_5 n_5 c_5 A_8 n_8 c_8 x_9 x_10 h := roadlaw2_cut_7.l0_k.all (p := .l0 x_1 a_5 a_8 x_9 x_10) e W h0 m0 h m A_5 n_5 c_5 A_8 n_8 c_8 O ne_5 ne_8 k_8 r_8
noncomputable def roadlaw2_cut_7 (a_0 : List T_api_Use) (x_1 : Int) : Option ((List T_api_Use)) :=
  (roadlaw2_cut_7.l0 x_1 ([] : List T_api_Use) a_0 (((List.length a_0) : Nat) : Int) (0 : Int))
set_option maxRecDepth 100000 in
theorem roadlaw2_cut_7.walk {W : Nat → Prop} {h m : Heap} {A_0 : Option Addr} {n_0 c_0 : Nat} {a_0 : List T_api_Use} {x_1 : Int} (O : Hold W h m h m []) (ne_0 : n_0 = List.length a_0) (k_0 : List.length a_0 ≤ c_0) (r_0 : Rd 3 T_api_Use.E m A_0 a_0) {r : (List T_api_Use)} (e : roadlaw2_cut_7 a_0 x_1 = some r) : Run Tryd.prog 7 #[Value.slice A_0 n_0 c_0, Value.int .i64 x_1] h (roadlaw2_cut_7.post W h m r) := by
  unfold roadlaw2_cut_7 at e
  subst ne_0
  refine f7.run ?_
  unfold f7.runT
  have O1 := O.nil (aE T_api_Use.T) none
  have O3 := O1.nm
  exact roadlaw2_cut_7.l0.walk (O3.pick [0]).nm rfl rfl k_0 r_0 e
def roadlaw2_dropNext.post (W : Nat → Prop) (bkio0 : Nat) (h0 m0 : Heap) (r : Int × Int) (v : Value) (h : Heap) : Prop := ∃ m csio0, Hold W h0 m0 h m [rV bkio0 3 csio0] ∧ v = .int .i64 r.1 ∧ (eInt .i64) m r.2 csio0
noncomputable def roadlaw2_dropNext.j0 (x_5 : Int) (b_21 : Bool) (y_io0 : Int) : Option (Int × Int) :=
  if b_21 = true then (some (x_5, y_io0)) else (some ((-1 : Int), y_io0))
set_option maxRecDepth 100000 in
theorem roadlaw2_dropNext.j0.walk {W : Nat → Prop} {h0 m0 h m : Heap} {bk_io0 : Nat} {cs_io0 : List Value} {x_5 : Int} {b_21 : Bool} {y_io0 : Int} (O : Hold W h0 m0 h m [rV bk_io0 3 cs_io0]) (e_io0 : (eInt .i64) m y_io0 cs_io0) {r : Int × Int} (e : roadlaw2_dropNext.j0 x_5 b_21 y_io0 = some r) : f8.j0 (roadlaw2_dropNext.post W bk_io0 h0 m0 r) x_5 b_21 h := by
  unfold roadlaw2_dropNext.j0 at e
  obtain rfl : cs_io0 = [(Value.int .i64 y_io0)] := e_io0
  refine f8.j0_in ?_
  unfold f8.j0T
  refine split_any_e e (fun c1 e => ?_) (fun c1 e => ?_)
  · cases e
    exact ⟨_, _, O.pick [0], rfl, rfl⟩
  · cases e
    exact ⟨_, _, O.pick [0], rfl, rfl⟩
noncomputable def roadlaw2_dropNext (y_0 : Int) (x_1 : Int) : Option (Int × Int) :=
  if y_0 ≥ (0 : Int) then ((roadlaw2_dropNext.j0 y_0 (decide (y_0 < x_1)) (IntKind.wrap .i64 (y_0 - x_1)))) else ((roadlaw2_dropNext.j0 y_0 false (IntKind.wrap .i64 (y_0 - x_1))))
set_option maxRecDepth 100000 in
theorem roadlaw2_dropNext.walk {W : Nat → Prop} {h m : Heap} {bkio0 : Nat} {cs_0 : List Value} {y_0 : Int} {x_1 : Int} (O : Hold W h m h m [rV bkio0 3 cs_0]) (e_0 : (eInt .i64) m y_0 cs_0) {r : Int × Int} (e : roadlaw2_dropNext y_0 x_1 = some r) : Run Tryd.prog 8 #[Value.pointer (some ⟨bkio0, 0, none⟩), Value.int .i64 x_1] h (roadlaw2_dropNext.post W bkio0 h m r) := by
  unfold roadlaw2_dropNext at e
  obtain rfl : cs_0 = [(Value.int .i64 y_0)] := e_0
  refine f8.run ?_
  unfold f8.runT
  refine ⟨_, ld0 (Sub.refl _) (O.all 0 rfl) rfl, _, rfl, ?_⟩
  refine ⟨_, ld0 (Sub.refl _) (O.all 0 rfl) rfl, _, rfl, ?_⟩
  refine O.st0 0 rfl (Nat.le_of_ble_eq_true rfl) trivial fun h1 O2 => ?_
  refine split_dec_e e (fun c5 e => ?_) (fun c5 e => ?_)
  · have O3 := O2.nm
    exact roadlaw2_dropNext.j0.walk (O3.pick [0]).nm rfl e
  · have O4 := O2.nm
    exact roadlaw2_dropNext.j0.walk (O4.pick [0]).nm rfl e
def roadlaw2_cut_9.post (W : Nat → Prop) (h0 m0 : Heap) (r : (List T_api_Data)) (v : Value) (h : Heap) : Prop := ∃ m A0 n0 c0, Hold W h0 m0 h m [rR (aE T_api_Data.T) A0 c0 r] ∧ v = .slice A0 n0 c0 ∧ n0 = List.length r
inductive roadlaw2_cut_9.l0_k.Pt where
  | l0 (x_1 : Int) (a_5 : List T_api_Data) (a_8 : List T_api_Data) (x_9 : Int) (x_10 : Int)
noncomputable def roadlaw2_cut_9.l0_k.body (go : (p : roadlaw2_cut_9.l0_k.Pt) → Option ((List T_api_Data))) : (p : roadlaw2_cut_9.l0_k.Pt) → Option ((List T_api_Data))
  | .l0 x_1 a_5 a_8 x_9 x_10 => if x_10 < x_9 then (Option.bind (gi a_8 x_10) fun y1 => if x_10 = x_1 then ((go (.l0 x_1 a_5 a_8 x_9 (IntKind.wrap .i64 (x_10 + (1 : Int)))))) else (Option.bind (ap 64 a_5 ([y1] : List T_api_Data)) fun l19 => (go (.l0 x_1 l19 a_8 x_9 (IntKind.wrap .i64 (x_10 + (1 : Int))))))) else (some (a_5))
theorem roadlaw2_cut_9.l0_k.mono : MonoF (β := fun _ => ((List T_api_Data))) roadlaw2_cut_9.l0_k.body := fun f g hfg p => match p with
  | .l0 x_1 a_5 a_8 x_9 x_10 => LeO.ite (LeO.bind (LeO.refl _) fun y1 => LeO.ite ((hfg _)) (LeO.bind (LeO.refl _) fun l19 => (hfg _))) (LeO.refl _)
noncomputable def roadlaw2_cut_9.l0_k.go (p : roadlaw2_cut_9.l0_k.Pt) : Option ((List T_api_Data)) := fixF (β := fun _ => ((List T_api_Data))) roadlaw2_cut_9.l0_k.body p
noncomputable def roadlaw2_cut_9.l0 (x_1 : Int) (a_5 : List T_api_Data) (a_8 : List T_api_Data) (x_9 : Int) (x_10 : Int) : Option ((List T_api_Data)) := roadlaw2_cut_9.l0_k.go (.l0 x_1 a_5 a_8 x_9 x_10)
theorem roadlaw2_cut_9.l0_eq (x_1 : Int) (a_5 : List T_api_Data) (a_8 : List T_api_Data) (x_9 : Int) (x_10 : Int) : roadlaw2_cut_9.l0 x_1 a_5 a_8 x_9 x_10 = if x_10 < x_9 then (Option.bind (gi a_8 x_10) fun y1 => if x_10 = x_1 then ((roadlaw2_cut_9.l0 x_1 a_5 a_8 x_9 (IntKind.wrap .i64 (x_10 + (1 : Int))))) else (Option.bind (ap 64 a_5 ([y1] : List T_api_Data)) fun l19 => (roadlaw2_cut_9.l0 x_1 l19 a_8 x_9 (IntKind.wrap .i64 (x_10 + (1 : Int)))))) else (some (a_5)) := fixF_eq roadlaw2_cut_9.l0_k.mono _
def roadlaw2_cut_9.l0_k.I : (p : roadlaw2_cut_9.l0_k.Pt) → ((List T_api_Data)) → Prop
  | .l0 x_1 a_5 a_8 x_9 x_10, r => ∀ (W : Nat → Prop) (h0 m0 h m : Heap) (A_5 : Option Addr) (n_5 c_5 : Nat) (A_8 : Option Addr) (n_8 c_8 : Nat) (O : Hold W h0 m0 h m [rR (aE T_api_Data.T) A_5 c_5 a_5]) (ne_5 : n_5 = List.length a_5) (ne_8 : n_8 = List.length a_8) (k_8 : List.length a_8 ≤ c_8) (r_8 : Rd 3 T_api_Data.E m A_8 a_8), f9.l0 (roadlaw2_cut_9.post W h0 m0 r) x_1 A_5 n_5 c_5 A_8 n_8 c_8 x_9 x_10 h
set_option maxRecDepth 100000 in
theorem roadlaw2_cut_9.l0_k.step_l0 (go : (p : roadlaw2_cut_9.l0_k.Pt) → Option ((List T_api_Data))) (ih : ∀ p r, go p = some r → roadlaw2_cut_9.l0_k.I p r) (x_1 : Int) (a_5 : List T_api_Data) (a_8 : List T_api_Data) (x_9 : Int) (x_10 : Int) (r : (List T_api_Data)) (e : roadlaw2_cut_9.l0_k.body go (.l0 x_1 a_5 a_8 x_9 x_10) = some r) : roadlaw2_cut_9.l0_k.I (.l0 x_1 a_5 a_8 x_9 x_10) r := by
  unfold roadlaw2_cut_9.l0_k.body at e
  intro W h0 m0 h m A_5 n_5 c_5 A_8 n_8 c_8 O ne_5 ne_8 k_8 r_8
  subst ne_5
  subst ne_8
  refine f9.l0_in ?_
  unfold f9.l0T
  refine split_dec_e e (fun c31 e => ?_) (fun c31 e => ?_)
  · obtain ⟨y1, g2, e⟩ := bind_e e
    refine r_8.addr rfl g2 fun a3 cs4 ha5 hc6 he7 => ?_
    refine ⟨_, ldAn O.s hc6 rfl, ?_⟩
    refine O.new fun h8 x9 O10 => ?_
    refine ⟨_, rfl, (T_api_Data.T.len _ _ _ he7), ?_⟩
    refine O10.stA 1 rfl (T_api_Data.T.len _ _ _ he7) (T_api_Data.T.flat _ _ _ he7) fun h12 O13 => ?_
    refine split_ne_e e (fun c30 e => ?_) (fun c30 e => ?_)
    · refine ⟨_, ldAn (Sub.refl _) (O13.all 1 rfl) (T_api_Data.T.len _ _ _ he7), ?_⟩
      refine ⟨cs4, rfl, (T_api_Data.T.len _ _ _ he7), ?_⟩
      refine O13.new fun h14 x15 O16 => ?_
      have O18 := O16.recell 2 rfl (cs' := cs4 ++ []) rfl
      obtain ⟨l19, g20, e⟩ := bind_e e
      have O27 := O18.rowE (l := ([y1] : List T_api_Data)) 2 rfl T_api_Data.T (show CsE _ _ _ _ _ from (CsE.cons he7 (T_api_Data.T.len _ _ _ he7) CsE.nil)) rfl
      refine O27.app 0 rfl rfl rfl ((O27.os 2 rfl).srcE rfl) (by decide) g20 fun A21 c22 h23 O24 => ?_
      refine ⟨_, _, _, rfl, ?_⟩
      have O28 := O24.nm
      exact (ih _ _ e) _ _ _ _ _ _ _ _ _ _ _ (O28.pick [0]).nm rfl rfl k_8 r_8
    · have O29 := O13.nm
      exact (ih _ _ e) _ _ _ _ _ _ _ _ _ _ _ (O29.pick [0]).nm rfl rfl k_8 r_8
  · cases e
    exact ⟨_, _, _, _, O.pick [0], rfl, rfl⟩
theorem roadlaw2_cut_9.l0_k.all {p : roadlaw2_cut_9.l0_k.Pt} {r : ((List T_api_Data))} (e : roadlaw2_cut_9.l0_k.go p = some r) : roadlaw2_cut_9.l0_k.I p r := fixF_ind (β := fun _ => ((List T_api_Data))) roadlaw2_cut_9.l0_k.mono (I := roadlaw2_cut_9.l0_k.I) (fun go ih p r e => match p with
  | .l0 x_1 a_5 a_8 x_9 x_10 => roadlaw2_cut_9.l0_k.step_l0 go ih x_1 a_5 a_8 x_9 x_10 r e
  ) e
theorem roadlaw2_cut_9.l0.walk {W : Nat → Prop} {h0 m0 h m : Heap} {A_5 : Option Addr} {n_5 c_5 : Nat} {A_8 : Option Addr} {n_8 c_8 : Nat} {x_1 : Int} {a_5 : List T_api_Data} {a_8 : List T_api_Data} {x_9 : Int} {x_10 : Int} (O : Hold W h0 m0 h m [rR (aE T_api_Data.T) A_5 c_5 a_5]) (ne_5 : n_5 = List.length a_5) (ne_8 : n_8 = List.length a_8) (k_8 : List.length a_8 ≤ c_8) (r_8 : Rd 3 T_api_Data.E m A_8 a_8) {r : (List T_api_Data)} (e : roadlaw2_cut_9.l0 x_1 a_5 a_8 x_9 x_10 = some r) : f9.l0 (roadlaw2_cut_9.post W h0 m0 r) x_1 A_5 n_5 c_5 A_8 n_8 c_8 x_9 x_10 h := roadlaw2_cut_9.l0_k.all (p := .l0 x_1 a_5 a_8 x_9 x_10) e W h0 m0 h m A_5 n_5 c_5 A_8 n_8 c_8 O ne_5 ne_8 k_8 r_8
noncomputable def roadlaw2_cut_9 (a_0 : List T_api_Data) (x_1 : Int) : Option ((List T_api_Data)) :=
  (roadlaw2_cut_9.l0 x_1 ([] : List T_api_Data) a_0 (((List.length a_0) : Nat) : Int) (0 : Int))
set_option maxRecDepth 100000 in
theorem roadlaw2_cut_9.walk {W : Nat → Prop} {h m : Heap} {A_0 : Option Addr} {n_0 c_0 : Nat} {a_0 : List T_api_Data} {x_1 : Int} (O : Hold W h m h m []) (ne_0 : n_0 = List.length a_0) (k_0 : List.length a_0 ≤ c_0) (r_0 : Rd 3 T_api_Data.E m A_0 a_0) {r : (List T_api_Data)} (e : roadlaw2_cut_9 a_0 x_1 = some r) : Run Tryd.prog 9 #[Value.slice A_0 n_0 c_0, Value.int .i64 x_1] h (roadlaw2_cut_9.post W h m r) := by
  unfold roadlaw2_cut_9 at e
  subst ne_0
  refine f9.run ?_
  unfold f9.runT
  have O1 := O.nil (aE T_api_Data.T) none
  have O3 := O1.nm
  exact roadlaw2_cut_9.l0.walk (O3.pick [0]).nm rfl rfl k_0 r_0 e
def roadlaw2_cut_10.post (W : Nat → Prop) (h0 m0 : Heap) (r : (List T_api_Trait)) (v : Value) (h : Heap) : Prop := ∃ m A0 n0 c0, Hold W h0 m0 h m [rR (aE T_api_Trait.T) A0 c0 r] ∧ v = .slice A0 n0 c0 ∧ n0 = List.length r
inductive roadlaw2_cut_10.l0_k.Pt where
  | l0 (x_1 : Int) (a_5 : List T_api_Trait) (a_8 : List T_api_Trait) (x_9 : Int) (x_10 : Int)
noncomputable def roadlaw2_cut_10.l0_k.body (go : (p : roadlaw2_cut_10.l0_k.Pt) → Option ((List T_api_Trait))) : (p : roadlaw2_cut_10.l0_k.Pt) → Option ((List T_api_Trait))
  | .l0 x_1 a_5 a_8 x_9 x_10 => if x_10 < x_9 then (Option.bind (gi a_8 x_10) fun y1 => if x_10 = x_1 then ((go (.l0 x_1 a_5 a_8 x_9 (IntKind.wrap .i64 (x_10 + (1 : Int)))))) else (Option.bind (ap 40 a_5 ([y1] : List T_api_Trait)) fun l19 => (go (.l0 x_1 l19 a_8 x_9 (IntKind.wrap .i64 (x_10 + (1 : Int))))))) else (some (a_5))
theorem roadlaw2_cut_10.l0_k.mono : MonoF (β := fun _ => ((List T_api_Trait))) roadlaw2_cut_10.l0_k.body := fun f g hfg p => match p with
  | .l0 x_1 a_5 a_8 x_9 x_10 => LeO.ite (LeO.bind (LeO.refl _) fun y1 => LeO.ite ((hfg _)) (LeO.bind (LeO.refl _) fun l19 => (hfg _))) (LeO.refl _)
noncomputable def roadlaw2_cut_10.l0_k.go (p : roadlaw2_cut_10.l0_k.Pt) : Option ((List T_api_Trait)) := fixF (β := fun _ => ((List T_api_Trait))) roadlaw2_cut_10.l0_k.body p
noncomputable def roadlaw2_cut_10.l0 (x_1 : Int) (a_5 : List T_api_Trait) (a_8 : List T_api_Trait) (x_9 : Int) (x_10 : Int) : Option ((List T_api_Trait)) := roadlaw2_cut_10.l0_k.go (.l0 x_1 a_5 a_8 x_9 x_10)
theorem roadlaw2_cut_10.l0_eq (x_1 : Int) (a_5 : List T_api_Trait) (a_8 : List T_api_Trait) (x_9 : Int) (x_10 : Int) : roadlaw2_cut_10.l0 x_1 a_5 a_8 x_9 x_10 = if x_10 < x_9 then (Option.bind (gi a_8 x_10) fun y1 => if x_10 = x_1 then ((roadlaw2_cut_10.l0 x_1 a_5 a_8 x_9 (IntKind.wrap .i64 (x_10 + (1 : Int))))) else (Option.bind (ap 40 a_5 ([y1] : List T_api_Trait)) fun l19 => (roadlaw2_cut_10.l0 x_1 l19 a_8 x_9 (IntKind.wrap .i64 (x_10 + (1 : Int)))))) else (some (a_5)) := fixF_eq roadlaw2_cut_10.l0_k.mono _
def roadlaw2_cut_10.l0_k.I : (p : roadlaw2_cut_10.l0_k.Pt) → ((List T_api_Trait)) → Prop
  | .l0 x_1 a_5 a_8 x_9 x_10, r => ∀ (W : Nat → Prop) (h0 m0 h m : Heap) (A_5 : Option Addr) (n_5 c_5 : Nat) (A_8 : Option Addr) (n_8 c_8 : Nat) (O : Hold W h0 m0 h m [rR (aE T_api_Trait.T) A_5 c_5 a_5]) (ne_5 : n_5 = List.length a_5) (ne_8 : n_8 = List.length a_8) (k_8 : List.length a_8 ≤ c_8) (r_8 : Rd 2 T_api_Trait.E m A_8 a_8), f10.l0 (roadlaw2_cut_10.post W h0 m0 r) x_1 A_5 n_5 c_5 A_8 n_8 c_8 x_9 x_10 h
set_option maxRecDepth 100000 in
theorem roadlaw2_cut_10.l0_k.step_l0 (go : (p : roadlaw2_cut_10.l0_k.Pt) → Option ((List T_api_Trait))) (ih : ∀ p r, go p = some r → roadlaw2_cut_10.l0_k.I p r) (x_1 : Int) (a_5 : List T_api_Trait) (a_8 : List T_api_Trait) (x_9 : Int) (x_10 : Int) (r : (List T_api_Trait)) (e : roadlaw2_cut_10.l0_k.body go (.l0 x_1 a_5 a_8 x_9 x_10) = some r) : roadlaw2_cut_10.l0_k.I (.l0 x_1 a_5 a_8 x_9 x_10) r := by
  unfold roadlaw2_cut_10.l0_k.body at e
  intro W h0 m0 h m A_5 n_5 c_5 A_8 n_8 c_8 O ne_5 ne_8 k_8 r_8
  subst ne_5
  subst ne_8
  refine f10.l0_in ?_
  unfold f10.l0T
  refine split_dec_e e (fun c31 e => ?_) (fun c31 e => ?_)
  · obtain ⟨y1, g2, e⟩ := bind_e e
    refine r_8.addr rfl g2 fun a3 cs4 ha5 hc6 he7 => ?_
    refine ⟨_, ldAn O.s hc6 rfl, ?_⟩
    refine O.new fun h8 x9 O10 => ?_
    refine ⟨_, rfl, (T_api_Trait.T.len _ _ _ he7), ?_⟩
    refine O10.stA 1 rfl (T_api_Trait.T.len _ _ _ he7) (T_api_Trait.T.flat _ _ _ he7) fun h12 O13 => ?_
    refine split_ne_e e (fun c30 e => ?_) (fun c30 e => ?_)
    · refine ⟨_, ldAn (Sub.refl _) (O13.all 1 rfl) (T_api_Trait.T.len _ _ _ he7), ?_⟩
      refine ⟨cs4, rfl, (T_api_Trait.T.len _ _ _ he7), ?_⟩
      refine O13.new fun h14 x15 O16 => ?_
      have O18 := O16.recell 2 rfl (cs' := cs4 ++ []) rfl
      obtain ⟨l19, g20, e⟩ := bind_e e
      have O27 := O18.rowE (l := ([y1] : List T_api_Trait)) 2 rfl T_api_Trait.T (show CsE _ _ _ _ _ from (CsE.cons he7 (T_api_Trait.T.len _ _ _ he7) CsE.nil)) rfl
      refine O27.app 0 rfl rfl rfl ((O27.os 2 rfl).srcE rfl) (by decide) g20 fun A21 c22 h23 O24 => ?_
      refine ⟨_, _, _, rfl, ?_⟩
      have O28 := O24.nm
      exact (ih _ _ e) _ _ _ _ _ _ _ _ _ _ _ (O28.pick [0]).nm rfl rfl k_8 r_8
    · have O29 := O13.nm
      exact (ih _ _ e) _ _ _ _ _ _ _ _ _ _ _ (O29.pick [0]).nm rfl rfl k_8 r_8
  · cases e
    exact ⟨_, _, _, _, O.pick [0], rfl, rfl⟩
theorem roadlaw2_cut_10.l0_k.all {p : roadlaw2_cut_10.l0_k.Pt} {r : ((List T_api_Trait))} (e : roadlaw2_cut_10.l0_k.go p = some r) : roadlaw2_cut_10.l0_k.I p r := fixF_ind (β := fun _ => ((List T_api_Trait))) roadlaw2_cut_10.l0_k.mono (I := roadlaw2_cut_10.l0_k.I) (fun go ih p r e => match p with
  | .l0 x_1 a_5 a_8 x_9 x_10 => roadlaw2_cut_10.l0_k.step_l0 go ih x_1 a_5 a_8 x_9 x_10 r e
  ) e
theorem roadlaw2_cut_10.l0.walk {W : Nat → Prop} {h0 m0 h m : Heap} {A_5 : Option Addr} {n_5 c_5 : Nat} {A_8 : Option Addr} {n_8 c_8 : Nat} {x_1 : Int} {a_5 : List T_api_Trait} {a_8 : List T_api_Trait} {x_9 : Int} {x_10 : Int} (O : Hold W h0 m0 h m [rR (aE T_api_Trait.T) A_5 c_5 a_5]) (ne_5 : n_5 = List.length a_5) (ne_8 : n_8 = List.length a_8) (k_8 : List.length a_8 ≤ c_8) (r_8 : Rd 2 T_api_Trait.E m A_8 a_8) {r : (List T_api_Trait)} (e : roadlaw2_cut_10.l0 x_1 a_5 a_8 x_9 x_10 = some r) : f10.l0 (roadlaw2_cut_10.post W h0 m0 r) x_1 A_5 n_5 c_5 A_8 n_8 c_8 x_9 x_10 h := roadlaw2_cut_10.l0_k.all (p := .l0 x_1 a_5 a_8 x_9 x_10) e W h0 m0 h m A_5 n_5 c_5 A_8 n_8 c_8 O ne_5 ne_8 k_8 r_8
noncomputable def roadlaw2_cut_10 (a_0 : List T_api_Trait) (x_1 : Int) : Option ((List T_api_Trait)) :=
  (roadlaw2_cut_10.l0 x_1 ([] : List T_api_Trait) a_0 (((List.length a_0) : Nat) : Int) (0 : Int))
set_option maxRecDepth 100000 in
theorem roadlaw2_cut_10.walk {W : Nat → Prop} {h m : Heap} {A_0 : Option Addr} {n_0 c_0 : Nat} {a_0 : List T_api_Trait} {x_1 : Int} (O : Hold W h m h m []) (ne_0 : n_0 = List.length a_0) (k_0 : List.length a_0 ≤ c_0) (r_0 : Rd 2 T_api_Trait.E m A_0 a_0) {r : (List T_api_Trait)} (e : roadlaw2_cut_10 a_0 x_1 = some r) : Run Tryd.prog 10 #[Value.slice A_0 n_0 c_0, Value.int .i64 x_1] h (roadlaw2_cut_10.post W h m r) := by
  unfold roadlaw2_cut_10 at e
  subst ne_0
  refine f10.run ?_
  unfold f10.runT
  have O1 := O.nil (aE T_api_Trait.T) none
  have O3 := O1.nm
  exact roadlaw2_cut_10.l0.walk (O3.pick [0]).nm rfl rfl k_0 r_0 e
def roadlaw2_cut_11.post (W : Nat → Prop) (h0 m0 : Heap) (r : (List T_api_Impl)) (v : Value) (h : Heap) : Prop := ∃ m A0 n0 c0, Hold W h0 m0 h m [rR (aE T_api_Impl.T) A0 c0 r] ∧ v = .slice A0 n0 c0 ∧ n0 = List.length r
inductive roadlaw2_cut_11.l0_k.Pt where
  | l0 (x_1 : Int) (a_5 : List T_api_Impl) (a_8 : List T_api_Impl) (x_9 : Int) (x_10 : Int)
noncomputable def roadlaw2_cut_11.l0_k.body (go : (p : roadlaw2_cut_11.l0_k.Pt) → Option ((List T_api_Impl))) : (p : roadlaw2_cut_11.l0_k.Pt) → Option ((List T_api_Impl))
  | .l0 x_1 a_5 a_8 x_9 x_10 => if x_10 < x_9 then (Option.bind (gi a_8 x_10) fun y1 => if x_10 = x_1 then ((go (.l0 x_1 a_5 a_8 x_9 (IntKind.wrap .i64 (x_10 + (1 : Int)))))) else (Option.bind (ap 56 a_5 ([y1] : List T_api_Impl)) fun l19 => (go (.l0 x_1 l19 a_8 x_9 (IntKind.wrap .i64 (x_10 + (1 : Int))))))) else (some (a_5))
theorem roadlaw2_cut_11.l0_k.mono : MonoF (β := fun _ => ((List T_api_Impl))) roadlaw2_cut_11.l0_k.body := fun f g hfg p => match p with
  | .l0 x_1 a_5 a_8 x_9 x_10 => LeO.ite (LeO.bind (LeO.refl _) fun y1 => LeO.ite ((hfg _)) (LeO.bind (LeO.refl _) fun l19 => (hfg _))) (LeO.refl _)
noncomputable def roadlaw2_cut_11.l0_k.go (p : roadlaw2_cut_11.l0_k.Pt) : Option ((List T_api_Impl)) := fixF (β := fun _ => ((List T_api_Impl))) roadlaw2_cut_11.l0_k.body p
noncomputable def roadlaw2_cut_11.l0 (x_1 : Int) (a_5 : List T_api_Impl) (a_8 : List T_api_Impl) (x_9 : Int) (x_10 : Int) : Option ((List T_api_Impl)) := roadlaw2_cut_11.l0_k.go (.l0 x_1 a_5 a_8 x_9 x_10)
theorem roadlaw2_cut_11.l0_eq (x_1 : Int) (a_5 : List T_api_Impl) (a_8 : List T_api_Impl) (x_9 : Int) (x_10 : Int) : roadlaw2_cut_11.l0 x_1 a_5 a_8 x_9 x_10 = if x_10 < x_9 then (Option.bind (gi a_8 x_10) fun y1 => if x_10 = x_1 then ((roadlaw2_cut_11.l0 x_1 a_5 a_8 x_9 (IntKind.wrap .i64 (x_10 + (1 : Int))))) else (Option.bind (ap 56 a_5 ([y1] : List T_api_Impl)) fun l19 => (roadlaw2_cut_11.l0 x_1 l19 a_8 x_9 (IntKind.wrap .i64 (x_10 + (1 : Int)))))) else (some (a_5)) := fixF_eq roadlaw2_cut_11.l0_k.mono _
def roadlaw2_cut_11.l0_k.I : (p : roadlaw2_cut_11.l0_k.Pt) → ((List T_api_Impl)) → Prop
  | .l0 x_1 a_5 a_8 x_9 x_10, r => ∀ (W : Nat → Prop) (h0 m0 h m : Heap) (A_5 : Option Addr) (n_5 c_5 : Nat) (A_8 : Option Addr) (n_8 c_8 : Nat) (O : Hold W h0 m0 h m [rR (aE T_api_Impl.T) A_5 c_5 a_5]) (ne_5 : n_5 = List.length a_5) (ne_8 : n_8 = List.length a_8) (k_8 : List.length a_8 ≤ c_8) (r_8 : Rd 3 T_api_Impl.E m A_8 a_8), f11.l0 (roadlaw2_cut_11.post W h0 m0 r) x_1 A_5 n_5 c_5 A_8 n_8 c_8 x_9 x_10 h
set_option maxRecDepth 100000 in
theorem roadlaw2_cut_11.l0_k.step_l0 (go : (p : roadlaw2_cut_11.l0_k.Pt) → Option ((List T_api_Impl))) (ih : ∀ p r, go p = some r → roadlaw2_cut_11.l0_k.I p r) (x_1 : Int) (a_5 : List T_api_Impl) (a_8 : List T_api_Impl) (x_9 : Int) (x_10 : Int) (r : (List T_api_Impl)) (e : roadlaw2_cut_11.l0_k.body go (.l0 x_1 a_5 a_8 x_9 x_10) = some r) : roadlaw2_cut_11.l0_k.I (.l0 x_1 a_5 a_8 x_9 x_10) r := by
  unfold roadlaw2_cut_11.l0_k.body at e
  intro W h0 m0 h m A_5 n_5 c_5 A_8 n_8 c_8 O ne_5 ne_8 k_8 r_8
  subst ne_5
  subst ne_8
  refine f11.l0_in ?_
  unfold f11.l0T
  refine split_dec_e e (fun c31 e => ?_) (fun c31 e => ?_)
  · obtain ⟨y1, g2, e⟩ := bind_e e
    refine r_8.addr rfl g2 fun a3 cs4 ha5 hc6 he7 => ?_
    refine ⟨_, ldAn O.s hc6 rfl, ?_⟩
    refine O.new fun h8 x9 O10 => ?_
    refine ⟨_, rfl, (T_api_Impl.T.len _ _ _ he7), ?_⟩
    refine O10.stA 1 rfl (T_api_Impl.T.len _ _ _ he7) (T_api_Impl.T.flat _ _ _ he7) fun h12 O13 => ?_
    refine split_ne_e e (fun c30 e => ?_) (fun c30 e => ?_)
    · refine ⟨_, ldAn (Sub.refl _) (O13.all 1 rfl) (T_api_Impl.T.len _ _ _ he7), ?_⟩
      refine ⟨cs4, rfl, (T_api_Impl.T.len _ _ _ he7), ?_⟩
      refine O13.new fun h14 x15 O16 => ?_
      have O18 := O16.recell 2 rfl (cs' := cs4 ++ []) rfl
      obtain ⟨l19, g20, e⟩ := bind_e e
      have O27 := O18.rowE (l := ([y1] : List T_api_Impl)) 2 rfl T_api_Impl.T (show CsE _ _ _ _ _ from (CsE.cons he7 (T_api_Impl.T.len _ _ _ he7) CsE.nil)) rfl
      refine O27.app 0 rfl rfl rfl ((O27.os 2 rfl).srcE rfl) (by decide) g20 fun A21 c22 h23 O24 => ?_
      refine ⟨_, _, _, rfl, ?_⟩
      have O28 := O24.nm
      exact (ih _ _ e) _ _ _ _ _ _ _ _ _ _ _ (O28.pick [0]).nm rfl rfl k_8 r_8
    · have O29 := O13.nm
      exact (ih _ _ e) _ _ _ _ _ _ _ _ _ _ _ (O29.pick [0]).nm rfl rfl k_8 r_8
  · cases e
    exact ⟨_, _, _, _, O.pick [0], rfl, rfl⟩
theorem roadlaw2_cut_11.l0_k.all {p : roadlaw2_cut_11.l0_k.Pt} {r : ((List T_api_Impl))} (e : roadlaw2_cut_11.l0_k.go p = some r) : roadlaw2_cut_11.l0_k.I p r := fixF_ind (β := fun _ => ((List T_api_Impl))) roadlaw2_cut_11.l0_k.mono (I := roadlaw2_cut_11.l0_k.I) (fun go ih p r e => match p with
  | .l0 x_1 a_5 a_8 x_9 x_10 => roadlaw2_cut_11.l0_k.step_l0 go ih x_1 a_5 a_8 x_9 x_10 r e
  ) e
theorem roadlaw2_cut_11.l0.walk {W : Nat → Prop} {h0 m0 h m : Heap} {A_5 : Option Addr} {n_5 c_5 : Nat} {A_8 : Option Addr} {n_8 c_8 : Nat} {x_1 : Int} {a_5 : List T_api_Impl} {a_8 : List T_api_Impl} {x_9 : Int} {x_10 : Int} (O : Hold W h0 m0 h m [rR (aE T_api_Impl.T) A_5 c_5 a_5]) (ne_5 : n_5 = List.length a_5) (ne_8 : n_8 = List.length a_8) (k_8 : List.length a_8 ≤ c_8) (r_8 : Rd 3 T_api_Impl.E m A_8 a_8) {r : (List T_api_Impl)} (e : roadlaw2_cut_11.l0 x_1 a_5 a_8 x_9 x_10 = some r) : f11.l0 (roadlaw2_cut_11.post W h0 m0 r) x_1 A_5 n_5 c_5 A_8 n_8 c_8 x_9 x_10 h := roadlaw2_cut_11.l0_k.all (p := .l0 x_1 a_5 a_8 x_9 x_10) e W h0 m0 h m A_5 n_5 c_5 A_8 n_8 c_8 O ne_5 ne_8 k_8 r_8
noncomputable def roadlaw2_cut_11 (a_0 : List T_api_Impl) (x_1 : Int) : Option ((List T_api_Impl)) :=
  (roadlaw2_cut_11.l0 x_1 ([] : List T_api_Impl) a_0 (((List.length a_0) : Nat) : Int) (0 : Int))
set_option maxRecDepth 100000 in
theorem roadlaw2_cut_11.walk {W : Nat → Prop} {h m : Heap} {A_0 : Option Addr} {n_0 c_0 : Nat} {a_0 : List T_api_Impl} {x_1 : Int} (O : Hold W h m h m []) (ne_0 : n_0 = List.length a_0) (k_0 : List.length a_0 ≤ c_0) (r_0 : Rd 3 T_api_Impl.E m A_0 a_0) {r : (List T_api_Impl)} (e : roadlaw2_cut_11 a_0 x_1 = some r) : Run Tryd.prog 11 #[Value.slice A_0 n_0 c_0, Value.int .i64 x_1] h (roadlaw2_cut_11.post W h m r) := by
  unfold roadlaw2_cut_11 at e
  subst ne_0
  refine f11.run ?_
  unfold f11.runT
  have O1 := O.nil (aE T_api_Impl.T) none
  have O3 := O1.nm
  exact roadlaw2_cut_11.l0.walk (O3.pick [0]).nm rfl rfl k_0 r_0 e
def roadlaw2_cut_12.post (W : Nat → Prop) (h0 m0 : Heap) (r : (List T_api_Func)) (v : Value) (h : Heap) : Prop := ∃ m A0 n0 c0, Hold W h0 m0 h m [rR (aE T_api_Func.T) A0 c0 r] ∧ v = .slice A0 n0 c0 ∧ n0 = List.length r
inductive roadlaw2_cut_12.l0_k.Pt where
  | l0 (x_1 : Int) (a_5 : List T_api_Func) (a_8 : List T_api_Func) (x_9 : Int) (x_10 : Int)
noncomputable def roadlaw2_cut_12.l0_k.body (go : (p : roadlaw2_cut_12.l0_k.Pt) → Option ((List T_api_Func))) : (p : roadlaw2_cut_12.l0_k.Pt) → Option ((List T_api_Func))
  | .l0 x_1 a_5 a_8 x_9 x_10 => if x_10 < x_9 then (Option.bind (gi a_8 x_10) fun y1 => if x_10 = x_1 then ((go (.l0 x_1 a_5 a_8 x_9 (IntKind.wrap .i64 (x_10 + (1 : Int)))))) else (Option.bind (ap 272 a_5 ([y1] : List T_api_Func)) fun l19 => (go (.l0 x_1 l19 a_8 x_9 (IntKind.wrap .i64 (x_10 + (1 : Int))))))) else (some (a_5))
theorem roadlaw2_cut_12.l0_k.mono : MonoF (β := fun _ => ((List T_api_Func))) roadlaw2_cut_12.l0_k.body := fun f g hfg p => match p with
  | .l0 x_1 a_5 a_8 x_9 x_10 => LeO.ite (LeO.bind (LeO.refl _) fun y1 => LeO.ite ((hfg _)) (LeO.bind (LeO.refl _) fun l19 => (hfg _))) (LeO.refl _)
noncomputable def roadlaw2_cut_12.l0_k.go (p : roadlaw2_cut_12.l0_k.Pt) : Option ((List T_api_Func)) := fixF (β := fun _ => ((List T_api_Func))) roadlaw2_cut_12.l0_k.body p
noncomputable def roadlaw2_cut_12.l0 (x_1 : Int) (a_5 : List T_api_Func) (a_8 : List T_api_Func) (x_9 : Int) (x_10 : Int) : Option ((List T_api_Func)) := roadlaw2_cut_12.l0_k.go (.l0 x_1 a_5 a_8 x_9 x_10)
theorem roadlaw2_cut_12.l0_eq (x_1 : Int) (a_5 : List T_api_Func) (a_8 : List T_api_Func) (x_9 : Int) (x_10 : Int) : roadlaw2_cut_12.l0 x_1 a_5 a_8 x_9 x_10 = if x_10 < x_9 then (Option.bind (gi a_8 x_10) fun y1 => if x_10 = x_1 then ((roadlaw2_cut_12.l0 x_1 a_5 a_8 x_9 (IntKind.wrap .i64 (x_10 + (1 : Int))))) else (Option.bind (ap 272 a_5 ([y1] : List T_api_Func)) fun l19 => (roadlaw2_cut_12.l0 x_1 l19 a_8 x_9 (IntKind.wrap .i64 (x_10 + (1 : Int)))))) else (some (a_5)) := fixF_eq roadlaw2_cut_12.l0_k.mono _
def roadlaw2_cut_12.l0_k.I : (p : roadlaw2_cut_12.l0_k.Pt) → ((List T_api_Func)) → Prop
  | .l0 x_1 a_5 a_8 x_9 x_10, r => ∀ (W : Nat → Prop) (h0 m0 h m : Heap) (A_5 : Option Addr) (n_5 c_5 : Nat) (A_8 : Option Addr) (n_8 c_8 : Nat) (O : Hold W h0 m0 h m [rR (aE T_api_Func.T) A_5 c_5 a_5]) (ne_5 : n_5 = List.length a_5) (ne_8 : n_8 = List.length a_8) (k_8 : List.length a_8 ≤ c_8) (r_8 : Rd 15 T_api_Func.E m A_8 a_8), f12.l0 (roadlaw2_cut_12.post W h0 m0 r) x_1 A_5 n_5 c_5 A_8 n_8 c_8 x_9 x_10 h
set_option maxRecDepth 100000 in
theorem roadlaw2_cut_12.l0_k.step_l0 (go : (p : roadlaw2_cut_12.l0_k.Pt) → Option ((List T_api_Func))) (ih : ∀ p r, go p = some r → roadlaw2_cut_12.l0_k.I p r) (x_1 : Int) (a_5 : List T_api_Func) (a_8 : List T_api_Func) (x_9 : Int) (x_10 : Int) (r : (List T_api_Func)) (e : roadlaw2_cut_12.l0_k.body go (.l0 x_1 a_5 a_8 x_9 x_10) = some r) : roadlaw2_cut_12.l0_k.I (.l0 x_1 a_5 a_8 x_9 x_10) r := by
  unfold roadlaw2_cut_12.l0_k.body at e
  intro W h0 m0 h m A_5 n_5 c_5 A_8 n_8 c_8 O ne_5 ne_8 k_8 r_8
  subst ne_5
  subst ne_8
  refine f12.l0_in ?_
  unfold f12.l0T
  refine split_dec_e e (fun c31 e => ?_) (fun c31 e => ?_)
  · obtain ⟨y1, g2, e⟩ := bind_e e
    refine r_8.addr rfl g2 fun a3 cs4 ha5 hc6 he7 => ?_
    refine ⟨_, ldAn O.s hc6 rfl, ?_⟩
    refine O.new fun h8 x9 O10 => ?_
    refine ⟨_, rfl, (T_api_Func.T.len _ _ _ he7), ?_⟩
    refine O10.stA 1 rfl (T_api_Func.T.len _ _ _ he7) (T_api_Func.T.flat _ _ _ he7) fun h12 O13 => ?_
    refine split_ne_e e (fun c30 e => ?_) (fun c30 e => ?_)
    · refine ⟨_, ldAn (Sub.refl _) (O13.all 1 rfl) (T_api_Func.T.len _ _ _ he7), ?_⟩
      refine ⟨cs4, rfl, (T_api_Func.T.len _ _ _ he7), ?_⟩
      refine O13.new fun h14 x15 O16 => ?_
      have O18 := O16.recell 2 rfl (cs' := cs4 ++ []) rfl
      obtain ⟨l19, g20, e⟩ := bind_e e
      have O27 := O18.rowE (l := ([y1] : List T_api_Func)) 2 rfl T_api_Func.T (show CsE _ _ _ _ _ from (CsE.cons he7 (T_api_Func.T.len _ _ _ he7) CsE.nil)) rfl
      refine O27.app 0 rfl rfl rfl ((O27.os 2 rfl).srcE rfl) (by decide) g20 fun A21 c22 h23 O24 => ?_
      refine ⟨_, _, _, rfl, ?_⟩
      have O28 := O24.nm
      exact (ih _ _ e) _ _ _ _ _ _ _ _ _ _ _ (O28.pick [0]).nm rfl rfl k_8 r_8
    · have O29 := O13.nm
      exact (ih _ _ e) _ _ _ _ _ _ _ _ _ _ _ (O29.pick [0]).nm rfl rfl k_8 r_8
  · cases e
    exact ⟨_, _, _, _, O.pick [0], rfl, rfl⟩
theorem roadlaw2_cut_12.l0_k.all {p : roadlaw2_cut_12.l0_k.Pt} {r : ((List T_api_Func))} (e : roadlaw2_cut_12.l0_k.go p = some r) : roadlaw2_cut_12.l0_k.I p r := fixF_ind (β := fun _ => ((List T_api_Func))) roadlaw2_cut_12.l0_k.mono (I := roadlaw2_cut_12.l0_k.I) (fun go ih p r e => match p with
  | .l0 x_1 a_5 a_8 x_9 x_10 => roadlaw2_cut_12.l0_k.step_l0 go ih x_1 a_5 a_8 x_9 x_10 r e
  ) e
theorem roadlaw2_cut_12.l0.walk {W : Nat → Prop} {h0 m0 h m : Heap} {A_5 : Option Addr} {n_5 c_5 : Nat} {A_8 : Option Addr} {n_8 c_8 : Nat} {x_1 : Int} {a_5 : List T_api_Func} {a_8 : List T_api_Func} {x_9 : Int} {x_10 : Int} (O : Hold W h0 m0 h m [rR (aE T_api_Func.T) A_5 c_5 a_5]) (ne_5 : n_5 = List.length a_5) (ne_8 : n_8 = List.length a_8) (k_8 : List.length a_8 ≤ c_8) (r_8 : Rd 15 T_api_Func.E m A_8 a_8) {r : (List T_api_Func)} (e : roadlaw2_cut_12.l0 x_1 a_5 a_8 x_9 x_10 = some r) : f12.l0 (roadlaw2_cut_12.post W h0 m0 r) x_1 A_5 n_5 c_5 A_8 n_8 c_8 x_9 x_10 h := roadlaw2_cut_12.l0_k.all (p := .l0 x_1 a_5 a_8 x_9 x_10) e W h0 m0 h m A_5 n_5 c_5 A_8 n_8 c_8 O ne_5 ne_8 k_8 r_8
noncomputable def roadlaw2_cut_12 (a_0 : List T_api_Func) (x_1 : Int) : Option ((List T_api_Func)) :=
  (roadlaw2_cut_12.l0 x_1 ([] : List T_api_Func) a_0 (((List.length a_0) : Nat) : Int) (0 : Int))
set_option maxRecDepth 100000 in
theorem roadlaw2_cut_12.walk {W : Nat → Prop} {h m : Heap} {A_0 : Option Addr} {n_0 c_0 : Nat} {a_0 : List T_api_Func} {x_1 : Int} (O : Hold W h m h m []) (ne_0 : n_0 = List.length a_0) (k_0 : List.length a_0 ≤ c_0) (r_0 : Rd 15 T_api_Func.E m A_0 a_0) {r : (List T_api_Func)} (e : roadlaw2_cut_12 a_0 x_1 = some r) : Run Tryd.prog 12 #[Value.slice A_0 n_0 c_0, Value.int .i64 x_1] h (roadlaw2_cut_12.post W h m r) := by
  unfold roadlaw2_cut_12 at e
  subst ne_0
  refine f12.run ?_
  unfold f12.runT
  have O1 := O.nil (aE T_api_Func.T) none
  have O3 := O1.nm
  exact roadlaw2_cut_12.l0.walk (O3.pick [0]).nm rfl rfl k_0 r_0 e
def roadlaw2_cut_13.post (W : Nat → Prop) (h0 m0 : Heap) (r : (List T_api_Actor)) (v : Value) (h : Heap) : Prop := ∃ m A0 n0 c0, Hold W h0 m0 h m [rR (aE T_api_Actor.T) A0 c0 r] ∧ v = .slice A0 n0 c0 ∧ n0 = List.length r
inductive roadlaw2_cut_13.l0_k.Pt where
  | l0 (x_1 : Int) (a_5 : List T_api_Actor) (a_8 : List T_api_Actor) (x_9 : Int) (x_10 : Int)
noncomputable def roadlaw2_cut_13.l0_k.body (go : (p : roadlaw2_cut_13.l0_k.Pt) → Option ((List T_api_Actor))) : (p : roadlaw2_cut_13.l0_k.Pt) → Option ((List T_api_Actor))
  | .l0 x_1 a_5 a_8 x_9 x_10 => if x_10 < x_9 then (Option.bind (gi a_8 x_10) fun y1 => if x_10 = x_1 then ((go (.l0 x_1 a_5 a_8 x_9 (IntKind.wrap .i64 (x_10 + (1 : Int)))))) else (Option.bind (ap 248 a_5 ([y1] : List T_api_Actor)) fun l19 => (go (.l0 x_1 l19 a_8 x_9 (IntKind.wrap .i64 (x_10 + (1 : Int))))))) else (some (a_5))
theorem roadlaw2_cut_13.l0_k.mono : MonoF (β := fun _ => ((List T_api_Actor))) roadlaw2_cut_13.l0_k.body := fun f g hfg p => match p with
  | .l0 x_1 a_5 a_8 x_9 x_10 => LeO.ite (LeO.bind (LeO.refl _) fun y1 => LeO.ite ((hfg _)) (LeO.bind (LeO.refl _) fun l19 => (hfg _))) (LeO.refl _)
noncomputable def roadlaw2_cut_13.l0_k.go (p : roadlaw2_cut_13.l0_k.Pt) : Option ((List T_api_Actor)) := fixF (β := fun _ => ((List T_api_Actor))) roadlaw2_cut_13.l0_k.body p
noncomputable def roadlaw2_cut_13.l0 (x_1 : Int) (a_5 : List T_api_Actor) (a_8 : List T_api_Actor) (x_9 : Int) (x_10 : Int) : Option ((List T_api_Actor)) := roadlaw2_cut_13.l0_k.go (.l0 x_1 a_5 a_8 x_9 x_10)
theorem roadlaw2_cut_13.l0_eq (x_1 : Int) (a_5 : List T_api_Actor) (a_8 : List T_api_Actor) (x_9 : Int) (x_10 : Int) : roadlaw2_cut_13.l0 x_1 a_5 a_8 x_9 x_10 = if x_10 < x_9 then (Option.bind (gi a_8 x_10) fun y1 => if x_10 = x_1 then ((roadlaw2_cut_13.l0 x_1 a_5 a_8 x_9 (IntKind.wrap .i64 (x_10 + (1 : Int))))) else (Option.bind (ap 248 a_5 ([y1] : List T_api_Actor)) fun l19 => (roadlaw2_cut_13.l0 x_1 l19 a_8 x_9 (IntKind.wrap .i64 (x_10 + (1 : Int)))))) else (some (a_5)) := fixF_eq roadlaw2_cut_13.l0_k.mono _
def roadlaw2_cut_13.l0_k.I : (p : roadlaw2_cut_13.l0_k.Pt) → ((List T_api_Actor)) → Prop
  | .l0 x_1 a_5 a_8 x_9 x_10, r => ∀ (W : Nat → Prop) (h0 m0 h m : Heap) (A_5 : Option Addr) (n_5 c_5 : Nat) (A_8 : Option Addr) (n_8 c_8 : Nat) (O : Hold W h0 m0 h m [rR (aE T_api_Actor.T) A_5 c_5 a_5]) (ne_5 : n_5 = List.length a_5) (ne_8 : n_8 = List.length a_8) (k_8 : List.length a_8 ≤ c_8) (r_8 : Rd 14 T_api_Actor.E m A_8 a_8), f13.l0 (roadlaw2_cut_13.post W h0 m0 r) x_1 A_5 n_5 c_5 A_8 n_8 c_8 x_9 x_10 h
set_option maxRecDepth 100000 in
theorem roadlaw2_cut_13.l0_k.step_l0 (go : (p : roadlaw2_cut_13.l0_k.Pt) → Option ((List T_api_Actor))) (ih : ∀ p r, go p = some r → roadlaw2_cut_13.l0_k.I p r) (x_1 : Int) (a_5 : List T_api_Actor) (a_8 : List T_api_Actor) (x_9 : Int) (x_10 : Int) (r : (List T_api_Actor)) (e : roadlaw2_cut_13.l0_k.body go (.l0 x_1 a_5 a_8 x_9 x_10) = some r) : roadlaw2_cut_13.l0_k.I (.l0 x_1 a_5 a_8 x_9 x_10) r := by
  unfold roadlaw2_cut_13.l0_k.body at e
  intro W h0 m0 h m A_5 n_5 c_5 A_8 n_8 c_8 O ne_5 ne_8 k_8 r_8
  subst ne_5
  subst ne_8
  refine f13.l0_in ?_
  unfold f13.l0T
  refine split_dec_e e (fun c31 e => ?_) (fun c31 e => ?_)
  · obtain ⟨y1, g2, e⟩ := bind_e e
    refine r_8.addr rfl g2 fun a3 cs4 ha5 hc6 he7 => ?_
    refine ⟨_, ldAn O.s hc6 rfl, ?_⟩
    refine O.new fun h8 x9 O10 => ?_
    refine ⟨_, rfl, (T_api_Actor.T.len _ _ _ he7), ?_⟩
    refine O10.stA 1 rfl (T_api_Actor.T.len _ _ _ he7) (T_api_Actor.T.flat _ _ _ he7) fun h12 O13 => ?_
    refine split_ne_e e (fun c30 e => ?_) (fun c30 e => ?_)
    · refine ⟨_, ldAn (Sub.refl _) (O13.all 1 rfl) (T_api_Actor.T.len _ _ _ he7), ?_⟩
      refine ⟨cs4, rfl, (T_api_Actor.T.len _ _ _ he7), ?_⟩
      refine O13.new fun h14 x15 O16 => ?_
      have O18 := O16.recell 2 rfl (cs' := cs4 ++ []) rfl
      obtain ⟨l19, g20, e⟩ := bind_e e
      have O27 := O18.rowE (l := ([y1] : List T_api_Actor)) 2 rfl T_api_Actor.T (show CsE _ _ _ _ _ from (CsE.cons he7 (T_api_Actor.T.len _ _ _ he7) CsE.nil)) rfl
      refine O27.app 0 rfl rfl rfl ((O27.os 2 rfl).srcE rfl) (by decide) g20 fun A21 c22 h23 O24 => ?_
      refine ⟨_, _, _, rfl, ?_⟩
      have O28 := O24.nm
      exact (ih _ _ e) _ _ _ _ _ _ _ _ _ _ _ (O28.pick [0]).nm rfl rfl k_8 r_8
    · have O29 := O13.nm
      exact (ih _ _ e) _ _ _ _ _ _ _ _ _ _ _ (O29.pick [0]).nm rfl rfl k_8 r_8
  · cases e
    exact ⟨_, _, _, _, O.pick [0], rfl, rfl⟩
theorem roadlaw2_cut_13.l0_k.all {p : roadlaw2_cut_13.l0_k.Pt} {r : ((List T_api_Actor))} (e : roadlaw2_cut_13.l0_k.go p = some r) : roadlaw2_cut_13.l0_k.I p r := fixF_ind (β := fun _ => ((List T_api_Actor))) roadlaw2_cut_13.l0_k.mono (I := roadlaw2_cut_13.l0_k.I) (fun go ih p r e => match p with
  | .l0 x_1 a_5 a_8 x_9 x_10 => roadlaw2_cut_13.l0_k.step_l0 go ih x_1 a_5 a_8 x_9 x_10 r e
  ) e
theorem roadlaw2_cut_13.l0.walk {W : Nat → Prop} {h0 m0 h m : Heap} {A_5 : Option Addr} {n_5 c_5 : Nat} {A_8 : Option Addr} {n_8 c_8 : Nat} {x_1 : Int} {a_5 : List T_api_Actor} {a_8 : List T_api_Actor} {x_9 : Int} {x_10 : Int} (O : Hold W h0 m0 h m [rR (aE T_api_Actor.T) A_5 c_5 a_5]) (ne_5 : n_5 = List.length a_5) (ne_8 : n_8 = List.length a_8) (k_8 : List.length a_8 ≤ c_8) (r_8 : Rd 14 T_api_Actor.E m A_8 a_8) {r : (List T_api_Actor)} (e : roadlaw2_cut_13.l0 x_1 a_5 a_8 x_9 x_10 = some r) : f13.l0 (roadlaw2_cut_13.post W h0 m0 r) x_1 A_5 n_5 c_5 A_8 n_8 c_8 x_9 x_10 h := roadlaw2_cut_13.l0_k.all (p := .l0 x_1 a_5 a_8 x_9 x_10) e W h0 m0 h m A_5 n_5 c_5 A_8 n_8 c_8 O ne_5 ne_8 k_8 r_8
noncomputable def roadlaw2_cut_13 (a_0 : List T_api_Actor) (x_1 : Int) : Option ((List T_api_Actor)) :=
  (roadlaw2_cut_13.l0 x_1 ([] : List T_api_Actor) a_0 (((List.length a_0) : Nat) : Int) (0 : Int))
set_option maxRecDepth 100000 in
theorem roadlaw2_cut_13.walk {W : Nat → Prop} {h m : Heap} {A_0 : Option Addr} {n_0 c_0 : Nat} {a_0 : List T_api_Actor} {x_1 : Int} (O : Hold W h m h m []) (ne_0 : n_0 = List.length a_0) (k_0 : List.length a_0 ≤ c_0) (r_0 : Rd 14 T_api_Actor.E m A_0 a_0) {r : (List T_api_Actor)} (e : roadlaw2_cut_13 a_0 x_1 = some r) : Run Tryd.prog 13 #[Value.slice A_0 n_0 c_0, Value.int .i64 x_1] h (roadlaw2_cut_13.post W h m r) := by
  unfold roadlaw2_cut_13 at e
  subst ne_0
  refine f13.run ?_
  unfold f13.runT
  have O1 := O.nil (aE T_api_Actor.T) none
  have O3 := O1.nm
  exact roadlaw2_cut_13.l0.walk (O3.pick [0]).nm rfl rfl k_0 r_0 e
def roadlaw2_ExcerptSays.post (W : Nat → Prop) (h0 m0 : Heap) (r : Bool) (v : Value) (h : Heap) : Prop := ∃ m , Hold W h0 m0 h m [] ∧ v = .bool r
noncomputable def roadlaw2_ExcerptSays.j8 (y_9 : T_api_Program) (x_10 : Int) (y_11 : T_api_Program) : Option (Bool) :=
  if x_10 = (0 : Int) then (Option.bind (roadref2_Mark y_9) fun y1 => Option.bind (roadref2_Mark y_11) fun y8 => some ((decide (y1 = y8)))) else (some (false))
set_option maxHeartbeats 4000000 in
set_option maxRecDepth 100000 in
theorem roadlaw2_ExcerptSays.j8.walk {W : Nat → Prop} {h0 m0 h m : Heap} {bk_9 : Nat} {cs_9 : List Value} {bk_11 : Nat} {cs_11 : List Value} {y_9 : T_api_Program} {x_10 : Int} {y_11 : T_api_Program} (O : Hold W h0 m0 h m [rV bk_9 29 cs_9, rV bk_11 29 cs_11]) (e_9 : T_api_Program.E m y_9 cs_9) (e_11 : T_api_Program.E m y_11 cs_11) (tab : TB m) {r : Bool} (e : roadlaw2_ExcerptSays.j8 y_9 x_10 y_11 = some r) : f3.j8 (roadlaw2_ExcerptSays.post W h0 m0 r) (⟨bk_9, 0, none⟩ : Addr) x_10 (⟨bk_11, 0, none⟩ : Addr) h := by
  unfold roadlaw2_ExcerptSays.j8 at e
  refine f3.j8_in ?_
  unfold f3.j8T
  refine split_eq_e e (fun c43 e => ?_) (fun c43 e => ?_)
  · refine ⟨_, ldAn (Sub.refl _) (O.all 0 rfl) (T_api_Program.T.len _ _ _ e_9), ?_⟩
    obtain ⟨y1, g2, e⟩ := bind_e e
    obtain ⟨y8, g9, e⟩ := bind_e e
    refine ⟨?_, ?_⟩
    · refine (roadref2_Mark.walk (Hold.start (W := No) O.s) e_9 tab g2).mono ?_
      rintro _ h17 ⟨m18, Q19, rfl⟩
      have O21 := Hold.nm (O.retC Q19 vfs_nil)
      refine ⟨_, rfl, ?_⟩
      refine ⟨_, ldAn (Sub.refl _) (O21.all 1 rfl) (T_api_Program.T.len _ _ _ e_11), ?_⟩
      refine ⟨Ext.refl _, ?_⟩
      refine (roadref2_Mark.walk (Hold.start (W := No) O21.s) e_11 tab g9).mono ?_
      rintro _ h24 ⟨m25, Q26, rfl⟩
      have O28 := Hold.nm (O21.retC Q26 vfs_nil)
      refine ⟨_, rfl, ?_⟩
      try rw [ba_list y1 y8]
      cases e
      exact ⟨_, O28.pick [], rfl⟩
    · refine ⟨_, ldAn (Sub.refl _) (O.all 1 rfl) (T_api_Program.T.len _ _ _ e_11), ?_⟩
      refine ⟨Ext.refl _, ?_⟩
      refine (roadref2_Mark.walk (Hold.start (W := No) O.s) e_9 tab g2).mono ?_
      rintro _ h31 ⟨m32, Q33, rfl⟩
      have O35 := Hold.nm (O.retC Q33 vfs_nil)
      refine ⟨_, rfl, ?_⟩
      refine (roadref2_Mark.walk (Hold.start (W := No) O35.s) e_11 tab g9).mono ?_
      rintro _ h38 ⟨m39, Q40, rfl⟩
      have O42 := Hold.nm (O35.retC Q40 vfs_nil)
      refine ⟨_, rfl, ?_⟩
      try rw [ba_list y1 y8]
      cases e
      exact ⟨_, O42.pick [], rfl⟩
  · refine ⟨?_, ?_⟩
    · refine ⟨Ext.refl _, ?_⟩
      cases e
      exact ⟨_, O.pick [], rfl⟩
    · refine ⟨Ext.refl _, ?_⟩
      cases e
      exact ⟨_, O.pick [], rfl⟩
noncomputable def roadlaw2_ExcerptSays.j7 (y_2 : T_api_Program) (y_3 : Int) (a_5 : List Int) (y_9 : T_api_Program) (x_10 : Int) (y_11 : T_api_Program) : Option (Bool) :=
  Option.bind (gi a_5 (5 : Int)) fun y1 => Option.bind (roadlaw2_dropNext y_3 y1) fun y13 => Option.bind (roadlaw2_cut_13 y_2.Actors y13.1) fun y27 => (roadlaw2_ExcerptSays.j8 y_9 x_10 (T_api_Program.mk y_11.Name y_11.Version y_11.Uses y_11.Datas y_11.Traits y_11.Impls y_11.Funcs y27))
set_option maxHeartbeats 4000000 in
set_option maxRecDepth 100000 in
theorem roadlaw2_ExcerptSays.j7.walk {W : Nat → Prop} {h0 m0 h m : Heap} {bk_2 : Nat} {cs_2 : List Value} {bk_3 : Nat} {cs_3 : List Value} {A_5 : Option Addr} {n_5 c_5 : Nat} {bk_9 : Nat} {cs_9 : List Value} {bk_11 : Nat} {cs_11 : List Value} {y_2 : T_api_Program} {y_3 : Int} {a_5 : List Int} {y_9 : T_api_Program} {x_10 : Int} {y_11 : T_api_Program} (O : Hold W h0 m0 h m [rV bk_2 29 cs_2, rV bk_3 3 cs_3, rR (aE (tell_int .i64)) A_5 c_5 a_5, rV bk_9 29 cs_9, rV bk_11 29 cs_11]) (e_2 : T_api_Program.E m y_2 cs_2) (e_3 : (eInt .i64) m y_3 cs_3) (ne_5 : n_5 = List.length a_5) (e_9 : T_api_Program.E m y_9 cs_9) (e_11 : T_api_Program.E m y_11 cs_11) (tab : TB m) {r : Bool} (e : roadlaw2_ExcerptSays.j7 y_2 y_3 a_5 y_9 x_10 y_11 = some r) : f3.j7 (roadlaw2_ExcerptSays.post W h0 m0 r) (⟨bk_2, 0, none⟩ : Addr) (⟨bk_3, 0, none⟩ : Addr) A_5 n_5 c_5 (⟨bk_9, 0, none⟩ : Addr) x_10 (⟨bk_11, 0, none⟩ : Addr) h := by
  unfold roadlaw2_ExcerptSays.j7 at e
  obtain rfl : cs_3 = [(Value.int .i64 y_3)] := e_3
  subst ne_5
  refine f3.j7_in ?_
  unfold f3.j7T
  obtain ⟨y1, g2, e⟩ := bind_e e
  refine (O.os 2 rfl).addr rfl g2 fun a3 cs4 ha5 hc6 he7 => ?_
  obtain rfl : cs4 = [(Value.int .i64 y1)] := he7
  refine ⟨_, ld0 (Sub.refl _) hc6 rfl, _, rfl, ?_⟩
  obtain ⟨y13, g14, e⟩ := bind_e e
  obtain ⟨y27, g28, e⟩ := bind_e e
  refine ⟨?_, ?_⟩
  · obtain ⟨A50, c51, q52, k53, r54⟩ := T_api_Program.g7 e_2
    refine ⟨_, ldk (k := 7) (Sub.refl _) (O.all 0 rfl) q52, _, _, _, rfl, ?_⟩
    refine ⟨Ext.refl _, ?_⟩
    obtain ⟨W61, P62, B63, C64⟩ := O.callC [1]
    refine (roadlaw2_dropNext.walk P62 rfl g14).mono ?_
    rintro _ h57 ⟨m58, cs66, Q59, rfl, he67⟩
    have O68 := Hold.nm (C64 Q59 (vfs_cons rV_vf vfs_nil))
    obtain rfl : cs66 = [(Value.int .i64 y13.2)] := he67
    refine ⟨_, rfl, ?_⟩
    refine (roadlaw2_cut_13.walk (Hold.start (W := No) O68.s) rfl k53 r54 g28).mono ?_
    rintro _ h71 ⟨m72, A75, n76, c77, Q73, rfl, ne78⟩
    have O80 := Hold.nm (O68.ret Q73)
    subst ne78
    refine ⟨_, _, _, rfl, ?_⟩
    obtain ⟨Ae83_2, ce83_2, Ae83_3, ce83_3, Ae83_4, ce83_4, Ae83_5, ce83_5, Ae83_6, ce83_6, Ae83_7, ce83_7, rfl, ke83_2, re83_2, ke83_3, re83_3, ke83_4, re83_4, ke83_5, re83_5, ke83_6, re83_6, ke83_7, re83_7⟩ := id e_11
    refine O80.st 4 rfl 7 (Nat.le_of_ble_eq_true rfl) trivial fun h84 O85 => ?_
    obtain ⟨m86, u87, ⟨r88, k89⟩, O90⟩ := O85.frz 6 rfl
    replace r88 : Rd 14 T_api_Actor.E m86 A75 y27 := r88
    have O91 := O90.nm
    exact roadlaw2_ExcerptSays.j8.walk (O91.pick [3, 4]).nm (T_api_Program.T.mono _ _ _ _ (Q73.S.up.trans u87) e_9) (show T_api_Program.E _ (T_api_Program.mk y_11.Name y_11.Version y_11.Uses y_11.Datas y_11.Traits y_11.Impls y_11.Funcs y27) [(Value.string y_11.Name), (Value.int .i64 y_11.Version), (Value.slice Ae83_2 (List.length y_11.Uses) ce83_2), (Value.slice Ae83_3 (List.length y_11.Datas) ce83_3), (Value.slice Ae83_4 (List.length y_11.Traits) ce83_4), (Value.slice Ae83_5 (List.length y_11.Impls) ce83_5), (Value.slice Ae83_6 (List.length y_11.Funcs) ce83_6), (Value.slice A75 (List.length y27) c77)] from ⟨_, _, _, _, _, _, _, _, _, _, _, _, rfl, ke83_2, (re83_2.sub T_api_Use.T (Q73.S.up.trans u87)), ke83_3, (re83_3.sub T_api_Data.T (Q73.S.up.trans u87)), ke83_4, (re83_4.sub T_api_Trait.T (Q73.S.up.trans u87)), ke83_5, (re83_5.sub T_api_Impl.T (Q73.S.up.trans u87)), ke83_6, (re83_6.sub T_api_Func.T (Q73.S.up.trans u87)), k89, r88⟩) (TBg.sub tab (Q73.S.up.trans u87)) e
  · obtain ⟨W98, P99, B100, C101⟩ := O.callC [1]
    refine (roadlaw2_dropNext.walk P99 rfl g14).mono ?_
    rintro _ h94 ⟨m95, cs103, Q96, rfl, he104⟩
    have O105 := Hold.nm (C101 Q96 (vfs_cons rV_vf vfs_nil))
    obtain rfl : cs103 = [(Value.int .i64 y13.2)] := he104
    refine ⟨_, rfl, ?_⟩
    obtain ⟨A106, c107, q108, k109, r110⟩ := T_api_Program.g7 e_2
    refine ⟨_, ldk (k := 7) (Sub.refl _) (O105.all 0 rfl) q108, _, _, _, rfl, ?_⟩
    refine ⟨Ext.refl _, ?_⟩
    refine (roadlaw2_cut_13.walk (Hold.start (W := No) O105.s) rfl k109 r110 g28).mono ?_
    rintro _ h113 ⟨m114, A117, n118, c119, Q115, rfl, ne120⟩
    have O122 := Hold.nm (O105.ret Q115)
    subst ne120
    refine ⟨_, _, _, rfl, ?_⟩
    obtain ⟨Ae125_2, ce125_2, Ae125_3, ce125_3, Ae125_4, ce125_4, Ae125_5, ce125_5, Ae125_6, ce125_6, Ae125_7, ce125_7, rfl, ke125_2, re125_2, ke125_3, re125_3, ke125_4, re125_4, ke125_5, re125_5, ke125_6, re125_6, ke125_7, re125_7⟩ := id e_11
    refine O122.st 4 rfl 7 (Nat.le_of_ble_eq_true rfl) trivial fun h126 O127 => ?_
    obtain ⟨m128, u129, ⟨r130, k131⟩, O132⟩ := O127.frz 6 rfl
    replace r130 : Rd 14 T_api_Actor.E m128 A117 y27 := r130
    have O133 := O132.nm
    exact roadlaw2_ExcerptSays.j8.walk (O133.pick [3, 4]).nm (T_api_Program.T.mono _ _ _ _ (Q115.S.up.trans u129) e_9) (show T_api_Program.E _ (T_api_Program.mk y_11.Name y_11.Version y_11.Uses y_11.Datas y_11.Traits y_11.Impls y_11.Funcs y27) [(Value.string y_11.Name), (Value.int .i64 y_11.Version), (Value.slice Ae125_2 (List.length y_11.Uses) ce125_2), (Value.slice Ae125_3 (List.length y_11.Datas) ce125_3), (Value.slice Ae125_4 (List.length y_11.Traits) ce125_4), (Value.slice Ae125_5 (List.length y_11.Impls) ce125_5), (Value.slice Ae125_6 (List.length y_11.Funcs) ce125_6), (Value.slice A117 (List.length y27) c119)] from ⟨_, _, _, _, _, _, _, _, _, _, _, _, rfl, ke125_2, (re125_2.sub T_api_Use.T (Q115.S.up.trans u129)), ke125_3, (re125_3.sub T_api_Data.T (Q115.S.up.trans u129)), ke125_4, (re125_4.sub T_api_Trait.T (Q115.S.up.trans u129)), ke125_5, (re125_5.sub T_api_Impl.T (Q115.S.up.trans u129)), ke125_6, (re125_6.sub T_api_Func.T (Q115.S.up.trans u129)), k131, r130⟩) (TBg.sub tab (Q115.S.up.trans u129)) e
noncomputable def roadlaw2_ExcerptSays.j6 (y_2 : T_api_Program) (y_3 : Int) (a_5 : List Int) (y_9 : T_api_Program) (x_10 : Int) (y_11 : T_api_Program) : Option (Bool) :=
  Option.bind (gi a_5 (4 : Int)) fun y1 => Option.bind (roadlaw2_dropNext y_3 y1) fun y13 => Option.bind (roadlaw2_cut_12 y_2.Funcs y13.1) fun y27 => (roadlaw2_ExcerptSays.j7 y_2 y13.2 a_5 y_9 x_10 (T_api_Program.mk y_11.Name y_11.Version y_11.Uses y_11.Datas y_11.Traits y_11.Impls y27 y_11.Actors))
set_option maxHeartbeats 4000000 in
set_option maxRecDepth 100000 in
theorem roadlaw2_ExcerptSays.j6.walk {W : Nat → Prop} {h0 m0 h m : Heap} {bk_2 : Nat} {cs_2 : List Value} {bk_3 : Nat} {cs_3 : List Value} {A_5 : Option Addr} {n_5 c_5 : Nat} {bk_9 : Nat} {cs_9 : List Value} {bk_11 : Nat} {cs_11 : List Value} {y_2 : T_api_Program} {y_3 : Int} {a_5 : List Int} {y_9 : T_api_Program} {x_10 : Int} {y_11 : T_api_Program} (O : Hold W h0 m0 h m [rV bk_2 29 cs_2, rV bk_3 3 cs_3, rR (aE (tell_int .i64)) A_5 c_5 a_5, rV bk_9 29 cs_9, rV bk_11 29 cs_11]) (e_2 : T_api_Program.E m y_2 cs_2) (e_3 : (eInt .i64) m y_3 cs_3) (ne_5 : n_5 = List.length a_5) (e_9 : T_api_Program.E m y_9 cs_9) (e_11 : T_api_Program.E m y_11 cs_11) (tab : TB m) {r : Bool} (e : roadlaw2_ExcerptSays.j6 y_2 y_3 a_5 y_9 x_10 y_11 = some r) : f3.j6 (roadlaw2_ExcerptSays.post W h0 m0 r) (⟨bk_2, 0, none⟩ : Addr) (⟨bk_3, 0, none⟩ : Addr) A_5 n_5 c_5 (⟨bk_9, 0, none⟩ : Addr) x_10 (⟨bk_11, 0, none⟩ : Addr) h := by
  unfold roadlaw2_ExcerptSays.j6 at e
  obtain rfl : cs_3 = [(Value.int .i64 y_3)] := e_3
  subst ne_5
  refine f3.j6_in ?_
  unfold f3.j6T
  obtain ⟨y1, g2, e⟩ := bind_e e
  refine (O.os 2 rfl).addr rfl g2 fun a3 cs4 ha5 hc6 he7 => ?_
  obtain rfl : cs4 = [(Value.int .i64 y1)] := he7
  refine ⟨_, ld0 (Sub.refl _) hc6 rfl, _, rfl, ?_⟩
  obtain ⟨y13, g14, e⟩ := bind_e e
  obtain ⟨y27, g28, e⟩ := bind_e e
  refine ⟨?_, ?_⟩
  · obtain ⟨A50, c51, q52, k53, r54⟩ := T_api_Program.g6 e_2
    refine ⟨_, ldk (k := 6) (Sub.refl _) (O.all 0 rfl) q52, _, _, _, rfl, ?_⟩
    refine ⟨Ext.refl _, ?_⟩
    obtain ⟨W61, P62, B63, C64⟩ := O.callC [1]
    refine (roadlaw2_dropNext.walk P62 rfl g14).mono ?_
    rintro _ h57 ⟨m58, cs66, Q59, rfl, he67⟩
    have O68 := Hold.nm (C64 Q59 (vfs_cons rV_vf vfs_nil))
    obtain rfl : cs66 = [(Value.int .i64 y13.2)] := he67
    refine ⟨_, rfl, ?_⟩
    refine (roadlaw2_cut_12.walk (Hold.start (W := No) O68.s) rfl k53 r54 g28).mono ?_
    rintro _ h71 ⟨m72, A75, n76, c77, Q73, rfl, ne78⟩
    have O80 := Hold.nm (O68.ret Q73)
    subst ne78
    refine ⟨_, _, _, rfl, ?_⟩
    obtain ⟨Ae83_2, ce83_2, Ae83_3, ce83_3, Ae83_4, ce83_4, Ae83_5, ce83_5, Ae83_6, ce83_6, Ae83_7, ce83_7, rfl, ke83_2, re83_2, ke83_3, re83_3, ke83_4, re83_4, ke83_5, re83_5, ke83_6, re83_6, ke83_7, re83_7⟩ := id e_11
    refine O80.st 4 rfl 6 (Nat.le_of_ble_eq_true rfl) trivial fun h84 O85 => ?_
    obtain ⟨m86, u87, ⟨r88, k89⟩, O90⟩ := O85.frz 6 rfl
    replace r88 : Rd 15 T_api_Func.E m86 A75 y27 := r88
    have O91 := O90.nm
    exact roadlaw2_ExcerptSays.j7.walk (O91.pick [0, 5, 2, 3, 4]).nm (T_api_Program.T.mono _ _ _ _ (Q73.S.up.trans u87) e_2) rfl rfl (T_api_Program.T.mono _ _ _ _ (Q73.S.up.trans u87) e_9) (show T_api_Program.E _ (T_api_Program.mk y_11.Name y_11.Version y_11.Uses y_11.Datas y_11.Traits y_11.Impls y27 y_11.Actors) [(Value.string y_11.Name), (Value.int .i64 y_11.Version), (Value.slice Ae83_2 (List.length y_11.Uses) ce83_2), (Value.slice Ae83_3 (List.length y_11.Datas) ce83_3), (Value.slice Ae83_4 (List.length y_11.Traits) ce83_4), (Value.slice Ae83_5 (List.length y_11.Impls) ce83_5), (Value.slice A75 (List.length y27) c77), (Value.slice Ae83_7 (List.length y_11.Actors) ce83_7)] from ⟨_, _, _, _, _, _, _, _, _, _, _, _, rfl, ke83_2, (re83_2.sub T_api_Use.T (Q73.S.up.trans u87)), ke83_3, (re83_3.sub T_api_Data.T (Q73.S.up.trans u87)), ke83_4, (re83_4.sub T_api_Trait.T (Q73.S.up.trans u87)), ke83_5, (re83_5.sub T_api_Impl.T (Q73.S.up.trans u87)), k89, r88, ke83_7, (re83_7.sub T_api_Actor.T (Q73.S.up.trans u87))⟩) (TBg.sub tab (Q73.S.up.trans u87)) e
  · obtain ⟨W98, P99, B100, C101⟩ := O.callC [1]
    refine (roadlaw2_dropNext.walk P99 rfl g14).mono ?_
    rintro _ h94 ⟨m95, cs103, Q96, rfl, he104⟩
    have O105 := Hold.nm (C101 Q96 (vfs_cons rV_vf vfs_nil))
    obtain rfl : cs103 = [(Value.int .i64 y13.2)] := he104
    refine ⟨_, rfl, ?_⟩
    obtain ⟨A106, c107, q108, k109, r110⟩ := T_api_Program.g6 e_2
    refine ⟨_, ldk (k := 6) (Sub.refl _) (O105.all 0 rfl) q108, _, _, _, rfl, ?_⟩
    refine ⟨Ext.refl _, ?_⟩
    refine (roadlaw2_cut_12.walk (Hold.start (W := No) O105.s) rfl k109 r110 g28).mono ?_
    rintro _ h113 ⟨m114, A117, n118, c119, Q115, rfl, ne120⟩
    have O122 := Hold.nm (O105.ret Q115)
    subst ne120
    refine ⟨_, _, _, rfl, ?_⟩
    obtain ⟨Ae125_2, ce125_2, Ae125_3, ce125_3, Ae125_4, ce125_4, Ae125_5, ce125_5, Ae125_6, ce125_6, Ae125_7, ce125_7, rfl, ke125_2, re125_2, ke125_3, re125_3, ke125_4, re125_4, ke125_5, re125_5, ke125_6, re125_6, ke125_7, re125_7⟩ := id e_11
    refine O122.st 4 rfl 6 (Nat.le_of_ble_eq_true rfl) trivial fun h126 O127 => ?_
    obtain ⟨m128, u129, ⟨r130, k131⟩, O132⟩ := O127.frz 6 rfl
    replace r130 : Rd 15 T_api_Func.E m128 A117 y27 := r130
    have O133 := O132.nm
    exact roadlaw2_ExcerptSays.j7.walk (O133.pick [0, 5, 2, 3, 4]).nm (T_api_Program.T.mono _ _ _ _ (Q115.S.up.trans u129) e_2) rfl rfl (T_api_Program.T.mono _ _ _ _ (Q115.S.up.trans u129) e_9) (show T_api_Program.E _ (T_api_Program.mk y_11.Name y_11.Version y_11.Uses y_11.Datas y_11.Traits y_11.Impls y27 y_11.Actors) [(Value.string y_11.Name), (Value.int .i64 y_11.Version), (Value.slice Ae125_2 (List.length y_11.Uses) ce125_2), (Value.slice Ae125_3 (List.length y_11.Datas) ce125_3), (Value.slice Ae125_4 (List.length y_11.Traits) ce125_4), (Value.slice Ae125_5 (List.length y_11.Impls) ce125_5), (Value.slice A117 (List.length y27) c119), (Value.slice Ae125_7 (List.length y_11.Actors) ce125_7)] from ⟨_, _, _, _, _, _, _, _, _, _, _, _, rfl, ke125_2, (re125_2.sub T_api_Use.T (Q115.S.up.trans u129)), ke125_3, (re125_3.sub T_api_Data.T (Q115.S.up.trans u129)), ke125_4, (re125_4.sub T_api_Trait.T (Q115.S.up.trans u129)), ke125_5, (re125_5.sub T_api_Impl.T (Q115.S.up.trans u129)), k131, r130, ke125_7, (re125_7.sub T_api_Actor.T (Q115.S.up.trans u129))⟩) (TBg.sub tab (Q115.S.up.trans u129)) e
noncomputable def roadlaw2_ExcerptSays.j5 (y_2 : T_api_Program) (y_3 : Int) (a_5 : List Int) (y_9 : T_api_Program) (x_10 : Int) (y_11 : T_api_Program) : Option (Bool) :=
  Option.bind (gi a_5 (3 : Int)) fun y1 => Option.bind (roadlaw2_dropNext y_3 y1) fun y13 => Option.bind (roadlaw2_cut_11 y_2.Impls y13.1) fun y27 => (roadlaw2_ExcerptSays.j6 y_2 y13.2 a_5 y_9 x_10 (T_api_Program.mk y_11.Name y_11.Version y_11.Uses y_11.Datas y_11.Traits y27 y_11.Funcs y_11.Actors))
set_option maxHeartbeats 4000000 in
set_option maxRecDepth 100000 in
theorem roadlaw2_ExcerptSays.j5.walk {W : Nat → Prop} {h0 m0 h m : Heap} {bk_2 : Nat} {cs_2 : List Value} {bk_3 : Nat} {cs_3 : List Value} {A_5 : Option Addr} {n_5 c_5 : Nat} {bk_9 : Nat} {cs_9 : List Value} {bk_11 : Nat} {cs_11 : List Value} {y_2 : T_api_Program} {y_3 : Int} {a_5 : List Int} {y_9 : T_api_Program} {x_10 : Int} {y_11 : T_api_Program} (O : Hold W h0 m0 h m [rV bk_2 29 cs_2, rV bk_3 3 cs_3, rR (aE (tell_int .i64)) A_5 c_5 a_5, rV bk_9 29 cs_9, rV bk_11 29 cs_11]) (e_2 : T_api_Program.E m y_2 cs_2) (e_3 : (eInt .i64) m y_3 cs_3) (ne_5 : n_5 = List.length a_5) (e_9 : T_api_Program.E m y_9 cs_9) (e_11 : T_api_Program.E m y_11 cs_11) (tab : TB m) {r : Bool} (e : roadlaw2_ExcerptSays.j5 y_2 y_3 a_5 y_9 x_10 y_11 = some r) : f3.j5 (roadlaw2_ExcerptSays.post W h0 m0 r) (⟨bk_2, 0, none⟩ : Addr) (⟨bk_3, 0, none⟩ : Addr) A_5 n_5 c_5 (⟨bk_9, 0, none⟩ : Addr) x_10 (⟨bk_11, 0, none⟩ : Addr) h := by
  unfold roadlaw2_ExcerptSays.j5 at e
  obtain rfl : cs_3 = [(Value.int .i64 y_3)] := e_3
  subst ne_5
  refine f3.j5_in ?_
  unfold f3.j5T
  obtain ⟨y1, g2, e⟩ := bind_e e
  refine (O.os 2 rfl).addr rfl g2 fun a3 cs4 ha5 hc6 he7 => ?_
  obtain rfl : cs4 = [(Value.int .i64 y1)] := he7
  refine ⟨_, ld0 (Sub.refl _) hc6 rfl, _, rfl, ?_⟩
  obtain ⟨y13, g14, e⟩ := bind_e e
  obtain ⟨y27, g28, e⟩ := bind_e e
  refine ⟨?_, ?_⟩
  · obtain ⟨A50, c51, q52, k53, r54⟩ := T_api_Program.g5 e_2
    refine ⟨_, ldk (k := 5) (Sub.refl _) (O.all 0 rfl) q52, _, _, _, rfl, ?_⟩
    refine ⟨Ext.refl _, ?_⟩
    obtain ⟨W61, P62, B63, C64⟩ := O.callC [1]
    refine (roadlaw2_dropNext.walk P62 rfl g14).mono ?_
    rintro _ h57 ⟨m58, cs66, Q59, rfl, he67⟩
    have O68 := Hold.nm (C64 Q59 (vfs_cons rV_vf vfs_nil))
    obtain rfl : cs66 = [(Value.int .i64 y13.2)] := he67
    refine ⟨_, rfl, ?_⟩
    refine (roadlaw2_cut_11.walk (Hold.start (W := No) O68.s) rfl k53 r54 g28).mono ?_
    rintro _ h71 ⟨m72, A75, n76, c77, Q73, rfl, ne78⟩
    have O80 := Hold.nm (O68.ret Q73)
    subst ne78
    refine ⟨_, _, _, rfl, ?_⟩
    obtain ⟨Ae83_2, ce83_2, Ae83_3, ce83_3, Ae83_4, ce83_4, Ae83_5, ce83_5, Ae83_6, ce83_6, Ae83_7, ce83_7, rfl, ke83_2, re83_2, ke83_3, re83_3, ke83_4, re83_4, ke83_5, re83_5, ke83_6, re83_6, ke83_7, re83_7⟩ := id e_11
    refine O80.st 4 rfl 5 (Nat.le_of_ble_eq_true rfl) trivial fun h84 O85 => ?_
    obtain ⟨m86, u87, ⟨r88, k89⟩, O90⟩ := O85.frz 6 rfl
    replace r88 : Rd 3 T_api_Impl.E m86 A75 y27 := r88
    have O91 := O90.nm
    exact roadlaw2_ExcerptSays.j6.walk (O91.pick [0, 5, 2, 3, 4]).nm (T_api_Program.T.mono _ _ _ _ (Q73.S.up.trans u87) e_2) rfl rfl (T_api_Program.T.mono _ _ _ _ (Q73.S.up.trans u87) e_9) (show T_api_Program.E _ (T_api_Program.mk y_11.Name y_11.Version y_11.Uses y_11.Datas y_11.Traits y27 y_11.Funcs y_11.Actors) [(Value.string y_11.Name), (Value.int .i64 y_11.Version), (Value.slice Ae83_2 (List.length y_11.Uses) ce83_2), (Value.slice Ae83_3 (List.length y_11.Datas) ce83_3), (Value.slice Ae83_4 (List.length y_11.Traits) ce83_4), (Value.slice A75 (List.length y27) c77), (Value.slice Ae83_6 (List.length y_11.Funcs) ce83_6), (Value.slice Ae83_7 (List.length y_11.Actors) ce83_7)] from ⟨_, _, _, _, _, _, _, _, _, _, _, _, rfl, ke83_2, (re83_2.sub T_api_Use.T (Q73.S.up.trans u87)), ke83_3, (re83_3.sub T_api_Data.T (Q73.S.up.trans u87)), ke83_4, (re83_4.sub T_api_Trait.T (Q73.S.up.trans u87)), k89, r88, ke83_6, (re83_6.sub T_api_Func.T (Q73.S.up.trans u87)), ke83_7, (re83_7.sub T_api_Actor.T (Q73.S.up.trans u87))⟩) (TBg.sub tab (Q73.S.up.trans u87)) e
  · obtain ⟨W98, P99, B100, C101⟩ := O.callC [1]
    refine (roadlaw2_dropNext.walk P99 rfl g14).mono ?_
    rintro _ h94 ⟨m95, cs103, Q96, rfl, he104⟩
    have O105 := Hold.nm (C101 Q96 (vfs_cons rV_vf vfs_nil))
    obtain rfl : cs103 = [(Value.int .i64 y13.2)] := he104
    refine ⟨_, rfl, ?_⟩
    obtain ⟨A106, c107, q108, k109, r110⟩ := T_api_Program.g5 e_2
    refine ⟨_, ldk (k := 5) (Sub.refl _) (O105.all 0 rfl) q108, _, _, _, rfl, ?_⟩
    refine ⟨Ext.refl _, ?_⟩
    refine (roadlaw2_cut_11.walk (Hold.start (W := No) O105.s) rfl k109 r110 g28).mono ?_
    rintro _ h113 ⟨m114, A117, n118, c119, Q115, rfl, ne120⟩
    have O122 := Hold.nm (O105.ret Q115)
    subst ne120
    refine ⟨_, _, _, rfl, ?_⟩
    obtain ⟨Ae125_2, ce125_2, Ae125_3, ce125_3, Ae125_4, ce125_4, Ae125_5, ce125_5, Ae125_6, ce125_6, Ae125_7, ce125_7, rfl, ke125_2, re125_2, ke125_3, re125_3, ke125_4, re125_4, ke125_5, re125_5, ke125_6, re125_6, ke125_7, re125_7⟩ := id e_11
    refine O122.st 4 rfl 5 (Nat.le_of_ble_eq_true rfl) trivial fun h126 O127 => ?_
    obtain ⟨m128, u129, ⟨r130, k131⟩, O132⟩ := O127.frz 6 rfl
    replace r130 : Rd 3 T_api_Impl.E m128 A117 y27 := r130
    have O133 := O132.nm
    exact roadlaw2_ExcerptSays.j6.walk (O133.pick [0, 5, 2, 3, 4]).nm (T_api_Program.T.mono _ _ _ _ (Q115.S.up.trans u129) e_2) rfl rfl (T_api_Program.T.mono _ _ _ _ (Q115.S.up.trans u129) e_9) (show T_api_Program.E _ (T_api_Program.mk y_11.Name y_11.Version y_11.Uses y_11.Datas y_11.Traits y27 y_11.Funcs y_11.Actors) [(Value.string y_11.Name), (Value.int .i64 y_11.Version), (Value.slice Ae125_2 (List.length y_11.Uses) ce125_2), (Value.slice Ae125_3 (List.length y_11.Datas) ce125_3), (Value.slice Ae125_4 (List.length y_11.Traits) ce125_4), (Value.slice A117 (List.length y27) c119), (Value.slice Ae125_6 (List.length y_11.Funcs) ce125_6), (Value.slice Ae125_7 (List.length y_11.Actors) ce125_7)] from ⟨_, _, _, _, _, _, _, _, _, _, _, _, rfl, ke125_2, (re125_2.sub T_api_Use.T (Q115.S.up.trans u129)), ke125_3, (re125_3.sub T_api_Data.T (Q115.S.up.trans u129)), ke125_4, (re125_4.sub T_api_Trait.T (Q115.S.up.trans u129)), k131, r130, ke125_6, (re125_6.sub T_api_Func.T (Q115.S.up.trans u129)), ke125_7, (re125_7.sub T_api_Actor.T (Q115.S.up.trans u129))⟩) (TBg.sub tab (Q115.S.up.trans u129)) e
noncomputable def roadlaw2_ExcerptSays.j4 (y_2 : T_api_Program) (y_3 : Int) (a_5 : List Int) (y_9 : T_api_Program) (x_10 : Int) (y_11 : T_api_Program) : Option (Bool) :=
  Option.bind (gi a_5 (2 : Int)) fun y1 => Option.bind (roadlaw2_dropNext y_3 y1) fun y13 => Option.bind (roadlaw2_cut_10 y_2.Traits y13.1) fun y27 => (roadlaw2_ExcerptSays.j5 y_2 y13.2 a_5 y_9 x_10 (T_api_Program.mk y_11.Name y_11.Version y_11.Uses y_11.Datas y27 y_11.Impls y_11.Funcs y_11.Actors))
set_option maxHeartbeats 4000000 in
set_option maxRecDepth 100000 in
theorem roadlaw2_ExcerptSays.j4.walk {W : Nat → Prop} {h0 m0 h m : Heap} {bk_2 : Nat} {cs_2 : List Value} {bk_3 : Nat} {cs_3 : List Value} {A_5 : Option Addr} {n_5 c_5 : Nat} {bk_9 : Nat} {cs_9 : List Value} {bk_11 : Nat} {cs_11 : List Value} {y_2 : T_api_Program} {y_3 : Int} {a_5 : List Int} {y_9 : T_api_Program} {x_10 : Int} {y_11 : T_api_Program} (O : Hold W h0 m0 h m [rV bk_2 29 cs_2, rV bk_3 3 cs_3, rR (aE (tell_int .i64)) A_5 c_5 a_5, rV bk_9 29 cs_9, rV bk_11 29 cs_11]) (e_2 : T_api_Program.E m y_2 cs_2) (e_3 : (eInt .i64) m y_3 cs_3) (ne_5 : n_5 = List.length a_5) (e_9 : T_api_Program.E m y_9 cs_9) (e_11 : T_api_Program.E m y_11 cs_11) (tab : TB m) {r : Bool} (e : roadlaw2_ExcerptSays.j4 y_2 y_3 a_5 y_9 x_10 y_11 = some r) : f3.j4 (roadlaw2_ExcerptSays.post W h0 m0 r) (⟨bk_2, 0, none⟩ : Addr) (⟨bk_3, 0, none⟩ : Addr) A_5 n_5 c_5 (⟨bk_9, 0, none⟩ : Addr) x_10 (⟨bk_11, 0, none⟩ : Addr) h := by
  unfold roadlaw2_ExcerptSays.j4 at e
  obtain rfl : cs_3 = [(Value.int .i64 y_3)] := e_3
  subst ne_5
  refine f3.j4_in ?_
  unfold f3.j4T
  obtain ⟨y1, g2, e⟩ := bind_e e
  refine (O.os 2 rfl).addr rfl g2 fun a3 cs4 ha5 hc6 he7 => ?_
  obtain rfl : cs4 = [(Value.int .i64 y1)] := he7
  refine ⟨_, ld0 (Sub.refl _) hc6 rfl, _, rfl, ?_⟩
  obtain ⟨y13, g14, e⟩ := bind_e e
  obtain ⟨y27, g28, e⟩ := bind_e e
  refine ⟨?_, ?_⟩
  · obtain ⟨A50, c51, q52, k53, r54⟩ := T_api_Program.g4 e_2
    refine ⟨_, ldk (k := 4) (Sub.refl _) (O.all 0 rfl) q52, _, _, _, rfl, ?_⟩
    refine ⟨Ext.refl _, ?_⟩
    obtain ⟨W61, P62, B63, C64⟩ := O.callC [1]
    refine (roadlaw2_dropNext.walk P62 rfl g14).mono ?_
    rintro _ h57 ⟨m58, cs66, Q59, rfl, he67⟩
    have O68 := Hold.nm (C64 Q59 (vfs_cons rV_vf vfs_nil))
    obtain rfl : cs66 = [(Value.int .i64 y13.2)] := he67
    refine ⟨_, rfl, ?_⟩
    refine (roadlaw2_cut_10.walk (Hold.start (W := No) O68.s) rfl k53 r54 g28).mono ?_
    rintro _ h71 ⟨m72, A75, n76, c77, Q73, rfl, ne78⟩
    have O80 := Hold.nm (O68.ret Q73)
    subst ne78
    refine ⟨_, _, _, rfl, ?_⟩
    obtain ⟨Ae83_2, ce83_2, Ae83_3, ce83_3, Ae83_4, ce83_4, Ae83_5, ce83_5, Ae83_6, ce83_6, Ae83_7, ce83_7, rfl, ke83_2, re83_2, ke83_3, re83_3, ke83_4, re83_4, ke83_5, re83_5, ke83_6, re83_6, ke83_7, re83_7⟩ := id e_11
    refine O80.st 4 rfl 4 (Nat.le_of_ble_eq_true rfl) trivial fun h84 O85 => ?_
    obtain ⟨m86, u87, ⟨r88, k89⟩, O90⟩ := O85.frz 6 rfl
    replace r88 : Rd 2 T_api_Trait.E m86 A75 y27 := r88
    have O91 := O90.nm
    exact roadlaw2_ExcerptSays.j5.walk (O91.pick [0, 5, 2, 3, 4]).nm (T_api_Program.T.mono _ _ _ _ (Q73.S.up.trans u87) e_2) rfl rfl (T_api_Program.T.mono _ _ _ _ (Q73.S.up.trans u87) e_9) (show T_api_Program.E _ (T_api_Program.mk y_11.Name y_11.Version y_11.Uses y_11.Datas y27 y_11.Impls y_11.Funcs y_11.Actors) [(Value.string y_11.Name), (Value.int .i64 y_11.Version), (Value.slice Ae83_2 (List.length y_11.Uses) ce83_2), (Value.slice Ae83_3 (List.length y_11.Datas) ce83_3), (Value.slice A75 (List.length y27) c77), (Value.slice Ae83_5 (List.length y_11.Impls) ce83_5), (Value.slice Ae83_6 (List.length y_11.Funcs) ce83_6), (Value.slice Ae83_7 (List.length y_11.Actors) ce83_7)] from ⟨_, _, _, _, _, _, _, _, _, _, _, _, rfl, ke83_2, (re83_2.sub T_api_Use.T (Q73.S.up.trans u87)), ke83_3, (re83_3.sub T_api_Data.T (Q73.S.up.trans u87)), k89, r88, ke83_5, (re83_5.sub T_api_Impl.T (Q73.S.up.trans u87)), ke83_6, (re83_6.sub T_api_Func.T (Q73.S.up.trans u87)), ke83_7, (re83_7.sub T_api_Actor.T (Q73.S.up.trans u87))⟩) (TBg.sub tab (Q73.S.up.trans u87)) e
  · obtain ⟨W98, P99, B100, C101⟩ := O.callC [1]
    refine (roadlaw2_dropNext.walk P99 rfl g14).mono ?_
    rintro _ h94 ⟨m95, cs103, Q96, rfl, he104⟩
    have O105 := Hold.nm (C101 Q96 (vfs_cons rV_vf vfs_nil))
    obtain rfl : cs103 = [(Value.int .i64 y13.2)] := he104
    refine ⟨_, rfl, ?_⟩
    obtain ⟨A106, c107, q108, k109, r110⟩ := T_api_Program.g4 e_2
    refine ⟨_, ldk (k := 4) (Sub.refl _) (O105.all 0 rfl) q108, _, _, _, rfl, ?_⟩
    refine ⟨Ext.refl _, ?_⟩
    refine (roadlaw2_cut_10.walk (Hold.start (W := No) O105.s) rfl k109 r110 g28).mono ?_
    rintro _ h113 ⟨m114, A117, n118, c119, Q115, rfl, ne120⟩
    have O122 := Hold.nm (O105.ret Q115)
    subst ne120
    refine ⟨_, _, _, rfl, ?_⟩
    obtain ⟨Ae125_2, ce125_2, Ae125_3, ce125_3, Ae125_4, ce125_4, Ae125_5, ce125_5, Ae125_6, ce125_6, Ae125_7, ce125_7, rfl, ke125_2, re125_2, ke125_3, re125_3, ke125_4, re125_4, ke125_5, re125_5, ke125_6, re125_6, ke125_7, re125_7⟩ := id e_11
    refine O122.st 4 rfl 4 (Nat.le_of_ble_eq_true rfl) trivial fun h126 O127 => ?_
    obtain ⟨m128, u129, ⟨r130, k131⟩, O132⟩ := O127.frz 6 rfl
    replace r130 : Rd 2 T_api_Trait.E m128 A117 y27 := r130
    have O133 := O132.nm
    exact roadlaw2_ExcerptSays.j5.walk (O133.pick [0, 5, 2, 3, 4]).nm (T_api_Program.T.mono _ _ _ _ (Q115.S.up.trans u129) e_2) rfl rfl (T_api_Program.T.mono _ _ _ _ (Q115.S.up.trans u129) e_9) (show T_api_Program.E _ (T_api_Program.mk y_11.Name y_11.Version y_11.Uses y_11.Datas y27 y_11.Impls y_11.Funcs y_11.Actors) [(Value.string y_11.Name), (Value.int .i64 y_11.Version), (Value.slice Ae125_2 (List.length y_11.Uses) ce125_2), (Value.slice Ae125_3 (List.length y_11.Datas) ce125_3), (Value.slice A117 (List.length y27) c119), (Value.slice Ae125_5 (List.length y_11.Impls) ce125_5), (Value.slice Ae125_6 (List.length y_11.Funcs) ce125_6), (Value.slice Ae125_7 (List.length y_11.Actors) ce125_7)] from ⟨_, _, _, _, _, _, _, _, _, _, _, _, rfl, ke125_2, (re125_2.sub T_api_Use.T (Q115.S.up.trans u129)), ke125_3, (re125_3.sub T_api_Data.T (Q115.S.up.trans u129)), k131, r130, ke125_5, (re125_5.sub T_api_Impl.T (Q115.S.up.trans u129)), ke125_6, (re125_6.sub T_api_Func.T (Q115.S.up.trans u129)), ke125_7, (re125_7.sub T_api_Actor.T (Q115.S.up.trans u129))⟩) (TBg.sub tab (Q115.S.up.trans u129)) e
noncomputable def roadlaw2_ExcerptSays.j3 (y_2 : T_api_Program) (y_3 : Int) (a_5 : List Int) (y_9 : T_api_Program) (x_10 : Int) (y_11 : T_api_Program) : Option (Bool) :=
  Option.bind (gi a_5 (1 : Int)) fun y1 => Option.bind (roadlaw2_dropNext y_3 y1) fun y13 => Option.bind (roadlaw2_cut_9 y_2.Datas y13.1) fun y27 => (roadlaw2_ExcerptSays.j4 y_2 y13.2 a_5 y_9 x_10 (T_api_Program.mk y_11.Name y_11.Version y_11.Uses y27 y_11.Traits y_11.Impls y_11.Funcs y_11.Actors))
set_option maxHeartbeats 4000000 in
set_option maxRecDepth 100000 in
theorem roadlaw2_ExcerptSays.j3.walk {W : Nat → Prop} {h0 m0 h m : Heap} {bk_2 : Nat} {cs_2 : List Value} {bk_3 : Nat} {cs_3 : List Value} {A_5 : Option Addr} {n_5 c_5 : Nat} {bk_9 : Nat} {cs_9 : List Value} {bk_11 : Nat} {cs_11 : List Value} {y_2 : T_api_Program} {y_3 : Int} {a_5 : List Int} {y_9 : T_api_Program} {x_10 : Int} {y_11 : T_api_Program} (O : Hold W h0 m0 h m [rV bk_2 29 cs_2, rV bk_3 3 cs_3, rR (aE (tell_int .i64)) A_5 c_5 a_5, rV bk_9 29 cs_9, rV bk_11 29 cs_11]) (e_2 : T_api_Program.E m y_2 cs_2) (e_3 : (eInt .i64) m y_3 cs_3) (ne_5 : n_5 = List.length a_5) (e_9 : T_api_Program.E m y_9 cs_9) (e_11 : T_api_Program.E m y_11 cs_11) (tab : TB m) {r : Bool} (e : roadlaw2_ExcerptSays.j3 y_2 y_3 a_5 y_9 x_10 y_11 = some r) : f3.j3 (roadlaw2_ExcerptSays.post W h0 m0 r) (⟨bk_2, 0, none⟩ : Addr) (⟨bk_3, 0, none⟩ : Addr) A_5 n_5 c_5 (⟨bk_9, 0, none⟩ : Addr) x_10 (⟨bk_11, 0, none⟩ : Addr) h := by
  unfold roadlaw2_ExcerptSays.j3 at e
  obtain rfl : cs_3 = [(Value.int .i64 y_3)] := e_3
  subst ne_5
  refine f3.j3_in ?_
  unfold f3.j3T
  obtain ⟨y1, g2, e⟩ := bind_e e
  refine (O.os 2 rfl).addr rfl g2 fun a3 cs4 ha5 hc6 he7 => ?_
  obtain rfl : cs4 = [(Value.int .i64 y1)] := he7
  refine ⟨_, ld0 (Sub.refl _) hc6 rfl, _, rfl, ?_⟩
  obtain ⟨y13, g14, e⟩ := bind_e e
  obtain ⟨y27, g28, e⟩ := bind_e e
  refine ⟨?_, ?_⟩
  · obtain ⟨A50, c51, q52, k53, r54⟩ := T_api_Program.g3 e_2
    refine ⟨_, ldk (k := 3) (Sub.refl _) (O.all 0 rfl) q52, _, _, _, rfl, ?_⟩
    refine ⟨Ext.refl _, ?_⟩
    obtain ⟨W61, P62, B63, C64⟩ := O.callC [1]
    refine (roadlaw2_dropNext.walk P62 rfl g14).mono ?_
    rintro _ h57 ⟨m58, cs66, Q59, rfl, he67⟩
    have O68 := Hold.nm (C64 Q59 (vfs_cons rV_vf vfs_nil))
    obtain rfl : cs66 = [(Value.int .i64 y13.2)] := he67
    refine ⟨_, rfl, ?_⟩
    refine (roadlaw2_cut_9.walk (Hold.start (W := No) O68.s) rfl k53 r54 g28).mono ?_
    rintro _ h71 ⟨m72, A75, n76, c77, Q73, rfl, ne78⟩
    have O80 := Hold.nm (O68.ret Q73)
    subst ne78
    refine ⟨_, _, _, rfl, ?_⟩
    obtain ⟨Ae83_2, ce83_2, Ae83_3, ce83_3, Ae83_4, ce83_4, Ae83_5, ce83_5, Ae83_6, ce83_6, Ae83_7, ce83_7, rfl, ke83_2, re83_2, ke83_3, re83_3, ke83_4, re83_4, ke83_5, re83_5, ke83_6, re83_6, ke83_7, re83_7⟩ := id e_11
    refine O80.st 4 rfl 3 (Nat.le_of_ble_eq_true rfl) trivial fun h84 O85 => ?_
    obtain ⟨m86, u87, ⟨r88, k89⟩, O90⟩ := O85.frz 6 rfl
    replace r88 : Rd 3 T_api_Data.E m86 A75 y27 := r88
    have O91 := O90.nm
    exact roadlaw2_ExcerptSays.j4.walk (O91.pick [0, 5, 2, 3, 4]).nm (T_api_Program.T.mono _ _ _ _ (Q73.S.up.trans u87) e_2) rfl rfl (T_api_Program.T.mono _ _ _ _ (Q73.S.up.trans u87) e_9) (show T_api_Program.E _ (T_api_Program.mk y_11.Name y_11.Version y_11.Uses y27 y_11.Traits y_11.Impls y_11.Funcs y_11.Actors) [(Value.string y_11.Name), (Value.int .i64 y_11.Version), (Value.slice Ae83_2 (List.length y_11.Uses) ce83_2), (Value.slice A75 (List.length y27) c77), (Value.slice Ae83_4 (List.length y_11.Traits) ce83_4), (Value.slice Ae83_5 (List.length y_11.Impls) ce83_5), (Value.slice Ae83_6 (List.length y_11.Funcs) ce83_6), (Value.slice Ae83_7 (List.length y_11.Actors) ce83_7)] from ⟨_, _, _, _, _, _, _, _, _, _, _, _, rfl, ke83_2, (re83_2.sub T_api_Use.T (Q73.S.up.trans u87)), k89, r88, ke83_4, (re83_4.sub T_api_Trait.T (Q73.S.up.trans u87)), ke83_5, (re83_5.sub T_api_Impl.T (Q73.S.up.trans u87)), ke83_6, (re83_6.sub T_api_Func.T (Q73.S.up.trans u87)), ke83_7, (re83_7.sub T_api_Actor.T (Q73.S.up.trans u87))⟩) (TBg.sub tab (Q73.S.up.trans u87)) e
  · obtain ⟨W98, P99, B100, C101⟩ := O.callC [1]
    refine (roadlaw2_dropNext.walk P99 rfl g14).mono ?_
    rintro _ h94 ⟨m95, cs103, Q96, rfl, he104⟩
    have O105 := Hold.nm (C101 Q96 (vfs_cons rV_vf vfs_nil))
    obtain rfl : cs103 = [(Value.int .i64 y13.2)] := he104
    refine ⟨_, rfl, ?_⟩
    obtain ⟨A106, c107, q108, k109, r110⟩ := T_api_Program.g3 e_2
    refine ⟨_, ldk (k := 3) (Sub.refl _) (O105.all 0 rfl) q108, _, _, _, rfl, ?_⟩
    refine ⟨Ext.refl _, ?_⟩
    refine (roadlaw2_cut_9.walk (Hold.start (W := No) O105.s) rfl k109 r110 g28).mono ?_
    rintro _ h113 ⟨m114, A117, n118, c119, Q115, rfl, ne120⟩
    have O122 := Hold.nm (O105.ret Q115)
    subst ne120
    refine ⟨_, _, _, rfl, ?_⟩
    obtain ⟨Ae125_2, ce125_2, Ae125_3, ce125_3, Ae125_4, ce125_4, Ae125_5, ce125_5, Ae125_6, ce125_6, Ae125_7, ce125_7, rfl, ke125_2, re125_2, ke125_3, re125_3, ke125_4, re125_4, ke125_5, re125_5, ke125_6, re125_6, ke125_7, re125_7⟩ := id e_11
    refine O122.st 4 rfl 3 (Nat.le_of_ble_eq_true rfl) trivial fun h126 O127 => ?_
    obtain ⟨m128, u129, ⟨r130, k131⟩, O132⟩ := O127.frz 6 rfl
    replace r130 : Rd 3 T_api_Data.E m128 A117 y27 := r130
    have O133 := O132.nm
    exact roadlaw2_ExcerptSays.j4.walk (O133.pick [0, 5, 2, 3, 4]).nm (T_api_Program.T.mono _ _ _ _ (Q115.S.up.trans u129) e_2) rfl rfl (T_api_Program.T.mono _ _ _ _ (Q115.S.up.trans u129) e_9) (show T_api_Program.E _ (T_api_Program.mk y_11.Name y_11.Version y_11.Uses y27 y_11.Traits y_11.Impls y_11.Funcs y_11.Actors) [(Value.string y_11.Name), (Value.int .i64 y_11.Version), (Value.slice Ae125_2 (List.length y_11.Uses) ce125_2), (Value.slice A117 (List.length y27) c119), (Value.slice Ae125_4 (List.length y_11.Traits) ce125_4), (Value.slice Ae125_5 (List.length y_11.Impls) ce125_5), (Value.slice Ae125_6 (List.length y_11.Funcs) ce125_6), (Value.slice Ae125_7 (List.length y_11.Actors) ce125_7)] from ⟨_, _, _, _, _, _, _, _, _, _, _, _, rfl, ke125_2, (re125_2.sub T_api_Use.T (Q115.S.up.trans u129)), k131, r130, ke125_4, (re125_4.sub T_api_Trait.T (Q115.S.up.trans u129)), ke125_5, (re125_5.sub T_api_Impl.T (Q115.S.up.trans u129)), ke125_6, (re125_6.sub T_api_Func.T (Q115.S.up.trans u129)), ke125_7, (re125_7.sub T_api_Actor.T (Q115.S.up.trans u129))⟩) (TBg.sub tab (Q115.S.up.trans u129)) e
noncomputable def roadlaw2_ExcerptSays.j1 (y_2 : T_api_Program) (y_3 : Int) (a_5 : List Int) (y_9 : T_api_Program) (x_10 : Int) : Option (Bool) :=
  Option.bind (gi a_5 (0 : Int)) fun y7 => Option.bind (roadlaw2_dropNext y_3 y7) fun y19 => Option.bind (roadlaw2_cut_7 y_2.Uses y19.1) fun y34 => (roadlaw2_ExcerptSays.j3 y_2 y19.2 a_5 y_9 x_10 (T_api_Program.mk y_2.Name y_2.Version y34 y_2.Datas y_2.Traits y_2.Impls y_2.Funcs y_2.Actors))
set_option maxHeartbeats 4000000 in
set_option maxRecDepth 100000 in
theorem roadlaw2_ExcerptSays.j1.walk {W : Nat → Prop} {h0 m0 h m : Heap} {bk_2 : Nat} {cs_2 : List Value} {bk_3 : Nat} {cs_3 : List Value} {A_5 : Option Addr} {n_5 c_5 : Nat} {bk_9 : Nat} {cs_9 : List Value} {y_2 : T_api_Program} {y_3 : Int} {a_5 : List Int} {y_9 : T_api_Program} {x_10 : Int} (O : Hold W h0 m0 h m [rV bk_2 29 cs_2, rV bk_3 3 cs_3, rR (aE (tell_int .i64)) A_5 c_5 a_5, rV bk_9 29 cs_9]) (e_2 : T_api_Program.E m y_2 cs_2) (e_3 : (eInt .i64) m y_3 cs_3) (ne_5 : n_5 = List.length a_5) (e_9 : T_api_Program.E m y_9 cs_9) (tab : TB m) {r : Bool} (e : roadlaw2_ExcerptSays.j1 y_2 y_3 a_5 y_9 x_10 = some r) : f3.j1 (roadlaw2_ExcerptSays.post W h0 m0 r) (⟨bk_2, 0, none⟩ : Addr) (⟨bk_3, 0, none⟩ : Addr) A_5 n_5 c_5 (⟨bk_9, 0, none⟩ : Addr) x_10 h := by
  unfold roadlaw2_ExcerptSays.j1 at e
  obtain rfl : cs_3 = [(Value.int .i64 y_3)] := e_3
  subst ne_5
  refine f3.j1_in ?_
  unfold f3.j1T
  refine ⟨_, ldAn (Sub.refl _) (O.all 0 rfl) (T_api_Program.T.len _ _ _ e_2), ?_⟩
  refine O.new fun h1 x2 O3 => ?_
  refine ⟨_, rfl, (T_api_Program.T.len _ _ _ e_2), ?_⟩
  refine O3.stA 4 rfl (T_api_Program.T.len _ _ _ e_2) (T_api_Program.T.flat _ _ _ e_2) fun h5 O6 => ?_
  obtain ⟨y7, g8, e⟩ := bind_e e
  refine (O6.os 2 rfl).addr rfl g8 fun a9 cs10 ha11 hc12 he13 => ?_
  obtain rfl : cs10 = [(Value.int .i64 y7)] := he13
  refine ⟨_, ld0 (Sub.refl _) hc12 rfl, _, rfl, ?_⟩
  obtain ⟨y19, g20, e⟩ := bind_e e
  obtain ⟨y34, g35, e⟩ := bind_e e
  refine ⟨?_, ?_⟩
  · obtain ⟨A57, c58, q59, k60, r61⟩ := T_api_Program.g2 e_2
    refine ⟨_, ldk (k := 2) (Sub.refl _) (O6.all 0 rfl) q59, _, _, _, rfl, ?_⟩
    refine ⟨Ext.refl _, ?_⟩
    have O68 := O6.nm
    obtain ⟨W69, P70, B71, C72⟩ := O68.callC [1]
    refine (roadlaw2_dropNext.walk P70 rfl g20).mono ?_
    rintro _ h64 ⟨m65, cs74, Q66, rfl, he75⟩
    have O76 := Hold.nm (C72 Q66 (vfs_cons rV_vf vfs_nil))
    obtain rfl : cs74 = [(Value.int .i64 y19.2)] := he75
    refine ⟨_, rfl, ?_⟩
    refine (roadlaw2_cut_7.walk (Hold.start (W := No) O76.s) rfl k60 r61 g35).mono ?_
    rintro _ h79 ⟨m80, A83, n84, c85, Q81, rfl, ne86⟩
    have O88 := Hold.nm (O76.retC Q81 (vfs_cons (rR_vf (aE_vf (fun _ _ _ _ h => T_api_Use.keep h))) vfs_nil))
    subst ne86
    refine ⟨_, _, _, rfl, ?_⟩
    obtain ⟨Ae91_2, ce91_2, Ae91_3, ce91_3, Ae91_4, ce91_4, Ae91_5, ce91_5, Ae91_6, ce91_6, Ae91_7, ce91_7, rfl, ke91_2, re91_2, ke91_3, re91_3, ke91_4, re91_4, ke91_5, re91_5, ke91_6, re91_6, ke91_7, re91_7⟩ := id e_2
    refine O88.st 4 rfl 2 (Nat.le_of_ble_eq_true rfl) trivial fun h92 O93 => ?_
    obtain ⟨m94, u95, ⟨r96, k97⟩, O98⟩ := O93.frz 6 rfl
    replace r96 : Rd 3 T_api_Use.E m94 A83 y34 := r96
    have O99 := O98.nm
    exact roadlaw2_ExcerptSays.j3.walk (O99.pick [0, 5, 2, 3, 4]).nm (show T_api_Program.E _ y_2 [(Value.string y_2.Name), (Value.int .i64 y_2.Version), (Value.slice Ae91_2 (List.length y_2.Uses) ce91_2), (Value.slice Ae91_3 (List.length y_2.Datas) ce91_3), (Value.slice Ae91_4 (List.length y_2.Traits) ce91_4), (Value.slice Ae91_5 (List.length y_2.Impls) ce91_5), (Value.slice Ae91_6 (List.length y_2.Funcs) ce91_6), (Value.slice Ae91_7 (List.length y_2.Actors) ce91_7)] from ⟨_, _, _, _, _, _, _, _, _, _, _, _, rfl, ke91_2, (re91_2.sub T_api_Use.T u95), ke91_3, (re91_3.sub T_api_Data.T u95), ke91_4, (re91_4.sub T_api_Trait.T u95), ke91_5, (re91_5.sub T_api_Impl.T u95), ke91_6, (re91_6.sub T_api_Func.T u95), ke91_7, (re91_7.sub T_api_Actor.T u95)⟩) rfl rfl (T_api_Program.T.mono _ _ _ _ u95 e_9) (show T_api_Program.E _ (T_api_Program.mk y_2.Name y_2.Version y34 y_2.Datas y_2.Traits y_2.Impls y_2.Funcs y_2.Actors) [(Value.string y_2.Name), (Value.int .i64 y_2.Version), (Value.slice A83 (List.length y34) c85), (Value.slice Ae91_3 (List.length y_2.Datas) ce91_3), (Value.slice Ae91_4 (List.length y_2.Traits) ce91_4), (Value.slice Ae91_5 (List.length y_2.Impls) ce91_5), (Value.slice Ae91_6 (List.length y_2.Funcs) ce91_6), (Value.slice Ae91_7 (List.length y_2.Actors) ce91_7)] from ⟨_, _, _, _, _, _, _, _, _, _, _, _, rfl, k97, r96, ke91_3, (re91_3.sub T_api_Data.T u95), ke91_4, (re91_4.sub T_api_Trait.T u95), ke91_5, (re91_5.sub T_api_Impl.T u95), ke91_6, (re91_6.sub T_api_Func.T u95), ke91_7, (re91_7.sub T_api_Actor.T u95)⟩) (TBg.sub tab u95) e
  · have O106 := O6.nm
    obtain ⟨W107, P108, B109, C110⟩ := O106.callC [1]
    refine (roadlaw2_dropNext.walk P108 rfl g20).mono ?_
    rintro _ h102 ⟨m103, cs112, Q104, rfl, he113⟩
    have O114 := Hold.nm (C110 Q104 (vfs_cons rV_vf vfs_nil))
    obtain rfl : cs112 = [(Value.int .i64 y19.2)] := he113
    refine ⟨_, rfl, ?_⟩
    obtain ⟨A115, c116, q117, k118, r119⟩ := T_api_Program.g2 e_2
    refine ⟨_, ldk (k := 2) (Sub.refl _) (O114.all 0 rfl) q117, _, _, _, rfl, ?_⟩
    refine ⟨Ext.refl _, ?_⟩
    refine (roadlaw2_cut_7.walk (Hold.start (W := No) O114.s) rfl k118 r119 g35).mono ?_
    rintro _ h122 ⟨m123, A126, n127, c128, Q124, rfl, ne129⟩
    have O131 := Hold.nm (O114.retC Q124 (vfs_cons (rR_vf (aE_vf (fun _ _ _ _ h => T_api_Use.keep h))) vfs_nil))
    subst ne129
    refine ⟨_, _, _, rfl, ?_⟩
    obtain ⟨Ae134_2, ce134_2, Ae134_3, ce134_3, Ae134_4, ce134_4, Ae134_5, ce134_5, Ae134_6, ce134_6, Ae134_7, ce134_7, rfl, ke134_2, re134_2, ke134_3, re134_3, ke134_4, re134_4, ke134_5, re134_5, ke134_6, re134_6, ke134_7, re134_7⟩ := id e_2
    refine O131.st 4 rfl 2 (Nat.le_of_ble_eq_true rfl) trivial fun h135 O136 => ?_
    obtain ⟨m137, u138, ⟨r139, k140⟩, O141⟩ := O136.frz 6 rfl
    replace r139 : Rd 3 T_api_Use.E m137 A126 y34 := r139
    have O142 := O141.nm
    exact roadlaw2_ExcerptSays.j3.walk (O142.pick [0, 5, 2, 3, 4]).nm (show T_api_Program.E _ y_2 [(Value.string y_2.Name), (Value.int .i64 y_2.Version), (Value.slice Ae134_2 (List.length y_2.Uses) ce134_2), (Value.slice Ae134_3 (List.length y_2.Datas) ce134_3), (Value.slice Ae134_4 (List.length y_2.Traits) ce134_4), (Value.slice Ae134_5 (List.length y_2.Impls) ce134_5), (Value.slice Ae134_6 (List.length y_2.Funcs) ce134_6), (Value.slice Ae134_7 (List.length y_2.Actors) ce134_7)] from ⟨_, _, _, _, _, _, _, _, _, _, _, _, rfl, ke134_2, (re134_2.sub T_api_Use.T u138), ke134_3, (re134_3.sub T_api_Data.T u138), ke134_4, (re134_4.sub T_api_Trait.T u138), ke134_5, (re134_5.sub T_api_Impl.T u138), ke134_6, (re134_6.sub T_api_Func.T u138), ke134_7, (re134_7.sub T_api_Actor.T u138)⟩) rfl rfl (T_api_Program.T.mono _ _ _ _ u138 e_9) (show T_api_Program.E _ (T_api_Program.mk y_2.Name y_2.Version y34 y_2.Datas y_2.Traits y_2.Impls y_2.Funcs y_2.Actors) [(Value.string y_2.Name), (Value.int .i64 y_2.Version), (Value.slice A126 (List.length y34) c128), (Value.slice Ae134_3 (List.length y_2.Datas) ce134_3), (Value.slice Ae134_4 (List.length y_2.Traits) ce134_4), (Value.slice Ae134_5 (List.length y_2.Impls) ce134_5), (Value.slice Ae134_6 (List.length y_2.Funcs) ce134_6), (Value.slice Ae134_7 (List.length y_2.Actors) ce134_7)] from ⟨_, _, _, _, _, _, _, _, _, _, _, _, rfl, k140, r139, ke134_3, (re134_3.sub T_api_Data.T u138), ke134_4, (re134_4.sub T_api_Trait.T u138), ke134_5, (re134_5.sub T_api_Impl.T u138), ke134_6, (re134_6.sub T_api_Func.T u138), ke134_7, (re134_7.sub T_api_Actor.T u138)⟩) (TBg.sub tab u138) e
noncomputable def roadlaw2_ExcerptSays.j2 (y_2 : T_api_Program) (y_3 : Int) (a_5 : List Int) (y_9 : T_api_Program) (x_10 : Int) (b_64 : Bool) : Option (Bool) :=
  if b_64 = true then (if x_10 = (4 : Int) then (Option.bind (roadref2_Mark y_9) fun y1 => Option.bind (roadref2_Mark (T_api_Program.mk (ByteArray.mk #[]) (0 : Int) ([] : List T_api_Use) ([] : List T_api_Data) ([] : List T_api_Trait) ([] : List T_api_Impl) ([] : List T_api_Func) ([] : List T_api_Actor))) fun y8 => some ((decide (y1 = y8)))) else (some (false))) else ((roadlaw2_ExcerptSays.j1 y_2 y_3 a_5 y_9 x_10))
set_option maxRecDepth 100000 in
theorem roadlaw2_ExcerptSays.j2.walk {W : Nat → Prop} {h0 m0 h m : Heap} {bk_2 : Nat} {cs_2 : List Value} {bk_3 : Nat} {cs_3 : List Value} {A_5 : Option Addr} {n_5 c_5 : Nat} {bk_9 : Nat} {cs_9 : List Value} {y_2 : T_api_Program} {y_3 : Int} {a_5 : List Int} {y_9 : T_api_Program} {x_10 : Int} {b_64 : Bool} (O : Hold W h0 m0 h m [rV bk_2 29 cs_2, rV bk_3 3 cs_3, rR (aE (tell_int .i64)) A_5 c_5 a_5, rV bk_9 29 cs_9]) (e_2 : T_api_Program.E m y_2 cs_2) (e_3 : (eInt .i64) m y_3 cs_3) (ne_5 : n_5 = List.length a_5) (e_9 : T_api_Program.E m y_9 cs_9) (tab : TB m) {r : Bool} (e : roadlaw2_ExcerptSays.j2 y_2 y_3 a_5 y_9 x_10 b_64 = some r) : f3.j2 (roadlaw2_ExcerptSays.post W h0 m0 r) (⟨bk_2, 0, none⟩ : Addr) (⟨bk_3, 0, none⟩ : Addr) A_5 n_5 c_5 (⟨bk_9, 0, none⟩ : Addr) x_10 b_64 h := by
  unfold roadlaw2_ExcerptSays.j2 at e
  obtain rfl : cs_3 = [(Value.int .i64 y_3)] := e_3
  subst ne_5
  refine f3.j2_in ?_
  unfold f3.j2T
  refine split_any_e e (fun c16 e => ?_) (fun c16 e => ?_)
  · refine split_eq_e e (fun c15 e => ?_) (fun c15 e => ?_)
    · refine ⟨_, ldAn (Sub.refl _) (O.all 3 rfl) (T_api_Program.T.len _ _ _ e_9), ?_⟩
      obtain ⟨y1, g2, e⟩ := bind_e e
      refine (roadref2_Mark.walk (Hold.start (W := No) O.s) e_9 tab g2).mono ?_
      rintro _ h3 ⟨m4, Q5, rfl⟩
      have O7 := Hold.nm (O.retC Q5 vfs_nil)
      refine ⟨_, rfl, ?_⟩
      obtain ⟨y8, g9, e⟩ := bind_e e
      refine (roadref2_Mark.walk (Hold.start (W := No) O7.s) (show T_api_Program.E _ (T_api_Program.mk (ByteArray.mk #[]) (0 : Int) ([] : List T_api_Use) ([] : List T_api_Data) ([] : List T_api_Trait) ([] : List T_api_Impl) ([] : List T_api_Func) ([] : List T_api_Actor)) [(Value.string (ByteArray.mk #[])), (Value.int .i64 (0 : Int)), (Value.slice none 0 0), (Value.slice none 0 0), (Value.slice none 0 0), (Value.slice none 0 0), (Value.slice none 0 0), (Value.slice none 0 0)] from ⟨_, _, _, _, _, _, _, _, _, _, _, _, rfl, (by exact Nat.le_refl 0), Rd.nil, (by exact Nat.le_refl 0), Rd.nil, (by exact Nat.le_refl 0), Rd.nil, (by exact Nat.le_refl 0), Rd.nil, (by exact Nat.le_refl 0), Rd.nil, (by exact Nat.le_refl 0), Rd.nil⟩) tab g9).mono ?_
      rintro _ h10 ⟨m11, Q12, rfl⟩
      have O14 := Hold.nm (O7.retC Q12 vfs_nil)
      refine ⟨_, rfl, ?_⟩
      try rw [ba_list y1 y8]
      cases e
      exact ⟨_, O14.pick [], rfl⟩
    · cases e
      exact ⟨_, O.pick [], rfl⟩
  · exact roadlaw2_ExcerptSays.j1.walk (O.pick [0, 1, 2, 3]).nm e_2 rfl rfl e_9 tab e
noncomputable def roadlaw2_ExcerptSays.j0 (y_2 : T_api_Program) (y_3 : Int) (a_5 : List Int) (x_6 : Int) (y_9 : T_api_Program) (x_10 : Int) : Option (Bool) :=
  if y_3 < (0 : Int) then ((roadlaw2_ExcerptSays.j2 y_2 y_3 a_5 y_9 x_10 true)) else ((roadlaw2_ExcerptSays.j2 y_2 y_3 a_5 y_9 x_10 (decide (y_3 ≥ x_6))))
set_option maxRecDepth 100000 in
theorem roadlaw2_ExcerptSays.j0.walk {W : Nat → Prop} {h0 m0 h m : Heap} {bk_2 : Nat} {cs_2 : List Value} {bk_3 : Nat} {cs_3 : List Value} {A_5 : Option Addr} {n_5 c_5 : Nat} {bk_9 : Nat} {cs_9 : List Value} {y_2 : T_api_Program} {y_3 : Int} {a_5 : List Int} {x_6 : Int} {y_9 : T_api_Program} {x_10 : Int} (O : Hold W h0 m0 h m [rV bk_2 29 cs_2, rV bk_3 3 cs_3, rR (aE (tell_int .i64)) A_5 c_5 a_5, rV bk_9 29 cs_9]) (e_2 : T_api_Program.E m y_2 cs_2) (e_3 : (eInt .i64) m y_3 cs_3) (ne_5 : n_5 = List.length a_5) (e_9 : T_api_Program.E m y_9 cs_9) (tab : TB m) {r : Bool} (e : roadlaw2_ExcerptSays.j0 y_2 y_3 a_5 x_6 y_9 x_10 = some r) : f3.j0 (roadlaw2_ExcerptSays.post W h0 m0 r) (⟨bk_2, 0, none⟩ : Addr) (⟨bk_3, 0, none⟩ : Addr) A_5 n_5 c_5 x_6 (⟨bk_9, 0, none⟩ : Addr) x_10 h := by
  unfold roadlaw2_ExcerptSays.j0 at e
  obtain rfl : cs_3 = [(Value.int .i64 y_3)] := e_3
  subst ne_5
  refine f3.j0_in ?_
  unfold f3.j0T
  refine ⟨_, ld0 (Sub.refl _) (O.all 1 rfl) rfl, _, rfl, ?_⟩
  refine split_dec_e e (fun c1 e => ?_) (fun c1 e => ?_)
  · exact roadlaw2_ExcerptSays.j2.walk (O.pick [0, 1, 2, 3]).nm e_2 rfl rfl e_9 tab e
  · refine ⟨_, ld0 (Sub.refl _) (O.all 1 rfl) rfl, _, rfl, ?_⟩
    exact roadlaw2_ExcerptSays.j2.walk (O.pick [0, 1, 2, 3]).nm e_2 rfl rfl e_9 tab e
inductive roadlaw2_ExcerptSays.l0_k.Pt where
  | l0 (y_2 : T_api_Program) (y_3 : Int) (a_5 : List Int) (x_6 : Int) (x_32 : Int) (x_33 : Int)
noncomputable def roadlaw2_ExcerptSays.l0_k.body (go : (p : roadlaw2_ExcerptSays.l0_k.Pt) → Option (Bool)) : (p : roadlaw2_ExcerptSays.l0_k.Pt) → Option (Bool)
  | .l0 y_2 y_3 a_5 x_6 x_32 x_33 => if x_33 < x_32 then (Option.bind (gi a_5 x_33) fun y1 => (go (.l0 y_2 y_3 a_5 (IntKind.wrap .i64 (x_6 + y1)) x_32 (IntKind.wrap .i64 (x_33 + (1 : Int)))))) else (Option.bind (excerpt_Without y_2 y_3) fun y8 => Option.bind (excerpt_Parts y_2) fun y24 => if y24 = x_6 then (Option.bind (excerpt_Parts (T_api_Program.mk (ByteArray.mk #[]) (0 : Int) ([(T_api_Use.mk (ByteArray.mk #[]) (0 : Int) (0 : Int))] : List T_api_Use) ([] : List T_api_Data) ([] : List T_api_Trait) ([] : List T_api_Impl) ([] : List T_api_Func) ([] : List T_api_Actor))) fun y36 => if y36 = (1 : Int) then ((roadlaw2_ExcerptSays.j0 y_2 y_3 a_5 x_6 y8.1 y8.2)) else (some (false))) else (some (false)))
attribute [local irreducible] excerpt_Parts in
theorem roadlaw2_ExcerptSays.l0_k.mono : MonoF (β := fun _ => (Bool)) roadlaw2_ExcerptSays.l0_k.body := fun f g hfg p => match p with
  | .l0 y_2 y_3 a_5 x_6 x_32 x_33 => LeO.ite (LeO.bind (LeO.refl _) fun y1 => (hfg _)) (LeO.bind (LeO.refl _) fun y8 => LeO.bind (LeO.refl _) fun y24 => LeO.ite (LeO.bind (LeO.refl _) fun y36 => LeO.ite ((LeO.refl _)) (LeO.refl _)) (LeO.refl _))
noncomputable def roadlaw2_ExcerptSays.l0_k.go (p : roadlaw2_ExcerptSays.l0_k.Pt) : Option (Bool) := fixF (β := fun _ => (Bool)) roadlaw2_ExcerptSays.l0_k.body p
noncomputable def roadlaw2_ExcerptSays.l0 (y_2 : T_api_Program) (y_3 : Int) (a_5 : List Int) (x_6 : Int) (x_32 : Int) (x_33 : Int) : Option (Bool) := roadlaw2_ExcerptSays.l0_k.go (.l0 y_2 y_3 a_5 x_6 x_32 x_33)
theorem roadlaw2_ExcerptSays.l0_eq (y_2 : T_api_Program) (y_3 : Int) (a_5 : List Int) (x_6 : Int) (x_32 : Int) (x_33 : Int) : roadlaw2_ExcerptSays.l0 y_2 y_3 a_5 x_6 x_32 x_33 = if x_33 < x_32 then (Option.bind (gi a_5 x_33) fun y1 => (roadlaw2_ExcerptSays.l0 y_2 y_3 a_5 (IntKind.wrap .i64 (x_6 + y1)) x_32 (IntKind.wrap .i64 (x_33 + (1 : Int))))) else (Option.bind (excerpt_Without y_2 y_3) fun y8 => Option.bind (excerpt_Parts y_2) fun y24 => if y24 = x_6 then (Option.bind (excerpt_Parts (T_api_Program.mk (ByteArray.mk #[]) (0 : Int) ([(T_api_Use.mk (ByteArray.mk #[]) (0 : Int) (0 : Int))] : List T_api_Use) ([] : List T_api_Data) ([] : List T_api_Trait) ([] : List T_api_Impl) ([] : List T_api_Func) ([] : List T_api_Actor))) fun y36 => if y36 = (1 : Int) then ((roadlaw2_ExcerptSays.j0 y_2 y_3 a_5 x_6 y8.1 y8.2)) else (some (false))) else (some (false))) := fixF_eq roadlaw2_ExcerptSays.l0_k.mono _
def roadlaw2_ExcerptSays.l0_k.I : (p : roadlaw2_ExcerptSays.l0_k.Pt) → (Bool) → Prop
  | .l0 y_2 y_3 a_5 x_6 x_32 x_33, r => ∀ (W : Nat → Prop) (h0 m0 h m : Heap) (bk_2 : Nat) (cs_2 : List Value) (bk_3 : Nat) (cs_3 : List Value) (A_5 : Option Addr) (n_5 c_5 : Nat) (O : Hold W h0 m0 h m [rV bk_2 29 cs_2, rV bk_3 3 cs_3, rR (aE (tell_int .i64)) A_5 c_5 a_5]) (e_2 : T_api_Program.E m y_2 cs_2) (e_3 : (eInt .i64) m y_3 cs_3) (ne_5 : n_5 = List.length a_5) (tab : TB m), f3.l0 (roadlaw2_ExcerptSays.post W h0 m0 r) (⟨bk_2, 0, none⟩ : Addr) (⟨bk_3, 0, none⟩ : Addr) A_5 n_5 c_5 x_6 A_5 n_5 c_5 x_32 x_33 h
set_option maxHeartbeats 4000000 in
set_option maxRecDepth 100000 in
theorem roadlaw2_ExcerptSays.l0_k.step_l0 (go : (p : roadlaw2_ExcerptSays.l0_k.Pt) → Option (Bool)) (ih : ∀ p r, go p = some r → roadlaw2_ExcerptSays.l0_k.I p r) (y_2 : T_api_Program) (y_3 : Int) (a_5 : List Int) (x_6 : Int) (x_32 : Int) (x_33 : Int) (r : Bool) (e : roadlaw2_ExcerptSays.l0_k.body go (.l0 y_2 y_3 a_5 x_6 x_32 x_33) = some r) : roadlaw2_ExcerptSays.l0_k.I (.l0 y_2 y_3 a_5 x_6 x_32 x_33) r := by
  unfold roadlaw2_ExcerptSays.l0_k.body at e
  intro W h0 m0 h m bk_2 cs_2 bk_3 cs_3 A_5 n_5 c_5 O e_2 e_3 ne_5 tab
  obtain rfl : cs_3 = [(Value.int .i64 y_3)] := e_3
  subst ne_5
  refine f3.l0_in ?_
  unfold f3.l0T
  refine split_dec_e e (fun c53 e => ?_) (fun c53 e => ?_)
  · obtain ⟨y1, g2, e⟩ := bind_e e
    refine (O.os 2 rfl).addr rfl g2 fun a3 cs4 ha5 hc6 he7 => ?_
    obtain rfl : cs4 = [(Value.int .i64 y1)] := he7
    refine ⟨_, ld0 (Sub.refl _) hc6 rfl, _, rfl, ?_⟩
    exact (ih _ _ e) _ _ _ _ _ _ _ _ _ _ _ _ (O.pick [0, 1, 2]).nm e_2 rfl rfl tab
  · refine ⟨_, ldAn (Sub.refl _) (O.all 0 rfl) (T_api_Program.T.len _ _ _ e_2), ?_⟩
    refine ⟨_, ld0 (Sub.refl _) (O.all 1 rfl) rfl, _, rfl, ?_⟩
    obtain ⟨y8, g9, e⟩ := bind_e e
    refine (excerpt_Without.walk (Hold.start (W := No) O.s) e_2 g9).mono ?_
    rintro _ h10 ⟨m11, cs15, Q12, rfl, he16⟩
    have O17 := Hold.nm (O.ret Q12)
    refine ⟨_, _, rfl, ?_⟩
    refine O17.new fun h18 x19 O20 => ?_
    refine ⟨_, rfl, (T_api_Program.T.len _ _ _ he16), ?_⟩
    refine O20.stA 3 rfl (T_api_Program.T.len _ _ _ he16) (T_api_Program.T.flat _ _ _ he16) fun h22 O23 => ?_
    refine ⟨_, ldAn (Sub.refl _) (O23.all 0 rfl) (T_api_Program.T.len _ _ _ e_2), ?_⟩
    obtain ⟨y24, g25, e⟩ := bind_e e
    refine (excerpt_Parts.walk (Hold.start (W := No) O23.s) (T_api_Program.T.mono _ _ _ _ Q12.S.up e_2) g25).mono ?_
    rintro _ h26 ⟨m27, Q28, rfl⟩
    have O30 := Hold.nm (O23.retC Q28 vfs_nil)
    refine ⟨_, rfl, ?_⟩
    refine split_ne_e e (fun c52 e => ?_) (fun c52 e => ?_)
    · cases e
      exact ⟨_, O30.pick [], rfl⟩
    · refine ⟨[(Value.string (ByteArray.mk #[])), (Value.int .i64 (0 : Int)), (Value.int .i64 (0 : Int))], rfl, rfl, ?_⟩
      refine O30.new fun h31 x32 O33 => ?_
      obtain ⟨y36, g37, e⟩ := bind_e e
      have O35 := O33.rowE (l := ([(T_api_Use.mk (ByteArray.mk #[]) (0 : Int) (0 : Int))] : List T_api_Use)) 4 rfl T_api_Use.T (show CsE _ _ _ _ _ from (CsE.cons (c1 := [(Value.string (ByteArray.mk #[])), (Value.int .i64 (0 : Int)), (Value.int .i64 (0 : Int))]) (show T_api_Use.E _ (T_api_Use.mk (ByteArray.mk #[]) (0 : Int) (0 : Int)) [(Value.string (ByteArray.mk #[])), (Value.int .i64 (0 : Int)), (Value.int .i64 (0 : Int))] from rfl) rfl CsE.nil)) rfl
      have O42 := O35.nm
      obtain ⟨m43, u44, s49, ⟨⟨r47, k48⟩, _⟩, B45, C46⟩ := O42.lend0 [4]
      replace r47 : Rd 3 T_api_Use.E m43 (some ⟨(Array.size h26), 0, none⟩) ([(T_api_Use.mk (ByteArray.mk #[]) (0 : Int) (0 : Int))] : List T_api_Use) := r47
      replace k48 : List.length ([(T_api_Use.mk (ByteArray.mk #[]) (0 : Int) (0 : Int))] : List T_api_Use) ≤ 1 := k48
      refine (excerpt_Parts.walk (Hold.start (W := No) s49) (show T_api_Program.E _ (T_api_Program.mk (ByteArray.mk #[]) (0 : Int) ([(T_api_Use.mk (ByteArray.mk #[]) (0 : Int) (0 : Int))] : List T_api_Use) ([] : List T_api_Data) ([] : List T_api_Trait) ([] : List T_api_Impl) ([] : List T_api_Func) ([] : List T_api_Actor)) [(Value.string (ByteArray.mk #[])), (Value.int .i64 (0 : Int)), (Value.slice (some ⟨(Array.size h26), 0, none⟩) 1 1), (Value.slice none 0 0), (Value.slice none 0 0), (Value.slice none 0 0), (Value.slice none 0 0), (Value.slice none 0 0)] from ⟨_, _, _, _, _, _, _, _, _, _, _, _, rfl, k48, r47, (by exact Nat.le_refl 0), Rd.nil, (by exact Nat.le_refl 0), Rd.nil, (by exact Nat.le_refl 0), Rd.nil, (by exact Nat.le_refl 0), Rd.nil, (by exact Nat.le_refl 0), Rd.nil⟩) g37).mono ?_
      rintro _ h38 ⟨m39, Q40, rfl⟩
      have O50 := Hold.nm (C46 Q40 vfs_nil)
      refine ⟨_, rfl, ?_⟩
      refine split_ne_e e (fun c51 e => ?_) (fun c51 e => ?_)
      · cases e
        exact ⟨_, O50.pick [], rfl⟩
      · exact roadlaw2_ExcerptSays.j0.walk (O50.pick [0, 1, 2, 3]).nm (T_api_Program.T.mono _ _ _ _ Q12.S.up e_2) rfl rfl he16 (TBg.sub tab Q12.S.up) e
theorem roadlaw2_ExcerptSays.l0_k.all {p : roadlaw2_ExcerptSays.l0_k.Pt} {r : (Bool)} (e : roadlaw2_ExcerptSays.l0_k.go p = some r) : roadlaw2_ExcerptSays.l0_k.I p r := fixF_ind (β := fun _ => (Bool)) roadlaw2_ExcerptSays.l0_k.mono (I := roadlaw2_ExcerptSays.l0_k.I) (fun go ih p r e => match p with
  | .l0 y_2 y_3 a_5 x_6 x_32 x_33 => roadlaw2_ExcerptSays.l0_k.step_l0 go ih y_2 y_3 a_5 x_6 x_32 x_33 r e
  ) e
theorem roadlaw2_ExcerptSays.l0.walk {W : Nat → Prop} {h0 m0 h m : Heap} {bk_2 : Nat} {cs_2 : List Value} {bk_3 : Nat} {cs_3 : List Value} {A_5 : Option Addr} {n_5 c_5 : Nat} {y_2 : T_api_Program} {y_3 : Int} {a_5 : List Int} {x_6 : Int} {x_32 : Int} {x_33 : Int} (O : Hold W h0 m0 h m [rV bk_2 29 cs_2, rV bk_3 3 cs_3, rR (aE (tell_int .i64)) A_5 c_5 a_5]) (e_2 : T_api_Program.E m y_2 cs_2) (e_3 : (eInt .i64) m y_3 cs_3) (ne_5 : n_5 = List.length a_5) (tab : TB m) {r : Bool} (e : roadlaw2_ExcerptSays.l0 y_2 y_3 a_5 x_6 x_32 x_33 = some r) : f3.l0 (roadlaw2_ExcerptSays.post W h0 m0 r) (⟨bk_2, 0, none⟩ : Addr) (⟨bk_3, 0, none⟩ : Addr) A_5 n_5 c_5 x_6 A_5 n_5 c_5 x_32 x_33 h := roadlaw2_ExcerptSays.l0_k.all (p := .l0 y_2 y_3 a_5 x_6 x_32 x_33) e W h0 m0 h m bk_2 cs_2 bk_3 cs_3 A_5 n_5 c_5 O e_2 e_3 ne_5 tab
noncomputable def roadlaw2_ExcerptSays (y_0 : T_api_Program) (x_1 : Int) : Option (Bool) :=
  (roadlaw2_ExcerptSays.l0 y_0 x_1 ([(((List.length y_0.Uses) : Nat) : Int), (((List.length y_0.Datas) : Nat) : Int), (((List.length y_0.Traits) : Nat) : Int), (((List.length y_0.Impls) : Nat) : Int), (((List.length y_0.Funcs) : Nat) : Int), (((List.length y_0.Actors) : Nat) : Int)] : List Int) (0 : Int) ((6 : Nat) : Int) (0 : Int))
set_option maxRecDepth 100000 in
theorem roadlaw2_ExcerptSays.walk {W : Nat → Prop} {h m : Heap} {cs_0 : List Value} {y_0 : T_api_Program} {x_1 : Int} (O : Hold W h m h m []) (e_0 : T_api_Program.E m y_0 cs_0) (tab : TB m) {r : Bool} (e : roadlaw2_ExcerptSays y_0 x_1 = some r) : Run Tryd.prog 3 #[Value.agg cs_0.toArray, Value.int .i64 x_1] h (roadlaw2_ExcerptSays.post W h m r) := by
  unfold roadlaw2_ExcerptSays at e
  refine f3.run ?_
  unfold f3.runT
  refine O.new fun h1 x2 O3 => ?_
  refine O3.new fun h5 x6 O7 => ?_
  obtain ⟨A9, c10, q11, k12, r13⟩ := T_api_Program.g2 e_0
  refine ⟨_, ldk (k := 2) (Sub.refl _) (O7.all 0 rfl) q11, _, _, _, rfl, ?_⟩
  obtain ⟨A14, c15, q16, k17, r18⟩ := T_api_Program.g3 e_0
  refine ⟨_, ldk (k := 3) (Sub.refl _) (O7.all 0 rfl) q16, _, _, _, rfl, ?_⟩
  obtain ⟨A19, c20, q21, k22, r23⟩ := T_api_Program.g4 e_0
  refine ⟨_, ldk (k := 4) (Sub.refl _) (O7.all 0 rfl) q21, _, _, _, rfl, ?_⟩
  obtain ⟨A24, c25, q26, k27, r28⟩ := T_api_Program.g5 e_0
  refine ⟨_, ldk (k := 5) (Sub.refl _) (O7.all 0 rfl) q26, _, _, _, rfl, ?_⟩
  obtain ⟨A29, c30, q31, k32, r33⟩ := T_api_Program.g6 e_0
  refine ⟨_, ldk (k := 6) (Sub.refl _) (O7.all 0 rfl) q31, _, _, _, rfl, ?_⟩
  obtain ⟨A34, c35, q36, k37, r38⟩ := T_api_Program.g7 e_0
  refine ⟨_, ldk (k := 7) (Sub.refl _) (O7.all 0 rfl) q36, _, _, _, rfl, ?_⟩
  refine O7.new fun h39 x40 O41 => ?_
  have O43 := O41.rowE (l := ([(((List.length y_0.Uses) : Nat) : Int), (((List.length y_0.Datas) : Nat) : Int), (((List.length y_0.Traits) : Nat) : Int), (((List.length y_0.Impls) : Nat) : Int), (((List.length y_0.Funcs) : Nat) : Int), (((List.length y_0.Actors) : Nat) : Int)] : List Int)) 2 rfl (tell_int .i64) (show CsE _ _ _ _ _ from (CsE.cons (c1 := [(Value.int .i64 (((List.length y_0.Uses) : Nat) : Int))]) rfl rfl (CsE.cons (c1 := [(Value.int .i64 (((List.length y_0.Datas) : Nat) : Int))]) rfl rfl (CsE.cons (c1 := [(Value.int .i64 (((List.length y_0.Traits) : Nat) : Int))]) rfl rfl (CsE.cons (c1 := [(Value.int .i64 (((List.length y_0.Impls) : Nat) : Int))]) rfl rfl (CsE.cons (c1 := [(Value.int .i64 (((List.length y_0.Funcs) : Nat) : Int))]) rfl rfl (CsE.cons (c1 := [(Value.int .i64 (((List.length y_0.Actors) : Nat) : Int))]) rfl rfl CsE.nil))))))) rfl
  have O44 := O43.nm
  exact roadlaw2_ExcerptSays.l0.walk (O44.pick [0, 1, 2]).nm e_0 rfl rfl tab e
end Go.Proofs.YtnlocljmalhddaaDoor.Fw

end
section
namespace Go.Proofs.YtnlocljmalhddaaDoor.Fw
open Go Go.Hw Go.Proofs
set_option linter.unusedVariables false
set_option linter.unusedSectionVars false
def BA0 : ByteArray := ByteArray.mk #[]
def cat : List ByteArray → ByteArray
  | [] => BA0
  | a :: l => a ++ cat l
theorem ba0_size : BA0.size = 0 := rfl
theorem app_size (a b : ByteArray) : (a ++ b).size = a.size + b.size := ByteArray.size_append
theorem app_assoc (a b c : ByteArray) : a ++ b ++ c = a ++ (b ++ c) := ByteArray.append_assoc
theorem app_nil (a : ByteArray) : a ++ BA0 = a := ByteArray.append_empty
theorem nil_app (a : ByteArray) : BA0 ++ a = a := ByteArray.empty_append
theorem cat_size : ∀ l : List ByteArray, (cat l).size = (l.map ByteArray.size).sum
  | [] => rfl
  | a :: l => by rw [cat, app_size, cat_size l, List.map_cons, List.sum_cons]
theorem cat_one (a : ByteArray) : cat [a] = a := by rw [cat, cat, app_nil]
theorem cat_loop' {α β : Type} {F : ByteArray → Int → Option β} {r : Option β} {l : List α} {T : α → ByteArray}
    (step : ∀ (s : ByteArray) (i : Nat) (hi : i < l.length), s.size + (T l[i]).size ≤ 1000000000000 → F s (i : Int) = F (s ++ T l[i]) ((i + 1 : Nat) : Int))
    (s : ByteArray) (hs : s.size + (cat (l.map T)).size ≤ 1000000000000) (fin : F (s ++ cat (l.map T)) (l.length : Int) = r) : F s 0 = r := by
  have key : ∀ (d i : Nat) (s : ByteArray), d + i = l.length → s.size + (cat ((l.drop i).map T)).size ≤ 1000000000000 → F s (i : Int) = F (s ++ cat ((l.drop i).map T)) (l.length : Int) := by
    intro d
    induction d with
    | zero =>
      intro i s hi hs
      obtain rfl : i = l.length := by omega
      rw [List.drop_length]
      show _ = F (s ++ BA0) _
      rw [app_nil]
    | succ d ih =>
      intro i s hi hs
      have hlt : i < l.length := by omega
      rw [List.drop_eq_getElem_cons hlt, List.map_cons] at hs ⊢
      rw [cat, app_size] at hs
      rw [step s i hlt (by omega), ih (i + 1) _ (by omega) (by rw [app_size]; omega), cat, app_assoc]
  have := key l.length 0 s (by omega) (by rw [List.drop_zero]; exact hs)
  rw [List.drop_zero] at this
  exact this.trans fin
theorem cat_loop {α β : Type} {F : ByteArray → Int → Option β} {E : ByteArray → Option β} {l : List α} {T : α → ByteArray}
    (step : ∀ (s : ByteArray) (i : Nat) (hi : i < l.length), s.size + (T l[i]).size ≤ 1000000000000 → F s (i : Int) = F (s ++ T l[i]) ((i + 1 : Nat) : Int))
    (fin : ∀ s, F s (l.length : Int) = E s) (s : ByteArray) (hs : s.size + (cat (l.map T)).size ≤ 1000000000000) : F s 0 = E (s ++ cat (l.map T)) := cat_loop' step s hs (fin _)
theorem sum_le {α : Type} {f g : α → Nat} : ∀ {l : List α}, (∀ x ∈ l, f x ≤ g x) → (l.map f).sum ≤ (l.map g).sum
  | [], _ => Nat.le_refl _
  | x :: l, h => by
    rw [List.map_cons, List.map_cons, List.sum_cons, List.sum_cons]
    exact Nat.add_le_add (h x (List.mem_cons_self ..)) (sum_le fun y hy => h y (List.mem_cons_of_mem _ hy))
theorem sum_mul {α : Type} (f : α → Nat) (k : Nat) : ∀ l : List α, (l.map fun x => k * f x).sum = k * (l.map f).sum
  | [] => rfl
  | x :: l => by rw [List.map_cons, List.map_cons, List.sum_cons, List.sum_cons, sum_mul f k l, Nat.mul_add]
theorem le_sum {α : Type} {f : α → Nat} : ∀ {l : List α} {x : α}, x ∈ l → f x ≤ (l.map f).sum
  | y :: l, x, h => by
    rw [List.map_cons, List.sum_cons]
    rcases List.mem_cons.1 h with rfl | h
    · omega
    · have := le_sum (f := f) h; omega
theorem cat_le {α : Type} {T : α → ByteArray} {g : α → Nat} {l : List α} (h : ∀ x ∈ l, (T x).size ≤ 22 * g x) : (cat (l.map T)).size ≤ 22 * (l.map g).sum := by
  rw [cat_size, List.map_map, ← sum_mul]
  exact sum_le h
theorem len_le_sum {α : Type} {f : α → Nat} : ∀ {l : List α}, (∀ x ∈ l, 1 ≤ f x) → l.length ≤ (l.map f).sum
  | [], _ => Nat.le_refl _
  | x :: l, h => by
    rw [List.map_cons, List.sum_cons, List.length_cons]
    have := h x (List.mem_cons_self ..); have := len_le_sum fun y hy => h y (List.mem_cons_of_mem x hy); omega
def i64 (x : Int) : Prop := -9223372036854775808 ≤ x ∧ x ≤ 9223372036854775807
theorem i64_nat {n : Nat} (h : n ≤ 1000000000000) : i64 (n : Int) := ⟨by omega, by omega⟩
def nm1 (x : Int) : ByteArray := itoaB x ++ ByteArray.mk #[44]
def nm (l : List Int) : ByteArray := cat (l.map nm1)
def tx1 (s : ByteArray) : ByteArray := nm [(s.size : Int)] ++ s
def tx (l : List ByteArray) : ByteArray := cat (l.map tx1)
theorem nm1_size {x : Int} (h : i64 x) : (nm1 x).size ≤ 22 := by
  unfold nm1
  rw [app_size]
  have h1 : (itoaB x).size = (Lib.itoa x).length := by unfold itoaB; show (Lib.itoa x).toArray.size = _; simp
  have h2 := Lib.itoa_length_le x h.1 h.2
  have h3 : (ByteArray.mk #[44]).size = 1 := rfl
  omega
theorem nm_size {l : List Int} (h : ∀ x ∈ l, i64 x) : (nm l).size ≤ 22 * l.length := by
  have := cat_le (T := nm1) (g := fun _ => 1) (l := l) fun x hx => nm1_size (h x hx)
  rw [List.map_const', List.sum_replicate_nat] at this
  unfold nm; omega
theorem itoa_val {x : Int} (h : i64 x) : strconv_Itoa x = some (itoaB x) := by unfold strconv_Itoa; rw [if_pos (show -9223372036854775808 ≤ x ∧ x ≤ 9223372036854775807 from h)]
theorem nums_val {l : List Int} (h : ∀ x ∈ l, i64 x) (hl : l.length ≤ 10000000) : roadref2_nums l = some (nm l) := by
  have hs := nm_size h
  unfold roadref2_nums
  have := cat_loop (F := fun s i => roadref2_nums.l0 s l (l.length : Int) i) (E := fun s => some s) (l := l) (T := nm1) (fun s i hi hs => by
    have hx := nm1_size (h _ (List.getElem_mem hi))
    have e1 : (nm1 l[i]).size = (itoaB l[i]).size + (ByteArray.mk #[44]).size := app_size ..
    rw [roadref2_nums.l0_eq, if_pos (by omega), gi_at hi, Option.bind_some, itoa_val (h _ (List.getElem_mem hi)), Option.bind_some, if_pos (by omega), if_pos (by show _ + (nm1 l[i]).size ≤ _; omega), w_succ (by omega)]
    rfl) (fun s => by rw [roadref2_nums.l0_eq, if_neg (by omega)]) BA0 (by rw [ba0_size]; unfold nm at hs; omega)
  rw [nil_app] at this
  exact this
theorem tx1_size {s : ByteArray} (h : s.size ≤ 1000000000000) : (tx1 s).size ≤ 22 + s.size := by
  unfold tx1
  rw [app_size]
  have := nm_size (l := [(s.size : Int)]) (by intro x hx; rw [List.mem_singleton.1 hx]; exact i64_nat h)
  simp only [List.length_cons, List.length_nil] at this
  omega
theorem tx_size {l : List ByteArray} (h : ∀ s ∈ l, s.size ≤ 1000000000000) : (tx l).size ≤ 22 * (l.map fun s => s.size + 1).sum :=
  cat_le fun s hs => by have := tx1_size (h s hs); omega
theorem texts_val {l : List ByteArray} (h : (l.map fun s => s.size + 1).sum ≤ 10000000) : roadref2_texts l = some (tx l) := by
  have h1 : ∀ s ∈ l, s.size + 1 ≤ 10000000 := fun s hs => Nat.le_trans (le_sum (f := fun s : ByteArray => s.size + 1) hs) h
  have hs := tx_size (l := l) fun s hs => by have := h1 s hs; omega
  have hlen : l.length ≤ 10000000 := Nat.le_trans (len_le_sum (f := fun s : ByteArray => s.size + 1) fun _ _ => by omega) h
  unfold roadref2_texts
  have := cat_loop (F := fun s i => roadref2_texts.l0 s l (l.length : Int) i) (E := fun s => some s) (l := l) (T := tx1) (fun s i hi hs => by
    have hx := h1 _ (List.getElem_mem hi)
    have e1 : (tx1 l[i]).size = (nm [((l[i]).size : Int)]).size + (l[i]).size := app_size ..
    rw [roadref2_texts.l0_eq, if_pos (by omega), gi_at hi, Option.bind_some, nums_val (by intro x hx'; rw [List.mem_singleton.1 hx']; exact i64_nat (by omega)) (by simp), Option.bind_some, if_pos (by omega), if_pos (by show _ + (tx1 l[i]).size ≤ _; omega), w_succ (by omega)]
    rfl) (fun s => by rw [roadref2_texts.l0_eq, if_neg (by omega)]) BA0 (by rw [ba0_size]; unfold tx at hs; omega)
  rw [nil_app] at this
  exact this
theorem tx_one (s : ByteArray) : tx [s] = tx1 s := cat_one _
theorem text_val {s : ByteArray} (h : s.size ≤ 5000000) : roadref2_texts [s] = some (tx1 s) := by
  rw [texts_val (by simp; omega), tx_one]
noncomputable def TM (t : T_api_Type) : ByteArray := (roadref2_TypeMark t).getD BA0
noncomputable def PM (t : T_api_Pat) : ByteArray := (roadref2_PatMark t).getD BA0
noncomputable def EM (t : T_api_Expr) : ByteArray := (roadref2_ExprMark t).getD BA0
noncomputable def AM (a : T_api_Arm) : ByteArray := PM a.Pat ++ EM a.Body
theorem getD_of {α : Type} {o : Option α} {x d : α} (h : o = some x) : o.getD d = x := by rw [h]; rfl
theorem i64_2 {a b : Int} (ha : i64 a) (hb : i64 b) : ∀ x ∈ [a, b], i64 x := by
  intro x hx; simp only [List.mem_cons, List.mem_nil_iff, or_false] at hx; rcases hx with rfl | rfl <;> assumption
theorem i64_1 {a : Int} (ha : i64 a) : ∀ x ∈ [a], i64 x := by
  intro x hx; rw [List.mem_singleton.1 hx]; exact ha
theorem i64_3 {a b c : Int} (ha : i64 a) (hb : i64 b) (hc : i64 c) : ∀ x ∈ [a, b, c], i64 x := by
  intro x hx; simp only [List.mem_cons, List.mem_nil_iff, or_false] at hx; rcases hx with rfl | rfl | rfl <;> assumption
theorem i64_6 {a b c d e f : Int} (ha : i64 a) (hb : i64 b) (hc : i64 c) (hd : i64 d) (he : i64 e) (hf : i64 f) : ∀ x ∈ [a, b, c, d, e, f], i64 x := by
  intro x hx; simp only [List.mem_cons, List.mem_nil_iff, or_false] at hx; rcases hx with rfl | rfl | rfl | rfl | rfl | rfl <;> assumption
theorem tbulk (t : T_api_Type) : t.bulk = t.Name.size + (t.Args.map T_api_Type.bulk).sum + 4 := by rw [T_api_Type.bulk_eq]; omega
theorem pbulk (t : T_api_Pat) : t.bulk = t.Text.size + (t.Args.map T_api_Pat.bulk).sum + 5 := by rw [T_api_Pat.bulk_eq]; omega
theorem ebulk (t : T_api_Expr) : t.bulk = t.Text.size + (t.Names.map fun s => s.size + 1).sum + (t.Types.map T_api_Type.bulk).sum + (t.Args.map T_api_Expr.bulk).sum + (t.Arms.map T_api_Arm.bulk).sum + 9 := by rw [T_api_Expr.bulk_eq]; omega
theorem abulk (t : T_api_Arm) : t.bulk = t.Pat.bulk + t.Body.bulk + 1 := rfl
theorem tbulk_pos (t : T_api_Type) : 1 ≤ t.bulk := by rw [tbulk]; omega
theorem pbulk_pos (t : T_api_Pat) : 1 ≤ t.bulk := by rw [pbulk]; omega
theorem ebulk_pos (t : T_api_Expr) : 1 ≤ t.bulk := by rw [ebulk]; omega
theorem abulk_pos (t : T_api_Arm) : 1 ≤ t.bulk := by rw [abulk]; omega
theorem type_mark : ∀ (n : Nat) (t : T_api_Type), t.bulk ≤ n → n ≤ 2000000 → t.Q →
    roadref2_TypeMark t = some (TM t) ∧ (TM t).size ≤ 22 * t.bulk ∧ TM t = nm [t.Kind, (t.Args.length : Int)] ++ tx1 t.Name ++ cat (t.Args.map TM) := by
  intro n
  induction n with
  | zero => intro t h; have := tbulk_pos t; omega
  | succ n ih =>
    intro t hn hN q
    obtain ⟨q1, q2, q3, q4⟩ := T_api_Type.Q_iff.1 q
    have hb := tbulk t
    have hlen : t.Args.length ≤ (t.Args.map T_api_Type.bulk).sum := len_le_sum fun x _ => tbulk_pos x
    have hc : ∀ x ∈ t.Args, roadref2_TypeMark x = some (TM x) ∧ (TM x).size ≤ 22 * x.bulk := fun x hx => by
      have := le_sum (f := T_api_Type.bulk) hx
      have := ih x (by omega) (by omega) (q4 x hx)
      exact ⟨this.1, this.2.1⟩
    have hcat := cat_le (T := TM) (g := T_api_Type.bulk) (l := t.Args) fun x hx => (hc x hx).2
    have hk : ∀ x ∈ [t.Kind, (t.Args.length : Int)], i64 x := i64_2 q1 (i64_nat (by omega))
    have h1 := nm_size hk
    have h2 := tx1_size (s := t.Name) (by omega)
    simp only [List.length_cons, List.length_nil] at h1
    have e : roadref2_TypeMark t = some (nm [t.Kind, (t.Args.length : Int)] ++ tx1 t.Name ++ cat (t.Args.map TM)) := by
      rw [roadref2_TypeMark_eq, nums_val hk (by simp), Option.bind_some, text_val (by omega), Option.bind_some, if_pos (by omega), roadref2_TypeMark.j0_eq]
      exact cat_loop (F := fun s i => roadref2_TypeMark.l0 s t.Args (t.Args.length : Int) i) (E := fun s => some s) (l := t.Args) (T := TM) (fun s i hi hs => by
        rw [roadref2_TypeMark.l0_eq, if_pos (by omega), gi_at hi, Option.bind_some, (hc _ (List.getElem_mem hi)).1, Option.bind_some, if_pos (by omega), w_succ (by omega)]) (fun s => by rw [roadref2_TypeMark.l0_eq, if_neg (by omega)]) _ (by rw [app_size]; omega)
    have e2 : TM t = _ := getD_of e
    refine ⟨by rw [e, e2], ?_, e2⟩
    rw [e2, app_size, app_size]; omega
theorem pat_mark : ∀ (n : Nat) (t : T_api_Pat), t.bulk ≤ n → n ≤ 2000000 → t.Q →
    roadref2_PatMark t = some (PM t) ∧ (PM t).size ≤ 22 * t.bulk ∧ PM t = nm [t.Kind, t.Num, (t.Args.length : Int)] ++ tx1 t.Text ++ cat (t.Args.map PM) := by
  intro n
  induction n with
  | zero => intro t h; have := pbulk_pos t; omega
  | succ n ih =>
    intro t hn hN q
    obtain ⟨q1, q0, q2, q3, q4⟩ := T_api_Pat.Q_iff.1 q
    have hb := pbulk t
    have hlen : t.Args.length ≤ (t.Args.map T_api_Pat.bulk).sum := len_le_sum fun x _ => pbulk_pos x
    have hc : ∀ x ∈ t.Args, roadref2_PatMark x = some (PM x) ∧ (PM x).size ≤ 22 * x.bulk := fun x hx => by
      have := le_sum (f := T_api_Pat.bulk) hx
      have := ih x (by omega) (by omega) (q4 x hx)
      exact ⟨this.1, this.2.1⟩
    have hcat := cat_le (T := PM) (g := T_api_Pat.bulk) (l := t.Args) fun x hx => (hc x hx).2
    have hk : ∀ x ∈ [t.Kind, t.Num, (t.Args.length : Int)], i64 x := i64_3 q1 q0 (i64_nat (by omega))
    have h1 := nm_size hk
    have h2 := tx1_size (s := t.Text) (by omega)
    simp only [List.length_cons, List.length_nil] at h1
    have e : roadref2_PatMark t = some (nm [t.Kind, t.Num, (t.Args.length : Int)] ++ tx1 t.Text ++ cat (t.Args.map PM)) := by
      rw [roadref2_PatMark_eq, nums_val hk (by simp), Option.bind_some, text_val (by omega), Option.bind_some, if_pos (by omega), roadref2_PatMark.j0_eq]
      exact cat_loop (F := fun s i => roadref2_PatMark.l0 s t.Args (t.Args.length : Int) i) (E := fun s => some s) (l := t.Args) (T := PM) (fun s i hi hs => by
        rw [roadref2_PatMark.l0_eq, if_pos (by omega), gi_at hi, Option.bind_some, (hc _ (List.getElem_mem hi)).1, Option.bind_some, if_pos (by omega), w_succ (by omega)]) (fun s => by rw [roadref2_PatMark.l0_eq, if_neg (by omega)]) _ (by rw [app_size]; omega)
    have e2 : PM t = _ := getD_of e
    refine ⟨by rw [e, e2], ?_, e2⟩
    rw [e2, app_size, app_size]; omega
theorem expr_mark : ∀ (n : Nat) (t : T_api_Expr), t.bulk ≤ n → n ≤ 2000000 → t.Q →
    roadref2_ExprMark t = some (EM t) ∧ (EM t).size ≤ 22 * t.bulk ∧ EM t = nm [t.Kind, t.Num, (t.Names.length : Int), (t.Types.length : Int), (t.Args.length : Int), (t.Arms.length : Int)] ++ tx1 t.Text ++ tx t.Names ++ cat (t.Types.map TM) ++ cat (t.Args.map EM) ++ cat (t.Arms.map AM) := by
  intro n
  induction n with
  | zero => intro t h; have := ebulk_pos t; omega
  | succ n ih =>
    intro t hn hN q
    obtain ⟨q1, q2, q3, ⟨q4, q5⟩, ⟨q6, q7⟩, ⟨q8, q9⟩, ⟨q10, q11⟩, _⟩ := T_api_Expr.Q_iff.1 q
    have hb := ebulk t
    have l1 : t.Names.length ≤ (t.Names.map fun s => s.size + 1).sum := len_le_sum fun x _ => by omega
    have l2 : t.Types.length ≤ (t.Types.map T_api_Type.bulk).sum := len_le_sum fun x _ => tbulk_pos x
    have l3 : t.Args.length ≤ (t.Args.map T_api_Expr.bulk).sum := len_le_sum fun x _ => ebulk_pos x
    have l4 : t.Arms.length ≤ (t.Arms.map T_api_Arm.bulk).sum := len_le_sum fun x _ => abulk_pos x
    have ht : ∀ x ∈ t.Types, roadref2_TypeMark x = some (TM x) ∧ (TM x).size ≤ 22 * x.bulk := fun x hx => by
      have := le_sum (f := T_api_Type.bulk) hx
      have := type_mark x.bulk x (Nat.le_refl _) (by omega) (q7 x hx)
      exact ⟨this.1, this.2.1⟩
    have hc : ∀ x ∈ t.Args, roadref2_ExprMark x = some (EM x) ∧ (EM x).size ≤ 22 * x.bulk := fun x hx => by
      have := le_sum (f := T_api_Expr.bulk) hx
      have := ih x (by omega) (by omega) (q9 x hx)
      exact ⟨this.1, this.2.1⟩
    have ha : ∀ x ∈ t.Arms, (roadref2_PatMark x.Pat = some (PM x.Pat) ∧ roadref2_ExprMark x.Body = some (EM x.Body)) ∧ (AM x).size ≤ 22 * x.bulk := fun x hx => by
      have hx1 := le_sum (f := T_api_Arm.bulk) hx
      have hx2 := abulk x
      have k1 := pat_mark x.Pat.bulk x.Pat (Nat.le_refl _) (by omega) (q11 x hx).1
      have k2 := ih x.Body (by omega) (by omega) (q11 x hx).2
      refine ⟨⟨k1.1, k2.1⟩, ?_⟩
      unfold AM
      rw [app_size, hx2]; omega
    have c0 := tx_size (l := t.Names) fun s hs => by have := le_sum (f := fun s : ByteArray => s.size + 1) hs; omega
    have c1 := cat_le (T := TM) (g := T_api_Type.bulk) (l := t.Types) fun x hx => (ht x hx).2
    have c2 := cat_le (T := EM) (g := T_api_Expr.bulk) (l := t.Args) fun x hx => (hc x hx).2
    have c3 := cat_le (T := AM) (g := T_api_Arm.bulk) (l := t.Arms) fun x hx => (ha x hx).2
    have hk : ∀ x ∈ [t.Kind, t.Num, (t.Names.length : Int), (t.Types.length : Int), (t.Args.length : Int), (t.Arms.length : Int)], i64 x := i64_6 q1 q2 (i64_nat (by omega)) (i64_nat (by omega)) (i64_nat (by omega)) (i64_nat (by omega))
    have h1 := nm_size hk
    have h2 := tx1_size (s := t.Text) (by omega)
    simp only [List.length_cons, List.length_nil] at h1
    have e : roadref2_ExprMark t = some (nm [t.Kind, t.Num, (t.Names.length : Int), (t.Types.length : Int), (t.Args.length : Int), (t.Arms.length : Int)] ++ tx1 t.Text ++ tx t.Names ++ cat (t.Types.map TM) ++ cat (t.Args.map EM) ++ cat (t.Arms.map AM)) := by
      rw [roadref2_ExprMark_eq, nums_val hk (by simp), Option.bind_some, text_val (by omega), Option.bind_some, if_pos (by omega), texts_val (by omega), Option.bind_some, if_pos (by rw [app_size]; omega), roadref2_ExprMark.j0_eq]
      refine (cat_loop (F := fun s i => roadref2_ExprMark.l0 t s t.Types (t.Types.length : Int) i) (E := fun s => roadref2_ExprMark.l1 t s t.Args (t.Args.length : Int) 0) (l := t.Types) (T := TM) (fun s i hi hs => by
        rw [roadref2_ExprMark.l0_eq, if_pos (by omega), gi_at hi, Option.bind_some, (ht _ (List.getElem_mem hi)).1, Option.bind_some, if_pos (by omega), w_succ (by omega)]) (fun s => by rw [roadref2_ExprMark.l0_eq, if_neg (by omega)]) _ (by rw [app_size, app_size]; omega)).trans ?_
      refine (cat_loop (F := fun s i => roadref2_ExprMark.l1 t s t.Args (t.Args.length : Int) i) (E := fun s => roadref2_ExprMark.l2 s t.Arms (t.Arms.length : Int) 0) (l := t.Args) (T := EM) (fun s i hi hs => by
        rw [roadref2_ExprMark.l1_eq, if_pos (by omega), gi_at hi, Option.bind_some, (hc _ (List.getElem_mem hi)).1, Option.bind_some, if_pos (by omega), w_succ (by omega)]) (fun s => by rw [roadref2_ExprMark.l1_eq, if_neg (by omega)]) _ (by rw [app_size, app_size, app_size]; omega)).trans ?_
      exact cat_loop (F := fun s i => roadref2_ExprMark.l2 s t.Arms (t.Arms.length : Int) i) (E := fun s => some s) (l := t.Arms) (T := AM) (fun s i hi hs => by
        have e1 : (AM t.Arms[i]).size = (PM t.Arms[i].Pat).size + (EM t.Arms[i].Body).size := app_size ..
        rw [roadref2_ExprMark.l2_eq, if_pos (by omega), gi_at hi, Option.bind_some, (ha _ (List.getElem_mem hi)).1.1, Option.bind_some, (ha _ (List.getElem_mem hi)).1.2, Option.bind_some, if_pos (by omega), if_pos (by show _ + (AM t.Arms[i]).size ≤ _; omega), w_succ (by omega)]
        rfl) (fun s => by rw [roadref2_ExprMark.l2_eq, if_neg (by omega)]) _ (by rw [app_size, app_size, app_size, app_size]; omega)
    have e2 : EM t = _ := getD_of e
    refine ⟨by rw [e, e2], ?_, e2⟩
    rw [e2, app_size, app_size, app_size, app_size, app_size]; omega
theorem tm_ok {t : T_api_Type} (h : t.bulk ≤ 2000000) (q : t.Q) : roadref2_TypeMark t = some (TM t) ∧ (TM t).size ≤ 22 * t.bulk := ⟨(type_mark _ t (Nat.le_refl _) h q).1, (type_mark _ t (Nat.le_refl _) h q).2.1⟩
theorem em_ok {t : T_api_Expr} (h : t.bulk ≤ 2000000) (q : t.Q) : roadref2_ExprMark t = some (EM t) ∧ (EM t).size ≤ 22 * t.bulk := ⟨(expr_mark _ t (Nat.le_refl _) h q).1, (expr_mark _ t (Nat.le_refl _) h q).2.1⟩
noncomputable def NL (l : List ByteArray) : ByteArray := nm [(l.length : Int)] ++ tx l
noncomputable def TL (l : List T_api_Type) : ByteArray := nm [(l.length : Int)] ++ cat (l.map TM)
noncomputable def FM (f : T_api_Func) : ByteArray := tx1 f.Name ++ NL f.Params ++ NL f.Names ++ TL f.Types ++ TM f.Out ++ EM f.Body
noncomputable def FL (l : List T_api_Func) : ByteArray := nm [(l.length : Int)] ++ cat (l.map FM)
noncomputable def UM (u : T_api_Use) : ByteArray := tx1 u.Name ++ nm [u.Low, u.High]
noncomputable def KM (m : T_api_Make) : ByteArray := tx1 m.Name ++ TL m.Args
noncomputable def DM (d : T_api_Data) : ByteArray := tx1 d.Name ++ nm [(d.Makes.length : Int)] ++ NL d.Params ++ cat (d.Makes.map KM)
noncomputable def RM (t : T_api_Trait) : ByteArray := tx1 t.Name ++ FL t.Funcs
noncomputable def IM (m : T_api_Impl) : ByteArray := tx [m.Trait, m.For] ++ FL m.Funcs
noncomputable def CM (a : T_api_Actor) : ByteArray := tx1 a.Name ++ NL a.Names ++ TL a.Types ++ TM a.Msg ++ EM a.Body
noncomputable def MK (p : T_api_Program) : ByteArray := tx1 p.Name ++ nm [p.Version, (p.Uses.length : Int), (p.Datas.length : Int), (p.Traits.length : Int), (p.Impls.length : Int), (p.Actors.length : Int)] ++ cat (p.Uses.map UM) ++ cat (p.Datas.map DM) ++ cat (p.Traits.map RM) ++ cat (p.Impls.map IM) ++ FL p.Funcs ++ cat (p.Actors.map CM)
theorem nm_one {n : Nat} (h : n ≤ 1000000000000) : (nm [(n : Int)]).size ≤ 22 := by
  have := nm_size (i64_1 (i64_nat h)); simpa using this
theorem nums_one {n : Nat} (h : n ≤ 1000000000000) : roadref2_nums [(n : Int)] = some (nm [(n : Int)]) := nums_val (i64_1 (i64_nat h)) (by simp)
theorem nl_ok {l : List ByteArray} (h : (l.map fun s => s.size + 1).sum ≤ 3000000) : roadref2_namesMark l = some (NL l) ∧ (NL l).size ≤ 22 * ((l.map fun s => s.size + 1).sum + 1) := by
  have l1 : l.length ≤ (l.map fun s => s.size + 1).sum := len_le_sum fun x _ => by omega
  have c0 := tx_size (l := l) fun s hs => by have := le_sum (f := fun s : ByteArray => s.size + 1) hs; omega
  have h1 := nm_one (n := l.length) (by omega)
  refine ⟨?_, by unfold NL; rw [app_size]; omega⟩
  unfold roadref2_namesMark
  rw [nums_one (by omega), Option.bind_some, texts_val (by omega), Option.bind_some, if_pos (by omega)]
  rfl
theorem tl_ok {l : List T_api_Type} (h : (l.map T_api_Type.bulk).sum ≤ 2000000) (q : ∀ t ∈ l, t.Q) : roadref2_typesMark l = some (TL l) ∧ (TL l).size ≤ 22 * ((l.map T_api_Type.bulk).sum + 1) := by
  have l1 : l.length ≤ (l.map T_api_Type.bulk).sum := len_le_sum fun x _ => tbulk_pos x
  have hc : ∀ x ∈ l, roadref2_TypeMark x = some (TM x) ∧ (TM x).size ≤ 22 * x.bulk := fun x hx => tm_ok (by have := le_sum (f := T_api_Type.bulk) hx; omega) (q x hx)
  have c0 := cat_le (T := TM) (g := T_api_Type.bulk) (l := l) fun x hx => (hc x hx).2
  have h1 := nm_one (n := l.length) (by omega)
  refine ⟨?_, by unfold TL; rw [app_size]; omega⟩
  unfold roadref2_typesMark
  rw [nums_one (by omega), Option.bind_some]
  exact cat_loop (F := fun s i => roadref2_typesMark.l0 s l (l.length : Int) i) (E := fun s => some s) (l := l) (T := TM) (fun s i hi hs => by
    rw [roadref2_typesMark.l0_eq, if_pos (by omega), gi_at hi, Option.bind_some, (hc _ (List.getElem_mem hi)).1, Option.bind_some, if_pos (by omega), w_succ (by omega)]) (fun s => by rw [roadref2_typesMark.l0_eq, if_neg (by omega)]) _ (by omega)
theorem fbulk (f : T_api_Func) : f.bulk = (f.Name.size + 1) + ((f.Params.map fun s => s.size + 1).sum + 1) + ((f.Names.map fun s => s.size + 1).sum + 1) + ((f.Types.map T_api_Type.bulk).sum + 1) + f.Out.bulk + f.Body.bulk + 1 := by unfold T_api_Func.bulk; omega
theorem fl_ok {l : List T_api_Func} (h : (l.map T_api_Func.bulk).sum ≤ 2000000) (q : ∀ t ∈ l, t.Q) : roadref2_funcsMark l = some (FL l) ∧ (FL l).size ≤ 22 * ((l.map T_api_Func.bulk).sum + 1) := by
  have l1 : l.length ≤ (l.map T_api_Func.bulk).sum := len_le_sum fun x _ => by rw [fbulk]; omega
  have key : ∀ x ∈ l, (FM x).size ≤ 22 * x.bulk ∧ ∀ (s : ByteArray) (i : Nat), i < l.length → l[i]? = some x → s.size + (FM x).size ≤ 1000000000000 → roadref2_funcsMark.l0 s l (l.length : Int) (i : Int) = roadref2_funcsMark.l0 (s ++ FM x) l (l.length : Int) ((i + 1 : Nat) : Int) := fun x hx => by
    have hx0 := le_sum (f := T_api_Func.bulk) hx
    have hb := fbulk x
    obtain ⟨_, ⟨_, _⟩, ⟨_, _⟩, ⟨_, q7⟩, q8, q9⟩ := q x hx
    have k0 := text_val (s := x.Name) (by omega)
    have s0 := tx1_size (s := x.Name) (by omega)
    have k1 := nl_ok (l := x.Params) (by omega)
    have k2 := nl_ok (l := x.Names) (by omega)
    have k3 := tl_ok (l := x.Types) (by omega) q7
    have k4 := tm_ok (t := x.Out) (by omega) q8
    have k5 := em_ok (t := x.Body) (by omega) q9
    have e1 : (FM x).size = (tx1 x.Name).size + (NL x.Params).size + (NL x.Names).size + (TL x.Types).size + (TM x.Out).size + (EM x.Body).size := by unfold FM; rw [app_size, app_size, app_size, app_size, app_size]
    refine ⟨by omega, fun s i hi hxi hs => ?_⟩
    have hgi : gi l (i : Int) = some x := by rw [gi_at hi]; rw [List.getElem?_eq_getElem hi] at hxi; exact hxi
    rw [roadref2_funcsMark.l0_eq, if_pos (by omega), hgi, Option.bind_some, k0, Option.bind_some, k1.1, Option.bind_some, if_pos (by omega), k2.1, Option.bind_some, if_pos (by rw [app_size]; omega), k3.1, Option.bind_some, if_pos (by rw [app_size, app_size]; omega), k4.1, Option.bind_some, if_pos (by rw [app_size, app_size, app_size]; omega), k5.1, Option.bind_some, if_pos (by rw [app_size, app_size, app_size, app_size]; omega), if_pos (by rw [app_size, app_size, app_size, app_size, app_size]; omega), w_succ (by omega)]
    rfl
  have c0 := cat_le (T := FM) (g := T_api_Func.bulk) (l := l) fun x hx => (key x hx).1
  have h1 := nm_one (n := l.length) (by omega)
  refine ⟨?_, by unfold FL; rw [app_size]; omega⟩
  unfold roadref2_funcsMark
  rw [nums_one (by omega), Option.bind_some]
  exact cat_loop (F := fun s i => roadref2_funcsMark.l0 s l (l.length : Int) i) (E := fun s => some s) (l := l) (T := FM) (fun s i hi hs => (key _ (List.getElem_mem hi)).2 s i hi (List.getElem?_eq_getElem hi) hs) (fun s => by rw [roadref2_funcsMark.l0_eq, if_neg (by omega)]) _ (by omega)
theorem prbulk (p : T_api_Program) : p.bulk = (p.Name.size + 1) + 1 + ((p.Uses.map T_api_Use.bulk).sum + 1) + ((p.Datas.map T_api_Data.bulk).sum + 1) + ((p.Traits.map T_api_Trait.bulk).sum + 1) + ((p.Impls.map T_api_Impl.bulk).sum + 1) + ((p.Funcs.map T_api_Func.bulk).sum + 1) + ((p.Actors.map T_api_Actor.bulk).sum + 1) + 1 := by unfold T_api_Program.bulk; omega
theorem mark_ok {p : T_api_Program} (h : p.bulk ≤ 2000000) (q : p.Q) : roadref2_Mark p = some (MK p) := by
  have hb := prbulk p
  obtain ⟨q1, q2, ⟨_, q3⟩, ⟨_, q4⟩, ⟨_, q5⟩, ⟨_, q6⟩, ⟨_, q7⟩, ⟨_, q8⟩⟩ := q
  have u1 : p.Uses.length ≤ (p.Uses.map T_api_Use.bulk).sum := len_le_sum fun x _ => by unfold T_api_Use.bulk; omega
  have u2 : p.Datas.length ≤ (p.Datas.map T_api_Data.bulk).sum := len_le_sum fun x _ => by unfold T_api_Data.bulk; omega
  have u3 : p.Traits.length ≤ (p.Traits.map T_api_Trait.bulk).sum := len_le_sum fun x _ => by unfold T_api_Trait.bulk; omega
  have u4 : p.Impls.length ≤ (p.Impls.map T_api_Impl.bulk).sum := len_le_sum fun x _ => by unfold T_api_Impl.bulk; omega
  have u6 : p.Actors.length ≤ (p.Actors.map T_api_Actor.bulk).sum := len_le_sum fun x _ => by unfold T_api_Actor.bulk; omega
  have hk : ∀ x ∈ [p.Version, (p.Uses.length : Int), (p.Datas.length : Int), (p.Traits.length : Int), (p.Impls.length : Int), (p.Actors.length : Int)], i64 x := i64_6 q2 (i64_nat (by omega)) (i64_nat (by omega)) (i64_nat (by omega)) (i64_nat (by omega)) (i64_nat (by omega))
  have n1 := nm_size hk
  simp only [List.length_cons, List.length_nil] at n1
  have n0 := tx1_size (s := p.Name) (by omega)
  -- the parts
  have hU : ∀ x ∈ p.Uses, roadref2_texts [x.Name] = some (tx1 x.Name) ∧ roadref2_nums [x.Low, x.High] = some (nm [x.Low, x.High]) ∧ (UM x).size = (tx1 x.Name).size + (nm [x.Low, x.High]).size ∧ (UM x).size ≤ 22 * x.bulk := fun x hx => by
    have hx0 := le_sum (f := T_api_Use.bulk) hx
    have hxb : x.bulk = x.Name.size + 4 := by unfold T_api_Use.bulk; omega
    obtain ⟨_, r2, r3⟩ := q3 x hx
    have s0 := tx1_size (s := x.Name) (by omega)
    have hk2 := i64_2 r2 r3
    have s1 := nm_size hk2
    simp only [List.length_cons, List.length_nil] at s1
    have e1 : (UM x).size = (tx1 x.Name).size + (nm [x.Low, x.High]).size := app_size ..
    exact ⟨text_val (by omega), nums_val hk2 (by simp), e1, by omega⟩
  have hK : ∀ d ∈ p.Datas, ∀ x ∈ d.Makes, roadref2_texts [x.Name] = some (tx1 x.Name) ∧ roadref2_typesMark x.Args = some (TL x.Args) ∧ (KM x).size = (tx1 x.Name).size + (TL x.Args).size ∧ (KM x).size ≤ 22 * x.bulk := fun d hd x hx => by
    have hd0 := le_sum (f := T_api_Data.bulk) hd
    have hdb : d.bulk = d.Name.size + (d.Params.map fun s => s.size + 1).sum + (d.Makes.map T_api_Make.bulk).sum + 4 := by unfold T_api_Data.bulk; omega
    have hx0 := le_sum (f := T_api_Make.bulk) hx
    have hxb : x.bulk = x.Name.size + (x.Args.map T_api_Type.bulk).sum + 3 := by unfold T_api_Make.bulk; omega
    have s0 := tx1_size (s := x.Name) (by omega)
    have k1 := tl_ok (l := x.Args) (by omega) ((q4 d hd).2.2.2 x hx).2.2
    have e1 : (KM x).size = (tx1 x.Name).size + (TL x.Args).size := app_size ..
    exact ⟨text_val (by omega), k1.1, e1, by omega⟩
  have hD : ∀ x ∈ p.Datas, roadref2_texts [x.Name] = some (tx1 x.Name) ∧ roadref2_nums [(x.Makes.length : Int)] = some (nm [(x.Makes.length : Int)]) ∧ roadref2_namesMark x.Params = some (NL x.Params) ∧ (DM x).size = (tx1 x.Name).size + (nm [(x.Makes.length : Int)]).size + (NL x.Params).size + (cat (x.Makes.map KM)).size ∧ (DM x).size ≤ 22 * x.bulk ∧ x.Makes.length ≤ 2000000 := fun x hx => by
    have hd0 := le_sum (f := T_api_Data.bulk) hx
    have hdb : x.bulk = x.Name.size + (x.Params.map fun s => s.size + 1).sum + (x.Makes.map T_api_Make.bulk).sum + 4 := by unfold T_api_Data.bulk; omega
    have l1 : x.Makes.length ≤ (x.Makes.map T_api_Make.bulk).sum := len_le_sum fun x _ => by unfold T_api_Make.bulk; omega
    have s0 := tx1_size (s := x.Name) (by omega)
    have k1 := nl_ok (l := x.Params) (by omega)
    have s1 := nm_one (n := x.Makes.length) (by omega)
    have c0 := cat_le (T := KM) (g := T_api_Make.bulk) (l := x.Makes) fun y hy => (hK x hx y hy).2.2.2
    have e1 : (DM x).size = (tx1 x.Name).size + (nm [(x.Makes.length : Int)]).size + (NL x.Params).size + (cat (x.Makes.map KM)).size := by unfold DM; rw [app_size, app_size, app_size]
    exact ⟨text_val (by omega), nums_one (by omega), k1.1, e1, by omega, by omega⟩
  have hR : ∀ x ∈ p.Traits, roadref2_texts [x.Name] = some (tx1 x.Name) ∧ roadref2_funcsMark x.Funcs = some (FL x.Funcs) ∧ (RM x).size = (tx1 x.Name).size + (FL x.Funcs).size ∧ (RM x).size ≤ 22 * x.bulk := fun x hx => by
    have hx0 := le_sum (f := T_api_Trait.bulk) hx
    have hxb : x.bulk = x.Name.size + (x.Funcs.map T_api_Func.bulk).sum + 3 := by unfold T_api_Trait.bulk; omega
    have s0 := tx1_size (s := x.Name) (by omega)
    have k1 := fl_ok (l := x.Funcs) (by omega) (q5 x hx).2.2
    have e1 : (RM x).size = (tx1 x.Name).size + (FL x.Funcs).size := app_size ..
    exact ⟨text_val (by omega), k1.1, e1, by omega⟩
  have hI : ∀ x ∈ p.Impls, roadref2_texts [x.Trait, x.For] = some (tx [x.Trait, x.For]) ∧ roadref2_funcsMark x.Funcs = some (FL x.Funcs) ∧ (IM x).size = (tx [x.Trait, x.For]).size + (FL x.Funcs).size ∧ (IM x).size ≤ 22 * x.bulk := fun x hx => by
    have hx0 := le_sum (f := T_api_Impl.bulk) hx
    have hxb : x.bulk = x.Trait.size + x.For.size + (x.Funcs.map T_api_Func.bulk).sum + 4 := by unfold T_api_Impl.bulk; omega
    have s0 := tx_size (l := [x.Trait, x.For]) (fun s hs => by simp only [List.mem_cons, List.mem_nil_iff, or_false] at hs; rcases hs with rfl | rfl <;> omega)
    simp only [List.map_cons, List.map_nil, List.sum_cons, List.sum_nil] at s0
    have k1 := fl_ok (l := x.Funcs) (by omega) (q6 x hx).2.2.2
    have e1 : (IM x).size = (tx [x.Trait, x.For]).size + (FL x.Funcs).size := app_size ..
    exact ⟨texts_val (by simp only [List.map_cons, List.map_nil, List.sum_cons, List.sum_nil]; omega), k1.1, e1, by omega⟩
  have hF := fl_ok (l := p.Funcs) (by omega) q7
  have hC : ∀ x ∈ p.Actors, roadref2_texts [x.Name] = some (tx1 x.Name) ∧ roadref2_namesMark x.Names = some (NL x.Names) ∧ roadref2_typesMark x.Types = some (TL x.Types) ∧ roadref2_TypeMark x.Msg = some (TM x.Msg) ∧ roadref2_ExprMark x.Body = some (EM x.Body) ∧ (CM x).size = (tx1 x.Name).size + (NL x.Names).size + (TL x.Types).size + (TM x.Msg).size + (EM x.Body).size ∧ (CM x).size ≤ 22 * x.bulk := fun x hx => by
    have hx0 := le_sum (f := T_api_Actor.bulk) hx
    have hxb : x.bulk = x.Name.size + (x.Names.map fun s => s.size + 1).sum + (x.Types.map T_api_Type.bulk).sum + x.Msg.bulk + x.Body.bulk + 4 := by unfold T_api_Actor.bulk; omega
    obtain ⟨_, ⟨_, _⟩, ⟨_, r3⟩, r4, r5⟩ := q8 x hx
    have s0 := tx1_size (s := x.Name) (by omega)
    have k2 := nl_ok (l := x.Names) (by omega)
    have k3 := tl_ok (l := x.Types) (by omega) r3
    have k4 := tm_ok (t := x.Msg) (by omega) r4
    have k5 := em_ok (t := x.Body) (by omega) r5
    have e1 : (CM x).size = (tx1 x.Name).size + (NL x.Names).size + (TL x.Types).size + (TM x.Msg).size + (EM x.Body).size := by unfold CM; rw [app_size, app_size, app_size, app_size]
    exact ⟨text_val (by omega), k2.1, k3.1, k4.1, k5.1, e1, by omega⟩
  have c1 := cat_le (T := UM) (g := T_api_Use.bulk) (l := p.Uses) fun x hx => (hU x hx).2.2.2
  have c2 := cat_le (T := DM) (g := T_api_Data.bulk) (l := p.Datas) fun x hx => (hD x hx).2.2.2.2.1
  have c3 := cat_le (T := RM) (g := T_api_Trait.bulk) (l := p.Traits) fun x hx => (hR x hx).2.2.2
  have c4 := cat_le (T := IM) (g := T_api_Impl.bulk) (l := p.Impls) fun x hx => (hI x hx).2.2.2
  have c5 := cat_le (T := CM) (g := T_api_Actor.bulk) (l := p.Actors) fun x hx => (hC x hx).2.2.2.2.2.2
  unfold roadref2_Mark
  rw [text_val (by omega), Option.bind_some, nums_val hk (by simp), Option.bind_some, if_pos (by omega)]
  unfold roadref2_Mark.j0
  refine (cat_loop (F := fun s i => roadref2_Mark.l0 p s p.Uses (p.Uses.length : Int) i) (E := fun s => roadref2_Mark.l1 p s p.Datas (p.Datas.length : Int) 0) (l := p.Uses) (T := UM) (fun s i hi hs => by
    obtain ⟨r1, r2, r3, r4⟩ := hU _ (List.getElem_mem hi)
    rw [roadref2_Mark.l0_eq, if_pos (by omega), gi_at hi, Option.bind_some, r1, Option.bind_some, r2, Option.bind_some, if_pos (by omega), if_pos (by rw [app_size]; omega), w_succ (by omega)]
    rfl) (fun s => by rw [roadref2_Mark.l0_eq, if_neg (by omega)]) _ (by rw [app_size]; omega)).trans ?_
  refine (cat_loop (F := fun s i => roadref2_Mark.l1 p s p.Datas (p.Datas.length : Int) i) (E := fun s => roadref2_Mark.l2 p s p.Traits (p.Traits.length : Int) 0) (l := p.Datas) (T := DM) (fun s i hi hs => by
    have hm := List.getElem_mem hi
    obtain ⟨r1, r2, r3, r4, r5, r6⟩ := hD _ hm
    rw [roadref2_Mark.l1_eq, if_pos (by omega), gi_at hi, Option.bind_some, r1, Option.bind_some, r2, Option.bind_some, if_pos (by omega), r3, Option.bind_some, if_pos (by rw [app_size]; omega), if_pos (by rw [app_size, app_size]; omega), roadref2_Mark.j1_eq]
    refine (cat_loop (F := fun s' j => roadref2_Mark.l5 p s' p.Datas (p.Datas.length : Int) (i : Int) p.Datas[i].Makes (p.Datas[i].Makes.length : Int) j) (E := fun s' => roadref2_Mark.l1 p s' p.Datas (p.Datas.length : Int) ((i + 1 : Nat) : Int)) (l := p.Datas[i].Makes) (T := KM) (fun s' j hj hs' => by
      obtain ⟨t1, t2, t3, t4⟩ := hK _ hm _ (List.getElem_mem hj)
      rw [roadref2_Mark.l5_eq, if_pos (by omega), gi_at hj, Option.bind_some, t1, Option.bind_some, t2, Option.bind_some, if_pos (by omega), if_pos (by rw [app_size]; omega), w_succ (by omega)]
      rfl) (fun s' => by rw [roadref2_Mark.l5_eq, if_neg (by omega), w_succ (by omega)]) _ (by rw [app_size, app_size, app_size]; omega)).trans ?_
    rw [app_assoc]
    rfl) (fun s => by rw [roadref2_Mark.l1_eq, if_neg (by omega)]) _ (by rw [app_size, app_size]; omega)).trans ?_
  refine (cat_loop (F := fun s i => roadref2_Mark.l2 p s p.Traits (p.Traits.length : Int) i) (E := fun s => roadref2_Mark.l3 p s p.Impls (p.Impls.length : Int) 0) (l := p.Traits) (T := RM) (fun s i hi hs => by
    obtain ⟨r1, r2, r3, r4⟩ := hR _ (List.getElem_mem hi)
    rw [roadref2_Mark.l2_eq, if_pos (by omega), gi_at hi, Option.bind_some, r1, Option.bind_some, r2, Option.bind_some, if_pos (by omega), if_pos (by rw [app_size]; omega), w_succ (by omega)]
    rfl) (fun s => by rw [roadref2_Mark.l2_eq, if_neg (by omega)]) _ (by rw [app_size, app_size, app_size]; omega)).trans ?_
  refine cat_loop' (F := fun s i => roadref2_Mark.l3 p s p.Impls (p.Impls.length : Int) i) (l := p.Impls) (T := IM) (fun s i hi hs => by
    obtain ⟨r1, r2, r3, r4⟩ := hI _ (List.getElem_mem hi)
    rw [roadref2_Mark.l3_eq, if_pos (by omega), gi_at hi, Option.bind_some, r1, Option.bind_some, r2, Option.bind_some, if_pos (by omega), if_pos (by rw [app_size]; omega), w_succ (by omega)]
    rfl) _ (by rw [app_size, app_size, app_size, app_size]; omega) ?_
  have hF2 := hF.2
  rw [roadref2_Mark.l3_eq, if_neg (by omega), hF.1, Option.bind_some, if_pos (by rw [app_size, app_size, app_size, app_size, app_size]; omega)]
  exact cat_loop (F := fun s i => roadref2_Mark.l4 s p.Actors (p.Actors.length : Int) i) (E := fun s => some s) (l := p.Actors) (T := CM) (fun s i hi hs => by
    obtain ⟨r1, r2, r3, r4, r5, r6, r7⟩ := hC _ (List.getElem_mem hi)
    rw [roadref2_Mark.l4_eq, if_pos (by omega), gi_at hi, Option.bind_some, r1, Option.bind_some, r2, Option.bind_some, if_pos (by omega), r3, Option.bind_some, if_pos (by rw [app_size]; omega), r4, Option.bind_some, if_pos (by rw [app_size, app_size]; omega), r5, Option.bind_some, if_pos (by rw [app_size, app_size, app_size]; omega), if_pos (by rw [app_size, app_size, app_size, app_size]; omega), w_succ (by omega)]
    rfl) (fun s => by rw [roadref2_Mark.l4_eq, if_neg (by omega)]) _ (by rw [app_size, app_size, app_size, app_size, app_size, app_size]; omega)
theorem w64s {n : Int} (h0 : 0 ≤ n) (h1 : n ≤ 1000000000000) : IntKind.wrap .i64 n = n := wrap_in (by omega) (by omega)
theorem w64m {n : Int} (h0 : -1000000000000 ≤ n) (h1 : n ≤ 1000000000000) : IntKind.wrap .i64 n = n := wrap_in (by omega) (by omega)
def wo {α : Type} (l : List α) (k : Int) : List α := if 0 ≤ k ∧ k < l.length then l.take k.toNat ++ l.drop (k.toNat + 1) else l
theorem wo_sum {α : Type} (f : α → Nat) (l : List α) (k : Int) : ((wo l k).map f).sum ≤ (l.map f).sum := by
  unfold wo
  split
  · rename_i h
    have hlt : k.toNat < l.length := by omega
    have e : (l.map f).sum = ((l.take k.toNat).map f).sum + (f l[k.toNat] + ((l.drop (k.toNat + 1)).map f).sum) := by
      conv => lhs; rw [← List.take_append_drop k.toNat l, List.drop_eq_getElem_cons hlt]
      rw [List.map_append, List.sum_append_nat, List.map_cons, List.sum_cons]
    rw [List.map_append, List.sum_append_nat, e]; omega
  · exact Nat.le_refl _
theorem wo_mem {α : Type} {l : List α} {k : Int} {x : α} (h : x ∈ wo l k) : x ∈ l := by
  unfold wo at h
  split at h
  · rcases List.mem_append.1 h with h | h
    · exact List.mem_of_mem_take h
    · exact List.mem_of_mem_drop h
  · exact h
theorem wo_len {α : Type} (l : List α) (k : Int) : (wo l k).length ≤ l.length := by
  unfold wo
  split
  · rw [List.length_append, List.length_take, List.length_drop]; omega
  · exact Nat.le_refl _
def nx {α : Type} (l : List α) (k : Int) : Int := if 0 ≤ k ∧ k < l.length then -1 else if k < 0 then k else k - l.length
def at_ (k : Int) (n : Int) : Int := if 0 ≤ k ∧ k < n then k else -1
theorem drop_val {k n : Int} (hk : -1000000000 ≤ k ∧ k ≤ 1000000000) (hn : 0 ≤ n ∧ n ≤ 1000000000) : roadlaw2_dropNext k n = some (at_ k n, k - n) := by
  unfold roadlaw2_dropNext roadlaw2_dropNext.j0 at_
  rw [w64m (by omega) (by omega)]
  by_cases h : 0 ≤ k
  · rw [if_pos (show k ≥ 0 from h)]
    by_cases h2 : k < n
    · rw [if_pos (decide_eq_true h2), if_pos ⟨h, h2⟩]
    · rw [if_neg (by simpa using h2), if_neg (by omega)]
  · rw [if_neg (show ¬ k ≥ 0 from h), if_neg (by simp), if_neg (by omega)]
theorem wo_neg {α : Type} {l : List α} {k : Int} (h : k < 0) : wo l k = l := by unfold wo; rw [if_neg (by omega)]
theorem wo_at {α : Type} (l : List α) (k : Int) : wo l (at_ k l.length) = wo l k := by
  unfold at_
  split
  · rfl
  · rename_i h; rw [wo_neg (by omega)]; unfold wo; rw [if_neg h]
theorem cut_loop {α : Type} {B : Nat} {F : Int → List α → List α → Int → Int → Option (List α)}
    (eq : ∀ k a l n i, F k a l n i = if i < n then (gi l i).bind fun y => if i = k then F k a l n (IntKind.wrap .i64 (i + 1)) else (ap B a [y]).bind fun z => F k z l n (IntKind.wrap .i64 (i + 1)) else some a)
    {l : List α} {k : Int} (hl : l.length ≤ 1000000000) (hB : ∀ a : List α, ∀ y, a.length ≤ l.length → ap B a [y] = some (a ++ [y])) (hk : k < l.length) : F k [] l l.length 0 = some (wo l k) := by
  have key : ∀ (r pre : List α), l = pre ++ r → F k (if 0 ≤ k ∧ k < pre.length then pre.take k.toNat ++ pre.drop (k.toNat + 1) else pre) l l.length (pre.length : Int) = some (wo l k) := by
    intro r
    induction r with
    | nil =>
      intro pre e
      rw [List.append_nil] at e
      subst e
      rw [eq, if_neg (by omega)]; rfl
    | cons y r ih =>
      intro pre e
      have hlen : pre.length < l.length := by rw [e]; simp
      rw [eq, if_pos (by omega), gi_some (k := pre.length) rfl (by rw [e]; simp : l[pre.length]? = some y), Option.bind_some, w_succ (by omega)]
      have ih' := ih (pre ++ [y]) (by rw [e]; simp)
      rw [List.length_append, List.length_cons, List.length_nil] at ih'
      by_cases c : (pre.length : Int) = k
      · rw [if_pos c]
        rw [if_neg (by omega)]
        rw [if_pos (by push_cast; omega)] at ih'
        have e1 : (pre ++ [y]).take k.toNat ++ (pre ++ [y]).drop (k.toNat + 1) = pre := by
          have : k.toNat = pre.length := by omega
          rw [this, List.take_left, List.drop_eq_nil_of_le (by simp), List.append_nil]
        rw [e1] at ih'
        exact ih'
      · rw [if_neg c]
        have hle : (if 0 ≤ k ∧ k < (pre.length : Int) then pre.take k.toNat ++ pre.drop (k.toNat + 1) else pre).length ≤ l.length := by
          split
          · rw [List.length_append, List.length_take, List.length_drop]; omega
          · omega
        rw [hB _ _ hle, Option.bind_some]
        by_cases c2 : 0 ≤ k ∧ k < (pre.length : Int)
        · rw [if_pos c2]
          rw [if_pos (by push_cast; omega)] at ih'
          have e1 : (pre ++ [y]).take k.toNat ++ (pre ++ [y]).drop (k.toNat + 1) = pre.take k.toNat ++ pre.drop (k.toNat + 1) ++ [y] := by
            rw [List.take_append_of_le_length (by omega), List.drop_append_of_le_length (by omega), List.append_assoc]
          rw [e1] at ih'
          exact ih'
        · rw [if_neg c2]
          rw [if_neg (by push_cast; omega)] at ih'
          exact ih'
  have := key l [] rfl
  rw [List.length_nil, if_neg (by simp)] at this
  exact this
theorem del_eq {α : Type} {l : List α} {k : Int} (h : 0 ≤ k ∧ k < l.length) (hl : l.length ≤ 1000000000) : (if 0 ≤ k ∧ k ≤ IntKind.wrap .i64 (k + 1) ∧ IntKind.wrap .i64 (k + 1) ≤ ((List.length l : Nat) : Int) then some (List.take (Int.toNat k) l ++ List.drop (Int.toNat (IntKind.wrap .i64 (k + 1))) l) else none) = some (wo l k) := by
  rw [w64m (by omega) (by omega), if_pos (by omega)]
  unfold wo
  rw [if_pos h, show (k + 1).toNat = k.toNat + 1 by omega]
theorem out_val {α : Type} {O : List α → Int → Option (List α × Int)} {J0 : List α → Int → Option (List α × Int)} {J1 : List α → Int → Bool → Option (List α × Int)} {C : List α → Option (List α)} {D : List α → Int → Int → Option (List α)}
    (e0 : ∀ l k, O l k = if k ≥ 0 then J1 l k (decide (k < ((List.length l : Nat) : Int))) else J1 l k false)
    (e1 : ∀ l k b, J1 l k b = if b = true then (C l).bind fun y1 => (D y1 k (IntKind.wrap .i64 (k + 1))).bind fun y13 => some (y13, (-1 : Int)) else J0 l k)
    (e2 : ∀ l k, J0 l k = if k < 0 then some (l, k) else some (l, IntKind.wrap .i64 (k - ((List.length l : Nat) : Int))))
    (e3 : ∀ l x1 x2, D l x1 x2 = if 0 ≤ x1 ∧ x1 ≤ x2 ∧ x2 ≤ ((List.length l : Nat) : Int) then some (List.take (Int.toNat x1) l ++ List.drop (Int.toNat x2) l) else none)
    {l : List α} {k : Int} (e4 : C l = some l) (hl : l.length ≤ 1000000000) (hk : -1000000000 ≤ k ∧ k ≤ 1000000000) : O l k = some (wo l k, nx l k) := by
  rw [e0]
  unfold nx
  by_cases h : 0 ≤ k
  · rw [if_pos (show k ≥ 0 from h), e1]
    by_cases h2 : k < ((List.length l : Nat) : Int)
    · rw [if_pos (decide_eq_true h2), e4, Option.bind_some, e3, del_eq ⟨h, h2⟩ hl, Option.bind_some, if_pos ⟨h, h2⟩]
    · rw [if_neg (by simpa using h2), e2, if_neg (by omega), if_neg (by omega), if_neg (by omega), w64m (by omega) (by omega)]
      unfold wo; rw [if_neg (by omega)]
  · rw [if_neg (show ¬ k ≥ 0 from h), e1, if_neg (by simp), e2, if_pos (by omega), if_neg (by omega), if_pos (by omega), wo_neg (by omega)]
def Eqv (a b : Int) : Prop := a = b ∨ (a < 0 ∧ b < 0)
theorem Eqv.wo {α : Type} {l : List α} {a b : Int} (h : Eqv a b) : wo l a = wo l b := by
  rcases h with rfl | ⟨h1, h2⟩
  · rfl
  · rw [wo_neg h1, wo_neg h2]
theorem Eqv.next {α : Type} (l : List α) {a b : Int} (h : Eqv a b) : Eqv (nx l a) (b - l.length) := by
  unfold nx Eqv at *
  split
  · right; omega
  · split
    · right; omega
    · left; omega
theorem nx_bd {α : Type} {l : List α} {k : Int} (hl : l.length ≤ 1048576) {b : Int} (hk : -b ≤ k ∧ k ≤ b) (hb : 1 ≤ b) : -(b + 1048576) ≤ nx l k ∧ nx l k ≤ b + 1048576 := by
  unfold nx
  split
  · omega
  · split <;> omega
theorem at_lt {k : Int} {n : Nat} : at_ k n < n := by unfold at_; split <;> omega
def wop (p : T_api_Program) (k : Int) : T_api_Program :=
  let k2 := k - p.Uses.length
  let k3 := k2 - p.Datas.length
  let k4 := k3 - p.Traits.length
  let k5 := k4 - p.Impls.length
  let k6 := k5 - p.Funcs.length
  T_api_Program.mk p.Name p.Version (wo p.Uses k) (wo p.Datas k2) (wo p.Traits k3) (wo p.Impls k4) (wo p.Funcs k5) (wo p.Actors k6)
theorem wop_bulk (p : T_api_Program) (k : Int) : (wop p k).bulk ≤ p.bulk := by
  rw [prbulk, prbulk]
  unfold wop
  simp only
  have h1 := wo_sum T_api_Use.bulk p.Uses k
  have h2 := wo_sum T_api_Data.bulk p.Datas (k - p.Uses.length)
  have h3 := wo_sum T_api_Trait.bulk p.Traits (k - p.Uses.length - p.Datas.length)
  have h4 := wo_sum T_api_Impl.bulk p.Impls (k - p.Uses.length - p.Datas.length - p.Traits.length)
  have h5 := wo_sum T_api_Func.bulk p.Funcs (k - p.Uses.length - p.Datas.length - p.Traits.length - p.Impls.length)
  have h6 := wo_sum T_api_Actor.bulk p.Actors (k - p.Uses.length - p.Datas.length - p.Traits.length - p.Impls.length - p.Funcs.length)
  omega
theorem wop_Q {p : T_api_Program} (k : Int) (q : p.Q) : (wop p k).Q := by
  obtain ⟨q1, q2, ⟨l3, q3⟩, ⟨l4, q4⟩, ⟨l5, q5⟩, ⟨l6, q6⟩, ⟨l7, q7⟩, ⟨l8, q8⟩⟩ := q
  refine ⟨q1, q2, ⟨?_, fun a h => q3 a (wo_mem h)⟩, ⟨?_, fun a h => q4 a (wo_mem h)⟩, ⟨?_, fun a h => q5 a (wo_mem h)⟩, ⟨?_, fun a h => q6 a (wo_mem h)⟩, ⟨?_, fun a h => q7 a (wo_mem h)⟩, ⟨?_, fun a h => q8 a (wo_mem h)⟩⟩
  · exact Nat.le_trans (Nat.mul_le_mul_right _ (wo_len p.Uses _)) l3
  · exact Nat.le_trans (Nat.mul_le_mul_right _ (wo_len p.Datas _)) l4
  · exact Nat.le_trans (Nat.mul_le_mul_right _ (wo_len p.Traits _)) l5
  · exact Nat.le_trans (Nat.mul_le_mul_right _ (wo_len p.Impls _)) l6
  · exact Nat.le_trans (Nat.mul_le_mul_right _ (wo_len p.Funcs _)) l7
  · exact Nat.le_trans (Nat.mul_le_mul_right _ (wo_len p.Actors _)) l8
def emp : T_api_Program := T_api_Program.mk (ByteArray.mk #[]) 0 [] [] [] [] [] []
theorem emp_Q : emp.Q := by
  refine ⟨by decide, ⟨by decide, by decide⟩, ⟨?_, ?_⟩, ⟨?_, ?_⟩, ⟨?_, ?_⟩, ⟨?_, ?_⟩, ⟨?_, ?_⟩, ⟨?_, ?_⟩⟩ <;> first | (intro a h; cases h) | simp [emp]
theorem emp_bulk : emp.bulk ≤ 2000000 := by
  have h : (ByteArray.mk #[]).size = 0 := rfl
  rw [prbulk]; unfold emp; simp only [List.map_nil, List.sum_nil]; omega
structure Lens (p : T_api_Program) : Prop where
  u : p.Uses.length ≤ 1048576
  d : p.Datas.length ≤ 1048576
  t : p.Traits.length ≤ 1048576
  i : p.Impls.length ≤ 1048576
  f : p.Funcs.length ≤ 1048576
  a : p.Actors.length ≤ 1048576
theorem lens {p : T_api_Program} (h : p.bulk ≤ 1048576) : Lens p := by
  have hb := prbulk p
  have u1 : p.Uses.length ≤ (p.Uses.map T_api_Use.bulk).sum := len_le_sum fun x _ => by unfold T_api_Use.bulk; omega
  have u2 : p.Datas.length ≤ (p.Datas.map T_api_Data.bulk).sum := len_le_sum fun x _ => by unfold T_api_Data.bulk; omega
  have u3 : p.Traits.length ≤ (p.Traits.map T_api_Trait.bulk).sum := len_le_sum fun x _ => by unfold T_api_Trait.bulk; omega
  have u4 : p.Impls.length ≤ (p.Impls.map T_api_Impl.bulk).sum := len_le_sum fun x _ => by unfold T_api_Impl.bulk; omega
  have u5 : p.Funcs.length ≤ (p.Funcs.map T_api_Func.bulk).sum := len_le_sum fun x _ => by rw [fbulk]; omega
  have u6 : p.Actors.length ≤ (p.Actors.map T_api_Actor.bulk).sum := len_le_sum fun x _ => by unfold T_api_Actor.bulk; omega
  exact ⟨by omega, by omega, by omega, by omega, by omega, by omega⟩
def tot (p : T_api_Program) : Int := p.Uses.length + p.Datas.length + p.Traits.length + p.Impls.length + p.Funcs.length + p.Actors.length
theorem parts_val {p : T_api_Program} (L : Lens p) : excerpt_Parts p = some (tot p) := by
  obtain ⟨h1, h2, h3, h4, h5, h6⟩ := L
  unfold excerpt_Parts tot
  rw [w64s (n := (p.Uses.length : Int) + (p.Datas.length : Int)) (by omega) (by omega), w64s (n := (p.Uses.length : Int) + (p.Datas.length : Int) + (p.Traits.length : Int)) (by omega) (by omega), w64s (n := (p.Uses.length : Int) + (p.Datas.length : Int) + (p.Traits.length : Int) + (p.Impls.length : Int)) (by omega) (by omega), w64s (n := (p.Uses.length : Int) + (p.Datas.length : Int) + (p.Traits.length : Int) + (p.Impls.length : Int) + (p.Funcs.length : Int)) (by omega) (by omega), w64s (by omega) (by omega)]
theorem without_out {p : T_api_Program} {k : Int} (L : Lens p) (h : k < 0 ∨ tot p ≤ k) : excerpt_Without p k = some (emp, 4) := by
  unfold excerpt_Without
  by_cases h0 : k < 0
  · rw [if_pos h0]; unfold excerpt_Without.j1; rw [if_pos rfl]; rfl
  · rw [if_neg h0, parts_val L, Option.bind_some]; unfold excerpt_Without.j1; rw [if_pos (decide_eq_true (show k ≥ tot p by omega))]; rfl
theorem without_in {p : T_api_Program} {k : Int} (L : Lens p) (h0 : 0 ≤ k) (h1 : k < tot p) : excerpt_Without p k = some (wop p k, 0) := by
  have L' := L
  obtain ⟨l1, l2, l3, l4, l5, l6⟩ := L
  have hk : -7000000 ≤ k ∧ k ≤ 7000000 := by unfold tot at h1; omega
  unfold excerpt_Without
  rw [if_neg (by omega), parts_val L', Option.bind_some]
  unfold excerpt_Without.j1
  rw [if_neg (by simpa using h1)]
  unfold excerpt_Without.j0
  have b1 := nx_bd (l := p.Uses) l1 hk (by omega)
  have b2 := nx_bd (l := p.Datas) l2 b1 (by omega)
  have b3 := nx_bd (l := p.Traits) l3 b2 (by omega)
  have b4 := nx_bd (l := p.Impls) l4 b3 (by omega)
  have b5 := nx_bd (l := p.Funcs) l5 b4 (by omega)
  have v1 := out_val (O := excerpt_out_14) (J0 := excerpt_out_14.j0) (J1 := excerpt_out_14.j1) (C := slices_Clone_28) (D := slices_Delete_27) (fun l k => rfl) (fun l k b => rfl) (fun l k => rfl) (fun l x1 x2 => rfl) (l := p.Uses) (k := k) (ap_nil (by omega)) (by omega) (by omega)
  have v2 := out_val (O := excerpt_out_15) (J0 := excerpt_out_15.j0) (J1 := excerpt_out_15.j1) (C := slices_Clone_30) (D := slices_Delete_29) (fun l k => rfl) (fun l k b => rfl) (fun l k => rfl) (fun l x1 x2 => rfl) (l := p.Datas) (k := nx p.Uses k) (ap_nil (by omega)) (by omega) (by omega)
  have v3 := out_val (O := excerpt_out_16) (J0 := excerpt_out_16.j0) (J1 := excerpt_out_16.j1) (C := slices_Clone_32) (D := slices_Delete_31) (fun l k => rfl) (fun l k b => rfl) (fun l k => rfl) (fun l x1 x2 => rfl) (l := p.Traits) (k := nx p.Datas (nx p.Uses k)) (ap_nil (by omega)) (by omega) (by omega)
  have v4 := out_val (O := excerpt_out_17) (J0 := excerpt_out_17.j0) (J1 := excerpt_out_17.j1) (C := slices_Clone_34) (D := slices_Delete_33) (fun l k => rfl) (fun l k b => rfl) (fun l k => rfl) (fun l x1 x2 => rfl) (l := p.Impls) (k := nx p.Traits (nx p.Datas (nx p.Uses k))) (ap_nil (by omega)) (by omega) (by omega)
  have v5 := out_val (O := excerpt_out_18) (J0 := excerpt_out_18.j0) (J1 := excerpt_out_18.j1) (C := slices_Clone_36) (D := slices_Delete_35) (fun l k => rfl) (fun l k b => rfl) (fun l k => rfl) (fun l x1 x2 => rfl) (l := p.Funcs) (k := nx p.Impls (nx p.Traits (nx p.Datas (nx p.Uses k)))) (ap_nil (by omega)) (by omega) (by omega)
  have v6 := out_val (O := excerpt_out_19) (J0 := excerpt_out_19.j0) (J1 := excerpt_out_19.j1) (C := slices_Clone_38) (D := slices_Delete_37) (fun l k => rfl) (fun l k b => rfl) (fun l k => rfl) (fun l x1 x2 => rfl) (l := p.Actors) (k := nx p.Funcs (nx p.Impls (nx p.Traits (nx p.Datas (nx p.Uses k))))) (ap_nil (by omega)) (by omega) (by omega)
  have E0 : Eqv k k := .inl rfl
  have E1 := E0.next p.Uses
  have E2 := E1.next p.Datas
  have E3 := E2.next p.Traits
  have E4 := E3.next p.Impls
  have E5 := E4.next p.Funcs
  rw [v1, Option.bind_some]; simp only
  rw [v2, Option.bind_some]; simp only
  rw [v3, Option.bind_some]; simp only
  rw [v4, Option.bind_some]; simp only
  rw [v5, Option.bind_some]; simp only
  rw [v6, Option.bind_some]; simp only
  rw [E1.wo, E2.wo, E3.wo, E4.wo, E5.wo]
  rfl
theorem gi6 {a b c d e f : Int} : gi [a, b, c, d, e, f] 0 = some a ∧ gi [a, b, c, d, e, f] 1 = some b ∧ gi [a, b, c, d, e, f] 2 = some c ∧ gi [a, b, c, d, e, f] 3 = some d ∧ gi [a, b, c, d, e, f] 4 = some e ∧ gi [a, b, c, d, e, f] 5 = some f := ⟨rfl, rfl, rfl, rfl, rfl, rfl⟩
theorem want_val {p : T_api_Program} {k : Int} (L : Lens p) (h0 : 0 ≤ k) (h1 : k < tot p) (y : T_api_Program) (x : Int) :
    roadlaw2_ExcerptSays.j1 p k [(p.Uses.length : Int), (p.Datas.length : Int), (p.Traits.length : Int), (p.Impls.length : Int), (p.Funcs.length : Int), (p.Actors.length : Int)] y x = roadlaw2_ExcerptSays.j8 y x (wop p k) := by
  obtain ⟨l1, l2, l3, l4, l5, l6⟩ := L
  have hk : -7000000 ≤ k ∧ k ≤ 7000000 := by unfold tot at h1; omega
  unfold roadlaw2_ExcerptSays.j1
  rw [gi6.1, Option.bind_some, drop_val (by omega) (by omega), Option.bind_some]; simp only
  unfold roadlaw2_cut_7
  rw [cut_loop (B := 32) (F := fun k a l n i => roadlaw2_cut_7.l0 k a l n i) (fun k a l n i => roadlaw2_cut_7.l0_eq k a l n i) (by omega) (fun a y h => ap_one (by omega)) at_lt, wo_at, Option.bind_some]
  unfold roadlaw2_ExcerptSays.j3
  rw [gi6.2.1, Option.bind_some, drop_val (by omega) (by omega), Option.bind_some]; simp only
  unfold roadlaw2_cut_9
  rw [cut_loop (B := 64) (F := fun k a l n i => roadlaw2_cut_9.l0 k a l n i) (fun k a l n i => roadlaw2_cut_9.l0_eq k a l n i) (by omega) (fun a y h => ap_one (by omega)) at_lt, wo_at, Option.bind_some]
  unfold roadlaw2_ExcerptSays.j4
  rw [gi6.2.2.1, Option.bind_some, drop_val (by omega) (by omega), Option.bind_some]; simp only
  unfold roadlaw2_cut_10
  rw [cut_loop (B := 40) (F := fun k a l n i => roadlaw2_cut_10.l0 k a l n i) (fun k a l n i => roadlaw2_cut_10.l0_eq k a l n i) (by omega) (fun a y h => ap_one (by omega)) at_lt, wo_at, Option.bind_some]
  unfold roadlaw2_ExcerptSays.j5
  rw [gi6.2.2.2.1, Option.bind_some, drop_val (by omega) (by omega), Option.bind_some]; simp only
  unfold roadlaw2_cut_11
  rw [cut_loop (B := 56) (F := fun k a l n i => roadlaw2_cut_11.l0 k a l n i) (fun k a l n i => roadlaw2_cut_11.l0_eq k a l n i) (by omega) (fun a y h => ap_one (by omega)) at_lt, wo_at, Option.bind_some]
  unfold roadlaw2_ExcerptSays.j6
  rw [gi6.2.2.2.2.1, Option.bind_some, drop_val (by omega) (by omega), Option.bind_some]; simp only
  unfold roadlaw2_cut_12
  rw [cut_loop (B := 272) (F := fun k a l n i => roadlaw2_cut_12.l0 k a l n i) (fun k a l n i => roadlaw2_cut_12.l0_eq k a l n i) (by omega) (fun a y h => ap_one (by omega)) at_lt, wo_at, Option.bind_some]
  unfold roadlaw2_ExcerptSays.j7
  rw [gi6.2.2.2.2.2, Option.bind_some, drop_val (by omega) (by omega), Option.bind_some]; simp only
  unfold roadlaw2_cut_13
  rw [cut_loop (B := 248) (F := fun k a l n i => roadlaw2_cut_13.l0 k a l n i) (fun k a l n i => roadlaw2_cut_13.l0_eq k a l n i) (by omega) (fun a y h => ap_one (by omega)) at_lt, wo_at, Option.bind_some]
  rfl
theorem ExcerptSays (p : T_api_Program) (k : Int) (q : p.Q) (hk : -9223372036854775808 ≤ k ∧ k ≤ 9223372036854775807) (hb : p.bulk + 1 ≤ 1048576) : roadlaw2_ExcerptSays p k = some true := by
  have L := lens (p := p) (by omega)
  have L' := L
  obtain ⟨l1, l2, l3, l4, l5, l6⟩ := L
  have one : Lens (T_api_Program.mk (ByteArray.mk #[]) 0 ([(T_api_Use.mk (ByteArray.mk #[]) 0 0)] : List T_api_Use) [] [] [] [] []) := ⟨by decide, by decide, by decide, by decide, by decide, by decide⟩
  unfold roadlaw2_ExcerptSays
  rw [roadlaw2_ExcerptSays.l0_eq, if_pos (by decide), gi6.1, Option.bind_some, show (0 : Int) + (p.Uses.length : Int) = p.Uses.length by omega, w64s (n := (p.Uses.length : Int)) (by omega) (by omega), show IntKind.wrap .i64 ((0 : Int) + 1) = 1 from rfl]
  rw [roadlaw2_ExcerptSays.l0_eq, if_pos (by decide), gi6.2.1, Option.bind_some, w64s (n := (p.Uses.length : Int) + (p.Datas.length : Int)) (by omega) (by omega), show IntKind.wrap .i64 ((1 : Int) + 1) = 2 from rfl]
  rw [roadlaw2_ExcerptSays.l0_eq, if_pos (by decide), gi6.2.2.1, Option.bind_some, w64s (n := (p.Uses.length : Int) + (p.Datas.length : Int) + (p.Traits.length : Int)) (by omega) (by omega), show IntKind.wrap .i64 ((2 : Int) + 1) = 3 from rfl]
  rw [roadlaw2_ExcerptSays.l0_eq, if_pos (by decide), gi6.2.2.2.1, Option.bind_some, w64s (n := (p.Uses.length : Int) + (p.Datas.length : Int) + (p.Traits.length : Int) + (p.Impls.length : Int)) (by omega) (by omega), show IntKind.wrap .i64 ((3 : Int) + 1) = 4 from rfl]
  rw [roadlaw2_ExcerptSays.l0_eq, if_pos (by decide), gi6.2.2.2.2.1, Option.bind_some, w64s (n := (p.Uses.length : Int) + (p.Datas.length : Int) + (p.Traits.length : Int) + (p.Impls.length : Int) + (p.Funcs.length : Int)) (by omega) (by omega), show IntKind.wrap .i64 ((4 : Int) + 1) = 5 from rfl]
  rw [roadlaw2_ExcerptSays.l0_eq, if_pos (by decide), gi6.2.2.2.2.2, Option.bind_some, w64s (n := (p.Uses.length : Int) + (p.Datas.length : Int) + (p.Traits.length : Int) + (p.Impls.length : Int) + (p.Funcs.length : Int) + (p.Actors.length : Int)) (by omega) (by omega), show IntKind.wrap .i64 ((5 : Int) + 1) = 6 from rfl]
  rw [roadlaw2_ExcerptSays.l0_eq, if_neg (by decide)]
  by_cases h : k < 0 ∨ tot p ≤ k
  · rw [without_out L' h, Option.bind_some, parts_val L', Option.bind_some, if_pos (by rfl), parts_val one, Option.bind_some, if_pos (by decide)]
    unfold roadlaw2_ExcerptSays.j0
    have fin : roadlaw2_ExcerptSays.j2 p k [(p.Uses.length : Int), (p.Datas.length : Int), (p.Traits.length : Int), (p.Impls.length : Int), (p.Funcs.length : Int), (p.Actors.length : Int)] emp 4 true = some true := by
      unfold roadlaw2_ExcerptSays.j2
      have e := mark_ok emp_bulk emp_Q
      rw [if_pos rfl, if_pos rfl, e, Option.bind_some]
      show (roadref2_Mark emp).bind _ = _
      rw [e, Option.bind_some]; simp
    by_cases h0 : k < 0
    · rw [if_pos h0]; exact fin
    · rw [if_neg h0, decide_eq_true (show k ≥ _ from (by unfold tot at h; omega))]; exact fin
  · have h0 : 0 ≤ k := by omega
    have h1 : k < tot p := by omega
    rw [without_in L' h0 h1, Option.bind_some, parts_val L', Option.bind_some, if_pos (by rfl), parts_val one, Option.bind_some, if_pos (by decide)]
    unfold roadlaw2_ExcerptSays.j0
    rw [if_neg (by omega), decide_eq_false (show ¬ k ≥ _ from (by unfold tot at h1; omega))]
    unfold roadlaw2_ExcerptSays.j2
    rw [if_neg (by simp), want_val L' h0 h1]
    unfold roadlaw2_ExcerptSays.j8
    have e := mark_ok (p := wop p k) (by have := wop_bulk p k; omega) (wop_Q k q)
    rw [if_pos rfl, e, Option.bind_some, Option.bind_some]
    simp
end Go.Proofs.YtnlocljmalhddaaDoor.Fw

end
section
namespace Go.Proofs.YtnlocljmalhddaaDoor.excerptSays
open Go Go.Hw Go.ChangeShapes Go.WideShapes Go.ChangeAt Go.RowKit Go.Proofs.YtnlocljmalhddaaDoor.Fw
open Go.ChangeMaps (open_string shut_string)
set_option linter.unusedVariables false
theorem own : ownKnob Tryd.prog.godebug = none := by kernel_rfl
theorem laidOut : laidOutB Tryd.prog = true := by kernel_rfl
theorem bulkAll {H : Type} : ∀ l : List (DataW H), Rows.uptoBulkAll l = (l.map Rows.uptoBulk).sum
  | [] => rfl
  | d :: r => by rw [Rows.uptoBulkAll, List.map_cons, List.sum_cons, bulkAll r]
theorem measure {H : Type} : Measure (Rows.uptoBulk (H := H)) where
  pos d := by
    cases d with
    | lit l => cases l <;> simp [Rows.uptoBulk]
    | _ => simp [Rows.uptoBulk]
  str b := by simp [Rows.uptoBulk]
  slice e s := by rw [Rows.uptoBulk, bulkAll]; omega
  agg ps := by rw [Rows.uptoBulk, bulkAll]; omega
theorem gTab : Tryd.prog.globalNamed "internal/strconv.uint64pow10" = some 0 := by kernel_rfl
theorem gTabType : (Tryd.prog.globals[0]?).map (·.type) = some 116 := by kernel_rfl
theorem table {W : World} (h : laidMetH Tryd.prog Rows.excerptSaysUptoRow.laid W) : Lib.TabIs Tryd.prog W "internal/strconv.uint64pow10" .u64 Lib.pow10Tab :=
  Lib.tabIs_of_head (rest := []) gTab gTabType (show Tryd.prog.underlying 116 = some (.array 20 108) by kernel_rfl) (show Tryd.prog.underlying 108 = some (.int .u64) by kernel_rfl) (by kernel_rfl) (by kernel_rfl) (laidMet.tail (laidMet.tail (show laidMet Tryd.prog Rows.excerptSaysUptoRow.laid W from h)))
noncomputable def laidHeap (os : Os) : Array Obj :=
  ((((World.holding Tryd.prog os ⟨#[], #[], []⟩).heap).modify 1 (fun
      | .cells _ t frozen => .cells #[(.int .u8 0), (.int .u8 1), (.int .u8 28), (.int .u8 2), (.int .u8 29), (.int .u8 14), (.int .u8 24), (.int .u8 3), (.int .u8 30), (.int .u8 22), (.int .u8 20), (.int .u8 15), (.int .u8 25), (.int .u8 17), (.int .u8 4), (.int .u8 8), (.int .u8 31), (.int .u8 27), (.int .u8 13), (.int .u8 23), (.int .u8 21), (.int .u8 19), (.int .u8 16), (.int .u8 7), (.int .u8 26), (.int .u8 12), (.int .u8 18), (.int .u8 6), (.int .u8 11), (.int .u8 5), (.int .u8 10), (.int .u8 9)] t frozen
      | o => o)).modify 2 (fun
      | .cells _ t frozen => .cells #[(.int .u8 0), (.int .u8 1), (.int .u8 56), (.int .u8 2), (.int .u8 57), (.int .u8 49), (.int .u8 28), (.int .u8 3), (.int .u8 61), (.int .u8 58), (.int .u8 42), (.int .u8 50), (.int .u8 38), (.int .u8 29), (.int .u8 17), (.int .u8 4), (.int .u8 62), (.int .u8 47), (.int .u8 59), (.int .u8 36), (.int .u8 45), (.int .u8 43), (.int .u8 51), (.int .u8 22), (.int .u8 53), (.int .u8 39), (.int .u8 33), (.int .u8 30), (.int .u8 24), (.int .u8 18), (.int .u8 12), (.int .u8 5), (.int .u8 63), (.int .u8 55), (.int .u8 48), (.int .u8 27), (.int .u8 60), (.int .u8 41), (.int .u8 37), (.int .u8 16), (.int .u8 46), (.int .u8 35), (.int .u8 44), (.int .u8 21), (.int .u8 52), (.int .u8 32), (.int .u8 23), (.int .u8 11), (.int .u8 54), (.int .u8 26), (.int .u8 40), (.int .u8 15), (.int .u8 34), (.int .u8 20), (.int .u8 31), (.int .u8 10), (.int .u8 25), (.int .u8 14), (.int .u8 19), (.int .u8 9), (.int .u8 13), (.int .u8 8), (.int .u8 7), (.int .u8 6)] t frozen
      | o => o)).modify 0 (fun
      | .cells _ t frozen => .cells #[(.int .u64 1), (.int .u64 10), (.int .u64 100), (.int .u64 1000), (.int .u64 10000), (.int .u64 100000), (.int .u64 1000000), (.int .u64 10000000), (.int .u64 100000000), (.int .u64 1000000000), (.int .u64 10000000000), (.int .u64 100000000000), (.int .u64 1000000000000), (.int .u64 10000000000000), (.int .u64 100000000000000), (.int .u64 1000000000000000), (.int .u64 10000000000000000), (.int .u64 100000000000000000), (.int .u64 1000000000000000000), (.int .u64 10000000000000000000)] t frozen
      | o => o)
noncomputable def laidWorld (os : Os) : World :=
  { World.holding Tryd.prog os ⟨#[], #[], []⟩ with heap := laidHeap os }
theorem laid_met (os : Os) : laidMet Tryd.prog Rows.excerptSaysUptoRow.laid ((laidWorld os).forCall (fun _ _ => 0) ⟨#[], #[(.agg #[(.string (ByteArray.mk #[])), (.int .i64 (0 : Int)), (.slice none 0 0), (.slice none 0 0), (.slice none 0 0), (.slice none 0 0), (.slice none 0 0), (.slice none 0 0)]), (.int .i64 (0 : Int))], []⟩).memory :=
  laidMet_of_run' 8 (by kernel_rfl) (by kernel_rfl)
theorem reads (os : Os) {H : Type} (enc : TypeId × Value → H) : ∃ places, DataW.whole enc Tryd.prog ((laidWorld os).forCall (fun _ _ => 0) ⟨#[], #[(.agg #[(.string (ByteArray.mk #[])), (.int .i64 (0 : Int)), (.slice none 0 0), (.slice none 0 0), (.slice none 0 0), (.slice none 0 0), (.slice none 0 0), (.slice none 0 0)]), (.int .i64 (0 : Int))], []⟩).memory Tryd.f3.params.toList Rows.excerptSaysSpec.vars false (#[(.agg #[(.string (ByteArray.mk #[])), (.int .i64 (0 : Int)), (.slice none 0 0), (.slice none 0 0), (.slice none 0 0), (.slice none 0 0), (.slice none 0 0), (.slice none 0 0)]), (.int .i64 (0 : Int))] : Array Value).toList 8 = some ([DataW.agg [DataW.lit (.string []), DataW.lit (.int .i64 0), DataW.nil, DataW.nil, DataW.nil, DataW.nil, DataW.nil, DataW.nil], DataW.lit (.int .i64 0)], [], places) :=
  ⟨[], by kernel_rfl⟩
set_option maxRecDepth 100000 in
theorem lifted (os : Os) (started : os.Started) (H : Type) (enc : TypeId × Value → H) (F : Stop.Interp) :
    ReturnsInHanded {} Tryd.checked os 3 .any ((Rows.OpenSpec.upto Rows.excerptSaysSpec).preRow enc Tryd.prog Tryd.f3 Rows.excerptSaysUptoRow.domain false Rows.excerptSaysUptoRow.laid) (((Rows.OpenSpec.upto Rows.excerptSaysSpec).at F).post enc Tryd.prog Tryd.f3 false true false false) := by
  obtain ⟨places, hx⟩ := reads os enc
  refine returnsInHanded_of_row (C := Tryd.checked) (s := (Rows.OpenSpec.upto Rows.excerptSaysSpec)) own started (by kernel_rfl) Tryd.func3
    (witness_row_at (enc := enc) (C := Tryd.checked) false (laidWorld os) #[(.agg #[(.string (ByteArray.mk #[])), (.int .i64 (0 : Int)), (.slice none 0 0), (.slice none 0 0), (.slice none 0 0), (.slice none 0 0), (.slice none 0 0), (.slice none 0 0)]), (.int .i64 (0 : Int))] rfl (by kernel_rfl) (by kernel_rfl) (by kernel_rfl)
      (OpenSpec.preRow_of_cond 8 hx (by kernel_rfl) (fun k hk => by cases hk; kernel_rfl) (by kernel_rfl) (laid_met os))) ?_
  intro W base args ds gs before hval0 hW hcnd hkk0 hsz0 hL _ _
  have hkk : Rows.uptoSmall H (ds ++ gs) = true := hkk0 _ rfl
  have hsz : (DataW.weightsEach Tryd.prog (Tryd.f3.params.toList ++ (Rows.OpenSpec.upto Rows.excerptSaysSpec).bare.plain.varTypes Tryd.prog) (ds ++ gs)).all (· ≤ reachBytes) = true := hsz0
  have hval : ∀ (j : Nat) t v, Tryd.f3.params[j]? = some t → args[j]? = some v → Value.okWide Tryd.prog W .any base t v := hval0
  have hW' := hW
  obtain ⟨p, q, hA0, hV, rfl, hfz, hnd⟩ := hW
  have hA : DataW.TrodAll enc Tryd.prog W 0 (fun _ => true) true Tryd.f3.params.toList args.toList ds p := hA0
  rw [Tryd.params3] at hA hval hsz
  obtain ⟨v0, vs0, d0, ds0, p0, q0_, hargs, rfl, rfl, h0, r0_⟩ := trodAll_cons hA
  obtain ⟨v1, vs1, d1, ds1, p1, q1_, rfl, rfl, rfl, h1, r1_⟩ := trodAll_cons r0_
  obtain ⟨rfl, rfl, rfl⟩ := trodAll_nil r1_
  obtain rfl : args = #[v0, v1] := by cases args; simp_all
  obtain ⟨rfl, rfl⟩ := trodVars_none hV
  have hs : (DataW.weightsEach Tryd.prog [29, 3] [d0, d1]).all (· ≤ reachBytes) = true := hsz
  simp only [DataW.weightsEach, List.append_nil, List.all_append, Bool.and_eq_true] at hs
  obtain ⟨hw0, hw1⟩ := hs
  have k0 := h0
  have lt0 : ∀ x ∈ p0, x.block < W.heap.size := by obtain ⟨m, hm⟩ := k0; exact DataW.trod_lt m _ _ _ hm
  obtain ⟨cs0, rfl⟩ : ∃ cs : List Value, v0 = .agg cs.toArray := okWide_agg_of (show shapeOf Tryd.prog 29 = some [(9, 0), (3, 1), (22, 2), (23, 3), (24, 4), (25, 5), (26, 6), (27, 7)] by kernel_rfl) (hval 0 29 v0 rfl rfl)
  obtain ⟨fuel0, hf0⟩ := h0
  obtain ⟨x0, e0, q0⟩ := T_api_Program.tells fuel0 _ _ hf0 hw0
  have b0 := (T_api_Program.kt (N := fuel0 + 1) (enc := enc) (W := W) measure) fuel0 (Nat.lt_succ_self _) _ _ hf0 _ e0
  have e0 : T_api_Program.E W.heap x0 cs0 := by simpa [Value.cells] using e0
  have k1 := h1
  have lt1 : ∀ x ∈ p1, x.block < W.heap.size := by obtain ⟨m, hm⟩ := k1; exact DataW.trod_lt m _ _ _ hm
  obtain ⟨a1, rfl, rfl, rfl, w1⟩ := open_int (show Tryd.prog.underlying 3 = some (.int .i64) by kernel_rfl) (hval 1 3 v1 rfl rfl) h1
  have hb : (T_api_Program.bulk x0) + 1 ≤ 1048576 := by
    have hk : Rows.uptoBulkAll ([d0, (DataW.lit (.int .i64 a1))] ++ []) ≤ 1048576 := of_decide_eq_true hkk
    have := b0
    have := (measure (H := H)).pos (DataW.lit (.int .i64 a1))
    simp only [List.append_nil, Rows.uptoBulkAll] at hk
    simp only at *
    omega
  refine ((Run.mono (R' := fun v h' => v = Value.bool true ∧ Ext W.heap h') (Fw.roadlaw2_ExcerptSays.walk (W := No) (Hold.start (Sub.refl _)) e0 (TBg.of gTab (table hL)) (Fw.ExcerptSays x0 a1 q0 (wf_i64 w1) hb)) (fun v h' hp => by obtain ⟨m', st, hv⟩ := hp; exact ⟨hv, st.S.ext⟩)) W rfl).mono fun e W' he => ?_
  obtain ⟨v, rfl, ⟨rfl, ext⟩, same⟩ := he
  have bel := below_of ext same
  exact ⟨_, rfl, _, _, _, [], _, [], hW', trodAll_mk1 (shut_bool (show Tryd.prog.underlying 4 = some .bool by kernel_rfl) _), (trodAll_cons_mk (Below.trod laidOut (by kernel_rfl) (of_decide_eq_true (by kernel_rfl)) k0 bel lt0) (trodAll_cons_mk (Below.trod laidOut (by kernel_rfl) (of_decide_eq_true (by kernel_rfl)) k1 bel lt1) trodAll_mk0)), rfl, bel.frame _, fun h => by cases h⟩
theorem over : Rows.excerptSaysUptoRow.holds Tryd.pinned (Rows.OpenSpec.upto Rows.excerptSaysSpec) :=
  OpenClaim.holds_of_cond 3 Tryd.f3 rfl rfl rfl rfl rfl rfl rfl ⟨rfl, rfl, rfl, rfl, rfl⟩ rfl rfl rfl rfl rfl (by kernel_rfl) Tryd.func3 (by kernel_rfl)
    (of_decide_eq_true (by kernel_rfl)) (by unfold Func.isWrapper; first | (rw [if_pos (by decide +kernel)]; kernel_rfl) | (rw [if_neg (by decide +kernel)]; exact ⟨rfl, rfl⟩))
    (fun os started H enc _ F => by rw [OpenClaim.pre_eq_preRow]; exact lifted os started H enc F)
theorem plain (f : FuncId) (fn : Func) (hf : Tryd.pinned.checked.prog.funcNamed "roadstead/roadlaw2.ExcerptSays" = some f) (hfn : Tryd.pinned.checked.prog.funcs[f]? = some fn) :
    false = Tryd.pinned.checked.prog.looks [] ∧ ∀ (j : Nat) t, fn.params[j]? = some t → Tryd.pinned.checked.prog.wantsStandIn t = false := by
  obtain rfl : f = 3 := Option.some.inj ((show Tryd.prog.funcNamed "roadstead/roadlaw2.ExcerptSays" = some 3 by kernel_rfl).symm.trans hf) |>.symm
  obtain rfl : fn = Tryd.f3 := (Option.some.inj (Tryd.func3.symm.trans hfn)).symm
  refine ⟨by kernel_rfl, fun j t ht => ?_⟩
  rw [Tryd.params3] at ht
  have hm : t ∈ [29, 3] := by simpa using Array.mem_of_getElem? ht
  have hall : ([29, 3].all fun u => !Tryd.prog.wantsStandIn u) = true := by kernel_rfl
  exact (show Tryd.prog.wantsStandIn t = false by simpa using List.all_eq_true.1 hall t hm)
end Go.Proofs.YtnlocljmalhddaaDoor.excerptSays
namespace Go.Proofs.YtnlocljmalhddaaDoor
theorem excerptSays_holds : Rows.ExcerptSaysUptoCardSaid :=
  Claim7.holds_tied_plain_at .later [] _ _ _ _ excerptSays.over (fun _ h => by cases h) (by kernel_rfl) (fun _ h => by cases h) excerptSaysUpto_row_tie rfl ⟨rfl, rfl⟩ (by kernel_rfl) rfl excerptSays.plain (by kernel_rfl)
end Go.Proofs.YtnlocljmalhddaaDoor

end
