/- Last part: what the law TraitSays needs, put together out of texts of this session. -/
import Derived.Lib.ItoaLen
import Derived.Test.YtkbhpagogmmgnaaDoorRows
import Derived.WalkKit
import Derived.ProofKit
import Derived.OpenShut
import Derived.Deep.DeepHandedRow
import Derived.Deep.DeepWitnessRowRef
import Derived.Deep.DeepLaidRun
import Derived.Lib.LaidTab
import Derived.Stop.LaidErr
import Derived.Test.YtkbhpagogmmgnaaDoorCards
import Derived.Test.YtkbhpagogmmgnaaDoorTie
import Derived.JoinedCond
import Derived.Deep.CondSized
import Derived.Test.YtkbhpagogmmgnaaDoorZTraitSayse
section
namespace Go.Proofs.YtkbhpagogmmgnaaDoor.Fw
open Go Go.Hw Go.Proofs
set_option linter.unusedVariables false
set_option maxRecDepth 100000
set_option synthInstance.maxHeartbeats 400000
set_option synthInstance.maxSize 1000
def roadref2_FitsErr.post (W : Nat → Prop) (h0 m0 : Heap) (r : Int) (v : Value) (h : Heap) : Prop := ∃ m , Hold W h0 m0 h m [] ∧ v = .int .i64 r
inductive roadref2_FitsErr.l1_k.Pt where
  | l1 (y_4 : T_api_Func) (a_10 : List T_api_Type) (a_75 : List T_api_Type) (x_76 : Int) (x_77 : Int)
noncomputable def roadref2_FitsErr.l1_k.body (go : (p : roadref2_FitsErr.l1_k.Pt) → Option (Int)) : (p : roadref2_FitsErr.l1_k.Pt) → Option (Int)
  | .l1 y_4 a_10 a_75 x_76 x_77 => if x_77 < x_76 then (Option.bind (gi a_75 x_77) fun y1 => Option.bind (sls y_4.Types (0 : Int) (1 : Int)) fun l19 => Option.bind (roadref2_Swap y1 ([(ByteArray.mk #[115, 101, 108, 102])] : List ByteArray) l19) fun y29 => Option.bind (ap 48 a_10 ([y29] : List T_api_Type)) fun l52 => (go (.l1 y_4 l52 a_75 x_76 (IntKind.wrap .i64 (x_77 + (1 : Int)))))) else (Option.bind (slices_Concat_47 ([y_4.Types, ([y_4.Out] : List T_api_Type)] : List (List T_api_Type))) fun y83 => Option.bind (roadref2_typesMark y83) fun y103 => Option.bind (roadref2_typesMark a_10) fun y117 => if y103 = y117 then (some ((0 : Int))) else (some ((12 : Int))))
theorem roadref2_FitsErr.l1_k.mono : MonoF (β := fun _ => (Int)) roadref2_FitsErr.l1_k.body := fun f g hfg p => match p with
  | .l1 y_4 a_10 a_75 x_76 x_77 => LeO.ite (LeO.bind (LeO.refl _) fun y1 => LeO.bind (LeO.refl _) fun l19 => LeO.bind (LeO.refl _) fun y29 => LeO.bind (LeO.refl _) fun l52 => (hfg _)) (LeO.bind (LeO.refl _) fun y83 => LeO.bind (LeO.refl _) fun y103 => LeO.bind (LeO.refl _) fun y117 => LeO.ite (LeO.refl _) (LeO.refl _))
noncomputable def roadref2_FitsErr.l1_k.go (p : roadref2_FitsErr.l1_k.Pt) : Option (Int) := fixF (β := fun _ => (Int)) roadref2_FitsErr.l1_k.body p
noncomputable def roadref2_FitsErr.l1 (y_4 a_10 a_75 x_76 x_77) := roadref2_FitsErr.l1_k.go (.l1 y_4 a_10 a_75 x_76 x_77)
theorem roadref2_FitsErr.l1_eq (y_4 a_10 a_75 x_76 x_77) : roadref2_FitsErr.l1 y_4 a_10 a_75 x_76 x_77 = if x_77 < x_76 then (Option.bind (gi a_75 x_77) fun y1 => Option.bind (sls y_4.Types (0 : Int) (1 : Int)) fun l19 => Option.bind (roadref2_Swap y1 ([(ByteArray.mk #[115, 101, 108, 102])] : List ByteArray) l19) fun y29 => Option.bind (ap 48 a_10 ([y29] : List T_api_Type)) fun l52 => (roadref2_FitsErr.l1 y_4 l52 a_75 x_76 (IntKind.wrap .i64 (x_77 + (1 : Int))))) else (Option.bind (slices_Concat_47 ([y_4.Types, ([y_4.Out] : List T_api_Type)] : List (List T_api_Type))) fun y83 => Option.bind (roadref2_typesMark y83) fun y103 => Option.bind (roadref2_typesMark a_10) fun y117 => if y103 = y117 then (some ((0 : Int))) else (some ((12 : Int)))) := fixF_eq roadref2_FitsErr.l1_k.mono _
def roadref2_FitsErr.l1_k.I : (p : roadref2_FitsErr.l1_k.Pt) → (Int) → Prop
  | .l1 y_4 a_10 a_75 x_76 x_77, r => ∀ {W h0 m0 h m bk_4 cs_4 A_10 n_10 c_10 A_75 n_75 c_75} (O : Hold W h0 m0 h m [rV bk_4 56 cs_4, rR (aE T_api_Type.T) A_10 c_10 a_10, rR (aE T_api_Type.T) A_75 c_75 a_75]) (e_4 : T_api_Func.E m y_4 cs_4) (ne_10 : n_10 = List.length a_10) (ne_75 : n_75 = List.length a_75) (tab : TB m), f18.l1 (roadref2_FitsErr.post W h0 m0 r) (⟨bk_4, 0, none⟩ : Addr) A_10 n_10 c_10 A_75 n_75 c_75 x_76 x_77 h
set_option maxHeartbeats 4000000 in
theorem roadref2_FitsErr.l1_k.step_l1 (go : (p : roadref2_FitsErr.l1_k.Pt) → Option (Int)) (ih : ∀ p r, go p = some r → roadref2_FitsErr.l1_k.I p r) (y_4 a_10 a_75 x_76 x_77) (r) (e : roadref2_FitsErr.l1_k.body go (.l1 y_4 a_10 a_75 x_76 x_77) = some r) : roadref2_FitsErr.l1_k.I (.l1 y_4 a_10 a_75 x_76 x_77) r := by
  unfold roadref2_FitsErr.l1_k.body at e
  intro W h0 m0 h m bk_4 cs_4 A_10 n_10 c_10 A_75 n_75 c_75 O e_4 ne_10 ne_75 tab
  subst ne_10
  subst ne_75
  refine f18.l1_in ?_
  unfold f18.l1T
  refine split_dec_e e (fun c132 e => ?_) (fun c132 e => ?_)
  · obtain ⟨y1, g2, e⟩ := bind_e e
    refine (O.os 2 rfl).addr rfl g2 fun a3 cs4 ha5 hc6 he7 => ?_
    refine ⟨_, ldAn (Sub.refl _) hc6 rfl, ?_⟩
    refine O.new fun h8 x9 O10 => ?_
    refine ⟨_, rfl, (T_api_Type.T.len _ _ _ he7), ?_⟩
    refine O10.stA 3 rfl (T_api_Type.T.len _ _ _ he7) (T_api_Type.T.flat _ _ _ he7) fun h12 O13 => ?_
    refine ⟨_, ldAn (Sub.refl _) (O13.all 3 rfl) (T_api_Type.T.len _ _ _ he7), ?_⟩
    obtain ⟨A14, c15, q16, k17, r18⟩ := T_api_Func.g3 e_4
    refine ⟨_, ldk (k := 3) (Sub.refl _) (O13.all 0 rfl) q16, _, _, _, rfl, ?_⟩
    obtain ⟨l19, g20, e⟩ := bind_e e
    have q21 := sls_e g20
    refine ⟨q21.1, q21.2.1, cap_in q21.2.2.1 k17, ?_⟩
    try rw [q21.2.2.2.1]
    have k22 : List.length l19 ≤ (c15 - Int.toNat (0 : Int)) := sls_cap g20 k17
    have r23 := r18.sls g20 (le_mx q21.2.2.1 k17)
    refine O13.new fun h24 x25 O26 => ?_
    refine ⟨x25, ?_⟩
    obtain ⟨y29, g30, e⟩ := bind_e e
    have O28 := O26.rowE (l := ([(ByteArray.mk #[115, 101, 108, 102])] : List ByteArray)) 4 rfl tell_str (show CsE _ _ _ _ _ from (CsE.cons (c1 := [(Value.string (ByteArray.mk #[115, 101, 108, 102]))]) rfl rfl CsE.nil)) rfl
    have O35 := O28.nm
    obtain ⟨m36, u37, s42, ⟨⟨r40, k41⟩, _⟩, B38, C39⟩ := O35.lend0 [4]
    replace r40 : Rd 1 eStr m36 (some ⟨(Array.size h12), 0, none⟩) ([(ByteArray.mk #[115, 101, 108, 102])] : List ByteArray) := r40
    replace k41 : List.length ([(ByteArray.mk #[115, 101, 108, 102])] : List ByteArray) ≤ 1 := k41
    refine (roadref2_Swap.walk (Hold.start (W := No) s42) (T_api_Type.T.mono _ _ _ _ u37 he7) rfl k41 r40 rfl k22 (r23.sub T_api_Type.T u37) g30).mono ?_
    rintro _ h31 ⟨m32, cs44, Q33, rfl, he45⟩
    have O46 := Hold.nm (B38 Q33)
    refine ⟨cs44, rfl, (T_api_Type.T.len _ _ _ he45), ?_⟩
    refine O46.new fun h47 x48 O49 => ?_
    have O51 := O49.recell 5 rfl (cs' := cs44 ++ []) rfl
    obtain ⟨l52, g53, e⟩ := bind_e e
    have O60 := O51.rowE (l := ([y29] : List T_api_Type)) 5 rfl T_api_Type.T (show CsE _ _ _ _ _ from (CsE.cons he45 (T_api_Type.T.len _ _ _ he45) CsE.nil)) rfl
    refine O60.app 1 rfl rfl rfl ((O60.os 5 rfl).srcE rfl) (by decide) g53 fun A54 c55 h56 O57 => ?_
    refine ⟨_, _, _, rfl, ?_⟩
    have O61 := O57.nm
    exact (ih _ _ e) (O61.pick [0, 1, 2]).nm (T_api_Func.T.mono _ _ _ _ (u37.trans Q33.S.up) e_4) rfl rfl (TB.sub tab (u37.trans Q33.S.up))
  · obtain ⟨A62, c63, q64, k65, r66⟩ := T_api_Func.g3 e_4
    refine ⟨_, ldk (k := 3) (Sub.refl _) (O.all 0 rfl) q64, _, _, _, rfl, ?_⟩
    refine ⟨_, ldAkn (Sub.refl _) (O.all 0 rfl) 4 3 (le_len (T_api_Func.T.len _ _ _ e_4) (by decide)), ?_⟩
    refine ⟨(List.take 3 (List.drop 4 cs_4)), rfl, (T_api_Type.T.len _ _ _ (T_api_Func.u4_32 e_4)), ?_⟩
    refine O.new fun h67 x68 O69 => ?_
    have O71 := O69.recell 3 rfl (cs' := (List.take 3 (List.drop 4 cs_4)) ++ []) rfl
    refine O71.new fun h72 x73 O74 => ?_
    obtain ⟨y83, g84, e⟩ := bind_e e
    have O76 := O74.rowE (l := ([y_4.Out] : List T_api_Type)) 3 rfl T_api_Type.T (show CsE _ _ _ _ _ from (CsE.cons (T_api_Func.u4_32 e_4) (T_api_Type.T.len _ _ _ (T_api_Func.u4_32 e_4)) CsE.nil)) rfl
    obtain ⟨m77, u78, ⟨r79, k80⟩, O81⟩ := O76.frz 3 rfl
    replace r79 : Rd 3 T_api_Type.E m77 (some ⟨(Array.size h), 0, none⟩) ([y_4.Out] : List T_api_Type) := r79
    have O82 := O81.rowE (l := ([y_4.Types, ([y_4.Out] : List T_api_Type)] : List (List T_api_Type))) 4 rfl (tell_row T_api_Type.T) (show CsE _ _ _ _ _ from (CsE.cons (c1 := [(Value.slice A62 (List.length y_4.Types) c63)]) ⟨_, _, rfl, k65, (r66.sub T_api_Type.T u78)⟩ rfl (CsE.cons (c1 := [(Value.slice (some ⟨(Array.size h), 0, none⟩) 1 1)]) ⟨_, _, rfl, k80, r79⟩ rfl CsE.nil))) rfl
    have O89 := O82.nm
    obtain ⟨m90, u91, s96, ⟨⟨r94, k95⟩, _⟩, B92, C93⟩ := O89.lend0 [4]
    replace r94 : Rd 1 (eRow 3 T_api_Type.E) m90 (some ⟨(Array.size h67), 0, none⟩) ([y_4.Types, ([y_4.Out] : List T_api_Type)] : List (List T_api_Type)) := r94
    replace k95 : List.length ([y_4.Types, ([y_4.Out] : List T_api_Type)] : List (List T_api_Type)) ≤ 2 := k95
    refine (slices_Concat_47.walk (Hold.start (W := No) s96) rfl k95 r94 g84).mono ?_
    rintro _ h85 ⟨m86, A97, n98, c99, Q87, rfl, ne100⟩
    have O102 := Hold.nm (B92 Q87)
    subst ne100
    refine ⟨_, _, _, rfl, ?_⟩
    obtain ⟨y103, g104, e⟩ := bind_e e
    obtain ⟨m109, u110, s115, ⟨⟨r113, k114⟩, _⟩, B111, C112⟩ := O102.lend0 [5]
    replace r113 : Rd 3 T_api_Type.E m109 A97 y83 := r113
    replace k114 : List.length y83 ≤ c99 := k114
    refine (roadref2_typesMark.walk (Hold.start (W := No) s115) rfl k114 r113 (TB.sub tab (u78.trans (u91.trans (Q87.S.up.trans u110)))) g104).mono ?_
    rintro _ h105 ⟨m106, Q107, rfl⟩
    have O116 := Hold.nm (C112 Q107 vfs_nil)
    refine ⟨_, rfl, ?_⟩
    obtain ⟨y117, g118, e⟩ := bind_e e
    obtain ⟨m123, u124, s129, ⟨⟨r127, k128⟩, _⟩, B125, C126⟩ := O116.lend0 [1]
    replace r127 : Rd 3 T_api_Type.E m123 A_10 a_10 := r127
    replace k128 : List.length a_10 ≤ c_10 := k128
    refine (roadref2_typesMark.walk (Hold.start (W := No) s129) rfl k128 r127 (TB.sub tab (u78.trans (u91.trans (Q87.S.up.trans u124)))) g118).mono ?_
    rintro _ h119 ⟨m120, Q121, rfl⟩
    have O130 := Hold.nm (C126 Q121 vfs_nil)
    refine ⟨_, rfl, ?_⟩
    try rw [ba_list y103 y117]
    refine split_not ?_
    refine split_dec_e e (fun c131 e => ?_) (fun c131 e => ?_)
    · cases e
      exact ⟨_, O130.pick [], rfl⟩
    · cases e
      exact ⟨_, O130.pick [], rfl⟩
theorem roadref2_FitsErr.l1_k.all {p : roadref2_FitsErr.l1_k.Pt} {r : (Int)} (e : roadref2_FitsErr.l1_k.go p = some r) : roadref2_FitsErr.l1_k.I p r := fixF_ind (β := fun _ => (Int)) roadref2_FitsErr.l1_k.mono (I := roadref2_FitsErr.l1_k.I) (fun go ih p r e => match p with
  | .l1 y_4 a_10 a_75 x_76 x_77 => roadref2_FitsErr.l1_k.step_l1 go ih y_4 a_10 a_75 x_76 x_77 r e
  ) e
noncomputable def roadref2_FitsErr.j1 (y_4 : T_api_Func) (y_5 : T_api_Func) : Option (Int) :=
  Option.bind (slices_Concat_47 ([y_5.Types, ([y_5.Out] : List T_api_Type)] : List (List T_api_Type))) fun y22 => (roadref2_FitsErr.l1 y_4 ([] : List T_api_Type) y22 (((List.length y22) : Nat) : Int) (0 : Int))
theorem roadref2_FitsErr.j1.walk {W h0 m0 h m bk_4 cs_4 bk_5 cs_5 y_4 y_5} (O : Hold W h0 m0 h m [rV bk_4 56 cs_4, rV bk_5 56 cs_5]) (e_4 : T_api_Func.E m y_4 cs_4) (e_5 : T_api_Func.E m y_5 cs_5) (tab : TB m) {r} (e : roadref2_FitsErr.j1 y_4 y_5 = some r) : f18.j1 (roadref2_FitsErr.post W h0 m0 r) (⟨bk_4, 0, none⟩ : Addr) (⟨bk_5, 0, none⟩ : Addr) h := by
  unfold roadref2_FitsErr.j1 at e
  refine f18.j1_in ?_
  unfold f18.j1T
  obtain ⟨A1, c2, q3, k4, r5⟩ := T_api_Func.g3 e_5
  refine ⟨_, ldk (k := 3) (Sub.refl _) (O.all 1 rfl) q3, _, _, _, rfl, ?_⟩
  refine ⟨_, ldAkn (Sub.refl _) (O.all 1 rfl) 4 3 (le_len (T_api_Func.T.len _ _ _ e_5) (by decide)), ?_⟩
  refine ⟨(List.take 3 (List.drop 4 cs_5)), rfl, (T_api_Type.T.len _ _ _ (T_api_Func.u4_32 e_5)), ?_⟩
  refine O.new fun h6 x7 O8 => ?_
  have O10 := O8.recell 2 rfl (cs' := (List.take 3 (List.drop 4 cs_5)) ++ []) rfl
  refine O10.new fun h11 x12 O13 => ?_
  obtain ⟨y22, g23, e⟩ := bind_e e
  have O15 := O13.rowE (l := ([y_5.Out] : List T_api_Type)) 2 rfl T_api_Type.T (show CsE _ _ _ _ _ from (CsE.cons (T_api_Func.u4_32 e_5) (T_api_Type.T.len _ _ _ (T_api_Func.u4_32 e_5)) CsE.nil)) rfl
  obtain ⟨m16, u17, ⟨r18, k19⟩, O20⟩ := O15.frz 2 rfl
  replace r18 : Rd 3 T_api_Type.E m16 (some ⟨(Array.size h), 0, none⟩) ([y_5.Out] : List T_api_Type) := r18
  have O21 := O20.rowE (l := ([y_5.Types, ([y_5.Out] : List T_api_Type)] : List (List T_api_Type))) 3 rfl (tell_row T_api_Type.T) (show CsE _ _ _ _ _ from (CsE.cons (c1 := [(Value.slice A1 (List.length y_5.Types) c2)]) ⟨_, _, rfl, k4, (r5.sub T_api_Type.T u17)⟩ rfl (CsE.cons (c1 := [(Value.slice (some ⟨(Array.size h), 0, none⟩) 1 1)]) ⟨_, _, rfl, k19, r18⟩ rfl CsE.nil))) rfl
  have O28 := O21.nm
  obtain ⟨m29, u30, s35, ⟨⟨r33, k34⟩, _⟩, B31, C32⟩ := O28.lend0 [3]
  replace r33 : Rd 1 (eRow 3 T_api_Type.E) m29 (some ⟨(Array.size h6), 0, none⟩) ([y_5.Types, ([y_5.Out] : List T_api_Type)] : List (List T_api_Type)) := r33
  replace k34 : List.length ([y_5.Types, ([y_5.Out] : List T_api_Type)] : List (List T_api_Type)) ≤ 2 := k34
  refine (slices_Concat_47.walk (Hold.start (W := No) s35) rfl k34 r33 g23).mono ?_
  rintro _ h24 ⟨m25, A36, n37, c38, Q26, rfl, ne39⟩
  have O41 := Hold.nm (B31 Q26)
  subst ne39
  refine ⟨_, _, _, rfl, ?_⟩
  have O42 := O41.nil (aE T_api_Type.T) none
  have O44 := O42.nm
  exact (roadref2_FitsErr.l1_k.all e) (O44.pick [0, 5, 4]).nm (T_api_Func.T.mono _ _ _ _ (u17.trans (u30.trans Q26.S.up)) e_4) rfl rfl (TB.sub tab (u17.trans (u30.trans Q26.S.up)))
inductive roadref2_FitsErr.l0_k.Pt where
  | l0 (y_4 : T_api_Func) (y_5 : T_api_Func) (a_7 : List ByteArray) (a_40 : List T_api_Type) (x_41 : Int) (x_42 : Int)
noncomputable def roadref2_FitsErr.l0_k.body (go : (p : roadref2_FitsErr.l0_k.Pt) → Option (Int)) : (p : roadref2_FitsErr.l0_k.Pt) → Option (Int)
  | .l0 y_4 y_5 a_7 a_40 x_41 x_42 => if x_42 < x_41 then (Option.bind (gi a_40 x_42) fun y1 => if y1.Kind = (5 : Int) then (Option.bind (ap 16 a_7 ([y1.Name] : List ByteArray)) fun l19 => (go (.l0 y_4 y_5 l19 a_40 x_41 (IntKind.wrap .i64 (x_42 + (1 : Int)))))) else (some ((12 : Int)))) else (Option.bind (slices_Concat_46 ([a_7, y_5.Params] : List (List ByteArray))) fun y50 => Option.bind (slices_Equal_32 y_4.Params y50) fun y70 => if y70 = true then (Option.bind (roadref2_doubled y_4.Params) fun y89 => if y89 = true then (some ((12 : Int))) else ((roadref2_FitsErr.j1 y_4 y_5))) else (some ((12 : Int))))
theorem roadref2_FitsErr.l0_k.mono : MonoF (β := fun _ => (Int)) roadref2_FitsErr.l0_k.body := fun f g hfg p => match p with
  | .l0 y_4 y_5 a_7 a_40 x_41 x_42 => LeO.ite (LeO.bind (LeO.refl _) fun y1 => LeO.ite (LeO.bind (LeO.refl _) fun l19 => (hfg _)) (LeO.refl _)) (LeO.bind (LeO.refl _) fun y50 => LeO.bind (LeO.refl _) fun y70 => LeO.ite (LeO.bind (LeO.refl _) fun y89 => LeO.ite (LeO.refl _) ((LeO.refl _))) (LeO.refl _))
noncomputable def roadref2_FitsErr.l0_k.go (p : roadref2_FitsErr.l0_k.Pt) : Option (Int) := fixF (β := fun _ => (Int)) roadref2_FitsErr.l0_k.body p
noncomputable def roadref2_FitsErr.l0 (y_4 y_5 a_7 a_40 x_41 x_42) := roadref2_FitsErr.l0_k.go (.l0 y_4 y_5 a_7 a_40 x_41 x_42)
theorem roadref2_FitsErr.l0_eq (y_4 y_5 a_7 a_40 x_41 x_42) : roadref2_FitsErr.l0 y_4 y_5 a_7 a_40 x_41 x_42 = if x_42 < x_41 then (Option.bind (gi a_40 x_42) fun y1 => if y1.Kind = (5 : Int) then (Option.bind (ap 16 a_7 ([y1.Name] : List ByteArray)) fun l19 => (roadref2_FitsErr.l0 y_4 y_5 l19 a_40 x_41 (IntKind.wrap .i64 (x_42 + (1 : Int))))) else (some ((12 : Int)))) else (Option.bind (slices_Concat_46 ([a_7, y_5.Params] : List (List ByteArray))) fun y50 => Option.bind (slices_Equal_32 y_4.Params y50) fun y70 => if y70 = true then (Option.bind (roadref2_doubled y_4.Params) fun y89 => if y89 = true then (some ((12 : Int))) else ((roadref2_FitsErr.j1 y_4 y_5))) else (some ((12 : Int)))) := fixF_eq roadref2_FitsErr.l0_k.mono _
def roadref2_FitsErr.l0_k.I : (p : roadref2_FitsErr.l0_k.Pt) → (Int) → Prop
  | .l0 y_4 y_5 a_7 a_40 x_41 x_42, r => ∀ {W h0 m0 h m bk_4 cs_4 bk_5 cs_5 A_7 n_7 c_7 A_40 n_40 c_40} (O : Hold W h0 m0 h m [rV bk_4 56 cs_4, rV bk_5 56 cs_5, rR (aE tell_str) A_7 c_7 a_7]) (e_4 : T_api_Func.E m y_4 cs_4) (e_5 : T_api_Func.E m y_5 cs_5) (ne_7 : n_7 = List.length a_7) (ne_40 : n_40 = List.length a_40) (k_40 : List.length a_40 ≤ c_40) (r_40 : Rd 3 T_api_Type.E m A_40 a_40) (tab : TB m), f18.l0 (roadref2_FitsErr.post W h0 m0 r) (⟨bk_4, 0, none⟩ : Addr) (⟨bk_5, 0, none⟩ : Addr) A_7 n_7 c_7 A_40 n_40 c_40 x_41 x_42 h
set_option maxHeartbeats 4000000 in
theorem roadref2_FitsErr.l0_k.step_l0 (go : (p : roadref2_FitsErr.l0_k.Pt) → Option (Int)) (ih : ∀ p r, go p = some r → roadref2_FitsErr.l0_k.I p r) (y_4 y_5 a_7 a_40 x_41 x_42) (r) (e : roadref2_FitsErr.l0_k.body go (.l0 y_4 y_5 a_7 a_40 x_41 x_42) = some r) : roadref2_FitsErr.l0_k.I (.l0 y_4 y_5 a_7 a_40 x_41 x_42) r := by
  unfold roadref2_FitsErr.l0_k.body at e
  intro W h0 m0 h m bk_4 cs_4 bk_5 cs_5 A_7 n_7 c_7 A_40 n_40 c_40 O e_4 e_5 ne_7 ne_40 k_40 r_40 tab
  subst ne_7
  subst ne_40
  refine f18.l0_in ?_
  unfold f18.l0T
  refine split_dec_e e (fun c98 e => ?_) (fun c98 e => ?_)
  · obtain ⟨y1, g2, e⟩ := bind_e e
    refine r_40.addr rfl g2 fun a3 cs4 ha5 hc6 he7 => ?_
    refine ⟨_, ldAn O.s hc6 rfl, ?_⟩
    refine O.new fun h8 x9 O10 => ?_
    refine ⟨_, rfl, (T_api_Type.T.len _ _ _ he7), ?_⟩
    refine O10.stA 3 rfl (T_api_Type.T.len _ _ _ he7) (T_api_Type.T.flat _ _ _ he7) fun h12 O13 => ?_
    refine ⟨_, ld0 (Sub.refl _) (O13.all 3 rfl) (T_api_Type.g0 he7), _, rfl, ?_⟩
    refine split_ne_e e (fun c29 e => ?_) (fun c29 e => ?_)
    · have O14 := O13.nm
      cases e
      exact ⟨_, O14.pick [], rfl⟩
    · refine ⟨_, ldk (k := 1) (Sub.refl _) (O13.all 3 rfl) (T_api_Type.g1 he7), _, rfl, ?_⟩
      refine O13.new fun h15 x16 O17 => ?_
      obtain ⟨l19, g20, e⟩ := bind_e e
      have O27 := O17.rowE (l := ([y1.Name] : List ByteArray)) 4 rfl tell_str (show CsE _ _ _ _ _ from (CsE.cons (c1 := [(Value.string y1.Name)]) rfl rfl CsE.nil)) rfl
      refine O27.app 2 rfl rfl rfl ((O27.os 4 rfl).srcE rfl) (by decide) g20 fun A21 c22 h23 O24 => ?_
      refine ⟨_, _, _, rfl, ?_⟩
      have O28 := O24.nm
      exact (ih _ _ e) (O28.pick [0, 1, 2]).nm e_4 e_5 rfl rfl k_40 r_40 tab
  · obtain ⟨A30, c31, q32, k33, r34⟩ := T_api_Func.g1 e_4
    refine ⟨_, ldk (k := 1) (Sub.refl _) (O.all 0 rfl) q32, _, _, _, rfl, ?_⟩
    obtain ⟨A35, c36, q37, k38, r39⟩ := T_api_Func.g1 e_5
    refine ⟨_, ldk (k := 1) (Sub.refl _) (O.all 1 rfl) q37, _, _, _, rfl, ?_⟩
    refine O.new fun h40 x41 O42 => ?_
    refine ⟨x41, ?_⟩
    obtain ⟨y50, g51, e⟩ := bind_e e
    obtain ⟨m44, u45, ⟨r46, k47⟩, O48⟩ := O42.frz 2 rfl
    replace r46 : Rd 1 eStr m44 A_7 a_7 := r46
    have O49 := O48.rowE (l := ([a_7, y_5.Params] : List (List ByteArray))) 3 rfl (tell_row tell_str) (show CsE _ _ _ _ _ from (CsE.cons (c1 := [(Value.slice A_7 (List.length a_7) c_7)]) ⟨_, _, rfl, k47, r46⟩ rfl (CsE.cons (c1 := [(Value.slice A35 (List.length y_5.Params) c36)]) ⟨_, _, rfl, k38, (r39.sub tell_str u45)⟩ rfl CsE.nil))) rfl
    have O56 := O49.nm
    obtain ⟨m57, u58, s63, ⟨⟨r61, k62⟩, _⟩, B59, C60⟩ := O56.lend0 [3]
    replace r61 : Rd 1 (eRow 1 eStr) m57 (some ⟨(Array.size h), 0, none⟩) ([a_7, y_5.Params] : List (List ByteArray)) := r61
    replace k62 : List.length ([a_7, y_5.Params] : List (List ByteArray)) ≤ 2 := k62
    refine (slices_Concat_46.walk (Hold.start (W := No) s63) rfl k62 r61 g51).mono ?_
    rintro _ h52 ⟨m53, A64, n65, c66, Q54, rfl, ne67⟩
    have O69 := Hold.nm (C60 Q54 (vfs_cons (rR_vf (aE_vf (fun _ _ _ _ h => h))) vfs_nil))
    subst ne67
    refine ⟨_, _, _, rfl, ?_⟩
    refine ⟨(x41.trans Q54.S.ext), ?_⟩
    obtain ⟨y70, g71, e⟩ := bind_e e
    obtain ⟨m76, u77, s82, ⟨⟨r80, k81⟩, _⟩, B78, C79⟩ := O69.lend0 [4]
    replace r80 : Rd 1 eStr m76 A64 y50 := r80
    replace k81 : List.length y50 ≤ c66 := k81
    refine (slices_Equal_32.walk (Hold.start (W := No) s82) rfl k33 (r34.sub tell_str (u45.trans u77)) rfl k81 r80 g71).mono ?_
    rintro _ h72 ⟨m73, Q74, rfl⟩
    have O83 := Hold.nm (C79 Q74 vfs_nil)
    refine ⟨_, rfl, ?_⟩
    refine split_not ?_
    refine split_any_e e (fun c97 e => ?_) (fun c97 e => ?_)
    · obtain ⟨A84, c85, q86, k87, r88⟩ := T_api_Func.g1 e_4
      refine ⟨_, ldk (k := 1) (Sub.refl _) (O83.all 0 rfl) q86, _, _, _, rfl, ?_⟩
      obtain ⟨y89, g90, e⟩ := bind_e e
      refine (roadref2_doubled.walk (Hold.start (W := No) O83.s) rfl k87 (r88.sub tell_str u45) g90).mono ?_
      rintro _ h91 ⟨m92, Q93, rfl⟩
      have O95 := Hold.nm (O83.retC Q93 vfs_nil)
      refine ⟨_, rfl, ?_⟩
      refine split_any_e e (fun c96 e => ?_) (fun c96 e => ?_)
      · cases e
        exact ⟨_, O95.pick [], rfl⟩
      · exact roadref2_FitsErr.j1.walk (O95.pick [0, 1]).nm (T_api_Func.T.mono _ _ _ _ u45 e_4) (T_api_Func.T.mono _ _ _ _ u45 e_5) (TB.sub tab u45) e
    · cases e
      exact ⟨_, O83.pick [], rfl⟩
theorem roadref2_FitsErr.l0_k.all {p : roadref2_FitsErr.l0_k.Pt} {r : (Int)} (e : roadref2_FitsErr.l0_k.go p = some r) : roadref2_FitsErr.l0_k.I p r := fixF_ind (β := fun _ => (Int)) roadref2_FitsErr.l0_k.mono (I := roadref2_FitsErr.l0_k.I) (fun go ih p r e => match p with
  | .l0 y_4 y_5 a_7 a_40 x_41 x_42 => roadref2_FitsErr.l0_k.step_l0 go ih y_4 y_5 a_7 a_40 x_41 x_42 r e
  ) e
noncomputable def roadref2_FitsErr.j0 (y_4 : T_api_Func) (y_5 : T_api_Func) : Option (Int) :=
  Option.bind (gi y_4.Types (0 : Int)) fun y6 => (roadref2_FitsErr.l0 y_4 y_5 ([] : List ByteArray) y6.Args (((List.length y6.Args) : Nat) : Int) (0 : Int))
theorem roadref2_FitsErr.j0.walk {W h0 m0 h m bk_4 cs_4 bk_5 cs_5 y_4 y_5} (O : Hold W h0 m0 h m [rV bk_4 56 cs_4, rV bk_5 56 cs_5]) (e_4 : T_api_Func.E m y_4 cs_4) (e_5 : T_api_Func.E m y_5 cs_5) (tab : TB m) {r} (e : roadref2_FitsErr.j0 y_4 y_5 = some r) : f18.j0 (roadref2_FitsErr.post W h0 m0 r) (⟨bk_4, 0, none⟩ : Addr) (⟨bk_5, 0, none⟩ : Addr) h := by
  unfold roadref2_FitsErr.j0 at e
  refine f18.j0_in ?_
  unfold f18.j0T
  obtain ⟨A1, c2, q3, k4, r5⟩ := T_api_Func.g3 e_4
  refine ⟨_, ldk (k := 3) (Sub.refl _) (O.all 0 rfl) q3, _, _, _, rfl, ?_⟩
  obtain ⟨y6, g7, e⟩ := bind_e e
  refine r5.addr rfl g7 fun a8 cs9 ha10 hc11 he12 => ?_
  obtain ⟨A13, c14, q15, k16, r17⟩ := T_api_Type.g2 he12
  refine ⟨_, ldk (k := 2) O.s hc11 q15, _, _, _, rfl, ?_⟩
  have O18 := O.nil (aE tell_str) none
  have O20 := O18.nm
  exact (roadref2_FitsErr.l0_k.all e) (O20.pick [0, 1, 2]).nm e_4 e_5 rfl rfl k16 r17 tab
noncomputable def roadref2_FitsErr (y_0 : T_api_Impl) (y_1 : T_api_Func) (y_2 : T_api_Func) : Option (Int) :=
  if (((List.length y_1.Types) : Nat) : Int) = (((List.length y_2.Types) : Nat) : Int) then (if (((List.length y_1.Types) : Nat) : Int) = (0 : Int) then (some ((12 : Int))) else (Option.bind (gi y_1.Types (0 : Int)) fun y35 => Option.bind (roadref2_HeadOf y35) fun y42 => if y42 = y_0.For then ((roadref2_FitsErr.j0 y_1 y_2)) else (some ((12 : Int))))) else (some ((12 : Int)))
set_option maxHeartbeats 4000000 in
theorem roadref2_FitsErr.walk {W h m cs_0 cs_1 cs_2 y_0 y_1 y_2} (O : Hold W h m h m []) (e_0 : T_api_Impl.E m y_0 cs_0) (e_1 : T_api_Func.E m y_1 cs_1) (e_2 : T_api_Func.E m y_2 cs_2) (tab : TB m) {r} (e : roadref2_FitsErr y_0 y_1 y_2 = some r) : Run Tryd.prog 18 #[Value.agg cs_0.toArray, Value.agg cs_1.toArray, Value.agg cs_2.toArray] h (roadref2_FitsErr.post W h m r) := by
  unfold roadref2_FitsErr at e
  refine f18.run ?_
  unfold f18.runT
  refine O.new fun h1 x2 O3 => ?_
  refine O3.new fun h5 x6 O7 => ?_
  refine O7.new fun h9 x10 O11 => ?_
  obtain ⟨A13, c14, q15, k16, r17⟩ := T_api_Func.g3 e_1
  refine ⟨_, ldk (k := 3) (Sub.refl _) (O11.all 1 rfl) q15, _, _, _, rfl, ?_⟩
  obtain ⟨A18, c19, q20, k21, r22⟩ := T_api_Func.g3 e_2
  refine ⟨_, ldk (k := 3) (Sub.refl _) (O11.all 2 rfl) q20, _, _, _, rfl, ?_⟩
  refine split_ne_e e (fun c51 e => ?_) (fun c51 e => ?_)
  · refine ⟨(Ext.refl _), ?_⟩
    have O23 := O11.nm
    cases e
    exact ⟨_, O23.pick [], rfl⟩
  · obtain ⟨A24, c25, q26, k27, r28⟩ := T_api_Func.g3 e_1
    refine ⟨_, ldk (k := 3) (Sub.refl _) (O11.all 1 rfl) q26, _, _, _, rfl, ?_⟩
    refine split_eq_e e (fun c50 e => ?_) (fun c50 e => ?_)
    · refine ⟨(Ext.refl _), ?_⟩
      have O29 := O11.nm
      cases e
      exact ⟨_, O29.pick [], rfl⟩
    · obtain ⟨A30, c31, q32, k33, r34⟩ := T_api_Func.g3 e_1
      refine ⟨_, ldk (k := 3) (Sub.refl _) (O11.all 1 rfl) q32, _, _, _, rfl, ?_⟩
      obtain ⟨y35, g36, e⟩ := bind_e e
      refine r34.addr rfl g36 fun a37 cs38 ha39 hc40 he41 => ?_
      refine ⟨_, ldAn O11.s hc40 rfl, ?_⟩
      refine ⟨_, ldk (k := 1) (Sub.refl _) (O11.all 0 rfl) (T_api_Impl.g1 e_0), _, rfl, ?_⟩
      obtain ⟨y42, g43, e⟩ := bind_e e
      refine (roadref2_HeadOf.walk (Hold.start (W := No) O11.s) he41 tab g43).mono ?_
      rintro _ h44 ⟨m45, Q46, rfl⟩
      have O48 := Hold.nm (O11.retC Q46 vfs_nil)
      refine ⟨_, rfl, ?_⟩
      refine ⟨Q46.S.ext, ?_⟩
      try rw [ba_list y42 y_0.For]
      refine split_not ?_
      refine split_dec_e e (fun c49 e => ?_) (fun c49 e => ?_)
      · exact roadref2_FitsErr.j0.walk (O48.pick [1, 2]).nm e_1 e_2 tab e
      · cases e
        exact ⟨_, O48.pick [], rfl⟩
def roadref2_TraitsOf_1.post (W : Nat → Prop) (h0 m0 : Heap) (r : Bool) (v : Value) (h : Heap) : Prop := ∃ m , Hold W h0 m0 h m [] ∧ v = .bool r
noncomputable def roadref2_TraitsOf_1 (y_0 : T_api_Trait) (y_1 : T_api_Impl) : Option (Bool) :=
  some ((decide (y_0.Name = y_1.Trait)))
theorem roadref2_TraitsOf_1.walk {W h m cs_0 bk_1 y_0 y_1} (O : Hold W h m h m []) (e_0 : T_api_Trait.E m y_0 cs_0) (v_1 : VB T_api_Impl.E m bk_1 y_1) {r} (e : roadref2_TraitsOf_1 y_0 y_1 = some r) : Run Tryd.prog 36 #[Value.agg cs_0.toArray, Value.pointer (some ⟨bk_1, 0, none⟩)] h (roadref2_TraitsOf_1.post W h m r) := by
  unfold roadref2_TraitsOf_1 at e
  obtain ⟨cs_1, t_1, hb_1, nn_1, e_1⟩ := id v_1
  refine f36.run ?_
  unfold f36.runT
  refine O.new fun h1 x2 O3 => ?_
  refine ⟨_, ld0 (Sub.refl _) (O3.all 0 rfl) (T_api_Trait.g0 e_0), _, rfl, ?_⟩
  refine ⟨_, ld0 O3.s (Blk.all' hb_1) (T_api_Impl.g0 e_1), _, rfl, ?_⟩
  try rw [ba_list y_0.Name y_1.Trait]
  have O5 := O3.nm
  cases e
  exact ⟨_, O5.pick [], rfl⟩
def slices_IndexFunc_64.post (W : Nat → Prop) (h0 m0 : Heap) (r : Int) (v : Value) (h : Heap) : Prop := ∃ m , Hold W h0 m0 h m [] ∧ v = .int .i64 r
inductive slices_IndexFunc_64.l0_k.Pt where
  | l0 (a_0 : List T_api_Data) (p_1 : T_api_Data → Option Bool) (x_7 : Int) (x_8 : Int)
noncomputable def slices_IndexFunc_64.l0_k.body (go : (p : slices_IndexFunc_64.l0_k.Pt) → Option (Int)) : (p : slices_IndexFunc_64.l0_k.Pt) → Option (Int)
  | .l0 a_0 p_1 x_7 x_8 => if x_8 < x_7 then (Option.bind (gi a_0 x_8) fun y1 => Option.bind (p_1 y1) fun y8 => if y8 = true then (some (x_8)) else ((go (.l0 a_0 p_1 x_7 (IntKind.wrap .i64 (x_8 + (1 : Int))))))) else (some ((-1 : Int)))
theorem slices_IndexFunc_64.l0_k.mono : MonoF (β := fun _ => (Int)) slices_IndexFunc_64.l0_k.body := fun f g hfg p => match p with
  | .l0 a_0 p_1 x_7 x_8 => LeO.ite (LeO.bind (LeO.refl _) fun y1 => LeO.bind (LeO.refl _) fun y8 => LeO.ite (LeO.refl _) ((hfg _))) (LeO.refl _)
noncomputable def slices_IndexFunc_64.l0_k.go (p : slices_IndexFunc_64.l0_k.Pt) : Option (Int) := fixF (β := fun _ => (Int)) slices_IndexFunc_64.l0_k.body p
noncomputable def slices_IndexFunc_64.l0 (a_0 p_1 x_7 x_8) := slices_IndexFunc_64.l0_k.go (.l0 a_0 p_1 x_7 x_8)
theorem slices_IndexFunc_64.l0_eq (a_0 p_1 x_7 x_8) : slices_IndexFunc_64.l0 a_0 p_1 x_7 x_8 = if x_8 < x_7 then (Option.bind (gi a_0 x_8) fun y1 => Option.bind (p_1 y1) fun y8 => if y8 = true then (some (x_8)) else ((slices_IndexFunc_64.l0 a_0 p_1 x_7 (IntKind.wrap .i64 (x_8 + (1 : Int)))))) else (some ((-1 : Int))) := fixF_eq slices_IndexFunc_64.l0_k.mono _
def slices_IndexFunc_64.l0_k.I : (p : slices_IndexFunc_64.l0_k.Pt) → (Int) → Prop
  | .l0 a_0 p_1 x_7 x_8, r => ∀ {W h0 m0 h m A_0 n_0 c_0 fv_1} (O : Hold W h0 m0 h m []) (ne_0 : n_0 = List.length a_0) (k_0 : List.length a_0 ≤ c_0) (r_0 : Rd 3 T_api_Data.E m A_0 a_0) (f_1 : ∀ h' m', Sub m0 m' → Sub m' h' → ∀ (y0 : T_api_Data) (cs0 : List Value) (_ : T_api_Data.E m' y0 cs0) (r : Bool), p_1 y0 = some r → CallF Tryd.prog fv_1 [.agg cs0.toArray] h' (fun v h'' => v = .bool r ∧ Ext h' h'')), f64.l0 (slices_IndexFunc_64.post W h0 m0 r) A_0 n_0 c_0 fv_1 x_7 x_8 h
theorem slices_IndexFunc_64.l0_k.step_l0 (go : (p : slices_IndexFunc_64.l0_k.Pt) → Option (Int)) (ih : ∀ p r, go p = some r → slices_IndexFunc_64.l0_k.I p r) (a_0 p_1 x_7 x_8) (r) (e : slices_IndexFunc_64.l0_k.body go (.l0 a_0 p_1 x_7 x_8) = some r) : slices_IndexFunc_64.l0_k.I (.l0 a_0 p_1 x_7 x_8) r := by
  unfold slices_IndexFunc_64.l0_k.body at e
  intro W h0 m0 h m A_0 n_0 c_0 fv_1 O ne_0 k_0 r_0 f_1
  subst ne_0
  refine f64.l0_in ?_
  unfold f64.l0T
  refine split_dec_e e (fun c14 e => ?_) (fun c14 e => ?_)
  · obtain ⟨y1, g2, e⟩ := bind_e e
    refine r_0.addr rfl g2 fun a3 cs4 ha5 hc6 he7 => ?_
    refine ⟨_, ldAn O.s hc6 rfl, ?_⟩
    obtain ⟨y8, g9, e⟩ := bind_e e
    refine CallF.mono (f_1 _ _ O.up O.s _ _ he7 _ g9) ?_
    rintro _ h10 ⟨rfl, x11⟩
    have O12 := O.ext x11
    refine ⟨_, rfl, ?_⟩
    refine split_any_e e (fun c13 e => ?_) (fun c13 e => ?_)
    · cases e
      exact ⟨_, O12.pick [], rfl⟩
    · exact (ih _ _ e) (O12.pick []).nm rfl k_0 r_0 f_1
  · cases e
    exact ⟨_, O.pick [], rfl⟩
theorem slices_IndexFunc_64.l0_k.all {p : slices_IndexFunc_64.l0_k.Pt} {r : (Int)} (e : slices_IndexFunc_64.l0_k.go p = some r) : slices_IndexFunc_64.l0_k.I p r := fixF_ind (β := fun _ => (Int)) slices_IndexFunc_64.l0_k.mono (I := slices_IndexFunc_64.l0_k.I) (fun go ih p r e => match p with
  | .l0 a_0 p_1 x_7 x_8 => slices_IndexFunc_64.l0_k.step_l0 go ih a_0 p_1 x_7 x_8 r e
  ) e
noncomputable def slices_IndexFunc_64 (a_0 : List T_api_Data) (p_1 : T_api_Data → Option Bool) : Option (Int) :=
  (slices_IndexFunc_64.l0 a_0 p_1 (((List.length a_0) : Nat) : Int) (0 : Int))
theorem slices_IndexFunc_64.walk {p_1 : T_api_Data → Option Bool} {W h m A_0 n_0 c_0 fv_1 a_0} (O : Hold W h m h m []) (ne_0 : n_0 = List.length a_0) (k_0 : List.length a_0 ≤ c_0) (r_0 : Rd 3 T_api_Data.E m A_0 a_0) (f_1 : ∀ h' m', Sub m m' → Sub m' h' → ∀ (y0 : T_api_Data) (cs0 : List Value) (_ : T_api_Data.E m' y0 cs0) (r : Bool), p_1 y0 = some r → CallF Tryd.prog fv_1 [.agg cs0.toArray] h' (fun v h'' => v = .bool r ∧ Ext h' h'')) {r} (e : slices_IndexFunc_64 a_0 p_1 = some r) : Run Tryd.prog 64 #[Value.slice A_0 n_0 c_0, fv_1] h (slices_IndexFunc_64.post W h m r) := by
  unfold slices_IndexFunc_64 at e
  subst ne_0
  refine f64.run ?_
  unfold f64.runT
  exact (slices_IndexFunc_64.l0_k.all e) (O.pick []).nm rfl k_0 r_0 f_1
def roadref2_dataOf_1.post (W : Nat → Prop) (h0 m0 : Heap) (r : Bool) (v : Value) (h : Heap) : Prop := ∃ m , Hold W h0 m0 h m [] ∧ v = .bool r
noncomputable def roadref2_dataOf_1 (y_0 : T_api_Data) (y_1 : ByteArray) : Option (Bool) :=
  some ((decide (y_0.Name = y_1)))
theorem roadref2_dataOf_1.walk {W h m cs_0 bk_1 y_0 y_1} (O : Hold W h m h m []) (e_0 : T_api_Data.E m y_0 cs_0) (v_1 : VB eStr m bk_1 y_1) {r} (e : roadref2_dataOf_1 y_0 y_1 = some r) : Run Tryd.prog 65 #[Value.agg cs_0.toArray, Value.pointer (some ⟨bk_1, 0, none⟩)] h (roadref2_dataOf_1.post W h m r) := by
  unfold roadref2_dataOf_1 at e
  obtain ⟨cs_1, t_1, hb_1, nn_1, e_1⟩ := id v_1
  obtain rfl : cs_1 = [(Value.string y_1)] := e_1
  refine f65.run ?_
  unfold f65.runT
  refine O.new fun h1 x2 O3 => ?_
  refine ⟨_, ld0 (Sub.refl _) (O3.all 0 rfl) (T_api_Data.g0 e_0), _, rfl, ?_⟩
  refine ⟨_, ld0 O3.s (Blk.all' hb_1) rfl, _, rfl, ?_⟩
  try rw [ba_list y_0.Name y_1]
  have O5 := O3.nm
  cases e
  exact ⟨_, O5.pick [], rfl⟩
def roadref2_dataOf.post (W : Nat → Prop) (h0 m0 : Heap) (r : Int) (v : Value) (h : Heap) : Prop := ∃ m , Hold W h0 m0 h m [] ∧ v = .int .i64 r
noncomputable def roadref2_dataOf (y_0 : T_api_Program) (s_1 : ByteArray) : Option (Int) :=
  Option.bind (slices_IndexFunc_64 y_0.Datas (fun z27 => roadref2_dataOf_1 z27 s_1)) fun y14 => some (y14)
theorem roadref2_dataOf.walk {W h m cs_0 y_0 s_1} (O : Hold W h m h m []) (e_0 : T_api_Program.E m y_0 cs_0) {r} (e : roadref2_dataOf y_0 s_1 = some r) : Run Tryd.prog 37 #[Value.agg cs_0.toArray, Value.string s_1] h (roadref2_dataOf.post W h m r) := by
  unfold roadref2_dataOf at e
  refine f37.run ?_
  unfold f37.runT
  refine O.new fun h1 x2 O3 => ?_
  refine O3.new fun h5 x6 O7 => ?_
  obtain ⟨A9, c10, q11, k12, r13⟩ := T_api_Program.g3 e_0
  refine ⟨_, ldk (k := 3) (Sub.refl _) (O7.all 0 rfl) q11, _, _, _, rfl, ?_⟩
  obtain ⟨y14, g15, e⟩ := bind_e e
  have O20 := O7.nm
  obtain ⟨m21, u22, s26, ⟨hb25, _⟩, B23, C24⟩ := O20.lend0 [1]
  refine (slices_IndexFunc_64.walk (Hold.start (W := No) s26) rfl k12 (r13.sub T_api_Data.T u22) (fun h28 m29 u30 s31 y34 cs34 he34 r32 e33 => CallF.of [Value.agg cs34.toArray, Value.pointer (some ⟨(Array.size h1), 0, none⟩)] f65.ok rfl ((roadref2_dataOf_1.walk (Hold.start (W := No) s31) he34 (VB.sub (show VB eStr _ _ _ from ⟨_, _, hb25, nn, rfl⟩) tell_str u30) e33).mono (fun _ _ h => let ⟨_, t, e⟩ := h; ⟨e, t.S.ext⟩))) g15).mono ?_
  rintro _ h16 ⟨m17, Q18, rfl⟩
  have O35 := Hold.nm (C24 Q18 vfs_nil)
  refine ⟨_, rfl, ?_⟩
  cases e
  exact ⟨_, O35.pick [], rfl⟩
def roadref2_TraitsOf.post (W : Nat → Prop) (h0 m0 : Heap) (r : Int) (v : Value) (h : Heap) : Prop := ∃ m , Hold W h0 m0 h m [] ∧ v = .int .i64 r
inductive roadref2_TraitsOf.l1_k.Pt where
  | l1 (y_1 : T_api_Program) (a_30 : List T_api_Impl) (x_31 : Int) (x_32 : Int)
  | j0 (y_1 : T_api_Program) (x_6 : Int) (y_7 : T_api_Impl) (x_8 : Int) (b_9 : Bool) (a_30 : List T_api_Impl) (x_31 : Int) (x_32 : Int)
  | l2 (y_1 : T_api_Program) (y_7 : T_api_Impl) (x_8 : Int) (b_9 : Bool) (a_30 : List T_api_Impl) (x_31 : Int) (x_32 : Int) (a_62 : List T_api_Impl) (x_63 : Int) (x_64 : Int)
  | j1 (y_1 : T_api_Program) (y_7 : T_api_Impl) (x_8 : Int) (a_30 : List T_api_Impl) (x_31 : Int) (x_32 : Int)
  | l3 (y_1 : T_api_Program) (y_7 : T_api_Impl) (a_12 : List T_api_Func) (a_30 : List T_api_Impl) (x_31 : Int) (x_32 : Int) (a_107 : List T_api_Func) (x_108 : Int) (x_109 : Int)
noncomputable def roadref2_TraitsOf.l1_k.body (go : (p : roadref2_TraitsOf.l1_k.Pt) → Option (Int)) : (p : roadref2_TraitsOf.l1_k.Pt) → Option (Int)
  | .l1 y_1 a_30 x_31 x_32 => if x_32 < x_31 then (Option.bind (gi a_30 x_32) fun y1 => Option.bind (slices_IndexFunc_8 y_1.Traits (fun z32 => roadref2_TraitsOf_1 z32 y1)) fun y19 => if y1.For = (ByteArray.mk #[105, 110, 116]) then ((go (.j0 y_1 x_32 y1 y19 true a_30 x_31 x_32))) else (if y1.For = (ByteArray.mk #[98, 111, 111, 108]) then ((go (.j0 y_1 x_32 y1 y19 true a_30 x_31 x_32))) else (if y1.For = (ByteArray.mk #[116, 101, 120, 116]) then ((go (.j0 y_1 x_32 y1 y19 true a_30 x_31 x_32))) else ((go (.j0 y_1 x_32 y1 y19 (decide (y1.For = (ByteArray.mk #[117, 110, 105, 116]))) a_30 x_31 x_32)))))) else (some ((0 : Int)))
  | .j0 y_1 x_6 y_7 x_8 b_9 a_30 x_31 x_32 => Option.bind (sls y_1.Impls (0 : Int) x_6) fun l6 => (go (.l2 y_1 y_7 x_8 b_9 a_30 x_31 x_32 l6 (((List.length l6) : Nat) : Int) (0 : Int)))
  | .l2 y_1 y_7 x_8 b_9 a_30 x_31 x_32 a_62 x_63 x_64 => if x_64 < x_63 then (Option.bind (gi a_62 x_64) fun y1 => if y1.Trait = y_7.Trait then (if y1.For = y_7.For then (some ((5 : Int))) else ((go (.l2 y_1 y_7 x_8 b_9 a_30 x_31 x_32 a_62 x_63 (IntKind.wrap .i64 (x_64 + (1 : Int))))))) else ((go (.l2 y_1 y_7 x_8 b_9 a_30 x_31 x_32 a_62 x_63 (IntKind.wrap .i64 (x_64 + (1 : Int))))))) else (if x_8 < (0 : Int) then (some ((11 : Int))) else (Option.bind (roadref2_dataOf y_1 y_7.For) fun y19 => if y19 < (0 : Int) then (if b_9 = true then ((go (.j1 y_1 y_7 x_8 a_30 x_31 x_32))) else (some ((11 : Int)))) else ((go (.j1 y_1 y_7 x_8 a_30 x_31 x_32)))))
  | .j1 y_1 y_7 x_8 a_30 x_31 x_32 => Option.bind (gi y_1.Traits x_8) fun y6 => if (((List.length y6.Funcs) : Nat) : Int) = (((List.length y_7.Funcs) : Nat) : Int) then ((go (.l3 y_1 y_7 y6.Funcs a_30 x_31 x_32 y_7.Funcs (((List.length y_7.Funcs) : Nat) : Int) (0 : Int)))) else (some ((16 : Int)))
  | .l3 y_1 y_7 a_12 a_30 x_31 x_32 a_107 x_108 x_109 => if x_109 < x_108 then (Option.bind (gi a_107 x_109) fun y1 => Option.bind (gi a_12 x_109) fun y14 => if y1.Name = y14.Name then (Option.bind (gi a_12 x_109) fun y21 => Option.bind (roadref2_FitsErr y_7 y1 y21) fun y28 => if y28 = (0 : Int) then ((go (.l3 y_1 y_7 a_12 a_30 x_31 x_32 a_107 x_108 (IntKind.wrap .i64 (x_109 + (1 : Int)))))) else (some (y28))) else (some ((16 : Int)))) else ((go (.l1 y_1 a_30 x_31 (IntKind.wrap .i64 (x_32 + (1 : Int))))))
attribute [local irreducible] roadref2_TraitsOf_1 in
theorem roadref2_TraitsOf.l1_k.mono : MonoF (β := fun _ => (Int)) roadref2_TraitsOf.l1_k.body := fun f g hfg p => match p with
  | .l1 y_1 a_30 x_31 x_32 => LeO.ite (LeO.bind (LeO.refl _) fun y1 => LeO.bind (LeO.refl _) fun y19 => LeO.ite ((hfg _)) (LeO.ite ((hfg _)) (LeO.ite ((hfg _)) ((hfg _))))) (LeO.refl _)
  | .j0 y_1 x_6 y_7 x_8 b_9 a_30 x_31 x_32 => LeO.bind (LeO.refl _) fun l6 => (hfg _)
  | .l2 y_1 y_7 x_8 b_9 a_30 x_31 x_32 a_62 x_63 x_64 => LeO.ite (LeO.bind (LeO.refl _) fun y1 => LeO.ite (LeO.ite (LeO.refl _) ((hfg _))) ((hfg _))) (LeO.ite (LeO.refl _) (LeO.bind (LeO.refl _) fun y19 => LeO.ite (LeO.ite ((hfg _)) (LeO.refl _)) ((hfg _))))
  | .j1 y_1 y_7 x_8 a_30 x_31 x_32 => LeO.bind (LeO.refl _) fun y6 => LeO.ite ((hfg _)) (LeO.refl _)
  | .l3 y_1 y_7 a_12 a_30 x_31 x_32 a_107 x_108 x_109 => LeO.ite (LeO.bind (LeO.refl _) fun y1 => LeO.bind (LeO.refl _) fun y14 => LeO.ite (LeO.bind (LeO.refl _) fun y21 => LeO.bind (LeO.refl _) fun y28 => LeO.ite ((hfg _)) (LeO.refl _)) (LeO.refl _)) ((hfg _))
noncomputable def roadref2_TraitsOf.l1_k.go (p : roadref2_TraitsOf.l1_k.Pt) : Option (Int) := fixF (β := fun _ => (Int)) roadref2_TraitsOf.l1_k.body p
noncomputable def roadref2_TraitsOf.l1 (y_1 a_30 x_31 x_32) := roadref2_TraitsOf.l1_k.go (.l1 y_1 a_30 x_31 x_32)
noncomputable def roadref2_TraitsOf.j0 (y_1 x_6 y_7 x_8 b_9 a_30 x_31 x_32) := roadref2_TraitsOf.l1_k.go (.j0 y_1 x_6 y_7 x_8 b_9 a_30 x_31 x_32)
noncomputable def roadref2_TraitsOf.l2 (y_1 y_7 x_8 b_9 a_30 x_31 x_32 a_62 x_63 x_64) := roadref2_TraitsOf.l1_k.go (.l2 y_1 y_7 x_8 b_9 a_30 x_31 x_32 a_62 x_63 x_64)
noncomputable def roadref2_TraitsOf.j1 (y_1 y_7 x_8 a_30 x_31 x_32) := roadref2_TraitsOf.l1_k.go (.j1 y_1 y_7 x_8 a_30 x_31 x_32)
noncomputable def roadref2_TraitsOf.l3 (y_1 y_7 a_12 a_30 x_31 x_32 a_107 x_108 x_109) := roadref2_TraitsOf.l1_k.go (.l3 y_1 y_7 a_12 a_30 x_31 x_32 a_107 x_108 x_109)
theorem roadref2_TraitsOf.l1_eq (y_1 a_30 x_31 x_32) : roadref2_TraitsOf.l1 y_1 a_30 x_31 x_32 = if x_32 < x_31 then (Option.bind (gi a_30 x_32) fun y1 => Option.bind (slices_IndexFunc_8 y_1.Traits (fun z32 => roadref2_TraitsOf_1 z32 y1)) fun y19 => if y1.For = (ByteArray.mk #[105, 110, 116]) then ((roadref2_TraitsOf.j0 y_1 x_32 y1 y19 true a_30 x_31 x_32)) else (if y1.For = (ByteArray.mk #[98, 111, 111, 108]) then ((roadref2_TraitsOf.j0 y_1 x_32 y1 y19 true a_30 x_31 x_32)) else (if y1.For = (ByteArray.mk #[116, 101, 120, 116]) then ((roadref2_TraitsOf.j0 y_1 x_32 y1 y19 true a_30 x_31 x_32)) else ((roadref2_TraitsOf.j0 y_1 x_32 y1 y19 (decide (y1.For = (ByteArray.mk #[117, 110, 105, 116]))) a_30 x_31 x_32))))) else (some ((0 : Int))) := fixF_eq roadref2_TraitsOf.l1_k.mono _
theorem roadref2_TraitsOf.j0_eq (y_1 x_6 y_7 x_8 b_9 a_30 x_31 x_32) : roadref2_TraitsOf.j0 y_1 x_6 y_7 x_8 b_9 a_30 x_31 x_32 = Option.bind (sls y_1.Impls (0 : Int) x_6) fun l6 => (roadref2_TraitsOf.l2 y_1 y_7 x_8 b_9 a_30 x_31 x_32 l6 (((List.length l6) : Nat) : Int) (0 : Int)) := fixF_eq roadref2_TraitsOf.l1_k.mono _
theorem roadref2_TraitsOf.l2_eq (y_1 y_7 x_8 b_9 a_30 x_31 x_32 a_62 x_63 x_64) : roadref2_TraitsOf.l2 y_1 y_7 x_8 b_9 a_30 x_31 x_32 a_62 x_63 x_64 = if x_64 < x_63 then (Option.bind (gi a_62 x_64) fun y1 => if y1.Trait = y_7.Trait then (if y1.For = y_7.For then (some ((5 : Int))) else ((roadref2_TraitsOf.l2 y_1 y_7 x_8 b_9 a_30 x_31 x_32 a_62 x_63 (IntKind.wrap .i64 (x_64 + (1 : Int)))))) else ((roadref2_TraitsOf.l2 y_1 y_7 x_8 b_9 a_30 x_31 x_32 a_62 x_63 (IntKind.wrap .i64 (x_64 + (1 : Int)))))) else (if x_8 < (0 : Int) then (some ((11 : Int))) else (Option.bind (roadref2_dataOf y_1 y_7.For) fun y19 => if y19 < (0 : Int) then (if b_9 = true then ((roadref2_TraitsOf.j1 y_1 y_7 x_8 a_30 x_31 x_32)) else (some ((11 : Int)))) else ((roadref2_TraitsOf.j1 y_1 y_7 x_8 a_30 x_31 x_32)))) := fixF_eq roadref2_TraitsOf.l1_k.mono _
theorem roadref2_TraitsOf.j1_eq (y_1 y_7 x_8 a_30 x_31 x_32) : roadref2_TraitsOf.j1 y_1 y_7 x_8 a_30 x_31 x_32 = Option.bind (gi y_1.Traits x_8) fun y6 => if (((List.length y6.Funcs) : Nat) : Int) = (((List.length y_7.Funcs) : Nat) : Int) then ((roadref2_TraitsOf.l3 y_1 y_7 y6.Funcs a_30 x_31 x_32 y_7.Funcs (((List.length y_7.Funcs) : Nat) : Int) (0 : Int))) else (some ((16 : Int))) := fixF_eq roadref2_TraitsOf.l1_k.mono _
theorem roadref2_TraitsOf.l3_eq (y_1 y_7 a_12 a_30 x_31 x_32 a_107 x_108 x_109) : roadref2_TraitsOf.l3 y_1 y_7 a_12 a_30 x_31 x_32 a_107 x_108 x_109 = if x_109 < x_108 then (Option.bind (gi a_107 x_109) fun y1 => Option.bind (gi a_12 x_109) fun y14 => if y1.Name = y14.Name then (Option.bind (gi a_12 x_109) fun y21 => Option.bind (roadref2_FitsErr y_7 y1 y21) fun y28 => if y28 = (0 : Int) then ((roadref2_TraitsOf.l3 y_1 y_7 a_12 a_30 x_31 x_32 a_107 x_108 (IntKind.wrap .i64 (x_109 + (1 : Int))))) else (some (y28))) else (some ((16 : Int)))) else ((roadref2_TraitsOf.l1 y_1 a_30 x_31 (IntKind.wrap .i64 (x_32 + (1 : Int))))) := fixF_eq roadref2_TraitsOf.l1_k.mono _
def roadref2_TraitsOf.l1_k.I : (p : roadref2_TraitsOf.l1_k.Pt) → (Int) → Prop
  | .l1 y_1 a_30 x_31 x_32, r => ∀ {W h0 m0 h m bk_1 cs_1 A_30 n_30 c_30} (O : Hold W h0 m0 h m [rV bk_1 29 cs_1]) (e_1 : T_api_Program.E m y_1 cs_1) (ne_30 : n_30 = List.length a_30) (k_30 : List.length a_30 ≤ c_30) (r_30 : Rd 3 T_api_Impl.E m A_30 a_30) (tab : TB m), f7.l1 (roadref2_TraitsOf.post W h0 m0 r) (⟨bk_1, 0, none⟩ : Addr) A_30 n_30 c_30 x_31 x_32 h
  | .j0 y_1 x_6 y_7 x_8 b_9 a_30 x_31 x_32, r => ∀ {W h0 m0 h m bk_1 cs_1 bk_7 cs_7 A_30 n_30 c_30} (O : Hold W h0 m0 h m [rV bk_1 29 cs_1, rV bk_7 45 cs_7]) (e_1 : T_api_Program.E m y_1 cs_1) (e_7 : T_api_Impl.E m y_7 cs_7) (ne_30 : n_30 = List.length a_30) (k_30 : List.length a_30 ≤ c_30) (r_30 : Rd 3 T_api_Impl.E m A_30 a_30) (tab : TB m), f7.j0 (roadref2_TraitsOf.post W h0 m0 r) (⟨bk_1, 0, none⟩ : Addr) x_6 (⟨bk_7, 0, none⟩ : Addr) x_8 b_9 A_30 n_30 c_30 x_31 x_32 h
  | .l2 y_1 y_7 x_8 b_9 a_30 x_31 x_32 a_62 x_63 x_64, r => ∀ {W h0 m0 h m bk_1 cs_1 bk_7 cs_7 A_30 n_30 c_30 A_62 n_62 c_62} (O : Hold W h0 m0 h m [rV bk_1 29 cs_1, rV bk_7 45 cs_7]) (e_1 : T_api_Program.E m y_1 cs_1) (e_7 : T_api_Impl.E m y_7 cs_7) (ne_30 : n_30 = List.length a_30) (k_30 : List.length a_30 ≤ c_30) (r_30 : Rd 3 T_api_Impl.E m A_30 a_30) (ne_62 : n_62 = List.length a_62) (k_62 : List.length a_62 ≤ c_62) (r_62 : Rd 3 T_api_Impl.E m A_62 a_62) (tab : TB m), f7.l2 (roadref2_TraitsOf.post W h0 m0 r) (⟨bk_1, 0, none⟩ : Addr) (⟨bk_7, 0, none⟩ : Addr) x_8 b_9 A_30 n_30 c_30 x_31 x_32 A_62 n_62 c_62 x_63 x_64 h
  | .j1 y_1 y_7 x_8 a_30 x_31 x_32, r => ∀ {W h0 m0 h m bk_1 cs_1 bk_7 cs_7 A_30 n_30 c_30} (O : Hold W h0 m0 h m [rV bk_1 29 cs_1, rV bk_7 45 cs_7]) (e_1 : T_api_Program.E m y_1 cs_1) (e_7 : T_api_Impl.E m y_7 cs_7) (ne_30 : n_30 = List.length a_30) (k_30 : List.length a_30 ≤ c_30) (r_30 : Rd 3 T_api_Impl.E m A_30 a_30) (tab : TB m), f7.j1 (roadref2_TraitsOf.post W h0 m0 r) (⟨bk_1, 0, none⟩ : Addr) (⟨bk_7, 0, none⟩ : Addr) x_8 A_30 n_30 c_30 x_31 x_32 h
  | .l3 y_1 y_7 a_12 a_30 x_31 x_32 a_107 x_108 x_109, r => ∀ {W h0 m0 h m bk_1 cs_1 bk_7 cs_7 A_12 n_12 c_12 A_30 n_30 c_30 A_107 n_107 c_107} (O : Hold W h0 m0 h m [rV bk_1 29 cs_1, rV bk_7 45 cs_7]) (e_1 : T_api_Program.E m y_1 cs_1) (e_7 : T_api_Impl.E m y_7 cs_7) (ne_12 : n_12 = List.length a_12) (k_12 : List.length a_12 ≤ c_12) (r_12 : Rd 15 T_api_Func.E m A_12 a_12) (ne_30 : n_30 = List.length a_30) (k_30 : List.length a_30 ≤ c_30) (r_30 : Rd 3 T_api_Impl.E m A_30 a_30) (ne_107 : n_107 = List.length a_107) (k_107 : List.length a_107 ≤ c_107) (r_107 : Rd 15 T_api_Func.E m A_107 a_107) (tab : TB m), f7.l3 (roadref2_TraitsOf.post W h0 m0 r) (⟨bk_1, 0, none⟩ : Addr) (⟨bk_7, 0, none⟩ : Addr) A_12 n_12 c_12 A_30 n_30 c_30 x_31 x_32 A_107 n_107 c_107 x_108 x_109 h
set_option maxHeartbeats 4000000 in
theorem roadref2_TraitsOf.l1_k.step_l1 (go : (p : roadref2_TraitsOf.l1_k.Pt) → Option (Int)) (ih : ∀ p r, go p = some r → roadref2_TraitsOf.l1_k.I p r) (y_1 a_30 x_31 x_32) (r) (e : roadref2_TraitsOf.l1_k.body go (.l1 y_1 a_30 x_31 x_32) = some r) : roadref2_TraitsOf.l1_k.I (.l1 y_1 a_30 x_31 x_32) r := by
  unfold roadref2_TraitsOf.l1_k.body at e
  intro W h0 m0 h m bk_1 cs_1 A_30 n_30 c_30 O e_1 ne_30 k_30 r_30 tab
  subst ne_30
  refine f7.l1_in ?_
  unfold f7.l1T
  refine split_dec_e e (fun c44 e => ?_) (fun c44 e => ?_)
  · obtain ⟨y1, g2, e⟩ := bind_e e
    refine r_30.addr rfl g2 fun a3 cs4 ha5 hc6 he7 => ?_
    refine ⟨_, ldAn O.s hc6 rfl, ?_⟩
    refine O.new fun h8 x9 O10 => ?_
    refine ⟨_, rfl, (T_api_Impl.T.len _ _ _ he7), ?_⟩
    refine O10.stA 1 rfl (T_api_Impl.T.len _ _ _ he7) (T_api_Impl.T.flat _ _ _ he7) fun h12 O13 => ?_
    obtain ⟨A14, c15, q16, k17, r18⟩ := T_api_Program.g4 e_1
    refine ⟨_, ldk (k := 4) (Sub.refl _) (O13.all 0 rfl) q16, _, _, _, rfl, ?_⟩
    obtain ⟨y19, g20, e⟩ := bind_e e
    have O25 := O13.nm
    obtain ⟨m26, u27, s31, ⟨hb30, _⟩, B28, C29⟩ := O25.lend0 [1]
    refine (slices_IndexFunc_8.walk (Hold.start (W := No) s31) rfl k17 (r18.sub T_api_Trait.T u27) (fun h33 m34 u35 s36 y39 cs39 he39 r37 e38 => CallF.of [Value.agg cs39.toArray, Value.pointer (some ⟨(Array.size h), 0, none⟩)] f36.ok rfl ((roadref2_TraitsOf_1.walk (Hold.start (W := No) s36) he39 (VB.sub (show VB T_api_Impl.E _ _ _ from ⟨_, _, hb30, nn_len (T_api_Impl.T.len _ _ _ he7), (T_api_Impl.T.mono _ _ _ _ u27 he7)⟩) T_api_Impl.T u35) e38).mono (fun _ _ h => let ⟨_, t, e⟩ := h; ⟨e, t.S.ext⟩))) g20).mono ?_
    rintro _ h21 ⟨m22, Q23, rfl⟩
    have O40 := Hold.nm (C29 Q23 vfs_nil)
    refine ⟨_, rfl, ?_⟩
    refine ⟨_, ldk (k := 1) (Sub.refl _) (O40.all 1 rfl) (T_api_Impl.g1 he7), _, rfl, ?_⟩
    try rw [ba_list y1.For (ByteArray.mk #[105, 110, 116])]
    refine split_dec_e e (fun c43 e => ?_) (fun c43 e => ?_)
    · exact (ih _ _ e) (O40.pick [0, 1]).nm e_1 he7 rfl k_30 r_30 tab
    · refine ⟨_, ldk (k := 1) (Sub.refl _) (O40.all 1 rfl) (T_api_Impl.g1 he7), _, rfl, ?_⟩
      try rw [ba_list y1.For (ByteArray.mk #[98, 111, 111, 108])]
      refine split_dec_e e (fun c42 e => ?_) (fun c42 e => ?_)
      · exact (ih _ _ e) (O40.pick [0, 1]).nm e_1 he7 rfl k_30 r_30 tab
      · refine ⟨_, ldk (k := 1) (Sub.refl _) (O40.all 1 rfl) (T_api_Impl.g1 he7), _, rfl, ?_⟩
        try rw [ba_list y1.For (ByteArray.mk #[116, 101, 120, 116])]
        refine split_dec_e e (fun c41 e => ?_) (fun c41 e => ?_)
        · exact (ih _ _ e) (O40.pick [0, 1]).nm e_1 he7 rfl k_30 r_30 tab
        · refine ⟨_, ldk (k := 1) (Sub.refl _) (O40.all 1 rfl) (T_api_Impl.g1 he7), _, rfl, ?_⟩
          try rw [ba_list y1.For (ByteArray.mk #[117, 110, 105, 116])]
          exact (ih _ _ e) (O40.pick [0, 1]).nm e_1 he7 rfl k_30 r_30 tab
  · cases e
    exact ⟨_, O.pick [], rfl⟩
theorem roadref2_TraitsOf.l1_k.step_j0 (go : (p : roadref2_TraitsOf.l1_k.Pt) → Option (Int)) (ih : ∀ p r, go p = some r → roadref2_TraitsOf.l1_k.I p r) (y_1 x_6 y_7 x_8 b_9 a_30 x_31 x_32) (r) (e : roadref2_TraitsOf.l1_k.body go (.j0 y_1 x_6 y_7 x_8 b_9 a_30 x_31 x_32) = some r) : roadref2_TraitsOf.l1_k.I (.j0 y_1 x_6 y_7 x_8 b_9 a_30 x_31 x_32) r := by
  unfold roadref2_TraitsOf.l1_k.body at e
  intro W h0 m0 h m bk_1 cs_1 bk_7 cs_7 A_30 n_30 c_30 O e_1 e_7 ne_30 k_30 r_30 tab
  subst ne_30
  refine f7.j0_in ?_
  unfold f7.j0T
  obtain ⟨A1, c2, q3, k4, r5⟩ := T_api_Program.g5 e_1
  refine ⟨_, ldk (k := 5) (Sub.refl _) (O.all 0 rfl) q3, _, _, _, rfl, ?_⟩
  obtain ⟨l6, g7, e⟩ := bind_e e
  have q8 := sls_e g7
  refine ⟨q8.1, q8.2.1, cap_in q8.2.2.1 k4, ?_⟩
  try rw [q8.2.2.2.1]
  have k9 : List.length l6 ≤ (c2 - Int.toNat (0 : Int)) := sls_cap g7 k4
  have r10 := r5.sls g7 (le_mx q8.2.2.1 k4)
  exact (ih _ _ e) (O.pick [0, 1]).nm e_1 e_7 rfl k_30 r_30 rfl k9 r10 tab
set_option maxHeartbeats 4000000 in
theorem roadref2_TraitsOf.l1_k.step_l2 (go : (p : roadref2_TraitsOf.l1_k.Pt) → Option (Int)) (ih : ∀ p r, go p = some r → roadref2_TraitsOf.l1_k.I p r) (y_1 y_7 x_8 b_9 a_30 x_31 x_32 a_62 x_63 x_64) (r) (e : roadref2_TraitsOf.l1_k.body go (.l2 y_1 y_7 x_8 b_9 a_30 x_31 x_32 a_62 x_63 x_64) = some r) : roadref2_TraitsOf.l1_k.I (.l2 y_1 y_7 x_8 b_9 a_30 x_31 x_32 a_62 x_63 x_64) r := by
  unfold roadref2_TraitsOf.l1_k.body at e
  intro W h0 m0 h m bk_1 cs_1 bk_7 cs_7 A_30 n_30 c_30 A_62 n_62 c_62 O e_1 e_7 ne_30 k_30 r_30 ne_62 k_62 r_62 tab
  subst ne_30
  subst ne_62
  refine f7.l2_in ?_
  unfold f7.l2T
  refine split_dec_e e (fun c29 e => ?_) (fun c29 e => ?_)
  · obtain ⟨y1, g2, e⟩ := bind_e e
    refine r_62.addr rfl g2 fun a3 cs4 ha5 hc6 he7 => ?_
    refine ⟨_, ldAn O.s hc6 rfl, ?_⟩
    refine O.new fun h8 x9 O10 => ?_
    refine ⟨_, rfl, (T_api_Impl.T.len _ _ _ he7), ?_⟩
    refine O10.stA 2 rfl (T_api_Impl.T.len _ _ _ he7) (T_api_Impl.T.flat _ _ _ he7) fun h12 O13 => ?_
    refine ⟨_, ld0 (Sub.refl _) (O13.all 2 rfl) (T_api_Impl.g0 he7), _, rfl, ?_⟩
    refine ⟨_, ld0 (Sub.refl _) (O13.all 1 rfl) (T_api_Impl.g0 e_7), _, rfl, ?_⟩
    try rw [ba_list y1.Trait y_7.Trait]
    refine split_dec_e e (fun c18 e => ?_) (fun c18 e => ?_)
    · refine ⟨_, ldk (k := 1) (Sub.refl _) (O13.all 2 rfl) (T_api_Impl.g1 he7), _, rfl, ?_⟩
      refine ⟨_, ldk (k := 1) (Sub.refl _) (O13.all 1 rfl) (T_api_Impl.g1 e_7), _, rfl, ?_⟩
      try rw [ba_list y1.For y_7.For]
      refine split_dec_e e (fun c16 e => ?_) (fun c16 e => ?_)
      · have O14 := O13.nm
        cases e
        exact ⟨_, O14.pick [], rfl⟩
      · have O15 := O13.nm
        exact (ih _ _ e) (O15.pick [0, 1]).nm e_1 e_7 rfl k_30 r_30 rfl k_62 r_62 tab
    · have O17 := O13.nm
      exact (ih _ _ e) (O17.pick [0, 1]).nm e_1 e_7 rfl k_30 r_30 rfl k_62 r_62 tab
  · refine split_dec_e e (fun c28 e => ?_) (fun c28 e => ?_)
    · cases e
      exact ⟨_, O.pick [], rfl⟩
    · refine ⟨_, ldAn (Sub.refl _) (O.all 0 rfl) (T_api_Program.T.len _ _ _ e_1), ?_⟩
      refine ⟨_, ldk (k := 1) (Sub.refl _) (O.all 1 rfl) (T_api_Impl.g1 e_7), _, rfl, ?_⟩
      obtain ⟨y19, g20, e⟩ := bind_e e
      refine (roadref2_dataOf.walk (Hold.start (W := No) O.s) e_1 g20).mono ?_
      rintro _ h21 ⟨m22, Q23, rfl⟩
      have O25 := Hold.nm (O.retC Q23 vfs_nil)
      refine ⟨_, rfl, ?_⟩
      refine split_dec_e e (fun c27 e => ?_) (fun c27 e => ?_)
      · refine split_not ?_
        refine split_any_e e (fun c26 e => ?_) (fun c26 e => ?_)
        · exact (ih _ _ e) (O25.pick [0, 1]).nm e_1 e_7 rfl k_30 r_30 tab
        · cases e
          exact ⟨_, O25.pick [], rfl⟩
      · exact (ih _ _ e) (O25.pick [0, 1]).nm e_1 e_7 rfl k_30 r_30 tab
theorem roadref2_TraitsOf.l1_k.step_j1 (go : (p : roadref2_TraitsOf.l1_k.Pt) → Option (Int)) (ih : ∀ p r, go p = some r → roadref2_TraitsOf.l1_k.I p r) (y_1 y_7 x_8 a_30 x_31 x_32) (r) (e : roadref2_TraitsOf.l1_k.body go (.j1 y_1 y_7 x_8 a_30 x_31 x_32) = some r) : roadref2_TraitsOf.l1_k.I (.j1 y_1 y_7 x_8 a_30 x_31 x_32) r := by
  unfold roadref2_TraitsOf.l1_k.body at e
  intro W h0 m0 h m bk_1 cs_1 bk_7 cs_7 A_30 n_30 c_30 O e_1 e_7 ne_30 k_30 r_30 tab
  subst ne_30
  refine f7.j1_in ?_
  unfold f7.j1T
  obtain ⟨A1, c2, q3, k4, r5⟩ := T_api_Program.g4 e_1
  refine ⟨_, ldk (k := 4) (Sub.refl _) (O.all 0 rfl) q3, _, _, _, rfl, ?_⟩
  obtain ⟨y6, g7, e⟩ := bind_e e
  refine r5.addr rfl g7 fun a8 cs9 ha10 hc11 he12 => ?_
  obtain ⟨A13, c14, q15, k16, r17⟩ := T_api_Trait.g1 he12
  refine ⟨_, ldk (k := 1) O.s hc11 q15, _, _, _, rfl, ?_⟩
  obtain ⟨A18, c19, q20, k21, r22⟩ := T_api_Impl.g2 e_7
  refine ⟨_, ldk (k := 2) (Sub.refl _) (O.all 1 rfl) q20, _, _, _, rfl, ?_⟩
  refine split_ne_e e (fun c28 e => ?_) (fun c28 e => ?_)
  · cases e
    exact ⟨_, O.pick [], rfl⟩
  · obtain ⟨A23, c24, q25, k26, r27⟩ := T_api_Impl.g2 e_7
    refine ⟨_, ldk (k := 2) (Sub.refl _) (O.all 1 rfl) q25, _, _, _, rfl, ?_⟩
    exact (ih _ _ e) (O.pick [0, 1]).nm e_1 e_7 rfl k16 r17 rfl k_30 r_30 rfl k26 r27 tab
set_option maxHeartbeats 4000000 in
theorem roadref2_TraitsOf.l1_k.step_l3 (go : (p : roadref2_TraitsOf.l1_k.Pt) → Option (Int)) (ih : ∀ p r, go p = some r → roadref2_TraitsOf.l1_k.I p r) (y_1 y_7 a_12 a_30 x_31 x_32 a_107 x_108 x_109) (r) (e : roadref2_TraitsOf.l1_k.body go (.l3 y_1 y_7 a_12 a_30 x_31 x_32 a_107 x_108 x_109) = some r) : roadref2_TraitsOf.l1_k.I (.l3 y_1 y_7 a_12 a_30 x_31 x_32 a_107 x_108 x_109) r := by
  unfold roadref2_TraitsOf.l1_k.body at e
  intro W h0 m0 h m bk_1 cs_1 bk_7 cs_7 A_12 n_12 c_12 A_30 n_30 c_30 A_107 n_107 c_107 O e_1 e_7 ne_12 k_12 r_12 ne_30 k_30 r_30 ne_107 k_107 r_107 tab
  subst ne_12
  subst ne_30
  subst ne_107
  refine f7.l3_in ?_
  unfold f7.l3T
  refine split_dec_e e (fun c38 e => ?_) (fun c38 e => ?_)
  · obtain ⟨y1, g2, e⟩ := bind_e e
    refine r_107.addr rfl g2 fun a3 cs4 ha5 hc6 he7 => ?_
    refine ⟨_, ldAn O.s hc6 rfl, ?_⟩
    refine O.new fun h8 x9 O10 => ?_
    refine ⟨_, rfl, (T_api_Func.T.len _ _ _ he7), ?_⟩
    refine O10.stA 2 rfl (T_api_Func.T.len _ _ _ he7) (T_api_Func.T.flat _ _ _ he7) fun h12 O13 => ?_
    obtain ⟨y14, g15, e⟩ := bind_e e
    refine r_12.addr rfl g15 fun a16 cs17 ha18 hc19 he20 => ?_
    refine ⟨_, ld0 (Sub.refl _) (O13.all 2 rfl) (T_api_Func.g0 he7), _, rfl, ?_⟩
    refine ⟨_, ld0 O13.s hc19 (T_api_Func.g0 he20), _, rfl, ?_⟩
    try rw [ba_list y1.Name y14.Name]
    refine split_not ?_
    refine split_dec_e e (fun c37 e => ?_) (fun c37 e => ?_)
    · obtain ⟨y21, g22, e⟩ := bind_e e
      refine r_12.addr rfl g22 fun a23 cs24 ha25 hc26 he27 => ?_
      refine ⟨_, ldAn (Sub.refl _) (O13.all 1 rfl) (T_api_Impl.T.len _ _ _ e_7), ?_⟩
      refine ⟨_, ldAn (Sub.refl _) (O13.all 2 rfl) (T_api_Func.T.len _ _ _ he7), ?_⟩
      refine ⟨_, ldAn O13.s hc26 rfl, ?_⟩
      obtain ⟨y28, g29, e⟩ := bind_e e
      refine (roadref2_FitsErr.walk (Hold.start (W := No) O13.s) e_7 he7 he27 tab g29).mono ?_
      rintro _ h30 ⟨m31, Q32, rfl⟩
      have O34 := Hold.nm (O13.retC Q32 vfs_nil)
      refine ⟨_, rfl, ?_⟩
      refine split_ne_e e (fun c35 e => ?_) (fun c35 e => ?_)
      · cases e
        exact ⟨_, O34.pick [], rfl⟩
      · exact (ih _ _ e) (O34.pick [0, 1]).nm e_1 e_7 rfl k_12 r_12 rfl k_30 r_30 rfl k_107 r_107 tab
    · have O36 := O13.nm
      cases e
      exact ⟨_, O36.pick [], rfl⟩
  · exact (ih _ _ e) (O.pick [0]).nm e_1 rfl k_30 r_30 tab
theorem roadref2_TraitsOf.l1_k.all {p : roadref2_TraitsOf.l1_k.Pt} {r : (Int)} (e : roadref2_TraitsOf.l1_k.go p = some r) : roadref2_TraitsOf.l1_k.I p r := fixF_ind (β := fun _ => (Int)) roadref2_TraitsOf.l1_k.mono (I := roadref2_TraitsOf.l1_k.I) (fun go ih p r e => match p with
  | .l1 y_1 a_30 x_31 x_32 => roadref2_TraitsOf.l1_k.step_l1 go ih y_1 a_30 x_31 x_32 r e
  | .j0 y_1 x_6 y_7 x_8 b_9 a_30 x_31 x_32 => roadref2_TraitsOf.l1_k.step_j0 go ih y_1 x_6 y_7 x_8 b_9 a_30 x_31 x_32 r e
  | .l2 y_1 y_7 x_8 b_9 a_30 x_31 x_32 a_62 x_63 x_64 => roadref2_TraitsOf.l1_k.step_l2 go ih y_1 y_7 x_8 b_9 a_30 x_31 x_32 a_62 x_63 x_64 r e
  | .j1 y_1 y_7 x_8 a_30 x_31 x_32 => roadref2_TraitsOf.l1_k.step_j1 go ih y_1 y_7 x_8 a_30 x_31 x_32 r e
  | .l3 y_1 y_7 a_12 a_30 x_31 x_32 a_107 x_108 x_109 => roadref2_TraitsOf.l1_k.step_l3 go ih y_1 y_7 a_12 a_30 x_31 x_32 a_107 x_108 x_109 r e
  ) e
inductive roadref2_TraitsOf.l0_k.Pt where
  | l0 (y_1 : T_api_Program) (a_17 : List T_api_Trait) (x_18 : Int) (x_19 : Int)
noncomputable def roadref2_TraitsOf.l0_k.body (go : (p : roadref2_TraitsOf.l0_k.Pt) → Option (Int)) : (p : roadref2_TraitsOf.l0_k.Pt) → Option (Int)
  | .l0 y_1 a_17 x_18 x_19 => if x_19 < x_18 then (Option.bind (gi a_17 x_19) fun y1 => Option.bind (roadref2_TraitErr y1) fun y14 => if y14 = (0 : Int) then ((go (.l0 y_1 a_17 x_18 (IntKind.wrap .i64 (x_19 + (1 : Int)))))) else (some (y14))) else ((roadref2_TraitsOf.l1 y_1 y_1.Impls (((List.length y_1.Impls) : Nat) : Int) (0 : Int)))
theorem roadref2_TraitsOf.l0_k.mono : MonoF (β := fun _ => (Int)) roadref2_TraitsOf.l0_k.body := fun f g hfg p => match p with
  | .l0 y_1 a_17 x_18 x_19 => LeO.ite (LeO.bind (LeO.refl _) fun y1 => LeO.bind (LeO.refl _) fun y14 => LeO.ite ((hfg _)) (LeO.refl _)) ((LeO.refl _))
noncomputable def roadref2_TraitsOf.l0_k.go (p : roadref2_TraitsOf.l0_k.Pt) : Option (Int) := fixF (β := fun _ => (Int)) roadref2_TraitsOf.l0_k.body p
noncomputable def roadref2_TraitsOf.l0 (y_1 a_17 x_18 x_19) := roadref2_TraitsOf.l0_k.go (.l0 y_1 a_17 x_18 x_19)
theorem roadref2_TraitsOf.l0_eq (y_1 a_17 x_18 x_19) : roadref2_TraitsOf.l0 y_1 a_17 x_18 x_19 = if x_19 < x_18 then (Option.bind (gi a_17 x_19) fun y1 => Option.bind (roadref2_TraitErr y1) fun y14 => if y14 = (0 : Int) then ((roadref2_TraitsOf.l0 y_1 a_17 x_18 (IntKind.wrap .i64 (x_19 + (1 : Int))))) else (some (y14))) else ((roadref2_TraitsOf.l1 y_1 y_1.Impls (((List.length y_1.Impls) : Nat) : Int) (0 : Int))) := fixF_eq roadref2_TraitsOf.l0_k.mono _
def roadref2_TraitsOf.l0_k.I : (p : roadref2_TraitsOf.l0_k.Pt) → (Int) → Prop
  | .l0 y_1 a_17 x_18 x_19, r => ∀ {W h0 m0 h m bk_1 cs_1 A_17 n_17 c_17} (O : Hold W h0 m0 h m [rV bk_1 29 cs_1]) (e_1 : T_api_Program.E m y_1 cs_1) (ne_17 : n_17 = List.length a_17) (k_17 : List.length a_17 ≤ c_17) (r_17 : Rd 2 T_api_Trait.E m A_17 a_17) (tab : TB m), f7.l0 (roadref2_TraitsOf.post W h0 m0 r) (⟨bk_1, 0, none⟩ : Addr) A_17 n_17 c_17 x_18 x_19 h
theorem roadref2_TraitsOf.l0_k.step_l0 (go : (p : roadref2_TraitsOf.l0_k.Pt) → Option (Int)) (ih : ∀ p r, go p = some r → roadref2_TraitsOf.l0_k.I p r) (y_1 a_17 x_18 x_19) (r) (e : roadref2_TraitsOf.l0_k.body go (.l0 y_1 a_17 x_18 x_19) = some r) : roadref2_TraitsOf.l0_k.I (.l0 y_1 a_17 x_18 x_19) r := by
  unfold roadref2_TraitsOf.l0_k.body at e
  intro W h0 m0 h m bk_1 cs_1 A_17 n_17 c_17 O e_1 ne_17 k_17 r_17 tab
  subst ne_17
  refine f7.l0_in ?_
  unfold f7.l0T
  refine split_dec_e e (fun c27 e => ?_) (fun c27 e => ?_)
  · obtain ⟨y1, g2, e⟩ := bind_e e
    refine r_17.addr rfl g2 fun a3 cs4 ha5 hc6 he7 => ?_
    refine ⟨_, ldAn O.s hc6 rfl, ?_⟩
    refine O.new fun h8 x9 O10 => ?_
    refine ⟨_, rfl, (T_api_Trait.T.len _ _ _ he7), ?_⟩
    refine O10.stA 1 rfl (T_api_Trait.T.len _ _ _ he7) (T_api_Trait.T.flat _ _ _ he7) fun h12 O13 => ?_
    refine ⟨_, ldAn (Sub.refl _) (O13.all 1 rfl) (T_api_Trait.T.len _ _ _ he7), ?_⟩
    obtain ⟨y14, g15, e⟩ := bind_e e
    refine (roadref2_TraitErr.walk (Hold.start (W := No) O13.s) he7 g15).mono ?_
    rintro _ h16 ⟨m17, Q18, rfl⟩
    have O20 := Hold.nm (O13.retC Q18 vfs_nil)
    refine ⟨_, rfl, ?_⟩
    refine split_ne_e e (fun c21 e => ?_) (fun c21 e => ?_)
    · cases e
      exact ⟨_, O20.pick [], rfl⟩
    · exact (ih _ _ e) (O20.pick [0]).nm e_1 rfl k_17 r_17 tab
  · obtain ⟨A22, c23, q24, k25, r26⟩ := T_api_Program.g5 e_1
    refine ⟨_, ldk (k := 5) (Sub.refl _) (O.all 0 rfl) q24, _, _, _, rfl, ?_⟩
    exact (roadref2_TraitsOf.l1_k.all e) (O.pick [0]).nm e_1 rfl k25 r26 tab
theorem roadref2_TraitsOf.l0_k.all {p : roadref2_TraitsOf.l0_k.Pt} {r : (Int)} (e : roadref2_TraitsOf.l0_k.go p = some r) : roadref2_TraitsOf.l0_k.I p r := fixF_ind (β := fun _ => (Int)) roadref2_TraitsOf.l0_k.mono (I := roadref2_TraitsOf.l0_k.I) (fun go ih p r e => match p with
  | .l0 y_1 a_17 x_18 x_19 => roadref2_TraitsOf.l0_k.step_l0 go ih y_1 a_17 x_18 x_19 r e
  ) e
noncomputable def roadref2_TraitsOf (y_0 : T_api_Program) : Option (Int) :=
  (roadref2_TraitsOf.l0 y_0 y_0.Traits (((List.length y_0.Traits) : Nat) : Int) (0 : Int))
theorem roadref2_TraitsOf.walk {W h m cs_0 y_0} (O : Hold W h m h m []) (e_0 : T_api_Program.E m y_0 cs_0) (tab : TB m) {r} (e : roadref2_TraitsOf y_0 = some r) : Run Tryd.prog 7 #[Value.agg cs_0.toArray] h (roadref2_TraitsOf.post W h m r) := by
  unfold roadref2_TraitsOf at e
  refine f7.run ?_
  unfold f7.runT
  refine O.new fun h1 x2 O3 => ?_
  obtain ⟨A5, c6, q7, k8, r9⟩ := T_api_Program.g4 e_0
  refine ⟨_, ldk (k := 4) (Sub.refl _) (O3.all 0 rfl) q7, _, _, _, rfl, ?_⟩
  have O10 := O3.nm
  exact (roadref2_TraitsOf.l0_k.all e) (O10.pick [0]).nm e_0 rfl k8 r9 tab
def roadlaw2_TraitSays_1.post (W : Nat → Prop) (h0 m0 : Heap) (r : Bool) (v : Value) (h : Heap) : Prop := ∃ m , Hold W h0 m0 h m [] ∧ v = .bool r
noncomputable def roadlaw2_TraitSays_1 (y_0 : T_api_Trait) (y_1 : ByteArray) : Option (Bool) :=
  some ((decide (y_0.Name = y_1)))
theorem roadlaw2_TraitSays_1.walk {W h m cs_0 bk_1 y_0 y_1} (O : Hold W h m h m []) (e_0 : T_api_Trait.E m y_0 cs_0) (v_1 : VB eStr m bk_1 y_1) {r} (e : roadlaw2_TraitSays_1 y_0 y_1 = some r) : Run Tryd.prog 9 #[Value.agg cs_0.toArray, Value.pointer (some ⟨bk_1, 0, none⟩)] h (roadlaw2_TraitSays_1.post W h m r) := by
  unfold roadlaw2_TraitSays_1 at e
  obtain ⟨cs_1, t_1, hb_1, nn_1, e_1⟩ := id v_1
  obtain rfl : cs_1 = [(Value.string y_1)] := e_1
  refine f9.run ?_
  unfold f9.runT
  refine O.new fun h1 x2 O3 => ?_
  refine ⟨_, ld0 (Sub.refl _) (O3.all 0 rfl) (T_api_Trait.g0 e_0), _, rfl, ?_⟩
  refine ⟨_, ld0 O3.s (Blk.all' hb_1) rfl, _, rfl, ?_⟩
  try rw [ba_list y_0.Name y_1]
  have O5 := O3.nm
  cases e
  exact ⟨_, O5.pick [], rfl⟩
def trait_Impl_1.post (W : Nat → Prop) (h0 m0 : Heap) (r : Bool) (v : Value) (h : Heap) : Prop := ∃ m , Hold W h0 m0 h m [] ∧ v = .bool r
noncomputable def trait_Impl_1 (y_0 : T_api_Impl) (y_1 : ByteArray) (y_2 : T_api_Type) : Option (Bool) :=
  if y_0.Trait = y_1 then (Option.bind (infer_Head y_2) fun y5 => some ((decide (y_0.For = y5)))) else (some (false))
theorem trait_Impl_1.walk {W h m cs_0 bk_1 bk_2 y_0 y_1 y_2} (O : Hold W h m h m []) (e_0 : T_api_Impl.E m y_0 cs_0) (v_1 : VB eStr m bk_1 y_1) (v_2 : VB T_api_Type.E m bk_2 y_2) {r} (e : trait_Impl_1 y_0 y_1 y_2 = some r) : Run Tryd.prog 38 #[Value.agg cs_0.toArray, Value.pointer (some ⟨bk_1, 0, none⟩), Value.pointer (some ⟨bk_2, 0, none⟩)] h (trait_Impl_1.post W h m r) := by
  unfold trait_Impl_1 at e
  obtain ⟨cs_1, t_1, hb_1, nn_1, e_1⟩ := id v_1
  obtain rfl : cs_1 = [(Value.string y_1)] := e_1
  obtain ⟨cs_2, t_2, hb_2, nn_2, e_2⟩ := id v_2
  refine f38.run ?_
  unfold f38.runT
  refine O.new fun h1 x2 O3 => ?_
  refine ⟨_, ld0 (Sub.refl _) (O3.all 0 rfl) (T_api_Impl.g0 e_0), _, rfl, ?_⟩
  refine ⟨_, ld0 O3.s (Blk.all' hb_1) rfl, _, rfl, ?_⟩
  try rw [ba_list y_0.Trait y_1]
  refine split_dec_e e (fun c13 e => ?_) (fun c13 e => ?_)
  · refine ⟨_, ldk (k := 1) (Sub.refl _) (O3.all 0 rfl) (T_api_Impl.g1 e_0), _, rfl, ?_⟩
    refine ⟨_, ldAn O3.s (Blk.all' hb_2) (T_api_Type.T.len _ _ _ e_2), ?_⟩
    obtain ⟨y5, g6, e⟩ := bind_e e
    refine (infer_Head.walk (Hold.start (W := No) O3.s) e_2 g6).mono ?_
    rintro _ h7 ⟨m8, Q9, rfl⟩
    have O11 := Hold.nm (O3.retC Q9 vfs_nil)
    refine ⟨_, rfl, ?_⟩
    refine ⟨Q9.S.ext, ?_⟩
    try rw [ba_list y_0.For y5]
    cases e
    exact ⟨_, O11.pick [], rfl⟩
  · refine ⟨(Ext.refl _), ?_⟩
    have O12 := O3.nm
    cases e
    exact ⟨_, O12.pick [], rfl⟩
def trait_Impl.post (W : Nat → Prop) (h0 m0 : Heap) (r : Int × Int) (v : Value) (h : Heap) : Prop := ∃ m , Hold W h0 m0 h m [] ∧ v = .tuple #[.int .i64 r.1, .int .i64 r.2]
noncomputable def trait_Impl (y_0 : T_api_Program) (s_1 : ByteArray) (y_2 : T_api_Type) : Option (Int × Int) :=
  Option.bind (slices_IndexFunc_12 y_0.Impls (fun z32 => trait_Impl_1 z32 s_1 y_2)) fun y18 => if y18 < (0 : Int) then (some ((0 : Int), (4 : Int))) else (some (y18, (0 : Int)))
theorem trait_Impl.walk {W h m cs_0 cs_2 y_0 s_1 y_2} (O : Hold W h m h m []) (e_0 : T_api_Program.E m y_0 cs_0) (e_2 : T_api_Type.E m y_2 cs_2) {r} (e : trait_Impl y_0 s_1 y_2 = some r) : Run Tryd.prog 11 #[Value.agg cs_0.toArray, Value.string s_1, Value.agg cs_2.toArray] h (trait_Impl.post W h m r) := by
  unfold trait_Impl at e
  refine f11.run ?_
  unfold f11.runT
  refine O.new fun h1 x2 O3 => ?_
  refine O3.new fun h5 x6 O7 => ?_
  refine O7.new fun h9 x10 O11 => ?_
  obtain ⟨A13, c14, q15, k16, r17⟩ := T_api_Program.g5 e_0
  refine ⟨_, ldk (k := 5) (Sub.refl _) (O11.all 0 rfl) q15, _, _, _, rfl, ?_⟩
  obtain ⟨y18, g19, e⟩ := bind_e e
  have O24 := O11.nm
  obtain ⟨m25, u26, s31, ⟨hb29, hb30, _⟩, B27, C28⟩ := O24.lend0 [1, 2]
  refine (slices_IndexFunc_12.walk (Hold.start (W := No) s31) rfl k16 (r17.sub T_api_Impl.T u26) (fun h33 m34 u35 s36 y39 cs39 he39 r37 e38 => CallF.of [Value.agg cs39.toArray, Value.pointer (some ⟨(Array.size h1), 0, none⟩), Value.pointer (some ⟨(Array.size h5), 0, none⟩)] f38.ok rfl ((trait_Impl_1.walk (Hold.start (W := No) s36) he39 (VB.sub (show VB eStr _ _ _ from ⟨_, _, hb29, nn, rfl⟩) tell_str u35) (VB.sub (show VB T_api_Type.E _ _ _ from ⟨_, _, hb30, nn_len (T_api_Type.T.len _ _ _ e_2), (T_api_Type.T.mono _ _ _ _ u26 e_2)⟩) T_api_Type.T u35) e38).mono (fun _ _ h => let ⟨_, t, e⟩ := h; ⟨e, t.S.ext⟩))) g19).mono ?_
  rintro _ h20 ⟨m21, Q22, rfl⟩
  have O40 := Hold.nm (C28 Q22 vfs_nil)
  refine ⟨_, rfl, ?_⟩
  refine split_dec_e e (fun c41 e => ?_) (fun c41 e => ?_)
  · cases e
    exact ⟨_, O40.pick [], rfl⟩
  · cases e
    exact ⟨_, O40.pick [], rfl⟩
def roadlaw2_TraitSays_2.post (W : Nat → Prop) (h0 m0 : Heap) (r : Bool) (v : Value) (h : Heap) : Prop := ∃ m , Hold W h0 m0 h m [] ∧ v = .bool r
noncomputable def roadlaw2_TraitSays_2 (y_0 : T_api_Impl) (y_1 : ByteArray) (y_2 : T_api_Type) : Option (Bool) :=
  if y_0.Trait = y_1 then (Option.bind (roadref2_HeadOf y_2) fun y5 => some ((decide (y_0.For = y5)))) else (some (false))
theorem roadlaw2_TraitSays_2.walk {W h m cs_0 bk_1 bk_2 y_0 y_1 y_2} (O : Hold W h m h m []) (e_0 : T_api_Impl.E m y_0 cs_0) (v_1 : VB eStr m bk_1 y_1) (v_2 : VB T_api_Type.E m bk_2 y_2) (tab : TB m) {r} (e : roadlaw2_TraitSays_2 y_0 y_1 y_2 = some r) : Run Tryd.prog 13 #[Value.agg cs_0.toArray, Value.pointer (some ⟨bk_1, 0, none⟩), Value.pointer (some ⟨bk_2, 0, none⟩)] h (roadlaw2_TraitSays_2.post W h m r) := by
  unfold roadlaw2_TraitSays_2 at e
  obtain ⟨cs_1, t_1, hb_1, nn_1, e_1⟩ := id v_1
  obtain rfl : cs_1 = [(Value.string y_1)] := e_1
  obtain ⟨cs_2, t_2, hb_2, nn_2, e_2⟩ := id v_2
  refine f13.run ?_
  unfold f13.runT
  refine O.new fun h1 x2 O3 => ?_
  refine ⟨_, ld0 (Sub.refl _) (O3.all 0 rfl) (T_api_Impl.g0 e_0), _, rfl, ?_⟩
  refine ⟨_, ld0 O3.s (Blk.all' hb_1) rfl, _, rfl, ?_⟩
  try rw [ba_list y_0.Trait y_1]
  refine split_dec_e e (fun c13 e => ?_) (fun c13 e => ?_)
  · refine ⟨_, ldk (k := 1) (Sub.refl _) (O3.all 0 rfl) (T_api_Impl.g1 e_0), _, rfl, ?_⟩
    refine ⟨_, ldAn O3.s (Blk.all' hb_2) (T_api_Type.T.len _ _ _ e_2), ?_⟩
    obtain ⟨y5, g6, e⟩ := bind_e e
    refine (roadref2_HeadOf.walk (Hold.start (W := No) O3.s) e_2 tab g6).mono ?_
    rintro _ h7 ⟨m8, Q9, rfl⟩
    have O11 := Hold.nm (O3.retC Q9 vfs_nil)
    refine ⟨_, rfl, ?_⟩
    refine ⟨Q9.S.ext, ?_⟩
    try rw [ba_list y_0.For y5]
    cases e
    exact ⟨_, O11.pick [], rfl⟩
  · refine ⟨(Ext.refl _), ?_⟩
    have O12 := O3.nm
    cases e
    exact ⟨_, O12.pick [], rfl⟩
def roadlaw2_TraitSays.post (W : Nat → Prop) (h0 m0 : Heap) (r : Bool) (v : Value) (h : Heap) : Prop := ∃ m , Hold W h0 m0 h m [] ∧ v = .bool r
inductive roadlaw2_TraitSays.l0_k.Pt where
  | l0 (y_3 : T_api_Program) (a_112 : List T_api_Trait) (x_113 : Int) (x_114 : Int)
  | l1 (y_3 : T_api_Program) (y_14 : T_api_Trait) (a_112 : List T_api_Trait) (x_113 : Int) (x_114 : Int) (a_124 : List T_api_Impl) (x_125 : Int) (x_126 : Int)
  | l2 (y_3 : T_api_Program) (y_14 : T_api_Trait) (y_16 : T_api_Impl) (a_112 : List T_api_Trait) (x_113 : Int) (x_114 : Int) (a_124 : List T_api_Impl) (x_125 : Int) (x_126 : Int) (x_136 : Int) (x_137 : Int)
noncomputable def roadlaw2_TraitSays.l0_k.body (go : (p : roadlaw2_TraitSays.l0_k.Pt) → Option (Bool)) : (p : roadlaw2_TraitSays.l0_k.Pt) → Option (Bool)
  | .l0 y_3 a_112 x_113 x_114 => if x_114 < x_113 then (Option.bind (gi a_112 x_114) fun y1 => Option.bind (trait_Trait y1) fun y14 => Option.bind (roadref2_TraitErr y1) fun y21 => if y14 = y21 then ((go (.l1 y_3 y1 a_112 x_113 x_114 y_3.Impls (((List.length y_3.Impls) : Nat) : Int) (0 : Int)))) else (some (false))) else (Option.bind (trait_Trait (T_api_Trait.mk (ByteArray.mk #[84]) ([(T_api_Func.mk (ByteArray.mk #[102]) ([] : List ByteArray) ([] : List ByteArray) ([] : List T_api_Type) (T_api_Type.mk (0 : Int) (ByteArray.mk #[]) ([] : List T_api_Type)) (T_api_Expr.mk (0 : Int) (0 : Int) (ByteArray.mk #[]) ([] : List ByteArray) ([] : List T_api_Type) ([] : List T_api_Expr) ([] : List T_api_Arm) (0 : Int)))] : List T_api_Func))) fun y39 => some ((y39 == (12 : Int))))
  | .l1 y_3 y_14 a_112 x_113 x_114 a_124 x_125 x_126 => if x_126 < x_125 then (Option.bind (gi a_124 x_126) fun y1 => (go (.l2 y_3 y_14 y1 a_112 x_113 x_114 a_124 x_125 x_126 (if (((List.length y_14.Funcs) : Nat) : Int) < (((List.length y1.Funcs) : Nat) : Int) then (((List.length y_14.Funcs) : Nat) : Int) else (((List.length y1.Funcs) : Nat) : Int)) (0 : Int)))) else ((go (.l0 y_3 a_112 x_113 (IntKind.wrap .i64 (x_114 + (1 : Int))))))
  | .l2 y_3 y_14 y_16 a_112 x_113 x_114 a_124 x_125 x_126 x_136 x_137 => if x_137 < x_136 then (Option.bind (gi y_16.Funcs x_137) fun y6 => Option.bind (gi y_14.Funcs x_137) fun y18 => Option.bind (gi y_16.Funcs x_137) fun y30 => Option.bind (gi y_14.Funcs x_137) fun y42 => Option.bind (trait_Fits y_16 y6 y18) fun y49 => Option.bind (roadref2_FitsErr y_16 y30 y42) fun y56 => if y49 = y56 then ((go (.l2 y_3 y_14 y_16 a_112 x_113 x_114 a_124 x_125 x_126 x_136 (IntKind.wrap .i64 (x_137 + (1 : Int)))))) else (some (false))) else ((go (.l1 y_3 y_14 a_112 x_113 x_114 a_124 x_125 (IntKind.wrap .i64 (x_126 + (1 : Int))))))
theorem roadlaw2_TraitSays.l0_k.mono : MonoF (β := fun _ => (Bool)) roadlaw2_TraitSays.l0_k.body := fun f g hfg p => match p with
  | .l0 y_3 a_112 x_113 x_114 => LeO.ite (LeO.bind (LeO.refl _) fun y1 => LeO.bind (LeO.refl _) fun y14 => LeO.bind (LeO.refl _) fun y21 => LeO.ite ((hfg _)) (LeO.refl _)) (LeO.bind (LeO.refl _) fun y39 => LeO.refl _)
  | .l1 y_3 y_14 a_112 x_113 x_114 a_124 x_125 x_126 => LeO.ite (LeO.bind (LeO.refl _) fun y1 => (hfg _)) ((hfg _))
  | .l2 y_3 y_14 y_16 a_112 x_113 x_114 a_124 x_125 x_126 x_136 x_137 => LeO.ite (LeO.bind (LeO.refl _) fun y6 => LeO.bind (LeO.refl _) fun y18 => LeO.bind (LeO.refl _) fun y30 => LeO.bind (LeO.refl _) fun y42 => LeO.bind (LeO.refl _) fun y49 => LeO.bind (LeO.refl _) fun y56 => LeO.ite ((hfg _)) (LeO.refl _)) ((hfg _))
noncomputable def roadlaw2_TraitSays.l0_k.go (p : roadlaw2_TraitSays.l0_k.Pt) : Option (Bool) := fixF (β := fun _ => (Bool)) roadlaw2_TraitSays.l0_k.body p
noncomputable def roadlaw2_TraitSays.l0 (y_3 a_112 x_113 x_114) := roadlaw2_TraitSays.l0_k.go (.l0 y_3 a_112 x_113 x_114)
noncomputable def roadlaw2_TraitSays.l1 (y_3 y_14 a_112 x_113 x_114 a_124 x_125 x_126) := roadlaw2_TraitSays.l0_k.go (.l1 y_3 y_14 a_112 x_113 x_114 a_124 x_125 x_126)
noncomputable def roadlaw2_TraitSays.l2 (y_3 y_14 y_16 a_112 x_113 x_114 a_124 x_125 x_126 x_136 x_137) := roadlaw2_TraitSays.l0_k.go (.l2 y_3 y_14 y_16 a_112 x_113 x_114 a_124 x_125 x_126 x_136 x_137)
theorem roadlaw2_TraitSays.l0_eq (y_3 a_112 x_113 x_114) : roadlaw2_TraitSays.l0 y_3 a_112 x_113 x_114 = if x_114 < x_113 then (Option.bind (gi a_112 x_114) fun y1 => Option.bind (trait_Trait y1) fun y14 => Option.bind (roadref2_TraitErr y1) fun y21 => if y14 = y21 then ((roadlaw2_TraitSays.l1 y_3 y1 a_112 x_113 x_114 y_3.Impls (((List.length y_3.Impls) : Nat) : Int) (0 : Int))) else (some (false))) else (Option.bind (trait_Trait (T_api_Trait.mk (ByteArray.mk #[84]) ([(T_api_Func.mk (ByteArray.mk #[102]) ([] : List ByteArray) ([] : List ByteArray) ([] : List T_api_Type) (T_api_Type.mk (0 : Int) (ByteArray.mk #[]) ([] : List T_api_Type)) (T_api_Expr.mk (0 : Int) (0 : Int) (ByteArray.mk #[]) ([] : List ByteArray) ([] : List T_api_Type) ([] : List T_api_Expr) ([] : List T_api_Arm) (0 : Int)))] : List T_api_Func))) fun y39 => some ((y39 == (12 : Int)))) := fixF_eq roadlaw2_TraitSays.l0_k.mono _
theorem roadlaw2_TraitSays.l1_eq (y_3 y_14 a_112 x_113 x_114 a_124 x_125 x_126) : roadlaw2_TraitSays.l1 y_3 y_14 a_112 x_113 x_114 a_124 x_125 x_126 = if x_126 < x_125 then (Option.bind (gi a_124 x_126) fun y1 => (roadlaw2_TraitSays.l2 y_3 y_14 y1 a_112 x_113 x_114 a_124 x_125 x_126 (if (((List.length y_14.Funcs) : Nat) : Int) < (((List.length y1.Funcs) : Nat) : Int) then (((List.length y_14.Funcs) : Nat) : Int) else (((List.length y1.Funcs) : Nat) : Int)) (0 : Int))) else ((roadlaw2_TraitSays.l0 y_3 a_112 x_113 (IntKind.wrap .i64 (x_114 + (1 : Int))))) := fixF_eq roadlaw2_TraitSays.l0_k.mono _
theorem roadlaw2_TraitSays.l2_eq (y_3 y_14 y_16 a_112 x_113 x_114 a_124 x_125 x_126 x_136 x_137) : roadlaw2_TraitSays.l2 y_3 y_14 y_16 a_112 x_113 x_114 a_124 x_125 x_126 x_136 x_137 = if x_137 < x_136 then (Option.bind (gi y_16.Funcs x_137) fun y6 => Option.bind (gi y_14.Funcs x_137) fun y18 => Option.bind (gi y_16.Funcs x_137) fun y30 => Option.bind (gi y_14.Funcs x_137) fun y42 => Option.bind (trait_Fits y_16 y6 y18) fun y49 => Option.bind (roadref2_FitsErr y_16 y30 y42) fun y56 => if y49 = y56 then ((roadlaw2_TraitSays.l2 y_3 y_14 y_16 a_112 x_113 x_114 a_124 x_125 x_126 x_136 (IntKind.wrap .i64 (x_137 + (1 : Int))))) else (some (false))) else ((roadlaw2_TraitSays.l1 y_3 y_14 a_112 x_113 x_114 a_124 x_125 (IntKind.wrap .i64 (x_126 + (1 : Int))))) := fixF_eq roadlaw2_TraitSays.l0_k.mono _
def roadlaw2_TraitSays.l0_k.I : (p : roadlaw2_TraitSays.l0_k.Pt) → (Bool) → Prop
  | .l0 y_3 a_112 x_113 x_114, r => ∀ {W h0 m0 h m bk_3 cs_3 A_112 n_112 c_112} (O : Hold W h0 m0 h m [rV bk_3 29 cs_3]) (e_3 : T_api_Program.E m y_3 cs_3) (ne_112 : n_112 = List.length a_112) (k_112 : List.length a_112 ≤ c_112) (r_112 : Rd 2 T_api_Trait.E m A_112 a_112) (tab : TB m), f3.l0 (roadlaw2_TraitSays.post W h0 m0 r) (⟨bk_3, 0, none⟩ : Addr) A_112 n_112 c_112 x_113 x_114 h
  | .l1 y_3 y_14 a_112 x_113 x_114 a_124 x_125 x_126, r => ∀ {W h0 m0 h m bk_3 cs_3 bk_14 cs_14 A_112 n_112 c_112 A_124 n_124 c_124} (O : Hold W h0 m0 h m [rV bk_3 29 cs_3, rV bk_14 37 cs_14]) (e_3 : T_api_Program.E m y_3 cs_3) (e_14 : T_api_Trait.E m y_14 cs_14) (ne_112 : n_112 = List.length a_112) (k_112 : List.length a_112 ≤ c_112) (r_112 : Rd 2 T_api_Trait.E m A_112 a_112) (ne_124 : n_124 = List.length a_124) (k_124 : List.length a_124 ≤ c_124) (r_124 : Rd 3 T_api_Impl.E m A_124 a_124) (tab : TB m), f3.l1 (roadlaw2_TraitSays.post W h0 m0 r) (⟨bk_3, 0, none⟩ : Addr) (⟨bk_14, 0, none⟩ : Addr) A_112 n_112 c_112 x_113 x_114 A_124 n_124 c_124 x_125 x_126 h
  | .l2 y_3 y_14 y_16 a_112 x_113 x_114 a_124 x_125 x_126 x_136 x_137, r => ∀ {W h0 m0 h m bk_3 cs_3 bk_14 cs_14 bk_16 cs_16 A_112 n_112 c_112 A_124 n_124 c_124} (O : Hold W h0 m0 h m [rV bk_3 29 cs_3, rV bk_14 37 cs_14, rV bk_16 45 cs_16]) (e_3 : T_api_Program.E m y_3 cs_3) (e_14 : T_api_Trait.E m y_14 cs_14) (e_16 : T_api_Impl.E m y_16 cs_16) (ne_112 : n_112 = List.length a_112) (k_112 : List.length a_112 ≤ c_112) (r_112 : Rd 2 T_api_Trait.E m A_112 a_112) (ne_124 : n_124 = List.length a_124) (k_124 : List.length a_124 ≤ c_124) (r_124 : Rd 3 T_api_Impl.E m A_124 a_124) (tab : TB m), f3.l2 (roadlaw2_TraitSays.post W h0 m0 r) (⟨bk_3, 0, none⟩ : Addr) (⟨bk_14, 0, none⟩ : Addr) (⟨bk_16, 0, none⟩ : Addr) A_112 n_112 c_112 x_113 x_114 A_124 n_124 c_124 x_125 x_126 x_136 x_137 h
set_option maxHeartbeats 4000000 in
theorem roadlaw2_TraitSays.l0_k.step_l0 (go : (p : roadlaw2_TraitSays.l0_k.Pt) → Option (Bool)) (ih : ∀ p r, go p = some r → roadlaw2_TraitSays.l0_k.I p r) (y_3 a_112 x_113 x_114) (r) (e : roadlaw2_TraitSays.l0_k.body go (.l0 y_3 a_112 x_113 x_114) = some r) : roadlaw2_TraitSays.l0_k.I (.l0 y_3 a_112 x_113 x_114) r := by
  unfold roadlaw2_TraitSays.l0_k.body at e
  intro W h0 m0 h m bk_3 cs_3 A_112 n_112 c_112 O e_3 ne_112 k_112 r_112 tab
  subst ne_112
  refine f3.l0_in ?_
  unfold f3.l0T
  refine split_dec_e e (fun c54 e => ?_) (fun c54 e => ?_)
  · obtain ⟨y1, g2, e⟩ := bind_e e
    refine r_112.addr rfl g2 fun a3 cs4 ha5 hc6 he7 => ?_
    refine ⟨_, ldAn O.s hc6 rfl, ?_⟩
    refine O.new fun h8 x9 O10 => ?_
    refine ⟨_, rfl, (T_api_Trait.T.len _ _ _ he7), ?_⟩
    refine O10.stA 1 rfl (T_api_Trait.T.len _ _ _ he7) (T_api_Trait.T.flat _ _ _ he7) fun h12 O13 => ?_
    refine ⟨_, ldAn (Sub.refl _) (O13.all 1 rfl) (T_api_Trait.T.len _ _ _ he7), ?_⟩
    refine ⟨_, ldAn (Sub.refl _) (O13.all 1 rfl) (T_api_Trait.T.len _ _ _ he7), ?_⟩
    obtain ⟨y14, g15, e⟩ := bind_e e
    refine (trait_Trait.walk (Hold.start (W := No) O13.s) he7 g15).mono ?_
    rintro _ h16 ⟨m17, Q18, rfl⟩
    have O20 := Hold.nm (O13.retC Q18 vfs_nil)
    refine ⟨_, rfl, ?_⟩
    refine ⟨Q18.S.ext, ?_⟩
    obtain ⟨y21, g22, e⟩ := bind_e e
    refine (roadref2_TraitErr.walk (Hold.start (W := No) O20.s) he7 g22).mono ?_
    rintro _ h23 ⟨m24, Q25, rfl⟩
    have O27 := Hold.nm (O20.retC Q25 vfs_nil)
    refine ⟨_, rfl, ?_⟩
    refine split_ne_e e (fun c33 e => ?_) (fun c33 e => ?_)
    · cases e
      exact ⟨_, O27.pick [], rfl⟩
    · obtain ⟨A28, c29, q30, k31, r32⟩ := T_api_Program.g5 e_3
      refine ⟨_, ldk (k := 5) (Sub.refl _) (O27.all 0 rfl) q30, _, _, _, rfl, ?_⟩
      exact (ih _ _ e) (O27.pick [0, 1]).nm e_3 he7 rfl k_112 r_112 rfl k31 r32 tab
  · refine ⟨[(Value.string (ByteArray.mk #[102])), (Value.slice none 0 0), (Value.slice none 0 0), (Value.slice none 0 0), (Value.int .i64 (0 : Int)), (Value.string (ByteArray.mk #[])), (Value.slice none 0 0), (Value.int .i64 (0 : Int)), (Value.int .i64 (0 : Int)), (Value.string (ByteArray.mk #[])), (Value.slice none 0 0), (Value.slice none 0 0), (Value.slice none 0 0), (Value.slice none 0 0), (Value.int .i64 (0 : Int))], rfl, rfl, ?_⟩
    refine O.new fun h34 x35 O36 => ?_
    obtain ⟨y39, g40, e⟩ := bind_e e
    have O38 := O36.rowE (l := ([(T_api_Func.mk (ByteArray.mk #[102]) ([] : List ByteArray) ([] : List ByteArray) ([] : List T_api_Type) (T_api_Type.mk (0 : Int) (ByteArray.mk #[]) ([] : List T_api_Type)) (T_api_Expr.mk (0 : Int) (0 : Int) (ByteArray.mk #[]) ([] : List ByteArray) ([] : List T_api_Type) ([] : List T_api_Expr) ([] : List T_api_Arm) (0 : Int)))] : List T_api_Func)) 1 rfl T_api_Func.T (show CsE _ _ _ _ _ from (CsE.cons (c1 := [(Value.string (ByteArray.mk #[102])), (Value.slice none 0 0), (Value.slice none 0 0), (Value.slice none 0 0), (Value.int .i64 (0 : Int)), (Value.string (ByteArray.mk #[])), (Value.slice none 0 0), (Value.int .i64 (0 : Int)), (Value.int .i64 (0 : Int)), (Value.string (ByteArray.mk #[])), (Value.slice none 0 0), (Value.slice none 0 0), (Value.slice none 0 0), (Value.slice none 0 0), (Value.int .i64 (0 : Int))]) (show T_api_Func.E _ (T_api_Func.mk (ByteArray.mk #[102]) ([] : List ByteArray) ([] : List ByteArray) ([] : List T_api_Type) (T_api_Type.mk (0 : Int) (ByteArray.mk #[]) ([] : List T_api_Type)) (T_api_Expr.mk (0 : Int) (0 : Int) (ByteArray.mk #[]) ([] : List ByteArray) ([] : List T_api_Type) ([] : List T_api_Expr) ([] : List T_api_Arm) (0 : Int))) [(Value.string (ByteArray.mk #[102])), (Value.slice none 0 0), (Value.slice none 0 0), (Value.slice none 0 0), (Value.int .i64 (0 : Int)), (Value.string (ByteArray.mk #[])), (Value.slice none 0 0), (Value.int .i64 (0 : Int)), (Value.int .i64 (0 : Int)), (Value.string (ByteArray.mk #[])), (Value.slice none 0 0), (Value.slice none 0 0), (Value.slice none 0 0), (Value.slice none 0 0), (Value.int .i64 (0 : Int))] from ⟨_, _, _, _, _, _, _, _, _, _, _, _, _, _, _, _, rfl, (by exact Nat.le_refl 0), Rd.nil, (by exact Nat.le_refl 0), Rd.nil, (by exact Nat.le_refl 0), Rd.nil, (by exact Nat.le_refl 0), Rd.nil, (by exact Nat.le_refl 0), Rd.nil, (by exact Nat.le_refl 0), Rd.nil, (by exact Nat.le_refl 0), Rd.nil, (by exact Nat.le_refl 0), Rd.nil⟩) rfl CsE.nil)) rfl
    have O45 := O38.nm
    obtain ⟨m46, u47, s52, ⟨⟨r50, k51⟩, _⟩, B48, C49⟩ := O45.lend0 [1]
    replace r50 : Rd 15 T_api_Func.E m46 (some ⟨(Array.size h), 0, none⟩) ([(T_api_Func.mk (ByteArray.mk #[102]) ([] : List ByteArray) ([] : List ByteArray) ([] : List T_api_Type) (T_api_Type.mk (0 : Int) (ByteArray.mk #[]) ([] : List T_api_Type)) (T_api_Expr.mk (0 : Int) (0 : Int) (ByteArray.mk #[]) ([] : List ByteArray) ([] : List T_api_Type) ([] : List T_api_Expr) ([] : List T_api_Arm) (0 : Int)))] : List T_api_Func) := r50
    replace k51 : List.length ([(T_api_Func.mk (ByteArray.mk #[102]) ([] : List ByteArray) ([] : List ByteArray) ([] : List T_api_Type) (T_api_Type.mk (0 : Int) (ByteArray.mk #[]) ([] : List T_api_Type)) (T_api_Expr.mk (0 : Int) (0 : Int) (ByteArray.mk #[]) ([] : List ByteArray) ([] : List T_api_Type) ([] : List T_api_Expr) ([] : List T_api_Arm) (0 : Int)))] : List T_api_Func) ≤ 1 := k51
    refine (trait_Trait.walk (Hold.start (W := No) s52) (show T_api_Trait.E _ (T_api_Trait.mk (ByteArray.mk #[84]) ([(T_api_Func.mk (ByteArray.mk #[102]) ([] : List ByteArray) ([] : List ByteArray) ([] : List T_api_Type) (T_api_Type.mk (0 : Int) (ByteArray.mk #[]) ([] : List T_api_Type)) (T_api_Expr.mk (0 : Int) (0 : Int) (ByteArray.mk #[]) ([] : List ByteArray) ([] : List T_api_Type) ([] : List T_api_Expr) ([] : List T_api_Arm) (0 : Int)))] : List T_api_Func)) [(Value.string (ByteArray.mk #[84])), (Value.slice (some ⟨(Array.size h), 0, none⟩) 1 1)] from ⟨_, _, rfl, k51, r50⟩) g40).mono ?_
    rintro _ h41 ⟨m42, Q43, rfl⟩
    have O53 := Hold.nm (C49 Q43 vfs_nil)
    refine ⟨_, rfl, ?_⟩
    cases e
    exact ⟨_, O53.pick [], rfl⟩
theorem roadlaw2_TraitSays.l0_k.step_l1 (go : (p : roadlaw2_TraitSays.l0_k.Pt) → Option (Bool)) (ih : ∀ p r, go p = some r → roadlaw2_TraitSays.l0_k.I p r) (y_3 y_14 a_112 x_113 x_114 a_124 x_125 x_126) (r) (e : roadlaw2_TraitSays.l0_k.body go (.l1 y_3 y_14 a_112 x_113 x_114 a_124 x_125 x_126) = some r) : roadlaw2_TraitSays.l0_k.I (.l1 y_3 y_14 a_112 x_113 x_114 a_124 x_125 x_126) r := by
  unfold roadlaw2_TraitSays.l0_k.body at e
  intro W h0 m0 h m bk_3 cs_3 bk_14 cs_14 A_112 n_112 c_112 A_124 n_124 c_124 O e_3 e_14 ne_112 k_112 r_112 ne_124 k_124 r_124 tab
  subst ne_112
  subst ne_124
  refine f3.l1_in ?_
  unfold f3.l1T
  refine split_dec_e e (fun c25 e => ?_) (fun c25 e => ?_)
  · obtain ⟨y1, g2, e⟩ := bind_e e
    refine r_124.addr rfl g2 fun a3 cs4 ha5 hc6 he7 => ?_
    refine ⟨_, ldAn O.s hc6 rfl, ?_⟩
    refine O.new fun h8 x9 O10 => ?_
    refine ⟨_, rfl, (T_api_Impl.T.len _ _ _ he7), ?_⟩
    refine O10.stA 2 rfl (T_api_Impl.T.len _ _ _ he7) (T_api_Impl.T.flat _ _ _ he7) fun h12 O13 => ?_
    obtain ⟨A14, c15, q16, k17, r18⟩ := T_api_Impl.g2 he7
    refine ⟨_, ldk (k := 2) (Sub.refl _) (O13.all 2 rfl) q16, _, _, _, rfl, ?_⟩
    obtain ⟨A19, c20, q21, k22, r23⟩ := T_api_Trait.g1 e_14
    refine ⟨_, ldk (k := 1) (Sub.refl _) (O13.all 1 rfl) q21, _, _, _, rfl, ?_⟩
    have O24 := O13.nm
    exact (ih _ _ e) (O24.pick [0, 1, 2]).nm e_3 e_14 he7 rfl k_112 r_112 rfl k_124 r_124 tab
  · exact (ih _ _ e) (O.pick [0]).nm e_3 rfl k_112 r_112 tab
set_option maxHeartbeats 4000000 in
theorem roadlaw2_TraitSays.l0_k.step_l2 (go : (p : roadlaw2_TraitSays.l0_k.Pt) → Option (Bool)) (ih : ∀ p r, go p = some r → roadlaw2_TraitSays.l0_k.I p r) (y_3 y_14 y_16 a_112 x_113 x_114 a_124 x_125 x_126 x_136 x_137) (r) (e : roadlaw2_TraitSays.l0_k.body go (.l2 y_3 y_14 y_16 a_112 x_113 x_114 a_124 x_125 x_126 x_136 x_137) = some r) : roadlaw2_TraitSays.l0_k.I (.l2 y_3 y_14 y_16 a_112 x_113 x_114 a_124 x_125 x_126 x_136 x_137) r := by
  unfold roadlaw2_TraitSays.l0_k.body at e
  intro W h0 m0 h m bk_3 cs_3 bk_14 cs_14 bk_16 cs_16 A_112 n_112 c_112 A_124 n_124 c_124 O e_3 e_14 e_16 ne_112 k_112 r_112 ne_124 k_124 r_124 tab
  subst ne_112
  subst ne_124
  refine f3.l2_in ?_
  unfold f3.l2T
  refine split_dec_e e (fun c64 e => ?_) (fun c64 e => ?_)
  · refine ⟨_, ldAn (Sub.refl _) (O.all 2 rfl) (T_api_Impl.T.len _ _ _ e_16), ?_⟩
    obtain ⟨A1, c2, q3, k4, r5⟩ := T_api_Impl.g2 e_16
    refine ⟨_, ldk (k := 2) (Sub.refl _) (O.all 2 rfl) q3, _, _, _, rfl, ?_⟩
    obtain ⟨y6, g7, e⟩ := bind_e e
    refine r5.addr rfl g7 fun a8 cs9 ha10 hc11 he12 => ?_
    refine ⟨_, ldAn O.s hc11 rfl, ?_⟩
    obtain ⟨A13, c14, q15, k16, r17⟩ := T_api_Trait.g1 e_14
    refine ⟨_, ldk (k := 1) (Sub.refl _) (O.all 1 rfl) q15, _, _, _, rfl, ?_⟩
    obtain ⟨y18, g19, e⟩ := bind_e e
    refine r17.addr rfl g19 fun a20 cs21 ha22 hc23 he24 => ?_
    refine ⟨_, ldAn O.s hc23 rfl, ?_⟩
    refine ⟨_, ldAn (Sub.refl _) (O.all 2 rfl) (T_api_Impl.T.len _ _ _ e_16), ?_⟩
    obtain ⟨A25, c26, q27, k28, r29⟩ := T_api_Impl.g2 e_16
    refine ⟨_, ldk (k := 2) (Sub.refl _) (O.all 2 rfl) q27, _, _, _, rfl, ?_⟩
    obtain ⟨y30, g31, e⟩ := bind_e e
    refine r29.addr rfl g31 fun a32 cs33 ha34 hc35 he36 => ?_
    refine ⟨_, ldAn O.s hc35 rfl, ?_⟩
    obtain ⟨A37, c38, q39, k40, r41⟩ := T_api_Trait.g1 e_14
    refine ⟨_, ldk (k := 1) (Sub.refl _) (O.all 1 rfl) q39, _, _, _, rfl, ?_⟩
    obtain ⟨y42, g43, e⟩ := bind_e e
    refine r41.addr rfl g43 fun a44 cs45 ha46 hc47 he48 => ?_
    refine ⟨_, ldAn O.s hc47 rfl, ?_⟩
    obtain ⟨y49, g50, e⟩ := bind_e e
    refine (trait_Fits.walk (Hold.start (W := No) O.s) e_16 he12 he24 g50).mono ?_
    rintro _ h51 ⟨m52, Q53, rfl⟩
    have O55 := Hold.nm (O.retC Q53 vfs_nil)
    refine ⟨_, rfl, ?_⟩
    refine ⟨ldAn (Sub.refl _) (O55.all 2 rfl) (T_api_Impl.T.len _ _ _ e_16), ?_⟩
    refine ⟨ldk (k := 2) (Sub.refl _) (O55.all 2 rfl) q27, ?_⟩
    refine ⟨ldAn O55.s hc35 rfl, ?_⟩
    refine ⟨ldk (k := 1) (Sub.refl _) (O55.all 1 rfl) q39, ?_⟩
    refine ⟨ldAn O55.s hc47 rfl, ?_⟩
    obtain ⟨y56, g57, e⟩ := bind_e e
    refine (roadref2_FitsErr.walk (Hold.start (W := No) O55.s) e_16 he36 he48 tab g57).mono ?_
    rintro _ h58 ⟨m59, Q60, rfl⟩
    have O62 := Hold.nm (O55.retC Q60 vfs_nil)
    refine ⟨_, rfl, ?_⟩
    refine split_ne_e e (fun c63 e => ?_) (fun c63 e => ?_)
    · cases e
      exact ⟨_, O62.pick [], rfl⟩
    · exact (ih _ _ e) (O62.pick [0, 1, 2]).nm e_3 e_14 e_16 rfl k_112 r_112 rfl k_124 r_124 tab
  · exact (ih _ _ e) (O.pick [0, 1]).nm e_3 e_14 rfl k_112 r_112 rfl k_124 r_124 tab
theorem roadlaw2_TraitSays.l0_k.all {p : roadlaw2_TraitSays.l0_k.Pt} {r : (Bool)} (e : roadlaw2_TraitSays.l0_k.go p = some r) : roadlaw2_TraitSays.l0_k.I p r := fixF_ind (β := fun _ => (Bool)) roadlaw2_TraitSays.l0_k.mono (I := roadlaw2_TraitSays.l0_k.I) (fun go ih p r e => match p with
  | .l0 y_3 a_112 x_113 x_114 => roadlaw2_TraitSays.l0_k.step_l0 go ih y_3 a_112 x_113 x_114 r e
  | .l1 y_3 y_14 a_112 x_113 x_114 a_124 x_125 x_126 => roadlaw2_TraitSays.l0_k.step_l1 go ih y_3 y_14 a_112 x_113 x_114 a_124 x_125 x_126 r e
  | .l2 y_3 y_14 y_16 a_112 x_113 x_114 a_124 x_125 x_126 x_136 x_137 => roadlaw2_TraitSays.l0_k.step_l2 go ih y_3 y_14 y_16 a_112 x_113 x_114 a_124 x_125 x_126 x_136 x_137 r e
  ) e
noncomputable def roadlaw2_TraitSays.j1 (y_3 : T_api_Program) : Option (Bool) :=
  (roadlaw2_TraitSays.l0 y_3 y_3.Traits (((List.length y_3.Traits) : Nat) : Int) (0 : Int))
theorem roadlaw2_TraitSays.j1.walk {W h0 m0 h m bk_3 cs_3 y_3} (O : Hold W h0 m0 h m [rV bk_3 29 cs_3]) (e_3 : T_api_Program.E m y_3 cs_3) (tab : TB m) {r} (e : roadlaw2_TraitSays.j1 y_3 = some r) : f3.j1 (roadlaw2_TraitSays.post W h0 m0 r) (⟨bk_3, 0, none⟩ : Addr) h := by
  unfold roadlaw2_TraitSays.j1 at e
  refine f3.j1_in ?_
  unfold f3.j1T
  obtain ⟨A1, c2, q3, k4, r5⟩ := T_api_Program.g4 e_3
  refine ⟨_, ldk (k := 4) (Sub.refl _) (O.all 0 rfl) q3, _, _, _, rfl, ?_⟩
  exact (roadlaw2_TraitSays.l0_k.all e) (O.pick [0]).nm e_3 rfl k4 r5 tab
noncomputable def roadlaw2_TraitSays.j0 (y_3 : T_api_Program) (y_4 : ByteArray) (y_5 : T_api_Type) : Option (Bool) :=
  Option.bind (trait_Impl y_3 y_4 y_5) fun y1 => Option.bind (slices_IndexFunc_12 y_3.Impls (fun z26 => roadlaw2_TraitSays_2 z26 y_4 y_5)) fun y13 => if y13 < (0 : Int) then (if y1.2 = (4 : Int) then (if y1.1 = (0 : Int) then (if y13 ≥ (0 : Int) then (if y1.2 = (0 : Int) then (if y1.1 = y13 then ((roadlaw2_TraitSays.j1 y_3)) else (some (false))) else (some (false))) else ((roadlaw2_TraitSays.j1 y_3))) else (some (false))) else (some (false))) else (if y13 ≥ (0 : Int) then (if y1.2 = (0 : Int) then (if y1.1 = y13 then ((roadlaw2_TraitSays.j1 y_3)) else (some (false))) else (some (false))) else ((roadlaw2_TraitSays.j1 y_3)))
set_option maxHeartbeats 4000000 in
theorem roadlaw2_TraitSays.j0.walk {W h0 m0 h m bk_3 cs_3 bk_4 cs_4 bk_5 cs_5 y_3 y_4 y_5} (O : Hold W h0 m0 h m [rV bk_3 29 cs_3, rV bk_4 9 cs_4, rV bk_5 32 cs_5]) (e_3 : T_api_Program.E m y_3 cs_3) (e_4 : eStr m y_4 cs_4) (e_5 : T_api_Type.E m y_5 cs_5) (tab : TB m) {r} (e : roadlaw2_TraitSays.j0 y_3 y_4 y_5 = some r) : f3.j0 (roadlaw2_TraitSays.post W h0 m0 r) (⟨bk_3, 0, none⟩ : Addr) (⟨bk_4, 0, none⟩ : Addr) (⟨bk_5, 0, none⟩ : Addr) h := by
  unfold roadlaw2_TraitSays.j0 at e
  obtain rfl : cs_4 = [(Value.string y_4)] := e_4
  refine f3.j0_in ?_
  unfold f3.j0T
  refine ⟨_, ldAn (Sub.refl _) (O.all 0 rfl) (T_api_Program.T.len _ _ _ e_3), ?_⟩
  refine ⟨_, ld0 (Sub.refl _) (O.all 1 rfl) rfl, _, rfl, ?_⟩
  refine ⟨_, ldAn (Sub.refl _) (O.all 2 rfl) (T_api_Type.T.len _ _ _ e_5), ?_⟩
  obtain ⟨y1, g2, e⟩ := bind_e e
  refine (trait_Impl.walk (Hold.start (W := No) O.s) e_3 e_5 g2).mono ?_
  rintro _ h3 ⟨m4, Q5, rfl⟩
  have O7 := Hold.nm (O.retC Q5 vfs_nil)
  refine ⟨_, _, rfl, ?_⟩
  obtain ⟨A8, c9, q10, k11, r12⟩ := T_api_Program.g5 e_3
  refine ⟨_, ldk (k := 5) (Sub.refl _) (O7.all 0 rfl) q10, _, _, _, rfl, ?_⟩
  obtain ⟨y13, g14, e⟩ := bind_e e
  obtain ⟨m19, u20, s25, ⟨hb23, hb24, _⟩, B21, C22⟩ := O7.lend0 [1, 2]
  refine (slices_IndexFunc_12.walk (Hold.start (W := No) s25) rfl k11 (r12.sub T_api_Impl.T u20) (fun h27 m28 u29 s30 y33 cs33 he33 r31 e32 => CallF.of [Value.agg cs33.toArray, Value.pointer (some ⟨bk_4, 0, none⟩), Value.pointer (some ⟨bk_5, 0, none⟩)] f13.ok rfl ((roadlaw2_TraitSays_2.walk (Hold.start (W := No) s30) he33 (VB.sub (show VB eStr _ _ _ from ⟨_, _, hb23, nn, rfl⟩) tell_str u29) (VB.sub (show VB T_api_Type.E _ _ _ from ⟨_, _, hb24, nn_len (T_api_Type.T.len _ _ _ e_5), (T_api_Type.T.mono _ _ _ _ u20 e_5)⟩) T_api_Type.T u29) (TB.sub (TB.sub tab u20) u29) e32).mono (fun _ _ h => let ⟨_, t, e⟩ := h; ⟨e, t.S.ext⟩))) g14).mono ?_
  rintro _ h15 ⟨m16, Q17, rfl⟩
  have O34 := Hold.nm (C22 Q17 vfs_nil)
  refine ⟨_, rfl, ?_⟩
  refine split_dec_e e (fun c43 e => ?_) (fun c43 e => ?_)
  · refine split_ne_e e (fun c39 e => ?_) (fun c39 e => ?_)
    · cases e
      exact ⟨_, O34.pick [], rfl⟩
    · refine split_ne_e e (fun c38 e => ?_) (fun c38 e => ?_)
      · cases e
        exact ⟨_, O34.pick [], rfl⟩
      · refine split_dec_e e (fun c37 e => ?_) (fun c37 e => ?_)
        · refine split_ne_e e (fun c36 e => ?_) (fun c36 e => ?_)
          · cases e
            exact ⟨_, O34.pick [], rfl⟩
          · refine split_ne_e e (fun c35 e => ?_) (fun c35 e => ?_)
            · cases e
              exact ⟨_, O34.pick [], rfl⟩
            · exact roadlaw2_TraitSays.j1.walk (O34.pick [0]).nm e_3 tab e
        · exact roadlaw2_TraitSays.j1.walk (O34.pick [0]).nm e_3 tab e
  · refine split_dec_e e (fun c42 e => ?_) (fun c42 e => ?_)
    · refine split_ne_e e (fun c41 e => ?_) (fun c41 e => ?_)
      · cases e
        exact ⟨_, O34.pick [], rfl⟩
      · refine split_ne_e e (fun c40 e => ?_) (fun c40 e => ?_)
        · cases e
          exact ⟨_, O34.pick [], rfl⟩
        · exact roadlaw2_TraitSays.j1.walk (O34.pick [0]).nm e_3 tab e
    · exact roadlaw2_TraitSays.j1.walk (O34.pick [0]).nm e_3 tab e
noncomputable def roadlaw2_TraitSays (y_0 : T_api_Program) (s_1 : ByteArray) (y_2 : T_api_Type) : Option (Bool) :=
  Option.bind (trait_Program y_0) fun y13 => Option.bind (roadref2_TraitsOf y_0) fun y20 => if y13 = y20 then (Option.bind (slices_IndexFunc_8 y_0.Traits (fun z44 => roadlaw2_TraitSays_1 z44 s_1)) fun y32 => Option.bind (trait_Find y_0 s_1) fun y53 => if y32 < (0 : Int) then (if y53.2 = (11 : Int) then (if y53.1.Name = (ByteArray.mk #[]) then (if (((List.length y53.1.Funcs) : Nat) : Int) > (0 : Int) then (some (false)) else (if y32 ≥ (0 : Int) then (if y53.2 = (0 : Int) then (if y53.1.Name = s_1 then (Option.bind (gi y_0.Traits y32) fun y87 => if (((List.length y53.1.Funcs) : Nat) : Int) = (((List.length y87.Funcs) : Nat) : Int) then ((roadlaw2_TraitSays.j0 y_0 s_1 y_2)) else (some (false))) else (some (false))) else (some (false))) else ((roadlaw2_TraitSays.j0 y_0 s_1 y_2)))) else (some (false))) else (some (false))) else (if y32 ≥ (0 : Int) then (if y53.2 = (0 : Int) then (if y53.1.Name = s_1 then (Option.bind (gi y_0.Traits y32) fun y122 => if (((List.length y53.1.Funcs) : Nat) : Int) = (((List.length y122.Funcs) : Nat) : Int) then ((roadlaw2_TraitSays.j0 y_0 s_1 y_2)) else (some (false))) else (some (false))) else (some (false))) else ((roadlaw2_TraitSays.j0 y_0 s_1 y_2)))) else (some (false))
set_option maxHeartbeats 4000000 in
theorem roadlaw2_TraitSays.walk {W h m cs_0 cs_2 y_0 s_1 y_2} (O : Hold W h m h m []) (e_0 : T_api_Program.E m y_0 cs_0) (e_2 : T_api_Type.E m y_2 cs_2) (tab : TB m) {r} (e : roadlaw2_TraitSays y_0 s_1 y_2 = some r) : Run Tryd.prog 3 #[Value.agg cs_0.toArray, Value.string s_1, Value.agg cs_2.toArray] h (roadlaw2_TraitSays.post W h m r) := by
  unfold roadlaw2_TraitSays at e
  refine f3.run ?_
  unfold f3.runT
  refine O.new fun h1 x2 O3 => ?_
  refine O3.new fun h5 x6 O7 => ?_
  refine O7.new fun h9 x10 O11 => ?_
  refine ⟨_, ldAn (Sub.refl _) (O11.all 0 rfl) (T_api_Program.T.len _ _ _ e_0), ?_⟩
  refine ⟨_, ldAn (Sub.refl _) (O11.all 0 rfl) (T_api_Program.T.len _ _ _ e_0), ?_⟩
  obtain ⟨y13, g14, e⟩ := bind_e e
  refine (trait_Program.walk (Hold.start (W := No) O11.s) e_0 g14).mono ?_
  rintro _ h15 ⟨m16, Q17, rfl⟩
  have O19 := Hold.nm (O11.retC Q17 vfs_nil)
  refine ⟨_, rfl, ?_⟩
  refine ⟨ldAn (Sub.refl _) (O19.all 0 rfl) (T_api_Program.T.len _ _ _ e_0), ?_⟩
  obtain ⟨y20, g21, e⟩ := bind_e e
  refine (roadref2_TraitsOf.walk (Hold.start (W := No) O19.s) e_0 tab g21).mono ?_
  rintro _ h22 ⟨m23, Q24, rfl⟩
  have O26 := Hold.nm (O19.retC Q24 vfs_nil)
  refine ⟨_, rfl, ?_⟩
  refine split_ne_e e (fun c143 e => ?_) (fun c143 e => ?_)
  · cases e
    exact ⟨_, O26.pick [], rfl⟩
  · obtain ⟨A27, c28, q29, k30, r31⟩ := T_api_Program.g4 e_0
    refine ⟨_, ldk (k := 4) (Sub.refl _) (O26.all 0 rfl) q29, _, _, _, rfl, ?_⟩
    obtain ⟨y32, g33, e⟩ := bind_e e
    obtain ⟨m38, u39, s43, ⟨hb42, _⟩, B40, C41⟩ := O26.lend0 [1]
    refine (slices_IndexFunc_8.walk (Hold.start (W := No) s43) rfl k30 (r31.sub T_api_Trait.T u39) (fun h45 m46 u47 s48 y51 cs51 he51 r49 e50 => CallF.of [Value.agg cs51.toArray, Value.pointer (some ⟨(Array.size h1), 0, none⟩)] f9.ok rfl ((roadlaw2_TraitSays_1.walk (Hold.start (W := No) s48) he51 (VB.sub (show VB eStr _ _ _ from ⟨_, _, hb42, nn, rfl⟩) tell_str u47) e50).mono (fun _ _ h => let ⟨_, t, e⟩ := h; ⟨e, t.S.ext⟩))) g33).mono ?_
    rintro _ h34 ⟨m35, Q36, rfl⟩
    have O52 := Hold.nm (C41 Q36 vfs_nil)
    refine ⟨_, rfl, ?_⟩
    refine ⟨_, ldAn (Sub.refl _) (O52.all 0 rfl) (T_api_Program.T.len _ _ _ e_0), ?_⟩
    refine ⟨_, ld0 (Sub.refl _) (O52.all 1 rfl) rfl, _, rfl, ?_⟩
    obtain ⟨y53, g54, e⟩ := bind_e e
    refine (trait_Find.walk (Hold.start (W := No) O52.s) e_0 g54).mono ?_
    rintro _ h55 ⟨m56, cs60, Q57, rfl, he61⟩
    have O62 := Hold.nm (O52.ret Q57)
    refine ⟨_, _, rfl, ?_⟩
    refine O62.new fun h63 x64 O65 => ?_
    refine ⟨_, rfl, (T_api_Trait.T.len _ _ _ he61), ?_⟩
    refine O65.stA 3 rfl (T_api_Trait.T.len _ _ _ he61) (T_api_Trait.T.flat _ _ _ he61) fun h67 O68 => ?_
    refine split_dec_e e (fun c142 e => ?_) (fun c142 e => ?_)
    · refine split_ne_e e (fun c110 e => ?_) (fun c110 e => ?_)
      · have O69 := O68.nm
        cases e
        exact ⟨_, O69.pick [], rfl⟩
      · refine ⟨_, ld0 (Sub.refl _) (O68.all 3 rfl) (T_api_Trait.g0 he61), _, rfl, ?_⟩
        try rw [ba_list y53.1.Name (ByteArray.mk #[])]
        refine split_not ?_
        refine split_dec_e e (fun c109 e => ?_) (fun c109 e => ?_)
        · obtain ⟨A70, c71, q72, k73, r74⟩ := T_api_Trait.g1 he61
          refine ⟨_, ldk (k := 1) (Sub.refl _) (O68.all 3 rfl) q72, _, _, _, rfl, ?_⟩
          refine split_dec_e e (fun c107 e => ?_) (fun c107 e => ?_)
          · have O75 := O68.nm
            cases e
            exact ⟨_, O75.pick [], rfl⟩
          · refine split_dec_e e (fun c106 e => ?_) (fun c106 e => ?_)
            · refine split_ne_e e (fun c104 e => ?_) (fun c104 e => ?_)
              · have O76 := O68.nm
                cases e
                exact ⟨_, O76.pick [], rfl⟩
              · refine ⟨_, ld0 (Sub.refl _) (O68.all 3 rfl) (T_api_Trait.g0 he61), _, rfl, ?_⟩
                refine ⟨_, ld0 (Sub.refl _) (O68.all 1 rfl) rfl, _, rfl, ?_⟩
                try rw [ba_list y53.1.Name s_1]
                refine split_not ?_
                refine split_dec_e e (fun c103 e => ?_) (fun c103 e => ?_)
                · obtain ⟨A77, c78, q79, k80, r81⟩ := T_api_Trait.g1 he61
                  refine ⟨_, ldk (k := 1) (Sub.refl _) (O68.all 3 rfl) q79, _, _, _, rfl, ?_⟩
                  obtain ⟨A82, c83, q84, k85, r86⟩ := T_api_Program.g4 e_0
                  refine ⟨_, ldk (k := 4) (Sub.refl _) (O68.all 0 rfl) q84, _, _, _, rfl, ?_⟩
                  obtain ⟨y87, g88, e⟩ := bind_e e
                  refine (r86.sub T_api_Trait.T Q57.S.up).addr rfl g88 fun a89 cs90 ha91 hc92 he93 => ?_
                  obtain ⟨A94, c95, q96, k97, r98⟩ := T_api_Trait.g1 he93
                  refine ⟨_, ldk (k := 1) O68.s hc92 q96, _, _, _, rfl, ?_⟩
                  refine split_ne_e e (fun c101 e => ?_) (fun c101 e => ?_)
                  · have O99 := O68.nm
                    cases e
                    exact ⟨_, O99.pick [], rfl⟩
                  · have O100 := O68.nm
                    exact roadlaw2_TraitSays.j0.walk (O100.pick [0, 1, 2]).nm (T_api_Program.T.mono _ _ _ _ Q57.S.up e_0) rfl (T_api_Type.T.mono _ _ _ _ Q57.S.up e_2) (TB.sub tab Q57.S.up) e
                · have O102 := O68.nm
                  cases e
                  exact ⟨_, O102.pick [], rfl⟩
            · have O105 := O68.nm
              exact roadlaw2_TraitSays.j0.walk (O105.pick [0, 1, 2]).nm (T_api_Program.T.mono _ _ _ _ Q57.S.up e_0) rfl (T_api_Type.T.mono _ _ _ _ Q57.S.up e_2) (TB.sub tab Q57.S.up) e
        · have O108 := O68.nm
          cases e
          exact ⟨_, O108.pick [], rfl⟩
    · refine split_dec_e e (fun c141 e => ?_) (fun c141 e => ?_)
      · refine split_ne_e e (fun c139 e => ?_) (fun c139 e => ?_)
        · have O111 := O68.nm
          cases e
          exact ⟨_, O111.pick [], rfl⟩
        · refine ⟨_, ld0 (Sub.refl _) (O68.all 3 rfl) (T_api_Trait.g0 he61), _, rfl, ?_⟩
          refine ⟨_, ld0 (Sub.refl _) (O68.all 1 rfl) rfl, _, rfl, ?_⟩
          try rw [ba_list y53.1.Name s_1]
          refine split_not ?_
          refine split_dec_e e (fun c138 e => ?_) (fun c138 e => ?_)
          · obtain ⟨A112, c113, q114, k115, r116⟩ := T_api_Trait.g1 he61
            refine ⟨_, ldk (k := 1) (Sub.refl _) (O68.all 3 rfl) q114, _, _, _, rfl, ?_⟩
            obtain ⟨A117, c118, q119, k120, r121⟩ := T_api_Program.g4 e_0
            refine ⟨_, ldk (k := 4) (Sub.refl _) (O68.all 0 rfl) q119, _, _, _, rfl, ?_⟩
            obtain ⟨y122, g123, e⟩ := bind_e e
            refine (r121.sub T_api_Trait.T Q57.S.up).addr rfl g123 fun a124 cs125 ha126 hc127 he128 => ?_
            obtain ⟨A129, c130, q131, k132, r133⟩ := T_api_Trait.g1 he128
            refine ⟨_, ldk (k := 1) O68.s hc127 q131, _, _, _, rfl, ?_⟩
            refine split_ne_e e (fun c136 e => ?_) (fun c136 e => ?_)
            · have O134 := O68.nm
              cases e
              exact ⟨_, O134.pick [], rfl⟩
            · have O135 := O68.nm
              exact roadlaw2_TraitSays.j0.walk (O135.pick [0, 1, 2]).nm (T_api_Program.T.mono _ _ _ _ Q57.S.up e_0) rfl (T_api_Type.T.mono _ _ _ _ Q57.S.up e_2) (TB.sub tab Q57.S.up) e
          · have O137 := O68.nm
            cases e
            exact ⟨_, O137.pick [], rfl⟩
      · have O140 := O68.nm
        exact roadlaw2_TraitSays.j0.walk (O140.pick [0, 1, 2]).nm (T_api_Program.T.mono _ _ _ _ Q57.S.up e_0) rfl (T_api_Type.T.mono _ _ _ _ Q57.S.up e_2) (TB.sub tab Q57.S.up) e
end Go.Proofs.YtkbhpagogmmgnaaDoor.Fw

end
section
namespace Go.Proofs.YtkbhpagogmmgnaaDoor.Fw
open Go Go.Hw Go.Proofs
set_option linter.unusedVariables false
set_option linter.unusedSectionVars false
abbrev Pg := T_api_Program
def BA0 : ByteArray := ByteArray.mk #[]
def cat : List ByteArray → ByteArray
  | [] => BA0
  | a :: l => a ++ cat l
theorem ba0_size : BA0.size = 0 := rfl
theorem app_size (a b : ByteArray) : (a ++ b).size = a.size + b.size := ByteArray.size_append
theorem app_assoc (a b c : ByteArray) : a ++ b ++ c = a ++ (b ++ c) := ByteArray.append_assoc
theorem app_nil (a : ByteArray) : a ++ BA0 = a := ByteArray.append_empty
theorem nil_app (a : ByteArray) : BA0 ++ a = a := ByteArray.empty_append
theorem cat_size : ∀ l : List ByteArray, (cat l).size = (l.map ByteArray.size).sum
  | [] => rfl
  | a :: l => by rw [cat, app_size, cat_size l, List.map_cons, List.sum_cons]
theorem cat_one (a : ByteArray) : cat [a] = a := by rw [cat, cat, app_nil]
theorem cat_loop' {α β : Type} {F : ByteArray → Int → Option β} {r : Option β} {l : List α} {T : α → ByteArray}
    (step : ∀ (s : ByteArray) (i : Nat) (hi : i < l.length), s.size + (T l[i]).size ≤ 1000000000000000 → F s (i : Int) = F (s ++ T l[i]) ((i + 1 : Nat) : Int))
    (s : ByteArray) (hs : s.size + (cat (l.map T)).size ≤ 1000000000000000) (fin : F (s ++ cat (l.map T)) (l.length : Int) = r) : F s 0 = r := by
  have key : ∀ (d i : Nat) (s : ByteArray), d + i = l.length → s.size + (cat ((l.drop i).map T)).size ≤ 1000000000000000 → F s (i : Int) = F (s ++ cat ((l.drop i).map T)) (l.length : Int) := by
    intro d
    induction d with
    | zero =>
      intro i s hi hs
      obtain rfl : i = l.length := by omega
      rw [List.drop_length]
      show _ = F (s ++ BA0) _
      rw [app_nil]
    | succ d ih =>
      intro i s hi hs
      have hlt : i < l.length := by omega
      rw [List.drop_eq_getElem_cons hlt, List.map_cons] at hs ⊢
      rw [cat, app_size] at hs
      rw [step s i hlt (by omega), ih (i + 1) _ (by omega) (by rw [app_size]; omega), cat, app_assoc]
  have := key l.length 0 s (by omega) (by rw [List.drop_zero]; exact hs)
  rw [List.drop_zero] at this
  exact this.trans fin
theorem cat_loop {α β : Type} {F : ByteArray → Int → Option β} {E : ByteArray → Option β} {l : List α} {T : α → ByteArray}
    (step : ∀ (s : ByteArray) (i : Nat) (hi : i < l.length), s.size + (T l[i]).size ≤ 1000000000000000 → F s (i : Int) = F (s ++ T l[i]) ((i + 1 : Nat) : Int))
    (fin : ∀ s, F s (l.length : Int) = E s) (s : ByteArray) (hs : s.size + (cat (l.map T)).size ≤ 1000000000000000) : F s 0 = E (s ++ cat (l.map T)) := cat_loop' step s hs (fin _)
theorem sum_le {α : Type} {f g : α → Nat} : ∀ {l : List α}, (∀ x ∈ l, f x ≤ g x) → (l.map f).sum ≤ (l.map g).sum
  | [], _ => Nat.le_refl _
  | x :: l, h => by
    rw [List.map_cons, List.map_cons, List.sum_cons, List.sum_cons]
    exact Nat.add_le_add (h x (List.mem_cons_self ..)) (sum_le fun y hy => h y (List.mem_cons_of_mem _ hy))
theorem sum_mul {α : Type} (f : α → Nat) (k : Nat) : ∀ l : List α, (l.map fun x => k * f x).sum = k * (l.map f).sum
  | [] => rfl
  | x :: l => by rw [List.map_cons, List.map_cons, List.sum_cons, List.sum_cons, sum_mul f k l, Nat.mul_add]
theorem le_sum {α : Type} {f : α → Nat} : ∀ {l : List α} {x : α}, x ∈ l → f x ≤ (l.map f).sum
  | y :: l, x, h => by
    rw [List.map_cons, List.sum_cons]
    rcases List.mem_cons.1 h with rfl | h
    · omega
    · have := le_sum (f := f) h; omega
theorem cat_le {α : Type} {T : α → ByteArray} {g : α → Nat} {l : List α} (h : ∀ x ∈ l, (T x).size ≤ 22 * g x) : (cat (l.map T)).size ≤ 22 * (l.map g).sum := by
  rw [cat_size, List.map_map, ← sum_mul]
  exact sum_le h
theorem len_le_sum {α : Type} {f : α → Nat} : ∀ {l : List α}, (∀ x ∈ l, 1 ≤ f x) → l.length ≤ (l.map f).sum
  | [], _ => Nat.le_refl _
  | x :: l, h => by
    rw [List.map_cons, List.sum_cons, List.length_cons]
    have := h x (List.mem_cons_self ..); have := len_le_sum fun y hy => h y (List.mem_cons_of_mem x hy); omega
def i64 (x : Int) : Prop := -9223372036854775808 ≤ x ∧ x ≤ 9223372036854775807
theorem i64_nat {n : Nat} (h : n ≤ 1000000000000000) : i64 (n : Int) := ⟨by omega, by omega⟩
def nm1 (x : Int) : ByteArray := itoaB x ++ ByteArray.mk #[44]
def nm (l : List Int) : ByteArray := cat (l.map nm1)
def tx1 (s : ByteArray) : ByteArray := nm [(s.size : Int)] ++ s
def tx (l : List ByteArray) : ByteArray := cat (l.map tx1)
theorem nm1_size {x : Int} (h : i64 x) : (nm1 x).size ≤ 22 := by
  unfold nm1
  rw [app_size]
  have h1 : (itoaB x).size = (Lib.itoa x).length := by unfold itoaB; show (Lib.itoa x).toArray.size = _; simp
  have h2 := Lib.itoa_length_le x h.1 h.2
  have h3 : (ByteArray.mk #[44]).size = 1 := rfl
  omega
theorem nm_size {l : List Int} (h : ∀ x ∈ l, i64 x) : (nm l).size ≤ 22 * l.length := by
  have := cat_le (T := nm1) (g := fun _ => 1) (l := l) fun x hx => nm1_size (h x hx)
  rw [List.map_const', List.sum_replicate_nat] at this
  unfold nm; omega
theorem itoa_val {x : Int} (h : i64 x) : strconv_Itoa x = some (itoaB x) := by unfold strconv_Itoa; rw [if_pos (show -9223372036854775808 ≤ x ∧ x ≤ 9223372036854775807 from h)]
theorem nums_val {l : List Int} (h : ∀ x ∈ l, i64 x) (hl : l.length ≤ 10000000000000) : roadref2_nums l = some (nm l) := by
  have hs := nm_size h
  unfold roadref2_nums
  have := cat_loop (F := fun s i => roadref2_nums.l0 s l (l.length : Int) i) (E := fun s => some s) (l := l) (T := nm1) (fun s i hi hs => by
    have hx := nm1_size (h _ (List.getElem_mem hi))
    have e1 : (nm1 l[i]).size = (itoaB l[i]).size + (ByteArray.mk #[44]).size := app_size ..
    rw [roadref2_nums.l0_eq, if_pos (by omega), gi_at hi, Option.bind_some, itoa_val (h _ (List.getElem_mem hi)), Option.bind_some, if_pos (by omega), if_pos (by show _ + (nm1 l[i]).size ≤ _; omega), w_succ (by omega)]
    rfl) (fun s => by rw [roadref2_nums.l0_eq, if_neg (by omega)]) BA0 (by rw [ba0_size]; unfold nm at hs; omega)
  rw [nil_app] at this
  exact this
theorem tx1_size {s : ByteArray} (h : s.size ≤ 1000000000000000) : (tx1 s).size ≤ 22 + s.size := by
  unfold tx1
  rw [app_size]
  have := nm_size (l := [(s.size : Int)]) (by intro x hx; rw [List.mem_singleton.1 hx]; exact i64_nat h)
  simp only [List.length_cons, List.length_nil] at this
  omega
theorem tx_size {l : List ByteArray} (h : ∀ s ∈ l, s.size ≤ 1000000000000000) : (tx l).size ≤ 22 * (l.map fun s => s.size + 1).sum :=
  cat_le fun s hs => by have := tx1_size (h s hs); omega
theorem texts_val {l : List ByteArray} (h : (l.map fun s => s.size + 1).sum ≤ 10000000000000) : roadref2_texts l = some (tx l) := by
  have h1 : ∀ s ∈ l, s.size + 1 ≤ 10000000000000 := fun s hs => Nat.le_trans (le_sum (f := fun s : ByteArray => s.size + 1) hs) h
  have hs := tx_size (l := l) fun s hs => by have := h1 s hs; omega
  have hlen : l.length ≤ 10000000000000 := Nat.le_trans (len_le_sum (f := fun s : ByteArray => s.size + 1) fun _ _ => by omega) h
  unfold roadref2_texts
  have := cat_loop (F := fun s i => roadref2_texts.l0 s l (l.length : Int) i) (E := fun s => some s) (l := l) (T := tx1) (fun s i hi hs => by
    have hx := h1 _ (List.getElem_mem hi)
    have e1 : (tx1 l[i]).size = (nm [((l[i]).size : Int)]).size + (l[i]).size := app_size ..
    rw [roadref2_texts.l0_eq, if_pos (by omega), gi_at hi, Option.bind_some, nums_val (by intro x hx'; rw [List.mem_singleton.1 hx']; exact i64_nat (by omega)) (by simp), Option.bind_some, if_pos (by omega), if_pos (by show _ + (tx1 l[i]).size ≤ _; omega), w_succ (by omega)]
    rfl) (fun s => by rw [roadref2_texts.l0_eq, if_neg (by omega)]) BA0 (by rw [ba0_size]; unfold tx at hs; omega)
  rw [nil_app] at this
  exact this
theorem tx_one (s : ByteArray) : tx [s] = tx1 s := cat_one _
theorem text_val {s : ByteArray} (h : s.size ≤ 5000000000000) : roadref2_texts [s] = some (tx1 s) := by
  rw [texts_val (by simp; omega), tx_one]
noncomputable def TM (t : T_api_Type) : ByteArray := (roadref2_TypeMark t).getD BA0
theorem getD_of {α : Type} {o : Option α} {x d : α} (h : o = some x) : o.getD d = x := by rw [h]; rfl
theorem i64_2 {a b : Int} (ha : i64 a) (hb : i64 b) : ∀ x ∈ [a, b], i64 x := by
  intro x hx; simp only [List.mem_cons, List.mem_nil_iff, or_false] at hx; rcases hx with rfl | rfl <;> assumption
theorem i64_1 {a : Int} (ha : i64 a) : ∀ x ∈ [a], i64 x := by
  intro x hx; rw [List.mem_singleton.1 hx]; exact ha
theorem tbulk (t : T_api_Type) : t.bulk = t.Name.size + (t.Args.map T_api_Type.bulk).sum + 4 := by rw [T_api_Type.bulk_eq]; omega
theorem tbulk_pos (t : T_api_Type) : 1 ≤ t.bulk := by rw [tbulk]; omega
theorem type_mark : ∀ (n : Nat) (t : T_api_Type), t.bulk ≤ n → n ≤ 2000000000000 → t.Q →
    roadref2_TypeMark t = some (TM t) ∧ (TM t).size ≤ 22 * t.bulk ∧ TM t = nm [t.Kind, (t.Args.length : Int)] ++ tx1 t.Name ++ cat (t.Args.map TM) := by
  intro n
  induction n with
  | zero => intro t h; have := tbulk_pos t; omega
  | succ n ih =>
    intro t hn hN q
    obtain ⟨q1, q2, q3, q4⟩ := T_api_Type.Q_iff.1 q
    have hb := tbulk t
    have hlen : t.Args.length ≤ (t.Args.map T_api_Type.bulk).sum := len_le_sum fun x _ => tbulk_pos x
    have hc : ∀ x ∈ t.Args, roadref2_TypeMark x = some (TM x) ∧ (TM x).size ≤ 22 * x.bulk := fun x hx => by
      have := le_sum (f := T_api_Type.bulk) hx
      have := ih x (by omega) (by omega) (q4 x hx)
      exact ⟨this.1, this.2.1⟩
    have hcat := cat_le (T := TM) (g := T_api_Type.bulk) (l := t.Args) fun x hx => (hc x hx).2
    have hk : ∀ x ∈ [t.Kind, (t.Args.length : Int)], i64 x := i64_2 q1 (i64_nat (by omega))
    have h1 := nm_size hk
    have h2 := tx1_size (s := t.Name) (by omega)
    simp only [List.length_cons, List.length_nil] at h1
    have e : roadref2_TypeMark t = some (nm [t.Kind, (t.Args.length : Int)] ++ tx1 t.Name ++ cat (t.Args.map TM)) := by
      rw [roadref2_TypeMark_eq, nums_val hk (by simp), Option.bind_some, text_val (by omega), Option.bind_some, if_pos (by omega), roadref2_TypeMark.j0_eq]
      exact cat_loop (F := fun s i => roadref2_TypeMark.l0 s t.Args (t.Args.length : Int) i) (E := fun s => some s) (l := t.Args) (T := TM) (fun s i hi hs => by
        rw [roadref2_TypeMark.l0_eq, if_pos (by omega), gi_at hi, Option.bind_some, (hc _ (List.getElem_mem hi)).1, Option.bind_some, if_pos (by omega), w_succ (by omega)]) (fun s => by rw [roadref2_TypeMark.l0_eq, if_neg (by omega)]) _ (by rw [app_size]; omega)
    have e2 : TM t = _ := getD_of e
    refine ⟨by rw [e, e2], ?_, e2⟩
    rw [e2, app_size, app_size]; omega
theorem gen_loop {α β γ : Type} {l : List α} {F : β → Int → Option γ} {g : β → α → β} (P : List α → β → Prop)
    (step : ∀ (s : β) (i : Nat) (hi : i < l.length), P (l[i] :: l.drop (i + 1)) s → F s (i : Int) = F (g s l[i]) ((i + 1 : Nat) : Int) ∧ P (l.drop (i + 1)) (g s l[i])) (s : β) (h : P l s) : F s 0 = F (l.foldl g s) (l.length : Int) := by
  have key : ∀ (d i : Nat) (s : β), l.length - i = d → i ≤ l.length → P (l.drop i) s → F s (i : Int) = F ((l.drop i).foldl g s) (l.length : Int) := by
    intro d
    induction d with
    | zero =>
      intro i s hd hi _
      obtain rfl : i = l.length := by omega
      rw [List.drop_length, List.foldl_nil]
    | succ d ih =>
      intro i s hd hi hP
      have hlt : i < l.length := by omega
      rw [List.drop_eq_getElem_cons hlt] at hP ⊢
      have := step s i hlt hP
      rw [this.1, ih (i + 1) _ (by omega) hlt this.2, List.foldl_cons]
  have := key l.length 0 s (by omega) (by omega) (by rw [List.drop_zero]; exact h)
  rw [List.drop_zero] at this
  exact this
theorem fold_app {α β : Type} (T : α → List β) : ∀ (l : List α) (x : List β), l.foldl (fun s a => s ++ T a) x = x ++ l.flatMap T
  | [], x => by simp
  | a :: l, x => by rw [List.foldl_cons, fold_app T l, List.flatMap_cons, List.append_assoc]
theorem app_loop {α β γ : Type} {l : List α} {F : List β → Int → Option γ} {T : α → List β} {B : Nat} (step : ∀ (s : List β) (i : Nat) (hi : i < l.length), s.length + (T l[i]).length ≤ B → F s (i : Int) = F (s ++ T l[i]) ((i + 1 : Nat) : Int)) (x : List β) (hB : x.length + (l.map fun a => (T a).length).sum ≤ B) : F x 0 = F (x ++ l.flatMap T) (l.length : Int) := by
  rw [← fold_app]
  exact gen_loop (F := F) (g := fun s a => s ++ T a) (fun r s => s.length + (r.map fun a => (T a).length).sum ≤ B) (fun s i hi h => by
    rw [List.map_cons, List.sum_cons] at h
    exact ⟨step s i hi (by omega), by show (s ++ T l[i]).length + _ ≤ B; rw [List.length_append]; omega⟩) x hB
theorem flat_one {α β : Type} (f : α → β) : ∀ l : List α, l.flatMap (fun x => [f x]) = l.map f
  | [] => rfl
  | a :: l => by rw [List.flatMap_cons, flat_one f l]; rfl
theorem map_loop {α β γ : Type} {l : List α} {F : List β → Int → Option γ} {f : α → β} {B : Nat} (step : ∀ (s : List β) (i : Nat) (hi : i < l.length), s.length + 1 ≤ B → F s (i : Int) = F (s ++ [f l[i]]) ((i + 1 : Nat) : Int)) (hB : l.length ≤ B) : F [] 0 = F (l.map f) (l.length : Int) := by
  have := app_loop (l := l) (F := F) (T := fun x => [f x]) (B := B) (fun s i hi h => step s i hi h) [] (by
    have : ∀ l : List α, (l.map fun a => [f a].length).sum = l.length := fun l => by induction l with
      | nil => rfl
      | cons a l ih => rw [List.map_cons, List.sum_cons, ih, List.length_cons, List.length_cons, List.length_nil]; omega
    rw [this, List.length_nil]; omega)
  rw [flat_one, List.nil_append] at this
  exact this
theorem nlt (n : Int) : ¬ n < n := by omega
abbrev Ty := T_api_Type
instance memBA (n : ByteArray) (l : List ByteArray) : Decidable (n ∈ l) := @List.instDecidableMemOfLawfulBEq ByteArray instBEqOfDecidableEq inferInstance n l
theorem has_val {l : List ByteArray} (s : ByteArray) (hl : l.length ≤ 4000000) : slices_Contains_22 l s = some (decide (s ∈ l)) := by
  rw [slices_Contains_22.val s (by omega)]
  congr 1
  by_cases h : s ∈ l
  · rw [decide_eq_true h, List.any_eq_true]
    exact ⟨s, h, decide_eq_true rfl⟩
  · rw [decide_eq_false h, List.any_eq_false]
    intro x hx e
    exact h (by rw [of_decide_eq_true e]; exact hx)
theorem targs_len (t : Ty) : t.Args.length + 1 ≤ t.bulk := by
  have h : t.Args.length ≤ (t.Args.map T_api_Type.bulk).sum := len_le_sum fun x _ => tbulk_pos x
  have := tbulk t; omega
theorem targ_bulk {t x : Ty} (h : x ∈ t.Args) : x.bulk < t.bulk := by
  have := le_sum (f := T_api_Type.bulk) h
  have := tbulk t; omega
theorem concatT {a b : List Ty} (h : a.length + b.length ≤ 100000000) : slices_Concat_47 [a, b] = some (a ++ b) := by
  rw [slices_Concat_47.val [a, b] (by simp) (by simp only [List.flatten_cons, List.flatten_nil, List.append_nil, List.length_append]; omega)]
  simp
theorem type_eta (t : Ty) : T_api_Type.mk t.Kind t.Name t.Args = t := by cases t; rfl
theorem set_loop {α γ : Type} {l : List α} {F : List α → Int → Option γ} {f : α → α} (step : ∀ (s : List α) (i : Nat) (hi : i < l.length), s.length = l.length → s[i]? = some l[i] → F s (i : Int) = F (s.set i (f l[i])) ((i + 1 : Nat) : Int)) : F l 0 = F (l.map f) (l.length : Int) := by
  have key : ∀ (d i : Nat), l.length - i = d → i ≤ l.length → F ((l.take i).map f ++ l.drop i) (i : Int) = F (l.map f) (l.length : Int) := by
    intro d
    induction d with
    | zero =>
      intro i hd hi
      obtain rfl : i = l.length := by omega
      rw [List.take_length, List.drop_length, List.append_nil]
    | succ d ih =>
      intro i hd hi
      have hlt : i < l.length := by omega
      have hlen : ((l.take i).map f).length = i := by rw [List.length_map, List.length_take]; omega
      have hg : ((l.take i).map f ++ l.drop i)[i]? = some l[i] := by
        rw [List.getElem?_append_right (by omega), hlen, Nat.sub_self, List.getElem?_drop, Nat.add_zero]
        exact List.getElem?_eq_getElem hlt
      rw [step _ i hlt (by rw [List.length_append, hlen, List.length_drop]; omega) hg]
      have : ((l.take i).map f ++ l.drop i).set i (f l[i]) = (l.take (i + 1)).map f ++ l.drop (i + 1) := by
        rw [List.set_append_right _ _ (by omega), hlen, Nat.sub_self, List.drop_eq_getElem_cons hlt, List.set_cons_zero, List.take_succ_eq_append_getElem hlt, List.map_append, List.append_assoc]
        rfl
      rw [this]
      exact ih (i + 1) (by omega) hlt
  have := key l.length 0 (by omega) (by omega)
  rw [List.take_zero, List.map_nil, List.nil_append, List.drop_zero] at this
  exact this
theorem idx_nil (s : ByteArray) : slices_Index_53 ([] : List ByteArray) s = some (-1) := by
  unfold slices_Index_53
  rw [slices_Index_53.l0_eq, if_neg (by simp)]
theorem copy_all : ∀ (n : Nat) (t : Ty), t.bulk ≤ n → n ≤ 2000000 → kind_Put t [] [] = some t ∧ roadref2_Swap t [] [] = some t := by
  intro n
  induction n with
  | zero => intro t h; have := tbulk_pos t; omega
  | succ n ih =>
    intro t ht hn
    have hl := targs_len t
    have j0 : ∀ z : Ty, kind_Put.j0 [] [] t z = some t := fun z => by
      rw [kind_Put.j0_eq, slices_Clone_73.val _ (by omega), Option.bind_some]
      refine (set_loop (l := t.Args) (F := fun s i => kind_Put.l0 [] [] t.Kind t.Name s z (t.Args.length : Int) i) (f := fun x => x) (fun s i hi hs hg => by
        have h0 := targ_bulk (List.getElem_mem hi)
        have hgi : gi s (i : Int) = some t.Args[i] := gi_some rfl hg
        rw [kind_Put.l0_eq, if_pos (by omega), hgi, Option.bind_some, (ih _ (by omega) (by omega)).1, Option.bind_some, Option.bind_some, Option.bind_some, w_succ (by omega)]
        rfl)).trans ?_
      rw [kind_Put.l0_eq, if_neg (nlt _), List.map_id', type_eta]
    have s0 : ∀ z : Ty, roadref2_Swap.j0 [] [] t z = some t := fun z => by
      rw [roadref2_Swap.j0_eq]
      refine (map_loop (l := t.Args) (F := fun s i => roadref2_Swap.l0 [] [] z t.Kind t.Name s t.Args (t.Args.length : Int) i) (f := fun x => x) (B := 2000000) (fun s i hi hs => by
        have h0 := targ_bulk (List.getElem_mem hi)
        rw [roadref2_Swap.l0_eq, if_pos (by omega), gi_at hi, Option.bind_some, (ih _ (by omega) (by omega)).2, Option.bind_some, ap_one (by omega), Option.bind_some, w_succ (by omega)]) (by omega)).trans ?_
      rw [roadref2_Swap.l0_eq, if_neg (nlt _), List.map_id', type_eta]
    constructor
    · rw [kind_Put_eq, idx_nil]
      by_cases k5 : t.Kind = 5
      · rw [if_pos k5, Option.bind_some, if_neg (by decide : ¬ (-1 : Int) ≥ 0), kind_Put.j1_eq, if_neg (by decide : ¬ (false = true)), j0]
      · rw [if_neg k5, j0]
    · rw [roadref2_Swap_eq, idx_nil, Option.bind_some]
      by_cases k5 : t.Kind = 5
      · rw [if_pos k5, if_neg (by decide : ¬ (-1 : Int) ≥ 0), roadref2_Swap.j1_eq, if_neg (by decide : ¬ (false = true)), s0]
      · rw [if_neg k5, roadref2_Swap.j1_eq, if_neg (by decide : ¬ (false = true)), s0]
def bs8 (s : ByteArray) : List UInt8 := s.data.toList
theorem bs8_app (a b : ByteArray) : bs8 (a ++ b) = bs8 a ++ bs8 b := by unfold bs8; rw [ByteArray.data_append, Array.toList_append]
theorem bs8_inj {a b : ByteArray} (h : bs8 a = bs8 b) : a = b := by
  unfold bs8 at h
  exact ByteArray.ext (Array.toList_inj.1 h)
theorem bs8_size (a : ByteArray) : (bs8 a).length = a.size := by unfold bs8; rw [Array.length_toList]; rfl
theorem app_inj {a b s s' : ByteArray} (hs : a.size = b.size) (h : a ++ s = b ++ s') : a = b ∧ s = s' := by
  have h2 : bs8 a ++ bs8 s = bs8 b ++ bs8 s' := by rw [← bs8_app, ← bs8_app, h]
  have := List.append_inj h2 (by rw [bs8_size, bs8_size, hs])
  exact ⟨bs8_inj this.1, bs8_inj this.2⟩
theorem dec_mem : ∀ (u : Nat), ∀ c ∈ Lib.decDigits u, 48 ≤ c.toNat ∧ c.toNat ≤ 57 := by
  intro u
  induction u using Nat.strongRecOn with
  | _ u ih =>
    intro c hc
    rw [Lib.decDigits] at hc
    split at hc
    · rw [List.mem_singleton] at hc
      subst hc
      rw [UInt8.toNat_ofNat']
      omega
    · rcases List.mem_append.1 hc with hc | hc
      · exact ih _ (by omega) c hc
      · rw [List.mem_singleton] at hc
        subst hc
        rw [UInt8.toNat_ofNat']
        omega
def dval (l : List UInt8) : Nat := l.foldl (fun a c => 10 * a + (c.toNat - 48)) 0
theorem dval_dec (u : Nat) : dval (Lib.decDigits u) = u := by
  induction u using Nat.strongRecOn with
  | _ u ih =>
    rw [Lib.decDigits]
    split
    · show 10 * 0 + ((UInt8.ofNat (48 + u)).toNat - 48) = u
      rw [UInt8.toNat_ofNat']
      omega
    · have := ih (u / 10) (by omega)
      unfold dval at this ⊢
      rw [List.foldl_append, this]
      show 10 * (u / 10) + ((UInt8.ofNat (48 + u % 10)).toNat - 48) = u
      rw [UInt8.toNat_ofNat']
      omega
theorem dec_inj {u v : Nat} (h : Lib.decDigits u = Lib.decDigits v) : u = v := by
  have := dval_dec u; rw [h, dval_dec] at this; exact this.symm
theorem itoa_mem (x : Int) : ∀ c ∈ Lib.itoa x, c.toNat ≠ 44 := by
  intro c hc
  unfold Lib.itoa at hc
  split at hc
  · rcases List.mem_cons.1 hc with rfl | hc
    · decide
    · have := dec_mem _ c hc; omega
  · have := dec_mem _ c hc; omega
theorem itoa_inj {x y : Int} (h : Lib.itoa x = Lib.itoa y) : x = y := by
  unfold Lib.itoa at h
  have no : ∀ u v : Nat, 45 :: Lib.decDigits u = Lib.decDigits v → False := fun u v e => by
    have := dec_mem v 45 (by rw [← e]; exact List.mem_cons_self ..)
    have h45 : (45 : UInt8).toNat = 45 := rfl
    omega
  split at h <;> split at h
  · have := dec_inj (List.cons.inj h).2; omega
  · exact (no _ _ h).elim
  · exact (no _ _ h.symm).elim
  · have := dec_inj h; omega
theorem comma_inj : ∀ {l m s s' : List UInt8}, (∀ c ∈ l, c.toNat ≠ 44) → (∀ c ∈ m, c.toNat ≠ 44) → l ++ 44 :: s = m ++ 44 :: s' → l = m ∧ s = s'
  | [], [], s, s', _, _, h => ⟨rfl, (List.cons.inj h).2⟩
  | [], y :: m, s, s', _, hm, h => by
    have := (List.cons.inj h).1
    exact absurd (by rw [← this]; rfl) (hm y (List.mem_cons_self ..))
  | x :: l, [], s, s', hl, _, h => by
    have := (List.cons.inj h).1
    exact absurd (by rw [this]; rfl) (hl x (List.mem_cons_self ..))
  | x :: l, y :: m, s, s', hl, hm, h => by
    have e := List.cons.inj h
    have := comma_inj (fun c hc => hl c (List.mem_cons_of_mem _ hc)) (fun c hc => hm c (List.mem_cons_of_mem _ hc)) e.2
    exact ⟨by rw [e.1, this.1], this.2⟩
theorem bs8_itoa (x : Int) : bs8 (itoaB x) = Lib.itoa x := by unfold itoaB bs8; simp
theorem nm1_inj {x y : Int} {s s' : ByteArray} (h : nm1 x ++ s = nm1 y ++ s') : x = y ∧ s = s' := by
  have h2 : bs8 (nm1 x ++ s) = bs8 (nm1 y ++ s') := by rw [h]
  unfold nm1 at h2
  rw [bs8_app, bs8_app, bs8_app, bs8_app, bs8_itoa, bs8_itoa, List.append_assoc, List.append_assoc] at h2
  have := comma_inj (itoa_mem x) (itoa_mem y) h2
  exact ⟨itoa_inj this.1, bs8_inj this.2⟩
theorem nm_inj : ∀ {l m : List Int} {s s' : ByteArray}, l.length = m.length → nm l ++ s = nm m ++ s' → l = m ∧ s = s'
  | [], [], s, s', _, h => ⟨rfl, by unfold nm at h; simp only [List.map_nil, cat, nil_app] at h; exact h⟩
  | x :: l, y :: m, s, s', hl, h => by
    unfold nm at h
    rw [List.map_cons, List.map_cons, cat, cat, app_assoc, app_assoc] at h
    have e := nm1_inj h
    have := nm_inj (l := l) (m := m) (by simpa using hl) e.2
    exact ⟨by rw [e.1, this.1], this.2⟩
theorem tx1_inj {a b s s' : ByteArray} (h : tx1 a ++ s = tx1 b ++ s') : a = b ∧ s = s' := by
  unfold tx1 at h
  rw [app_assoc, app_assoc] at h
  have e := nm_inj (by simp) h
  have e1 := List.cons.inj e.1
  exact app_inj (by omega) e.2
def PF {α : Type} (M : α → ByteArray) (P : α → Prop) : Prop := ∀ x y s s', P x → P y → M x ++ s = M y ++ s' → M x = M y ∧ s = s'
theorem cat_inj {α : Type} {M : α → ByteArray} {P : α → Prop} (pf : PF M P) : ∀ {l m : List α} {s s' : ByteArray}, (∀ x ∈ l, P x) → (∀ x ∈ m, P x) → l.length = m.length → cat (l.map M) ++ s = cat (m.map M) ++ s' → l.map M = m.map M ∧ s = s'
  | [], [], s, s', _, _, _, h => ⟨rfl, by simp only [List.map_nil, cat, nil_app] at h; exact h⟩
  | x :: l, y :: m, s, s', hl, hm, hn, h => by
    rw [List.map_cons, List.map_cons, cat, cat, app_assoc, app_assoc] at h
    have e := pf x y _ _ (hl x (List.mem_cons_self ..)) (hm y (List.mem_cons_self ..)) h
    have := cat_inj pf (l := l) (m := m) (fun z hz => hl z (List.mem_cons_of_mem _ hz)) (fun z hz => hm z (List.mem_cons_of_mem _ hz)) (by simpa using hn) e.2
    exact ⟨by rw [List.map_cons, List.map_cons, e.1, this.1], this.2⟩
theorem len_of_map {α : Type} {M : α → ByteArray} {l m : List α} (h : l.map M = m.map M) : l.length = m.length := by
  have := congrArg List.length h; simpa using this
def TP (t : T_api_Type) : Prop := t.bulk ≤ 2000000000000 ∧ t.Q
theorem tp_args {t : T_api_Type} (h : TP t) : ∀ x ∈ t.Args, TP x := fun x hx => by
  obtain ⟨q1, q2, q3, q4⟩ := T_api_Type.Q_iff.1 h.2
  have hb := tbulk t; have := h.1
  have := le_sum (f := T_api_Type.bulk) hx
  exact ⟨by omega, q4 x hx⟩
theorem tm_eq {t : T_api_Type} (h : TP t) : TM t = nm [t.Kind, (t.Args.length : Int)] ++ tx1 t.Name ++ cat (t.Args.map TM) := (type_mark t.bulk t (Nat.le_refl _) (by have := h.1; omega) h.2).2.2
theorem tm_split : ∀ (n : Nat) (x y : T_api_Type) (s s' : ByteArray), x.bulk ≤ n → TP x → TP y → TM x ++ s = TM y ++ s' → (x.Kind = y.Kind ∧ x.Name = y.Name ∧ x.Args.map TM = y.Args.map TM) ∧ s = s' := by
  intro n
  induction n with
  | zero => intro x y s s' hx; have := tbulk_pos x; omega
  | succ n ih =>
    intro x y s s' hx px py h
    rw [tm_eq px, tm_eq py] at h
    simp only [app_assoc] at h
    have a := nm_inj (by simp) h
    simp only [List.cons.injEq, and_true] at a
    have b := tx1_inj a.2
    have hl : x.Args.length = y.Args.length := by have := a.1.2; omega
    have hb := tbulk x
    -- the arguments, one after another
    have key : ∀ (l m : List T_api_Type) (s s' : ByteArray), (∀ z ∈ l, z.bulk ≤ n ∧ TP z) → (∀ z ∈ m, TP z) → l.length = m.length → cat (l.map TM) ++ s = cat (m.map TM) ++ s' → l.map TM = m.map TM ∧ s = s' := by
      intro l
      induction l with
      | nil =>
        intro m s s' _ _ hn h
        have : m = [] := List.eq_nil_of_length_eq_zero (by simpa using hn.symm)
        subst this
        exact ⟨rfl, by simp only [List.map_nil, cat, nil_app] at h; exact h⟩
      | cons z l il =>
        intro m s s' hl hm hn h
        cases m with
        | nil => simp at hn
        | cons w m =>
          rw [List.map_cons, List.map_cons, cat, cat, app_assoc, app_assoc] at h
          have pz := hl z (List.mem_cons_self ..)
          have pw := hm w (List.mem_cons_self ..)
          have e := ih z w _ _ pz.1 pz.2 pw h
          have ez : TM z = TM w := by
            rw [tm_eq pz.2, tm_eq pw, e.1.1, e.1.2.1, e.1.2.2, len_of_map e.1.2.2]
          have := il m s s' (fun q hq => hl q (List.mem_cons_of_mem _ hq)) (fun q hq => hm q (List.mem_cons_of_mem _ hq)) (by simpa using hn) e.2
          exact ⟨by rw [List.map_cons, List.map_cons, ez, this.1], this.2⟩
    have c := key _ _ _ _ (fun z hz => ⟨by have := le_sum (f := T_api_Type.bulk) hz; omega, tp_args px z hz⟩) (tp_args py) hl b.2
    exact ⟨⟨a.1.1, b.1, c.1⟩, c.2⟩
theorem tm_iff {x y : T_api_Type} (px : TP x) (py : TP y) : TM x = TM y ↔ x.Kind = y.Kind ∧ x.Name = y.Name ∧ x.Args.map TM = y.Args.map TM :=
  ⟨fun h => (tm_split x.bulk x y BA0 BA0 (Nat.le_refl _) px py (by rw [h])).1, fun ⟨h1, h2, h3⟩ => by rw [tm_eq px, tm_eq py, h1, h2, h3, len_of_map h3]⟩
theorem tm_pf : PF TM TP := fun x y s s' px py h => by
  have := tm_split x.bulk x y s s' (Nat.le_refl _) px py h
  exact ⟨(tm_iff px py).2 this.1, this.2⟩
theorem eqf_loop {α β : Type} [DecidableEq β] {M : α → β} {l m : List α} {F : Int → Option Bool} (hn : l.length = m.length)
    (step : ∀ (i : Nat) (h1 : i < l.length) (h2 : i < m.length), F (i : Int) = if M l[i] = M m[i] then F ((i + 1 : Nat) : Int) else some false) (fin : F (l.length : Int) = some true) : F 0 = some (decide (l.map M = m.map M)) := by
  have key : ∀ (d i : Nat), l.length - i = d → i ≤ l.length → F (i : Int) = some (decide ((l.drop i).map M = (m.drop i).map M)) := by
    intro d
    induction d with
    | zero =>
      intro i hd hi
      obtain rfl : i = l.length := by omega
      rw [fin, List.drop_length, hn, List.drop_length]; simp
    | succ d ih =>
      intro i hd hi
      rw [step i (by omega) (by omega), List.drop_eq_getElem_cons (by omega : i < l.length), List.drop_eq_getElem_cons (by omega : i < m.length), List.map_cons, List.map_cons]
      by_cases c : M l[i] = M m[i]
      · rw [if_pos c, ih (i + 1) (by omega) (by omega), c]
        simp
      · rw [if_neg c]
        simp [c]
  have := key l.length 0 (by omega) (by omega)
  simpa using this
theorem map_ne {α β : Type} {M : α → β} {l m : List α} (h : l.length ≠ m.length) : ¬ l.map M = m.map M := fun e => h (by have := congrArg List.length e; simpa using this)
theorem if_dec {p : Prop} [Decidable p] {α : Type} (x y : α) : (if decide p = true then x else y) = if p then x else y := by by_cases h : p <;> simp [h]
theorem eq20 {l m : List ByteArray} (hl : l.length ≤ 2000000) : slices_Equal_32 l m = some (decide (l = m)) := by
  unfold slices_Equal_32
  by_cases c : l.length = m.length
  · rw [if_pos (by omega)]
    have := eqf_loop (M := id) (l := l) (m := m) (F := fun i => slices_Equal_32.l0 l m (l.length : Int) i) c (fun i h1 h2 => by
      rw [slices_Equal_32.l0_eq, if_pos (by omega), gi_at h1, Option.bind_some, gi_at h2, Option.bind_some, w_succ (by omega)]
      rfl) (by rw [slices_Equal_32.l0_eq, if_neg (by omega)])
    rw [List.map_id, List.map_id] at this
    exact this
  · rw [if_neg (by omega), decide_eq_false (fun e => c (by rw [e]))]
theorem eq48_s1 {l m : List T_api_Type} (M : T_api_Type → ByteArray) (hl : l.length ≤ 2000000000000) (h : ∀ x ∈ l, ∀ y ∈ m, tree_SameType x y = some (decide (M x = M y))) : slices_EqualFunc_68_s1 l m = some (decide (l.map M = m.map M)) := by
  rw [slices_EqualFunc_68_s1_eq]
  by_cases c : l.length = m.length
  · rw [if_pos (by omega)]
    exact eqf_loop (M := M) (l := l) (m := m) (F := fun i => slices_EqualFunc_68_s1.l0 m l (l.length : Int) i) c (fun i h1 h2 => by
      rw [slices_EqualFunc_68_s1.l0_eq, if_pos (by omega), gi_at h1, Option.bind_some, gi_at h2, Option.bind_some, h _ (List.getElem_mem h1) _ (List.getElem_mem h2), Option.bind_some, w_succ (by omega), if_dec]) (by rw [slices_EqualFunc_68_s1.l0_eq, if_neg (by omega)])
  · rw [if_neg (by omega), decide_eq_false (map_ne c)]
theorem types_len {t : T_api_Type} (h : TP t) : t.Args.length ≤ 2000000000000 := by
  have : t.Args.length ≤ (t.Args.map T_api_Type.bulk).sum := len_le_sum fun x _ => tbulk_pos x
  have hb := tbulk t; have := h.1; omega
theorem same_type : ∀ (n : Nat) (x y : T_api_Type), x.bulk ≤ n → TP x → TP y → tree_SameType x y = some (decide (TM x = TM y)) := by
  intro n
  induction n with
  | zero => intro x y hx; have := tbulk_pos x; omega
  | succ n ih =>
    intro x y hx px py
    have hb := tbulk x
    rw [tree_SameType_eq]
    have no : ¬ (x.Kind = y.Kind ∧ x.Name = y.Name ∧ x.Args.map TM = y.Args.map TM) → some false = some (decide (TM x = TM y)) := fun h => by rw [decide_eq_false (fun e => h ((tm_iff px py).1 e))]
    by_cases c1 : x.Kind = y.Kind
    · by_cases c2 : x.Name = y.Name
      · rw [if_pos c1, if_pos c2, eq48_s1 TM (types_len px) (fun z hz w hw => ih z w (by have := le_sum (f := T_api_Type.bulk) hz; omega) (tp_args px z hz) (tp_args py w hw)), Option.bind_some]
        congr 1
        rw [decide_eq_decide, tm_iff px py]
        exact ⟨fun h => ⟨c1, c2, h⟩, fun h => h.2.2⟩
      · rw [if_pos c1, if_neg c2]; exact no fun h => c2 h.2.1
    · rw [if_neg c1]; exact no fun h => c1 h.1
theorem sameT {x y : T_api_Type} (px : TP x) (py : TP y) : tree_SameType x y = some (decide (TM x = TM y)) := same_type _ x y (Nat.le_refl _) px py
def dfind (p : Pg) (s : ByteArray) : Option T_api_Data := p.Datas.find? fun d => decide (d.Name = s)
def zd : T_api_Data := T_api_Data.mk (ByteArray.mk #[]) ([] : List ByteArray) ([] : List T_api_Make)
def dres (o : Option T_api_Data) : T_api_Data × Int := match o with | some d => (d, 0) | none => (zd, 11)
theorem prbulk (p : T_api_Program) : p.bulk = p.Name.size + (p.Uses.map T_api_Use.bulk).sum + (p.Datas.map T_api_Data.bulk).sum + (p.Traits.map T_api_Trait.bulk).sum + (p.Impls.map T_api_Impl.bulk).sum + (p.Funcs.map T_api_Func.bulk).sum + (p.Actors.map T_api_Actor.bulk).sum + 9 := by unfold T_api_Program.bulk; omega
theorem concatS {a b : List ByteArray} (h : a.length + b.length ≤ 100000000) : slices_Concat_46 [a, b] = some (a ++ b) := by
  rw [slices_Concat_46.val [a, b] (by simp) (by simp only [List.flatten_cons, List.flatten_nil, List.append_nil, List.length_append]; omega)]
  simp
section
variable {p : Pg} (hb : p.bulk ≤ 1048576)
include hb
theorem datas_len : p.Datas.length ≤ 1048576 := by
  have h := prbulk p
  have u : p.Datas.length ≤ (p.Datas.map T_api_Data.bulk).sum := len_le_sum fun x _ => by unfold T_api_Data.bulk; omega
  omega
theorem data_val (s : ByteArray) : kind_Data p s = some (dres (dfind p s)) := by
  have hd := datas_len hb
  have key : ∀ (d i : Nat), p.Datas.length - i = d → i ≤ p.Datas.length → kind_Data.l0 s zd p.Datas (p.Datas.length : Int) (i : Int) = some (dres ((p.Datas.drop i).find? fun d => decide (d.Name = s))) := by
    intro d
    induction d with
    | zero =>
      intro i hd hi
      obtain rfl : i = p.Datas.length := by omega
      rw [kind_Data.l0_eq, if_neg (nlt _), List.drop_length]
      rfl
    | succ d ih =>
      intro i hd hi
      have hlt : i < p.Datas.length := by omega
      rw [kind_Data.l0_eq, if_pos (by omega), gi_at hlt, Option.bind_some, List.drop_eq_getElem_cons hlt, w_succ (by omega)]
      by_cases c : p.Datas[i].Name = s
      · rw [if_pos c, List.find?_cons_of_pos (by simp [c])]
        rfl
      · rw [if_neg c, List.find?_cons_of_neg (by simp [c])]
        exact ih (i + 1) (by omega) (by omega)
  unfold kind_Data
  exact key p.Datas.length 0 (by omega) (by omega)
theorem index_ok (s : ByteArray) (f : T_api_Data → Option Bool) (hf : ∀ d, f d = some (decide (d.Name = s))) : ∃ k : Int, slices_IndexFunc_64 p.Datas f = some k ∧ (dfind p s = none → k < 0) ∧ (∀ d, dfind p s = some d → 0 ≤ k ∧ gi p.Datas k = some d ∧ d.Name = s) := by
  have hd := datas_len hb
  have key : ∀ (d i : Nat), p.Datas.length - i = d → i ≤ p.Datas.length → ∃ k : Int, slices_IndexFunc_64.l0 p.Datas f (p.Datas.length : Int) (i : Int) = some k ∧ (((p.Datas.drop i).find? fun d => decide (d.Name = s)) = none → k < 0) ∧ (∀ d, ((p.Datas.drop i).find? fun d => decide (d.Name = s)) = some d → 0 ≤ k ∧ gi p.Datas k = some d ∧ d.Name = s) := by
    intro d
    induction d with
    | zero =>
      intro i hd hi
      obtain rfl : i = p.Datas.length := by omega
      rw [slices_IndexFunc_64.l0_eq, if_neg (nlt _), List.drop_length]
      exact ⟨_, rfl, fun _ => by decide, fun d h => by simp at h⟩
    | succ d ih =>
      intro i hd hi
      have hlt : i < p.Datas.length := by omega
      rw [slices_IndexFunc_64.l0_eq, if_pos (by omega), gi_at hlt, Option.bind_some, hf, Option.bind_some, List.drop_eq_getElem_cons hlt, w_succ (by omega)]
      by_cases c : p.Datas[i].Name = s
      · rw [if_pos (decide_eq_true c), List.find?_cons_of_pos (by simp [c])]
        exact ⟨_, rfl, (fun h => by cases h), fun d h => by cases h; exact ⟨by omega, gi_at hlt, c⟩⟩
      · rw [if_neg (by rw [decide_eq_true_eq]; exact c), List.find?_cons_of_neg (by simp [c])]
        exact ih (i + 1) (by omega) (by omega)
  unfold slices_IndexFunc_64
  exact key p.Datas.length 0 (by omega) (by omega)
end
noncomputable def pu (ps : List ByteArray) (u t : Ty) : Ty := (kind_Put t ps [u]).getD t
theorem put_all {ps : List ByteArray} {u : Ty} (hp : ps.length ≤ 1048576) (hu : u.bulk ≤ 1048576) (qu : u.Q) : ∀ (n : Nat) (t : Ty), t.bulk ≤ n → n ≤ 1048576 → t.Q → kind_Put t ps [u] = some (pu ps u t) ∧ roadref2_Swap t ps [u] = some (pu ps u t) ∧ (pu ps u t).Q ∧ (pu ps u t).bulk ≤ t.bulk * u.bulk := by
  intro n
  induction n with
  | zero => intro t h; have := tbulk_pos t; omega
  | succ n ih =>
    intro t ht hn q
    have hl := targs_len t
    have hb := tbulk t
    have hup := tbulk_pos u
    obtain ⟨q1, q2, q3, q4⟩ := T_api_Type.Q_iff.1 q
    have c : ∀ x ∈ t.Args, kind_Put x ps [u] = some (pu ps u x) ∧ roadref2_Swap x ps [u] = some (pu ps u x) ∧ (pu ps u x).Q ∧ (pu ps u x).bulk ≤ x.bulk * u.bulk := fun x hx => by
      have := targ_bulk hx
      exact ih x (by omega) (by omega) (q4 x hx)
    have cu := copy_all u.bulk u (Nat.le_refl _) (by omega)
    have j0 : ∀ z : Ty, kind_Put.j0 ps [u] t z = some (T_api_Type.mk t.Kind t.Name (t.Args.map (pu ps u))) := fun z => by
      rw [kind_Put.j0_eq, slices_Clone_73.val _ (by omega), Option.bind_some]
      refine (set_loop (l := t.Args) (F := fun s i => kind_Put.l0 ps [u] t.Kind t.Name s z (t.Args.length : Int) i) (f := pu ps u) (fun s i hi hs hg => by
        have hgi : gi s (i : Int) = some t.Args[i] := gi_some rfl hg
        rw [kind_Put.l0_eq, if_pos (by omega), hgi, Option.bind_some, (c _ (List.getElem_mem hi)).1, Option.bind_some, Option.bind_some, Option.bind_some, w_succ (by omega)]
        rfl)).trans ?_
      rw [kind_Put.l0_eq, if_neg (nlt _)]
    have s0 : ∀ z : Ty, roadref2_Swap.j0 ps [u] t z = some (T_api_Type.mk t.Kind t.Name (t.Args.map (pu ps u))) := fun z => by
      rw [roadref2_Swap.j0_eq]
      refine (map_loop (l := t.Args) (F := fun s i => roadref2_Swap.l0 ps [u] z t.Kind t.Name s t.Args (t.Args.length : Int) i) (f := pu ps u) (B := 2000000) (fun s i hi hs => by
        rw [roadref2_Swap.l0_eq, if_pos (by omega), gi_at hi, Option.bind_some, (c _ (List.getElem_mem hi)).2.1, Option.bind_some, ap_one (by omega), Option.bind_some, w_succ (by omega)]) (by omega)).trans ?_
      rw [roadref2_Swap.l0_eq, if_neg (nlt _)]
    have hidx : ∃ k : Int, slices_Index_53 ps t.Name = some k := ⟨_, slices_Index_53.val t.Name (by omega)⟩
    obtain ⟨k, hk⟩ := hidx
    -- what is answered where nothing is put
    have plainQ : (T_api_Type.mk t.Kind t.Name (t.Args.map (pu ps u))).Q := by
      rw [T_api_Type.Q_iff]
      refine ⟨q1, q2, by rw [List.length_map]; exact q3, fun x hx => ?_⟩
      obtain ⟨y, hy, rfl⟩ := List.mem_map.1 hx
      exact (c y hy).2.2.1
    have plainB : (T_api_Type.mk t.Kind t.Name (t.Args.map (pu ps u))).bulk ≤ t.bulk * u.bulk := by
      rw [tbulk, hb]
      simp only
      rw [List.map_map]
      have h1 : (t.Args.map (T_api_Type.bulk ∘ pu ps u)).sum ≤ (t.Args.map fun x => u.bulk * x.bulk).sum := sum_le fun x hx => by
        have := (c x hx).2.2.2
        rw [Nat.mul_comm] at this
        exact this
      rw [sum_mul] at h1
      have h2 : t.Name.size + 4 ≤ (t.Name.size + 4) * u.bulk := Nat.le_mul_of_pos_right _ hup
      have h3 : (t.Name.size + (t.Args.map T_api_Type.bulk).sum + 4) * u.bulk = (t.Name.size + 4) * u.bulk + u.bulk * (t.Args.map T_api_Type.bulk).sum := by
        rw [Nat.mul_comm u.bulk, ← Nat.add_mul]
        congr 1; omega
      omega
    have res : ∃ r, kind_Put t ps [u] = some r ∧ roadref2_Swap t ps [u] = some r ∧ r.Q ∧ r.bulk ≤ t.bulk * u.bulk := by
      rw [kind_Put_eq, roadref2_Swap_eq, hk]
      by_cases k5 : t.Kind = 5
      · rw [if_pos k5, Option.bind_some, Option.bind_some, if_pos k5]
        by_cases k0 : k ≥ 0
        · rw [if_pos k0, if_pos k0, kind_Put.j1_eq, roadref2_Swap.j1_eq]
          by_cases k1 : k < ((([u] : List Ty).length : Nat) : Int)
          · have hk0 : k = 0 := by simp only [List.length_cons, List.length_nil] at k1; omega
            rw [decide_eq_true k1, if_pos rfl, if_pos rfl, hk0, gi_cons, Option.bind_some, Option.bind_some, kind_Copy_eq, cu.1, cu.2]
            refine ⟨u, rfl, rfl, qu, ?_⟩
            exact Nat.le_mul_of_pos_left _ (tbulk_pos t)
          · rw [decide_eq_false k1, if_neg (by decide), if_neg (by decide), j0, s0]
            exact ⟨_, rfl, rfl, plainQ, plainB⟩
        · rw [if_neg k0, if_neg k0, kind_Put.j1_eq, roadref2_Swap.j1_eq, if_neg (by decide), if_neg (by decide), j0, s0]
          exact ⟨_, rfl, rfl, plainQ, plainB⟩
      · rw [if_neg k5, Option.bind_some, if_neg k5, roadref2_Swap.j1_eq, if_neg (by decide), j0, s0]
        exact ⟨_, rfl, rfl, plainQ, plainB⟩
    obtain ⟨r, r1, r2, r3, r4⟩ := res
    have : pu ps u t = r := by unfold pu; rw [r1]; rfl
    rw [this]
    exact ⟨r1, r2, r3, r4⟩
instance nodBA (l : List ByteArray) : Decidable l.Nodup := @List.nodupDecidable ByteArray inferInstance l
def ch (y : ByteArray) : List ByteArray → Prop
  | [] => True
  | x :: l => x ≠ y ∧ ch x l
theorem dq_le : ∀ (l : List ByteArray) (y : ByteArray), (slices_Compact_71.dq y l).length ≤ l.length
  | [], y => Nat.le_refl _
  | x :: l, y => by
    rw [slices_Compact_71.dq]
    split
    · have := dq_le l y; rw [List.length_cons]; omega
    · have := dq_le l x; rw [List.length_cons, List.length_cons]; omega
theorem dq_eq : ∀ (l : List ByteArray) (y : ByteArray), (slices_Compact_71.dq y l).length = l.length ↔ ch y l
  | [], y => ⟨fun _ => trivial, fun _ => rfl⟩
  | x :: l, y => by
    rw [slices_Compact_71.dq, ch]
    by_cases h : x = y
    · rw [if_pos h]
      have := dq_le l y
      exact ⟨fun e => by rw [List.length_cons] at e; omega, fun e => absurd h e.1⟩
    · rw [if_neg h, List.length_cons, List.length_cons]
      have := dq_eq l x
      exact ⟨fun e => ⟨h, this.1 (by omega)⟩, fun e => by rw [this.2 e.2]⟩
theorem ch_nodup : ∀ (l : List ByteArray) (y : ByteArray), (y :: l).Pairwise (· ≤ ·) → ch y l → (y :: l).Nodup
  | [], y, _, _ => by simp
  | x :: l, y, hp, hc => by
    rw [List.pairwise_cons] at hp
    have ih := ch_nodup l x hp.2 hc.2
    rw [List.nodup_cons]
    refine ⟨fun hm => ?_, ih⟩
    rcases List.mem_cons.1 hm with h | h
    · exact hc.1 h.symm
    · have h1 := (List.pairwise_cons.1 hp.2).1 y h
      have h2 := hp.1 x (List.mem_cons_self ..)
      exact hc.1 (ba_anti x y h1 h2)
theorem nodup_ch : ∀ (l : List ByteArray) (y : ByteArray), (y :: l).Nodup → ch y l
  | [], y, _ => trivial
  | x :: l, y, h => by
    rw [List.nodup_cons] at h
    exact ⟨fun e => h.1 (by rw [← e]; exact List.mem_cons_self ..), nodup_ch l x h.2⟩
theorem doubled_val {l : List ByteArray} (hl : l.length ≤ 2000000) : roadref2_doubled l = some (decide ¬ l.Nodup) := by
  unfold roadref2_doubled
  obtain ⟨r, r1, r2, r3⟩ := slices_Sort_70.val l (by omega)
  have hr := r2.length_eq
  rw [slices_Clone_69.val l (by omega), Option.bind_some, r1, Option.bind_some]
  unfold slices_Compact_71
  rw [if_pos (by omega), Option.bind_some]
  congr 1
  rw [decide_eq_decide, ← r2.nodup_iff]
  cases r with
  | nil =>
    have : l.length = 0 := by rw [← hr]; rfl
    rw [this]
    simp [slices_Compact_71.dd]
  | cons y r =>
    have h1 := dq_le r y
    have h2 := dq_eq r y
    rw [List.length_cons] at hr
    have h3 : (slices_Compact_71.dd (y :: r)).length = (slices_Compact_71.dq y r).length + 1 := rfl
    rw [h3]
    constructor
    · intro h4 h5
      have := h2.2 (nodup_ch r y h5)
      omega
    · intro h4
      have : ¬ (slices_Compact_71.dq y r).length = r.length := fun e => h4 (ch_nodup r y r3 (h2.1 e))
      omega
theorem take_nod {l : List ByteArray} {i : Nat} (hi : i < l.length) : (l.take (i + 1)).Nodup ↔ (l.take i).Nodup ∧ l[i] ∉ l.take i := by
  rw [List.take_succ_eq_append_getElem hi, List.nodup_append]
  constructor
  · rintro ⟨h1, h2, h3⟩
    exact ⟨h1, fun h => h3 _ h _ (List.mem_singleton_self _) rfl⟩
  · rintro ⟨h1, h2⟩
    refine ⟨h1, by simp, fun a ha b hb e => ?_⟩
    rw [List.mem_singleton] at hb
    subst hb; subst e
    exact h2 ha
theorem twice_val {l : List ByteArray} (hl : l.length ≤ 2000000) : scope_Twice l = some (decide ¬ l.Nodup) := by
  have key : ∀ (d i : Nat), l.length - i = d → i ≤ l.length → (l.take i).Nodup → scope_Twice.l0 l l (l.length : Int) (i : Int) = some (decide ¬ l.Nodup) := by
    intro d
    induction d with
    | zero =>
      intro i hd hi hn
      obtain rfl : i = l.length := by omega
      rw [List.take_length] at hn
      rw [scope_Twice.l0_eq, if_neg (by omega), decide_eq_false (fun h => h hn)]
    | succ d ih =>
      intro i hd hi hn
      have hlt : i < l.length := by omega
      rw [scope_Twice.l0_eq, if_pos (by omega), gi_at hlt, Option.bind_some, sls_take rfl hi, Option.bind_some, has_val _ (by rw [List.length_take]; omega), Option.bind_some]
      by_cases c : l[i] ∈ l.take i
      · rw [if_pos (decide_eq_true c), decide_eq_true]
        intro h
        have : (l.take (i + 1)).Nodup := h.sublist (List.take_sublist ..)
        exact ((take_nod hlt).1 this).2 c
      · rw [if_neg (by rw [decide_eq_true_eq]; exact c), w_succ (by omega)]
        exact ih (i + 1) (by omega) (by omega) ((take_nod hlt).2 ⟨hn, c⟩)
  unfold scope_Twice
  exact key l.length 0 (by omega) (by omega) (by simp)
theorem all_loop {α β γ : Type} {l : List α} {F : List β → Int → Option γ} {f : α → β} {q : α → Bool} {K : Option γ} {B : Nat} (step : ∀ (s : List β) (i : Nat) (hi : i < l.length), s.length + 1 ≤ B → F s (i : Int) = if q l[i] = true then F (s ++ [f l[i]]) ((i + 1 : Nat) : Int) else K) (hB : l.length ≤ B) : F [] 0 = if l.all q = true then F (l.map f) (l.length : Int) else K := by
  have key : ∀ (d i : Nat) (s : List β), l.length - i = d → i ≤ l.length → s.length + (l.length - i) ≤ B → F s (i : Int) = if (l.drop i).all q = true then F (s ++ (l.drop i).map f) (l.length : Int) else K := by
    intro d
    induction d with
    | zero =>
      intro i s hd hi hs
      obtain rfl : i = l.length := by omega
      rw [List.drop_length, if_pos (by simp), List.map_nil, List.append_nil]
    | succ d ih =>
      intro i s hd hi hs
      have hlt : i < l.length := by omega
      rw [step s i hlt (by omega), List.drop_eq_getElem_cons hlt, List.all_cons, List.map_cons]
      cases hq : q l[i] with
      | true =>
        rw [if_pos rfl, ih (i + 1) _ (by omega) hlt (by rw [List.length_append]; simp only [List.length_cons, List.length_nil]; omega), Bool.true_and, List.append_assoc]
        rfl
      | false => rw [if_neg (by decide), Bool.false_and, if_neg (by decide)]
  have := key l.length 0 [] (by omega) (by omega) (by simp only [List.length_nil]; omega)
  rw [List.drop_zero, List.nil_append] at this
  exact this
theorem all_loop0 {α γ : Type} {l : List α} {F : Int → Option γ} {q : α → Bool} {K : Option γ} (step : ∀ (i : Nat) (hi : i < l.length), F (i : Int) = if q l[i] = true then F ((i + 1 : Nat) : Int) else K) : F 0 = if l.all q = true then F (l.length : Int) else K :=
  all_loop (l := l) (F := fun _ i => F i) (f := fun _ => ()) (B := l.length) (fun s i hi _ => step i hi) (Nat.le_refl _)
def nd1 (l : List ByteArray) : Bool := decide l.Nodup
theorem nd1_no {l : List ByteArray} : decide (¬ l.Nodup) = !nd1 l := by unfold nd1; by_cases h : l.Nodup <;> simp [h]
theorem if_not {γ : Type} {b : Bool} {x y : γ} : (if (!b) = true then x else y) = if b = true then y else x := by cases b <;> rfl
abbrev Fn := T_api_Func
abbrev Tr := T_api_Trait
abbrev Im := T_api_Impl
def kInt : ByteArray := ByteArray.mk #[105, 110, 116]
def kBool : ByteArray := ByteArray.mk #[98, 111, 111, 108]
def kText : ByteArray := ByteArray.mk #[116, 101, 120, 116]
def kUnit : ByteArray := ByteArray.mk #[117, 110, 105, 116]
def kSelf : ByteArray := ByteArray.mk #[115, 101, 108, 102]
def hd (t : Ty) : ByteArray := if t.Kind = 1 then kInt else if t.Kind = 2 then kBool else if t.Kind = 3 then kText else if t.Kind = 4 then kUnit else if t.Kind = 6 then t.Name else BA0
theorem head_val (t : Ty) : infer_Head t = some (hd t) := by
  unfold infer_Head hd
  repeat' split
  all_goals rfl
theorem fields_val : strings_Fields (ByteArray.mk #[105, 110, 116, 32, 98, 111, 111, 108, 32, 116, 101, 120, 116, 32, 117, 110, 105, 116]) = some [kInt, kBool, kText, kUnit] := by
  unfold strings_Fields
  rw [if_pos (by decide +kernel)]
  congr 1
theorem headOf_val (t : Ty) : roadref2_HeadOf t = some (hd t) := by
  unfold roadref2_HeadOf hd
  by_cases c6 : t.Kind = 6
  · rw [if_pos c6, if_neg (by omega), if_neg (by omega), if_neg (by omega), if_neg (by omega), if_pos c6]
  · rw [if_neg c6, if_neg c6]
    by_cases c : 1 ≤ t.Kind ∧ t.Kind ≤ 4
    · rw [if_pos (by omega), decide_eq_true c.2]
      unfold roadref2_HeadOf.j0
      rw [if_pos rfl, fields_val, Option.bind_some, wrap_in (by omega) (by omega)]
      have h4 : t.Kind = 1 ∨ t.Kind = 2 ∨ t.Kind = 3 ∨ t.Kind = 4 := by omega
      rcases h4 with h | h | h | h <;> rw [h] <;> rfl
    · have e : ∀ b : Bool, b = false → roadref2_HeadOf.j0 t b = some BA0 := fun b hb => by subst hb; unfold roadref2_HeadOf.j0; rw [if_neg (by decide)]; rfl
      rw [if_neg (show ¬ t.Kind = 1 by omega), if_neg (show ¬ t.Kind = 2 by omega), if_neg (show ¬ t.Kind = 3 by omega), if_neg (show ¬ t.Kind = 4 by omega)]
      by_cases c1 : t.Kind ≥ 1
      · rw [if_pos c1]; exact e _ (decide_eq_false (by omega))
      · rw [if_neg c1]; exact e _ rfl
def isVar (t : Ty) : Bool := decide (t.Kind = 5)
theorem vars_val (t : Ty) (s : ByteArray) (hl : t.Args.length ≤ 2000000) : trait_vars t s = if t.Args.all isVar = true then some (t.Args.map (·.Name), decide (hd t = s) && nd1 (t.Args.map (·.Name))) else some ([], false) := by
  unfold trait_vars
  refine (all_loop (l := t.Args) (F := fun a i => trait_vars.l0 s t a t.Args (t.Args.length : Int) i) (f := fun x : Ty => x.Name) (q := isVar) (K := some ([], false)) (B := 2000000) (fun a i hi h => by
    unfold isVar
    rw [trait_vars.l0_eq, if_pos (by omega), gi_at hi, Option.bind_some, ap_one (by omega), Option.bind_some, w_succ (by omega), if_dec]) hl).trans ?_
  congr 1
  rw [trait_vars.l0_eq, if_neg (nlt _), head_val, Option.bind_some, twice_val (by rw [List.length_map]; exact hl), Option.bind_some, nd1_no]
  by_cases c : hd t = s
  · rw [if_pos c, decide_eq_true c, Bool.true_and, Bool.not_not]
  · rw [if_neg c, decide_eq_false c, Bool.false_and]
theorem fbulk (f : Fn) : f.Params.length + f.Names.length + ((f.Types.map T_api_Type.bulk).sum + f.Out.bulk) + f.Body.bulk + 1 ≤ f.bulk := by
  unfold T_api_Func.bulk
  have h1 : f.Params.length ≤ (f.Params.map fun s => s.size + 1).sum := len_le_sum fun x _ => by omega
  have h2 : f.Names.length ≤ (f.Names.map fun s => s.size + 1).sum := len_le_sum fun x _ => by omega
  omega
theorem ftypes_len (f : Fn) : f.Types.length ≤ (f.Types.map T_api_Type.bulk).sum := len_le_sum fun x _ => tbulk_pos x
theorem typesMark_val {l : List Ty} (h : ∀ x ∈ l, x.Q) (hb : (l.map T_api_Type.bulk).sum ≤ 1500000000000) : roadref2_typesMark l = some (nm [(l.length : Int)] ++ cat (l.map TM)) := by
  have hlen : l.length ≤ (l.map T_api_Type.bulk).sum := len_le_sum fun x _ => tbulk_pos x
  have hc : ∀ x ∈ l, roadref2_TypeMark x = some (TM x) ∧ (TM x).size ≤ 22 * x.bulk := fun x hx => by
    have := le_sum (f := T_api_Type.bulk) hx
    have := type_mark x.bulk x (Nat.le_refl _) (by omega) (h x hx)
    exact ⟨this.1, this.2.1⟩
  have hcat := cat_le (T := TM) (g := T_api_Type.bulk) (l := l) fun x hx => (hc x hx).2
  have hk : ∀ x ∈ [(l.length : Int)], i64 x := i64_1 (i64_nat (by omega))
  have h1 := nm_size hk
  simp only [List.length_cons, List.length_nil] at h1
  unfold roadref2_typesMark
  rw [nums_val hk (by simp), Option.bind_some]
  exact cat_loop (F := fun s i => roadref2_typesMark.l0 s l (l.length : Int) i) (E := fun s => some s) (l := l) (T := TM) (fun s i hi hs => by
    rw [roadref2_typesMark.l0_eq, if_pos (by omega), gi_at hi, Option.bind_some, (hc _ (List.getElem_mem hi)).1, Option.bind_some, if_pos (by omega), w_succ (by omega)]) (fun s => by rw [roadref2_typesMark.l0_eq, if_neg (by omega)]) _ (by omega)
theorem sum_snoc {α : Type} (f : α → Nat) (l : List α) (x : α) : ((l ++ [x]).map f).sum = (l.map f).sum + f x := by rw [List.map_append, List.sum_append]; simp
theorem sum_mul' {α : Type} (f : α → Nat) (k : Nat) (l : List α) : (l.map fun x => f x * k).sum = (l.map f).sum * k := by
  induction l with
  | nil => simp
  | cons a l ih => rw [List.map_cons, List.sum_cons, List.map_cons, List.sum_cons, ih, Nat.add_mul]
section
variable {f w : Fn} (hf : f.bulk ≤ 1048576) (hw : w.bulk ≤ 1048576) (qf : f.Q) (qw : w.Q) (hn : f.Types.length = w.Types.length) (h0 : 0 < f.Types.length)
include hf hw qf qw hn h0
theorem pu_all : ∀ t ∈ w.Types ++ [w.Out], kind_Put t [kSelf] [f.Types[0]] = some (pu [kSelf] f.Types[0] t) ∧ roadref2_Swap t [kSelf] [f.Types[0]] = some (pu [kSelf] f.Types[0] t) ∧ (pu [kSelf] f.Types[0] t).Q ∧ (pu [kSelf] f.Types[0] t).bulk ≤ t.bulk * 1048576 := fun t ht => by
  have b1 := fbulk f
  have b2 := fbulk w
  have u1 := le_sum (f := T_api_Type.bulk) (List.getElem_mem h0)
  have qu : f.Types[0].Q := qf.2.2.2.1.2 _ (List.getElem_mem h0)
  have ht2 : t.bulk ≤ 1048576 ∧ t.Q := by
    rcases List.mem_append.1 ht with h | h
    · have := le_sum (f := T_api_Type.bulk) h
      exact ⟨by omega, qw.2.2.2.1.2 _ h⟩
    · rw [List.mem_singleton] at h; subst h
      exact ⟨by omega, qw.2.2.2.2.1⟩
  obtain ⟨p1, p2, p3, p4⟩ := put_all (ps := [kSelf]) (u := f.Types[0]) (by simp) (by omega) qu t.bulk t (Nat.le_refl _) ht2.1 ht2.2
  exact ⟨p1, p2, p3, Nat.le_trans p4 (Nat.mul_le_mul_left _ (by omega))⟩
theorem tp_own : ∀ t ∈ f.Types ++ [f.Out], TP t := fun t ht => by
  have b1 := fbulk f
  rcases List.mem_append.1 ht with h | h
  · have := le_sum (f := T_api_Type.bulk) h
    exact ⟨by omega, qf.2.2.2.1.2 _ h⟩
  · rw [List.mem_singleton] at h; subst h
    exact ⟨by omega, qf.2.2.2.2.1⟩
theorem tp_put : ∀ t ∈ w.Types ++ [w.Out], TP (pu [kSelf] f.Types[0] t) := fun t ht => by
  obtain ⟨_, _, p3, p4⟩ := pu_all hf hw qf qw hn h0 t ht
  have b2 := fbulk w
  have : t.bulk ≤ 1048576 := by
    rcases List.mem_append.1 ht with h | h
    · have := le_sum (f := T_api_Type.bulk) h; omega
    · rw [List.mem_singleton] at h; subst h; omega
  exact ⟨by omega, p3⟩
theorem loop_code : ∀ (d i : Nat), i + d = w.Types.length → (∀ j (hj : j < f.Types.length) (hj' : j < w.Types.length), j < i → TM f.Types[j] = TM (pu [kSelf] f.Types[0] w.Types[j])) →
    trait_Fits.l0 f w [kSelf] [f.Types[0]] w.Types (w.Types.length : Int) (i : Int) = some (if (f.Types ++ [f.Out]).map TM = ((w.Types ++ [w.Out]).map (pu [kSelf] f.Types[0])).map TM then 0 else 12) := by
  have mo : w.Out ∈ w.Types ++ [w.Out] := by simp
  have me : f.Out ∈ f.Types ++ [f.Out] := by simp
  intro d
  induction d with
  | zero =>
    intro i hi hp
    have e1 : f.Types.map TM = (w.Types.map (pu [kSelf] f.Types[0])).map TM := by
      apply List.ext_getElem (by simp [hn])
      intro j h1 h2
      simp only [List.getElem_map]
      rw [List.length_map] at h1
      exact hp j h1 (by omega) (by omega)
    rw [trait_Fits.l0_eq, if_neg (by omega), (pu_all hf hw qf qw hn h0 _ mo).1, Option.bind_some, sameT (tp_own hf hw qf qw hn h0 _ me) (tp_put hf hw qf qw hn h0 _ mo), Option.bind_some, if_dec, List.map_append, List.map_append, List.map_append, e1]
    by_cases c : TM f.Out = TM (pu [kSelf] f.Types[0] w.Out)
    · rw [if_pos c, if_pos (by simp [c])]
    · rw [if_neg c, if_neg (by simp [c])]
  | succ d ih =>
    intro i hi hp
    have hlt : i < w.Types.length := by omega
    have hlt2 : i < f.Types.length := by omega
    have mw : w.Types[i] ∈ w.Types ++ [w.Out] := List.mem_append_left _ (List.getElem_mem hlt)
    have mf : f.Types[i] ∈ f.Types ++ [f.Out] := List.mem_append_left _ (List.getElem_mem hlt2)
    have b2 := fbulk w
    have b3 := ftypes_len w
    rw [trait_Fits.l0_eq, if_pos (by omega), gi_at hlt, Option.bind_some, gi_at hlt2, Option.bind_some, (pu_all hf hw qf qw hn h0 _ mw).1, Option.bind_some, sameT (tp_own hf hw qf qw hn h0 _ mf) (tp_put hf hw qf qw hn h0 _ mw), Option.bind_some, if_dec]
    by_cases c : TM f.Types[i] = TM (pu [kSelf] f.Types[0] w.Types[i])
    · rw [if_pos c, w_succ (by omega)]
      exact ih (i + 1) (by omega) fun j hj hj' h => by
        by_cases e : j = i
        · subst e; exact c
        · exact hp j hj hj' (by omega)
    · rw [if_neg c, if_neg]
      intro e
      apply c
      have := congrArg (fun l : List ByteArray => l[i]?) e
      simp only [List.getElem?_map] at this
      rw [List.getElem?_append_left hlt2, List.getElem?_append_left hlt, List.getElem?_eq_getElem hlt2, List.getElem?_eq_getElem hlt] at this
      simpa using this
theorem code_j1 : trait_Fits.j1 f w = some (if (f.Types ++ [f.Out]).map TM = ((w.Types ++ [w.Out]).map (pu [kSelf] f.Types[0])).map TM then 0 else 12) := by
  unfold trait_Fits.j1
  rw [show gi f.Types 0 = some f.Types[0] from gi_at h0, Option.bind_some]
  unfold trait_Fits.j2
  exact loop_code hf hw qf qw hn h0 w.Types.length 0 (by omega) fun j _ _ h => absurd h (by omega)
theorem ref_j1 : roadref2_FitsErr.j1 f w = some (if (f.Types ++ [f.Out]).map TM = ((w.Types ++ [w.Out]).map (pu [kSelf] f.Types[0])).map TM then 0 else 12) := by
  have b1 := fbulk f
  have b2 := fbulk w
  have b3 := ftypes_len w
  have b4 := ftypes_len f
  unfold roadref2_FitsErr.j1
  rw [concatT (by rw [List.length_singleton]; omega), Option.bind_some]
  have ht : sls f.Types 0 1 = some [f.Types[0]] := by
    rw [sls_take (l := f.Types) (k := 1) (x := 1) rfl h0]
    congr 1
    rw [List.take_succ_eq_append_getElem h0]; rfl
  refine (map_loop (l := w.Types ++ [w.Out]) (F := fun s i => roadref2_FitsErr.l1 f s (w.Types ++ [w.Out]) ((w.Types ++ [w.Out]).length : Int) i) (f := pu [kSelf] f.Types[0]) (B := 2000000) (fun s i hi h => by
    have hlen : (w.Types ++ [w.Out]).length = w.Types.length + 1 := by rw [List.length_append]; rfl
    rw [roadref2_FitsErr.l1_eq, if_pos (by omega), gi_at hi, Option.bind_some, ht, Option.bind_some, show roadref2_Swap (w.Types ++ [w.Out])[i] [ByteArray.mk #[115, 101, 108, 102]] [f.Types[0]] = _ from (pu_all hf hw qf qw hn h0 _ (List.getElem_mem hi)).2.1, Option.bind_some, ap_one (by omega), Option.bind_some, w_succ (by omega)]) (by rw [List.length_append, List.length_singleton]; omega)).trans ?_
  have s2 : ((w.Types ++ [w.Out]).map fun x => (pu [kSelf] f.Types[0] x).bulk).sum ≤ (((w.Types ++ [w.Out]).map T_api_Type.bulk).sum) * 1048576 := by
    rw [← sum_mul']
    exact sum_le fun x hx => (pu_all hf hw qf qw hn h0 x hx).2.2.2
  have s3 : ((w.Types ++ [w.Out]).map T_api_Type.bulk).sum ≤ 1048576 := by rw [sum_snoc]; omega
  rw [roadref2_FitsErr.l1_eq, if_neg (nlt _), concatT (by rw [List.length_singleton]; omega), Option.bind_some, typesMark_val (fun x hx => (tp_own hf hw qf qw hn h0 x hx).2) (by rw [sum_snoc]; omega), Option.bind_some,
    typesMark_val (fun x hx => by obtain ⟨y, hy, rfl⟩ := List.mem_map.1 hx; exact (tp_put hf hw qf qw hn h0 y hy).2) (by rw [List.map_map]; exact Nat.le_trans s2 (by omega)), Option.bind_some]
  have hl : (f.Types ++ [f.Out]).length = ((w.Types ++ [w.Out]).map (pu [kSelf] f.Types[0])).length := by simp [hn]
  have key : (nm [((f.Types ++ [f.Out]).length : Int)] ++ cat ((f.Types ++ [f.Out]).map TM) = nm [(((w.Types ++ [w.Out]).map (pu [kSelf] f.Types[0])).length : Int)] ++ cat (((w.Types ++ [w.Out]).map (pu [kSelf] f.Types[0])).map TM)) ↔ (f.Types ++ [f.Out]).map TM = ((w.Types ++ [w.Out]).map (pu [kSelf] f.Types[0])).map TM := by
    rw [hl]
    constructor
    · intro e
      have e2 := (nm_inj (l := [_]) (m := [_]) rfl e).2
      have e3 : cat ((f.Types ++ [f.Out]).map TM) ++ BA0 = cat (((w.Types ++ [w.Out]).map (pu [kSelf] f.Types[0])).map TM) ++ BA0 := by rw [e2]
      exact (cat_inj tm_pf (fun x hx => tp_own hf hw qf qw hn h0 x hx) (fun x hx => by obtain ⟨y, hy, rfl⟩ := List.mem_map.1 hx; exact tp_put hf hw qf qw hn h0 y hy) hl e3).1
    · intro e; rw [e]
  by_cases c : (f.Types ++ [f.Out]).map TM = ((w.Types ++ [w.Out]).map (pu [kSelf] f.Types[0])).map TM
  · rw [if_pos (key.2 c), if_pos c]
  · rw [if_neg (fun e => c (key.1 e)), if_neg c]
end
theorem fits_both (m : Im) {f w : Fn} (hf : f.bulk ≤ 1048576) (hw : w.bulk ≤ 1048576) (qf : f.Q) (qw : w.Q) : ∃ e, trait_Fits m f w = some e ∧ roadref2_FitsErr m f w = some e := by
  have b1 := fbulk f
  have b2 := fbulk w
  have b4 := ftypes_len f
  unfold trait_Fits roadref2_FitsErr
  by_cases h1 : ((f.Types.length : Nat) : Int) = ((w.Types.length : Nat) : Int)
  · rw [if_pos h1, if_pos h1]
    by_cases h2 : ((f.Types.length : Nat) : Int) = 0
    · rw [if_pos h2, if_pos h2]; exact ⟨12, rfl, rfl⟩
    · rw [if_neg h2, if_neg h2]
      have h0 : 0 < f.Types.length := by omega
      have hn : f.Types.length = w.Types.length := by omega
      have g0 : gi f.Types 0 = some f.Types[0] := gi_at h0
      have u1 := le_sum (f := T_api_Type.bulk) (List.getElem_mem h0)
      have u2 := targs_len f.Types[0]
      unfold trait_Fits.j0
      rw [g0, Option.bind_some, Option.bind_some, vars_val _ _ (by omega), headOf_val, Option.bind_some]
      have refl0 : roadref2_FitsErr.j0 f w = if f.Types[0].Args.all isVar = true then roadref2_FitsErr.l0 f w (f.Types[0].Args.map (·.Name)) f.Types[0].Args (f.Types[0].Args.length : Int) (f.Types[0].Args.length : Int) else some 12 := by
        unfold roadref2_FitsErr.j0
        rw [g0, Option.bind_some]
        refine (all_loop (l := f.Types[0].Args) (F := fun a i => roadref2_FitsErr.l0 f w a f.Types[0].Args (f.Types[0].Args.length : Int) i) (f := fun x : Ty => x.Name) (q := isVar) (K := some 12) (B := 2000000) (fun a i hi h => by
          unfold isVar
          rw [roadref2_FitsErr.l0_eq, if_pos (by omega), gi_at hi, Option.bind_some, ap_one (by omega), Option.bind_some, w_succ (by omega), if_dec]) (by omega))
      by_cases hall : f.Types[0].Args.all isVar = true
      · rw [if_pos hall, Option.bind_some]
        rw [if_pos hall] at refl0
        simp only
        by_cases hh : hd f.Types[0] = m.For
        · rw [if_pos hh, decide_eq_true hh, Bool.true_and, refl0, roadref2_FitsErr.l0_eq, if_neg (nlt _), concatS (by rw [List.length_map]; omega), Option.bind_some, eq20 (by omega), Option.bind_some, if_dec]
          have dv := doubled_val (l := f.Params) (by omega)
          rw [nd1_no] at dv
          cases hnd : nd1 (f.Types[0].Args.map (·.Name)) with
          | true =>
            rw [if_pos rfl, ap_of (by rw [List.length_map]; omega), Option.bind_some, eq20 (by omega), Option.bind_some, if_dec]
            by_cases he : f.Params = f.Types[0].Args.map (·.Name) ++ w.Params
            · rw [if_pos he, if_pos he, twice_val (by omega), Option.bind_some, nd1_no, dv, Option.bind_some, if_not, if_not]
              by_cases hp : nd1 f.Params = true
              · rw [if_pos hp, if_pos hp]
                exact ⟨_, code_j1 hf hw qf qw hn h0, ref_j1 hf hw qf qw hn h0⟩
              · rw [if_neg hp, if_neg hp]; exact ⟨12, rfl, rfl⟩
            · rw [if_neg he, if_neg he]; exact ⟨12, rfl, rfl⟩
          | false =>
            rw [if_neg (by decide)]
            refine ⟨12, rfl, ?_⟩
            by_cases he : f.Params = f.Types[0].Args.map (·.Name) ++ w.Params
            · have hp : nd1 f.Params = false := by
                unfold nd1 at hnd ⊢
                rw [decide_eq_false_iff_not] at hnd ⊢
                intro h
                rw [he] at h
                exact hnd (h.sublist (List.sublist_append_left _ _))
              rw [if_pos he, dv, Option.bind_some, hp]; rfl
            · rw [if_neg he]
        · rw [if_neg hh, decide_eq_false hh, Bool.false_and, if_neg (by decide)]
          exact ⟨12, rfl, rfl⟩
      · rw [if_neg hall, Option.bind_some]
        rw [if_neg hall] at refl0
        simp only
        rw [if_neg (by decide), refl0]
        refine ⟨12, rfl, ?_⟩
        split <;> rfl
  · rw [if_neg h1, if_neg h1]; exact ⟨12, rfl, rfl⟩
def selfT : Ty := T_api_Type.mk 5 kSelf []
theorem self_tp : TP selfT := ⟨by rw [tbulk]; decide, T_api_Type.Q_iff.2 ⟨by decide, by decide, by decide, fun x hx => by cases hx⟩⟩
theorem self_iff {u : Ty} (h : TP u) : TM u = TM selfT ↔ u.Kind = 5 ∧ u.Name = kSelf ∧ u.Args = [] := by
  rw [tm_iff h self_tp]
  constructor
  · rintro ⟨h1, h2, h3⟩; exact ⟨h1, h2, List.map_eq_nil_iff.1 h3⟩
  · rintro ⟨h1, h2, h3⟩; exact ⟨h1, h2, by rw [h3]; rfl⟩
noncomputable def okT (f : Fn) : Bool := match f.Types with
  | [] => false
  | u :: _ => decide (u.Kind = 5) && (decide (u.Name = kSelf) && decide (u.Args.length = 0))
noncomputable def tE (t : Tr) : Int := if t.Funcs.all okT = true then (if nd1 (t.Funcs.map (·.Name)) = true then 0 else 11) else 12
theorem trait_both (t : Tr) (hl : t.Funcs.length ≤ 2000000) (ht : ∀ f ∈ t.Funcs, ∀ u ∈ f.Types, TP u) : trait_Trait t = some (tE t) ∧ roadref2_TraitErr t = some (tE t) := by
  constructor
  · unfold trait_Trait
    refine (all_loop (l := t.Funcs) (F := fun s i => trait_Trait.l0 s t.Funcs (t.Funcs.length : Int) i) (f := fun x : Fn => x.Name) (q := okT) (K := some 12) (B := 2000000) (fun s i hi h => by
      rw [trait_Trait.l0_eq, if_pos (by omega), gi_at hi, Option.bind_some, ap_one (by omega), Option.bind_some, w_succ (by omega)]
      have hm := ht _ (List.getElem_mem hi)
      unfold okT
      cases hq : t.Funcs[i].Types with
      | nil => rw [if_pos (by simp), if_neg (by decide)]
      | cons u r =>
        have hu : TP u := hm u (by rw [hq]; exact List.mem_cons_self ..)
        rw [if_neg (by simp; omega), gi_cons, Option.bind_some, show tree_SameType u (T_api_Type.mk 5 (ByteArray.mk #[115, 101, 108, 102]) []) = _ from sameT hu self_tp, Option.bind_some, if_dec]
        by_cases c : TM u = TM selfT
        · obtain ⟨c1, c2, c3⟩ := (self_iff hu).1 c
          rw [if_pos (show TM u = TM (T_api_Type.mk 5 (ByteArray.mk #[115, 101, 108, 102]) []) from c), if_pos (by simp [c1, c2, c3])]
        · rw [if_neg (show ¬ TM u = TM (T_api_Type.mk 5 (ByteArray.mk #[115, 101, 108, 102]) []) from c), if_neg]
          intro e
          apply c
          simp only [Bool.and_eq_true, decide_eq_true_eq] at e
          exact (self_iff hu).2 ⟨e.1, e.2.1, List.length_eq_zero_iff.1 e.2.2⟩) hl).trans ?_
    unfold tE
    by_cases c : t.Funcs.all okT = true
    · rw [if_pos c, if_pos c, trait_Trait.l0_eq, if_neg (nlt _), twice_val (by rw [List.length_map]; exact hl), Option.bind_some, nd1_no, if_not]
      split <;> rfl
    · rw [if_neg c, if_neg c]
  · unfold roadref2_TraitErr
    refine (all_loop (l := t.Funcs) (F := fun s i => roadref2_TraitErr.l0 s t.Funcs (t.Funcs.length : Int) i) (f := fun x : Fn => x.Name) (q := okT) (K := some 12) (B := 2000000) (fun s i hi h => by
      have j0 : roadref2_TraitErr.j0 s t.Funcs[i] t.Funcs (t.Funcs.length : Int) (i : Int) = roadref2_TraitErr.l0 (s ++ [t.Funcs[i].Name]) t.Funcs (t.Funcs.length : Int) ((i + 1 : Nat) : Int) := by
        rw [roadref2_TraitErr.j0_eq, ap_one (by omega), Option.bind_some, w_succ (by omega)]
      rw [roadref2_TraitErr.l0_eq, if_pos (by omega), gi_at hi, Option.bind_some, j0]
      unfold okT
      cases hq : t.Funcs[i].Types with
      | nil => rw [if_pos (by simp), if_neg (by decide)]
      | cons u r =>
        rw [if_neg (by simp; omega), gi_cons, Option.bind_some, Option.bind_some, Option.bind_some]
        by_cases c1 : u.Kind = 5
        · rw [if_pos c1]
          by_cases c2 : u.Name = kSelf
          · rw [if_pos (show u.Name = ByteArray.mk #[115, 101, 108, 102] from c2)]
            by_cases c3 : u.Args.length = 0
            · rw [if_neg (by omega), if_pos (by simp [c1, c2, c3])]
            · rw [if_pos (by omega), if_neg (by simp [c1, c2]; simpa using c3)]
          · rw [if_neg (show ¬ u.Name = ByteArray.mk #[115, 101, 108, 102] from c2), if_neg (by simp [c2])]
        · rw [if_neg c1, if_neg (by simp [c1])]) hl).trans ?_
    unfold tE
    by_cases c : t.Funcs.all okT = true
    · rw [if_pos c, if_pos c, roadref2_TraitErr.l0_eq, if_neg (nlt _), doubled_val (by rw [List.length_map]; exact hl), Option.bind_some, nd1_no, if_not]
      split <;> rfl
    · rw [if_neg c, if_neg c]
theorem idx_find {α : Type} (q : α → Bool) (l : List α) : (l.find? q = none ∧ idxOf q l < 0) ∨ ∃ x, l.find? q = some x ∧ 0 ≤ idxOf q l ∧ gi l (idxOf q l) = some x ∧ q x = true ∧ x ∈ l := by
  cases h : l.findIdx? q with
  | none =>
    have h' := List.findIdx?_eq_none_iff.1 h
    refine .inl ⟨List.find?_eq_none.2 fun x hx => by rw [h' x hx]; decide, ?_⟩
    unfold idxOf; rw [h]; decide
  | some k =>
    obtain ⟨hlt, hq, hn⟩ := List.findIdx?_eq_some_iff_getElem.1 h
    have e : idxOf q l = (k : Int) := by unfold idxOf; rw [h]
    refine .inr ⟨l[k], ?_, by rw [e]; omega, by rw [e]; exact gi_at hlt, hq, List.getElem_mem hlt⟩
    rw [List.find?_eq_some_iff_getElem]
    exact ⟨hq, k, hlt, rfl, fun j hj => by have := hn j hj; simpa using this⟩
theorem lens_t {p : Pg} (hb : p.bulk ≤ 1048576) : p.Traits.length ≤ 1048576 ∧ p.Impls.length ≤ 1048576 := by
  have h := prbulk p
  have h1 : p.Traits.length ≤ (p.Traits.map T_api_Trait.bulk).sum := len_le_sum fun x _ => by unfold T_api_Trait.bulk; omega
  have h2 : p.Impls.length ≤ (p.Impls.map T_api_Impl.bulk).sum := len_le_sum fun x _ => by unfold T_api_Impl.bulk; omega
  omega
theorem fpos (f : Fn) : 1 ≤ f.bulk := by have := fbulk f; omega
theorem tr_funcs {p : Pg} (hb : p.bulk ≤ 1048576) (q : p.Q) {t : Tr} (ht : t ∈ p.Traits) : t.Funcs.length ≤ 1048576 ∧ (∀ f ∈ t.Funcs, f.bulk ≤ 1048576 ∧ f.Q) := by
  have h := prbulk p
  have h1 := le_sum (f := T_api_Trait.bulk) ht
  have h2 : (t.Funcs.map T_api_Func.bulk).sum ≤ t.bulk := by unfold T_api_Trait.bulk; omega
  have h3 : t.Funcs.length ≤ (t.Funcs.map T_api_Func.bulk).sum := len_le_sum fun x _ => fpos x
  refine ⟨by omega, fun f hf => ?_⟩
  have := le_sum (f := T_api_Func.bulk) hf
  exact ⟨by omega, (q.2.2.2.2.1.2 t ht).2.2 f hf⟩
theorem im_funcs {p : Pg} (hb : p.bulk ≤ 1048576) (q : p.Q) {t : Im} (ht : t ∈ p.Impls) : t.Funcs.length ≤ 1048576 ∧ (∀ f ∈ t.Funcs, f.bulk ≤ 1048576 ∧ f.Q) := by
  have h := prbulk p
  have h1 := le_sum (f := T_api_Impl.bulk) ht
  have h2 : (t.Funcs.map T_api_Func.bulk).sum ≤ t.bulk := by unfold T_api_Impl.bulk; omega
  have h3 : t.Funcs.length ≤ (t.Funcs.map T_api_Func.bulk).sum := len_le_sum fun x _ => fpos x
  refine ⟨by omega, fun f hf => ?_⟩
  have := le_sum (f := T_api_Func.bulk) hf
  exact ⟨by omega, (q.2.2.2.2.2.1.2 t ht).2.2.2 f hf⟩
theorem tp_of {f : Fn} (hb : f.bulk ≤ 1048576) (q : f.Q) : ∀ u ∈ f.Types, TP u := fun u hu => by
  have := fbulk f
  have := le_sum (f := T_api_Type.bulk) hu
  exact ⟨by omega, q.2.2.2.1.2 u hu⟩
def tfind (p : Pg) (s : ByteArray) : Option Tr := p.Traits.find? fun t => decide (t.Name = s)
def zt : Tr := T_api_Trait.mk (ByteArray.mk #[]) ([] : List T_api_Func)
def tres (o : Option Tr) : Tr × Int := match o with | some t => (t, 0) | none => (zt, 11)
theorem find_val' {p : Pg} (hb : p.bulk ≤ 1048576) (s : ByteArray) : trait_Find p s = some (tres (tfind p s)) := by
  have hd := (lens_t hb).1
  have key : ∀ (d i : Nat), p.Traits.length - i = d → i ≤ p.Traits.length → trait_Find.l0 s zt p.Traits (p.Traits.length : Int) (i : Int) = some (tres ((p.Traits.drop i).find? fun d => decide (d.Name = s))) := by
    intro d
    induction d with
    | zero =>
      intro i hd hi
      obtain rfl : i = p.Traits.length := by omega
      rw [trait_Find.l0_eq, if_neg (nlt _), List.drop_length]
      rfl
    | succ d ih =>
      intro i hd hi
      have hlt : i < p.Traits.length := by omega
      rw [trait_Find.l0_eq, if_pos (by omega), gi_at hlt, Option.bind_some, List.drop_eq_getElem_cons hlt, w_succ (by omega)]
      by_cases c : p.Traits[i].Name = s
      · rw [if_pos c, List.find?_cons_of_pos (by simp [c])]
        rfl
      · rw [if_neg c, List.find?_cons_of_neg (by simp [c])]
        exact ih (i + 1) (by omega) (by omega)
  unfold trait_Find
  exact key p.Traits.length 0 (by omega) (by omega)
theorem tidx {p : Pg} (hb : p.bulk ≤ 1048576) (s : ByteArray) (g : Tr → Option Bool) (hg : ∀ t, g t = some (decide (t.Name = s))) : slices_IndexFunc_8 p.Traits g = some (idxOf (fun t : Tr => decide (t.Name = s)) p.Traits) := by
  have := (lens_t hb).1
  unfold slices_IndexFunc_8
  exact find_val (f := slices_IndexFunc_8.l0) slices_IndexFunc_8.l0_eq _ (fun x _ => hg x) (by omega)
theorem iidx {p : Pg} (hb : p.bulk ≤ 1048576) (q : Im → Bool) (g : Im → Option Bool) (hg : ∀ t, g t = some (q t)) : slices_IndexFunc_12 p.Impls g = some (idxOf q p.Impls) := by
  have := (lens_t hb).2
  unfold slices_IndexFunc_12
  exact find_val (f := slices_IndexFunc_12.l0) slices_IndexFunc_12.l0_eq _ (fun x _ => hg x) (by omega)
theorem dataOf_val {p : Pg} (hb : p.bulk ≤ 1048576) (s : ByteArray) : ∃ k : Int, roadref2_dataOf p s = some k ∧ (k < 0 ↔ dfind p s = none) := by
  obtain ⟨k, k1, k2, k3⟩ := index_ok hb s (fun z27 => roadref2_dataOf_1 z27 s) (fun d => rfl)
  refine ⟨k, by unfold roadref2_dataOf; rw [k1, Option.bind_some], ?_⟩
  cases h : dfind p s with
  | none => exact ⟨fun _ => rfl, fun _ => k2 h⟩
  | some d => have := (k3 d h).1; exact ⟨fun h => by omega, fun h => by cases h⟩
def same (m o : Im) : Bool := decide (o.Trait = m.Trait) && decide (o.For = m.For)
def plain (s : ByteArray) : Bool := decide (s ∈ [kInt, kBool, kText, kUnit])
theorem funcs_loop {p : Pg} {t : Tr} {m : Im} (ht : ∀ f ∈ t.Funcs, f.bulk ≤ 1048576 ∧ f.Q) (hm : ∀ f ∈ m.Funcs, f.bulk ≤ 1048576 ∧ f.Q) (hl : m.Funcs.length = t.Funcs.length) (hn : m.Funcs.length ≤ 1048576) (n i : Int) : ∀ (d j : Nat), j + d = m.Funcs.length →
    ∃ e, trait_impl.l0 m t m.Funcs (m.Funcs.length : Int) (j : Int) = some e ∧ roadref2_TraitsOf.l3 p m t.Funcs p.Impls n i m.Funcs (m.Funcs.length : Int) (j : Int) = if e = 0 then roadref2_TraitsOf.l1 p p.Impls n (IntKind.wrap .i64 (i + 1)) else some e := by
  intro d
  induction d with
  | zero =>
    intro j hj
    rw [trait_impl.l0_eq, roadref2_TraitsOf.l3_eq, if_neg (by omega), if_neg (by omega)]
    exact ⟨0, rfl, by rw [if_pos rfl]⟩
  | succ d ih =>
    intro j hj
    have h1 : j < m.Funcs.length := by omega
    have h2 : j < t.Funcs.length := by omega
    rw [trait_impl.l0_eq, roadref2_TraitsOf.l3_eq, if_pos (by omega), if_pos (by omega), gi_at h1, gi_at h2]
    simp only [Option.bind_some]
    by_cases c : m.Funcs[j].Name = t.Funcs[j].Name
    · obtain ⟨a1, a2⟩ := hm _ (List.getElem_mem h1)
      obtain ⟨a3, a4⟩ := ht _ (List.getElem_mem h2)
      obtain ⟨e, e1, e2⟩ := fits_both m a1 a3 a2 a4
      rw [if_pos c, if_pos c, e1, e2, Option.bind_some, Option.bind_some]
      by_cases c2 : e = 0
      · rw [if_pos c2, if_pos c2, w_succ (by omega)]
        exact ih (j + 1) (by omega)
      · rw [if_neg c2, if_neg c2]
        exact ⟨e, rfl, by rw [if_neg c2]⟩
    · rw [if_neg c, if_neg c]
      exact ⟨16, rfl, by rw [if_neg (by decide)]⟩
theorem impl_both {p : Pg} (hb : p.bulk ≤ 1048576) (q : p.Q) {m : Im} (hm : m ∈ p.Impls) (n i : Int) (l : List Im) :
    ∃ e, trait_impl p m = some e ∧ roadref2_TraitsOf.l2 p m (idxOf (fun t : Tr => decide (t.Name = m.Trait)) p.Traits) (plain m.For) p.Impls n i l (l.length : Int) (l.length : Int) = if e = 0 then roadref2_TraitsOf.l1 p p.Impls n (IntKind.wrap .i64 (i + 1)) else some e := by
  obtain ⟨im1, im2⟩ := im_funcs hb q hm
  unfold trait_impl
  rw [roadref2_TraitsOf.l2_eq, if_neg (nlt _)]
  rcases idx_find (fun t : Tr => decide (t.Name = m.Trait)) p.Traits with ⟨f1, f2⟩ | ⟨t, f1, f2, f3, f4, f5⟩
  · have ft : trait_Find p m.Trait = some (zt, 11) := by rw [find_val' hb, show tfind p m.Trait = none from f1]; rfl
    rw [ft, Option.bind_some, if_pos f2, if_neg (show ¬ (zt, (11 : Int)).2 = 0 by decide)]
    exact ⟨11, rfl, by rw [if_neg (by decide)]⟩
  · obtain ⟨tr1, tr2⟩ := tr_funcs hb q f5
    have ft : trait_Find p m.Trait = some (t, 0) := by rw [find_val' hb, show tfind p m.Trait = some t from f1]; rfl
    rw [ft, Option.bind_some, if_pos (show (t, (0 : Int)).2 = 0 from rfl), if_neg (show ¬ idxOf (fun t : Tr => decide (t.Name = m.Trait)) p.Traits < 0 by omega)]
    obtain ⟨k, k1, k2⟩ := dataOf_val hb m.For
    rw [k1, Option.bind_some]
    have core : ∃ e, trait_impl.j0 m t = some e ∧ roadref2_TraitsOf.j1 p m (idxOf (fun t : Tr => decide (t.Name = m.Trait)) p.Traits) p.Impls n i = if e = 0 then roadref2_TraitsOf.l1 p p.Impls n (IntKind.wrap .i64 (i + 1)) else some e := by
      unfold trait_impl.j0
      rw [roadref2_TraitsOf.j1_eq, f3, Option.bind_some]
      by_cases c : m.Funcs.length = t.Funcs.length
      · rw [if_pos (by omega), if_pos (by omega)]
        exact funcs_loop tr2 im2 c im1 n i m.Funcs.length 0 (by omega)
      · rw [if_neg (by omega), if_neg (by omega)]
        exact ⟨16, rfl, by rw [if_neg (by decide)]⟩
    obtain ⟨e, e1, e2⟩ := core
    cases hd : dfind p m.For with
    | some d =>
      have hk : ¬ k < 0 := fun h => by rw [k2.1 h] at hd; cases hd
      have fd : kind_Data p m.For = some (d, 0) := by rw [data_val hb, hd]; rfl
      rw [fd, Option.bind_some, if_pos (show (d, (0 : Int)).2 = 0 from rfl), if_neg hk]
      unfold trait_impl.j1
      rw [if_neg (by decide)]
      exact ⟨e, e1, e2⟩
    | none =>
      have fd : kind_Data p m.For = some (zd, 11) := by rw [data_val hb, hd]; rfl
      rw [fd, Option.bind_some, if_neg (show ¬ (zd, (11 : Int)).2 = 0 by decide), if_pos (k2.2 hd)]
      have hc : slices_Contains_22 [ByteArray.mk #[105, 110, 116], ByteArray.mk #[98, 111, 111, 108], ByteArray.mk #[116, 101, 120, 116], ByteArray.mk #[117, 110, 105, 116]] m.For = some (plain m.For) := has_val (l := [kInt, kBool, kText, kUnit]) m.For (by decide)
      rw [hc, Option.bind_some]
      unfold trait_impl.j1
      rw [if_not]
      by_cases c : plain m.For = true
      · rw [if_pos c, if_pos c]
        exact ⟨e, e1, e2⟩
      · rw [if_neg c, if_neg c]
        exact ⟨11, rfl, by rw [if_neg (by decide)]⟩
theorem plain_j0 {p : Pg} {x : Int} {m : Im} {k n : Int} : (if m.For = (ByteArray.mk #[105, 110, 116]) then roadref2_TraitsOf.j0 p x m k true p.Impls n x else (if m.For = (ByteArray.mk #[98, 111, 111, 108]) then roadref2_TraitsOf.j0 p x m k true p.Impls n x else (if m.For = (ByteArray.mk #[116, 101, 120, 116]) then roadref2_TraitsOf.j0 p x m k true p.Impls n x else roadref2_TraitsOf.j0 p x m k (decide (m.For = (ByteArray.mk #[117, 110, 105, 116]))) p.Impls n x)))
    = roadref2_TraitsOf.j0 p x m k (plain m.For) p.Impls n x := by
  by_cases c1 : m.For = kInt
  · rw [if_pos (show m.For = ByteArray.mk #[105, 110, 116] from c1)]; unfold plain; rw [decide_eq_true (by rw [c1]; simp)]
  · rw [if_neg (show ¬ m.For = ByteArray.mk #[105, 110, 116] from c1)]
    by_cases c2 : m.For = kBool
    · rw [if_pos (show m.For = ByteArray.mk #[98, 111, 111, 108] from c2)]; unfold plain; rw [decide_eq_true (by rw [c2]; simp)]
    · rw [if_neg (show ¬ m.For = ByteArray.mk #[98, 111, 111, 108] from c2)]
      by_cases c3 : m.For = kText
      · rw [if_pos (show m.For = ByteArray.mk #[116, 101, 120, 116] from c3)]; unfold plain; rw [decide_eq_true (by rw [c3]; simp)]
      · rw [if_neg (show ¬ m.For = ByteArray.mk #[116, 101, 120, 116] from c3)]
        congr 1
        unfold plain
        rw [decide_eq_decide]
        show m.For = kUnit ↔ _
        constructor
        · intro h; rw [h]; simp
        · intro h
          simp only [List.mem_cons, List.not_mem_nil, or_false] at h
          rcases h with h | h | h | h
          · exact absurd h c1
          · exact absurd h c2
          · exact absurd h c3
          · exact h
theorem impls_loop {p : Pg} (hb : p.bulk ≤ 1048576) (q : p.Q) : ∀ (d i : Nat), i + d = p.Impls.length → ∃ e, trait_Program.l1 p p.Impls (p.Impls.length : Int) (i : Int) = some e ∧ roadref2_TraitsOf.l1 p p.Impls (p.Impls.length : Int) (i : Int) = some e := by
  have hl := (lens_t hb).2
  intro d
  induction d with
  | zero =>
    intro i hi
    rw [trait_Program.l1_eq, roadref2_TraitsOf.l1_eq, if_neg (by omega), if_neg (by omega)]
    exact ⟨0, rfl, rfl⟩
  | succ d ih =>
    intro i hi
    have hlt : i < p.Impls.length := by omega
    have hm := List.getElem_mem hlt
    obtain ⟨e, e1, e2⟩ := impl_both hb q hm (p.Impls.length : Int) (i : Int) (p.Impls.take i)
    have hs : sls p.Impls 0 (i : Int) = some (p.Impls.take i) := sls_take rfl (by omega)
    have hc : slices_ContainsFunc_33 (p.Impls.take i) (fun z37 => trait_Program_1 z37 p.Impls[i]) = some ((p.Impls.take i).any (same p.Impls[i])) := by
      refine slices_ContainsFunc_33.val (same p.Impls[i]) (fun x _ => ?_) (by rw [List.length_take]; omega)
      unfold trait_Program_1 same
      by_cases c : x.Trait = p.Impls[i].Trait
      · rw [if_pos c, decide_eq_true c, Bool.true_and]
      · rw [if_neg c, decide_eq_false c, Bool.false_and]
    have hl2 : roadref2_TraitsOf.l2 p p.Impls[i] (idxOf (fun t : Tr => decide (t.Name = p.Impls[i].Trait)) p.Traits) (plain p.Impls[i].For) p.Impls (p.Impls.length : Int) (i : Int) (p.Impls.take i) ((p.Impls.take i).length : Int) 0
        = if (p.Impls.take i).any (same p.Impls[i]) = true then some 5 else roadref2_TraitsOf.l2 p p.Impls[i] (idxOf (fun t : Tr => decide (t.Name = p.Impls[i].Trait)) p.Traits) (plain p.Impls[i].For) p.Impls (p.Impls.length : Int) (i : Int) (p.Impls.take i) ((p.Impls.take i).length : Int) ((p.Impls.take i).length : Int) := by
      refine (all_loop0 (l := p.Impls.take i) (F := fun j => roadref2_TraitsOf.l2 p p.Impls[i] (idxOf (fun t : Tr => decide (t.Name = p.Impls[i].Trait)) p.Traits) (plain p.Impls[i].For) p.Impls (p.Impls.length : Int) (i : Int) (p.Impls.take i) ((p.Impls.take i).length : Int) j) (q := fun o => !same p.Impls[i] o) (K := some 5) (fun j hj => by
        have hj' := hj
        rw [List.length_take] at hj'
        rw [roadref2_TraitsOf.l2_eq, if_pos (by omega), gi_at hj, Option.bind_some, w_succ (by omega), if_not]
        unfold same
        by_cases c : (p.Impls.take i)[j].Trait = p.Impls[i].Trait
        · rw [if_pos c, decide_eq_true c, Bool.true_and, if_dec]
        · rw [if_neg c, decide_eq_false c, Bool.false_and, if_neg (by decide)])).trans ?_
      cases ha : (p.Impls.take i).any (same p.Impls[i]) with
      | true =>
        rw [if_pos rfl, if_neg]
        intro h
        rw [List.all_eq_true] at h
        obtain ⟨x, hx, hx2⟩ := List.any_eq_true.1 ha
        have := h x hx
        rw [hx2] at this
        exact absurd this (by decide)
      | false =>
        rw [if_neg (show ¬ false = true by decide), if_pos]
        rw [List.all_eq_true]
        intro x hx
        rw [List.any_eq_false] at ha
        have := ha x hx
        simpa using this
    rw [trait_Program.l1_eq, roadref2_TraitsOf.l1_eq, if_pos (by omega), if_pos (by omega), gi_at hlt, Option.bind_some, Option.bind_some, hs, Option.bind_some, hc, Option.bind_some, tidx hb p.Impls[i].Trait (fun z32 => roadref2_TraitsOf_1 z32 p.Impls[i]) (fun t => rfl), Option.bind_some, plain_j0, roadref2_TraitsOf.j0_eq, hs, Option.bind_some, hl2]
    cases ha : (p.Impls.take i).any (same p.Impls[i]) with
    | true => rw [if_pos rfl, if_pos rfl]; exact ⟨5, rfl, rfl⟩
    | false =>
      rw [if_neg (by decide), if_neg (by decide), e1, e2, Option.bind_some, w_succ (by omega)]
      by_cases c : e = 0
      · rw [if_pos c, if_pos c]; exact ih (i + 1) (by omega)
      · rw [if_neg c, if_neg c]; exact ⟨e, rfl, rfl⟩
theorem tE_of {p : Pg} (hb : p.bulk ≤ 1048576) (q : p.Q) {t : Tr} (ht : t ∈ p.Traits) : trait_Trait t = some (tE t) ∧ roadref2_TraitErr t = some (tE t) := by
  obtain ⟨h1, h2⟩ := tr_funcs hb q ht
  exact trait_both t (by omega) fun f hf => tp_of (h2 f hf).1 (h2 f hf).2
theorem program_both {p : Pg} (hb : p.bulk ≤ 1048576) (q : p.Q) : ∃ e, trait_Program p = some e ∧ roadref2_TraitsOf p = some e := by
  have hl := (lens_t hb).1
  unfold trait_Program roadref2_TraitsOf
  have key : ∀ (d i : Nat), i + d = p.Traits.length → ∃ e, trait_Program.l0 p p.Traits (p.Traits.length : Int) (i : Int) = some e ∧ roadref2_TraitsOf.l0 p p.Traits (p.Traits.length : Int) (i : Int) = some e := by
    intro d
    induction d with
    | zero =>
      intro i hi
      rw [trait_Program.l0_eq, roadref2_TraitsOf.l0_eq, if_neg (by omega), if_neg (by omega)]
      exact impls_loop hb q p.Impls.length 0 (by omega)
    | succ d ih =>
      intro i hi
      have hlt : i < p.Traits.length := by omega
      obtain ⟨e1, e2⟩ := tE_of hb q (List.getElem_mem hlt)
      rw [trait_Program.l0_eq, roadref2_TraitsOf.l0_eq, if_pos (by omega), if_pos (by omega), gi_at hlt, Option.bind_some, Option.bind_some, e1, e2, Option.bind_some, Option.bind_some]
      by_cases c : tE p.Traits[i] = 0
      · rw [if_pos c, if_pos c, w_succ (by omega)]; exact ih (i + 1) (by omega)
      · rw [if_neg c, if_neg c]; exact ⟨_, rfl, rfl⟩
  exact key p.Traits.length 0 (by omega)
theorem law_l2 {p : Pg} {t : Tr} {m : Im} (ht : ∀ f ∈ t.Funcs, f.bulk ≤ 1048576 ∧ f.Q) (hm : ∀ f ∈ m.Funcs, f.bulk ≤ 1048576 ∧ f.Q) (h1 : t.Funcs.length ≤ 1048576) (h2 : m.Funcs.length ≤ 1048576) (n i n2 k : Int) : ∀ (d j : Nat), j + d = min t.Funcs.length m.Funcs.length →
    roadlaw2_TraitSays.l2 p t m p.Traits n i p.Impls n2 k (if (t.Funcs.length : Int) < (m.Funcs.length : Int) then (t.Funcs.length : Int) else (m.Funcs.length : Int)) (j : Int) = roadlaw2_TraitSays.l1 p t p.Traits n i p.Impls n2 (IntKind.wrap .i64 (k + 1)) := by
  have hmin : (if (t.Funcs.length : Int) < (m.Funcs.length : Int) then (t.Funcs.length : Int) else (m.Funcs.length : Int)) = ((min t.Funcs.length m.Funcs.length : Nat) : Int) := by split <;> omega
  rw [hmin]
  intro d
  induction d with
  | zero => intro j hj; rw [roadlaw2_TraitSays.l2_eq, if_neg (by omega)]
  | succ d ih =>
    intro j hj
    have g1 : j < m.Funcs.length := by omega
    have g2 : j < t.Funcs.length := by omega
    obtain ⟨a1, a2⟩ := hm _ (List.getElem_mem g1)
    obtain ⟨a3, a4⟩ := ht _ (List.getElem_mem g2)
    obtain ⟨e, e1, e2⟩ := fits_both m a1 a3 a2 a4
    rw [roadlaw2_TraitSays.l2_eq, if_pos (by omega), gi_at g1, gi_at g2, Option.bind_some, Option.bind_some, Option.bind_some, Option.bind_some, e1, e2, Option.bind_some, Option.bind_some, if_pos rfl, w_succ (by omega)]
    exact ih (j + 1) (by omega)
theorem law_l1 {p : Pg} (hb : p.bulk ≤ 1048576) (q : p.Q) {t : Tr} (ht : t ∈ p.Traits) (n i : Int) : ∀ (d j : Nat), j + d = p.Impls.length → roadlaw2_TraitSays.l1 p t p.Traits n i p.Impls (p.Impls.length : Int) (j : Int) = roadlaw2_TraitSays.l0 p p.Traits n (IntKind.wrap .i64 (i + 1)) := by
  have hl := (lens_t hb).2
  obtain ⟨t1, t2⟩ := tr_funcs hb q ht
  intro d
  induction d with
  | zero => intro j hj; rw [roadlaw2_TraitSays.l1_eq, if_neg (by omega)]
  | succ d ih =>
    intro j hj
    have hlt : j < p.Impls.length := by omega
    obtain ⟨m1, m2⟩ := im_funcs hb q (List.getElem_mem hlt)
    rw [roadlaw2_TraitSays.l1_eq, if_pos (by omega), gi_at hlt, Option.bind_some]
    have := law_l2 (p := p) (t := t) (m := p.Impls[j]) t2 m2 t1 m1 n i (p.Impls.length : Int) (j : Int) (min t.Funcs.length p.Impls[j].Funcs.length) 0 (by omega)
    refine Eq.trans this ?_
    rw [w_succ (by omega)]
    exact ih (j + 1) (by omega)
theorem law_j1 {p : Pg} (hb : p.bulk ≤ 1048576) (q : p.Q) : roadlaw2_TraitSays.j1 p = some true := by
  have hl := (lens_t hb).1
  unfold roadlaw2_TraitSays.j1
  have key : ∀ (d i : Nat), i + d = p.Traits.length → roadlaw2_TraitSays.l0 p p.Traits (p.Traits.length : Int) (i : Int) = some true := by
    intro d
    induction d with
    | zero =>
      intro i hi
      rw [roadlaw2_TraitSays.l0_eq, if_neg (by omega), (trait_both _ (by simp) (fun f hf u hu => by rw [List.mem_singleton] at hf; subst hf; cases hu)).1, Option.bind_some]
      rfl
    | succ d ih =>
      intro i hi
      have hlt : i < p.Traits.length := by omega
      obtain ⟨e1, e2⟩ := tE_of hb q (List.getElem_mem hlt)
      rw [roadlaw2_TraitSays.l0_eq, if_pos (by omega), gi_at hlt, Option.bind_some, e1, e2, Option.bind_some, Option.bind_some, if_pos rfl]
      refine Eq.trans (law_l1 hb q (List.getElem_mem hlt) (p.Traits.length : Int) (i : Int) p.Impls.length 0 (by omega)) ?_
      rw [w_succ (by omega)]
      exact ih (i + 1) (by omega)
  exact key p.Traits.length 0 (by omega)
theorem law_j0 {p : Pg} (hb : p.bulk ≤ 1048576) (q : p.Q) (s : ByteArray) (t : Ty) : roadlaw2_TraitSays.j0 p s t = some true := by
  have e1 := iidx hb (fun m : Im => decide (m.Trait = s) && decide (m.For = hd t)) (fun z32 => trait_Impl_1 z32 s t) (fun m => by
    unfold trait_Impl_1
    by_cases c : m.Trait = s
    · rw [if_pos c, head_val, Option.bind_some, decide_eq_true c, Bool.true_and]
    · rw [if_neg c, decide_eq_false c, Bool.false_and])
  have e2 := iidx hb (fun m : Im => decide (m.Trait = s) && decide (m.For = hd t)) (fun z26 => roadlaw2_TraitSays_2 z26 s t) (fun m => by
    unfold roadlaw2_TraitSays_2
    by_cases c : m.Trait = s
    · rw [if_pos c, headOf_val, Option.bind_some, decide_eq_true c, Bool.true_and]
    · rw [if_neg c, decide_eq_false c, Bool.false_and])
  unfold roadlaw2_TraitSays.j0 trait_Impl
  rw [e1, e2, Option.bind_some, law_j1 hb q]
  generalize idxOf (fun m : Im => decide (m.Trait = s) && decide (m.For = hd t)) p.Impls = k
  by_cases c : k < 0
  · rw [if_pos c, Option.bind_some, Option.bind_some, if_pos c, if_pos (show ((0 : Int), (4 : Int)).2 = 4 from rfl), if_pos (show ((0 : Int), (4 : Int)).1 = 0 from rfl), if_neg (by omega)]
  · rw [if_neg c, Option.bind_some, Option.bind_some, if_neg c, if_pos (by omega), if_pos (show (k, (0 : Int)).2 = 0 from rfl), if_pos (show (k, (0 : Int)).1 = k from rfl)]
theorem TraitSays (p : T_api_Program) (s : ByteArray) (t : T_api_Type) (q : p.Q) (hs : s.size ≤ 140737488351232) (qt : t.Q) (hbb : p.bulk + (s.size + 1) + t.bulk ≤ 1048576) : roadlaw2_TraitSays p s t = some true := by
  have hb : p.bulk ≤ 1048576 := by omega
  obtain ⟨e, e1, e2⟩ := program_both hb q
  unfold roadlaw2_TraitSays
  rw [e1, e2, Option.bind_some, Option.bind_some, if_pos rfl, tidx hb s (fun z44 => roadlaw2_TraitSays_1 z44 s) (fun t => rfl), Option.bind_some, law_j0 hb q]
  rcases idx_find (fun t : Tr => decide (t.Name = s)) p.Traits with ⟨f1, f2⟩ | ⟨x, f1, f2, f3, f4, f5⟩
  · have ft : trait_Find p s = some (zt, 11) := by rw [find_val' hb, show tfind p s = none from f1]; rfl
    rw [ft, Option.bind_some, if_pos f2, if_pos (show (zt, (11 : Int)).2 = 11 from rfl), if_pos (show (zt, (11 : Int)).1.Name = ByteArray.mk #[] from rfl), if_neg (show ¬ (((zt, (11 : Int)).1.Funcs.length : Nat) : Int) > 0 by decide), if_neg (by omega)]
  · have ft : trait_Find p s = some (x, 0) := by rw [find_val' hb, show tfind p s = some x from f1]; rfl
    rw [ft, Option.bind_some, if_neg (show ¬ idxOf (fun t : Tr => decide (t.Name = s)) p.Traits < 0 by omega), if_pos (show idxOf (fun t : Tr => decide (t.Name = s)) p.Traits ≥ 0 by omega), if_pos (show (x, (0 : Int)).2 = 0 from rfl), if_pos (show (x, (0 : Int)).1.Name = s from of_decide_eq_true f4), f3, Option.bind_some, if_pos rfl]
end Go.Proofs.YtkbhpagogmmgnaaDoor.Fw

end
section
namespace Go.Proofs.YtkbhpagogmmgnaaDoor.traitSays
open Go Go.Hw Go.ChangeShapes Go.WideShapes Go.ChangeAt Go.RowKit Go.Proofs.YtkbhpagogmmgnaaDoor.Fw
open Go.ChangeMaps (open_string shut_string)
set_option linter.unusedVariables false
theorem own : ownKnob Tryd.prog.godebug = none := by kernel_rfl
theorem laidOut : laidOutB Tryd.prog = true := by kernel_rfl
theorem bulkAll {H : Type} : ∀ l : List (DataW H), Rows.uptoBulkAll l = (l.map Rows.uptoBulk).sum
  | [] => rfl
  | d :: r => by rw [Rows.uptoBulkAll, List.map_cons, List.sum_cons, bulkAll r]
theorem measure {H : Type} : Measure (Rows.uptoBulk (H := H)) where
  pos d := by
    cases d with
    | lit l => cases l <;> simp [Rows.uptoBulk]
    | _ => simp [Rows.uptoBulk]
  str b := by simp [Rows.uptoBulk]
  slice e s := by rw [Rows.uptoBulk, bulkAll]; omega
  agg ps := by rw [Rows.uptoBulk, bulkAll]; omega
theorem tabEq : (Rows.laid_internal_strconv_uint64pow10 : DataW Unit) = Lib.tabData .u64 Lib.pow10Tab := by kernel_rfl
theorem gTab : Tryd.prog.globalNamed "internal/strconv.uint64pow10" = some 3 := by kernel_rfl
theorem gTabType : (Tryd.prog.globals[3]?).map (·.type) = some 194 := by kernel_rfl
theorem table {W : World} (h : laidMetH Tryd.prog Rows.traitSaysUptoRow.laid W) : Lib.TabIs Tryd.prog W "internal/strconv.uint64pow10" .u64 Lib.pow10Tab :=
  Lib.tabIs_of_head (rest := [("unicode.White_Space", Rows.laid_unicode_White_Space), ("strings.asciiSpace", Rows.laid_strings_asciiSpace)]) gTab gTabType (show Tryd.prog.underlying 194 = some (.array 20 139) by kernel_rfl) (show Tryd.prog.underlying 139 = some (.int .u64) by kernel_rfl) (by kernel_rfl) (by kernel_rfl)
    (by have h' := (laidMet.tail (laidMet.tail (show laidMet Tryd.prog [("math/bits.deBruijn32tab", Rows.laid_math_bits_deBruijn32tab), ("math/bits.deBruijn64tab", Rows.laid_math_bits_deBruijn64tab), ("internal/strconv.uint64pow10", Rows.laid_internal_strconv_uint64pow10), ("unicode.White_Space", Rows.laid_unicode_White_Space), ("strings.asciiSpace", Rows.laid_strings_asciiSpace)] W from h))); rw [tabEq] at h'; exact h')
theorem tabEqS : (Rows.laid_strings_asciiSpace : DataW Unit) = Lib.tabData .u8 Lib.asciiSpaceTab := by kernel_rfl
theorem gTabS : Tryd.prog.globalNamed "strings.asciiSpace" = some 0 := by kernel_rfl
theorem gTabSType : (Tryd.prog.globals[0]?).map (·.type) = some 109 := by kernel_rfl
theorem tableS {W : World} (h : laidMetH Tryd.prog Rows.traitSaysUptoRow.laid W) : Lib.TabIs Tryd.prog W "strings.asciiSpace" .u8 Lib.asciiSpaceTab :=
  Lib.tabIs_of_head (rest := []) gTabS gTabSType (show Tryd.prog.underlying 109 = some (.array 256 5) by kernel_rfl) (show Tryd.prog.underlying 5 = some (.int .u8) by kernel_rfl) (by kernel_rfl) (by kernel_rfl)
    (by have h' := (laidMet.tail (laidMet.tail (laidMet.tail (laidMet.tail (show laidMet Tryd.prog [("math/bits.deBruijn32tab", Rows.laid_math_bits_deBruijn32tab), ("math/bits.deBruijn64tab", Rows.laid_math_bits_deBruijn64tab), ("internal/strconv.uint64pow10", Rows.laid_internal_strconv_uint64pow10), ("unicode.White_Space", Rows.laid_unicode_White_Space), ("strings.asciiSpace", Rows.laid_strings_asciiSpace)] W from h))))); rw [tabEqS] at h'; exact h')
noncomputable def laidHeap (os : Os) : Array Obj :=
  let h0 := (World.holding Tryd.prog os ⟨#[], #[], []⟩).heap
  let b0 := h0.size
  let h1 := ((h0).push (.cells #[(.int .u16 9), (.int .u16 13), (.int .u16 1), (.int .u16 32), (.int .u16 133), (.int .u16 101), (.int .u16 160), (.int .u16 5760), (.int .u16 5600), (.int .u16 8192), (.int .u16 8202), (.int .u16 1), (.int .u16 8232), (.int .u16 8233), (.int .u16 1), (.int .u16 8239), (.int .u16 8287), (.int .u16 48), (.int .u16 12288), (.int .u16 12288), (.int .u16 1)] 160)).push (.cells #[(.slice (some ⟨b0 + 0, 0, none⟩) 7 7), (.slice none 0 0), (.int .i64 2)] 157)
  (((((h1).modify 8 (fun
      | .cells _ t frozen => .cells #[(.int .u8 0), (.int .u8 1), (.int .u8 28), (.int .u8 2), (.int .u8 29), (.int .u8 14), (.int .u8 24), (.int .u8 3), (.int .u8 30), (.int .u8 22), (.int .u8 20), (.int .u8 15), (.int .u8 25), (.int .u8 17), (.int .u8 4), (.int .u8 8), (.int .u8 31), (.int .u8 27), (.int .u8 13), (.int .u8 23), (.int .u8 21), (.int .u8 19), (.int .u8 16), (.int .u8 7), (.int .u8 26), (.int .u8 12), (.int .u8 18), (.int .u8 6), (.int .u8 11), (.int .u8 5), (.int .u8 10), (.int .u8 9)] t frozen
      | o => o)).modify 9 (fun
      | .cells _ t frozen => .cells #[(.int .u8 0), (.int .u8 1), (.int .u8 56), (.int .u8 2), (.int .u8 57), (.int .u8 49), (.int .u8 28), (.int .u8 3), (.int .u8 61), (.int .u8 58), (.int .u8 42), (.int .u8 50), (.int .u8 38), (.int .u8 29), (.int .u8 17), (.int .u8 4), (.int .u8 62), (.int .u8 47), (.int .u8 59), (.int .u8 36), (.int .u8 45), (.int .u8 43), (.int .u8 51), (.int .u8 22), (.int .u8 53), (.int .u8 39), (.int .u8 33), (.int .u8 30), (.int .u8 24), (.int .u8 18), (.int .u8 12), (.int .u8 5), (.int .u8 63), (.int .u8 55), (.int .u8 48), (.int .u8 27), (.int .u8 60), (.int .u8 41), (.int .u8 37), (.int .u8 16), (.int .u8 46), (.int .u8 35), (.int .u8 44), (.int .u8 21), (.int .u8 52), (.int .u8 32), (.int .u8 23), (.int .u8 11), (.int .u8 54), (.int .u8 26), (.int .u8 40), (.int .u8 15), (.int .u8 34), (.int .u8 20), (.int .u8 31), (.int .u8 10), (.int .u8 25), (.int .u8 14), (.int .u8 19), (.int .u8 9), (.int .u8 13), (.int .u8 8), (.int .u8 7), (.int .u8 6)] t frozen
      | o => o)).modify 3 (fun
      | .cells _ t frozen => .cells #[(.int .u64 1), (.int .u64 10), (.int .u64 100), (.int .u64 1000), (.int .u64 10000), (.int .u64 100000), (.int .u64 1000000), (.int .u64 10000000), (.int .u64 100000000), (.int .u64 1000000000), (.int .u64 10000000000), (.int .u64 100000000000), (.int .u64 1000000000000), (.int .u64 10000000000000), (.int .u64 100000000000000), (.int .u64 1000000000000000), (.int .u64 10000000000000000), (.int .u64 100000000000000000), (.int .u64 1000000000000000000), (.int .u64 10000000000000000000)] t frozen
      | o => o)).modify 1 (fun
      | .cells _ t frozen => .cells #[(.pointer (some ⟨b0 + 1, 0, none⟩))] t frozen
      | o => o)).modify 0 (fun
      | .cells _ t frozen => .cells #[(.int .u8 0), (.int .u8 0), (.int .u8 0), (.int .u8 0), (.int .u8 0), (.int .u8 0), (.int .u8 0), (.int .u8 0), (.int .u8 0), (.int .u8 1), (.int .u8 1), (.int .u8 1), (.int .u8 1), (.int .u8 1), (.int .u8 0), (.int .u8 0), (.int .u8 0), (.int .u8 0), (.int .u8 0), (.int .u8 0), (.int .u8 0), (.int .u8 0), (.int .u8 0), (.int .u8 0), (.int .u8 0), (.int .u8 0), (.int .u8 0), (.int .u8 0), (.int .u8 0), (.int .u8 0), (.int .u8 0), (.int .u8 0), (.int .u8 1), (.int .u8 0), (.int .u8 0), (.int .u8 0), (.int .u8 0), (.int .u8 0), (.int .u8 0), (.int .u8 0), (.int .u8 0), (.int .u8 0), (.int .u8 0), (.int .u8 0), (.int .u8 0), (.int .u8 0), (.int .u8 0), (.int .u8 0), (.int .u8 0), (.int .u8 0), (.int .u8 0), (.int .u8 0), (.int .u8 0), (.int .u8 0), (.int .u8 0), (.int .u8 0), (.int .u8 0), (.int .u8 0), (.int .u8 0), (.int .u8 0), (.int .u8 0), (.int .u8 0), (.int .u8 0), (.int .u8 0), (.int .u8 0), (.int .u8 0), (.int .u8 0), (.int .u8 0), (.int .u8 0), (.int .u8 0), (.int .u8 0), (.int .u8 0), (.int .u8 0), (.int .u8 0), (.int .u8 0), (.int .u8 0), (.int .u8 0), (.int .u8 0), (.int .u8 0), (.int .u8 0), (.int .u8 0), (.int .u8 0), (.int .u8 0), (.int .u8 0), (.int .u8 0), (.int .u8 0), (.int .u8 0), (.int .u8 0), (.int .u8 0), (.int .u8 0), (.int .u8 0), (.int .u8 0), (.int .u8 0), (.int .u8 0), (.int .u8 0), (.int .u8 0), (.int .u8 0), (.int .u8 0), (.int .u8 0), (.int .u8 0), (.int .u8 0), (.int .u8 0), (.int .u8 0), (.int .u8 0), (.int .u8 0), (.int .u8 0), (.int .u8 0), (.int .u8 0), (.int .u8 0), (.int .u8 0), (.int .u8 0), (.int .u8 0), (.int .u8 0), (.int .u8 0), (.int .u8 0), (.int .u8 0), (.int .u8 0), (.int .u8 0), (.int .u8 0), (.int .u8 0), (.int .u8 0), (.int .u8 0), (.int .u8 0), (.int .u8 0), (.int .u8 0), (.int .u8 0), (.int .u8 0), (.int .u8 0), (.int .u8 0), (.int .u8 0), (.int .u8 0), (.int .u8 0), (.int .u8 0), (.int .u8 0), (.int .u8 0), (.int .u8 0), (.int .u8 0), (.int .u8 0), (.int .u8 0), (.int .u8 0), (.int .u8 0), (.int .u8 0), (.int .u8 0), (.int .u8 0), (.int .u8 0), (.int .u8 0), (.int .u8 0), (.int .u8 0), (.int .u8 0), (.int .u8 0), (.int .u8 0), (.int .u8 0), (.int .u8 0), (.int .u8 0), (.int .u8 0), (.int .u8 0), (.int .u8 0), (.int .u8 0), (.int .u8 0), (.int .u8 0), (.int .u8 0), (.int .u8 0), (.int .u8 0), (.int .u8 0), (.int .u8 0), (.int .u8 0), (.int .u8 0), (.int .u8 0), (.int .u8 0), (.int .u8 0), (.int .u8 0), (.int .u8 0), (.int .u8 0), (.int .u8 0), (.int .u8 0), (.int .u8 0), (.int .u8 0), (.int .u8 0), (.int .u8 0), (.int .u8 0), (.int .u8 0), (.int .u8 0), (.int .u8 0), (.int .u8 0), (.int .u8 0), (.int .u8 0), (.int .u8 0), (.int .u8 0), (.int .u8 0), (.int .u8 0), (.int .u8 0), (.int .u8 0), (.int .u8 0), (.int .u8 0), (.int .u8 0), (.int .u8 0), (.int .u8 0), (.int .u8 0), (.int .u8 0), (.int .u8 0), (.int .u8 0), (.int .u8 0), (.int .u8 0), (.int .u8 0), (.int .u8 0), (.int .u8 0), (.int .u8 0), (.int .u8 0), (.int .u8 0), (.int .u8 0), (.int .u8 0), (.int .u8 0), (.int .u8 0), (.int .u8 0), (.int .u8 0), (.int .u8 0), (.int .u8 0), (.int .u8 0), (.int .u8 0), (.int .u8 0), (.int .u8 0), (.int .u8 0), (.int .u8 0), (.int .u8 0), (.int .u8 0), (.int .u8 0), (.int .u8 0), (.int .u8 0), (.int .u8 0), (.int .u8 0), (.int .u8 0), (.int .u8 0), (.int .u8 0), (.int .u8 0), (.int .u8 0), (.int .u8 0), (.int .u8 0), (.int .u8 0), (.int .u8 0), (.int .u8 0), (.int .u8 0), (.int .u8 0), (.int .u8 0), (.int .u8 0), (.int .u8 0), (.int .u8 0), (.int .u8 0), (.int .u8 0), (.int .u8 0), (.int .u8 0), (.int .u8 0), (.int .u8 0), (.int .u8 0), (.int .u8 0), (.int .u8 0), (.int .u8 0)] t frozen
      | o => o)
noncomputable def laidWorld (os : Os) : World :=
  { World.holding Tryd.prog os ⟨#[], #[], []⟩ with heap := laidHeap os }
set_option maxRecDepth 100000 in
theorem laid_met (os : Os) : laidMet Tryd.prog Rows.traitSaysUptoRow.laid ((laidWorld os).forCall (fun _ _ => 0) ⟨#[], #[(.agg #[(.string (ByteArray.mk #[])), (.int .i64 (0 : Int)), (.slice none 0 0), (.slice none 0 0), (.slice none 0 0), (.slice none 0 0), (.slice none 0 0), (.slice none 0 0)]), (.string (ByteArray.mk #[])), (.agg #[(.int .i64 (0 : Int)), (.string (ByteArray.mk #[])), (.slice none 0 0)])], []⟩).memory :=
  laidMet_of_run3 8 (by kernel_rfl) (by kernel_rfl) (by kernel_rfl)
set_option maxRecDepth 100000 in
theorem reads (os : Os) {H : Type} (enc : TypeId × Value → H) : ∃ places, DataW.whole enc Tryd.prog ((laidWorld os).forCall (fun _ _ => 0) ⟨#[], #[(.agg #[(.string (ByteArray.mk #[])), (.int .i64 (0 : Int)), (.slice none 0 0), (.slice none 0 0), (.slice none 0 0), (.slice none 0 0), (.slice none 0 0), (.slice none 0 0)]), (.string (ByteArray.mk #[])), (.agg #[(.int .i64 (0 : Int)), (.string (ByteArray.mk #[])), (.slice none 0 0)])], []⟩).memory Tryd.f3.params.toList Rows.traitSaysSpec.vars false (#[(.agg #[(.string (ByteArray.mk #[])), (.int .i64 (0 : Int)), (.slice none 0 0), (.slice none 0 0), (.slice none 0 0), (.slice none 0 0), (.slice none 0 0), (.slice none 0 0)]), (.string (ByteArray.mk #[])), (.agg #[(.int .i64 (0 : Int)), (.string (ByteArray.mk #[])), (.slice none 0 0)])] : Array Value).toList 8 = some ([DataW.agg [DataW.lit (.string []), DataW.lit (.int .i64 0), DataW.nil, DataW.nil, DataW.nil, DataW.nil, DataW.nil, DataW.nil], DataW.lit (.string []), DataW.agg [DataW.lit (.int .i64 0), DataW.lit (.string []), DataW.nil]], [], places) :=
  ⟨[], by kernel_rfl⟩
set_option maxRecDepth 100000 in
theorem lifted (os : Os) (started : os.Started) (H : Type) (enc : TypeId × Value → H) (F : Stop.Interp) :
    ReturnsInHanded {} Tryd.checked os 3 .any ((Rows.OpenSpec.upto Rows.traitSaysSpec).preRow enc Tryd.prog Tryd.f3 Rows.traitSaysUptoRow.domain false Rows.traitSaysUptoRow.laid) (((Rows.OpenSpec.upto Rows.traitSaysSpec).at F).post enc Tryd.prog Tryd.f3 false true false false) := by
  obtain ⟨places, hx⟩ := reads os enc
  refine returnsInHanded_of_row (C := Tryd.checked) (s := (Rows.OpenSpec.upto Rows.traitSaysSpec)) own started (by kernel_rfl) Tryd.func3
    (witness_row_atRef (enc := enc) (C := Tryd.checked) false (laidWorld os) #[(.agg #[(.string (ByteArray.mk #[])), (.int .i64 (0 : Int)), (.slice none 0 0), (.slice none 0 0), (.slice none 0 0), (.slice none 0 0), (.slice none 0 0), (.slice none 0 0)]), (.string (ByteArray.mk #[])), (.agg #[(.int .i64 (0 : Int)), (.string (ByteArray.mk #[])), (.slice none 0 0)])] rfl (by kernel_rfl) (by kernel_rfl) (by kernel_rfl)
      (OpenSpec.preRow_of_cond 8 hx (by kernel_rfl) (fun k hk => by cases hk; kernel_rfl) (by kernel_rfl) (laid_met os))) ?_
  intro W base args ds gs before hval0 hW hcnd hkk0 hsz0 hL _ _
  have hkk : Rows.uptoSmall H (ds ++ gs) = true := hkk0 _ rfl
  have hsz : (DataW.weightsEach Tryd.prog (Tryd.f3.params.toList ++ (Rows.OpenSpec.upto Rows.traitSaysSpec).bare.plain.varTypes Tryd.prog) (ds ++ gs)).all (· ≤ reachBytes) = true := hsz0
  have hval : ∀ (j : Nat) t v, Tryd.f3.params[j]? = some t → args[j]? = some v → Value.okWide Tryd.prog W .any base t v := hval0
  have hW' := hW
  obtain ⟨p, q, hA0, hV, rfl, hfz, hnd⟩ := hW
  have hA : DataW.TrodAll enc Tryd.prog W 0 (fun _ => true) true Tryd.f3.params.toList args.toList ds p := hA0
  rw [Tryd.params3] at hA hval hsz
  obtain ⟨v0, vs0, d0, ds0, p0, q0_, hargs, rfl, rfl, h0, r0_⟩ := trodAll_cons hA
  obtain ⟨v1, vs1, d1, ds1, p1, q1_, rfl, rfl, rfl, h1, r1_⟩ := trodAll_cons r0_
  obtain ⟨v2, vs2, d2, ds2, p2, q2_, rfl, rfl, rfl, h2, r2_⟩ := trodAll_cons r1_
  obtain ⟨rfl, rfl, rfl⟩ := trodAll_nil r2_
  obtain rfl : args = #[v0, v1, v2] := by cases args; simp_all
  obtain ⟨rfl, rfl⟩ := trodVars_none hV
  have hs : (DataW.weightsEach Tryd.prog [29, 9, 32] [d0, d1, d2]).all (· ≤ reachBytes) = true := hsz
  simp only [DataW.weightsEach, List.append_nil, List.all_append, Bool.and_eq_true] at hs
  obtain ⟨hw0, hw1, hw2⟩ := hs
  have k0 := h0
  have lt0 : ∀ x ∈ p0, x.block < W.heap.size := by obtain ⟨m, hm⟩ := k0; exact DataW.trod_lt m _ _ _ hm
  obtain ⟨cs0, rfl⟩ : ∃ cs : List Value, v0 = .agg cs.toArray := okWide_agg_of (show shapeOf Tryd.prog 29 = some [(9, 0), (3, 1), (22, 2), (23, 3), (24, 4), (25, 5), (26, 6), (27, 7)] by kernel_rfl) (hval 0 29 v0 rfl rfl)
  obtain ⟨fuel0, hf0⟩ := h0
  obtain ⟨x0, e0, q0⟩ := T_api_Program.tells fuel0 _ _ hf0 hw0
  have b0 := (T_api_Program.kt (N := fuel0 + 1) (enc := enc) (W := W) measure) fuel0 (Nat.lt_succ_self _) _ _ hf0 _ e0
  have e0 : T_api_Program.E W.heap x0 cs0 := by simpa [Value.cells] using e0
  have k1 := h1
  have lt1 : ∀ x ∈ p1, x.block < W.heap.size := by obtain ⟨m, hm⟩ := k1; exact DataW.trod_lt m _ _ _ hm
  obtain ⟨s1, rfl⟩ : ∃ s, v1 = .string s := by obtain ⟨s, rfl, _⟩ := open_string (show Tryd.prog.underlying 9 = some .string by kernel_rfl) (hval 1 9 v1 rfl rfl) h1; exact ⟨s, rfl⟩
  have w1 : s1.size ≤ reachBytes := by
    obtain ⟨fuel, hf⟩ := h1
    obtain ⟨s, hs, hq⟩ := tells_str (W := W) (show Tryd.prog.underlying 9 = some .string by kernel_rfl) fuel _ _ hf hw1
    simp [eStr, Value.cells] at hs
    rw [hs]; exact hq
  have k2 := h2
  have lt2 : ∀ x ∈ p2, x.block < W.heap.size := by obtain ⟨m, hm⟩ := k2; exact DataW.trod_lt m _ _ _ hm
  obtain ⟨cs2, rfl⟩ : ∃ cs : List Value, v2 = .agg cs.toArray := okWide_agg_of (show shapeOf Tryd.prog 32 = some [(3, 0), (9, 1), (30, 2)] by kernel_rfl) (hval 2 32 v2 rfl rfl)
  obtain ⟨fuel2, hf2⟩ := h2
  obtain ⟨x2, e2, q2⟩ := T_api_Type.tells fuel2 _ _ hf2 hw2
  have b2 := (T_api_Type.kt (N := fuel2 + 1) (enc := enc) (W := W) measure) fuel2 (Nat.lt_succ_self _) _ _ hf2 _ e2
  have e2 : T_api_Type.E W.heap x2 cs2 := by simpa [Value.cells] using e2
  have b1 : s1.size + 1 ≤ Rows.uptoBulk d1 := by
    obtain ⟨fuel, hf⟩ := h1
    exact (kt_str (N := fuel + 1) (W := W) (enc := enc) (measure (H := H)) (show Tryd.prog.underlying 9 = some .string by kernel_rfl)) fuel (Nat.lt_succ_self _) _ _ hf s1 rfl
  have hb : (T_api_Program.bulk x0) + (s1.size + 1) + (T_api_Type.bulk x2) ≤ 1048576 := by
    have hk : Rows.uptoBulkAll ([d0, d1, d2] ++ []) ≤ 1048576 := of_decide_eq_true hkk
    have := b0
    have := b1
    have := b2
    simp only [List.append_nil, Rows.uptoBulkAll] at hk
    simp only at *
    omega
  refine ((Run.mono (R' := fun v h' => v = Value.bool true ∧ Ext W.heap h') (Fw.roadlaw2_TraitSays.walk (W := No) (Hold.start (Sub.refl _)) e0 e2 ⟨(TBg.of gTab (table hL)), (TBs.of gTabS (tableS hL))⟩ (Fw.TraitSays x0 s1 x2 q0 w1 q2 hb)) (fun v h' hp => by obtain ⟨m', st, hv⟩ := hp; exact ⟨hv, st.S.ext⟩)) W rfl).mono fun e W' he => ?_
  obtain ⟨v, rfl, ⟨rfl, ext⟩, same⟩ := he
  have bel := below_of ext same
  exact ⟨_, rfl, _, _, _, [], _, [], hW', trodAll_mk1 (shut_bool (show Tryd.prog.underlying 4 = some .bool by kernel_rfl) _), (trodAll_cons_mk (Below.trod laidOut (by kernel_rfl) (of_decide_eq_true (by kernel_rfl)) k0 bel lt0) (trodAll_cons_mk (Below.trod laidOut (by kernel_rfl) (of_decide_eq_true (by kernel_rfl)) k1 bel lt1) (trodAll_cons_mk (Below.trod laidOut (by kernel_rfl) (of_decide_eq_true (by kernel_rfl)) k2 bel lt2) trodAll_mk0))), rfl, bel.frame _, fun h => by cases h⟩
theorem over : Rows.traitSaysUptoRow.holds Tryd.pinned (Rows.OpenSpec.upto Rows.traitSaysSpec) :=
  OpenClaim.holds_of_cond 3 Tryd.f3 rfl rfl rfl rfl rfl rfl rfl ⟨rfl, rfl, rfl, rfl, rfl⟩ rfl rfl rfl rfl rfl (by kernel_rfl) Tryd.func3 (by kernel_rfl)
    (of_decide_eq_true (by kernel_rfl)) (by unfold Func.isWrapper; first | (rw [if_pos (by decide +kernel)]; kernel_rfl) | (rw [if_neg (by decide +kernel)]; exact ⟨rfl, rfl⟩))
    (fun os started H enc _ F => by rw [OpenClaim.pre_eq_preRow]; exact lifted os started H enc F)
theorem plain (f : FuncId) (fn : Func) (hf : Tryd.pinned.checked.prog.funcNamed "roadstead/roadlaw2.TraitSays" = some f) (hfn : Tryd.pinned.checked.prog.funcs[f]? = some fn) :
    true = Tryd.pinned.checked.prog.looks [] ∧ ∀ (j : Nat) t, fn.params[j]? = some t → Tryd.pinned.checked.prog.wantsStandIn t = false := by
  obtain rfl : f = 3 := Option.some.inj ((show Tryd.prog.funcNamed "roadstead/roadlaw2.TraitSays" = some 3 by kernel_rfl).symm.trans hf) |>.symm
  obtain rfl : fn = Tryd.f3 := (Option.some.inj (Tryd.func3.symm.trans hfn)).symm
  refine ⟨by kernel_rfl, fun j t ht => ?_⟩
  rw [Tryd.params3] at ht
  have hm : t ∈ [29, 9, 32] := by simpa using Array.mem_of_getElem? ht
  have hall : ([29, 9, 32].all fun u => !Tryd.prog.wantsStandIn u) = true := by kernel_rfl
  exact (show Tryd.prog.wantsStandIn t = false by simpa using List.all_eq_true.1 hall t hm)
end Go.Proofs.YtkbhpagogmmgnaaDoor.traitSays
namespace Go.Proofs.YtkbhpagogmmgnaaDoor
theorem traitSays_holds : Rows.TraitSaysUptoCardSaid :=
  Claim7.holds_tied_plain_at .later [] _ _ _ _ traitSays.over (fun _ h => by cases h) (by kernel_rfl) (fun _ h => by cases h) traitSaysUpto_row_tie rfl ⟨rfl, rfl⟩ (by kernel_rfl) rfl traitSays.plain (by kernel_rfl)
end Go.Proofs.YtkbhpagogmmgnaaDoor

end
