/- Part 5: what the law KindSays needs, put together out of texts of this session. -/
import Derived.Test.YtdlihfedhojdgaaDoorZKindSaysd
section
namespace Go.Proofs.YtdlihfedhojdgaaDoor.Fw
open Go Go.Hw Go.Proofs
set_option linter.unusedVariables false
set_option synthInstance.maxHeartbeats 400000
set_option synthInstance.maxSize 1000
def kind_funcs.post (W : Nat → Prop) (h0 m0 : Heap) (r : Int × Int) (v : Value) (h : Heap) : Prop := ∃ m , Hold W h0 m0 h m [] ∧ v = .tuple #[.int .i64 r.1, .int .i64 r.2]
inductive kind_funcs.l0_k.Pt where
  | l0 (a_2 : List ByteArray) (y_3 : T_api_Program) (a_14 : List T_api_Func) (x_15 : Int) (x_16 : Int)
  | j1 (a_2 : List ByteArray) (y_3 : T_api_Program) (y_9 : T_api_Func) (a_10 : List ByteArray) (x_11 : Int) (a_14 : List T_api_Func) (x_15 : Int) (x_16 : Int)
  | j0 (a_2 : List ByteArray) (y_3 : T_api_Program) (y_9 : T_api_Func) (a_10 : List ByteArray) (a_14 : List T_api_Func) (x_15 : Int) (x_16 : Int)
noncomputable def kind_funcs.l0_k.body (go : (p : kind_funcs.l0_k.Pt) → Option (Int × Int)) : (p : kind_funcs.l0_k.Pt) → Option (Int × Int)
  | .l0 a_2 y_3 a_14 x_15 x_16 => if x_16 < x_15 then (Option.bind (gi a_14 x_16) fun y1 => Option.bind (slices_Clone_55 a_2) fun y19 => Option.bind (ap 16 y19 y1.Params) fun l31 => Option.bind (slices_Clone_42 y1.Types) fun y44 => Option.bind (ap 48 y44 ([y1.Out] : List T_api_Type)) fun l61 => Option.bind (kind_Types y_3 l31 l61) fun y70 => (go (.j1 a_2 y_3 y1 l31 y70 a_14 x_15 x_16))) else (some ((0 : Int), (0 : Int)))
  | .j1 a_2 y_3 y_9 a_10 x_11 a_14 x_15 x_16 => if x_11 = (0 : Int) then ((go (.j0 a_2 y_3 y_9 a_10 a_14 x_15 x_16))) else (some (x_11, (0 : Int)))
  | .j0 a_2 y_3 y_9 a_10 a_14 x_15 x_16 => if y_9.Body.Kind = (0 : Int) then ((go (.l0 a_2 y_3 a_14 x_15 (IntKind.wrap .i64 (x_16 + (1 : Int)))))) else (Option.bind (kind_body y_3 a_10 y_9.Body) fun y1 => if y1.1 = (0 : Int) then ((go (.l0 a_2 y_3 a_14 x_15 (IntKind.wrap .i64 (x_16 + (1 : Int)))))) else (some (y1.1, y1.2)))
theorem kind_funcs.l0_k.mono : MonoF (β := fun _ => (Int × Int)) kind_funcs.l0_k.body := fun f g hfg p => match p with
  | .l0 a_2 y_3 a_14 x_15 x_16 => LeO.ite (LeO.bind (LeO.refl _) fun y1 => LeO.bind (LeO.refl _) fun y19 => LeO.bind (LeO.refl _) fun l31 => LeO.bind (LeO.refl _) fun y44 => LeO.bind (LeO.refl _) fun l61 => LeO.bind (LeO.refl _) fun y70 => (hfg _)) (LeO.refl _)
  | .j1 a_2 y_3 y_9 a_10 x_11 a_14 x_15 x_16 => LeO.ite ((hfg _)) (LeO.refl _)
  | .j0 a_2 y_3 y_9 a_10 a_14 x_15 x_16 => LeO.ite ((hfg _)) (LeO.bind (LeO.refl _) fun y1 => LeO.ite ((hfg _)) (LeO.refl _))
noncomputable def kind_funcs.l0_k.go (p : kind_funcs.l0_k.Pt) : Option (Int × Int) := fixF (β := fun _ => (Int × Int)) kind_funcs.l0_k.body p
noncomputable def kind_funcs.l0 (a_2 : List ByteArray) (y_3 : T_api_Program) (a_14 : List T_api_Func) (x_15 : Int) (x_16 : Int) : Option (Int × Int) := kind_funcs.l0_k.go (.l0 a_2 y_3 a_14 x_15 x_16)
noncomputable def kind_funcs.j1 (a_2 : List ByteArray) (y_3 : T_api_Program) (y_9 : T_api_Func) (a_10 : List ByteArray) (x_11 : Int) (a_14 : List T_api_Func) (x_15 : Int) (x_16 : Int) : Option (Int × Int) := kind_funcs.l0_k.go (.j1 a_2 y_3 y_9 a_10 x_11 a_14 x_15 x_16)
noncomputable def kind_funcs.j0 (a_2 : List ByteArray) (y_3 : T_api_Program) (y_9 : T_api_Func) (a_10 : List ByteArray) (a_14 : List T_api_Func) (x_15 : Int) (x_16 : Int) : Option (Int × Int) := kind_funcs.l0_k.go (.j0 a_2 y_3 y_9 a_10 a_14 x_15 x_16)
theorem kind_funcs.l0_eq (a_2 : List ByteArray) (y_3 : T_api_Program) (a_14 : List T_api_Func) (x_15 : Int) (x_16 : Int) : kind_funcs.l0 a_2 y_3 a_14 x_15 x_16 = if x_16 < x_15 then (Option.bind (gi a_14 x_16) fun y1 => Option.bind (slices_Clone_55 a_2) fun y19 => Option.bind (ap 16 y19 y1.Params) fun l31 => Option.bind (slices_Clone_42 y1.Types) fun y44 => Option.bind (ap 48 y44 ([y1.Out] : List T_api_Type)) fun l61 => Option.bind (kind_Types y_3 l31 l61) fun y70 => (kind_funcs.j1 a_2 y_3 y1 l31 y70 a_14 x_15 x_16)) else (some ((0 : Int), (0 : Int))) := fixF_eq kind_funcs.l0_k.mono _
theorem kind_funcs.j1_eq (a_2 : List ByteArray) (y_3 : T_api_Program) (y_9 : T_api_Func) (a_10 : List ByteArray) (x_11 : Int) (a_14 : List T_api_Func) (x_15 : Int) (x_16 : Int) : kind_funcs.j1 a_2 y_3 y_9 a_10 x_11 a_14 x_15 x_16 = if x_11 = (0 : Int) then ((kind_funcs.j0 a_2 y_3 y_9 a_10 a_14 x_15 x_16)) else (some (x_11, (0 : Int))) := fixF_eq kind_funcs.l0_k.mono _
theorem kind_funcs.j0_eq (a_2 : List ByteArray) (y_3 : T_api_Program) (y_9 : T_api_Func) (a_10 : List ByteArray) (a_14 : List T_api_Func) (x_15 : Int) (x_16 : Int) : kind_funcs.j0 a_2 y_3 y_9 a_10 a_14 x_15 x_16 = if y_9.Body.Kind = (0 : Int) then ((kind_funcs.l0 a_2 y_3 a_14 x_15 (IntKind.wrap .i64 (x_16 + (1 : Int))))) else (Option.bind (kind_body y_3 a_10 y_9.Body) fun y1 => if y1.1 = (0 : Int) then ((kind_funcs.l0 a_2 y_3 a_14 x_15 (IntKind.wrap .i64 (x_16 + (1 : Int))))) else (some (y1.1, y1.2))) := fixF_eq kind_funcs.l0_k.mono _
def kind_funcs.l0_k.I : (p : kind_funcs.l0_k.Pt) → (Int × Int) → Prop
  | .l0 a_2 y_3 a_14 x_15 x_16, r => ∀ (W : Nat → Prop) (h0 m0 h m : Heap) (A_2 : Option Addr) (n_2 c_2 : Nat) (bk_3 : Nat) (cs_3 : List Value) (A_14 : Option Addr) (n_14 c_14 : Nat) (O : Hold W h0 m0 h m [rV bk_3 54 cs_3]) (ne_2 : n_2 = List.length a_2) (k_2 : List.length a_2 ≤ c_2) (r_2 : Rd 1 eStr m A_2 a_2) (e_3 : T_api_Program.E m y_3 cs_3) (ne_14 : n_14 = List.length a_14) (k_14 : List.length a_14 ≤ c_14) (r_14 : Rd 15 T_api_Func.E m A_14 a_14), f41.l0 (kind_funcs.post W h0 m0 r) A_2 n_2 c_2 (⟨bk_3, 0, none⟩ : Addr) A_14 n_14 c_14 x_15 x_16 h
  | .j1 a_2 y_3 y_9 a_10 x_11 a_14 x_15 x_16, r => ∀ (W : Nat → Prop) (h0 m0 h m : Heap) (A_2 : Option Addr) (n_2 c_2 : Nat) (bk_3 : Nat) (cs_3 : List Value) (bk_9 : Nat) (cs_9 : List Value) (A_10 : Option Addr) (n_10 c_10 : Nat) (A_14 : Option Addr) (n_14 c_14 : Nat) (O : Hold W h0 m0 h m [rV bk_3 54 cs_3, rV bk_9 101 cs_9, rR (aE tell_str) A_10 c_10 a_10]) (ne_2 : n_2 = List.length a_2) (k_2 : List.length a_2 ≤ c_2) (r_2 : Rd 1 eStr m A_2 a_2) (e_3 : T_api_Program.E m y_3 cs_3) (e_9 : T_api_Func.E m y_9 cs_9) (ne_10 : n_10 = List.length a_10) (ne_14 : n_14 = List.length a_14) (k_14 : List.length a_14 ≤ c_14) (r_14 : Rd 15 T_api_Func.E m A_14 a_14), f41.j1 (kind_funcs.post W h0 m0 r) A_2 n_2 c_2 (⟨bk_3, 0, none⟩ : Addr) (⟨bk_9, 0, none⟩ : Addr) A_10 n_10 c_10 x_11 A_14 n_14 c_14 x_15 x_16 h
  | .j0 a_2 y_3 y_9 a_10 a_14 x_15 x_16, r => ∀ (W : Nat → Prop) (h0 m0 h m : Heap) (A_2 : Option Addr) (n_2 c_2 : Nat) (bk_3 : Nat) (cs_3 : List Value) (bk_9 : Nat) (cs_9 : List Value) (A_10 : Option Addr) (n_10 c_10 : Nat) (A_14 : Option Addr) (n_14 c_14 : Nat) (O : Hold W h0 m0 h m [rV bk_3 54 cs_3, rV bk_9 101 cs_9, rR (aE tell_str) A_10 c_10 a_10]) (ne_2 : n_2 = List.length a_2) (k_2 : List.length a_2 ≤ c_2) (r_2 : Rd 1 eStr m A_2 a_2) (e_3 : T_api_Program.E m y_3 cs_3) (e_9 : T_api_Func.E m y_9 cs_9) (ne_10 : n_10 = List.length a_10) (ne_14 : n_14 = List.length a_14) (k_14 : List.length a_14 ≤ c_14) (r_14 : Rd 15 T_api_Func.E m A_14 a_14), f41.j0 (kind_funcs.post W h0 m0 r) A_2 n_2 c_2 (⟨bk_3, 0, none⟩ : Addr) (⟨bk_9, 0, none⟩ : Addr) A_10 n_10 c_10 A_14 n_14 c_14 x_15 x_16 h
set_option maxHeartbeats 4000000 in
set_option maxRecDepth 100000 in
theorem kind_funcs.l0_k.step_l0 (go : (p : kind_funcs.l0_k.Pt) → Option (Int × Int)) (ih : ∀ p r, go p = some r → kind_funcs.l0_k.I p r) (a_2 : List ByteArray) (y_3 : T_api_Program) (a_14 : List T_api_Func) (x_15 : Int) (x_16 : Int) (r : Int × Int) (e : kind_funcs.l0_k.body go (.l0 a_2 y_3 a_14 x_15 x_16) = some r) : kind_funcs.l0_k.I (.l0 a_2 y_3 a_14 x_15 x_16) r := by
  unfold kind_funcs.l0_k.body at e
  intro W h0 m0 h m A_2 n_2 c_2 bk_3 cs_3 A_14 n_14 c_14 O ne_2 k_2 r_2 e_3 ne_14 k_14 r_14
  subst ne_2
  subst ne_14
  refine f41.l0_in ?_
  unfold f41.l0T
  refine split_dec_e e (fun c380 e => ?_) (fun c380 e => ?_)
  · obtain ⟨y1, g2, e⟩ := bind_e e
    refine r_14.addr rfl g2 fun a3 cs4 ha5 hc6 he7 => ?_
    refine ⟨_, ldAn O.s hc6 rfl, ?_⟩
    refine O.new fun h8 x9 O10 => ?_
    refine ⟨_, rfl, (T_api_Func.T.len _ _ _ he7), ?_⟩
    refine O10.stA 1 rfl (T_api_Func.T.len _ _ _ he7) (T_api_Func.T.flat _ _ _ he7) fun h12 O13 => ?_
    obtain ⟨A14, c15, q16, k17, r18⟩ := T_api_Func.g1 he7
    refine ⟨_, ldk (k := 1) (Sub.refl _) (O13.all 1 rfl) q16, _, _, _, rfl, ?_⟩
    obtain ⟨y19, g20, e⟩ := bind_e e
    refine (slices_Clone_55.walk (Hold.start (W := No) O13.s) rfl k_2 r_2 g20).mono ?_
    rintro _ h21 ⟨m22, A25, n26, c27, Q23, rfl, ne28⟩
    have O30 := Hold.nm (O13.retC Q23 (vfs_cons (rR_vf (aE_vf (fun _ _ _ _ h => h))) vfs_nil))
    subst ne28
    refine ⟨_, _, _, rfl, ?_⟩
    refine ⟨Q23.S.ext, ?_⟩
    obtain ⟨l31, g32, e⟩ := bind_e e
    refine O30.app 2 rfl rfl rfl (Rd.srcE r18 tell_str O30.s rfl) (by decide) g32 fun A33 c34 h35 O36 => ?_
    refine ⟨_, _, _, rfl, ?_⟩
    obtain ⟨A39, c40, q41, k42, r43⟩ := T_api_Func.g3 he7
    refine ⟨_, ldk (k := 3) (Sub.refl _) (O36.all 1 rfl) q41, _, _, _, rfl, ?_⟩
    refine ⟨_, ldAkn (Sub.refl _) (O36.all 1 rfl) 4 3 (le_len (T_api_Func.T.len _ _ _ he7) (by decide)), ?_⟩
    obtain ⟨y44, g45, e⟩ := bind_e e
    obtain ⟨l61, g62, e⟩ := bind_e e
    obtain ⟨y70, g71, e⟩ := bind_e e
    refine ⟨?_, ?_⟩
    · refine ⟨_, ldAn (Sub.refl _) (O36.all 0 rfl) (T_api_Program.T.len _ _ _ e_3), ?_⟩
      refine ⟨Ext.refl _, ?_⟩
      refine ⟨?_, ?_⟩
      · refine (slices_Clone_42.walk (Hold.start (W := No) O36.s) rfl k42 r43 g45).mono ?_
        rintro _ h89 ⟨m90, A93, n94, c95, Q91, rfl, ne96⟩
        have O98 := Hold.nm (O36.ret Q91)
        subst ne96
        refine ⟨_, _, _, rfl, ?_⟩
        refine ⟨Q91.S.ext, ?_⟩
        refine ⟨(List.take 3 (List.drop 4 cs4)), rfl, (T_api_Type.T.len _ _ _ (T_api_Func.u4_25 he7)), ?_⟩
        refine O98.new fun h99 x100 O101 => ?_
        have O103 := O101.recell 4 rfl (cs' := (List.take 3 (List.drop 4 cs4)) ++ []) rfl
        refine ⟨x100, ?_⟩
        have O112 := O103.rowE (l := ([y1.Out] : List T_api_Type)) 4 rfl T_api_Type.T (show CsE _ _ _ _ _ from (CsE.cons (T_api_Type.T.mono _ _ _ _ Q91.S.up (T_api_Func.u4_25 he7)) (T_api_Type.T.len _ _ _ (T_api_Type.T.mono _ _ _ _ Q91.S.up (T_api_Func.u4_25 he7))) CsE.nil)) rfl
        refine O112.app 3 rfl rfl rfl ((O112.os 4 rfl).srcE rfl) (by decide) g62 fun A106 c107 h108 O109 => ?_
        refine ⟨_, _, _, rfl, ?_⟩
        have O119 := O109.nm
        obtain ⟨m120, u121, s128, ⟨⟨r124, k125⟩, ⟨r126, k127⟩, _⟩, B122, C123⟩ := O119.lend0 [2, 3]
        replace r124 : Rd 1 eStr m120 A33 l31 := r124
        replace k125 : List.length l31 ≤ c34 := k125
        replace r126 : Rd 3 T_api_Type.E m120 A106 l61 := r126
        replace k127 : List.length l61 ≤ c107 := k127
        refine (kind_Types.walk (Hold.start (W := No) s128) (T_api_Program.T.mono _ _ _ _ (Q91.S.up.trans u121) e_3) rfl k125 r124 rfl k127 r126 g71).mono ?_
        rintro _ h115 ⟨m116, Q117, rfl⟩
        have O129 := Hold.nm (C123 Q117 vfs_nil)
        refine ⟨_, rfl, ?_⟩
        exact (ih _ _ e) _ _ _ _ _ _ _ _ _ _ _ _ _ _ _ _ _ _ (O129.pick [0, 1, 2]).nm rfl k_2 (r_2.sub tell_str Q91.S.up) (T_api_Program.T.mono _ _ _ _ Q91.S.up e_3) (T_api_Func.T.mono _ _ _ _ Q91.S.up he7) rfl rfl k_14 (r_14.sub T_api_Func.T Q91.S.up)
      · refine ⟨(List.take 3 (List.drop 4 cs4)), rfl, (T_api_Type.T.len _ _ _ (T_api_Func.u4_25 he7)), ?_⟩
        refine O36.new fun h130 x131 O132 => ?_
        have O134 := O132.recell 3 rfl (cs' := (List.take 3 (List.drop 4 cs4)) ++ []) rfl
        refine ⟨x131, ?_⟩
        refine (slices_Clone_42.walk (Hold.start (W := No) O134.s) rfl k42 r43 g45).mono ?_
        rintro _ h137 ⟨m138, A141, n142, c143, Q139, rfl, ne144⟩
        have O146 := Hold.nm (O134.ret Q139)
        subst ne144
        refine ⟨_, _, _, rfl, ?_⟩
        refine ⟨Q139.S.ext, ?_⟩
        have O155 := O146.rowE (l := ([y1.Out] : List T_api_Type)) 3 rfl T_api_Type.T (show CsE _ _ _ _ _ from (CsE.cons (T_api_Type.T.mono _ _ _ _ Q139.S.up (T_api_Func.u4_25 he7)) (T_api_Type.T.len _ _ _ (T_api_Type.T.mono _ _ _ _ Q139.S.up (T_api_Func.u4_25 he7))) CsE.nil)) rfl
        refine O155.app 4 rfl rfl rfl ((O155.os 3 rfl).srcE rfl) (by decide) g62 fun A149 c150 h151 O152 => ?_
        refine ⟨_, _, _, rfl, ?_⟩
        have O162 := O152.nm
        obtain ⟨m163, u164, s171, ⟨⟨r167, k168⟩, ⟨r169, k170⟩, _⟩, B165, C166⟩ := O162.lend0 [2, 4]
        replace r167 : Rd 1 eStr m163 A33 l31 := r167
        replace k168 : List.length l31 ≤ c34 := k168
        replace r169 : Rd 3 T_api_Type.E m163 A149 l61 := r169
        replace k170 : List.length l61 ≤ c150 := k170
        refine (kind_Types.walk (Hold.start (W := No) s171) (T_api_Program.T.mono _ _ _ _ (Q139.S.up.trans u164) e_3) rfl k168 r167 rfl k170 r169 g71).mono ?_
        rintro _ h158 ⟨m159, Q160, rfl⟩
        have O172 := Hold.nm (C166 Q160 vfs_nil)
        refine ⟨_, rfl, ?_⟩
        exact (ih _ _ e) _ _ _ _ _ _ _ _ _ _ _ _ _ _ _ _ _ _ (O172.pick [0, 1, 2]).nm rfl k_2 (r_2.sub tell_str Q139.S.up) (T_api_Program.T.mono _ _ _ _ Q139.S.up e_3) (T_api_Func.T.mono _ _ _ _ Q139.S.up he7) rfl rfl k_14 (r_14.sub T_api_Func.T Q139.S.up)
    · refine ⟨?_, ?_⟩
      · refine (slices_Clone_42.walk (Hold.start (W := No) O36.s) rfl k42 r43 g45).mono ?_
        rintro _ h175 ⟨m176, A179, n180, c181, Q177, rfl, ne182⟩
        have O184 := Hold.nm (O36.ret Q177)
        subst ne182
        refine ⟨_, _, _, rfl, ?_⟩
        refine ⟨Q177.S.ext, ?_⟩
        refine ⟨?_, ?_⟩
        · refine ⟨_, ldAn (Sub.refl _) (O184.all 0 rfl) (T_api_Program.T.len _ _ _ e_3), ?_⟩
          refine ⟨Ext.refl _, ?_⟩
          refine ⟨(List.take 3 (List.drop 4 cs4)), rfl, (T_api_Type.T.len _ _ _ (T_api_Func.u4_25 he7)), ?_⟩
          refine O184.new fun h185 x186 O187 => ?_
          have O189 := O187.recell 4 rfl (cs' := (List.take 3 (List.drop 4 cs4)) ++ []) rfl
          refine ⟨x186, ?_⟩
          have O198 := O189.rowE (l := ([y1.Out] : List T_api_Type)) 4 rfl T_api_Type.T (show CsE _ _ _ _ _ from (CsE.cons (T_api_Type.T.mono _ _ _ _ Q177.S.up (T_api_Func.u4_25 he7)) (T_api_Type.T.len _ _ _ (T_api_Type.T.mono _ _ _ _ Q177.S.up (T_api_Func.u4_25 he7))) CsE.nil)) rfl
          refine O198.app 3 rfl rfl rfl ((O198.os 4 rfl).srcE rfl) (by decide) g62 fun A192 c193 h194 O195 => ?_
          refine ⟨_, _, _, rfl, ?_⟩
          have O205 := O195.nm
          obtain ⟨m206, u207, s214, ⟨⟨r210, k211⟩, ⟨r212, k213⟩, _⟩, B208, C209⟩ := O205.lend0 [2, 3]
          replace r210 : Rd 1 eStr m206 A33 l31 := r210
          replace k211 : List.length l31 ≤ c34 := k211
          replace r212 : Rd 3 T_api_Type.E m206 A192 l61 := r212
          replace k213 : List.length l61 ≤ c193 := k213
          refine (kind_Types.walk (Hold.start (W := No) s214) (T_api_Program.T.mono _ _ _ _ (Q177.S.up.trans u207) e_3) rfl k211 r210 rfl k213 r212 g71).mono ?_
          rintro _ h201 ⟨m202, Q203, rfl⟩
          have O215 := Hold.nm (C209 Q203 vfs_nil)
          refine ⟨_, rfl, ?_⟩
          exact (ih _ _ e) _ _ _ _ _ _ _ _ _ _ _ _ _ _ _ _ _ _ (O215.pick [0, 1, 2]).nm rfl k_2 (r_2.sub tell_str Q177.S.up) (T_api_Program.T.mono _ _ _ _ Q177.S.up e_3) (T_api_Func.T.mono _ _ _ _ Q177.S.up he7) rfl rfl k_14 (r_14.sub T_api_Func.T Q177.S.up)
        · refine ⟨(List.take 3 (List.drop 4 cs4)), rfl, (T_api_Type.T.len _ _ _ (T_api_Func.u4_25 he7)), ?_⟩
          refine O184.new fun h216 x217 O218 => ?_
          have O220 := O218.recell 4 rfl (cs' := (List.take 3 (List.drop 4 cs4)) ++ []) rfl
          refine ⟨x217, ?_⟩
          refine ⟨?_, ?_⟩
          · refine ⟨_, ldAn (Sub.refl _) (O220.all 0 rfl) (T_api_Program.T.len _ _ _ e_3), ?_⟩
            refine ⟨Ext.refl _, ?_⟩
            have O229 := O220.rowE (l := ([y1.Out] : List T_api_Type)) 4 rfl T_api_Type.T (show CsE _ _ _ _ _ from (CsE.cons (T_api_Type.T.mono _ _ _ _ Q177.S.up (T_api_Func.u4_25 he7)) (T_api_Type.T.len _ _ _ (T_api_Type.T.mono _ _ _ _ Q177.S.up (T_api_Func.u4_25 he7))) CsE.nil)) rfl
            refine O229.app 3 rfl rfl rfl ((O229.os 4 rfl).srcE rfl) (by decide) g62 fun A223 c224 h225 O226 => ?_
            refine ⟨_, _, _, rfl, ?_⟩
            have O236 := O226.nm
            obtain ⟨m237, u238, s245, ⟨⟨r241, k242⟩, ⟨r243, k244⟩, _⟩, B239, C240⟩ := O236.lend0 [2, 3]
            replace r241 : Rd 1 eStr m237 A33 l31 := r241
            replace k242 : List.length l31 ≤ c34 := k242
            replace r243 : Rd 3 T_api_Type.E m237 A223 l61 := r243
            replace k244 : List.length l61 ≤ c224 := k244
            refine (kind_Types.walk (Hold.start (W := No) s245) (T_api_Program.T.mono _ _ _ _ (Q177.S.up.trans u238) e_3) rfl k242 r241 rfl k244 r243 g71).mono ?_
            rintro _ h232 ⟨m233, Q234, rfl⟩
            have O246 := Hold.nm (C240 Q234 vfs_nil)
            refine ⟨_, rfl, ?_⟩
            exact (ih _ _ e) _ _ _ _ _ _ _ _ _ _ _ _ _ _ _ _ _ _ (O246.pick [0, 1, 2]).nm rfl k_2 (r_2.sub tell_str Q177.S.up) (T_api_Program.T.mono _ _ _ _ Q177.S.up e_3) (T_api_Func.T.mono _ _ _ _ Q177.S.up he7) rfl rfl k_14 (r_14.sub T_api_Func.T Q177.S.up)
          · have O255 := O220.rowE (l := ([y1.Out] : List T_api_Type)) 4 rfl T_api_Type.T (show CsE _ _ _ _ _ from (CsE.cons (T_api_Type.T.mono _ _ _ _ Q177.S.up (T_api_Func.u4_25 he7)) (T_api_Type.T.len _ _ _ (T_api_Type.T.mono _ _ _ _ Q177.S.up (T_api_Func.u4_25 he7))) CsE.nil)) rfl
            refine O255.app 3 rfl rfl rfl ((O255.os 4 rfl).srcE rfl) (by decide) g62 fun A249 c250 h251 O252 => ?_
            refine ⟨_, _, _, rfl, ?_⟩
            refine ⟨_, ldAn (Sub.refl _) (O252.all 0 rfl) (T_api_Program.T.len _ _ _ e_3), ?_⟩
            refine ⟨Ext.refl _, ?_⟩
            have O262 := O252.nm
            obtain ⟨m263, u264, s271, ⟨⟨r267, k268⟩, ⟨r269, k270⟩, _⟩, B265, C266⟩ := O262.lend0 [2, 3]
            replace r267 : Rd 1 eStr m263 A33 l31 := r267
            replace k268 : List.length l31 ≤ c34 := k268
            replace r269 : Rd 3 T_api_Type.E m263 A249 l61 := r269
            replace k270 : List.length l61 ≤ c250 := k270
            refine (kind_Types.walk (Hold.start (W := No) s271) (T_api_Program.T.mono _ _ _ _ (Q177.S.up.trans u264) e_3) rfl k268 r267 rfl k270 r269 g71).mono ?_
            rintro _ h258 ⟨m259, Q260, rfl⟩
            have O272 := Hold.nm (C266 Q260 vfs_nil)
            refine ⟨_, rfl, ?_⟩
            exact (ih _ _ e) _ _ _ _ _ _ _ _ _ _ _ _ _ _ _ _ _ _ (O272.pick [0, 1, 2]).nm rfl k_2 (r_2.sub tell_str Q177.S.up) (T_api_Program.T.mono _ _ _ _ Q177.S.up e_3) (T_api_Func.T.mono _ _ _ _ Q177.S.up he7) rfl rfl k_14 (r_14.sub T_api_Func.T Q177.S.up)
      · refine ⟨(List.take 3 (List.drop 4 cs4)), rfl, (T_api_Type.T.len _ _ _ (T_api_Func.u4_25 he7)), ?_⟩
        refine O36.new fun h273 x274 O275 => ?_
        have O277 := O275.recell 3 rfl (cs' := (List.take 3 (List.drop 4 cs4)) ++ []) rfl
        refine ⟨x274, ?_⟩
        refine ⟨?_, ?_⟩
        · refine ⟨_, ldAn (Sub.refl _) (O277.all 0 rfl) (T_api_Program.T.len _ _ _ e_3), ?_⟩
          refine ⟨Ext.refl _, ?_⟩
          refine (slices_Clone_42.walk (Hold.start (W := No) O277.s) rfl k42 r43 g45).mono ?_
          rintro _ h280 ⟨m281, A284, n285, c286, Q282, rfl, ne287⟩
          have O289 := Hold.nm (O277.ret Q282)
          subst ne287
          refine ⟨_, _, _, rfl, ?_⟩
          refine ⟨Q282.S.ext, ?_⟩
          have O298 := O289.rowE (l := ([y1.Out] : List T_api_Type)) 3 rfl T_api_Type.T (show CsE _ _ _ _ _ from (CsE.cons (T_api_Type.T.mono _ _ _ _ Q282.S.up (T_api_Func.u4_25 he7)) (T_api_Type.T.len _ _ _ (T_api_Type.T.mono _ _ _ _ Q282.S.up (T_api_Func.u4_25 he7))) CsE.nil)) rfl
          refine O298.app 4 rfl rfl rfl ((O298.os 3 rfl).srcE rfl) (by decide) g62 fun A292 c293 h294 O295 => ?_
          refine ⟨_, _, _, rfl, ?_⟩
          have O305 := O295.nm
          obtain ⟨m306, u307, s314, ⟨⟨r310, k311⟩, ⟨r312, k313⟩, _⟩, B308, C309⟩ := O305.lend0 [2, 4]
          replace r310 : Rd 1 eStr m306 A33 l31 := r310
          replace k311 : List.length l31 ≤ c34 := k311
          replace r312 : Rd 3 T_api_Type.E m306 A292 l61 := r312
          replace k313 : List.length l61 ≤ c293 := k313
          refine (kind_Types.walk (Hold.start (W := No) s314) (T_api_Program.T.mono _ _ _ _ (Q282.S.up.trans u307) e_3) rfl k311 r310 rfl k313 r312 g71).mono ?_
          rintro _ h301 ⟨m302, Q303, rfl⟩
          have O315 := Hold.nm (C309 Q303 vfs_nil)
          refine ⟨_, rfl, ?_⟩
          exact (ih _ _ e) _ _ _ _ _ _ _ _ _ _ _ _ _ _ _ _ _ _ (O315.pick [0, 1, 2]).nm rfl k_2 (r_2.sub tell_str Q282.S.up) (T_api_Program.T.mono _ _ _ _ Q282.S.up e_3) (T_api_Func.T.mono _ _ _ _ Q282.S.up he7) rfl rfl k_14 (r_14.sub T_api_Func.T Q282.S.up)
        · refine (slices_Clone_42.walk (Hold.start (W := No) O277.s) rfl k42 r43 g45).mono ?_
          rintro _ h318 ⟨m319, A322, n323, c324, Q320, rfl, ne325⟩
          have O327 := Hold.nm (O277.ret Q320)
          subst ne325
          refine ⟨_, _, _, rfl, ?_⟩
          refine ⟨Q320.S.ext, ?_⟩
          refine ⟨?_, ?_⟩
          · refine ⟨_, ldAn (Sub.refl _) (O327.all 0 rfl) (T_api_Program.T.len _ _ _ e_3), ?_⟩
            refine ⟨Ext.refl _, ?_⟩
            have O336 := O327.rowE (l := ([y1.Out] : List T_api_Type)) 3 rfl T_api_Type.T (show CsE _ _ _ _ _ from (CsE.cons (T_api_Type.T.mono _ _ _ _ Q320.S.up (T_api_Func.u4_25 he7)) (T_api_Type.T.len _ _ _ (T_api_Type.T.mono _ _ _ _ Q320.S.up (T_api_Func.u4_25 he7))) CsE.nil)) rfl
            refine O336.app 4 rfl rfl rfl ((O336.os 3 rfl).srcE rfl) (by decide) g62 fun A330 c331 h332 O333 => ?_
            refine ⟨_, _, _, rfl, ?_⟩
            have O343 := O333.nm
            obtain ⟨m344, u345, s352, ⟨⟨r348, k349⟩, ⟨r350, k351⟩, _⟩, B346, C347⟩ := O343.lend0 [2, 4]
            replace r348 : Rd 1 eStr m344 A33 l31 := r348
            replace k349 : List.length l31 ≤ c34 := k349
            replace r350 : Rd 3 T_api_Type.E m344 A330 l61 := r350
            replace k351 : List.length l61 ≤ c331 := k351
            refine (kind_Types.walk (Hold.start (W := No) s352) (T_api_Program.T.mono _ _ _ _ (Q320.S.up.trans u345) e_3) rfl k349 r348 rfl k351 r350 g71).mono ?_
            rintro _ h339 ⟨m340, Q341, rfl⟩
            have O353 := Hold.nm (C347 Q341 vfs_nil)
            refine ⟨_, rfl, ?_⟩
            exact (ih _ _ e) _ _ _ _ _ _ _ _ _ _ _ _ _ _ _ _ _ _ (O353.pick [0, 1, 2]).nm rfl k_2 (r_2.sub tell_str Q320.S.up) (T_api_Program.T.mono _ _ _ _ Q320.S.up e_3) (T_api_Func.T.mono _ _ _ _ Q320.S.up he7) rfl rfl k_14 (r_14.sub T_api_Func.T Q320.S.up)
          · have O362 := O327.rowE (l := ([y1.Out] : List T_api_Type)) 3 rfl T_api_Type.T (show CsE _ _ _ _ _ from (CsE.cons (T_api_Type.T.mono _ _ _ _ Q320.S.up (T_api_Func.u4_25 he7)) (T_api_Type.T.len _ _ _ (T_api_Type.T.mono _ _ _ _ Q320.S.up (T_api_Func.u4_25 he7))) CsE.nil)) rfl
            refine O362.app 4 rfl rfl rfl ((O362.os 3 rfl).srcE rfl) (by decide) g62 fun A356 c357 h358 O359 => ?_
            refine ⟨_, _, _, rfl, ?_⟩
            refine ⟨_, ldAn (Sub.refl _) (O359.all 0 rfl) (T_api_Program.T.len _ _ _ e_3), ?_⟩
            refine ⟨Ext.refl _, ?_⟩
            have O369 := O359.nm
            obtain ⟨m370, u371, s378, ⟨⟨r374, k375⟩, ⟨r376, k377⟩, _⟩, B372, C373⟩ := O369.lend0 [2, 4]
            replace r374 : Rd 1 eStr m370 A33 l31 := r374
            replace k375 : List.length l31 ≤ c34 := k375
            replace r376 : Rd 3 T_api_Type.E m370 A356 l61 := r376
            replace k377 : List.length l61 ≤ c357 := k377
            refine (kind_Types.walk (Hold.start (W := No) s378) (T_api_Program.T.mono _ _ _ _ (Q320.S.up.trans u371) e_3) rfl k375 r374 rfl k377 r376 g71).mono ?_
            rintro _ h365 ⟨m366, Q367, rfl⟩
            have O379 := Hold.nm (C373 Q367 vfs_nil)
            refine ⟨_, rfl, ?_⟩
            exact (ih _ _ e) _ _ _ _ _ _ _ _ _ _ _ _ _ _ _ _ _ _ (O379.pick [0, 1, 2]).nm rfl k_2 (r_2.sub tell_str Q320.S.up) (T_api_Program.T.mono _ _ _ _ Q320.S.up e_3) (T_api_Func.T.mono _ _ _ _ Q320.S.up he7) rfl rfl k_14 (r_14.sub T_api_Func.T Q320.S.up)
  · cases e
    exact ⟨_, O.pick [], rfl⟩
set_option maxRecDepth 100000 in
theorem kind_funcs.l0_k.step_j1 (go : (p : kind_funcs.l0_k.Pt) → Option (Int × Int)) (ih : ∀ p r, go p = some r → kind_funcs.l0_k.I p r) (a_2 : List ByteArray) (y_3 : T_api_Program) (y_9 : T_api_Func) (a_10 : List ByteArray) (x_11 : Int) (a_14 : List T_api_Func) (x_15 : Int) (x_16 : Int) (r : Int × Int) (e : kind_funcs.l0_k.body go (.j1 a_2 y_3 y_9 a_10 x_11 a_14 x_15 x_16) = some r) : kind_funcs.l0_k.I (.j1 a_2 y_3 y_9 a_10 x_11 a_14 x_15 x_16) r := by
  unfold kind_funcs.l0_k.body at e
  intro W h0 m0 h m A_2 n_2 c_2 bk_3 cs_3 bk_9 cs_9 A_10 n_10 c_10 A_14 n_14 c_14 O ne_2 k_2 r_2 e_3 e_9 ne_10 ne_14 k_14 r_14
  subst ne_2
  subst ne_10
  subst ne_14
  refine f41.j1_in ?_
  unfold f41.j1T
  refine split_ne_e e (fun c1 e => ?_) (fun c1 e => ?_)
  · cases e
    exact ⟨_, O.pick [], rfl⟩
  · exact (ih _ _ e) _ _ _ _ _ _ _ _ _ _ _ _ _ _ _ _ _ _ (O.pick [0, 1, 2]).nm rfl k_2 r_2 e_3 e_9 rfl rfl k_14 r_14
set_option maxRecDepth 100000 in
theorem kind_funcs.l0_k.step_j0 (go : (p : kind_funcs.l0_k.Pt) → Option (Int × Int)) (ih : ∀ p r, go p = some r → kind_funcs.l0_k.I p r) (a_2 : List ByteArray) (y_3 : T_api_Program) (y_9 : T_api_Func) (a_10 : List ByteArray) (a_14 : List T_api_Func) (x_15 : Int) (x_16 : Int) (r : Int × Int) (e : kind_funcs.l0_k.body go (.j0 a_2 y_3 y_9 a_10 a_14 x_15 x_16) = some r) : kind_funcs.l0_k.I (.j0 a_2 y_3 y_9 a_10 a_14 x_15 x_16) r := by
  unfold kind_funcs.l0_k.body at e
  intro W h0 m0 h m A_2 n_2 c_2 bk_3 cs_3 bk_9 cs_9 A_10 n_10 c_10 A_14 n_14 c_14 O ne_2 k_2 r_2 e_3 e_9 ne_10 ne_14 k_14 r_14
  subst ne_2
  subst ne_10
  subst ne_14
  refine f41.j0_in ?_
  unfold f41.j0T
  refine ⟨_, ldk (k := 7) (Sub.refl _) (O.all 1 rfl) (T_api_Func.g7 e_9), _, rfl, ?_⟩
  refine split_eq_e e (fun c16 e => ?_) (fun c16 e => ?_)
  · exact (ih _ _ e) _ _ _ _ _ _ _ _ _ _ _ _ _ (O.pick [0]).nm rfl k_2 r_2 e_3 rfl k_14 r_14
  · refine ⟨_, ldAn (Sub.refl _) (O.all 0 rfl) (T_api_Program.T.len _ _ _ e_3), ?_⟩
    refine ⟨_, ldAkn (Sub.refl _) (O.all 1 rfl) 7 8 (le_len (T_api_Func.T.len _ _ _ e_9) (by decide)), ?_⟩
    obtain ⟨y1, g2, e⟩ := bind_e e
    obtain ⟨m7, u8, s13, ⟨⟨r11, k12⟩, _⟩, B9, C10⟩ := O.lend0 [2]
    replace r11 : Rd 1 eStr m7 A_10 a_10 := r11
    replace k12 : List.length a_10 ≤ c_10 := k12
    refine (kind_body.walk (Hold.start (W := No) s13) (T_api_Program.T.mono _ _ _ _ u8 e_3) rfl k12 r11 (T_api_Expr.T.mono _ _ _ _ u8 (T_api_Func.u7_87 e_9)) g2).mono ?_
    rintro _ h3 ⟨m4, Q5, rfl⟩
    have O14 := Hold.nm (C10 Q5 vfs_nil)
    refine ⟨_, _, rfl, ?_⟩
    refine split_ne_e e (fun c15 e => ?_) (fun c15 e => ?_)
    · cases e
      exact ⟨_, O14.pick [], rfl⟩
    · exact (ih _ _ e) _ _ _ _ _ _ _ _ _ _ _ _ _ (O14.pick [0]).nm rfl k_2 r_2 e_3 rfl k_14 r_14
theorem kind_funcs.l0_k.all {p : kind_funcs.l0_k.Pt} {r : (Int × Int)} (e : kind_funcs.l0_k.go p = some r) : kind_funcs.l0_k.I p r := fixF_ind (β := fun _ => (Int × Int)) kind_funcs.l0_k.mono (I := kind_funcs.l0_k.I) (fun go ih p r e => match p with
  | .l0 a_2 y_3 a_14 x_15 x_16 => kind_funcs.l0_k.step_l0 go ih a_2 y_3 a_14 x_15 x_16 r e
  | .j1 a_2 y_3 y_9 a_10 x_11 a_14 x_15 x_16 => kind_funcs.l0_k.step_j1 go ih a_2 y_3 y_9 a_10 x_11 a_14 x_15 x_16 r e
  | .j0 a_2 y_3 y_9 a_10 a_14 x_15 x_16 => kind_funcs.l0_k.step_j0 go ih a_2 y_3 y_9 a_10 a_14 x_15 x_16 r e
  ) e
theorem kind_funcs.l0.walk {W : Nat → Prop} {h0 m0 h m : Heap} {A_2 : Option Addr} {n_2 c_2 : Nat} {bk_3 : Nat} {cs_3 : List Value} {A_14 : Option Addr} {n_14 c_14 : Nat} {a_2 : List ByteArray} {y_3 : T_api_Program} {a_14 : List T_api_Func} {x_15 : Int} {x_16 : Int} (O : Hold W h0 m0 h m [rV bk_3 54 cs_3]) (ne_2 : n_2 = List.length a_2) (k_2 : List.length a_2 ≤ c_2) (r_2 : Rd 1 eStr m A_2 a_2) (e_3 : T_api_Program.E m y_3 cs_3) (ne_14 : n_14 = List.length a_14) (k_14 : List.length a_14 ≤ c_14) (r_14 : Rd 15 T_api_Func.E m A_14 a_14) {r : Int × Int} (e : kind_funcs.l0 a_2 y_3 a_14 x_15 x_16 = some r) : f41.l0 (kind_funcs.post W h0 m0 r) A_2 n_2 c_2 (⟨bk_3, 0, none⟩ : Addr) A_14 n_14 c_14 x_15 x_16 h := kind_funcs.l0_k.all (p := .l0 a_2 y_3 a_14 x_15 x_16) e W h0 m0 h m A_2 n_2 c_2 bk_3 cs_3 A_14 n_14 c_14 O ne_2 k_2 r_2 e_3 ne_14 k_14 r_14
noncomputable def kind_funcs (y_0 : T_api_Program) (a_1 : List T_api_Func) (a_2 : List ByteArray) : Option (Int × Int) :=
  (kind_funcs.l0 a_2 y_0 a_1 (((List.length a_1) : Nat) : Int) (0 : Int))
set_option maxRecDepth 100000 in
theorem kind_funcs.walk {W : Nat → Prop} {h m : Heap} {cs_0 : List Value} {A_1 : Option Addr} {n_1 c_1 : Nat} {A_2 : Option Addr} {n_2 c_2 : Nat} {y_0 : T_api_Program} {a_1 : List T_api_Func} {a_2 : List ByteArray} (O : Hold W h m h m []) (e_0 : T_api_Program.E m y_0 cs_0) (ne_1 : n_1 = List.length a_1) (k_1 : List.length a_1 ≤ c_1) (r_1 : Rd 15 T_api_Func.E m A_1 a_1) (ne_2 : n_2 = List.length a_2) (k_2 : List.length a_2 ≤ c_2) (r_2 : Rd 1 eStr m A_2 a_2) {r : Int × Int} (e : kind_funcs y_0 a_1 a_2 = some r) : Run Tryd.prog 41 #[Value.agg cs_0.toArray, Value.slice A_1 n_1 c_1, Value.slice A_2 n_2 c_2] h (kind_funcs.post W h m r) := by
  unfold kind_funcs at e
  subst ne_1
  subst ne_2
  refine f41.run ?_
  unfold f41.runT
  refine O.new fun h1 x2 O3 => ?_
  have O5 := O3.nm
  exact kind_funcs.l0.walk (O5.pick [0]).nm rfl k_2 r_2 e_0 rfl k_1 r_1 e
def kind_Program.post (W : Nat → Prop) (h0 m0 : Heap) (r : Int × Int) (v : Value) (h : Heap) : Prop := ∃ m , Hold W h0 m0 h m [] ∧ v = .tuple #[.int .i64 r.1, .int .i64 r.2]
inductive kind_Program.l3_k.Pt where
  | l3 (y_1 : T_api_Program) (a_100 : List T_api_Actor) (x_101 : Int) (x_102 : Int)
  | j1 (y_1 : T_api_Program) (y_20 : T_api_Actor) (x_21 : Int) (a_100 : List T_api_Actor) (x_101 : Int) (x_102 : Int)
  | j0 (y_1 : T_api_Program) (y_20 : T_api_Actor) (a_100 : List T_api_Actor) (x_101 : Int) (x_102 : Int)
noncomputable def kind_Program.l3_k.body (go : (p : kind_Program.l3_k.Pt) → Option (Int × Int)) : (p : kind_Program.l3_k.Pt) → Option (Int × Int)
  | .l3 y_1 a_100 x_101 x_102 => if x_102 < x_101 then (Option.bind (gi a_100 x_102) fun y1 => Option.bind (slices_Clone_42 y1.Types) fun y19 => Option.bind (ap 48 y19 ([y1.Msg] : List T_api_Type)) fun l36 => Option.bind (kind_Types y_1 ([] : List ByteArray) l36) fun y45 => (go (.j1 y_1 y1 y45 a_100 x_101 x_102))) else (some ((0 : Int), (0 : Int)))
  | .j1 y_1 y_20 x_21 a_100 x_101 x_102 => if x_21 = (0 : Int) then ((go (.j0 y_1 y_20 a_100 x_101 x_102))) else (some (x_21, (0 : Int)))
  | .j0 y_1 y_20 a_100 x_101 x_102 => Option.bind (kind_body y_1 ([] : List ByteArray) y_20.Body) fun y1 => if y1.1 = (0 : Int) then ((go (.l3 y_1 a_100 x_101 (IntKind.wrap .i64 (x_102 + (1 : Int)))))) else (some (y1.1, y1.2))
theorem kind_Program.l3_k.mono : MonoF (β := fun _ => (Int × Int)) kind_Program.l3_k.body := fun f g hfg p => match p with
  | .l3 y_1 a_100 x_101 x_102 => LeO.ite (LeO.bind (LeO.refl _) fun y1 => LeO.bind (LeO.refl _) fun y19 => LeO.bind (LeO.refl _) fun l36 => LeO.bind (LeO.refl _) fun y45 => (hfg _)) (LeO.refl _)
  | .j1 y_1 y_20 x_21 a_100 x_101 x_102 => LeO.ite ((hfg _)) (LeO.refl _)
  | .j0 y_1 y_20 a_100 x_101 x_102 => LeO.bind (LeO.refl _) fun y1 => LeO.ite ((hfg _)) (LeO.refl _)
noncomputable def kind_Program.l3_k.go (p : kind_Program.l3_k.Pt) : Option (Int × Int) := fixF (β := fun _ => (Int × Int)) kind_Program.l3_k.body p
noncomputable def kind_Program.l3 (y_1 : T_api_Program) (a_100 : List T_api_Actor) (x_101 : Int) (x_102 : Int) : Option (Int × Int) := kind_Program.l3_k.go (.l3 y_1 a_100 x_101 x_102)
noncomputable def kind_Program.j1 (y_1 : T_api_Program) (y_20 : T_api_Actor) (x_21 : Int) (a_100 : List T_api_Actor) (x_101 : Int) (x_102 : Int) : Option (Int × Int) := kind_Program.l3_k.go (.j1 y_1 y_20 x_21 a_100 x_101 x_102)
noncomputable def kind_Program.j0 (y_1 : T_api_Program) (y_20 : T_api_Actor) (a_100 : List T_api_Actor) (x_101 : Int) (x_102 : Int) : Option (Int × Int) := kind_Program.l3_k.go (.j0 y_1 y_20 a_100 x_101 x_102)
theorem kind_Program.l3_eq (y_1 : T_api_Program) (a_100 : List T_api_Actor) (x_101 : Int) (x_102 : Int) : kind_Program.l3 y_1 a_100 x_101 x_102 = if x_102 < x_101 then (Option.bind (gi a_100 x_102) fun y1 => Option.bind (slices_Clone_42 y1.Types) fun y19 => Option.bind (ap 48 y19 ([y1.Msg] : List T_api_Type)) fun l36 => Option.bind (kind_Types y_1 ([] : List ByteArray) l36) fun y45 => (kind_Program.j1 y_1 y1 y45 a_100 x_101 x_102)) else (some ((0 : Int), (0 : Int))) := fixF_eq kind_Program.l3_k.mono _
theorem kind_Program.j1_eq (y_1 : T_api_Program) (y_20 : T_api_Actor) (x_21 : Int) (a_100 : List T_api_Actor) (x_101 : Int) (x_102 : Int) : kind_Program.j1 y_1 y_20 x_21 a_100 x_101 x_102 = if x_21 = (0 : Int) then ((kind_Program.j0 y_1 y_20 a_100 x_101 x_102)) else (some (x_21, (0 : Int))) := fixF_eq kind_Program.l3_k.mono _
theorem kind_Program.j0_eq (y_1 : T_api_Program) (y_20 : T_api_Actor) (a_100 : List T_api_Actor) (x_101 : Int) (x_102 : Int) : kind_Program.j0 y_1 y_20 a_100 x_101 x_102 = Option.bind (kind_body y_1 ([] : List ByteArray) y_20.Body) fun y1 => if y1.1 = (0 : Int) then ((kind_Program.l3 y_1 a_100 x_101 (IntKind.wrap .i64 (x_102 + (1 : Int))))) else (some (y1.1, y1.2)) := fixF_eq kind_Program.l3_k.mono _
def kind_Program.l3_k.I : (p : kind_Program.l3_k.Pt) → (Int × Int) → Prop
  | .l3 y_1 a_100 x_101 x_102, r => ∀ (W : Nat → Prop) (h0 m0 h m : Heap) (bk_1 : Nat) (cs_1 : List Value) (A_100 : Option Addr) (n_100 c_100 : Nat) (O : Hold W h0 m0 h m [rV bk_1 54 cs_1]) (e_1 : T_api_Program.E m y_1 cs_1) (ne_100 : n_100 = List.length a_100) (k_100 : List.length a_100 ≤ c_100) (r_100 : Rd 14 T_api_Actor.E m A_100 a_100), f21.l3 (kind_Program.post W h0 m0 r) (⟨bk_1, 0, none⟩ : Addr) A_100 n_100 c_100 x_101 x_102 h
  | .j1 y_1 y_20 x_21 a_100 x_101 x_102, r => ∀ (W : Nat → Prop) (h0 m0 h m : Heap) (bk_1 : Nat) (cs_1 : List Value) (bk_20 : Nat) (cs_20 : List Value) (A_100 : Option Addr) (n_100 c_100 : Nat) (O : Hold W h0 m0 h m [rV bk_1 54 cs_1, rV bk_20 97 cs_20]) (e_1 : T_api_Program.E m y_1 cs_1) (e_20 : T_api_Actor.E m y_20 cs_20) (ne_100 : n_100 = List.length a_100) (k_100 : List.length a_100 ≤ c_100) (r_100 : Rd 14 T_api_Actor.E m A_100 a_100), f21.j1 (kind_Program.post W h0 m0 r) (⟨bk_1, 0, none⟩ : Addr) (⟨bk_20, 0, none⟩ : Addr) x_21 A_100 n_100 c_100 x_101 x_102 h
  | .j0 y_1 y_20 a_100 x_101 x_102, r => ∀ (W : Nat → Prop) (h0 m0 h m : Heap) (bk_1 : Nat) (cs_1 : List Value) (bk_20 : Nat) (cs_20 : List Value) (A_100 : Option Addr) (n_100 c_100 : Nat) (O : Hold W h0 m0 h m [rV bk_1 54 cs_1, rV bk_20 97 cs_20]) (e_1 : T_api_Program.E m y_1 cs_1) (e_20 : T_api_Actor.E m y_20 cs_20) (ne_100 : n_100 = List.length a_100) (k_100 : List.length a_100 ≤ c_100) (r_100 : Rd 14 T_api_Actor.E m A_100 a_100), f21.j0 (kind_Program.post W h0 m0 r) (⟨bk_1, 0, none⟩ : Addr) (⟨bk_20, 0, none⟩ : Addr) A_100 n_100 c_100 x_101 x_102 h
set_option maxHeartbeats 4000000 in
set_option maxRecDepth 100000 in
theorem kind_Program.l3_k.step_l3 (go : (p : kind_Program.l3_k.Pt) → Option (Int × Int)) (ih : ∀ p r, go p = some r → kind_Program.l3_k.I p r) (y_1 : T_api_Program) (a_100 : List T_api_Actor) (x_101 : Int) (x_102 : Int) (r : Int × Int) (e : kind_Program.l3_k.body go (.l3 y_1 a_100 x_101 x_102) = some r) : kind_Program.l3_k.I (.l3 y_1 a_100 x_101 x_102) r := by
  unfold kind_Program.l3_k.body at e
  intro W h0 m0 h m bk_1 cs_1 A_100 n_100 c_100 O e_1 ne_100 k_100 r_100
  subst ne_100
  refine f21.l3_in ?_
  unfold f21.l3T
  refine split_dec_e e (fun c337 e => ?_) (fun c337 e => ?_)
  · obtain ⟨y1, g2, e⟩ := bind_e e
    refine r_100.addr rfl g2 fun a3 cs4 ha5 hc6 he7 => ?_
    refine ⟨_, ldAn O.s hc6 rfl, ?_⟩
    refine O.new fun h8 x9 O10 => ?_
    refine ⟨_, rfl, (T_api_Actor.T.len _ _ _ he7), ?_⟩
    refine O10.stA 1 rfl (T_api_Actor.T.len _ _ _ he7) (T_api_Actor.T.flat _ _ _ he7) fun h12 O13 => ?_
    obtain ⟨A14, c15, q16, k17, r18⟩ := T_api_Actor.g2 he7
    refine ⟨_, ldk (k := 2) (Sub.refl _) (O13.all 1 rfl) q16, _, _, _, rfl, ?_⟩
    refine ⟨_, ldAkn (Sub.refl _) (O13.all 1 rfl) 3 3 (le_len (T_api_Actor.T.len _ _ _ he7) (by decide)), ?_⟩
    obtain ⟨y19, g20, e⟩ := bind_e e
    obtain ⟨l36, g37, e⟩ := bind_e e
    obtain ⟨y45, g46, e⟩ := bind_e e
    refine ⟨?_, ?_⟩
    · refine ⟨_, ldAn (Sub.refl _) (O13.all 0 rfl) (T_api_Program.T.len _ _ _ e_1), ?_⟩
      refine ⟨Ext.refl _, ?_⟩
      refine ⟨?_, ?_⟩
      · refine (slices_Clone_42.walk (Hold.start (W := No) O13.s) rfl k17 r18 g20).mono ?_
        rintro _ h62 ⟨m63, A66, n67, c68, Q64, rfl, ne69⟩
        have O71 := Hold.nm (O13.ret Q64)
        subst ne69
        refine ⟨_, _, _, rfl, ?_⟩
        refine ⟨Q64.S.ext, ?_⟩
        refine ⟨(List.take 3 (List.drop 3 cs4)), rfl, (T_api_Type.T.len _ _ _ (T_api_Actor.u3_25 he7)), ?_⟩
        refine O71.new fun h72 x73 O74 => ?_
        have O76 := O74.recell 3 rfl (cs' := (List.take 3 (List.drop 3 cs4)) ++ []) rfl
        refine ⟨x73, ?_⟩
        have O85 := O76.rowE (l := ([y1.Msg] : List T_api_Type)) 3 rfl T_api_Type.T (show CsE _ _ _ _ _ from (CsE.cons (T_api_Type.T.mono _ _ _ _ Q64.S.up (T_api_Actor.u3_25 he7)) (T_api_Type.T.len _ _ _ (T_api_Type.T.mono _ _ _ _ Q64.S.up (T_api_Actor.u3_25 he7))) CsE.nil)) rfl
        refine O85.app 2 rfl rfl rfl ((O85.os 3 rfl).srcE rfl) (by decide) g37 fun A79 c80 h81 O82 => ?_
        refine ⟨_, _, _, rfl, ?_⟩
        have O92 := O82.nm
        obtain ⟨m93, u94, s99, ⟨⟨r97, k98⟩, _⟩, B95, C96⟩ := O92.lend0 [2]
        replace r97 : Rd 3 T_api_Type.E m93 A79 l36 := r97
        replace k98 : List.length l36 ≤ c80 := k98
        refine (kind_Types.walk (Hold.start (W := No) s99) (T_api_Program.T.mono _ _ _ _ (Q64.S.up.trans u94) e_1) rfl (by exact Nat.le_refl 0) Rd.nil rfl k98 r97 g46).mono ?_
        rintro _ h88 ⟨m89, Q90, rfl⟩
        have O100 := Hold.nm (C96 Q90 vfs_nil)
        refine ⟨_, rfl, ?_⟩
        exact (ih _ _ e) _ _ _ _ _ _ _ _ _ _ _ _ (O100.pick [0, 1]).nm (T_api_Program.T.mono _ _ _ _ Q64.S.up e_1) (T_api_Actor.T.mono _ _ _ _ Q64.S.up he7) rfl k_100 (r_100.sub T_api_Actor.T Q64.S.up)
      · refine ⟨(List.take 3 (List.drop 3 cs4)), rfl, (T_api_Type.T.len _ _ _ (T_api_Actor.u3_25 he7)), ?_⟩
        refine O13.new fun h101 x102 O103 => ?_
        have O105 := O103.recell 2 rfl (cs' := (List.take 3 (List.drop 3 cs4)) ++ []) rfl
        refine ⟨x102, ?_⟩
        refine (slices_Clone_42.walk (Hold.start (W := No) O105.s) rfl k17 r18 g20).mono ?_
        rintro _ h108 ⟨m109, A112, n113, c114, Q110, rfl, ne115⟩
        have O117 := Hold.nm (O105.ret Q110)
        subst ne115
        refine ⟨_, _, _, rfl, ?_⟩
        refine ⟨Q110.S.ext, ?_⟩
        have O126 := O117.rowE (l := ([y1.Msg] : List T_api_Type)) 2 rfl T_api_Type.T (show CsE _ _ _ _ _ from (CsE.cons (T_api_Type.T.mono _ _ _ _ Q110.S.up (T_api_Actor.u3_25 he7)) (T_api_Type.T.len _ _ _ (T_api_Type.T.mono _ _ _ _ Q110.S.up (T_api_Actor.u3_25 he7))) CsE.nil)) rfl
        refine O126.app 3 rfl rfl rfl ((O126.os 2 rfl).srcE rfl) (by decide) g37 fun A120 c121 h122 O123 => ?_
        refine ⟨_, _, _, rfl, ?_⟩
        have O133 := O123.nm
        obtain ⟨m134, u135, s140, ⟨⟨r138, k139⟩, _⟩, B136, C137⟩ := O133.lend0 [3]
        replace r138 : Rd 3 T_api_Type.E m134 A120 l36 := r138
        replace k139 : List.length l36 ≤ c121 := k139
        refine (kind_Types.walk (Hold.start (W := No) s140) (T_api_Program.T.mono _ _ _ _ (Q110.S.up.trans u135) e_1) rfl (by exact Nat.le_refl 0) Rd.nil rfl k139 r138 g46).mono ?_
        rintro _ h129 ⟨m130, Q131, rfl⟩
        have O141 := Hold.nm (C137 Q131 vfs_nil)
        refine ⟨_, rfl, ?_⟩
        exact (ih _ _ e) _ _ _ _ _ _ _ _ _ _ _ _ (O141.pick [0, 1]).nm (T_api_Program.T.mono _ _ _ _ Q110.S.up e_1) (T_api_Actor.T.mono _ _ _ _ Q110.S.up he7) rfl k_100 (r_100.sub T_api_Actor.T Q110.S.up)
    · refine ⟨?_, ?_⟩
      · refine (slices_Clone_42.walk (Hold.start (W := No) O13.s) rfl k17 r18 g20).mono ?_
        rintro _ h144 ⟨m145, A148, n149, c150, Q146, rfl, ne151⟩
        have O153 := Hold.nm (O13.ret Q146)
        subst ne151
        refine ⟨_, _, _, rfl, ?_⟩
        refine ⟨Q146.S.ext, ?_⟩
        refine ⟨?_, ?_⟩
        · refine ⟨_, ldAn (Sub.refl _) (O153.all 0 rfl) (T_api_Program.T.len _ _ _ e_1), ?_⟩
          refine ⟨Ext.refl _, ?_⟩
          refine ⟨(List.take 3 (List.drop 3 cs4)), rfl, (T_api_Type.T.len _ _ _ (T_api_Actor.u3_25 he7)), ?_⟩
          refine O153.new fun h154 x155 O156 => ?_
          have O158 := O156.recell 3 rfl (cs' := (List.take 3 (List.drop 3 cs4)) ++ []) rfl
          refine ⟨x155, ?_⟩
          have O167 := O158.rowE (l := ([y1.Msg] : List T_api_Type)) 3 rfl T_api_Type.T (show CsE _ _ _ _ _ from (CsE.cons (T_api_Type.T.mono _ _ _ _ Q146.S.up (T_api_Actor.u3_25 he7)) (T_api_Type.T.len _ _ _ (T_api_Type.T.mono _ _ _ _ Q146.S.up (T_api_Actor.u3_25 he7))) CsE.nil)) rfl
          refine O167.app 2 rfl rfl rfl ((O167.os 3 rfl).srcE rfl) (by decide) g37 fun A161 c162 h163 O164 => ?_
          refine ⟨_, _, _, rfl, ?_⟩
          have O174 := O164.nm
          obtain ⟨m175, u176, s181, ⟨⟨r179, k180⟩, _⟩, B177, C178⟩ := O174.lend0 [2]
          replace r179 : Rd 3 T_api_Type.E m175 A161 l36 := r179
          replace k180 : List.length l36 ≤ c162 := k180
          refine (kind_Types.walk (Hold.start (W := No) s181) (T_api_Program.T.mono _ _ _ _ (Q146.S.up.trans u176) e_1) rfl (by exact Nat.le_refl 0) Rd.nil rfl k180 r179 g46).mono ?_
          rintro _ h170 ⟨m171, Q172, rfl⟩
          have O182 := Hold.nm (C178 Q172 vfs_nil)
          refine ⟨_, rfl, ?_⟩
          exact (ih _ _ e) _ _ _ _ _ _ _ _ _ _ _ _ (O182.pick [0, 1]).nm (T_api_Program.T.mono _ _ _ _ Q146.S.up e_1) (T_api_Actor.T.mono _ _ _ _ Q146.S.up he7) rfl k_100 (r_100.sub T_api_Actor.T Q146.S.up)
        · refine ⟨(List.take 3 (List.drop 3 cs4)), rfl, (T_api_Type.T.len _ _ _ (T_api_Actor.u3_25 he7)), ?_⟩
          refine O153.new fun h183 x184 O185 => ?_
          have O187 := O185.recell 3 rfl (cs' := (List.take 3 (List.drop 3 cs4)) ++ []) rfl
          refine ⟨x184, ?_⟩
          refine ⟨?_, ?_⟩
          · refine ⟨_, ldAn (Sub.refl _) (O187.all 0 rfl) (T_api_Program.T.len _ _ _ e_1), ?_⟩
            refine ⟨Ext.refl _, ?_⟩
            have O196 := O187.rowE (l := ([y1.Msg] : List T_api_Type)) 3 rfl T_api_Type.T (show CsE _ _ _ _ _ from (CsE.cons (T_api_Type.T.mono _ _ _ _ Q146.S.up (T_api_Actor.u3_25 he7)) (T_api_Type.T.len _ _ _ (T_api_Type.T.mono _ _ _ _ Q146.S.up (T_api_Actor.u3_25 he7))) CsE.nil)) rfl
            refine O196.app 2 rfl rfl rfl ((O196.os 3 rfl).srcE rfl) (by decide) g37 fun A190 c191 h192 O193 => ?_
            refine ⟨_, _, _, rfl, ?_⟩
            have O203 := O193.nm
            obtain ⟨m204, u205, s210, ⟨⟨r208, k209⟩, _⟩, B206, C207⟩ := O203.lend0 [2]
            replace r208 : Rd 3 T_api_Type.E m204 A190 l36 := r208
            replace k209 : List.length l36 ≤ c191 := k209
            refine (kind_Types.walk (Hold.start (W := No) s210) (T_api_Program.T.mono _ _ _ _ (Q146.S.up.trans u205) e_1) rfl (by exact Nat.le_refl 0) Rd.nil rfl k209 r208 g46).mono ?_
            rintro _ h199 ⟨m200, Q201, rfl⟩
            have O211 := Hold.nm (C207 Q201 vfs_nil)
            refine ⟨_, rfl, ?_⟩
            exact (ih _ _ e) _ _ _ _ _ _ _ _ _ _ _ _ (O211.pick [0, 1]).nm (T_api_Program.T.mono _ _ _ _ Q146.S.up e_1) (T_api_Actor.T.mono _ _ _ _ Q146.S.up he7) rfl k_100 (r_100.sub T_api_Actor.T Q146.S.up)
          · have O220 := O187.rowE (l := ([y1.Msg] : List T_api_Type)) 3 rfl T_api_Type.T (show CsE _ _ _ _ _ from (CsE.cons (T_api_Type.T.mono _ _ _ _ Q146.S.up (T_api_Actor.u3_25 he7)) (T_api_Type.T.len _ _ _ (T_api_Type.T.mono _ _ _ _ Q146.S.up (T_api_Actor.u3_25 he7))) CsE.nil)) rfl
            refine O220.app 2 rfl rfl rfl ((O220.os 3 rfl).srcE rfl) (by decide) g37 fun A214 c215 h216 O217 => ?_
            refine ⟨_, _, _, rfl, ?_⟩
            refine ⟨_, ldAn (Sub.refl _) (O217.all 0 rfl) (T_api_Program.T.len _ _ _ e_1), ?_⟩
            refine ⟨Ext.refl _, ?_⟩
            have O227 := O217.nm
            obtain ⟨m228, u229, s234, ⟨⟨r232, k233⟩, _⟩, B230, C231⟩ := O227.lend0 [2]
            replace r232 : Rd 3 T_api_Type.E m228 A214 l36 := r232
            replace k233 : List.length l36 ≤ c215 := k233
            refine (kind_Types.walk (Hold.start (W := No) s234) (T_api_Program.T.mono _ _ _ _ (Q146.S.up.trans u229) e_1) rfl (by exact Nat.le_refl 0) Rd.nil rfl k233 r232 g46).mono ?_
            rintro _ h223 ⟨m224, Q225, rfl⟩
            have O235 := Hold.nm (C231 Q225 vfs_nil)
            refine ⟨_, rfl, ?_⟩
            exact (ih _ _ e) _ _ _ _ _ _ _ _ _ _ _ _ (O235.pick [0, 1]).nm (T_api_Program.T.mono _ _ _ _ Q146.S.up e_1) (T_api_Actor.T.mono _ _ _ _ Q146.S.up he7) rfl k_100 (r_100.sub T_api_Actor.T Q146.S.up)
      · refine ⟨(List.take 3 (List.drop 3 cs4)), rfl, (T_api_Type.T.len _ _ _ (T_api_Actor.u3_25 he7)), ?_⟩
        refine O13.new fun h236 x237 O238 => ?_
        have O240 := O238.recell 2 rfl (cs' := (List.take 3 (List.drop 3 cs4)) ++ []) rfl
        refine ⟨x237, ?_⟩
        refine ⟨?_, ?_⟩
        · refine ⟨_, ldAn (Sub.refl _) (O240.all 0 rfl) (T_api_Program.T.len _ _ _ e_1), ?_⟩
          refine ⟨Ext.refl _, ?_⟩
          refine (slices_Clone_42.walk (Hold.start (W := No) O240.s) rfl k17 r18 g20).mono ?_
          rintro _ h243 ⟨m244, A247, n248, c249, Q245, rfl, ne250⟩
          have O252 := Hold.nm (O240.ret Q245)
          subst ne250
          refine ⟨_, _, _, rfl, ?_⟩
          refine ⟨Q245.S.ext, ?_⟩
          have O261 := O252.rowE (l := ([y1.Msg] : List T_api_Type)) 2 rfl T_api_Type.T (show CsE _ _ _ _ _ from (CsE.cons (T_api_Type.T.mono _ _ _ _ Q245.S.up (T_api_Actor.u3_25 he7)) (T_api_Type.T.len _ _ _ (T_api_Type.T.mono _ _ _ _ Q245.S.up (T_api_Actor.u3_25 he7))) CsE.nil)) rfl
          refine O261.app 3 rfl rfl rfl ((O261.os 2 rfl).srcE rfl) (by decide) g37 fun A255 c256 h257 O258 => ?_
          refine ⟨_, _, _, rfl, ?_⟩
          have O268 := O258.nm
          obtain ⟨m269, u270, s275, ⟨⟨r273, k274⟩, _⟩, B271, C272⟩ := O268.lend0 [3]
          replace r273 : Rd 3 T_api_Type.E m269 A255 l36 := r273
          replace k274 : List.length l36 ≤ c256 := k274
          refine (kind_Types.walk (Hold.start (W := No) s275) (T_api_Program.T.mono _ _ _ _ (Q245.S.up.trans u270) e_1) rfl (by exact Nat.le_refl 0) Rd.nil rfl k274 r273 g46).mono ?_
          rintro _ h264 ⟨m265, Q266, rfl⟩
          have O276 := Hold.nm (C272 Q266 vfs_nil)
          refine ⟨_, rfl, ?_⟩
          exact (ih _ _ e) _ _ _ _ _ _ _ _ _ _ _ _ (O276.pick [0, 1]).nm (T_api_Program.T.mono _ _ _ _ Q245.S.up e_1) (T_api_Actor.T.mono _ _ _ _ Q245.S.up he7) rfl k_100 (r_100.sub T_api_Actor.T Q245.S.up)
        · refine (slices_Clone_42.walk (Hold.start (W := No) O240.s) rfl k17 r18 g20).mono ?_
          rintro _ h279 ⟨m280, A283, n284, c285, Q281, rfl, ne286⟩
          have O288 := Hold.nm (O240.ret Q281)
          subst ne286
          refine ⟨_, _, _, rfl, ?_⟩
          refine ⟨Q281.S.ext, ?_⟩
          refine ⟨?_, ?_⟩
          · refine ⟨_, ldAn (Sub.refl _) (O288.all 0 rfl) (T_api_Program.T.len _ _ _ e_1), ?_⟩
            refine ⟨Ext.refl _, ?_⟩
            have O297 := O288.rowE (l := ([y1.Msg] : List T_api_Type)) 2 rfl T_api_Type.T (show CsE _ _ _ _ _ from (CsE.cons (T_api_Type.T.mono _ _ _ _ Q281.S.up (T_api_Actor.u3_25 he7)) (T_api_Type.T.len _ _ _ (T_api_Type.T.mono _ _ _ _ Q281.S.up (T_api_Actor.u3_25 he7))) CsE.nil)) rfl
            refine O297.app 3 rfl rfl rfl ((O297.os 2 rfl).srcE rfl) (by decide) g37 fun A291 c292 h293 O294 => ?_
            refine ⟨_, _, _, rfl, ?_⟩
            have O304 := O294.nm
            obtain ⟨m305, u306, s311, ⟨⟨r309, k310⟩, _⟩, B307, C308⟩ := O304.lend0 [3]
            replace r309 : Rd 3 T_api_Type.E m305 A291 l36 := r309
            replace k310 : List.length l36 ≤ c292 := k310
            refine (kind_Types.walk (Hold.start (W := No) s311) (T_api_Program.T.mono _ _ _ _ (Q281.S.up.trans u306) e_1) rfl (by exact Nat.le_refl 0) Rd.nil rfl k310 r309 g46).mono ?_
            rintro _ h300 ⟨m301, Q302, rfl⟩
            have O312 := Hold.nm (C308 Q302 vfs_nil)
            refine ⟨_, rfl, ?_⟩
            exact (ih _ _ e) _ _ _ _ _ _ _ _ _ _ _ _ (O312.pick [0, 1]).nm (T_api_Program.T.mono _ _ _ _ Q281.S.up e_1) (T_api_Actor.T.mono _ _ _ _ Q281.S.up he7) rfl k_100 (r_100.sub T_api_Actor.T Q281.S.up)
          · have O321 := O288.rowE (l := ([y1.Msg] : List T_api_Type)) 2 rfl T_api_Type.T (show CsE _ _ _ _ _ from (CsE.cons (T_api_Type.T.mono _ _ _ _ Q281.S.up (T_api_Actor.u3_25 he7)) (T_api_Type.T.len _ _ _ (T_api_Type.T.mono _ _ _ _ Q281.S.up (T_api_Actor.u3_25 he7))) CsE.nil)) rfl
            refine O321.app 3 rfl rfl rfl ((O321.os 2 rfl).srcE rfl) (by decide) g37 fun A315 c316 h317 O318 => ?_
            refine ⟨_, _, _, rfl, ?_⟩
            refine ⟨_, ldAn (Sub.refl _) (O318.all 0 rfl) (T_api_Program.T.len _ _ _ e_1), ?_⟩
            refine ⟨Ext.refl _, ?_⟩
            have O328 := O318.nm
            obtain ⟨m329, u330, s335, ⟨⟨r333, k334⟩, _⟩, B331, C332⟩ := O328.lend0 [3]
            replace r333 : Rd 3 T_api_Type.E m329 A315 l36 := r333
            replace k334 : List.length l36 ≤ c316 := k334
            refine (kind_Types.walk (Hold.start (W := No) s335) (T_api_Program.T.mono _ _ _ _ (Q281.S.up.trans u330) e_1) rfl (by exact Nat.le_refl 0) Rd.nil rfl k334 r333 g46).mono ?_
            rintro _ h324 ⟨m325, Q326, rfl⟩
            have O336 := Hold.nm (C332 Q326 vfs_nil)
            refine ⟨_, rfl, ?_⟩
            exact (ih _ _ e) _ _ _ _ _ _ _ _ _ _ _ _ (O336.pick [0, 1]).nm (T_api_Program.T.mono _ _ _ _ Q281.S.up e_1) (T_api_Actor.T.mono _ _ _ _ Q281.S.up he7) rfl k_100 (r_100.sub T_api_Actor.T Q281.S.up)
  · cases e
    exact ⟨_, O.pick [], rfl⟩
set_option maxRecDepth 100000 in
theorem kind_Program.l3_k.step_j1 (go : (p : kind_Program.l3_k.Pt) → Option (Int × Int)) (ih : ∀ p r, go p = some r → kind_Program.l3_k.I p r) (y_1 : T_api_Program) (y_20 : T_api_Actor) (x_21 : Int) (a_100 : List T_api_Actor) (x_101 : Int) (x_102 : Int) (r : Int × Int) (e : kind_Program.l3_k.body go (.j1 y_1 y_20 x_21 a_100 x_101 x_102) = some r) : kind_Program.l3_k.I (.j1 y_1 y_20 x_21 a_100 x_101 x_102) r := by
  unfold kind_Program.l3_k.body at e
  intro W h0 m0 h m bk_1 cs_1 bk_20 cs_20 A_100 n_100 c_100 O e_1 e_20 ne_100 k_100 r_100
  subst ne_100
  refine f21.j1_in ?_
  unfold f21.j1T
  refine split_ne_e e (fun c1 e => ?_) (fun c1 e => ?_)
  · cases e
    exact ⟨_, O.pick [], rfl⟩
  · exact (ih _ _ e) _ _ _ _ _ _ _ _ _ _ _ _ (O.pick [0, 1]).nm e_1 e_20 rfl k_100 r_100
set_option maxRecDepth 100000 in
theorem kind_Program.l3_k.step_j0 (go : (p : kind_Program.l3_k.Pt) → Option (Int × Int)) (ih : ∀ p r, go p = some r → kind_Program.l3_k.I p r) (y_1 : T_api_Program) (y_20 : T_api_Actor) (a_100 : List T_api_Actor) (x_101 : Int) (x_102 : Int) (r : Int × Int) (e : kind_Program.l3_k.body go (.j0 y_1 y_20 a_100 x_101 x_102) = some r) : kind_Program.l3_k.I (.j0 y_1 y_20 a_100 x_101 x_102) r := by
  unfold kind_Program.l3_k.body at e
  intro W h0 m0 h m bk_1 cs_1 bk_20 cs_20 A_100 n_100 c_100 O e_1 e_20 ne_100 k_100 r_100
  subst ne_100
  refine f21.j0_in ?_
  unfold f21.j0T
  refine ⟨_, ldAn (Sub.refl _) (O.all 0 rfl) (T_api_Program.T.len _ _ _ e_1), ?_⟩
  refine ⟨_, ldAkn (Sub.refl _) (O.all 1 rfl) 6 8 (le_len (T_api_Actor.T.len _ _ _ e_20) (by decide)), ?_⟩
  obtain ⟨y1, g2, e⟩ := bind_e e
  refine (kind_body.walk (Hold.start (W := No) O.s) e_1 rfl (by exact Nat.le_refl 0) Rd.nil (T_api_Actor.u6_87 e_20) g2).mono ?_
  rintro _ h3 ⟨m4, Q5, rfl⟩
  have O7 := Hold.nm (O.retC Q5 vfs_nil)
  refine ⟨_, _, rfl, ?_⟩
  refine split_ne_e e (fun c8 e => ?_) (fun c8 e => ?_)
  · cases e
    exact ⟨_, O7.pick [], rfl⟩
  · exact (ih _ _ e) _ _ _ _ _ _ _ _ _ _ (O7.pick [0]).nm e_1 rfl k_100 r_100
theorem kind_Program.l3_k.all {p : kind_Program.l3_k.Pt} {r : (Int × Int)} (e : kind_Program.l3_k.go p = some r) : kind_Program.l3_k.I p r := fixF_ind (β := fun _ => (Int × Int)) kind_Program.l3_k.mono (I := kind_Program.l3_k.I) (fun go ih p r e => match p with
  | .l3 y_1 a_100 x_101 x_102 => kind_Program.l3_k.step_l3 go ih y_1 a_100 x_101 x_102 r e
  | .j1 y_1 y_20 x_21 a_100 x_101 x_102 => kind_Program.l3_k.step_j1 go ih y_1 y_20 x_21 a_100 x_101 x_102 r e
  | .j0 y_1 y_20 a_100 x_101 x_102 => kind_Program.l3_k.step_j0 go ih y_1 y_20 a_100 x_101 x_102 r e
  ) e
theorem kind_Program.l3.walk {W : Nat → Prop} {h0 m0 h m : Heap} {bk_1 : Nat} {cs_1 : List Value} {A_100 : Option Addr} {n_100 c_100 : Nat} {y_1 : T_api_Program} {a_100 : List T_api_Actor} {x_101 : Int} {x_102 : Int} (O : Hold W h0 m0 h m [rV bk_1 54 cs_1]) (e_1 : T_api_Program.E m y_1 cs_1) (ne_100 : n_100 = List.length a_100) (k_100 : List.length a_100 ≤ c_100) (r_100 : Rd 14 T_api_Actor.E m A_100 a_100) {r : Int × Int} (e : kind_Program.l3 y_1 a_100 x_101 x_102 = some r) : f21.l3 (kind_Program.post W h0 m0 r) (⟨bk_1, 0, none⟩ : Addr) A_100 n_100 c_100 x_101 x_102 h := kind_Program.l3_k.all (p := .l3 y_1 a_100 x_101 x_102) e W h0 m0 h m bk_1 cs_1 A_100 n_100 c_100 O e_1 ne_100 k_100 r_100
inductive kind_Program.l2_k.Pt where
  | l2 (y_1 : T_api_Program) (a_70 : List T_api_Impl) (x_71 : Int) (x_72 : Int)
noncomputable def kind_Program.l2_k.body (go : (p : kind_Program.l2_k.Pt) → Option (Int × Int)) : (p : kind_Program.l2_k.Pt) → Option (Int × Int)
  | .l2 y_1 a_70 x_71 x_72 => if x_72 < x_71 then (Option.bind (gi a_70 x_72) fun y1 => Option.bind (kind_funcs y_1 y1.Funcs ([] : List ByteArray)) fun y19 => if y19.1 = (0 : Int) then ((go (.l2 y_1 a_70 x_71 (IntKind.wrap .i64 (x_72 + (1 : Int)))))) else (some (y19.1, y19.2))) else (Option.bind (kind_funcs y_1 y_1.Funcs ([] : List ByteArray)) fun y32 => if y32.1 = (0 : Int) then ((kind_Program.l3 y_1 y_1.Actors (((List.length y_1.Actors) : Nat) : Int) (0 : Int))) else (some (y32.1, y32.2)))
theorem kind_Program.l2_k.mono : MonoF (β := fun _ => (Int × Int)) kind_Program.l2_k.body := fun f g hfg p => match p with
  | .l2 y_1 a_70 x_71 x_72 => LeO.ite (LeO.bind (LeO.refl _) fun y1 => LeO.bind (LeO.refl _) fun y19 => LeO.ite ((hfg _)) (LeO.refl _)) (LeO.bind (LeO.refl _) fun y32 => LeO.ite ((LeO.refl _)) (LeO.refl _))
noncomputable def kind_Program.l2_k.go (p : kind_Program.l2_k.Pt) : Option (Int × Int) := fixF (β := fun _ => (Int × Int)) kind_Program.l2_k.body p
noncomputable def kind_Program.l2 (y_1 : T_api_Program) (a_70 : List T_api_Impl) (x_71 : Int) (x_72 : Int) : Option (Int × Int) := kind_Program.l2_k.go (.l2 y_1 a_70 x_71 x_72)
theorem kind_Program.l2_eq (y_1 : T_api_Program) (a_70 : List T_api_Impl) (x_71 : Int) (x_72 : Int) : kind_Program.l2 y_1 a_70 x_71 x_72 = if x_72 < x_71 then (Option.bind (gi a_70 x_72) fun y1 => Option.bind (kind_funcs y_1 y1.Funcs ([] : List ByteArray)) fun y19 => if y19.1 = (0 : Int) then ((kind_Program.l2 y_1 a_70 x_71 (IntKind.wrap .i64 (x_72 + (1 : Int))))) else (some (y19.1, y19.2))) else (Option.bind (kind_funcs y_1 y_1.Funcs ([] : List ByteArray)) fun y32 => if y32.1 = (0 : Int) then ((kind_Program.l3 y_1 y_1.Actors (((List.length y_1.Actors) : Nat) : Int) (0 : Int))) else (some (y32.1, y32.2))) := fixF_eq kind_Program.l2_k.mono _
def kind_Program.l2_k.I : (p : kind_Program.l2_k.Pt) → (Int × Int) → Prop
  | .l2 y_1 a_70 x_71 x_72, r => ∀ (W : Nat → Prop) (h0 m0 h m : Heap) (bk_1 : Nat) (cs_1 : List Value) (A_70 : Option Addr) (n_70 c_70 : Nat) (O : Hold W h0 m0 h m [rV bk_1 54 cs_1]) (e_1 : T_api_Program.E m y_1 cs_1) (ne_70 : n_70 = List.length a_70) (k_70 : List.length a_70 ≤ c_70) (r_70 : Rd 3 T_api_Impl.E m A_70 a_70), f21.l2 (kind_Program.post W h0 m0 r) (⟨bk_1, 0, none⟩ : Addr) A_70 n_70 c_70 x_71 x_72 h
set_option maxHeartbeats 4000000 in
set_option maxRecDepth 100000 in
theorem kind_Program.l2_k.step_l2 (go : (p : kind_Program.l2_k.Pt) → Option (Int × Int)) (ih : ∀ p r, go p = some r → kind_Program.l2_k.I p r) (y_1 : T_api_Program) (a_70 : List T_api_Impl) (x_71 : Int) (x_72 : Int) (r : Int × Int) (e : kind_Program.l2_k.body go (.l2 y_1 a_70 x_71 x_72) = some r) : kind_Program.l2_k.I (.l2 y_1 a_70 x_71 x_72) r := by
  unfold kind_Program.l2_k.body at e
  intro W h0 m0 h m bk_1 cs_1 A_70 n_70 c_70 O e_1 ne_70 k_70 r_70
  subst ne_70
  refine f21.l2_in ?_
  unfold f21.l2T
  refine split_dec_e e (fun c45 e => ?_) (fun c45 e => ?_)
  · obtain ⟨y1, g2, e⟩ := bind_e e
    refine r_70.addr rfl g2 fun a3 cs4 ha5 hc6 he7 => ?_
    refine ⟨_, ldAn O.s hc6 rfl, ?_⟩
    refine O.new fun h8 x9 O10 => ?_
    refine ⟨_, rfl, (T_api_Impl.T.len _ _ _ he7), ?_⟩
    refine O10.stA 1 rfl (T_api_Impl.T.len _ _ _ he7) (T_api_Impl.T.flat _ _ _ he7) fun h12 O13 => ?_
    refine ⟨_, ldAn (Sub.refl _) (O13.all 0 rfl) (T_api_Program.T.len _ _ _ e_1), ?_⟩
    obtain ⟨A14, c15, q16, k17, r18⟩ := T_api_Impl.g2 he7
    refine ⟨_, ldk (k := 2) (Sub.refl _) (O13.all 1 rfl) q16, _, _, _, rfl, ?_⟩
    obtain ⟨y19, g20, e⟩ := bind_e e
    refine (kind_funcs.walk (Hold.start (W := No) O13.s) e_1 rfl k17 r18 rfl (by exact Nat.le_refl 0) Rd.nil g20).mono ?_
    rintro _ h21 ⟨m22, Q23, rfl⟩
    have O25 := Hold.nm (O13.retC Q23 vfs_nil)
    refine ⟨_, _, rfl, ?_⟩
    refine split_ne_e e (fun c26 e => ?_) (fun c26 e => ?_)
    · cases e
      exact ⟨_, O25.pick [], rfl⟩
    · exact (ih _ _ e) _ _ _ _ _ _ _ _ _ _ (O25.pick [0]).nm e_1 rfl k_70 r_70
  · refine ⟨_, ldAn (Sub.refl _) (O.all 0 rfl) (T_api_Program.T.len _ _ _ e_1), ?_⟩
    obtain ⟨A27, c28, q29, k30, r31⟩ := T_api_Program.g6 e_1
    refine ⟨_, ldk (k := 6) (Sub.refl _) (O.all 0 rfl) q29, _, _, _, rfl, ?_⟩
    obtain ⟨y32, g33, e⟩ := bind_e e
    refine (kind_funcs.walk (Hold.start (W := No) O.s) e_1 rfl k30 r31 rfl (by exact Nat.le_refl 0) Rd.nil g33).mono ?_
    rintro _ h34 ⟨m35, Q36, rfl⟩
    have O38 := Hold.nm (O.retC Q36 vfs_nil)
    refine ⟨_, _, rfl, ?_⟩
    refine split_ne_e e (fun c44 e => ?_) (fun c44 e => ?_)
    · cases e
      exact ⟨_, O38.pick [], rfl⟩
    · obtain ⟨A39, c40, q41, k42, r43⟩ := T_api_Program.g7 e_1
      refine ⟨_, ldk (k := 7) (Sub.refl _) (O38.all 0 rfl) q41, _, _, _, rfl, ?_⟩
      exact kind_Program.l3.walk (O38.pick [0]).nm e_1 rfl k42 r43 e
theorem kind_Program.l2_k.all {p : kind_Program.l2_k.Pt} {r : (Int × Int)} (e : kind_Program.l2_k.go p = some r) : kind_Program.l2_k.I p r := fixF_ind (β := fun _ => (Int × Int)) kind_Program.l2_k.mono (I := kind_Program.l2_k.I) (fun go ih p r e => match p with
  | .l2 y_1 a_70 x_71 x_72 => kind_Program.l2_k.step_l2 go ih y_1 a_70 x_71 x_72 r e
  ) e
theorem kind_Program.l2.walk {W : Nat → Prop} {h0 m0 h m : Heap} {bk_1 : Nat} {cs_1 : List Value} {A_70 : Option Addr} {n_70 c_70 : Nat} {y_1 : T_api_Program} {a_70 : List T_api_Impl} {x_71 : Int} {x_72 : Int} (O : Hold W h0 m0 h m [rV bk_1 54 cs_1]) (e_1 : T_api_Program.E m y_1 cs_1) (ne_70 : n_70 = List.length a_70) (k_70 : List.length a_70 ≤ c_70) (r_70 : Rd 3 T_api_Impl.E m A_70 a_70) {r : Int × Int} (e : kind_Program.l2 y_1 a_70 x_71 x_72 = some r) : f21.l2 (kind_Program.post W h0 m0 r) (⟨bk_1, 0, none⟩ : Addr) A_70 n_70 c_70 x_71 x_72 h := kind_Program.l2_k.all (p := .l2 y_1 a_70 x_71 x_72) e W h0 m0 h m bk_1 cs_1 A_70 n_70 c_70 O e_1 ne_70 k_70 r_70
inductive kind_Program.l1_k.Pt where
  | l1 (y_1 : T_api_Program) (a_50 : List T_api_Trait) (x_51 : Int) (x_52 : Int)
noncomputable def kind_Program.l1_k.body (go : (p : kind_Program.l1_k.Pt) → Option (Int × Int)) : (p : kind_Program.l1_k.Pt) → Option (Int × Int)
  | .l1 y_1 a_50 x_51 x_52 => if x_52 < x_51 then (Option.bind (gi a_50 x_52) fun y1 => Option.bind (kind_funcs y_1 y1.Funcs ([(ByteArray.mk #[115, 101, 108, 102])] : List ByteArray)) fun y24 => if y24.1 = (0 : Int) then ((go (.l1 y_1 a_50 x_51 (IntKind.wrap .i64 (x_52 + (1 : Int)))))) else (some (y24.1, y24.2))) else ((kind_Program.l2 y_1 y_1.Impls (((List.length y_1.Impls) : Nat) : Int) (0 : Int)))
theorem kind_Program.l1_k.mono : MonoF (β := fun _ => (Int × Int)) kind_Program.l1_k.body := fun f g hfg p => match p with
  | .l1 y_1 a_50 x_51 x_52 => LeO.ite (LeO.bind (LeO.refl _) fun y1 => LeO.bind (LeO.refl _) fun y24 => LeO.ite ((hfg _)) (LeO.refl _)) ((LeO.refl _))
noncomputable def kind_Program.l1_k.go (p : kind_Program.l1_k.Pt) : Option (Int × Int) := fixF (β := fun _ => (Int × Int)) kind_Program.l1_k.body p
noncomputable def kind_Program.l1 (y_1 : T_api_Program) (a_50 : List T_api_Trait) (x_51 : Int) (x_52 : Int) : Option (Int × Int) := kind_Program.l1_k.go (.l1 y_1 a_50 x_51 x_52)
theorem kind_Program.l1_eq (y_1 : T_api_Program) (a_50 : List T_api_Trait) (x_51 : Int) (x_52 : Int) : kind_Program.l1 y_1 a_50 x_51 x_52 = if x_52 < x_51 then (Option.bind (gi a_50 x_52) fun y1 => Option.bind (kind_funcs y_1 y1.Funcs ([(ByteArray.mk #[115, 101, 108, 102])] : List ByteArray)) fun y24 => if y24.1 = (0 : Int) then ((kind_Program.l1 y_1 a_50 x_51 (IntKind.wrap .i64 (x_52 + (1 : Int))))) else (some (y24.1, y24.2))) else ((kind_Program.l2 y_1 y_1.Impls (((List.length y_1.Impls) : Nat) : Int) (0 : Int))) := fixF_eq kind_Program.l1_k.mono _
def kind_Program.l1_k.I : (p : kind_Program.l1_k.Pt) → (Int × Int) → Prop
  | .l1 y_1 a_50 x_51 x_52, r => ∀ (W : Nat → Prop) (h0 m0 h m : Heap) (bk_1 : Nat) (cs_1 : List Value) (A_50 : Option Addr) (n_50 c_50 : Nat) (O : Hold W h0 m0 h m [rV bk_1 54 cs_1]) (e_1 : T_api_Program.E m y_1 cs_1) (ne_50 : n_50 = List.length a_50) (k_50 : List.length a_50 ≤ c_50) (r_50 : Rd 2 T_api_Trait.E m A_50 a_50), f21.l1 (kind_Program.post W h0 m0 r) (⟨bk_1, 0, none⟩ : Addr) A_50 n_50 c_50 x_51 x_52 h
set_option maxRecDepth 100000 in
theorem kind_Program.l1_k.step_l1 (go : (p : kind_Program.l1_k.Pt) → Option (Int × Int)) (ih : ∀ p r, go p = some r → kind_Program.l1_k.I p r) (y_1 : T_api_Program) (a_50 : List T_api_Trait) (x_51 : Int) (x_52 : Int) (r : Int × Int) (e : kind_Program.l1_k.body go (.l1 y_1 a_50 x_51 x_52) = some r) : kind_Program.l1_k.I (.l1 y_1 a_50 x_51 x_52) r := by
  unfold kind_Program.l1_k.body at e
  intro W h0 m0 h m bk_1 cs_1 A_50 n_50 c_50 O e_1 ne_50 k_50 r_50
  subst ne_50
  refine f21.l1_in ?_
  unfold f21.l1T
  refine split_dec_e e (fun c45 e => ?_) (fun c45 e => ?_)
  · obtain ⟨y1, g2, e⟩ := bind_e e
    refine r_50.addr rfl g2 fun a3 cs4 ha5 hc6 he7 => ?_
    refine ⟨_, ldAn O.s hc6 rfl, ?_⟩
    refine O.new fun h8 x9 O10 => ?_
    refine ⟨_, rfl, (T_api_Trait.T.len _ _ _ he7), ?_⟩
    refine O10.stA 1 rfl (T_api_Trait.T.len _ _ _ he7) (T_api_Trait.T.flat _ _ _ he7) fun h12 O13 => ?_
    refine ⟨_, ldAn (Sub.refl _) (O13.all 0 rfl) (T_api_Program.T.len _ _ _ e_1), ?_⟩
    obtain ⟨A14, c15, q16, k17, r18⟩ := T_api_Trait.g1 he7
    refine ⟨_, ldk (k := 1) (Sub.refl _) (O13.all 1 rfl) q16, _, _, _, rfl, ?_⟩
    refine O13.new fun h19 x20 O21 => ?_
    obtain ⟨y24, g25, e⟩ := bind_e e
    have O23 := O21.rowE (l := ([(ByteArray.mk #[115, 101, 108, 102])] : List ByteArray)) 2 rfl tell_str (show CsE _ _ _ _ _ from (CsE.cons (c1 := [(Value.string (ByteArray.mk #[115, 101, 108, 102]))]) rfl rfl CsE.nil)) rfl
    have O30 := O23.nm
    obtain ⟨m31, u32, s37, ⟨⟨r35, k36⟩, _⟩, B33, C34⟩ := O30.lend0 [2]
    replace r35 : Rd 1 eStr m31 (some ⟨(Array.size h12), 0, none⟩) ([(ByteArray.mk #[115, 101, 108, 102])] : List ByteArray) := r35
    replace k36 : List.length ([(ByteArray.mk #[115, 101, 108, 102])] : List ByteArray) ≤ 1 := k36
    refine (kind_funcs.walk (Hold.start (W := No) s37) (T_api_Program.T.mono _ _ _ _ u32 e_1) rfl k17 (r18.sub T_api_Func.T u32) rfl k36 r35 g25).mono ?_
    rintro _ h26 ⟨m27, Q28, rfl⟩
    have O38 := Hold.nm (C34 Q28 vfs_nil)
    refine ⟨_, _, rfl, ?_⟩
    refine split_ne_e e (fun c39 e => ?_) (fun c39 e => ?_)
    · cases e
      exact ⟨_, O38.pick [], rfl⟩
    · exact (ih _ _ e) _ _ _ _ _ _ _ _ _ _ (O38.pick [0]).nm e_1 rfl k_50 r_50
  · obtain ⟨A40, c41, q42, k43, r44⟩ := T_api_Program.g5 e_1
    refine ⟨_, ldk (k := 5) (Sub.refl _) (O.all 0 rfl) q42, _, _, _, rfl, ?_⟩
    exact kind_Program.l2.walk (O.pick [0]).nm e_1 rfl k43 r44 e
theorem kind_Program.l1_k.all {p : kind_Program.l1_k.Pt} {r : (Int × Int)} (e : kind_Program.l1_k.go p = some r) : kind_Program.l1_k.I p r := fixF_ind (β := fun _ => (Int × Int)) kind_Program.l1_k.mono (I := kind_Program.l1_k.I) (fun go ih p r e => match p with
  | .l1 y_1 a_50 x_51 x_52 => kind_Program.l1_k.step_l1 go ih y_1 a_50 x_51 x_52 r e
  ) e
theorem kind_Program.l1.walk {W : Nat → Prop} {h0 m0 h m : Heap} {bk_1 : Nat} {cs_1 : List Value} {A_50 : Option Addr} {n_50 c_50 : Nat} {y_1 : T_api_Program} {a_50 : List T_api_Trait} {x_51 : Int} {x_52 : Int} (O : Hold W h0 m0 h m [rV bk_1 54 cs_1]) (e_1 : T_api_Program.E m y_1 cs_1) (ne_50 : n_50 = List.length a_50) (k_50 : List.length a_50 ≤ c_50) (r_50 : Rd 2 T_api_Trait.E m A_50 a_50) {r : Int × Int} (e : kind_Program.l1 y_1 a_50 x_51 x_52 = some r) : f21.l1 (kind_Program.post W h0 m0 r) (⟨bk_1, 0, none⟩ : Addr) A_50 n_50 c_50 x_51 x_52 h := kind_Program.l1_k.all (p := .l1 y_1 a_50 x_51 x_52) e W h0 m0 h m bk_1 cs_1 A_50 n_50 c_50 O e_1 ne_50 k_50 r_50
inductive kind_Program.l0_k.Pt where
  | l0 (y_1 : T_api_Program) (a_25 : List T_api_Data) (x_26 : Int) (x_27 : Int)
  | l4 (y_1 : T_api_Program) (y_5 : T_api_Data) (a_25 : List T_api_Data) (x_26 : Int) (x_27 : Int) (a_32 : List T_api_Make) (x_33 : Int) (x_34 : Int)
noncomputable def kind_Program.l0_k.body (go : (p : kind_Program.l0_k.Pt) → Option (Int × Int)) : (p : kind_Program.l0_k.Pt) → Option (Int × Int)
  | .l0 y_1 a_25 x_26 x_27 => if x_27 < x_26 then (Option.bind (gi a_25 x_27) fun y1 => (go (.l4 y_1 y1 a_25 x_26 x_27 y1.Makes (((List.length y1.Makes) : Nat) : Int) (0 : Int)))) else ((kind_Program.l1 y_1 y_1.Traits (((List.length y_1.Traits) : Nat) : Int) (0 : Int)))
  | .l4 y_1 y_5 a_25 x_26 x_27 a_32 x_33 x_34 => if x_34 < x_33 then (Option.bind (gi a_32 x_34) fun y1 => Option.bind (kind_Types y_1 y_5.Params y1.Args) fun y24 => if y24 = (0 : Int) then ((go (.l4 y_1 y_5 a_25 x_26 x_27 a_32 x_33 (IntKind.wrap .i64 (x_34 + (1 : Int)))))) else (some (y24, (0 : Int)))) else ((go (.l0 y_1 a_25 x_26 (IntKind.wrap .i64 (x_27 + (1 : Int))))))
theorem kind_Program.l0_k.mono : MonoF (β := fun _ => (Int × Int)) kind_Program.l0_k.body := fun f g hfg p => match p with
  | .l0 y_1 a_25 x_26 x_27 => LeO.ite (LeO.bind (LeO.refl _) fun y1 => (hfg _)) ((LeO.refl _))
  | .l4 y_1 y_5 a_25 x_26 x_27 a_32 x_33 x_34 => LeO.ite (LeO.bind (LeO.refl _) fun y1 => LeO.bind (LeO.refl _) fun y24 => LeO.ite ((hfg _)) (LeO.refl _)) ((hfg _))
noncomputable def kind_Program.l0_k.go (p : kind_Program.l0_k.Pt) : Option (Int × Int) := fixF (β := fun _ => (Int × Int)) kind_Program.l0_k.body p
noncomputable def kind_Program.l0 (y_1 : T_api_Program) (a_25 : List T_api_Data) (x_26 : Int) (x_27 : Int) : Option (Int × Int) := kind_Program.l0_k.go (.l0 y_1 a_25 x_26 x_27)
noncomputable def kind_Program.l4 (y_1 : T_api_Program) (y_5 : T_api_Data) (a_25 : List T_api_Data) (x_26 : Int) (x_27 : Int) (a_32 : List T_api_Make) (x_33 : Int) (x_34 : Int) : Option (Int × Int) := kind_Program.l0_k.go (.l4 y_1 y_5 a_25 x_26 x_27 a_32 x_33 x_34)
theorem kind_Program.l0_eq (y_1 : T_api_Program) (a_25 : List T_api_Data) (x_26 : Int) (x_27 : Int) : kind_Program.l0 y_1 a_25 x_26 x_27 = if x_27 < x_26 then (Option.bind (gi a_25 x_27) fun y1 => (kind_Program.l4 y_1 y1 a_25 x_26 x_27 y1.Makes (((List.length y1.Makes) : Nat) : Int) (0 : Int))) else ((kind_Program.l1 y_1 y_1.Traits (((List.length y_1.Traits) : Nat) : Int) (0 : Int))) := fixF_eq kind_Program.l0_k.mono _
theorem kind_Program.l4_eq (y_1 : T_api_Program) (y_5 : T_api_Data) (a_25 : List T_api_Data) (x_26 : Int) (x_27 : Int) (a_32 : List T_api_Make) (x_33 : Int) (x_34 : Int) : kind_Program.l4 y_1 y_5 a_25 x_26 x_27 a_32 x_33 x_34 = if x_34 < x_33 then (Option.bind (gi a_32 x_34) fun y1 => Option.bind (kind_Types y_1 y_5.Params y1.Args) fun y24 => if y24 = (0 : Int) then ((kind_Program.l4 y_1 y_5 a_25 x_26 x_27 a_32 x_33 (IntKind.wrap .i64 (x_34 + (1 : Int))))) else (some (y24, (0 : Int)))) else ((kind_Program.l0 y_1 a_25 x_26 (IntKind.wrap .i64 (x_27 + (1 : Int))))) := fixF_eq kind_Program.l0_k.mono _
def kind_Program.l0_k.I : (p : kind_Program.l0_k.Pt) → (Int × Int) → Prop
  | .l0 y_1 a_25 x_26 x_27, r => ∀ (W : Nat → Prop) (h0 m0 h m : Heap) (bk_1 : Nat) (cs_1 : List Value) (A_25 : Option Addr) (n_25 c_25 : Nat) (O : Hold W h0 m0 h m [rV bk_1 54 cs_1]) (e_1 : T_api_Program.E m y_1 cs_1) (ne_25 : n_25 = List.length a_25) (k_25 : List.length a_25 ≤ c_25) (r_25 : Rd 3 T_api_Data.E m A_25 a_25), f21.l0 (kind_Program.post W h0 m0 r) (⟨bk_1, 0, none⟩ : Addr) A_25 n_25 c_25 x_26 x_27 h
  | .l4 y_1 y_5 a_25 x_26 x_27 a_32 x_33 x_34, r => ∀ (W : Nat → Prop) (h0 m0 h m : Heap) (bk_1 : Nat) (cs_1 : List Value) (bk_5 : Nat) (cs_5 : List Value) (A_25 : Option Addr) (n_25 c_25 : Nat) (A_32 : Option Addr) (n_32 c_32 : Nat) (O : Hold W h0 m0 h m [rV bk_1 54 cs_1, rV bk_5 63 cs_5]) (e_1 : T_api_Program.E m y_1 cs_1) (e_5 : T_api_Data.E m y_5 cs_5) (ne_25 : n_25 = List.length a_25) (k_25 : List.length a_25 ≤ c_25) (r_25 : Rd 3 T_api_Data.E m A_25 a_25) (ne_32 : n_32 = List.length a_32) (k_32 : List.length a_32 ≤ c_32) (r_32 : Rd 2 T_api_Make.E m A_32 a_32), f21.l4 (kind_Program.post W h0 m0 r) (⟨bk_1, 0, none⟩ : Addr) (⟨bk_5, 0, none⟩ : Addr) A_25 n_25 c_25 x_26 x_27 A_32 n_32 c_32 x_33 x_34 h
set_option maxRecDepth 100000 in
theorem kind_Program.l0_k.step_l0 (go : (p : kind_Program.l0_k.Pt) → Option (Int × Int)) (ih : ∀ p r, go p = some r → kind_Program.l0_k.I p r) (y_1 : T_api_Program) (a_25 : List T_api_Data) (x_26 : Int) (x_27 : Int) (r : Int × Int) (e : kind_Program.l0_k.body go (.l0 y_1 a_25 x_26 x_27) = some r) : kind_Program.l0_k.I (.l0 y_1 a_25 x_26 x_27) r := by
  unfold kind_Program.l0_k.body at e
  intro W h0 m0 h m bk_1 cs_1 A_25 n_25 c_25 O e_1 ne_25 k_25 r_25
  subst ne_25
  refine f21.l0_in ?_
  unfold f21.l0T
  refine split_dec_e e (fun c25 e => ?_) (fun c25 e => ?_)
  · obtain ⟨y1, g2, e⟩ := bind_e e
    refine r_25.addr rfl g2 fun a3 cs4 ha5 hc6 he7 => ?_
    refine ⟨_, ldAn O.s hc6 rfl, ?_⟩
    refine O.new fun h8 x9 O10 => ?_
    refine ⟨_, rfl, (T_api_Data.T.len _ _ _ he7), ?_⟩
    refine O10.stA 1 rfl (T_api_Data.T.len _ _ _ he7) (T_api_Data.T.flat _ _ _ he7) fun h12 O13 => ?_
    obtain ⟨A14, c15, q16, k17, r18⟩ := T_api_Data.g2 he7
    refine ⟨_, ldk (k := 2) (Sub.refl _) (O13.all 1 rfl) q16, _, _, _, rfl, ?_⟩
    have O19 := O13.nm
    exact (ih _ _ e) _ _ _ _ _ _ _ _ _ _ _ _ _ _ _ (O19.pick [0, 1]).nm e_1 he7 rfl k_25 r_25 rfl k17 r18
  · obtain ⟨A20, c21, q22, k23, r24⟩ := T_api_Program.g4 e_1
    refine ⟨_, ldk (k := 4) (Sub.refl _) (O.all 0 rfl) q22, _, _, _, rfl, ?_⟩
    exact kind_Program.l1.walk (O.pick [0]).nm e_1 rfl k23 r24 e
set_option maxRecDepth 100000 in
theorem kind_Program.l0_k.step_l4 (go : (p : kind_Program.l0_k.Pt) → Option (Int × Int)) (ih : ∀ p r, go p = some r → kind_Program.l0_k.I p r) (y_1 : T_api_Program) (y_5 : T_api_Data) (a_25 : List T_api_Data) (x_26 : Int) (x_27 : Int) (a_32 : List T_api_Make) (x_33 : Int) (x_34 : Int) (r : Int × Int) (e : kind_Program.l0_k.body go (.l4 y_1 y_5 a_25 x_26 x_27 a_32 x_33 x_34) = some r) : kind_Program.l0_k.I (.l4 y_1 y_5 a_25 x_26 x_27 a_32 x_33 x_34) r := by
  unfold kind_Program.l0_k.body at e
  intro W h0 m0 h m bk_1 cs_1 bk_5 cs_5 A_25 n_25 c_25 A_32 n_32 c_32 O e_1 e_5 ne_25 k_25 r_25 ne_32 k_32 r_32
  subst ne_25
  subst ne_32
  refine f21.l4_in ?_
  unfold f21.l4T
  refine split_dec_e e (fun c32 e => ?_) (fun c32 e => ?_)
  · obtain ⟨y1, g2, e⟩ := bind_e e
    refine r_32.addr rfl g2 fun a3 cs4 ha5 hc6 he7 => ?_
    refine ⟨_, ldAn O.s hc6 rfl, ?_⟩
    refine O.new fun h8 x9 O10 => ?_
    refine ⟨_, rfl, (T_api_Make.T.len _ _ _ he7), ?_⟩
    refine O10.stA 2 rfl (T_api_Make.T.len _ _ _ he7) (T_api_Make.T.flat _ _ _ he7) fun h12 O13 => ?_
    refine ⟨_, ldAn (Sub.refl _) (O13.all 0 rfl) (T_api_Program.T.len _ _ _ e_1), ?_⟩
    obtain ⟨A14, c15, q16, k17, r18⟩ := T_api_Data.g1 e_5
    refine ⟨_, ldk (k := 1) (Sub.refl _) (O13.all 1 rfl) q16, _, _, _, rfl, ?_⟩
    obtain ⟨A19, c20, q21, k22, r23⟩ := T_api_Make.g1 he7
    refine ⟨_, ldk (k := 1) (Sub.refl _) (O13.all 2 rfl) q21, _, _, _, rfl, ?_⟩
    obtain ⟨y24, g25, e⟩ := bind_e e
    refine (kind_Types.walk (Hold.start (W := No) O13.s) e_1 rfl k17 r18 rfl k22 r23 g25).mono ?_
    rintro _ h26 ⟨m27, Q28, rfl⟩
    have O30 := Hold.nm (O13.retC Q28 vfs_nil)
    refine ⟨_, rfl, ?_⟩
    refine split_ne_e e (fun c31 e => ?_) (fun c31 e => ?_)
    · cases e
      exact ⟨_, O30.pick [], rfl⟩
    · exact (ih _ _ e) _ _ _ _ _ _ _ _ _ _ _ _ _ _ _ (O30.pick [0, 1]).nm e_1 e_5 rfl k_25 r_25 rfl k_32 r_32
  · exact (ih _ _ e) _ _ _ _ _ _ _ _ _ _ (O.pick [0]).nm e_1 rfl k_25 r_25
theorem kind_Program.l0_k.all {p : kind_Program.l0_k.Pt} {r : (Int × Int)} (e : kind_Program.l0_k.go p = some r) : kind_Program.l0_k.I p r := fixF_ind (β := fun _ => (Int × Int)) kind_Program.l0_k.mono (I := kind_Program.l0_k.I) (fun go ih p r e => match p with
  | .l0 y_1 a_25 x_26 x_27 => kind_Program.l0_k.step_l0 go ih y_1 a_25 x_26 x_27 r e
  | .l4 y_1 y_5 a_25 x_26 x_27 a_32 x_33 x_34 => kind_Program.l0_k.step_l4 go ih y_1 y_5 a_25 x_26 x_27 a_32 x_33 x_34 r e
  ) e
theorem kind_Program.l0.walk {W : Nat → Prop} {h0 m0 h m : Heap} {bk_1 : Nat} {cs_1 : List Value} {A_25 : Option Addr} {n_25 c_25 : Nat} {y_1 : T_api_Program} {a_25 : List T_api_Data} {x_26 : Int} {x_27 : Int} (O : Hold W h0 m0 h m [rV bk_1 54 cs_1]) (e_1 : T_api_Program.E m y_1 cs_1) (ne_25 : n_25 = List.length a_25) (k_25 : List.length a_25 ≤ c_25) (r_25 : Rd 3 T_api_Data.E m A_25 a_25) {r : Int × Int} (e : kind_Program.l0 y_1 a_25 x_26 x_27 = some r) : f21.l0 (kind_Program.post W h0 m0 r) (⟨bk_1, 0, none⟩ : Addr) A_25 n_25 c_25 x_26 x_27 h := kind_Program.l0_k.all (p := .l0 y_1 a_25 x_26 x_27) e W h0 m0 h m bk_1 cs_1 A_25 n_25 c_25 O e_1 ne_25 k_25 r_25
noncomputable def kind_Program (y_0 : T_api_Program) : Option (Int × Int) :=
  (kind_Program.l0 y_0 y_0.Datas (((List.length y_0.Datas) : Nat) : Int) (0 : Int))
set_option maxRecDepth 100000 in
theorem kind_Program.walk {W : Nat → Prop} {h m : Heap} {cs_0 : List Value} {y_0 : T_api_Program} (O : Hold W h m h m []) (e_0 : T_api_Program.E m y_0 cs_0) {r : Int × Int} (e : kind_Program y_0 = some r) : Run Tryd.prog 21 #[Value.agg cs_0.toArray] h (kind_Program.post W h m r) := by
  unfold kind_Program at e
  refine f21.run ?_
  unfold f21.runT
  refine O.new fun h1 x2 O3 => ?_
  obtain ⟨A5, c6, q7, k8, r9⟩ := T_api_Program.g3 e_0
  refine ⟨_, ldk (k := 3) (Sub.refl _) (O3.all 0 rfl) q7, _, _, _, rfl, ?_⟩
  have O10 := O3.nm
  exact kind_Program.l0.walk (O10.pick [0]).nm e_0 rfl k8 r9 e
def slices_Grow_48.post (W : Nat → Prop) (h0 m0 : Heap) (r : (List T_api_Type)) (v : Value) (h : Heap) : Prop := ∃ m A0 n0 c0, Hold W h0 m0 h m [rR (aE T_api_Type.T) A0 c0 r] ∧ v = .slice A0 n0 c0 ∧ n0 = List.length r
noncomputable def slices_Grow_48 (x1 : Int) : Option (List T_api_Type) := if gro 48 x1 = true then some [] else none
set_option maxRecDepth 100000 in
theorem slices_Grow_48.walk {W : Nat → Prop} {h m : Heap} {x1 : Int} (O : Hold W h m h m []) {r : List T_api_Type} (e : slices_Grow_48 x1 = some r) : Run Tryd.prog 48 #[Value.slice none 0 0, Value.int .i64 x1] h (slices_Grow_48.post W h m r) := by
  unfold slices_Grow_48 at e
  have S : St No h m h m := .refl O.s
  obtain ⟨g, e⟩ := guard_e e
  cases e
  refine f48.run ?_
  unfold f48.runT
  refine split_dec (fun c => absurd c (by have := of_decide_eq_true (show decide _ = true from g); omega)) (fun _ => ?_)
  refine f48.j0_in ?_
  unfold f48.j0T
  exact grow_nil S rfl (by decide) g (fun A' c' h' o' x' => ⟨m, _, _, _, O.add (R := rR (aE T_api_Type.T) A' c' []) (St.of_ext O.s x') o'.rowP o'.newNo, rfl, rfl⟩)
def slices_Concat_31.post (W : Nat → Prop) (h0 m0 : Heap) (r : (List T_api_Type)) (v : Value) (h : Heap) : Prop := ∃ m A0 n0 c0, Hold W h0 m0 h m [rR (aE T_api_Type.T) A0 c0 r] ∧ v = .slice A0 n0 c0 ∧ n0 = List.length r
inductive slices_Concat_31.l1_k.Pt where
  | l1 (a_6 : List T_api_Type) (a_25 : List (List T_api_Type)) (x_26 : Int) (x_27 : Int)
noncomputable def slices_Concat_31.l1_k.body (go : (p : slices_Concat_31.l1_k.Pt) → Option ((List T_api_Type))) : (p : slices_Concat_31.l1_k.Pt) → Option ((List T_api_Type))
  | .l1 a_6 a_25 x_26 x_27 => if x_27 < x_26 then (Option.bind (gi a_25 x_27) fun y1 => Option.bind (ap 48 a_6 y1) fun l8 => (go (.l1 l8 a_25 x_26 (IntKind.wrap .i64 (x_27 + (1 : Int)))))) else (some (a_6))
theorem slices_Concat_31.l1_k.mono : MonoF (β := fun _ => ((List T_api_Type))) slices_Concat_31.l1_k.body := fun f g hfg p => match p with
  | .l1 a_6 a_25 x_26 x_27 => LeO.ite (LeO.bind (LeO.refl _) fun y1 => LeO.bind (LeO.refl _) fun l8 => (hfg _)) (LeO.refl _)
noncomputable def slices_Concat_31.l1_k.go (p : slices_Concat_31.l1_k.Pt) : Option ((List T_api_Type)) := fixF (β := fun _ => ((List T_api_Type))) slices_Concat_31.l1_k.body p
noncomputable def slices_Concat_31.l1 (a_6 : List T_api_Type) (a_25 : List (List T_api_Type)) (x_26 : Int) (x_27 : Int) : Option ((List T_api_Type)) := slices_Concat_31.l1_k.go (.l1 a_6 a_25 x_26 x_27)
theorem slices_Concat_31.l1_eq (a_6 : List T_api_Type) (a_25 : List (List T_api_Type)) (x_26 : Int) (x_27 : Int) : slices_Concat_31.l1 a_6 a_25 x_26 x_27 = if x_27 < x_26 then (Option.bind (gi a_25 x_27) fun y1 => Option.bind (ap 48 a_6 y1) fun l8 => (slices_Concat_31.l1 l8 a_25 x_26 (IntKind.wrap .i64 (x_27 + (1 : Int))))) else (some (a_6)) := fixF_eq slices_Concat_31.l1_k.mono _
def slices_Concat_31.l1_k.I : (p : slices_Concat_31.l1_k.Pt) → ((List T_api_Type)) → Prop
  | .l1 a_6 a_25 x_26 x_27, r => ∀ (W : Nat → Prop) (h0 m0 h m : Heap) (A_6 : Option Addr) (n_6 c_6 : Nat) (A_25 : Option Addr) (n_25 c_25 : Nat) (O : Hold W h0 m0 h m [rR (aE T_api_Type.T) A_6 c_6 a_6]) (ne_6 : n_6 = List.length a_6) (ne_25 : n_25 = List.length a_25) (k_25 : List.length a_25 ≤ c_25) (r_25 : Rd 1 (eRow 3 T_api_Type.E) m A_25 a_25), f31.l1 (slices_Concat_31.post W h0 m0 r) A_6 n_6 c_6 A_25 n_25 c_25 x_26 x_27 h
set_option maxRecDepth 100000 in
theorem slices_Concat_31.l1_k.step_l1 (go : (p : slices_Concat_31.l1_k.Pt) → Option ((List T_api_Type))) (ih : ∀ p r, go p = some r → slices_Concat_31.l1_k.I p r) (a_6 : List T_api_Type) (a_25 : List (List T_api_Type)) (x_26 : Int) (x_27 : Int) (r : (List T_api_Type)) (e : slices_Concat_31.l1_k.body go (.l1 a_6 a_25 x_26 x_27) = some r) : slices_Concat_31.l1_k.I (.l1 a_6 a_25 x_26 x_27) r := by
  unfold slices_Concat_31.l1_k.body at e
  intro W h0 m0 h m A_6 n_6 c_6 A_25 n_25 c_25 O ne_6 ne_25 k_25 r_25
  subst ne_6
  subst ne_25
  refine f31.l1_in ?_
  unfold f31.l1T
  refine split_dec_e e (fun c17 e => ?_) (fun c17 e => ?_)
  · obtain ⟨y1, g2, e⟩ := bind_e e
    refine r_25.addr rfl g2 fun a3 cs4 ha5 hc6 he7 => ?_
    obtain ⟨Acs4_0, ccs4_0, rfl, kcs4_0, rcs4_0⟩ := id he7
    refine ⟨_, ld0 O.s hc6 rfl, _, _, _, rfl, ?_⟩
    obtain ⟨l8, g9, e⟩ := bind_e e
    refine O.app 0 rfl rfl rfl (Rd.srcE rcs4_0 T_api_Type.T O.s rfl) (by decide) g9 fun A10 c11 h12 O13 => ?_
    refine ⟨_, _, _, rfl, ?_⟩
    have O16 := O13.nm
    exact (ih _ _ e) _ _ _ _ _ _ _ _ _ _ _ (O16.pick [0]).nm rfl rfl k_25 r_25
  · cases e
    exact ⟨_, _, _, _, O.pick [0], rfl, rfl⟩
theorem slices_Concat_31.l1_k.all {p : slices_Concat_31.l1_k.Pt} {r : ((List T_api_Type))} (e : slices_Concat_31.l1_k.go p = some r) : slices_Concat_31.l1_k.I p r := fixF_ind (β := fun _ => ((List T_api_Type))) slices_Concat_31.l1_k.mono (I := slices_Concat_31.l1_k.I) (fun go ih p r e => match p with
  | .l1 a_6 a_25 x_26 x_27 => slices_Concat_31.l1_k.step_l1 go ih a_6 a_25 x_26 x_27 r e
  ) e
theorem slices_Concat_31.l1.walk {W : Nat → Prop} {h0 m0 h m : Heap} {A_6 : Option Addr} {n_6 c_6 : Nat} {A_25 : Option Addr} {n_25 c_25 : Nat} {a_6 : List T_api_Type} {a_25 : List (List T_api_Type)} {x_26 : Int} {x_27 : Int} (O : Hold W h0 m0 h m [rR (aE T_api_Type.T) A_6 c_6 a_6]) (ne_6 : n_6 = List.length a_6) (ne_25 : n_25 = List.length a_25) (k_25 : List.length a_25 ≤ c_25) (r_25 : Rd 1 (eRow 3 T_api_Type.E) m A_25 a_25) {r : (List T_api_Type)} (e : slices_Concat_31.l1 a_6 a_25 x_26 x_27 = some r) : f31.l1 (slices_Concat_31.post W h0 m0 r) A_6 n_6 c_6 A_25 n_25 c_25 x_26 x_27 h := slices_Concat_31.l1_k.all (p := .l1 a_6 a_25 x_26 x_27) e W h0 m0 h m A_6 n_6 c_6 A_25 n_25 c_25 O ne_6 ne_25 k_25 r_25
inductive slices_Concat_31.l0_k.Pt where
  | l0 (a_0 : List (List T_api_Type)) (x_3 : Int) (a_9 : List (List T_api_Type)) (x_10 : Int) (x_11 : Int)
noncomputable def slices_Concat_31.l0_k.body (go : (p : slices_Concat_31.l0_k.Pt) → Option ((List T_api_Type))) : (p : slices_Concat_31.l0_k.Pt) → Option ((List T_api_Type))
  | .l0 a_0 x_3 a_9 x_10 x_11 => if x_11 < x_10 then (Option.bind (gi a_9 x_11) fun y1 => if (IntKind.wrap .i64 (x_3 + (((List.length y1) : Nat) : Int))) < (0 : Int) then ((none : Option _)) else ((go (.l0 a_0 (IntKind.wrap .i64 (x_3 + (((List.length y1) : Nat) : Int))) a_9 x_10 (IntKind.wrap .i64 (x_11 + (1 : Int))))))) else (Option.bind (slices_Grow_48 x_3) fun y9 => (slices_Concat_31.l1 y9 a_0 (((List.length a_0) : Nat) : Int) (0 : Int)))
theorem slices_Concat_31.l0_k.mono : MonoF (β := fun _ => ((List T_api_Type))) slices_Concat_31.l0_k.body := fun f g hfg p => match p with
  | .l0 a_0 x_3 a_9 x_10 x_11 => LeO.ite (LeO.bind (LeO.refl _) fun y1 => LeO.ite (LeO.refl _) ((hfg _))) (LeO.bind (LeO.refl _) fun y9 => (LeO.refl _))
noncomputable def slices_Concat_31.l0_k.go (p : slices_Concat_31.l0_k.Pt) : Option ((List T_api_Type)) := fixF (β := fun _ => ((List T_api_Type))) slices_Concat_31.l0_k.body p
noncomputable def slices_Concat_31.l0 (a_0 : List (List T_api_Type)) (x_3 : Int) (a_9 : List (List T_api_Type)) (x_10 : Int) (x_11 : Int) : Option ((List T_api_Type)) := slices_Concat_31.l0_k.go (.l0 a_0 x_3 a_9 x_10 x_11)
theorem slices_Concat_31.l0_eq (a_0 : List (List T_api_Type)) (x_3 : Int) (a_9 : List (List T_api_Type)) (x_10 : Int) (x_11 : Int) : slices_Concat_31.l0 a_0 x_3 a_9 x_10 x_11 = if x_11 < x_10 then (Option.bind (gi a_9 x_11) fun y1 => if (IntKind.wrap .i64 (x_3 + (((List.length y1) : Nat) : Int))) < (0 : Int) then ((none : Option _)) else ((slices_Concat_31.l0 a_0 (IntKind.wrap .i64 (x_3 + (((List.length y1) : Nat) : Int))) a_9 x_10 (IntKind.wrap .i64 (x_11 + (1 : Int)))))) else (Option.bind (slices_Grow_48 x_3) fun y9 => (slices_Concat_31.l1 y9 a_0 (((List.length a_0) : Nat) : Int) (0 : Int))) := fixF_eq slices_Concat_31.l0_k.mono _
def slices_Concat_31.l0_k.I : (p : slices_Concat_31.l0_k.Pt) → ((List T_api_Type)) → Prop
  | .l0 a_0 x_3 a_9 x_10 x_11, r => ∀ (W : Nat → Prop) (h0 m0 h m : Heap) (A_0 : Option Addr) (n_0 c_0 : Nat) (A_9 : Option Addr) (n_9 c_9 : Nat) (O : Hold W h0 m0 h m []) (ne_0 : n_0 = List.length a_0) (k_0 : List.length a_0 ≤ c_0) (r_0 : Rd 1 (eRow 3 T_api_Type.E) m A_0 a_0) (ne_9 : n_9 = List.length a_9) (k_9 : List.length a_9 ≤ c_9) (r_9 : Rd 1 (eRow 3 T_api_Type.E) m A_9 a_9), f31.l0 (slices_Concat_31.post W h0 m0 r) A_0 n_0 c_0 x_3 A_9 n_9 c_9 x_10 x_11 h
set_option maxRecDepth 100000 in
theorem slices_Concat_31.l0_k.step_l0 (go : (p : slices_Concat_31.l0_k.Pt) → Option ((List T_api_Type))) (ih : ∀ p r, go p = some r → slices_Concat_31.l0_k.I p r) (a_0 : List (List T_api_Type)) (x_3 : Int) (a_9 : List (List T_api_Type)) (x_10 : Int) (x_11 : Int) (r : (List T_api_Type)) (e : slices_Concat_31.l0_k.body go (.l0 a_0 x_3 a_9 x_10 x_11) = some r) : slices_Concat_31.l0_k.I (.l0 a_0 x_3 a_9 x_10 x_11) r := by
  unfold slices_Concat_31.l0_k.body at e
  intro W h0 m0 h m A_0 n_0 c_0 A_9 n_9 c_9 O ne_0 k_0 r_0 ne_9 k_9 r_9
  subst ne_0
  subst ne_9
  refine f31.l0_in ?_
  unfold f31.l0T
  refine split_dec_e e (fun c21 e => ?_) (fun c21 e => ?_)
  · obtain ⟨y1, g2, e⟩ := bind_e e
    refine r_9.addr rfl g2 fun a3 cs4 ha5 hc6 he7 => ?_
    obtain ⟨Acs4_0, ccs4_0, rfl, kcs4_0, rcs4_0⟩ := id he7
    refine ⟨_, ld0 O.s hc6 rfl, _, _, _, rfl, ?_⟩
    refine split_dec_e e (fun c8 e => ?_) (fun c8 e => ?_)
    · cases e
    · exact (ih _ _ e) _ _ _ _ _ _ _ _ _ _ _ (O.pick []).nm rfl k_0 r_0 rfl k_9 r_9
  · obtain ⟨y9, g10, e⟩ := bind_e e
    refine (slices_Grow_48.walk (Hold.start (W := No) O.s)  g10).mono ?_
    rintro _ h11 ⟨m12, A15, n16, c17, Q13, rfl, ne18⟩
    have O20 := Hold.nm (O.ret Q13)
    subst ne18
    refine ⟨_, _, _, rfl, ?_⟩
    exact slices_Concat_31.l1.walk (O20.pick [0]).nm rfl rfl k_0 (r_0.sub (tell_row T_api_Type.T) Q13.S.up) e
theorem slices_Concat_31.l0_k.all {p : slices_Concat_31.l0_k.Pt} {r : ((List T_api_Type))} (e : slices_Concat_31.l0_k.go p = some r) : slices_Concat_31.l0_k.I p r := fixF_ind (β := fun _ => ((List T_api_Type))) slices_Concat_31.l0_k.mono (I := slices_Concat_31.l0_k.I) (fun go ih p r e => match p with
  | .l0 a_0 x_3 a_9 x_10 x_11 => slices_Concat_31.l0_k.step_l0 go ih a_0 x_3 a_9 x_10 x_11 r e
  ) e
theorem slices_Concat_31.l0.walk {W : Nat → Prop} {h0 m0 h m : Heap} {A_0 : Option Addr} {n_0 c_0 : Nat} {A_9 : Option Addr} {n_9 c_9 : Nat} {a_0 : List (List T_api_Type)} {x_3 : Int} {a_9 : List (List T_api_Type)} {x_10 : Int} {x_11 : Int} (O : Hold W h0 m0 h m []) (ne_0 : n_0 = List.length a_0) (k_0 : List.length a_0 ≤ c_0) (r_0 : Rd 1 (eRow 3 T_api_Type.E) m A_0 a_0) (ne_9 : n_9 = List.length a_9) (k_9 : List.length a_9 ≤ c_9) (r_9 : Rd 1 (eRow 3 T_api_Type.E) m A_9 a_9) {r : (List T_api_Type)} (e : slices_Concat_31.l0 a_0 x_3 a_9 x_10 x_11 = some r) : f31.l0 (slices_Concat_31.post W h0 m0 r) A_0 n_0 c_0 x_3 A_9 n_9 c_9 x_10 x_11 h := slices_Concat_31.l0_k.all (p := .l0 a_0 x_3 a_9 x_10 x_11) e W h0 m0 h m A_0 n_0 c_0 A_9 n_9 c_9 O ne_0 k_0 r_0 ne_9 k_9 r_9
noncomputable def slices_Concat_31 (a_0 : List (List T_api_Type)) : Option ((List T_api_Type)) :=
  (slices_Concat_31.l0 a_0 (0 : Int) a_0 (((List.length a_0) : Nat) : Int) (0 : Int))
set_option maxRecDepth 100000 in
theorem slices_Concat_31.walk {W : Nat → Prop} {h m : Heap} {A_0 : Option Addr} {n_0 c_0 : Nat} {a_0 : List (List T_api_Type)} (O : Hold W h m h m []) (ne_0 : n_0 = List.length a_0) (k_0 : List.length a_0 ≤ c_0) (r_0 : Rd 1 (eRow 3 T_api_Type.E) m A_0 a_0) {r : (List T_api_Type)} (e : slices_Concat_31 a_0 = some r) : Run Tryd.prog 31 #[Value.slice A_0 n_0 c_0] h (slices_Concat_31.post W h m r) := by
  unfold slices_Concat_31 at e
  subst ne_0
  refine f31.run ?_
  unfold f31.runT
  exact slices_Concat_31.l0.walk (O.pick []).nm rfl k_0 r_0 rfl k_0 r_0 e
theorem slices_Concat_31.val (ls : List (List T_api_Type)) (hl : ls.length ≤ 4611686018427387904) (hs : ls.flatten.length * 48 ≤ 140737488355328) : slices_Concat_31 ls = some ls.flatten := concat_val (B := 48) (by decide) (fun r a n i => slices_Concat_31.l1_eq r a n i) (fun a s b n i => slices_Concat_31.l0_eq a s b n i) (gr := slices_Grow_48) (fun _ => rfl) (fun _ => rfl) ls hl hs
def slices_IndexFunc_24.post (W : Nat → Prop) (h0 m0 : Heap) (r : Int) (v : Value) (h : Heap) : Prop := ∃ m , Hold W h0 m0 h m [] ∧ v = .int .i64 r
inductive slices_IndexFunc_24.l0_k.Pt where
  | l0 (a_0 : List T_api_Data) (p_1 : T_api_Data → Option Bool) (x_7 : Int) (x_8 : Int)
noncomputable def slices_IndexFunc_24.l0_k.body (go : (p : slices_IndexFunc_24.l0_k.Pt) → Option (Int)) : (p : slices_IndexFunc_24.l0_k.Pt) → Option (Int)
  | .l0 a_0 p_1 x_7 x_8 => if x_8 < x_7 then (Option.bind (gi a_0 x_8) fun y1 => Option.bind (p_1 y1) fun y8 => if y8 = true then (some (x_8)) else ((go (.l0 a_0 p_1 x_7 (IntKind.wrap .i64 (x_8 + (1 : Int))))))) else (some ((-1 : Int)))
theorem slices_IndexFunc_24.l0_k.mono : MonoF (β := fun _ => (Int)) slices_IndexFunc_24.l0_k.body := fun f g hfg p => match p with
  | .l0 a_0 p_1 x_7 x_8 => LeO.ite (LeO.bind (LeO.refl _) fun y1 => LeO.bind (LeO.refl _) fun y8 => LeO.ite (LeO.refl _) ((hfg _))) (LeO.refl _)
noncomputable def slices_IndexFunc_24.l0_k.go (p : slices_IndexFunc_24.l0_k.Pt) : Option (Int) := fixF (β := fun _ => (Int)) slices_IndexFunc_24.l0_k.body p
noncomputable def slices_IndexFunc_24.l0 (a_0 : List T_api_Data) (p_1 : T_api_Data → Option Bool) (x_7 : Int) (x_8 : Int) : Option (Int) := slices_IndexFunc_24.l0_k.go (.l0 a_0 p_1 x_7 x_8)
theorem slices_IndexFunc_24.l0_eq (a_0 : List T_api_Data) (p_1 : T_api_Data → Option Bool) (x_7 : Int) (x_8 : Int) : slices_IndexFunc_24.l0 a_0 p_1 x_7 x_8 = if x_8 < x_7 then (Option.bind (gi a_0 x_8) fun y1 => Option.bind (p_1 y1) fun y8 => if y8 = true then (some (x_8)) else ((slices_IndexFunc_24.l0 a_0 p_1 x_7 (IntKind.wrap .i64 (x_8 + (1 : Int)))))) else (some ((-1 : Int))) := fixF_eq slices_IndexFunc_24.l0_k.mono _
def slices_IndexFunc_24.l0_k.I : (p : slices_IndexFunc_24.l0_k.Pt) → (Int) → Prop
  | .l0 a_0 p_1 x_7 x_8, r => ∀ (W : Nat → Prop) (h0 m0 h m : Heap) (A_0 : Option Addr) (n_0 c_0 : Nat) (fv_1 : Value) (O : Hold W h0 m0 h m []) (ne_0 : n_0 = List.length a_0) (k_0 : List.length a_0 ≤ c_0) (r_0 : Rd 3 T_api_Data.E m A_0 a_0) (f_1 : ∀ h' m', Sub m0 m' → Sub m' h' → ∀ (y0 : T_api_Data) (cs0 : List Value) (_ : T_api_Data.E m' y0 cs0) (r : Bool), p_1 y0 = some r → CallF Tryd.prog fv_1 [.agg cs0.toArray] h' (fun v h'' => v = .bool r ∧ Ext h' h'')), f24.l0 (slices_IndexFunc_24.post W h0 m0 r) A_0 n_0 c_0 fv_1 x_7 x_8 h
set_option maxRecDepth 100000 in
theorem slices_IndexFunc_24.l0_k.step_l0 (go : (p : slices_IndexFunc_24.l0_k.Pt) → Option (Int)) (ih : ∀ p r, go p = some r → slices_IndexFunc_24.l0_k.I p r) (a_0 : List T_api_Data) (p_1 : T_api_Data → Option Bool) (x_7 : Int) (x_8 : Int) (r : Int) (e : slices_IndexFunc_24.l0_k.body go (.l0 a_0 p_1 x_7 x_8) = some r) : slices_IndexFunc_24.l0_k.I (.l0 a_0 p_1 x_7 x_8) r := by
  unfold slices_IndexFunc_24.l0_k.body at e
  intro W h0 m0 h m A_0 n_0 c_0 fv_1 O ne_0 k_0 r_0 f_1
  subst ne_0
  refine f24.l0_in ?_
  unfold f24.l0T
  refine split_dec_e e (fun c14 e => ?_) (fun c14 e => ?_)
  · obtain ⟨y1, g2, e⟩ := bind_e e
    refine r_0.addr rfl g2 fun a3 cs4 ha5 hc6 he7 => ?_
    refine ⟨_, ldAn O.s hc6 rfl, ?_⟩
    obtain ⟨y8, g9, e⟩ := bind_e e
    refine CallF.mono (f_1 _ _ O.up O.s _ _ he7 _ g9) ?_
    rintro _ h10 ⟨rfl, x11⟩
    have O12 := O.ext x11
    refine ⟨_, rfl, ?_⟩
    refine split_any_e e (fun c13 e => ?_) (fun c13 e => ?_)
    · cases e
      exact ⟨_, O12.pick [], rfl⟩
    · exact (ih _ _ e) _ _ _ _ _ _ _ _ _ (O12.pick []).nm rfl k_0 r_0 f_1
  · cases e
    exact ⟨_, O.pick [], rfl⟩
theorem slices_IndexFunc_24.l0_k.all {p : slices_IndexFunc_24.l0_k.Pt} {r : (Int)} (e : slices_IndexFunc_24.l0_k.go p = some r) : slices_IndexFunc_24.l0_k.I p r := fixF_ind (β := fun _ => (Int)) slices_IndexFunc_24.l0_k.mono (I := slices_IndexFunc_24.l0_k.I) (fun go ih p r e => match p with
  | .l0 a_0 p_1 x_7 x_8 => slices_IndexFunc_24.l0_k.step_l0 go ih a_0 p_1 x_7 x_8 r e
  ) e
theorem slices_IndexFunc_24.l0.walk {W : Nat → Prop} {h0 m0 h m : Heap} {A_0 : Option Addr} {n_0 c_0 : Nat} {fv_1 : Value} {a_0 : List T_api_Data} {p_1 : T_api_Data → Option Bool} {x_7 : Int} {x_8 : Int} (O : Hold W h0 m0 h m []) (ne_0 : n_0 = List.length a_0) (k_0 : List.length a_0 ≤ c_0) (r_0 : Rd 3 T_api_Data.E m A_0 a_0) (f_1 : ∀ h' m', Sub m0 m' → Sub m' h' → ∀ (y0 : T_api_Data) (cs0 : List Value) (_ : T_api_Data.E m' y0 cs0) (r : Bool), p_1 y0 = some r → CallF Tryd.prog fv_1 [.agg cs0.toArray] h' (fun v h'' => v = .bool r ∧ Ext h' h'')) {r : Int} (e : slices_IndexFunc_24.l0 a_0 p_1 x_7 x_8 = some r) : f24.l0 (slices_IndexFunc_24.post W h0 m0 r) A_0 n_0 c_0 fv_1 x_7 x_8 h := slices_IndexFunc_24.l0_k.all (p := .l0 a_0 p_1 x_7 x_8) e W h0 m0 h m A_0 n_0 c_0 fv_1 O ne_0 k_0 r_0 f_1
noncomputable def slices_IndexFunc_24 (a_0 : List T_api_Data) (p_1 : T_api_Data → Option Bool) : Option (Int) :=
  (slices_IndexFunc_24.l0 a_0 p_1 (((List.length a_0) : Nat) : Int) (0 : Int))
set_option maxRecDepth 100000 in
theorem slices_IndexFunc_24.walk {W : Nat → Prop} {h m : Heap} {A_0 : Option Addr} {n_0 c_0 : Nat} {fv_1 : Value} {a_0 : List T_api_Data} {p_1 : T_api_Data → Option Bool} (O : Hold W h m h m []) (ne_0 : n_0 = List.length a_0) (k_0 : List.length a_0 ≤ c_0) (r_0 : Rd 3 T_api_Data.E m A_0 a_0) (f_1 : ∀ h' m', Sub m m' → Sub m' h' → ∀ (y0 : T_api_Data) (cs0 : List Value) (_ : T_api_Data.E m' y0 cs0) (r : Bool), p_1 y0 = some r → CallF Tryd.prog fv_1 [.agg cs0.toArray] h' (fun v h'' => v = .bool r ∧ Ext h' h'')) {r : Int} (e : slices_IndexFunc_24 a_0 p_1 = some r) : Run Tryd.prog 24 #[Value.slice A_0 n_0 c_0, fv_1] h (slices_IndexFunc_24.post W h m r) := by
  unfold slices_IndexFunc_24 at e
  subst ne_0
  refine f24.run ?_
  unfold f24.runT
  exact slices_IndexFunc_24.l0.walk (O.pick []).nm rfl k_0 r_0 f_1 e
def roadref2_dataOf_1.post (W : Nat → Prop) (h0 m0 : Heap) (r : Bool) (v : Value) (h : Heap) : Prop := ∃ m , Hold W h0 m0 h m [] ∧ v = .bool r
noncomputable def roadref2_dataOf_1 (y_0 : T_api_Data) (y_1 : ByteArray) : Option (Bool) :=
  some ((decide (y_0.Name = y_1)))
set_option maxRecDepth 100000 in
theorem roadref2_dataOf_1.walk {W : Nat → Prop} {h m : Heap} {cs_0 : List Value} {bk_1 : Nat} {y_0 : T_api_Data} {y_1 : ByteArray} (O : Hold W h m h m []) (e_0 : T_api_Data.E m y_0 cs_0) (v_1 : VB eStr m bk_1 y_1) {r : Bool} (e : roadref2_dataOf_1 y_0 y_1 = some r) : Run Tryd.prog 58 #[Value.agg cs_0.toArray, Value.pointer (some ⟨bk_1, 0, none⟩)] h (roadref2_dataOf_1.post W h m r) := by
  unfold roadref2_dataOf_1 at e
  obtain ⟨cs_1, t_1, hb_1, nn_1, e_1⟩ := id v_1
  obtain rfl : cs_1 = [(Value.string y_1)] := e_1
  refine f58.run ?_
  unfold f58.runT
  refine O.new fun h1 x2 O3 => ?_
  refine ⟨_, ld0 (Sub.refl _) (O3.all 0 rfl) (T_api_Data.g0 e_0), _, rfl, ?_⟩
  refine ⟨_, ld0 O3.s (Blk.all' hb_1) rfl, _, rfl, ?_⟩
  try rw [ba_list y_0.Name y_1]
  have O5 := O3.nm
  cases e
  exact ⟨_, O5.pick [], rfl⟩
def roadref2_dataOf.post (W : Nat → Prop) (h0 m0 : Heap) (r : Int) (v : Value) (h : Heap) : Prop := ∃ m , Hold W h0 m0 h m [] ∧ v = .int .i64 r
noncomputable def roadref2_dataOf (y_0 : T_api_Program) (s_1 : ByteArray) : Option (Int) :=
  Option.bind (slices_IndexFunc_24 y_0.Datas (fun z27 => roadref2_dataOf_1 z27 s_1)) fun y14 => some (y14)
set_option maxRecDepth 100000 in
theorem roadref2_dataOf.walk {W : Nat → Prop} {h m : Heap} {cs_0 : List Value} {y_0 : T_api_Program} {s_1 : ByteArray} (O : Hold W h m h m []) (e_0 : T_api_Program.E m y_0 cs_0) {r : Int} (e : roadref2_dataOf y_0 s_1 = some r) : Run Tryd.prog 47 #[Value.agg cs_0.toArray, Value.string s_1] h (roadref2_dataOf.post W h m r) := by
  unfold roadref2_dataOf at e
  refine f47.run ?_
  unfold f47.runT
  refine O.new fun h1 x2 O3 => ?_
  refine O3.new fun h5 x6 O7 => ?_
  obtain ⟨A9, c10, q11, k12, r13⟩ := T_api_Program.g3 e_0
  refine ⟨_, ldk (k := 3) (Sub.refl _) (O7.all 0 rfl) q11, _, _, _, rfl, ?_⟩
  obtain ⟨y14, g15, e⟩ := bind_e e
  have O20 := O7.nm
  obtain ⟨m21, u22, s26, ⟨hb25, _⟩, B23, C24⟩ := O20.lend0 [1]
  refine (slices_IndexFunc_24.walk (Hold.start (W := No) s26) rfl k12 (r13.sub T_api_Data.T u22) (fun h28 m29 u30 s31 y34 cs34 he34 r32 e33 => CallF.of [Value.agg cs34.toArray, Value.pointer (some ⟨(Array.size h1), 0, none⟩)] f58.ok rfl ((roadref2_dataOf_1.walk (Hold.start (W := No) s31) he34 (VB.sub (show VB eStr _ _ _ from ⟨_, _, hb25, nn, rfl⟩) tell_str u30) e33).mono (fun _ _ h => let ⟨_, t, e⟩ := h; ⟨e, t.S.ext⟩))) g15).mono ?_
  rintro _ h16 ⟨m17, Q18, rfl⟩
  have O35 := Hold.nm (C24 Q18 vfs_nil)
  refine ⟨_, rfl, ?_⟩
  cases e
  exact ⟨_, O35.pick [], rfl⟩
def roadref2_KindOf.post (W : Nat → Prop) (h0 m0 : Heap) (r : Int) (v : Value) (h : Heap) : Prop := ∃ m , Hold W h0 m0 h m [] ∧ v = .int .i64 r
inductive roadref2_KindOf.l0_k.Pt where
  | l0 (a_1 : List ByteArray) (y_3 : T_api_Program) (a_7 : List T_api_Type)
  | j1 (a_1 : List ByteArray) (y_3 : T_api_Program) (a_7 : List T_api_Type) (y_8 : T_api_Type) (x_9 : Int) (b_28 : Bool)
  | j0 (a_1 : List ByteArray) (y_3 : T_api_Program) (a_7 : List T_api_Type) (y_8 : T_api_Type) (x_9 : Int) (b_28 : Bool)
noncomputable def roadref2_KindOf.l0_k.body (go : (p : roadref2_KindOf.l0_k.Pt) → Option (Int)) : (p : roadref2_KindOf.l0_k.Pt) → Option (Int)
  | .l0 a_1 y_3 a_7 => if (((List.length a_7) : Nat) : Int) > (0 : Int) then (Option.bind (gi a_7 (0 : Int)) fun y1 => Option.bind (sls a_7 (1 : Int) (((List.length a_7) : Nat) : Int)) fun l14 => Option.bind (slices_Concat_31 ([y1.Args, l14] : List (List T_api_Type))) fun y32 => Option.bind (roadref2_dataOf y_3 y1.Name) fun y52 => if y1.Kind = (5 : Int) then (Option.bind (slices_Contains_6 a_1 y1.Name) fun y59 => (go (.j1 a_1 y_3 y32 y1 y52 (!y59)))) else ((go (.j1 a_1 y_3 y32 y1 y52 false)))) else (some ((0 : Int)))
  | .j1 a_1 y_3 a_7 y_8 x_9 b_28 => if b_28 = true then ((go (.j0 a_1 y_3 a_7 y_8 x_9 b_28))) else (if y_8.Kind = (6 : Int) then ((go (.j0 a_1 y_3 a_7 y_8 x_9 (decide (x_9 < (0 : Int)))))) else ((go (.j0 a_1 y_3 a_7 y_8 x_9 false))))
  | .j0 a_1 y_3 a_7 y_8 x_9 b_28 => if b_28 = true then (some ((11 : Int))) else (if y_8.Kind = (6 : Int) then (Option.bind (gi y_3.Datas x_9) fun y6 => if (((List.length y6.Params) : Nat) : Int) = (((List.length y_8.Args) : Nat) : Int) then ((go (.l0 a_1 y_3 a_7))) else (some ((13 : Int)))) else ((go (.l0 a_1 y_3 a_7))))
theorem roadref2_KindOf.l0_k.mono : MonoF (β := fun _ => (Int)) roadref2_KindOf.l0_k.body := fun f g hfg p => match p with
  | .l0 a_1 y_3 a_7 => LeO.ite (LeO.bind (LeO.refl _) fun y1 => LeO.bind (LeO.refl _) fun l14 => LeO.bind (LeO.refl _) fun y32 => LeO.bind (LeO.refl _) fun y52 => LeO.ite (LeO.bind (LeO.refl _) fun y59 => (hfg _)) ((hfg _))) (LeO.refl _)
  | .j1 a_1 y_3 a_7 y_8 x_9 b_28 => LeO.ite ((hfg _)) (LeO.ite ((hfg _)) ((hfg _)))
  | .j0 a_1 y_3 a_7 y_8 x_9 b_28 => LeO.ite (LeO.refl _) (LeO.ite (LeO.bind (LeO.refl _) fun y6 => LeO.ite ((hfg _)) (LeO.refl _)) ((hfg _)))
noncomputable def roadref2_KindOf.l0_k.go (p : roadref2_KindOf.l0_k.Pt) : Option (Int) := fixF (β := fun _ => (Int)) roadref2_KindOf.l0_k.body p
noncomputable def roadref2_KindOf.l0 (a_1 : List ByteArray) (y_3 : T_api_Program) (a_7 : List T_api_Type) : Option (Int) := roadref2_KindOf.l0_k.go (.l0 a_1 y_3 a_7)
noncomputable def roadref2_KindOf.j1 (a_1 : List ByteArray) (y_3 : T_api_Program) (a_7 : List T_api_Type) (y_8 : T_api_Type) (x_9 : Int) (b_28 : Bool) : Option (Int) := roadref2_KindOf.l0_k.go (.j1 a_1 y_3 a_7 y_8 x_9 b_28)
noncomputable def roadref2_KindOf.j0 (a_1 : List ByteArray) (y_3 : T_api_Program) (a_7 : List T_api_Type) (y_8 : T_api_Type) (x_9 : Int) (b_28 : Bool) : Option (Int) := roadref2_KindOf.l0_k.go (.j0 a_1 y_3 a_7 y_8 x_9 b_28)
theorem roadref2_KindOf.l0_eq (a_1 : List ByteArray) (y_3 : T_api_Program) (a_7 : List T_api_Type) : roadref2_KindOf.l0 a_1 y_3 a_7 = if (((List.length a_7) : Nat) : Int) > (0 : Int) then (Option.bind (gi a_7 (0 : Int)) fun y1 => Option.bind (sls a_7 (1 : Int) (((List.length a_7) : Nat) : Int)) fun l14 => Option.bind (slices_Concat_31 ([y1.Args, l14] : List (List T_api_Type))) fun y32 => Option.bind (roadref2_dataOf y_3 y1.Name) fun y52 => if y1.Kind = (5 : Int) then (Option.bind (slices_Contains_6 a_1 y1.Name) fun y59 => (roadref2_KindOf.j1 a_1 y_3 y32 y1 y52 (!y59))) else ((roadref2_KindOf.j1 a_1 y_3 y32 y1 y52 false))) else (some ((0 : Int))) := fixF_eq roadref2_KindOf.l0_k.mono _
theorem roadref2_KindOf.j1_eq (a_1 : List ByteArray) (y_3 : T_api_Program) (a_7 : List T_api_Type) (y_8 : T_api_Type) (x_9 : Int) (b_28 : Bool) : roadref2_KindOf.j1 a_1 y_3 a_7 y_8 x_9 b_28 = if b_28 = true then ((roadref2_KindOf.j0 a_1 y_3 a_7 y_8 x_9 b_28)) else (if y_8.Kind = (6 : Int) then ((roadref2_KindOf.j0 a_1 y_3 a_7 y_8 x_9 (decide (x_9 < (0 : Int))))) else ((roadref2_KindOf.j0 a_1 y_3 a_7 y_8 x_9 false))) := fixF_eq roadref2_KindOf.l0_k.mono _
theorem roadref2_KindOf.j0_eq (a_1 : List ByteArray) (y_3 : T_api_Program) (a_7 : List T_api_Type) (y_8 : T_api_Type) (x_9 : Int) (b_28 : Bool) : roadref2_KindOf.j0 a_1 y_3 a_7 y_8 x_9 b_28 = if b_28 = true then (some ((11 : Int))) else (if y_8.Kind = (6 : Int) then (Option.bind (gi y_3.Datas x_9) fun y6 => if (((List.length y6.Params) : Nat) : Int) = (((List.length y_8.Args) : Nat) : Int) then ((roadref2_KindOf.l0 a_1 y_3 a_7)) else (some ((13 : Int)))) else ((roadref2_KindOf.l0 a_1 y_3 a_7))) := fixF_eq roadref2_KindOf.l0_k.mono _
def roadref2_KindOf.l0_k.I : (p : roadref2_KindOf.l0_k.Pt) → (Int) → Prop
  | .l0 a_1 y_3 a_7, r => ∀ (W : Nat → Prop) (h0 m0 h m : Heap) (A_1 : Option Addr) (n_1 c_1 : Nat) (bk_3 : Nat) (cs_3 : List Value) (A_7 : Option Addr) (n_7 c_7 : Nat) (O : Hold W h0 m0 h m [rV bk_3 54 cs_3, rR (aE T_api_Type.T) A_7 c_7 a_7]) (ne_1 : n_1 = List.length a_1) (k_1 : List.length a_1 ≤ c_1) (r_1 : Rd 1 eStr m A_1 a_1) (e_3 : T_api_Program.E m y_3 cs_3) (ne_7 : n_7 = List.length a_7), f27.l0 (roadref2_KindOf.post W h0 m0 r) A_1 n_1 c_1 (⟨bk_3, 0, none⟩ : Addr) A_7 n_7 c_7 h
  | .j1 a_1 y_3 a_7 y_8 x_9 b_28, r => ∀ (W : Nat → Prop) (h0 m0 h m : Heap) (A_1 : Option Addr) (n_1 c_1 : Nat) (bk_3 : Nat) (cs_3 : List Value) (A_7 : Option Addr) (n_7 c_7 : Nat) (bk_8 : Nat) (cs_8 : List Value) (O : Hold W h0 m0 h m [rV bk_3 54 cs_3, rR (aE T_api_Type.T) A_7 c_7 a_7, rV bk_8 25 cs_8]) (ne_1 : n_1 = List.length a_1) (k_1 : List.length a_1 ≤ c_1) (r_1 : Rd 1 eStr m A_1 a_1) (e_3 : T_api_Program.E m y_3 cs_3) (ne_7 : n_7 = List.length a_7) (e_8 : T_api_Type.E m y_8 cs_8), f27.j1 (roadref2_KindOf.post W h0 m0 r) A_1 n_1 c_1 (⟨bk_3, 0, none⟩ : Addr) A_7 n_7 c_7 (⟨bk_8, 0, none⟩ : Addr) x_9 b_28 h
  | .j0 a_1 y_3 a_7 y_8 x_9 b_28, r => ∀ (W : Nat → Prop) (h0 m0 h m : Heap) (A_1 : Option Addr) (n_1 c_1 : Nat) (bk_3 : Nat) (cs_3 : List Value) (A_7 : Option Addr) (n_7 c_7 : Nat) (bk_8 : Nat) (cs_8 : List Value) (O : Hold W h0 m0 h m [rV bk_3 54 cs_3, rR (aE T_api_Type.T) A_7 c_7 a_7, rV bk_8 25 cs_8]) (ne_1 : n_1 = List.length a_1) (k_1 : List.length a_1 ≤ c_1) (r_1 : Rd 1 eStr m A_1 a_1) (e_3 : T_api_Program.E m y_3 cs_3) (ne_7 : n_7 = List.length a_7) (e_8 : T_api_Type.E m y_8 cs_8), f27.j0 (roadref2_KindOf.post W h0 m0 r) A_1 n_1 c_1 (⟨bk_3, 0, none⟩ : Addr) A_7 n_7 c_7 (⟨bk_8, 0, none⟩ : Addr) x_9 b_28 h
set_option maxHeartbeats 4000000 in
set_option maxRecDepth 100000 in
theorem roadref2_KindOf.l0_k.step_l0 (go : (p : roadref2_KindOf.l0_k.Pt) → Option (Int)) (ih : ∀ p r, go p = some r → roadref2_KindOf.l0_k.I p r) (a_1 : List ByteArray) (y_3 : T_api_Program) (a_7 : List T_api_Type) (r : Int) (e : roadref2_KindOf.l0_k.body go (.l0 a_1 y_3 a_7) = some r) : roadref2_KindOf.l0_k.I (.l0 a_1 y_3 a_7) r := by
  unfold roadref2_KindOf.l0_k.body at e
  intro W h0 m0 h m A_1 n_1 c_1 bk_3 cs_3 A_7 n_7 c_7 O ne_1 k_1 r_1 e_3 ne_7
  subst ne_1
  subst ne_7
  refine f27.l0_in ?_
  unfold f27.l0T
  refine split_dec_e e (fun c67 e => ?_) (fun c67 e => ?_)
  · obtain ⟨y1, g2, e⟩ := bind_e e
    refine (O.os 1 rfl).addr rfl g2 fun a3 cs4 ha5 hc6 he7 => ?_
    refine ⟨_, ldAn (Sub.refl _) hc6 rfl, ?_⟩
    refine O.new fun h8 x9 O10 => ?_
    refine ⟨_, rfl, (T_api_Type.T.len _ _ _ he7), ?_⟩
    refine O10.stA 2 rfl (T_api_Type.T.len _ _ _ he7) (T_api_Type.T.flat _ _ _ he7) fun h12 O13 => ?_
    obtain ⟨l14, g15, e⟩ := bind_e e
    have q16 := sls_e g15
    refine ⟨q16.1, q16.2.1, cap_in q16.2.2.1 (O13.cap 1 rfl), ?_⟩
    try rw [q16.2.2.2.1]
    obtain ⟨A17, c18, q19, k20, r21⟩ := T_api_Type.g2 he7
    refine ⟨_, ldk (k := 2) (Sub.refl _) (O13.all 2 rfl) q19, _, _, _, rfl, ?_⟩
    refine O13.new fun h22 x23 O24 => ?_
    obtain ⟨y32, g33, e⟩ := bind_e e
    obtain ⟨m26, u27, ⟨r28, k29⟩, O30⟩ := O24.frz 1 rfl
    replace r28 : Rd 3 T_api_Type.E m26 A_7 a_7 := r28
    have O31 := O30.rowE (l := ([y1.Args, l14] : List (List T_api_Type))) 3 rfl (tell_row T_api_Type.T) (show CsE _ _ _ _ _ from (CsE.cons (c1 := [(Value.slice A17 (List.length y1.Args) c18)]) ⟨_, _, rfl, k20, (r21.sub T_api_Type.T u27)⟩ rfl (CsE.cons (c1 := [(Value.slice (sliceA A_7 (Int.toNat (1 : Int)) c_7 3) (List.length l14) (c_7 - Int.toNat (1 : Int)))]) ⟨_, _, rfl, (sls_cap g15 k29), (r28.sls g15 (le_mx q16.2.2.1 k29))⟩ rfl CsE.nil))) rfl
    have O38 := O31.nm
    obtain ⟨m39, u40, s45, ⟨⟨r43, k44⟩, _⟩, B41, C42⟩ := O38.lend0 [3]
    replace r43 : Rd 1 (eRow 3 T_api_Type.E) m39 (some ⟨(Array.size h12), 0, none⟩) ([y1.Args, l14] : List (List T_api_Type)) := r43
    replace k44 : List.length ([y1.Args, l14] : List (List T_api_Type)) ≤ 2 := k44
    refine (slices_Concat_31.walk (Hold.start (W := No) s45) rfl k44 r43 g33).mono ?_
    rintro _ h34 ⟨m35, A46, n47, c48, Q36, rfl, ne49⟩
    have O51 := Hold.nm (B41 Q36)
    subst ne49
    refine ⟨_, _, _, rfl, ?_⟩
    refine ⟨_, ldAn (Sub.refl _) (O51.all 0 rfl) (T_api_Program.T.len _ _ _ e_3), ?_⟩
    refine ⟨_, ldk (k := 1) (Sub.refl _) (O51.all 2 rfl) (T_api_Type.g1 he7), _, rfl, ?_⟩
    obtain ⟨y52, g53, e⟩ := bind_e e
    refine (roadref2_dataOf.walk (Hold.start (W := No) O51.s) (T_api_Program.T.mono _ _ _ _ (u27.trans (u40.trans Q36.S.up)) e_3) g53).mono ?_
    rintro _ h54 ⟨m55, Q56, rfl⟩
    have O58 := Hold.nm (O51.retC Q56 vfs_nil)
    refine ⟨_, rfl, ?_⟩
    refine ⟨_, ld0 (Sub.refl _) (O58.all 2 rfl) (T_api_Type.g0 he7), _, rfl, ?_⟩
    refine split_eq_e e (fun c66 e => ?_) (fun c66 e => ?_)
    · refine ⟨_, ldk (k := 1) (Sub.refl _) (O58.all 2 rfl) (T_api_Type.g1 he7), _, rfl, ?_⟩
      obtain ⟨y59, g60, e⟩ := bind_e e
      refine (slices_Contains_6.walk (Hold.start (W := No) O58.s) rfl k_1 (r_1.sub tell_str (u27.trans (u40.trans Q36.S.up))) g60).mono ?_
      rintro _ h61 ⟨m62, Q63, rfl⟩
      have O65 := Hold.nm (O58.retC Q63 vfs_nil)
      refine ⟨_, rfl, ?_⟩
      exact (ih _ _ e) _ _ _ _ _ _ _ _ _ _ _ _ _ _ _ (O65.pick [0, 4, 2]).nm rfl k_1 (r_1.sub tell_str (u27.trans (u40.trans Q36.S.up))) (T_api_Program.T.mono _ _ _ _ (u27.trans (u40.trans Q36.S.up)) e_3) rfl (T_api_Type.T.mono _ _ _ _ (u27.trans (u40.trans Q36.S.up)) he7)
    · exact (ih _ _ e) _ _ _ _ _ _ _ _ _ _ _ _ _ _ _ (O58.pick [0, 4, 2]).nm rfl k_1 (r_1.sub tell_str (u27.trans (u40.trans Q36.S.up))) (T_api_Program.T.mono _ _ _ _ (u27.trans (u40.trans Q36.S.up)) e_3) rfl (T_api_Type.T.mono _ _ _ _ (u27.trans (u40.trans Q36.S.up)) he7)
  · cases e
    exact ⟨_, O.pick [], rfl⟩
set_option maxRecDepth 100000 in
theorem roadref2_KindOf.l0_k.step_j1 (go : (p : roadref2_KindOf.l0_k.Pt) → Option (Int)) (ih : ∀ p r, go p = some r → roadref2_KindOf.l0_k.I p r) (a_1 : List ByteArray) (y_3 : T_api_Program) (a_7 : List T_api_Type) (y_8 : T_api_Type) (x_9 : Int) (b_28 : Bool) (r : Int) (e : roadref2_KindOf.l0_k.body go (.j1 a_1 y_3 a_7 y_8 x_9 b_28) = some r) : roadref2_KindOf.l0_k.I (.j1 a_1 y_3 a_7 y_8 x_9 b_28) r := by
  unfold roadref2_KindOf.l0_k.body at e
  intro W h0 m0 h m A_1 n_1 c_1 bk_3 cs_3 A_7 n_7 c_7 bk_8 cs_8 O ne_1 k_1 r_1 e_3 ne_7 e_8
  subst ne_1
  subst ne_7
  refine f27.j1_in ?_
  unfold f27.j1T
  refine split_any_e e (fun c2 e => ?_) (fun c2 e => ?_)
  · exact (ih _ _ e) _ _ _ _ _ _ _ _ _ _ _ _ _ _ _ (O.pick [0, 1, 2]).nm rfl k_1 r_1 e_3 rfl e_8
  · refine ⟨_, ld0 (Sub.refl _) (O.all 2 rfl) (T_api_Type.g0 e_8), _, rfl, ?_⟩
    refine split_eq_e e (fun c1 e => ?_) (fun c1 e => ?_)
    · exact (ih _ _ e) _ _ _ _ _ _ _ _ _ _ _ _ _ _ _ (O.pick [0, 1, 2]).nm rfl k_1 r_1 e_3 rfl e_8
    · exact (ih _ _ e) _ _ _ _ _ _ _ _ _ _ _ _ _ _ _ (O.pick [0, 1, 2]).nm rfl k_1 r_1 e_3 rfl e_8
set_option maxRecDepth 100000 in
theorem roadref2_KindOf.l0_k.step_j0 (go : (p : roadref2_KindOf.l0_k.Pt) → Option (Int)) (ih : ∀ p r, go p = some r → roadref2_KindOf.l0_k.I p r) (a_1 : List ByteArray) (y_3 : T_api_Program) (a_7 : List T_api_Type) (y_8 : T_api_Type) (x_9 : Int) (b_28 : Bool) (r : Int) (e : roadref2_KindOf.l0_k.body go (.j0 a_1 y_3 a_7 y_8 x_9 b_28) = some r) : roadref2_KindOf.l0_k.I (.j0 a_1 y_3 a_7 y_8 x_9 b_28) r := by
  unfold roadref2_KindOf.l0_k.body at e
  intro W h0 m0 h m A_1 n_1 c_1 bk_3 cs_3 A_7 n_7 c_7 bk_8 cs_8 O ne_1 k_1 r_1 e_3 ne_7 e_8
  subst ne_1
  subst ne_7
  refine f27.j0_in ?_
  unfold f27.j0T
  refine split_any_e e (fun c25 e => ?_) (fun c25 e => ?_)
  · cases e
    exact ⟨_, O.pick [], rfl⟩
  · refine ⟨_, ld0 (Sub.refl _) (O.all 2 rfl) (T_api_Type.g0 e_8), _, rfl, ?_⟩
    refine split_eq_e e (fun c24 e => ?_) (fun c24 e => ?_)
    · obtain ⟨A1, c2, q3, k4, r5⟩ := T_api_Program.g3 e_3
      refine ⟨_, ldk (k := 3) (Sub.refl _) (O.all 0 rfl) q3, _, _, _, rfl, ?_⟩
      obtain ⟨y6, g7, e⟩ := bind_e e
      refine r5.addr rfl g7 fun a8 cs9 ha10 hc11 he12 => ?_
      obtain ⟨A13, c14, q15, k16, r17⟩ := T_api_Data.g1 he12
      refine ⟨_, ldk (k := 1) O.s hc11 q15, _, _, _, rfl, ?_⟩
      obtain ⟨A18, c19, q20, k21, r22⟩ := T_api_Type.g2 e_8
      refine ⟨_, ldk (k := 2) (Sub.refl _) (O.all 2 rfl) q20, _, _, _, rfl, ?_⟩
      refine split_ne_e e (fun c23 e => ?_) (fun c23 e => ?_)
      · cases e
        exact ⟨_, O.pick [], rfl⟩
      · exact (ih _ _ e) _ _ _ _ _ _ _ _ _ _ _ _ _ (O.pick [0, 1]).nm rfl k_1 r_1 e_3 rfl
    · exact (ih _ _ e) _ _ _ _ _ _ _ _ _ _ _ _ _ (O.pick [0, 1]).nm rfl k_1 r_1 e_3 rfl
theorem roadref2_KindOf.l0_k.all {p : roadref2_KindOf.l0_k.Pt} {r : (Int)} (e : roadref2_KindOf.l0_k.go p = some r) : roadref2_KindOf.l0_k.I p r := fixF_ind (β := fun _ => (Int)) roadref2_KindOf.l0_k.mono (I := roadref2_KindOf.l0_k.I) (fun go ih p r e => match p with
  | .l0 a_1 y_3 a_7 => roadref2_KindOf.l0_k.step_l0 go ih a_1 y_3 a_7 r e
  | .j1 a_1 y_3 a_7 y_8 x_9 b_28 => roadref2_KindOf.l0_k.step_j1 go ih a_1 y_3 a_7 y_8 x_9 b_28 r e
  | .j0 a_1 y_3 a_7 y_8 x_9 b_28 => roadref2_KindOf.l0_k.step_j0 go ih a_1 y_3 a_7 y_8 x_9 b_28 r e
  ) e
theorem roadref2_KindOf.l0.walk {W : Nat → Prop} {h0 m0 h m : Heap} {A_1 : Option Addr} {n_1 c_1 : Nat} {bk_3 : Nat} {cs_3 : List Value} {A_7 : Option Addr} {n_7 c_7 : Nat} {a_1 : List ByteArray} {y_3 : T_api_Program} {a_7 : List T_api_Type} (O : Hold W h0 m0 h m [rV bk_3 54 cs_3, rR (aE T_api_Type.T) A_7 c_7 a_7]) (ne_1 : n_1 = List.length a_1) (k_1 : List.length a_1 ≤ c_1) (r_1 : Rd 1 eStr m A_1 a_1) (e_3 : T_api_Program.E m y_3 cs_3) (ne_7 : n_7 = List.length a_7) {r : Int} (e : roadref2_KindOf.l0 a_1 y_3 a_7 = some r) : f27.l0 (roadref2_KindOf.post W h0 m0 r) A_1 n_1 c_1 (⟨bk_3, 0, none⟩ : Addr) A_7 n_7 c_7 h := roadref2_KindOf.l0_k.all (p := .l0 a_1 y_3 a_7) e W h0 m0 h m A_1 n_1 c_1 bk_3 cs_3 A_7 n_7 c_7 O ne_1 k_1 r_1 e_3 ne_7
noncomputable def roadref2_KindOf (y_0 : T_api_Program) (a_1 : List ByteArray) (a_2 : List T_api_Type) : Option (Int) :=
  Option.bind (slices_Clone_42 a_2) fun y5 => (roadref2_KindOf.l0 a_1 y_0 y5)
set_option maxRecDepth 100000 in
theorem roadref2_KindOf.walk {W : Nat → Prop} {h m : Heap} {cs_0 : List Value} {A_1 : Option Addr} {n_1 c_1 : Nat} {A_2 : Option Addr} {n_2 c_2 : Nat} {y_0 : T_api_Program} {a_1 : List ByteArray} {a_2 : List T_api_Type} (O : Hold W h m h m []) (e_0 : T_api_Program.E m y_0 cs_0) (ne_1 : n_1 = List.length a_1) (k_1 : List.length a_1 ≤ c_1) (r_1 : Rd 1 eStr m A_1 a_1) (ne_2 : n_2 = List.length a_2) (k_2 : List.length a_2 ≤ c_2) (r_2 : Rd 3 T_api_Type.E m A_2 a_2) {r : Int} (e : roadref2_KindOf y_0 a_1 a_2 = some r) : Run Tryd.prog 27 #[Value.agg cs_0.toArray, Value.slice A_1 n_1 c_1, Value.slice A_2 n_2 c_2] h (roadref2_KindOf.post W h m r) := by
  unfold roadref2_KindOf at e
  subst ne_1
  subst ne_2
  refine f27.run ?_
  unfold f27.runT
  refine O.new fun h1 x2 O3 => ?_
  obtain ⟨y5, g6, e⟩ := bind_e e
  refine (slices_Clone_42.walk (Hold.start (W := No) O3.s) rfl k_2 r_2 g6).mono ?_
  rintro _ h7 ⟨m8, A11, n12, c13, Q9, rfl, ne14⟩
  have O16 := Hold.nm (O3.ret Q9)
  subst ne14
  refine ⟨_, _, _, rfl, ?_⟩
  exact roadref2_KindOf.l0.walk (O16.pick [0, 1]).nm rfl k_1 (r_1.sub tell_str Q9.S.up) (T_api_Program.T.mono _ _ _ _ Q9.S.up e_0) rfl e
def roadref2_kindBody.post (W : Nat → Prop) (h0 m0 : Heap) (r : T_roadref2_Wrong) (v : Value) (h : Heap) : Prop := ∃ m cs0, Hold W h0 m0 h m [] ∧ v = .agg cs0.toArray ∧ T_roadref2_Wrong.E m r cs0
inductive roadref2_kindBody.l0_k.Pt where
  | l0 (a_1 : List ByteArray) (y_3 : T_api_Program) (y_6 : T_roadref2_Wrong) (a_11 : List T_api_Expr) (x_12 : Int) (x_13 : Int)
noncomputable def roadref2_kindBody.l0_k.body (go : (p : roadref2_kindBody.l0_k.Pt) → Option (T_roadref2_Wrong)) : (p : roadref2_kindBody.l0_k.Pt) → Option (T_roadref2_Wrong)
  | .l0 a_1 y_3 y_6 a_11 x_12 x_13 => if x_13 < x_12 then (Option.bind (gi a_11 x_13) fun y1 => Option.bind (roadref2_KindOf y_3 a_1 y1.Types) fun y19 => if y19 = (0 : Int) then ((go (.l0 a_1 y_3 y_6 a_11 x_12 (IntKind.wrap .i64 (x_13 + (1 : Int)))))) else (some ((T_roadref2_Wrong.mk y19 y1.At)))) else (some ((T_roadref2_Wrong.mk (0 : Int) (0 : Int))))
theorem roadref2_kindBody.l0_k.mono : MonoF (β := fun _ => (T_roadref2_Wrong)) roadref2_kindBody.l0_k.body := fun f g hfg p => match p with
  | .l0 a_1 y_3 y_6 a_11 x_12 x_13 => LeO.ite (LeO.bind (LeO.refl _) fun y1 => LeO.bind (LeO.refl _) fun y19 => LeO.ite ((hfg _)) (LeO.refl _)) (LeO.refl _)
noncomputable def roadref2_kindBody.l0_k.go (p : roadref2_kindBody.l0_k.Pt) : Option (T_roadref2_Wrong) := fixF (β := fun _ => (T_roadref2_Wrong)) roadref2_kindBody.l0_k.body p
noncomputable def roadref2_kindBody.l0 (a_1 : List ByteArray) (y_3 : T_api_Program) (y_6 : T_roadref2_Wrong) (a_11 : List T_api_Expr) (x_12 : Int) (x_13 : Int) : Option (T_roadref2_Wrong) := roadref2_kindBody.l0_k.go (.l0 a_1 y_3 y_6 a_11 x_12 x_13)
theorem roadref2_kindBody.l0_eq (a_1 : List ByteArray) (y_3 : T_api_Program) (y_6 : T_roadref2_Wrong) (a_11 : List T_api_Expr) (x_12 : Int) (x_13 : Int) : roadref2_kindBody.l0 a_1 y_3 y_6 a_11 x_12 x_13 = if x_13 < x_12 then (Option.bind (gi a_11 x_13) fun y1 => Option.bind (roadref2_KindOf y_3 a_1 y1.Types) fun y19 => if y19 = (0 : Int) then ((roadref2_kindBody.l0 a_1 y_3 y_6 a_11 x_12 (IntKind.wrap .i64 (x_13 + (1 : Int))))) else (some ((T_roadref2_Wrong.mk y19 y1.At)))) else (some ((T_roadref2_Wrong.mk (0 : Int) (0 : Int)))) := fixF_eq roadref2_kindBody.l0_k.mono _
def roadref2_kindBody.l0_k.I : (p : roadref2_kindBody.l0_k.Pt) → (T_roadref2_Wrong) → Prop
  | .l0 a_1 y_3 y_6 a_11 x_12 x_13, r => ∀ (W : Nat → Prop) (h0 m0 h m : Heap) (A_1 : Option Addr) (n_1 c_1 : Nat) (bk_3 : Nat) (cs_3 : List Value) (bk_6 : Nat) (cs_6 : List Value) (A_11 : Option Addr) (n_11 c_11 : Nat) (O : Hold W h0 m0 h m [rV bk_3 54 cs_3, rV bk_6 59 cs_6, rR (aE T_api_Expr.T) A_11 c_11 a_11]) (ne_1 : n_1 = List.length a_1) (k_1 : List.length a_1 ≤ c_1) (r_1 : Rd 1 eStr m A_1 a_1) (e_3 : T_api_Program.E m y_3 cs_3) (e_6 : T_roadref2_Wrong.E m y_6 cs_6) (ne_11 : n_11 = List.length a_11), f46.l0 (roadref2_kindBody.post W h0 m0 r) A_1 n_1 c_1 (⟨bk_3, 0, none⟩ : Addr) (⟨bk_6, 0, none⟩ : Addr) A_11 n_11 c_11 x_12 x_13 h
set_option maxRecDepth 100000 in
theorem roadref2_kindBody.l0_k.step_l0 (go : (p : roadref2_kindBody.l0_k.Pt) → Option (T_roadref2_Wrong)) (ih : ∀ p r, go p = some r → roadref2_kindBody.l0_k.I p r) (a_1 : List ByteArray) (y_3 : T_api_Program) (y_6 : T_roadref2_Wrong) (a_11 : List T_api_Expr) (x_12 : Int) (x_13 : Int) (r : T_roadref2_Wrong) (e : roadref2_kindBody.l0_k.body go (.l0 a_1 y_3 y_6 a_11 x_12 x_13) = some r) : roadref2_kindBody.l0_k.I (.l0 a_1 y_3 y_6 a_11 x_12 x_13) r := by
  unfold roadref2_kindBody.l0_k.body at e
  intro W h0 m0 h m A_1 n_1 c_1 bk_3 cs_3 bk_6 cs_6 A_11 n_11 c_11 O ne_1 k_1 r_1 e_3 e_6 ne_11
  subst ne_1
  subst ne_11
  refine f46.l0_in ?_
  unfold f46.l0T
  refine split_dec_e e (fun c33 e => ?_) (fun c33 e => ?_)
  · obtain ⟨y1, g2, e⟩ := bind_e e
    refine (O.os 2 rfl).addr rfl g2 fun a3 cs4 ha5 hc6 he7 => ?_
    refine ⟨_, ldAn (Sub.refl _) hc6 rfl, ?_⟩
    refine O.new fun h8 x9 O10 => ?_
    refine ⟨_, rfl, (T_api_Expr.T.len _ _ _ he7), ?_⟩
    refine O10.stA 3 rfl (T_api_Expr.T.len _ _ _ he7) (T_api_Expr.T.flat _ _ _ he7) fun h12 O13 => ?_
    refine ⟨_, ldAn (Sub.refl _) (O13.all 0 rfl) (T_api_Program.T.len _ _ _ e_3), ?_⟩
    obtain ⟨A14, c15, q16, k17, r18⟩ := T_api_Expr.g4 he7
    refine ⟨_, ldk (k := 4) (Sub.refl _) (O13.all 3 rfl) q16, _, _, _, rfl, ?_⟩
    obtain ⟨y19, g20, e⟩ := bind_e e
    refine (roadref2_KindOf.walk (Hold.start (W := No) O13.s) e_3 rfl k_1 r_1 rfl k17 r18 g20).mono ?_
    rintro _ h21 ⟨m22, Q23, rfl⟩
    have O25 := Hold.nm (O13.retC Q23 vfs_nil)
    refine ⟨_, rfl, ?_⟩
    refine split_ne_e e (fun c29 e => ?_) (fun c29 e => ?_)
    · refine ⟨_, ldk (k := 7) (Sub.refl _) (O25.all 3 rfl) (T_api_Expr.g7 he7), _, rfl, ?_⟩
      refine ⟨_, rfl, rfl, ?_⟩
      refine O25.stA 1 rfl ((T_roadref2_Wrong.T.len _ _ _ e_6)).symm (Flats.cons trivial (Flats.cons trivial Flats.nil)) fun h26 O27 => ?_
      refine ⟨_, ldAn (Sub.refl _) (O27.all 1 rfl) rfl, ?_⟩
      have O28 := O27.nm
      cases e
      exact ⟨_, _, O28.pick [], rfl, (show T_roadref2_Wrong.E _ (T_roadref2_Wrong.mk y19 y1.At) [(Value.int .i64 y19), (Value.int .i64 y1.At)] from rfl)⟩
    · exact (ih _ _ e) _ _ _ _ _ _ _ _ _ _ _ _ _ _ _ (O25.pick [0, 1, 2]).nm rfl k_1 r_1 e_3 e_6 rfl
  · refine ⟨_, rfl, rfl, ?_⟩
    refine O.stA 1 rfl ((T_roadref2_Wrong.T.len _ _ _ e_6)).symm (Flats.cons trivial (Flats.cons trivial Flats.nil)) fun h30 O31 => ?_
    refine ⟨_, ldAn (Sub.refl _) (O31.all 1 rfl) rfl, ?_⟩
    have O32 := O31.nm
    cases e
    exact ⟨_, _, O32.pick [], rfl, (show T_roadref2_Wrong.E _ (T_roadref2_Wrong.mk (0 : Int) (0 : Int)) [(Value.int .i64 (0 : Int)), (Value.int .i64 (0 : Int))] from rfl)⟩
theorem roadref2_kindBody.l0_k.all {p : roadref2_kindBody.l0_k.Pt} {r : (T_roadref2_Wrong)} (e : roadref2_kindBody.l0_k.go p = some r) : roadref2_kindBody.l0_k.I p r := fixF_ind (β := fun _ => (T_roadref2_Wrong)) roadref2_kindBody.l0_k.mono (I := roadref2_kindBody.l0_k.I) (fun go ih p r e => match p with
  | .l0 a_1 y_3 y_6 a_11 x_12 x_13 => roadref2_kindBody.l0_k.step_l0 go ih a_1 y_3 y_6 a_11 x_12 x_13 r e
  ) e
theorem roadref2_kindBody.l0.walk {W : Nat → Prop} {h0 m0 h m : Heap} {A_1 : Option Addr} {n_1 c_1 : Nat} {bk_3 : Nat} {cs_3 : List Value} {bk_6 : Nat} {cs_6 : List Value} {A_11 : Option Addr} {n_11 c_11 : Nat} {a_1 : List ByteArray} {y_3 : T_api_Program} {y_6 : T_roadref2_Wrong} {a_11 : List T_api_Expr} {x_12 : Int} {x_13 : Int} (O : Hold W h0 m0 h m [rV bk_3 54 cs_3, rV bk_6 59 cs_6, rR (aE T_api_Expr.T) A_11 c_11 a_11]) (ne_1 : n_1 = List.length a_1) (k_1 : List.length a_1 ≤ c_1) (r_1 : Rd 1 eStr m A_1 a_1) (e_3 : T_api_Program.E m y_3 cs_3) (e_6 : T_roadref2_Wrong.E m y_6 cs_6) (ne_11 : n_11 = List.length a_11) {r : T_roadref2_Wrong} (e : roadref2_kindBody.l0 a_1 y_3 y_6 a_11 x_12 x_13 = some r) : f46.l0 (roadref2_kindBody.post W h0 m0 r) A_1 n_1 c_1 (⟨bk_3, 0, none⟩ : Addr) (⟨bk_6, 0, none⟩ : Addr) A_11 n_11 c_11 x_12 x_13 h := roadref2_kindBody.l0_k.all (p := .l0 a_1 y_3 y_6 a_11 x_12 x_13) e W h0 m0 h m A_1 n_1 c_1 bk_3 cs_3 bk_6 cs_6 A_11 n_11 c_11 O ne_1 k_1 r_1 e_3 e_6 ne_11
noncomputable def roadref2_kindBody (y_0 : T_api_Program) (a_1 : List ByteArray) (y_2 : T_api_Expr) : Option (T_roadref2_Wrong) :=
  Option.bind (roadref2_All y_2) fun y13 => (roadref2_kindBody.l0 a_1 y_0 (T_roadref2_Wrong.mk (0 : Int) (0 : Int)) y13 (((List.length y13) : Nat) : Int) (0 : Int))
set_option maxRecDepth 100000 in
theorem roadref2_kindBody.walk {W : Nat → Prop} {h m : Heap} {cs_0 : List Value} {A_1 : Option Addr} {n_1 c_1 : Nat} {cs_2 : List Value} {y_0 : T_api_Program} {a_1 : List ByteArray} {y_2 : T_api_Expr} (O : Hold W h m h m []) (e_0 : T_api_Program.E m y_0 cs_0) (ne_1 : n_1 = List.length a_1) (k_1 : List.length a_1 ≤ c_1) (r_1 : Rd 1 eStr m A_1 a_1) (e_2 : T_api_Expr.E m y_2 cs_2) {r : T_roadref2_Wrong} (e : roadref2_kindBody y_0 a_1 y_2 = some r) : Run Tryd.prog 46 #[Value.agg cs_0.toArray, Value.slice A_1 n_1 c_1, Value.agg cs_2.toArray] h (roadref2_kindBody.post W h m r) := by
  unfold roadref2_kindBody at e
  subst ne_1
  refine f46.run ?_
  unfold f46.runT
  refine O.new fun h1 x2 O3 => ?_
  refine O3.new fun h5 x6 O7 => ?_
  refine O7.new fun h9 x10 O11 => ?_
  refine ⟨_, ldAn (Sub.refl _) (O11.all 1 rfl) (T_api_Expr.T.len _ _ _ e_2), ?_⟩
  obtain ⟨y13, g14, e⟩ := bind_e e
  refine (roadref2_All.walk (Hold.start (W := No) O11.s) e_2 g14).mono ?_
  rintro _ h15 ⟨m16, A19, n20, c21, Q17, rfl, ne22⟩
  have O24 := Hold.nm (O11.ret Q17)
  subst ne22
  refine ⟨_, _, _, rfl, ?_⟩
  exact roadref2_kindBody.l0.walk (O24.pick [0, 2, 3]).nm rfl k_1 (r_1.sub tell_str Q17.S.up) (T_api_Program.T.mono _ _ _ _ Q17.S.up e_0) (show T_roadref2_Wrong.E _ (T_roadref2_Wrong.mk (0 : Int) (0 : Int)) [(Value.int .i64 (0 : Int)), (Value.int .i64 (0 : Int))] from rfl) rfl e
def slices_Grow_67.post (W : Nat → Prop) (h0 m0 : Heap) (r : (List ByteArray)) (v : Value) (h : Heap) : Prop := ∃ m A0 n0 c0, Hold W h0 m0 h m [rR (aE tell_str) A0 c0 r] ∧ v = .slice A0 n0 c0 ∧ n0 = List.length r
noncomputable def slices_Grow_67 (x1 : Int) : Option (List ByteArray) := if gro 16 x1 = true then some [] else none
set_option maxRecDepth 100000 in
theorem slices_Grow_67.walk {W : Nat → Prop} {h m : Heap} {x1 : Int} (O : Hold W h m h m []) {r : List ByteArray} (e : slices_Grow_67 x1 = some r) : Run Tryd.prog 67 #[Value.slice none 0 0, Value.int .i64 x1] h (slices_Grow_67.post W h m r) := by
  unfold slices_Grow_67 at e
  have S : St No h m h m := .refl O.s
  obtain ⟨g, e⟩ := guard_e e
  cases e
  refine f67.run ?_
  unfold f67.runT
  refine split_dec (fun c => absurd c (by have := of_decide_eq_true (show decide _ = true from g); omega)) (fun _ => ?_)
  refine f67.j0_in ?_
  unfold f67.j0T
  exact grow_nil S rfl (by decide) g (fun A' c' h' o' x' => ⟨m, _, _, _, O.add (R := rR (aE tell_str) A' c' []) (St.of_ext O.s x') o'.rowP o'.newNo, rfl, rfl⟩)
def slices_Concat_57.post (W : Nat → Prop) (h0 m0 : Heap) (r : (List ByteArray)) (v : Value) (h : Heap) : Prop := ∃ m A0 n0 c0, Hold W h0 m0 h m [rR (aE tell_str) A0 c0 r] ∧ v = .slice A0 n0 c0 ∧ n0 = List.length r
inductive slices_Concat_57.l1_k.Pt where
  | l1 (a_6 : List ByteArray) (a_25 : List (List ByteArray)) (x_26 : Int) (x_27 : Int)
noncomputable def slices_Concat_57.l1_k.body (go : (p : slices_Concat_57.l1_k.Pt) → Option ((List ByteArray))) : (p : slices_Concat_57.l1_k.Pt) → Option ((List ByteArray))
  | .l1 a_6 a_25 x_26 x_27 => if x_27 < x_26 then (Option.bind (gi a_25 x_27) fun y1 => Option.bind (ap 16 a_6 y1) fun l8 => (go (.l1 l8 a_25 x_26 (IntKind.wrap .i64 (x_27 + (1 : Int)))))) else (some (a_6))
theorem slices_Concat_57.l1_k.mono : MonoF (β := fun _ => ((List ByteArray))) slices_Concat_57.l1_k.body := fun f g hfg p => match p with
  | .l1 a_6 a_25 x_26 x_27 => LeO.ite (LeO.bind (LeO.refl _) fun y1 => LeO.bind (LeO.refl _) fun l8 => (hfg _)) (LeO.refl _)
noncomputable def slices_Concat_57.l1_k.go (p : slices_Concat_57.l1_k.Pt) : Option ((List ByteArray)) := fixF (β := fun _ => ((List ByteArray))) slices_Concat_57.l1_k.body p
noncomputable def slices_Concat_57.l1 (a_6 : List ByteArray) (a_25 : List (List ByteArray)) (x_26 : Int) (x_27 : Int) : Option ((List ByteArray)) := slices_Concat_57.l1_k.go (.l1 a_6 a_25 x_26 x_27)
theorem slices_Concat_57.l1_eq (a_6 : List ByteArray) (a_25 : List (List ByteArray)) (x_26 : Int) (x_27 : Int) : slices_Concat_57.l1 a_6 a_25 x_26 x_27 = if x_27 < x_26 then (Option.bind (gi a_25 x_27) fun y1 => Option.bind (ap 16 a_6 y1) fun l8 => (slices_Concat_57.l1 l8 a_25 x_26 (IntKind.wrap .i64 (x_27 + (1 : Int))))) else (some (a_6)) := fixF_eq slices_Concat_57.l1_k.mono _
def slices_Concat_57.l1_k.I : (p : slices_Concat_57.l1_k.Pt) → ((List ByteArray)) → Prop
  | .l1 a_6 a_25 x_26 x_27, r => ∀ (W : Nat → Prop) (h0 m0 h m : Heap) (A_6 : Option Addr) (n_6 c_6 : Nat) (A_25 : Option Addr) (n_25 c_25 : Nat) (O : Hold W h0 m0 h m [rR (aE tell_str) A_6 c_6 a_6]) (ne_6 : n_6 = List.length a_6) (ne_25 : n_25 = List.length a_25) (k_25 : List.length a_25 ≤ c_25) (r_25 : Rd 1 (eRow 1 eStr) m A_25 a_25), f57.l1 (slices_Concat_57.post W h0 m0 r) A_6 n_6 c_6 A_25 n_25 c_25 x_26 x_27 h
set_option maxRecDepth 100000 in
theorem slices_Concat_57.l1_k.step_l1 (go : (p : slices_Concat_57.l1_k.Pt) → Option ((List ByteArray))) (ih : ∀ p r, go p = some r → slices_Concat_57.l1_k.I p r) (a_6 : List ByteArray) (a_25 : List (List ByteArray)) (x_26 : Int) (x_27 : Int) (r : (List ByteArray)) (e : slices_Concat_57.l1_k.body go (.l1 a_6 a_25 x_26 x_27) = some r) : slices_Concat_57.l1_k.I (.l1 a_6 a_25 x_26 x_27) r := by
  unfold slices_Concat_57.l1_k.body at e
  intro W h0 m0 h m A_6 n_6 c_6 A_25 n_25 c_25 O ne_6 ne_25 k_25 r_25
  subst ne_6
  subst ne_25
  refine f57.l1_in ?_
  unfold f57.l1T
  refine split_dec_e e (fun c17 e => ?_) (fun c17 e => ?_)
  · obtain ⟨y1, g2, e⟩ := bind_e e
    refine r_25.addr rfl g2 fun a3 cs4 ha5 hc6 he7 => ?_
    obtain ⟨Acs4_0, ccs4_0, rfl, kcs4_0, rcs4_0⟩ := id he7
    refine ⟨_, ld0 O.s hc6 rfl, _, _, _, rfl, ?_⟩
    obtain ⟨l8, g9, e⟩ := bind_e e
    refine O.app 0 rfl rfl rfl (Rd.srcE rcs4_0 tell_str O.s rfl) (by decide) g9 fun A10 c11 h12 O13 => ?_
    refine ⟨_, _, _, rfl, ?_⟩
    have O16 := O13.nm
    exact (ih _ _ e) _ _ _ _ _ _ _ _ _ _ _ (O16.pick [0]).nm rfl rfl k_25 r_25
  · cases e
    exact ⟨_, _, _, _, O.pick [0], rfl, rfl⟩
theorem slices_Concat_57.l1_k.all {p : slices_Concat_57.l1_k.Pt} {r : ((List ByteArray))} (e : slices_Concat_57.l1_k.go p = some r) : slices_Concat_57.l1_k.I p r := fixF_ind (β := fun _ => ((List ByteArray))) slices_Concat_57.l1_k.mono (I := slices_Concat_57.l1_k.I) (fun go ih p r e => match p with
  | .l1 a_6 a_25 x_26 x_27 => slices_Concat_57.l1_k.step_l1 go ih a_6 a_25 x_26 x_27 r e
  ) e
theorem slices_Concat_57.l1.walk {W : Nat → Prop} {h0 m0 h m : Heap} {A_6 : Option Addr} {n_6 c_6 : Nat} {A_25 : Option Addr} {n_25 c_25 : Nat} {a_6 : List ByteArray} {a_25 : List (List ByteArray)} {x_26 : Int} {x_27 : Int} (O : Hold W h0 m0 h m [rR (aE tell_str) A_6 c_6 a_6]) (ne_6 : n_6 = List.length a_6) (ne_25 : n_25 = List.length a_25) (k_25 : List.length a_25 ≤ c_25) (r_25 : Rd 1 (eRow 1 eStr) m A_25 a_25) {r : (List ByteArray)} (e : slices_Concat_57.l1 a_6 a_25 x_26 x_27 = some r) : f57.l1 (slices_Concat_57.post W h0 m0 r) A_6 n_6 c_6 A_25 n_25 c_25 x_26 x_27 h := slices_Concat_57.l1_k.all (p := .l1 a_6 a_25 x_26 x_27) e W h0 m0 h m A_6 n_6 c_6 A_25 n_25 c_25 O ne_6 ne_25 k_25 r_25
inductive slices_Concat_57.l0_k.Pt where
  | l0 (a_0 : List (List ByteArray)) (x_3 : Int) (a_9 : List (List ByteArray)) (x_10 : Int) (x_11 : Int)
noncomputable def slices_Concat_57.l0_k.body (go : (p : slices_Concat_57.l0_k.Pt) → Option ((List ByteArray))) : (p : slices_Concat_57.l0_k.Pt) → Option ((List ByteArray))
  | .l0 a_0 x_3 a_9 x_10 x_11 => if x_11 < x_10 then (Option.bind (gi a_9 x_11) fun y1 => if (IntKind.wrap .i64 (x_3 + (((List.length y1) : Nat) : Int))) < (0 : Int) then ((none : Option _)) else ((go (.l0 a_0 (IntKind.wrap .i64 (x_3 + (((List.length y1) : Nat) : Int))) a_9 x_10 (IntKind.wrap .i64 (x_11 + (1 : Int))))))) else (Option.bind (slices_Grow_67 x_3) fun y9 => (slices_Concat_57.l1 y9 a_0 (((List.length a_0) : Nat) : Int) (0 : Int)))
theorem slices_Concat_57.l0_k.mono : MonoF (β := fun _ => ((List ByteArray))) slices_Concat_57.l0_k.body := fun f g hfg p => match p with
  | .l0 a_0 x_3 a_9 x_10 x_11 => LeO.ite (LeO.bind (LeO.refl _) fun y1 => LeO.ite (LeO.refl _) ((hfg _))) (LeO.bind (LeO.refl _) fun y9 => (LeO.refl _))
noncomputable def slices_Concat_57.l0_k.go (p : slices_Concat_57.l0_k.Pt) : Option ((List ByteArray)) := fixF (β := fun _ => ((List ByteArray))) slices_Concat_57.l0_k.body p
noncomputable def slices_Concat_57.l0 (a_0 : List (List ByteArray)) (x_3 : Int) (a_9 : List (List ByteArray)) (x_10 : Int) (x_11 : Int) : Option ((List ByteArray)) := slices_Concat_57.l0_k.go (.l0 a_0 x_3 a_9 x_10 x_11)
theorem slices_Concat_57.l0_eq (a_0 : List (List ByteArray)) (x_3 : Int) (a_9 : List (List ByteArray)) (x_10 : Int) (x_11 : Int) : slices_Concat_57.l0 a_0 x_3 a_9 x_10 x_11 = if x_11 < x_10 then (Option.bind (gi a_9 x_11) fun y1 => if (IntKind.wrap .i64 (x_3 + (((List.length y1) : Nat) : Int))) < (0 : Int) then ((none : Option _)) else ((slices_Concat_57.l0 a_0 (IntKind.wrap .i64 (x_3 + (((List.length y1) : Nat) : Int))) a_9 x_10 (IntKind.wrap .i64 (x_11 + (1 : Int)))))) else (Option.bind (slices_Grow_67 x_3) fun y9 => (slices_Concat_57.l1 y9 a_0 (((List.length a_0) : Nat) : Int) (0 : Int))) := fixF_eq slices_Concat_57.l0_k.mono _
def slices_Concat_57.l0_k.I : (p : slices_Concat_57.l0_k.Pt) → ((List ByteArray)) → Prop
  | .l0 a_0 x_3 a_9 x_10 x_11, r => ∀ (W : Nat → Prop) (h0 m0 h m : Heap) (A_0 : Option Addr) (n_0 c_0 : Nat) (A_9 : Option Addr) (n_9 c_9 : Nat) (O : Hold W h0 m0 h m []) (ne_0 : n_0 = List.length a_0) (k_0 : List.length a_0 ≤ c_0) (r_0 : Rd 1 (eRow 1 eStr) m A_0 a_0) (ne_9 : n_9 = List.length a_9) (k_9 : List.length a_9 ≤ c_9) (r_9 : Rd 1 (eRow 1 eStr) m A_9 a_9), f57.l0 (slices_Concat_57.post W h0 m0 r) A_0 n_0 c_0 x_3 A_9 n_9 c_9 x_10 x_11 h
set_option maxRecDepth 100000 in
theorem slices_Concat_57.l0_k.step_l0 (go : (p : slices_Concat_57.l0_k.Pt) → Option ((List ByteArray))) (ih : ∀ p r, go p = some r → slices_Concat_57.l0_k.I p r) (a_0 : List (List ByteArray)) (x_3 : Int) (a_9 : List (List ByteArray)) (x_10 : Int) (x_11 : Int) (r : (List ByteArray)) (e : slices_Concat_57.l0_k.body go (.l0 a_0 x_3 a_9 x_10 x_11) = some r) : slices_Concat_57.l0_k.I (.l0 a_0 x_3 a_9 x_10 x_11) r := by
  unfold slices_Concat_57.l0_k.body at e
  intro W h0 m0 h m A_0 n_0 c_0 A_9 n_9 c_9 O ne_0 k_0 r_0 ne_9 k_9 r_9
  subst ne_0
  subst ne_9
  refine f57.l0_in ?_
  unfold f57.l0T
  refine split_dec_e e (fun c21 e => ?_) (fun c21 e => ?_)
  · obtain ⟨y1, g2, e⟩ := bind_e e
    refine r_9.addr rfl g2 fun a3 cs4 ha5 hc6 he7 => ?_
    obtain ⟨Acs4_0, ccs4_0, rfl, kcs4_0, rcs4_0⟩ := id he7
    refine ⟨_, ld0 O.s hc6 rfl, _, _, _, rfl, ?_⟩
    refine split_dec_e e (fun c8 e => ?_) (fun c8 e => ?_)
    · cases e
    · exact (ih _ _ e) _ _ _ _ _ _ _ _ _ _ _ (O.pick []).nm rfl k_0 r_0 rfl k_9 r_9
  · obtain ⟨y9, g10, e⟩ := bind_e e
    refine (slices_Grow_67.walk (Hold.start (W := No) O.s)  g10).mono ?_
    rintro _ h11 ⟨m12, A15, n16, c17, Q13, rfl, ne18⟩
    have O20 := Hold.nm (O.retC Q13 (vfs_cons (rR_vf (aE_vf (fun _ _ _ _ h => h))) vfs_nil))
    subst ne18
    refine ⟨_, _, _, rfl, ?_⟩
    exact slices_Concat_57.l1.walk (O20.pick [0]).nm rfl rfl k_0 r_0 e
theorem slices_Concat_57.l0_k.all {p : slices_Concat_57.l0_k.Pt} {r : ((List ByteArray))} (e : slices_Concat_57.l0_k.go p = some r) : slices_Concat_57.l0_k.I p r := fixF_ind (β := fun _ => ((List ByteArray))) slices_Concat_57.l0_k.mono (I := slices_Concat_57.l0_k.I) (fun go ih p r e => match p with
  | .l0 a_0 x_3 a_9 x_10 x_11 => slices_Concat_57.l0_k.step_l0 go ih a_0 x_3 a_9 x_10 x_11 r e
  ) e
theorem slices_Concat_57.l0.walk {W : Nat → Prop} {h0 m0 h m : Heap} {A_0 : Option Addr} {n_0 c_0 : Nat} {A_9 : Option Addr} {n_9 c_9 : Nat} {a_0 : List (List ByteArray)} {x_3 : Int} {a_9 : List (List ByteArray)} {x_10 : Int} {x_11 : Int} (O : Hold W h0 m0 h m []) (ne_0 : n_0 = List.length a_0) (k_0 : List.length a_0 ≤ c_0) (r_0 : Rd 1 (eRow 1 eStr) m A_0 a_0) (ne_9 : n_9 = List.length a_9) (k_9 : List.length a_9 ≤ c_9) (r_9 : Rd 1 (eRow 1 eStr) m A_9 a_9) {r : (List ByteArray)} (e : slices_Concat_57.l0 a_0 x_3 a_9 x_10 x_11 = some r) : f57.l0 (slices_Concat_57.post W h0 m0 r) A_0 n_0 c_0 x_3 A_9 n_9 c_9 x_10 x_11 h := slices_Concat_57.l0_k.all (p := .l0 a_0 x_3 a_9 x_10 x_11) e W h0 m0 h m A_0 n_0 c_0 A_9 n_9 c_9 O ne_0 k_0 r_0 ne_9 k_9 r_9
noncomputable def slices_Concat_57 (a_0 : List (List ByteArray)) : Option ((List ByteArray)) :=
  (slices_Concat_57.l0 a_0 (0 : Int) a_0 (((List.length a_0) : Nat) : Int) (0 : Int))
set_option maxRecDepth 100000 in
theorem slices_Concat_57.walk {W : Nat → Prop} {h m : Heap} {A_0 : Option Addr} {n_0 c_0 : Nat} {a_0 : List (List ByteArray)} (O : Hold W h m h m []) (ne_0 : n_0 = List.length a_0) (k_0 : List.length a_0 ≤ c_0) (r_0 : Rd 1 (eRow 1 eStr) m A_0 a_0) {r : (List ByteArray)} (e : slices_Concat_57 a_0 = some r) : Run Tryd.prog 57 #[Value.slice A_0 n_0 c_0] h (slices_Concat_57.post W h m r) := by
  unfold slices_Concat_57 at e
  subst ne_0
  refine f57.run ?_
  unfold f57.runT
  exact slices_Concat_57.l0.walk (O.pick []).nm rfl k_0 r_0 rfl k_0 r_0 e
theorem slices_Concat_57.val (ls : List (List ByteArray)) (hl : ls.length ≤ 4611686018427387904) (hs : ls.flatten.length * 16 ≤ 140737488355328) : slices_Concat_57 ls = some ls.flatten := concat_val (B := 16) (by decide) (fun r a n i => slices_Concat_57.l1_eq r a n i) (fun a s b n i => slices_Concat_57.l0_eq a s b n i) (gr := slices_Grow_67) (fun _ => rfl) (fun _ => rfl) ls hl hs
def roadref2_kindFun.post (W : Nat → Prop) (h0 m0 : Heap) (r : T_roadref2_Wrong) (v : Value) (h : Heap) : Prop := ∃ m cs0, Hold W h0 m0 h m [] ∧ v = .agg cs0.toArray ∧ T_roadref2_Wrong.E m r cs0
noncomputable def roadref2_kindFun (y_0 : T_api_Program) (a_1 : List ByteArray) (y_2 : T_api_Func) : Option (T_roadref2_Wrong) :=
  Option.bind (slices_Concat_57 ([a_1, y_2.Params] : List (List ByteArray))) fun y23 => Option.bind (slices_Concat_31 ([y_2.Types, ([y_2.Out] : List T_api_Type)] : List (List T_api_Type))) fun y64 => Option.bind (roadref2_KindOf y_0 y23 y64) fun y84 => if y84 = (0 : Int) then (if y_2.Body.Kind = (0 : Int) then (some ((T_roadref2_Wrong.mk (0 : Int) (0 : Int)))) else (Option.bind (roadref2_kindBody y_0 y23 y_2.Body) fun y106 => some (y106))) else (some ((T_roadref2_Wrong.mk y84 (0 : Int))))
set_option maxHeartbeats 4000000 in
set_option maxRecDepth 100000 in
theorem roadref2_kindFun.walk {W : Nat → Prop} {h m : Heap} {cs_0 : List Value} {A_1 : Option Addr} {n_1 c_1 : Nat} {cs_2 : List Value} {y_0 : T_api_Program} {a_1 : List ByteArray} {y_2 : T_api_Func} (O : Hold W h m h m []) (e_0 : T_api_Program.E m y_0 cs_0) (ne_1 : n_1 = List.length a_1) (k_1 : List.length a_1 ≤ c_1) (r_1 : Rd 1 eStr m A_1 a_1) (e_2 : T_api_Func.E m y_2 cs_2) {r : T_roadref2_Wrong} (e : roadref2_kindFun y_0 a_1 y_2 = some r) : Run Tryd.prog 44 #[Value.agg cs_0.toArray, Value.slice A_1 n_1 c_1, Value.agg cs_2.toArray] h (roadref2_kindFun.post W h m r) := by
  unfold roadref2_kindFun at e
  subst ne_1
  refine f44.run ?_
  unfold f44.runT
  refine O.new fun h1 x2 O3 => ?_
  refine O3.new fun h5 x6 O7 => ?_
  refine O7.new fun h9 x10 O11 => ?_
  obtain ⟨A13, c14, q15, k16, r17⟩ := T_api_Func.g1 e_2
  refine ⟨_, ldk (k := 1) (Sub.refl _) (O11.all 1 rfl) q15, _, _, _, rfl, ?_⟩
  refine O11.new fun h18 x19 O20 => ?_
  obtain ⟨y23, g24, e⟩ := bind_e e
  have O22 := O20.rowE (l := ([a_1, y_2.Params] : List (List ByteArray))) 3 rfl (tell_row tell_str) (show CsE _ _ _ _ _ from (CsE.cons (c1 := [(Value.slice A_1 (List.length a_1) c_1)]) ⟨_, _, rfl, k_1, r_1⟩ rfl (CsE.cons (c1 := [(Value.slice A13 (List.length y_2.Params) c14)]) ⟨_, _, rfl, k16, r17⟩ rfl CsE.nil))) rfl
  have O29 := O22.nm
  obtain ⟨m30, u31, s36, ⟨⟨r34, k35⟩, _⟩, B32, C33⟩ := O29.lend0 [3]
  replace r34 : Rd 1 (eRow 1 eStr) m30 (some ⟨(Array.size h9), 0, none⟩) ([a_1, y_2.Params] : List (List ByteArray)) := r34
  replace k35 : List.length ([a_1, y_2.Params] : List (List ByteArray)) ≤ 2 := k35
  refine (slices_Concat_57.walk (Hold.start (W := No) s36) rfl k35 r34 g24).mono ?_
  rintro _ h25 ⟨m26, A37, n38, c39, Q27, rfl, ne40⟩
  have O42 := Hold.nm (C33 Q27 (vfs_cons (rR_vf (aE_vf (fun _ _ _ _ h => h))) vfs_nil))
  subst ne40
  refine ⟨_, _, _, rfl, ?_⟩
  refine ⟨_, ldAn (Sub.refl _) (O42.all 0 rfl) (T_api_Program.T.len _ _ _ e_0), ?_⟩
  obtain ⟨A43, c44, q45, k46, r47⟩ := T_api_Func.g3 e_2
  refine ⟨_, ldk (k := 3) (Sub.refl _) (O42.all 1 rfl) q45, _, _, _, rfl, ?_⟩
  refine ⟨_, ldAkn (Sub.refl _) (O42.all 1 rfl) 4 3 (le_len (T_api_Func.T.len _ _ _ e_2) (by decide)), ?_⟩
  refine ⟨(List.take 3 (List.drop 4 cs_2)), rfl, (T_api_Type.T.len _ _ _ (T_api_Func.u4_25 e_2)), ?_⟩
  refine O42.new fun h48 x49 O50 => ?_
  have O52 := O50.recell 5 rfl (cs' := (List.take 3 (List.drop 4 cs_2)) ++ []) rfl
  refine ⟨x49, ?_⟩
  refine O52.new fun h53 x54 O55 => ?_
  refine ⟨x54, ?_⟩
  obtain ⟨y64, g65, e⟩ := bind_e e
  have O57 := O55.rowE (l := ([y_2.Out] : List T_api_Type)) 5 rfl T_api_Type.T (show CsE _ _ _ _ _ from (CsE.cons (T_api_Func.u4_25 e_2) (T_api_Type.T.len _ _ _ (T_api_Func.u4_25 e_2)) CsE.nil)) rfl
  obtain ⟨m58, u59, ⟨r60, k61⟩, O62⟩ := O57.frz 5 rfl
  replace r60 : Rd 3 T_api_Type.E m58 (some ⟨(Array.size h25), 0, none⟩) ([y_2.Out] : List T_api_Type) := r60
  have O63 := O62.rowE (l := ([y_2.Types, ([y_2.Out] : List T_api_Type)] : List (List T_api_Type))) 6 rfl (tell_row T_api_Type.T) (show CsE _ _ _ _ _ from (CsE.cons (c1 := [(Value.slice A43 (List.length y_2.Types) c44)]) ⟨_, _, rfl, k46, (r47.sub T_api_Type.T u59)⟩ rfl (CsE.cons (c1 := [(Value.slice (some ⟨(Array.size h25), 0, none⟩) 1 1)]) ⟨_, _, rfl, k61, r60⟩ rfl CsE.nil))) rfl
  have O70 := O63.nm
  obtain ⟨m71, u72, s77, ⟨⟨r75, k76⟩, _⟩, B73, C74⟩ := O70.lend0 [6]
  replace r75 : Rd 1 (eRow 3 T_api_Type.E) m71 (some ⟨(Array.size h48), 0, none⟩) ([y_2.Types, ([y_2.Out] : List T_api_Type)] : List (List T_api_Type)) := r75
  replace k76 : List.length ([y_2.Types, ([y_2.Out] : List T_api_Type)] : List (List T_api_Type)) ≤ 2 := k76
  refine (slices_Concat_31.walk (Hold.start (W := No) s77) rfl k76 r75 g65).mono ?_
  rintro _ h66 ⟨m67, A78, n79, c80, Q68, rfl, ne81⟩
  have O83 := Hold.nm (B73 Q68)
  subst ne81
  refine ⟨_, _, _, rfl, ?_⟩
  refine ⟨Q68.S.ext, ?_⟩
  obtain ⟨y84, g85, e⟩ := bind_e e
  obtain ⟨m90, u91, s98, ⟨⟨r94, k95⟩, ⟨r96, k97⟩, _⟩, B92, C93⟩ := O83.lend0 [4, 7]
  replace r94 : Rd 1 eStr m90 A37 y23 := r94
  replace k95 : List.length y23 ≤ c39 := k95
  replace r96 : Rd 3 T_api_Type.E m90 A78 y64 := r96
  replace k97 : List.length y64 ≤ c80 := k97
  refine (roadref2_KindOf.walk (Hold.start (W := No) s98) (T_api_Program.T.mono _ _ _ _ (u59.trans (u72.trans (Q68.S.up.trans u91))) e_0) rfl k95 r94 rfl k97 r96 g85).mono ?_
  rintro _ h86 ⟨m87, Q88, rfl⟩
  have O99 := Hold.nm (C93 Q88 vfs_nil)
  refine ⟨_, rfl, ?_⟩
  refine split_ne_e e (fun c127 e => ?_) (fun c127 e => ?_)
  · refine ⟨_, rfl, rfl, ?_⟩
    refine O99.stA 2 rfl rfl (Flats.cons trivial (Flats.cons trivial Flats.nil)) fun h100 O101 => ?_
    refine ⟨_, ldAn (Sub.refl _) (O101.all 2 rfl) rfl, ?_⟩
    have O102 := O101.nm
    cases e
    exact ⟨_, _, O102.pick [], rfl, (show T_roadref2_Wrong.E _ (T_roadref2_Wrong.mk y84 (0 : Int)) [(Value.int .i64 y84), (Value.int .i64 (0 : Int))] from rfl)⟩
  · refine ⟨_, ldk (k := 7) (Sub.refl _) (O99.all 1 rfl) (T_api_Func.g7 e_2), _, rfl, ?_⟩
    refine split_eq_e e (fun c126 e => ?_) (fun c126 e => ?_)
    · refine ⟨_, rfl, rfl, ?_⟩
      refine O99.stA 2 rfl rfl (Flats.cons trivial (Flats.cons trivial Flats.nil)) fun h103 O104 => ?_
      refine ⟨_, ldAn (Sub.refl _) (O104.all 2 rfl) rfl, ?_⟩
      have O105 := O104.nm
      cases e
      exact ⟨_, _, O105.pick [], rfl, (show T_roadref2_Wrong.E _ (T_roadref2_Wrong.mk (0 : Int) (0 : Int)) [(Value.int .i64 (0 : Int)), (Value.int .i64 (0 : Int))] from rfl)⟩
    · refine ⟨_, ldAn (Sub.refl _) (O99.all 0 rfl) (T_api_Program.T.len _ _ _ e_0), ?_⟩
      refine ⟨_, ldAkn (Sub.refl _) (O99.all 1 rfl) 7 8 (le_len (T_api_Func.T.len _ _ _ e_2) (by decide)), ?_⟩
      obtain ⟨y106, g107, e⟩ := bind_e e
      obtain ⟨m112, u113, s118, ⟨⟨r116, k117⟩, _⟩, B114, C115⟩ := O99.lend0 [4]
      replace r116 : Rd 1 eStr m112 A37 y23 := r116
      replace k117 : List.length y23 ≤ c39 := k117
      refine (roadref2_kindBody.walk (Hold.start (W := No) s118) (T_api_Program.T.mono _ _ _ _ (u59.trans (u72.trans (Q68.S.up.trans u113))) e_0) rfl k117 r116 (T_api_Expr.T.mono _ _ _ _ (u59.trans (u72.trans (Q68.S.up.trans u113))) (T_api_Func.u7_87 e_2)) g107).mono ?_
      rintro _ h108 ⟨m109, cs120, Q110, rfl, he121⟩
      replace he121 : T_roadref2_Wrong.E m67 y106 cs120 := T_roadref2_Wrong.keep he121
      have O122 := Hold.nm (C115 Q110 vfs_nil)
      refine ⟨_, rfl, (T_roadref2_Wrong.T.len _ _ _ he121), ?_⟩
      refine O122.stA 2 rfl (T_roadref2_Wrong.T.len _ _ _ he121) (T_roadref2_Wrong.T.flat _ _ _ he121) fun h123 O124 => ?_
      refine ⟨_, ldAn (Sub.refl _) (O124.all 2 rfl) (T_roadref2_Wrong.T.len _ _ _ he121), ?_⟩
      have O125 := O124.nm
      cases e
      exact ⟨_, _, O125.pick [], rfl, he121⟩
def roadref2_KindsOf.post (W : Nat → Prop) (h0 m0 : Heap) (r : T_roadref2_Wrong) (v : Value) (h : Heap) : Prop := ∃ m cs0, Hold W h0 m0 h m [] ∧ v = .agg cs0.toArray ∧ T_roadref2_Wrong.E m r cs0
inductive roadref2_KindsOf.l3_k.Pt where
  | l3 (y_1 : T_api_Program) (y_2 : T_roadref2_Wrong) (a_86 : List T_api_Actor) (x_87 : Int) (x_88 : Int)
noncomputable def roadref2_KindsOf.l3_k.body (go : (p : roadref2_KindsOf.l3_k.Pt) → Option (T_roadref2_Wrong)) : (p : roadref2_KindsOf.l3_k.Pt) → Option (T_roadref2_Wrong)
  | .l3 y_1 y_2 a_86 x_87 x_88 => if x_88 < x_87 then (Option.bind (gi a_86 x_88) fun y1 => Option.bind (slices_Concat_31 ([y1.Types, ([y1.Msg] : List T_api_Type)] : List (List T_api_Type))) fun y35 => Option.bind (roadref2_KindOf y_1 ([] : List ByteArray) y35) fun y55 => if y55 = (0 : Int) then (Option.bind (roadref2_kindBody y_1 ([] : List ByteArray) y1.Body) fun y72 => if y72.E_ = (0 : Int) then ((go (.l3 y_1 y_2 a_86 x_87 (IntKind.wrap .i64 (x_88 + (1 : Int)))))) else (some (y72))) else (some ((T_roadref2_Wrong.mk y55 (0 : Int))))) else (some ((T_roadref2_Wrong.mk (0 : Int) (0 : Int))))
theorem roadref2_KindsOf.l3_k.mono : MonoF (β := fun _ => (T_roadref2_Wrong)) roadref2_KindsOf.l3_k.body := fun f g hfg p => match p with
  | .l3 y_1 y_2 a_86 x_87 x_88 => LeO.ite (LeO.bind (LeO.refl _) fun y1 => LeO.bind (LeO.refl _) fun y35 => LeO.bind (LeO.refl _) fun y55 => LeO.ite (LeO.bind (LeO.refl _) fun y72 => LeO.ite ((hfg _)) (LeO.refl _)) (LeO.refl _)) (LeO.refl _)
noncomputable def roadref2_KindsOf.l3_k.go (p : roadref2_KindsOf.l3_k.Pt) : Option (T_roadref2_Wrong) := fixF (β := fun _ => (T_roadref2_Wrong)) roadref2_KindsOf.l3_k.body p
noncomputable def roadref2_KindsOf.l3 (y_1 : T_api_Program) (y_2 : T_roadref2_Wrong) (a_86 : List T_api_Actor) (x_87 : Int) (x_88 : Int) : Option (T_roadref2_Wrong) := roadref2_KindsOf.l3_k.go (.l3 y_1 y_2 a_86 x_87 x_88)
theorem roadref2_KindsOf.l3_eq (y_1 : T_api_Program) (y_2 : T_roadref2_Wrong) (a_86 : List T_api_Actor) (x_87 : Int) (x_88 : Int) : roadref2_KindsOf.l3 y_1 y_2 a_86 x_87 x_88 = if x_88 < x_87 then (Option.bind (gi a_86 x_88) fun y1 => Option.bind (slices_Concat_31 ([y1.Types, ([y1.Msg] : List T_api_Type)] : List (List T_api_Type))) fun y35 => Option.bind (roadref2_KindOf y_1 ([] : List ByteArray) y35) fun y55 => if y55 = (0 : Int) then (Option.bind (roadref2_kindBody y_1 ([] : List ByteArray) y1.Body) fun y72 => if y72.E_ = (0 : Int) then ((roadref2_KindsOf.l3 y_1 y_2 a_86 x_87 (IntKind.wrap .i64 (x_88 + (1 : Int))))) else (some (y72))) else (some ((T_roadref2_Wrong.mk y55 (0 : Int))))) else (some ((T_roadref2_Wrong.mk (0 : Int) (0 : Int)))) := fixF_eq roadref2_KindsOf.l3_k.mono _
def roadref2_KindsOf.l3_k.I : (p : roadref2_KindsOf.l3_k.Pt) → (T_roadref2_Wrong) → Prop
  | .l3 y_1 y_2 a_86 x_87 x_88, r => ∀ (W : Nat → Prop) (h0 m0 h m : Heap) (bk_1 : Nat) (cs_1 : List Value) (bk_2 : Nat) (cs_2 : List Value) (A_86 : Option Addr) (n_86 c_86 : Nat) (O : Hold W h0 m0 h m [rV bk_1 54 cs_1, rV bk_2 59 cs_2]) (e_1 : T_api_Program.E m y_1 cs_1) (e_2 : T_roadref2_Wrong.E m y_2 cs_2) (ne_86 : n_86 = List.length a_86) (k_86 : List.length a_86 ≤ c_86) (r_86 : Rd 14 T_api_Actor.E m A_86 a_86), f22.l3 (roadref2_KindsOf.post W h0 m0 r) (⟨bk_1, 0, none⟩ : Addr) (⟨bk_2, 0, none⟩ : Addr) A_86 n_86 c_86 x_87 x_88 h
set_option maxHeartbeats 4000000 in
set_option maxRecDepth 100000 in
theorem roadref2_KindsOf.l3_k.step_l3 (go : (p : roadref2_KindsOf.l3_k.Pt) → Option (T_roadref2_Wrong)) (ih : ∀ p r, go p = some r → roadref2_KindsOf.l3_k.I p r) (y_1 : T_api_Program) (y_2 : T_roadref2_Wrong) (a_86 : List T_api_Actor) (x_87 : Int) (x_88 : Int) (r : T_roadref2_Wrong) (e : roadref2_KindsOf.l3_k.body go (.l3 y_1 y_2 a_86 x_87 x_88) = some r) : roadref2_KindsOf.l3_k.I (.l3 y_1 y_2 a_86 x_87 x_88) r := by
  unfold roadref2_KindsOf.l3_k.body at e
  intro W h0 m0 h m bk_1 cs_1 bk_2 cs_2 A_86 n_86 c_86 O e_1 e_2 ne_86 k_86 r_86
  subst ne_86
  refine f22.l3_in ?_
  unfold f22.l3T
  refine split_dec_e e (fun c97 e => ?_) (fun c97 e => ?_)
  · obtain ⟨y1, g2, e⟩ := bind_e e
    refine r_86.addr rfl g2 fun a3 cs4 ha5 hc6 he7 => ?_
    refine ⟨_, ldAn O.s hc6 rfl, ?_⟩
    refine O.new fun h8 x9 O10 => ?_
    refine ⟨_, rfl, (T_api_Actor.T.len _ _ _ he7), ?_⟩
    refine O10.stA 2 rfl (T_api_Actor.T.len _ _ _ he7) (T_api_Actor.T.flat _ _ _ he7) fun h12 O13 => ?_
    refine ⟨_, ldAn (Sub.refl _) (O13.all 0 rfl) (T_api_Program.T.len _ _ _ e_1), ?_⟩
    obtain ⟨A14, c15, q16, k17, r18⟩ := T_api_Actor.g2 he7
    refine ⟨_, ldk (k := 2) (Sub.refl _) (O13.all 2 rfl) q16, _, _, _, rfl, ?_⟩
    refine ⟨_, ldAkn (Sub.refl _) (O13.all 2 rfl) 3 3 (le_len (T_api_Actor.T.len _ _ _ he7) (by decide)), ?_⟩
    refine ⟨(List.take 3 (List.drop 3 cs4)), rfl, (T_api_Type.T.len _ _ _ (T_api_Actor.u3_25 he7)), ?_⟩
    refine O13.new fun h19 x20 O21 => ?_
    have O23 := O21.recell 3 rfl (cs' := (List.take 3 (List.drop 3 cs4)) ++ []) rfl
    refine ⟨x20, ?_⟩
    refine O23.new fun h24 x25 O26 => ?_
    refine ⟨x25, ?_⟩
    obtain ⟨y35, g36, e⟩ := bind_e e
    have O28 := O26.rowE (l := ([y1.Msg] : List T_api_Type)) 3 rfl T_api_Type.T (show CsE _ _ _ _ _ from (CsE.cons (T_api_Actor.u3_25 he7) (T_api_Type.T.len _ _ _ (T_api_Actor.u3_25 he7)) CsE.nil)) rfl
    obtain ⟨m29, u30, ⟨r31, k32⟩, O33⟩ := O28.frz 3 rfl
    replace r31 : Rd 3 T_api_Type.E m29 (some ⟨(Array.size h12), 0, none⟩) ([y1.Msg] : List T_api_Type) := r31
    have O34 := O33.rowE (l := ([y1.Types, ([y1.Msg] : List T_api_Type)] : List (List T_api_Type))) 4 rfl (tell_row T_api_Type.T) (show CsE _ _ _ _ _ from (CsE.cons (c1 := [(Value.slice A14 (List.length y1.Types) c15)]) ⟨_, _, rfl, k17, (r18.sub T_api_Type.T u30)⟩ rfl (CsE.cons (c1 := [(Value.slice (some ⟨(Array.size h12), 0, none⟩) 1 1)]) ⟨_, _, rfl, k32, r31⟩ rfl CsE.nil))) rfl
    have O41 := O34.nm
    obtain ⟨m42, u43, s48, ⟨⟨r46, k47⟩, _⟩, B44, C45⟩ := O41.lend0 [4]
    replace r46 : Rd 1 (eRow 3 T_api_Type.E) m42 (some ⟨(Array.size h19), 0, none⟩) ([y1.Types, ([y1.Msg] : List T_api_Type)] : List (List T_api_Type)) := r46
    replace k47 : List.length ([y1.Types, ([y1.Msg] : List T_api_Type)] : List (List T_api_Type)) ≤ 2 := k47
    refine (slices_Concat_31.walk (Hold.start (W := No) s48) rfl k47 r46 g36).mono ?_
    rintro _ h37 ⟨m38, A49, n50, c51, Q39, rfl, ne52⟩
    have O54 := Hold.nm (B44 Q39)
    subst ne52
    refine ⟨_, _, _, rfl, ?_⟩
    refine ⟨Q39.S.ext, ?_⟩
    obtain ⟨y55, g56, e⟩ := bind_e e
    obtain ⟨m61, u62, s67, ⟨⟨r65, k66⟩, _⟩, B63, C64⟩ := O54.lend0 [5]
    replace r65 : Rd 3 T_api_Type.E m61 A49 y35 := r65
    replace k66 : List.length y35 ≤ c51 := k66
    refine (roadref2_KindOf.walk (Hold.start (W := No) s67) (T_api_Program.T.mono _ _ _ _ (u30.trans (u43.trans (Q39.S.up.trans u62))) e_1) rfl (by exact Nat.le_refl 0) Rd.nil rfl k66 r65 g56).mono ?_
    rintro _ h57 ⟨m58, Q59, rfl⟩
    have O68 := Hold.nm (C64 Q59 vfs_nil)
    refine ⟨_, rfl, ?_⟩
    refine split_ne_e e (fun c93 e => ?_) (fun c93 e => ?_)
    · refine ⟨_, rfl, rfl, ?_⟩
      refine O68.stA 1 rfl ((T_roadref2_Wrong.T.len _ _ _ e_2)).symm (Flats.cons trivial (Flats.cons trivial Flats.nil)) fun h69 O70 => ?_
      refine ⟨_, ldAn (Sub.refl _) (O70.all 1 rfl) rfl, ?_⟩
      have O71 := O70.nm
      cases e
      exact ⟨_, _, O71.pick [], rfl, (show T_roadref2_Wrong.E _ (T_roadref2_Wrong.mk y55 (0 : Int)) [(Value.int .i64 y55), (Value.int .i64 (0 : Int))] from rfl)⟩
    · refine ⟨_, ldAn (Sub.refl _) (O68.all 0 rfl) (T_api_Program.T.len _ _ _ e_1), ?_⟩
      refine ⟨_, ldAkn (Sub.refl _) (O68.all 2 rfl) 6 8 (le_len (T_api_Actor.T.len _ _ _ he7) (by decide)), ?_⟩
      obtain ⟨y72, g73, e⟩ := bind_e e
      refine (roadref2_kindBody.walk (Hold.start (W := No) O68.s) (T_api_Program.T.mono _ _ _ _ (u30.trans (u43.trans Q39.S.up)) e_1) rfl (by exact Nat.le_refl 0) Rd.nil (T_api_Expr.T.mono _ _ _ _ (u30.trans (u43.trans Q39.S.up)) (T_api_Actor.u6_87 he7)) g73).mono ?_
      rintro _ h74 ⟨m75, cs79, Q76, rfl, he80⟩
      replace he80 : T_roadref2_Wrong.E m38 y72 cs79 := T_roadref2_Wrong.keep he80
      have O81 := Hold.nm (O68.retC Q76 vfs_nil)
      refine O81.new fun h82 x83 O84 => ?_
      refine ⟨_, rfl, (T_roadref2_Wrong.T.len _ _ _ he80), ?_⟩
      refine O84.stA 6 rfl (T_roadref2_Wrong.T.len _ _ _ he80) (T_roadref2_Wrong.T.flat _ _ _ he80) fun h86 O87 => ?_
      refine ⟨_, ld0 (Sub.refl _) (O87.all 6 rfl) (T_roadref2_Wrong.g0 he80), _, rfl, ?_⟩
      refine split_ne_e e (fun c92 e => ?_) (fun c92 e => ?_)
      · refine ⟨_, ldAn (Sub.refl _) (O87.all 6 rfl) (T_roadref2_Wrong.T.len _ _ _ he80), ?_⟩
        refine ⟨_, rfl, (T_roadref2_Wrong.T.len _ _ _ he80), ?_⟩
        refine O87.stA 1 rfl ((T_roadref2_Wrong.T.len _ _ _ he80).trans ((T_roadref2_Wrong.T.len _ _ _ e_2)).symm) (T_roadref2_Wrong.T.flat _ _ _ he80) fun h88 O89 => ?_
        refine ⟨_, ldAn (Sub.refl _) (O89.all 1 rfl) (T_roadref2_Wrong.T.len _ _ _ he80), ?_⟩
        have O90 := O89.nm
        cases e
        exact ⟨_, _, O90.pick [], rfl, he80⟩
      · have O91 := O87.nm
        exact (ih _ _ e) _ _ _ _ _ _ _ _ _ _ _ _ (O91.pick [0, 1]).nm (T_api_Program.T.mono _ _ _ _ (u30.trans (u43.trans Q39.S.up)) e_1) (T_roadref2_Wrong.T.mono _ _ _ _ (u30.trans (u43.trans Q39.S.up)) e_2) rfl k_86 (r_86.sub T_api_Actor.T (u30.trans (u43.trans Q39.S.up)))
  · refine ⟨_, rfl, rfl, ?_⟩
    refine O.stA 1 rfl ((T_roadref2_Wrong.T.len _ _ _ e_2)).symm (Flats.cons trivial (Flats.cons trivial Flats.nil)) fun h94 O95 => ?_
    refine ⟨_, ldAn (Sub.refl _) (O95.all 1 rfl) rfl, ?_⟩
    have O96 := O95.nm
    cases e
    exact ⟨_, _, O96.pick [], rfl, (show T_roadref2_Wrong.E _ (T_roadref2_Wrong.mk (0 : Int) (0 : Int)) [(Value.int .i64 (0 : Int)), (Value.int .i64 (0 : Int))] from rfl)⟩
theorem roadref2_KindsOf.l3_k.all {p : roadref2_KindsOf.l3_k.Pt} {r : (T_roadref2_Wrong)} (e : roadref2_KindsOf.l3_k.go p = some r) : roadref2_KindsOf.l3_k.I p r := fixF_ind (β := fun _ => (T_roadref2_Wrong)) roadref2_KindsOf.l3_k.mono (I := roadref2_KindsOf.l3_k.I) (fun go ih p r e => match p with
  | .l3 y_1 y_2 a_86 x_87 x_88 => roadref2_KindsOf.l3_k.step_l3 go ih y_1 y_2 a_86 x_87 x_88 r e
  ) e
theorem roadref2_KindsOf.l3.walk {W : Nat → Prop} {h0 m0 h m : Heap} {bk_1 : Nat} {cs_1 : List Value} {bk_2 : Nat} {cs_2 : List Value} {A_86 : Option Addr} {n_86 c_86 : Nat} {y_1 : T_api_Program} {y_2 : T_roadref2_Wrong} {a_86 : List T_api_Actor} {x_87 : Int} {x_88 : Int} (O : Hold W h0 m0 h m [rV bk_1 54 cs_1, rV bk_2 59 cs_2]) (e_1 : T_api_Program.E m y_1 cs_1) (e_2 : T_roadref2_Wrong.E m y_2 cs_2) (ne_86 : n_86 = List.length a_86) (k_86 : List.length a_86 ≤ c_86) (r_86 : Rd 14 T_api_Actor.E m A_86 a_86) {r : T_roadref2_Wrong} (e : roadref2_KindsOf.l3 y_1 y_2 a_86 x_87 x_88 = some r) : f22.l3 (roadref2_KindsOf.post W h0 m0 r) (⟨bk_1, 0, none⟩ : Addr) (⟨bk_2, 0, none⟩ : Addr) A_86 n_86 c_86 x_87 x_88 h := roadref2_KindsOf.l3_k.all (p := .l3 y_1 y_2 a_86 x_87 x_88) e W h0 m0 h m bk_1 cs_1 bk_2 cs_2 A_86 n_86 c_86 O e_1 e_2 ne_86 k_86 r_86
inductive roadref2_KindsOf.l2_k.Pt where
  | l2 (y_1 : T_api_Program) (y_2 : T_roadref2_Wrong) (a_71 : List T_api_Func) (x_72 : Int) (x_73 : Int)
noncomputable def roadref2_KindsOf.l2_k.body (go : (p : roadref2_KindsOf.l2_k.Pt) → Option (T_roadref2_Wrong)) : (p : roadref2_KindsOf.l2_k.Pt) → Option (T_roadref2_Wrong)
  | .l2 y_1 y_2 a_71 x_72 x_73 => if x_73 < x_72 then (Option.bind (gi a_71 x_73) fun y1 => Option.bind (roadref2_kindFun y_1 ([] : List ByteArray) y1) fun y14 => if y14.E_ = (0 : Int) then ((go (.l2 y_1 y_2 a_71 x_72 (IntKind.wrap .i64 (x_73 + (1 : Int)))))) else (some (y14))) else ((roadref2_KindsOf.l3 y_1 y_2 y_1.Actors (((List.length y_1.Actors) : Nat) : Int) (0 : Int)))
theorem roadref2_KindsOf.l2_k.mono : MonoF (β := fun _ => (T_roadref2_Wrong)) roadref2_KindsOf.l2_k.body := fun f g hfg p => match p with
  | .l2 y_1 y_2 a_71 x_72 x_73 => LeO.ite (LeO.bind (LeO.refl _) fun y1 => LeO.bind (LeO.refl _) fun y14 => LeO.ite ((hfg _)) (LeO.refl _)) ((LeO.refl _))
noncomputable def roadref2_KindsOf.l2_k.go (p : roadref2_KindsOf.l2_k.Pt) : Option (T_roadref2_Wrong) := fixF (β := fun _ => (T_roadref2_Wrong)) roadref2_KindsOf.l2_k.body p
noncomputable def roadref2_KindsOf.l2 (y_1 : T_api_Program) (y_2 : T_roadref2_Wrong) (a_71 : List T_api_Func) (x_72 : Int) (x_73 : Int) : Option (T_roadref2_Wrong) := roadref2_KindsOf.l2_k.go (.l2 y_1 y_2 a_71 x_72 x_73)
theorem roadref2_KindsOf.l2_eq (y_1 : T_api_Program) (y_2 : T_roadref2_Wrong) (a_71 : List T_api_Func) (x_72 : Int) (x_73 : Int) : roadref2_KindsOf.l2 y_1 y_2 a_71 x_72 x_73 = if x_73 < x_72 then (Option.bind (gi a_71 x_73) fun y1 => Option.bind (roadref2_kindFun y_1 ([] : List ByteArray) y1) fun y14 => if y14.E_ = (0 : Int) then ((roadref2_KindsOf.l2 y_1 y_2 a_71 x_72 (IntKind.wrap .i64 (x_73 + (1 : Int))))) else (some (y14))) else ((roadref2_KindsOf.l3 y_1 y_2 y_1.Actors (((List.length y_1.Actors) : Nat) : Int) (0 : Int))) := fixF_eq roadref2_KindsOf.l2_k.mono _
def roadref2_KindsOf.l2_k.I : (p : roadref2_KindsOf.l2_k.Pt) → (T_roadref2_Wrong) → Prop
  | .l2 y_1 y_2 a_71 x_72 x_73, r => ∀ (W : Nat → Prop) (h0 m0 h m : Heap) (bk_1 : Nat) (cs_1 : List Value) (bk_2 : Nat) (cs_2 : List Value) (A_71 : Option Addr) (n_71 c_71 : Nat) (O : Hold W h0 m0 h m [rV bk_1 54 cs_1, rV bk_2 59 cs_2, rR (aE T_api_Func.T) A_71 c_71 a_71]) (e_1 : T_api_Program.E m y_1 cs_1) (e_2 : T_roadref2_Wrong.E m y_2 cs_2) (ne_71 : n_71 = List.length a_71), f22.l2 (roadref2_KindsOf.post W h0 m0 r) (⟨bk_1, 0, none⟩ : Addr) (⟨bk_2, 0, none⟩ : Addr) A_71 n_71 c_71 x_72 x_73 h
set_option maxHeartbeats 4000000 in
set_option maxRecDepth 100000 in
theorem roadref2_KindsOf.l2_k.step_l2 (go : (p : roadref2_KindsOf.l2_k.Pt) → Option (T_roadref2_Wrong)) (ih : ∀ p r, go p = some r → roadref2_KindsOf.l2_k.I p r) (y_1 : T_api_Program) (y_2 : T_roadref2_Wrong) (a_71 : List T_api_Func) (x_72 : Int) (x_73 : Int) (r : T_roadref2_Wrong) (e : roadref2_KindsOf.l2_k.body go (.l2 y_1 y_2 a_71 x_72 x_73) = some r) : roadref2_KindsOf.l2_k.I (.l2 y_1 y_2 a_71 x_72 x_73) r := by
  unfold roadref2_KindsOf.l2_k.body at e
  intro W h0 m0 h m bk_1 cs_1 bk_2 cs_2 A_71 n_71 c_71 O e_1 e_2 ne_71
  subst ne_71
  refine f22.l2_in ?_
  unfold f22.l2T
  refine split_dec_e e (fun c40 e => ?_) (fun c40 e => ?_)
  · obtain ⟨y1, g2, e⟩ := bind_e e
    refine (O.os 2 rfl).addr rfl g2 fun a3 cs4 ha5 hc6 he7 => ?_
    refine ⟨_, ldAn (Sub.refl _) hc6 rfl, ?_⟩
    refine O.new fun h8 x9 O10 => ?_
    refine ⟨_, rfl, (T_api_Func.T.len _ _ _ he7), ?_⟩
    refine O10.stA 3 rfl (T_api_Func.T.len _ _ _ he7) (T_api_Func.T.flat _ _ _ he7) fun h12 O13 => ?_
    refine ⟨_, ldAn (Sub.refl _) (O13.all 0 rfl) (T_api_Program.T.len _ _ _ e_1), ?_⟩
    refine ⟨_, ldAn (Sub.refl _) (O13.all 3 rfl) (T_api_Func.T.len _ _ _ he7), ?_⟩
    obtain ⟨y14, g15, e⟩ := bind_e e
    refine (roadref2_kindFun.walk (Hold.start (W := No) O13.s) e_1 rfl (by exact Nat.le_refl 0) Rd.nil he7 g15).mono ?_
    rintro _ h16 ⟨m17, cs21, Q18, rfl, he22⟩
    replace he22 : T_roadref2_Wrong.E m y14 cs21 := T_roadref2_Wrong.keep he22
    have O23 := Hold.nm (O13.retC Q18 vfs_nil)
    refine O23.new fun h24 x25 O26 => ?_
    refine ⟨_, rfl, (T_roadref2_Wrong.T.len _ _ _ he22), ?_⟩
    refine O26.stA 4 rfl (T_roadref2_Wrong.T.len _ _ _ he22) (T_roadref2_Wrong.T.flat _ _ _ he22) fun h28 O29 => ?_
    refine ⟨_, ld0 (Sub.refl _) (O29.all 4 rfl) (T_roadref2_Wrong.g0 he22), _, rfl, ?_⟩
    refine split_ne_e e (fun c34 e => ?_) (fun c34 e => ?_)
    · refine ⟨_, ldAn (Sub.refl _) (O29.all 4 rfl) (T_roadref2_Wrong.T.len _ _ _ he22), ?_⟩
      refine ⟨_, rfl, (T_roadref2_Wrong.T.len _ _ _ he22), ?_⟩
      refine O29.stA 1 rfl ((T_roadref2_Wrong.T.len _ _ _ he22).trans ((T_roadref2_Wrong.T.len _ _ _ e_2)).symm) (T_roadref2_Wrong.T.flat _ _ _ he22) fun h30 O31 => ?_
      refine ⟨_, ldAn (Sub.refl _) (O31.all 1 rfl) (T_roadref2_Wrong.T.len _ _ _ he22), ?_⟩
      have O32 := O31.nm
      cases e
      exact ⟨_, _, O32.pick [], rfl, he22⟩
    · have O33 := O29.nm
      exact (ih _ _ e) _ _ _ _ _ _ _ _ _ _ _ _ (O33.pick [0, 1, 2]).nm e_1 e_2 rfl
  · obtain ⟨A35, c36, q37, k38, r39⟩ := T_api_Program.g7 e_1
    refine ⟨_, ldk (k := 7) (Sub.refl _) (O.all 0 rfl) q37, _, _, _, rfl, ?_⟩
    exact roadref2_KindsOf.l3.walk (O.pick [0, 1]).nm e_1 e_2 rfl k38 r39 e
theorem roadref2_KindsOf.l2_k.all {p : roadref2_KindsOf.l2_k.Pt} {r : (T_roadref2_Wrong)} (e : roadref2_KindsOf.l2_k.go p = some r) : roadref2_KindsOf.l2_k.I p r := fixF_ind (β := fun _ => (T_roadref2_Wrong)) roadref2_KindsOf.l2_k.mono (I := roadref2_KindsOf.l2_k.I) (fun go ih p r e => match p with
  | .l2 y_1 y_2 a_71 x_72 x_73 => roadref2_KindsOf.l2_k.step_l2 go ih y_1 y_2 a_71 x_72 x_73 r e
  ) e
theorem roadref2_KindsOf.l2.walk {W : Nat → Prop} {h0 m0 h m : Heap} {bk_1 : Nat} {cs_1 : List Value} {bk_2 : Nat} {cs_2 : List Value} {A_71 : Option Addr} {n_71 c_71 : Nat} {y_1 : T_api_Program} {y_2 : T_roadref2_Wrong} {a_71 : List T_api_Func} {x_72 : Int} {x_73 : Int} (O : Hold W h0 m0 h m [rV bk_1 54 cs_1, rV bk_2 59 cs_2, rR (aE T_api_Func.T) A_71 c_71 a_71]) (e_1 : T_api_Program.E m y_1 cs_1) (e_2 : T_roadref2_Wrong.E m y_2 cs_2) (ne_71 : n_71 = List.length a_71) {r : T_roadref2_Wrong} (e : roadref2_KindsOf.l2 y_1 y_2 a_71 x_72 x_73 = some r) : f22.l2 (roadref2_KindsOf.post W h0 m0 r) (⟨bk_1, 0, none⟩ : Addr) (⟨bk_2, 0, none⟩ : Addr) A_71 n_71 c_71 x_72 x_73 h := roadref2_KindsOf.l2_k.all (p := .l2 y_1 y_2 a_71 x_72 x_73) e W h0 m0 h m bk_1 cs_1 bk_2 cs_2 A_71 n_71 c_71 O e_1 e_2 ne_71
inductive roadref2_KindsOf.l1_k.Pt where
  | l1 (y_1 : T_api_Program) (y_2 : T_roadref2_Wrong) (a_47 : List T_api_Trait) (x_48 : Int) (x_49 : Int)
  | l5 (y_1 : T_api_Program) (y_2 : T_roadref2_Wrong) (a_47 : List T_api_Trait) (x_48 : Int) (x_49 : Int) (a_54 : List T_api_Func) (x_55 : Int) (x_56 : Int)
noncomputable def roadref2_KindsOf.l1_k.body (go : (p : roadref2_KindsOf.l1_k.Pt) → Option (T_roadref2_Wrong)) : (p : roadref2_KindsOf.l1_k.Pt) → Option (T_roadref2_Wrong)
  | .l1 y_1 y_2 a_47 x_48 x_49 => if x_49 < x_48 then (Option.bind (gi a_47 x_49) fun y1 => (go (.l5 y_1 y_2 a_47 x_48 x_49 y1.Funcs (((List.length y1.Funcs) : Nat) : Int) (0 : Int)))) else (Option.bind (roadref2_FunsOf y_1) fun y20 => (roadref2_KindsOf.l2 y_1 y_2 y20 (((List.length y20) : Nat) : Int) (0 : Int)))
  | .l5 y_1 y_2 a_47 x_48 x_49 a_54 x_55 x_56 => if x_56 < x_55 then (Option.bind (gi a_54 x_56) fun y1 => Option.bind (roadref2_kindFun y_1 ([(ByteArray.mk #[115, 101, 108, 102])] : List ByteArray) y1) fun y19 => if y19.E_ = (0 : Int) then ((go (.l5 y_1 y_2 a_47 x_48 x_49 a_54 x_55 (IntKind.wrap .i64 (x_56 + (1 : Int)))))) else (some (y19))) else ((go (.l1 y_1 y_2 a_47 x_48 (IntKind.wrap .i64 (x_49 + (1 : Int))))))
theorem roadref2_KindsOf.l1_k.mono : MonoF (β := fun _ => (T_roadref2_Wrong)) roadref2_KindsOf.l1_k.body := fun f g hfg p => match p with
  | .l1 y_1 y_2 a_47 x_48 x_49 => LeO.ite (LeO.bind (LeO.refl _) fun y1 => (hfg _)) (LeO.bind (LeO.refl _) fun y20 => (LeO.refl _))
  | .l5 y_1 y_2 a_47 x_48 x_49 a_54 x_55 x_56 => LeO.ite (LeO.bind (LeO.refl _) fun y1 => LeO.bind (LeO.refl _) fun y19 => LeO.ite ((hfg _)) (LeO.refl _)) ((hfg _))
noncomputable def roadref2_KindsOf.l1_k.go (p : roadref2_KindsOf.l1_k.Pt) : Option (T_roadref2_Wrong) := fixF (β := fun _ => (T_roadref2_Wrong)) roadref2_KindsOf.l1_k.body p
noncomputable def roadref2_KindsOf.l1 (y_1 : T_api_Program) (y_2 : T_roadref2_Wrong) (a_47 : List T_api_Trait) (x_48 : Int) (x_49 : Int) : Option (T_roadref2_Wrong) := roadref2_KindsOf.l1_k.go (.l1 y_1 y_2 a_47 x_48 x_49)
noncomputable def roadref2_KindsOf.l5 (y_1 : T_api_Program) (y_2 : T_roadref2_Wrong) (a_47 : List T_api_Trait) (x_48 : Int) (x_49 : Int) (a_54 : List T_api_Func) (x_55 : Int) (x_56 : Int) : Option (T_roadref2_Wrong) := roadref2_KindsOf.l1_k.go (.l5 y_1 y_2 a_47 x_48 x_49 a_54 x_55 x_56)
theorem roadref2_KindsOf.l1_eq (y_1 : T_api_Program) (y_2 : T_roadref2_Wrong) (a_47 : List T_api_Trait) (x_48 : Int) (x_49 : Int) : roadref2_KindsOf.l1 y_1 y_2 a_47 x_48 x_49 = if x_49 < x_48 then (Option.bind (gi a_47 x_49) fun y1 => (roadref2_KindsOf.l5 y_1 y_2 a_47 x_48 x_49 y1.Funcs (((List.length y1.Funcs) : Nat) : Int) (0 : Int))) else (Option.bind (roadref2_FunsOf y_1) fun y20 => (roadref2_KindsOf.l2 y_1 y_2 y20 (((List.length y20) : Nat) : Int) (0 : Int))) := fixF_eq roadref2_KindsOf.l1_k.mono _
theorem roadref2_KindsOf.l5_eq (y_1 : T_api_Program) (y_2 : T_roadref2_Wrong) (a_47 : List T_api_Trait) (x_48 : Int) (x_49 : Int) (a_54 : List T_api_Func) (x_55 : Int) (x_56 : Int) : roadref2_KindsOf.l5 y_1 y_2 a_47 x_48 x_49 a_54 x_55 x_56 = if x_56 < x_55 then (Option.bind (gi a_54 x_56) fun y1 => Option.bind (roadref2_kindFun y_1 ([(ByteArray.mk #[115, 101, 108, 102])] : List ByteArray) y1) fun y19 => if y19.E_ = (0 : Int) then ((roadref2_KindsOf.l5 y_1 y_2 a_47 x_48 x_49 a_54 x_55 (IntKind.wrap .i64 (x_56 + (1 : Int))))) else (some (y19))) else ((roadref2_KindsOf.l1 y_1 y_2 a_47 x_48 (IntKind.wrap .i64 (x_49 + (1 : Int))))) := fixF_eq roadref2_KindsOf.l1_k.mono _
def roadref2_KindsOf.l1_k.I : (p : roadref2_KindsOf.l1_k.Pt) → (T_roadref2_Wrong) → Prop
  | .l1 y_1 y_2 a_47 x_48 x_49, r => ∀ (W : Nat → Prop) (h0 m0 h m : Heap) (bk_1 : Nat) (cs_1 : List Value) (bk_2 : Nat) (cs_2 : List Value) (A_47 : Option Addr) (n_47 c_47 : Nat) (O : Hold W h0 m0 h m [rV bk_1 54 cs_1, rV bk_2 59 cs_2]) (e_1 : T_api_Program.E m y_1 cs_1) (e_2 : T_roadref2_Wrong.E m y_2 cs_2) (ne_47 : n_47 = List.length a_47) (k_47 : List.length a_47 ≤ c_47) (r_47 : Rd 2 T_api_Trait.E m A_47 a_47), f22.l1 (roadref2_KindsOf.post W h0 m0 r) (⟨bk_1, 0, none⟩ : Addr) (⟨bk_2, 0, none⟩ : Addr) A_47 n_47 c_47 x_48 x_49 h
  | .l5 y_1 y_2 a_47 x_48 x_49 a_54 x_55 x_56, r => ∀ (W : Nat → Prop) (h0 m0 h m : Heap) (bk_1 : Nat) (cs_1 : List Value) (bk_2 : Nat) (cs_2 : List Value) (A_47 : Option Addr) (n_47 c_47 : Nat) (A_54 : Option Addr) (n_54 c_54 : Nat) (O : Hold W h0 m0 h m [rV bk_1 54 cs_1, rV bk_2 59 cs_2]) (e_1 : T_api_Program.E m y_1 cs_1) (e_2 : T_roadref2_Wrong.E m y_2 cs_2) (ne_47 : n_47 = List.length a_47) (k_47 : List.length a_47 ≤ c_47) (r_47 : Rd 2 T_api_Trait.E m A_47 a_47) (ne_54 : n_54 = List.length a_54) (k_54 : List.length a_54 ≤ c_54) (r_54 : Rd 15 T_api_Func.E m A_54 a_54), f22.l5 (roadref2_KindsOf.post W h0 m0 r) (⟨bk_1, 0, none⟩ : Addr) (⟨bk_2, 0, none⟩ : Addr) A_47 n_47 c_47 x_48 x_49 A_54 n_54 c_54 x_55 x_56 h
set_option maxRecDepth 100000 in
theorem roadref2_KindsOf.l1_k.step_l1 (go : (p : roadref2_KindsOf.l1_k.Pt) → Option (T_roadref2_Wrong)) (ih : ∀ p r, go p = some r → roadref2_KindsOf.l1_k.I p r) (y_1 : T_api_Program) (y_2 : T_roadref2_Wrong) (a_47 : List T_api_Trait) (x_48 : Int) (x_49 : Int) (r : T_roadref2_Wrong) (e : roadref2_KindsOf.l1_k.body go (.l1 y_1 y_2 a_47 x_48 x_49) = some r) : roadref2_KindsOf.l1_k.I (.l1 y_1 y_2 a_47 x_48 x_49) r := by
  unfold roadref2_KindsOf.l1_k.body at e
  intro W h0 m0 h m bk_1 cs_1 bk_2 cs_2 A_47 n_47 c_47 O e_1 e_2 ne_47 k_47 r_47
  subst ne_47
  refine f22.l1_in ?_
  unfold f22.l1T
  refine split_dec_e e (fun c32 e => ?_) (fun c32 e => ?_)
  · obtain ⟨y1, g2, e⟩ := bind_e e
    refine r_47.addr rfl g2 fun a3 cs4 ha5 hc6 he7 => ?_
    refine ⟨_, ldAn O.s hc6 rfl, ?_⟩
    refine O.new fun h8 x9 O10 => ?_
    refine ⟨_, rfl, (T_api_Trait.T.len _ _ _ he7), ?_⟩
    refine O10.stA 2 rfl (T_api_Trait.T.len _ _ _ he7) (T_api_Trait.T.flat _ _ _ he7) fun h12 O13 => ?_
    obtain ⟨A14, c15, q16, k17, r18⟩ := T_api_Trait.g1 he7
    refine ⟨_, ldk (k := 1) (Sub.refl _) (O13.all 2 rfl) q16, _, _, _, rfl, ?_⟩
    have O19 := O13.nm
    exact (ih _ _ e) _ _ _ _ _ _ _ _ _ _ _ _ _ _ _ (O19.pick [0, 1]).nm e_1 e_2 rfl k_47 r_47 rfl k17 r18
  · refine ⟨_, ldAn (Sub.refl _) (O.all 0 rfl) (T_api_Program.T.len _ _ _ e_1), ?_⟩
    obtain ⟨y20, g21, e⟩ := bind_e e
    refine (roadref2_FunsOf.walk (Hold.start (W := No) O.s) e_1 g21).mono ?_
    rintro _ h22 ⟨m23, A26, n27, c28, Q24, rfl, ne29⟩
    have O31 := Hold.nm (O.ret Q24)
    subst ne29
    refine ⟨_, _, _, rfl, ?_⟩
    exact roadref2_KindsOf.l2.walk (O31.pick [0, 1, 2]).nm (T_api_Program.T.mono _ _ _ _ Q24.S.up e_1) (T_roadref2_Wrong.T.mono _ _ _ _ Q24.S.up e_2) rfl e
set_option maxHeartbeats 4000000 in
set_option maxRecDepth 100000 in
theorem roadref2_KindsOf.l1_k.step_l5 (go : (p : roadref2_KindsOf.l1_k.Pt) → Option (T_roadref2_Wrong)) (ih : ∀ p r, go p = some r → roadref2_KindsOf.l1_k.I p r) (y_1 : T_api_Program) (y_2 : T_roadref2_Wrong) (a_47 : List T_api_Trait) (x_48 : Int) (x_49 : Int) (a_54 : List T_api_Func) (x_55 : Int) (x_56 : Int) (r : T_roadref2_Wrong) (e : roadref2_KindsOf.l1_k.body go (.l5 y_1 y_2 a_47 x_48 x_49 a_54 x_55 x_56) = some r) : roadref2_KindsOf.l1_k.I (.l5 y_1 y_2 a_47 x_48 x_49 a_54 x_55 x_56) r := by
  unfold roadref2_KindsOf.l1_k.body at e
  intro W h0 m0 h m bk_1 cs_1 bk_2 cs_2 A_47 n_47 c_47 A_54 n_54 c_54 O e_1 e_2 ne_47 k_47 r_47 ne_54 k_54 r_54
  subst ne_47
  subst ne_54
  refine f22.l5_in ?_
  unfold f22.l5T
  refine split_dec_e e (fun c48 e => ?_) (fun c48 e => ?_)
  · obtain ⟨y1, g2, e⟩ := bind_e e
    refine r_54.addr rfl g2 fun a3 cs4 ha5 hc6 he7 => ?_
    refine ⟨_, ldAn O.s hc6 rfl, ?_⟩
    refine O.new fun h8 x9 O10 => ?_
    refine ⟨_, rfl, (T_api_Func.T.len _ _ _ he7), ?_⟩
    refine O10.stA 2 rfl (T_api_Func.T.len _ _ _ he7) (T_api_Func.T.flat _ _ _ he7) fun h12 O13 => ?_
    refine ⟨_, ldAn (Sub.refl _) (O13.all 0 rfl) (T_api_Program.T.len _ _ _ e_1), ?_⟩
    refine O13.new fun h14 x15 O16 => ?_
    refine ⟨_, ldAn (Sub.refl _) (O16.all 2 rfl) (T_api_Func.T.len _ _ _ he7), ?_⟩
    obtain ⟨y19, g20, e⟩ := bind_e e
    have O18 := O16.rowE (l := ([(ByteArray.mk #[115, 101, 108, 102])] : List ByteArray)) 3 rfl tell_str (show CsE _ _ _ _ _ from (CsE.cons (c1 := [(Value.string (ByteArray.mk #[115, 101, 108, 102]))]) rfl rfl CsE.nil)) rfl
    have O25 := O18.nm
    obtain ⟨m26, u27, s32, ⟨⟨r30, k31⟩, _⟩, B28, C29⟩ := O25.lend0 [3]
    replace r30 : Rd 1 eStr m26 (some ⟨(Array.size h12), 0, none⟩) ([(ByteArray.mk #[115, 101, 108, 102])] : List ByteArray) := r30
    replace k31 : List.length ([(ByteArray.mk #[115, 101, 108, 102])] : List ByteArray) ≤ 1 := k31
    refine (roadref2_kindFun.walk (Hold.start (W := No) s32) (T_api_Program.T.mono _ _ _ _ u27 e_1) rfl k31 r30 (T_api_Func.T.mono _ _ _ _ u27 he7) g20).mono ?_
    rintro _ h21 ⟨m22, cs34, Q23, rfl, he35⟩
    replace he35 : T_roadref2_Wrong.E m y19 cs34 := T_roadref2_Wrong.keep he35
    have O36 := Hold.nm (C29 Q23 vfs_nil)
    refine O36.new fun h37 x38 O39 => ?_
    refine ⟨_, rfl, (T_roadref2_Wrong.T.len _ _ _ he35), ?_⟩
    refine O39.stA 4 rfl (T_roadref2_Wrong.T.len _ _ _ he35) (T_roadref2_Wrong.T.flat _ _ _ he35) fun h41 O42 => ?_
    refine ⟨_, ld0 (Sub.refl _) (O42.all 4 rfl) (T_roadref2_Wrong.g0 he35), _, rfl, ?_⟩
    refine split_ne_e e (fun c47 e => ?_) (fun c47 e => ?_)
    · refine ⟨_, ldAn (Sub.refl _) (O42.all 4 rfl) (T_roadref2_Wrong.T.len _ _ _ he35), ?_⟩
      refine ⟨_, rfl, (T_roadref2_Wrong.T.len _ _ _ he35), ?_⟩
      refine O42.stA 1 rfl ((T_roadref2_Wrong.T.len _ _ _ he35).trans ((T_roadref2_Wrong.T.len _ _ _ e_2)).symm) (T_roadref2_Wrong.T.flat _ _ _ he35) fun h43 O44 => ?_
      refine ⟨_, ldAn (Sub.refl _) (O44.all 1 rfl) (T_roadref2_Wrong.T.len _ _ _ he35), ?_⟩
      have O45 := O44.nm
      cases e
      exact ⟨_, _, O45.pick [], rfl, he35⟩
    · have O46 := O42.nm
      exact (ih _ _ e) _ _ _ _ _ _ _ _ _ _ _ _ _ _ _ (O46.pick [0, 1]).nm e_1 e_2 rfl k_47 r_47 rfl k_54 r_54
  · exact (ih _ _ e) _ _ _ _ _ _ _ _ _ _ _ _ (O.pick [0, 1]).nm e_1 e_2 rfl k_47 r_47
theorem roadref2_KindsOf.l1_k.all {p : roadref2_KindsOf.l1_k.Pt} {r : (T_roadref2_Wrong)} (e : roadref2_KindsOf.l1_k.go p = some r) : roadref2_KindsOf.l1_k.I p r := fixF_ind (β := fun _ => (T_roadref2_Wrong)) roadref2_KindsOf.l1_k.mono (I := roadref2_KindsOf.l1_k.I) (fun go ih p r e => match p with
  | .l1 y_1 y_2 a_47 x_48 x_49 => roadref2_KindsOf.l1_k.step_l1 go ih y_1 y_2 a_47 x_48 x_49 r e
  | .l5 y_1 y_2 a_47 x_48 x_49 a_54 x_55 x_56 => roadref2_KindsOf.l1_k.step_l5 go ih y_1 y_2 a_47 x_48 x_49 a_54 x_55 x_56 r e
  ) e
theorem roadref2_KindsOf.l1.walk {W : Nat → Prop} {h0 m0 h m : Heap} {bk_1 : Nat} {cs_1 : List Value} {bk_2 : Nat} {cs_2 : List Value} {A_47 : Option Addr} {n_47 c_47 : Nat} {y_1 : T_api_Program} {y_2 : T_roadref2_Wrong} {a_47 : List T_api_Trait} {x_48 : Int} {x_49 : Int} (O : Hold W h0 m0 h m [rV bk_1 54 cs_1, rV bk_2 59 cs_2]) (e_1 : T_api_Program.E m y_1 cs_1) (e_2 : T_roadref2_Wrong.E m y_2 cs_2) (ne_47 : n_47 = List.length a_47) (k_47 : List.length a_47 ≤ c_47) (r_47 : Rd 2 T_api_Trait.E m A_47 a_47) {r : T_roadref2_Wrong} (e : roadref2_KindsOf.l1 y_1 y_2 a_47 x_48 x_49 = some r) : f22.l1 (roadref2_KindsOf.post W h0 m0 r) (⟨bk_1, 0, none⟩ : Addr) (⟨bk_2, 0, none⟩ : Addr) A_47 n_47 c_47 x_48 x_49 h := roadref2_KindsOf.l1_k.all (p := .l1 y_1 y_2 a_47 x_48 x_49) e W h0 m0 h m bk_1 cs_1 bk_2 cs_2 A_47 n_47 c_47 O e_1 e_2 ne_47 k_47 r_47
inductive roadref2_KindsOf.l0_k.Pt where
  | l0 (y_1 : T_api_Program) (y_2 : T_roadref2_Wrong) (a_21 : List T_api_Data) (x_22 : Int) (x_23 : Int)
  | l4 (y_1 : T_api_Program) (y_2 : T_roadref2_Wrong) (y_4 : T_api_Data) (a_21 : List T_api_Data) (x_22 : Int) (x_23 : Int) (a_28 : List T_api_Make) (x_29 : Int) (x_30 : Int)
noncomputable def roadref2_KindsOf.l0_k.body (go : (p : roadref2_KindsOf.l0_k.Pt) → Option (T_roadref2_Wrong)) : (p : roadref2_KindsOf.l0_k.Pt) → Option (T_roadref2_Wrong)
  | .l0 y_1 y_2 a_21 x_22 x_23 => if x_23 < x_22 then (Option.bind (gi a_21 x_23) fun y1 => (go (.l4 y_1 y_2 y1 a_21 x_22 x_23 y1.Makes (((List.length y1.Makes) : Nat) : Int) (0 : Int)))) else ((roadref2_KindsOf.l1 y_1 y_2 y_1.Traits (((List.length y_1.Traits) : Nat) : Int) (0 : Int)))
  | .l4 y_1 y_2 y_4 a_21 x_22 x_23 a_28 x_29 x_30 => if x_30 < x_29 then (Option.bind (gi a_28 x_30) fun y1 => Option.bind (roadref2_KindOf y_1 y_4.Params y1.Args) fun y24 => if y24 = (0 : Int) then ((go (.l4 y_1 y_2 y_4 a_21 x_22 x_23 a_28 x_29 (IntKind.wrap .i64 (x_30 + (1 : Int)))))) else (some ((T_roadref2_Wrong.mk y24 (0 : Int))))) else ((go (.l0 y_1 y_2 a_21 x_22 (IntKind.wrap .i64 (x_23 + (1 : Int))))))
theorem roadref2_KindsOf.l0_k.mono : MonoF (β := fun _ => (T_roadref2_Wrong)) roadref2_KindsOf.l0_k.body := fun f g hfg p => match p with
  | .l0 y_1 y_2 a_21 x_22 x_23 => LeO.ite (LeO.bind (LeO.refl _) fun y1 => (hfg _)) ((LeO.refl _))
  | .l4 y_1 y_2 y_4 a_21 x_22 x_23 a_28 x_29 x_30 => LeO.ite (LeO.bind (LeO.refl _) fun y1 => LeO.bind (LeO.refl _) fun y24 => LeO.ite ((hfg _)) (LeO.refl _)) ((hfg _))
noncomputable def roadref2_KindsOf.l0_k.go (p : roadref2_KindsOf.l0_k.Pt) : Option (T_roadref2_Wrong) := fixF (β := fun _ => (T_roadref2_Wrong)) roadref2_KindsOf.l0_k.body p
noncomputable def roadref2_KindsOf.l0 (y_1 : T_api_Program) (y_2 : T_roadref2_Wrong) (a_21 : List T_api_Data) (x_22 : Int) (x_23 : Int) : Option (T_roadref2_Wrong) := roadref2_KindsOf.l0_k.go (.l0 y_1 y_2 a_21 x_22 x_23)
noncomputable def roadref2_KindsOf.l4 (y_1 : T_api_Program) (y_2 : T_roadref2_Wrong) (y_4 : T_api_Data) (a_21 : List T_api_Data) (x_22 : Int) (x_23 : Int) (a_28 : List T_api_Make) (x_29 : Int) (x_30 : Int) : Option (T_roadref2_Wrong) := roadref2_KindsOf.l0_k.go (.l4 y_1 y_2 y_4 a_21 x_22 x_23 a_28 x_29 x_30)
theorem roadref2_KindsOf.l0_eq (y_1 : T_api_Program) (y_2 : T_roadref2_Wrong) (a_21 : List T_api_Data) (x_22 : Int) (x_23 : Int) : roadref2_KindsOf.l0 y_1 y_2 a_21 x_22 x_23 = if x_23 < x_22 then (Option.bind (gi a_21 x_23) fun y1 => (roadref2_KindsOf.l4 y_1 y_2 y1 a_21 x_22 x_23 y1.Makes (((List.length y1.Makes) : Nat) : Int) (0 : Int))) else ((roadref2_KindsOf.l1 y_1 y_2 y_1.Traits (((List.length y_1.Traits) : Nat) : Int) (0 : Int))) := fixF_eq roadref2_KindsOf.l0_k.mono _
theorem roadref2_KindsOf.l4_eq (y_1 : T_api_Program) (y_2 : T_roadref2_Wrong) (y_4 : T_api_Data) (a_21 : List T_api_Data) (x_22 : Int) (x_23 : Int) (a_28 : List T_api_Make) (x_29 : Int) (x_30 : Int) : roadref2_KindsOf.l4 y_1 y_2 y_4 a_21 x_22 x_23 a_28 x_29 x_30 = if x_30 < x_29 then (Option.bind (gi a_28 x_30) fun y1 => Option.bind (roadref2_KindOf y_1 y_4.Params y1.Args) fun y24 => if y24 = (0 : Int) then ((roadref2_KindsOf.l4 y_1 y_2 y_4 a_21 x_22 x_23 a_28 x_29 (IntKind.wrap .i64 (x_30 + (1 : Int))))) else (some ((T_roadref2_Wrong.mk y24 (0 : Int))))) else ((roadref2_KindsOf.l0 y_1 y_2 a_21 x_22 (IntKind.wrap .i64 (x_23 + (1 : Int))))) := fixF_eq roadref2_KindsOf.l0_k.mono _
def roadref2_KindsOf.l0_k.I : (p : roadref2_KindsOf.l0_k.Pt) → (T_roadref2_Wrong) → Prop
  | .l0 y_1 y_2 a_21 x_22 x_23, r => ∀ (W : Nat → Prop) (h0 m0 h m : Heap) (bk_1 : Nat) (cs_1 : List Value) (bk_2 : Nat) (cs_2 : List Value) (A_21 : Option Addr) (n_21 c_21 : Nat) (O : Hold W h0 m0 h m [rV bk_1 54 cs_1, rV bk_2 59 cs_2]) (e_1 : T_api_Program.E m y_1 cs_1) (e_2 : T_roadref2_Wrong.E m y_2 cs_2) (ne_21 : n_21 = List.length a_21) (k_21 : List.length a_21 ≤ c_21) (r_21 : Rd 3 T_api_Data.E m A_21 a_21), f22.l0 (roadref2_KindsOf.post W h0 m0 r) (⟨bk_1, 0, none⟩ : Addr) (⟨bk_2, 0, none⟩ : Addr) A_21 n_21 c_21 x_22 x_23 h
  | .l4 y_1 y_2 y_4 a_21 x_22 x_23 a_28 x_29 x_30, r => ∀ (W : Nat → Prop) (h0 m0 h m : Heap) (bk_1 : Nat) (cs_1 : List Value) (bk_2 : Nat) (cs_2 : List Value) (bk_4 : Nat) (cs_4 : List Value) (A_21 : Option Addr) (n_21 c_21 : Nat) (A_28 : Option Addr) (n_28 c_28 : Nat) (O : Hold W h0 m0 h m [rV bk_1 54 cs_1, rV bk_2 59 cs_2, rV bk_4 63 cs_4]) (e_1 : T_api_Program.E m y_1 cs_1) (e_2 : T_roadref2_Wrong.E m y_2 cs_2) (e_4 : T_api_Data.E m y_4 cs_4) (ne_21 : n_21 = List.length a_21) (k_21 : List.length a_21 ≤ c_21) (r_21 : Rd 3 T_api_Data.E m A_21 a_21) (ne_28 : n_28 = List.length a_28) (k_28 : List.length a_28 ≤ c_28) (r_28 : Rd 2 T_api_Make.E m A_28 a_28), f22.l4 (roadref2_KindsOf.post W h0 m0 r) (⟨bk_1, 0, none⟩ : Addr) (⟨bk_2, 0, none⟩ : Addr) (⟨bk_4, 0, none⟩ : Addr) A_21 n_21 c_21 x_22 x_23 A_28 n_28 c_28 x_29 x_30 h
set_option maxRecDepth 100000 in
theorem roadref2_KindsOf.l0_k.step_l0 (go : (p : roadref2_KindsOf.l0_k.Pt) → Option (T_roadref2_Wrong)) (ih : ∀ p r, go p = some r → roadref2_KindsOf.l0_k.I p r) (y_1 : T_api_Program) (y_2 : T_roadref2_Wrong) (a_21 : List T_api_Data) (x_22 : Int) (x_23 : Int) (r : T_roadref2_Wrong) (e : roadref2_KindsOf.l0_k.body go (.l0 y_1 y_2 a_21 x_22 x_23) = some r) : roadref2_KindsOf.l0_k.I (.l0 y_1 y_2 a_21 x_22 x_23) r := by
  unfold roadref2_KindsOf.l0_k.body at e
  intro W h0 m0 h m bk_1 cs_1 bk_2 cs_2 A_21 n_21 c_21 O e_1 e_2 ne_21 k_21 r_21
  subst ne_21
  refine f22.l0_in ?_
  unfold f22.l0T
  refine split_dec_e e (fun c25 e => ?_) (fun c25 e => ?_)
  · obtain ⟨y1, g2, e⟩ := bind_e e
    refine r_21.addr rfl g2 fun a3 cs4 ha5 hc6 he7 => ?_
    refine ⟨_, ldAn O.s hc6 rfl, ?_⟩
    refine O.new fun h8 x9 O10 => ?_
    refine ⟨_, rfl, (T_api_Data.T.len _ _ _ he7), ?_⟩
    refine O10.stA 2 rfl (T_api_Data.T.len _ _ _ he7) (T_api_Data.T.flat _ _ _ he7) fun h12 O13 => ?_
    obtain ⟨A14, c15, q16, k17, r18⟩ := T_api_Data.g2 he7
    refine ⟨_, ldk (k := 2) (Sub.refl _) (O13.all 2 rfl) q16, _, _, _, rfl, ?_⟩
    have O19 := O13.nm
    exact (ih _ _ e) _ _ _ _ _ _ _ _ _ _ _ _ _ _ _ _ _ (O19.pick [0, 1, 2]).nm e_1 e_2 he7 rfl k_21 r_21 rfl k17 r18
  · obtain ⟨A20, c21, q22, k23, r24⟩ := T_api_Program.g4 e_1
    refine ⟨_, ldk (k := 4) (Sub.refl _) (O.all 0 rfl) q22, _, _, _, rfl, ?_⟩
    exact roadref2_KindsOf.l1.walk (O.pick [0, 1]).nm e_1 e_2 rfl k23 r24 e
set_option maxRecDepth 100000 in
theorem roadref2_KindsOf.l0_k.step_l4 (go : (p : roadref2_KindsOf.l0_k.Pt) → Option (T_roadref2_Wrong)) (ih : ∀ p r, go p = some r → roadref2_KindsOf.l0_k.I p r) (y_1 : T_api_Program) (y_2 : T_roadref2_Wrong) (y_4 : T_api_Data) (a_21 : List T_api_Data) (x_22 : Int) (x_23 : Int) (a_28 : List T_api_Make) (x_29 : Int) (x_30 : Int) (r : T_roadref2_Wrong) (e : roadref2_KindsOf.l0_k.body go (.l4 y_1 y_2 y_4 a_21 x_22 x_23 a_28 x_29 x_30) = some r) : roadref2_KindsOf.l0_k.I (.l4 y_1 y_2 y_4 a_21 x_22 x_23 a_28 x_29 x_30) r := by
  unfold roadref2_KindsOf.l0_k.body at e
  intro W h0 m0 h m bk_1 cs_1 bk_2 cs_2 bk_4 cs_4 A_21 n_21 c_21 A_28 n_28 c_28 O e_1 e_2 e_4 ne_21 k_21 r_21 ne_28 k_28 r_28
  subst ne_21
  subst ne_28
  refine f22.l4_in ?_
  unfold f22.l4T
  refine split_dec_e e (fun c35 e => ?_) (fun c35 e => ?_)
  · obtain ⟨y1, g2, e⟩ := bind_e e
    refine r_28.addr rfl g2 fun a3 cs4 ha5 hc6 he7 => ?_
    refine ⟨_, ldAn O.s hc6 rfl, ?_⟩
    refine O.new fun h8 x9 O10 => ?_
    refine ⟨_, rfl, (T_api_Make.T.len _ _ _ he7), ?_⟩
    refine O10.stA 3 rfl (T_api_Make.T.len _ _ _ he7) (T_api_Make.T.flat _ _ _ he7) fun h12 O13 => ?_
    refine ⟨_, ldAn (Sub.refl _) (O13.all 0 rfl) (T_api_Program.T.len _ _ _ e_1), ?_⟩
    obtain ⟨A14, c15, q16, k17, r18⟩ := T_api_Data.g1 e_4
    refine ⟨_, ldk (k := 1) (Sub.refl _) (O13.all 2 rfl) q16, _, _, _, rfl, ?_⟩
    obtain ⟨A19, c20, q21, k22, r23⟩ := T_api_Make.g1 he7
    refine ⟨_, ldk (k := 1) (Sub.refl _) (O13.all 3 rfl) q21, _, _, _, rfl, ?_⟩
    obtain ⟨y24, g25, e⟩ := bind_e e
    refine (roadref2_KindOf.walk (Hold.start (W := No) O13.s) e_1 rfl k17 r18 rfl k22 r23 g25).mono ?_
    rintro _ h26 ⟨m27, Q28, rfl⟩
    have O30 := Hold.nm (O13.retC Q28 vfs_nil)
    refine ⟨_, rfl, ?_⟩
    refine split_ne_e e (fun c34 e => ?_) (fun c34 e => ?_)
    · refine ⟨_, rfl, rfl, ?_⟩
      refine O30.stA 1 rfl ((T_roadref2_Wrong.T.len _ _ _ e_2)).symm (Flats.cons trivial (Flats.cons trivial Flats.nil)) fun h31 O32 => ?_
      refine ⟨_, ldAn (Sub.refl _) (O32.all 1 rfl) rfl, ?_⟩
      have O33 := O32.nm
      cases e
      exact ⟨_, _, O33.pick [], rfl, (show T_roadref2_Wrong.E _ (T_roadref2_Wrong.mk y24 (0 : Int)) [(Value.int .i64 y24), (Value.int .i64 (0 : Int))] from rfl)⟩
    · exact (ih _ _ e) _ _ _ _ _ _ _ _ _ _ _ _ _ _ _ _ _ (O30.pick [0, 1, 2]).nm e_1 e_2 e_4 rfl k_21 r_21 rfl k_28 r_28
  · exact (ih _ _ e) _ _ _ _ _ _ _ _ _ _ _ _ (O.pick [0, 1]).nm e_1 e_2 rfl k_21 r_21
theorem roadref2_KindsOf.l0_k.all {p : roadref2_KindsOf.l0_k.Pt} {r : (T_roadref2_Wrong)} (e : roadref2_KindsOf.l0_k.go p = some r) : roadref2_KindsOf.l0_k.I p r := fixF_ind (β := fun _ => (T_roadref2_Wrong)) roadref2_KindsOf.l0_k.mono (I := roadref2_KindsOf.l0_k.I) (fun go ih p r e => match p with
  | .l0 y_1 y_2 a_21 x_22 x_23 => roadref2_KindsOf.l0_k.step_l0 go ih y_1 y_2 a_21 x_22 x_23 r e
  | .l4 y_1 y_2 y_4 a_21 x_22 x_23 a_28 x_29 x_30 => roadref2_KindsOf.l0_k.step_l4 go ih y_1 y_2 y_4 a_21 x_22 x_23 a_28 x_29 x_30 r e
  ) e
theorem roadref2_KindsOf.l0.walk {W : Nat → Prop} {h0 m0 h m : Heap} {bk_1 : Nat} {cs_1 : List Value} {bk_2 : Nat} {cs_2 : List Value} {A_21 : Option Addr} {n_21 c_21 : Nat} {y_1 : T_api_Program} {y_2 : T_roadref2_Wrong} {a_21 : List T_api_Data} {x_22 : Int} {x_23 : Int} (O : Hold W h0 m0 h m [rV bk_1 54 cs_1, rV bk_2 59 cs_2]) (e_1 : T_api_Program.E m y_1 cs_1) (e_2 : T_roadref2_Wrong.E m y_2 cs_2) (ne_21 : n_21 = List.length a_21) (k_21 : List.length a_21 ≤ c_21) (r_21 : Rd 3 T_api_Data.E m A_21 a_21) {r : T_roadref2_Wrong} (e : roadref2_KindsOf.l0 y_1 y_2 a_21 x_22 x_23 = some r) : f22.l0 (roadref2_KindsOf.post W h0 m0 r) (⟨bk_1, 0, none⟩ : Addr) (⟨bk_2, 0, none⟩ : Addr) A_21 n_21 c_21 x_22 x_23 h := roadref2_KindsOf.l0_k.all (p := .l0 y_1 y_2 a_21 x_22 x_23) e W h0 m0 h m bk_1 cs_1 bk_2 cs_2 A_21 n_21 c_21 O e_1 e_2 ne_21 k_21 r_21
noncomputable def roadref2_KindsOf (y_0 : T_api_Program) : Option (T_roadref2_Wrong) :=
  (roadref2_KindsOf.l0 y_0 (T_roadref2_Wrong.mk (0 : Int) (0 : Int)) y_0.Datas (((List.length y_0.Datas) : Nat) : Int) (0 : Int))
set_option maxRecDepth 100000 in
theorem roadref2_KindsOf.walk {W : Nat → Prop} {h m : Heap} {cs_0 : List Value} {y_0 : T_api_Program} (O : Hold W h m h m []) (e_0 : T_api_Program.E m y_0 cs_0) {r : T_roadref2_Wrong} (e : roadref2_KindsOf y_0 = some r) : Run Tryd.prog 22 #[Value.agg cs_0.toArray] h (roadref2_KindsOf.post W h m r) := by
  unfold roadref2_KindsOf at e
  refine f22.run ?_
  unfold f22.runT
  refine O.new fun h1 x2 O3 => ?_
  refine O3.new fun h5 x6 O7 => ?_
  obtain ⟨A9, c10, q11, k12, r13⟩ := T_api_Program.g3 e_0
  refine ⟨_, ldk (k := 3) (Sub.refl _) (O7.all 0 rfl) q11, _, _, _, rfl, ?_⟩
  have O14 := O7.nm
  exact roadref2_KindsOf.l0.walk (O14.pick [0, 1]).nm e_0 (show T_roadref2_Wrong.E _ (T_roadref2_Wrong.mk (0 : Int) (0 : Int)) [(Value.int .i64 (0 : Int)), (Value.int .i64 (0 : Int))] from rfl) rfl k12 r13 e
def roadlaw2_KindSays_1.post (W : Nat → Prop) (h0 m0 : Heap) (r : Bool) (v : Value) (h : Heap) : Prop := ∃ m , Hold W h0 m0 h m [] ∧ v = .bool r
noncomputable def roadlaw2_KindSays_1 (y_0 : T_api_Data) (y_1 : ByteArray) : Option (Bool) :=
  some ((decide (y_0.Name = y_1)))
set_option maxRecDepth 100000 in
theorem roadlaw2_KindSays_1.walk {W : Nat → Prop} {h m : Heap} {cs_0 : List Value} {bk_1 : Nat} {y_0 : T_api_Data} {y_1 : ByteArray} (O : Hold W h m h m []) (e_0 : T_api_Data.E m y_0 cs_0) (v_1 : VB eStr m bk_1 y_1) {r : Bool} (e : roadlaw2_KindSays_1 y_0 y_1 = some r) : Run Tryd.prog 25 #[Value.agg cs_0.toArray, Value.pointer (some ⟨bk_1, 0, none⟩)] h (roadlaw2_KindSays_1.post W h m r) := by
  unfold roadlaw2_KindSays_1 at e
  obtain ⟨cs_1, t_1, hb_1, nn_1, e_1⟩ := id v_1
  obtain rfl : cs_1 = [(Value.string y_1)] := e_1
  refine f25.run ?_
  unfold f25.runT
  refine O.new fun h1 x2 O3 => ?_
  refine ⟨_, ld0 (Sub.refl _) (O3.all 0 rfl) (T_api_Data.g0 e_0), _, rfl, ?_⟩
  refine ⟨_, ld0 O3.s (Blk.all' hb_1) rfl, _, rfl, ?_⟩
  try rw [ba_list y_0.Name y_1]
  have O5 := O3.nm
  cases e
  exact ⟨_, O5.pick [], rfl⟩
def kind_Copy.post (W : Nat → Prop) (h0 m0 : Heap) (r : T_api_Type) (v : Value) (h : Heap) : Prop := ∃ m cs0, Hold W h0 m0 h m [] ∧ v = .agg cs0.toArray ∧ T_api_Type.E m r cs0
def kind_Put.post (W : Nat → Prop) (h0 m0 : Heap) (r : T_api_Type) (v : Value) (h : Heap) : Prop := ∃ m cs0, Hold W h0 m0 h m [] ∧ v = .agg cs0.toArray ∧ T_api_Type.E m r cs0
inductive kind_Put_k.Pt where
  | f_29 (y_0 : T_api_Type) (a_1 : List ByteArray) (a_2 : List T_api_Type)
  | j1_29 (a_1 : List ByteArray) (a_2 : List T_api_Type) (y_3 : T_api_Type) (y_6 : T_api_Type) (x_7 : Int) (b_24 : Bool)
  | j0_29 (a_1 : List ByteArray) (a_2 : List T_api_Type) (y_3 : T_api_Type) (y_6 : T_api_Type)
  | l0_29 (a_1 : List ByteArray) (a_2 : List T_api_Type) (x_3_0 : Int) (s_3_1 : ByteArray) (a_3_2 : (List T_api_Type)) (y_6 : T_api_Type) (x_40 : Int) (x_41 : Int)
  | f_30 (y_0 : T_api_Type)
noncomputable def kind_Put_k.body (go : (p : kind_Put_k.Pt) → Option (T_api_Type)) : (p : kind_Put_k.Pt) → Option (T_api_Type)
  | .f_29 y_0 a_1 a_2 => if y_0.Kind = (5 : Int) then (Option.bind (slices_Index_33 a_1 y_0.Name) fun y9 => if y9 ≥ (0 : Int) then ((go (.j1_29 a_1 a_2 y_0 (T_api_Type.mk (0 : Int) (ByteArray.mk #[]) ([] : List T_api_Type)) y9 (decide (y9 < (((List.length a_2) : Nat) : Int)))))) else ((go (.j1_29 a_1 a_2 y_0 (T_api_Type.mk (0 : Int) (ByteArray.mk #[]) ([] : List T_api_Type)) y9 false)))) else ((go (.j0_29 a_1 a_2 y_0 (T_api_Type.mk (0 : Int) (ByteArray.mk #[]) ([] : List T_api_Type)))))
  | .j1_29 a_1 a_2 y_3 y_6 x_7 b_24 => if b_24 = true then (Option.bind (gi a_2 x_7) fun y1 => Option.bind ((go (.f_30 y1))) fun y8 => some (y8)) else ((go (.j0_29 a_1 a_2 y_3 y_6)))
  | .j0_29 a_1 a_2 y_3 y_6 => Option.bind (slices_Clone_42 y_3.Args) fun y6 => (go (.l0_29 a_1 a_2 y_3.Kind y_3.Name y6 y_6 (((List.length y6) : Nat) : Int) (0 : Int)))
  | .l0_29 a_1 a_2 x_3_0 s_3_1 a_3_2 y_6 x_40 x_41 => if x_41 < x_40 then (Option.bind (gi a_3_2 x_41) fun y1 => Option.bind ((go (.f_29 y1 a_1 a_2))) fun y14 => Option.bind (gi a_3_2 x_41) fun y24 => Option.bind (some (List.set a_3_2 (Int.toNat x_41) y14)) fun l33 => (go (.l0_29 a_1 a_2 x_3_0 s_3_1 l33 y_6 x_40 (IntKind.wrap .i64 (x_41 + (1 : Int)))))) else (some ((T_api_Type.mk x_3_0 s_3_1 a_3_2)))
  | .f_30 y_0 => Option.bind ((go (.f_29 y_0 ([] : List ByteArray) ([] : List T_api_Type)))) fun y9 => some (y9)
theorem kind_Put_k.mono : MonoF (β := fun _ => (T_api_Type)) kind_Put_k.body := fun f g hfg p => match p with
  | .f_29 y_0 a_1 a_2 => LeO.ite (LeO.bind (LeO.refl _) fun y9 => LeO.ite ((hfg _)) ((hfg _))) ((hfg _))
  | .j1_29 a_1 a_2 y_3 y_6 x_7 b_24 => LeO.ite (LeO.bind (LeO.refl _) fun y1 => LeO.bind ((hfg _)) fun y8 => LeO.refl _) ((hfg _))
  | .j0_29 a_1 a_2 y_3 y_6 => LeO.bind (LeO.refl _) fun y6 => (hfg _)
  | .l0_29 a_1 a_2 x_3_0 s_3_1 a_3_2 y_6 x_40 x_41 => LeO.ite (LeO.bind (LeO.refl _) fun y1 => LeO.bind ((hfg _)) fun y14 => LeO.bind (LeO.refl _) fun y24 => LeO.bind (LeO.refl _) fun l33 => (hfg _)) (LeO.refl _)
  | .f_30 y_0 => LeO.bind ((hfg _)) fun y9 => LeO.refl _
noncomputable def kind_Put_k.go (p : kind_Put_k.Pt) : Option (T_api_Type) := fixF (β := fun _ => (T_api_Type)) kind_Put_k.body p
noncomputable def kind_Put (y_0 : T_api_Type) (a_1 : List ByteArray) (a_2 : List T_api_Type) : Option (T_api_Type) := kind_Put_k.go (.f_29 y_0 a_1 a_2)
noncomputable def kind_Put.j1 (a_1 : List ByteArray) (a_2 : List T_api_Type) (y_3 : T_api_Type) (y_6 : T_api_Type) (x_7 : Int) (b_24 : Bool) : Option (T_api_Type) := kind_Put_k.go (.j1_29 a_1 a_2 y_3 y_6 x_7 b_24)
noncomputable def kind_Put.j0 (a_1 : List ByteArray) (a_2 : List T_api_Type) (y_3 : T_api_Type) (y_6 : T_api_Type) : Option (T_api_Type) := kind_Put_k.go (.j0_29 a_1 a_2 y_3 y_6)
noncomputable def kind_Put.l0 (a_1 : List ByteArray) (a_2 : List T_api_Type) (x_3_0 : Int) (s_3_1 : ByteArray) (a_3_2 : (List T_api_Type)) (y_6 : T_api_Type) (x_40 : Int) (x_41 : Int) : Option (T_api_Type) := kind_Put_k.go (.l0_29 a_1 a_2 x_3_0 s_3_1 a_3_2 y_6 x_40 x_41)
noncomputable def kind_Copy (y_0 : T_api_Type) : Option (T_api_Type) := kind_Put_k.go (.f_30 y_0)
theorem kind_Put_eq (y_0 : T_api_Type) (a_1 : List ByteArray) (a_2 : List T_api_Type) : kind_Put y_0 a_1 a_2 = if y_0.Kind = (5 : Int) then (Option.bind (slices_Index_33 a_1 y_0.Name) fun y9 => if y9 ≥ (0 : Int) then ((kind_Put.j1 a_1 a_2 y_0 (T_api_Type.mk (0 : Int) (ByteArray.mk #[]) ([] : List T_api_Type)) y9 (decide (y9 < (((List.length a_2) : Nat) : Int))))) else ((kind_Put.j1 a_1 a_2 y_0 (T_api_Type.mk (0 : Int) (ByteArray.mk #[]) ([] : List T_api_Type)) y9 false))) else ((kind_Put.j0 a_1 a_2 y_0 (T_api_Type.mk (0 : Int) (ByteArray.mk #[]) ([] : List T_api_Type)))) := fixF_eq kind_Put_k.mono _
theorem kind_Put.j1_eq (a_1 : List ByteArray) (a_2 : List T_api_Type) (y_3 : T_api_Type) (y_6 : T_api_Type) (x_7 : Int) (b_24 : Bool) : kind_Put.j1 a_1 a_2 y_3 y_6 x_7 b_24 = if b_24 = true then (Option.bind (gi a_2 x_7) fun y1 => Option.bind ((kind_Copy y1)) fun y8 => some (y8)) else ((kind_Put.j0 a_1 a_2 y_3 y_6)) := fixF_eq kind_Put_k.mono _
theorem kind_Put.j0_eq (a_1 : List ByteArray) (a_2 : List T_api_Type) (y_3 : T_api_Type) (y_6 : T_api_Type) : kind_Put.j0 a_1 a_2 y_3 y_6 = Option.bind (slices_Clone_42 y_3.Args) fun y6 => (kind_Put.l0 a_1 a_2 y_3.Kind y_3.Name y6 y_6 (((List.length y6) : Nat) : Int) (0 : Int)) := fixF_eq kind_Put_k.mono _
theorem kind_Put.l0_eq (a_1 : List ByteArray) (a_2 : List T_api_Type) (x_3_0 : Int) (s_3_1 : ByteArray) (a_3_2 : (List T_api_Type)) (y_6 : T_api_Type) (x_40 : Int) (x_41 : Int) : kind_Put.l0 a_1 a_2 x_3_0 s_3_1 a_3_2 y_6 x_40 x_41 = if x_41 < x_40 then (Option.bind (gi a_3_2 x_41) fun y1 => Option.bind ((kind_Put y1 a_1 a_2)) fun y14 => Option.bind (gi a_3_2 x_41) fun y24 => Option.bind (some (List.set a_3_2 (Int.toNat x_41) y14)) fun l33 => (kind_Put.l0 a_1 a_2 x_3_0 s_3_1 l33 y_6 x_40 (IntKind.wrap .i64 (x_41 + (1 : Int))))) else (some ((T_api_Type.mk x_3_0 s_3_1 a_3_2))) := fixF_eq kind_Put_k.mono _
theorem kind_Copy_eq (y_0 : T_api_Type) : kind_Copy y_0 = Option.bind ((kind_Put y_0 ([] : List ByteArray) ([] : List T_api_Type))) fun y9 => some (y9) := fixF_eq kind_Put_k.mono _
def kind_Put_k.I : (p : kind_Put_k.Pt) → (T_api_Type) → Prop
  | .f_29 y_0 a_1 a_2, r => ∀ (W : Nat → Prop) (h m : Heap) (cs_0 : List Value) (A_1 : Option Addr) (n_1 c_1 : Nat) (A_2 : Option Addr) (n_2 c_2 : Nat) (O : Hold W h m h m []) (e_0 : T_api_Type.E m y_0 cs_0) (ne_1 : n_1 = List.length a_1) (k_1 : List.length a_1 ≤ c_1) (r_1 : Rd 1 eStr m A_1 a_1) (ne_2 : n_2 = List.length a_2) (k_2 : List.length a_2 ≤ c_2) (r_2 : Rd 3 T_api_Type.E m A_2 a_2), Run Tryd.prog 29 #[Value.agg cs_0.toArray, Value.slice A_1 n_1 c_1, Value.slice A_2 n_2 c_2] h (kind_Put.post W h m r)
  | .j1_29 a_1 a_2 y_3 y_6 x_7 b_24, r => ∀ (W : Nat → Prop) (h0 m0 h m : Heap) (A_1 : Option Addr) (n_1 c_1 : Nat) (A_2 : Option Addr) (n_2 c_2 : Nat) (bk_3 : Nat) (cs_3 : List Value) (bk_6 : Nat) (cs_6 : List Value) (O : Hold W h0 m0 h m [rV bk_3 25 cs_3, rV bk_6 25 cs_6]) (ne_1 : n_1 = List.length a_1) (k_1 : List.length a_1 ≤ c_1) (r_1 : Rd 1 eStr m A_1 a_1) (ne_2 : n_2 = List.length a_2) (k_2 : List.length a_2 ≤ c_2) (r_2 : Rd 3 T_api_Type.E m A_2 a_2) (e_3 : T_api_Type.E m y_3 cs_3) (e_6 : T_api_Type.E m y_6 cs_6), f29.j1 (kind_Put.post W h0 m0 r) A_1 n_1 c_1 A_2 n_2 c_2 (⟨bk_3, 0, none⟩ : Addr) (⟨bk_6, 0, none⟩ : Addr) x_7 b_24 h
  | .j0_29 a_1 a_2 y_3 y_6, r => ∀ (W : Nat → Prop) (h0 m0 h m : Heap) (A_1 : Option Addr) (n_1 c_1 : Nat) (A_2 : Option Addr) (n_2 c_2 : Nat) (bk_3 : Nat) (cs_3 : List Value) (bk_6 : Nat) (cs_6 : List Value) (O : Hold W h0 m0 h m [rV bk_3 25 cs_3, rV bk_6 25 cs_6]) (ne_1 : n_1 = List.length a_1) (k_1 : List.length a_1 ≤ c_1) (r_1 : Rd 1 eStr m A_1 a_1) (ne_2 : n_2 = List.length a_2) (k_2 : List.length a_2 ≤ c_2) (r_2 : Rd 3 T_api_Type.E m A_2 a_2) (e_3 : T_api_Type.E m y_3 cs_3) (e_6 : T_api_Type.E m y_6 cs_6), f29.j0 (kind_Put.post W h0 m0 r) A_1 n_1 c_1 A_2 n_2 c_2 (⟨bk_3, 0, none⟩ : Addr) (⟨bk_6, 0, none⟩ : Addr) h
  | .l0_29 a_1 a_2 x_3_0 s_3_1 a_3_2 y_6 x_40 x_41, r => ∀ (W : Nat → Prop) (h0 m0 h m : Heap) (A_1 : Option Addr) (n_1 c_1 : Nat) (A_2 : Option Addr) (n_2 c_2 : Nat) (bk_3 : Nat) (A_3_2_0 : Option Addr) (n_3_2_0 : Nat) (c_3_2_0 : Nat) (bk_6 : Nat) (cs_6 : List Value) (O : Hold W h0 m0 h m [rV bk_3 25 [(Value.int .i64 x_3_0), (Value.string s_3_1), (Value.slice A_3_2_0 n_3_2_0 c_3_2_0)], rR (aE T_api_Type.T) A_3_2_0 c_3_2_0 a_3_2, rV bk_6 25 cs_6]) (ne_1 : n_1 = List.length a_1) (k_1 : List.length a_1 ≤ c_1) (r_1 : Rd 1 eStr m A_1 a_1) (ne_2 : n_2 = List.length a_2) (k_2 : List.length a_2 ≤ c_2) (r_2 : Rd 3 T_api_Type.E m A_2 a_2) (ne_3_2_0 : n_3_2_0 = List.length a_3_2) (e_6 : T_api_Type.E m y_6 cs_6), f29.l0 (kind_Put.post W h0 m0 r) A_1 n_1 c_1 A_2 n_2 c_2 (⟨bk_3, 0, none⟩ : Addr) (⟨bk_6, 0, none⟩ : Addr) A_3_2_0 n_3_2_0 c_3_2_0 x_40 x_41 h
  | .f_30 y_0, r => ∀ (W : Nat → Prop) (h m : Heap) (cs_0 : List Value) (O : Hold W h m h m []) (e_0 : T_api_Type.E m y_0 cs_0), Run Tryd.prog 30 #[Value.agg cs_0.toArray] h (kind_Copy.post W h m r)
set_option maxRecDepth 100000 in
theorem kind_Put_k.step_f_29 (go : (p : kind_Put_k.Pt) → Option (T_api_Type)) (ih : ∀ p r, go p = some r → kind_Put_k.I p r) (y_0 : T_api_Type) (a_1 : List ByteArray) (a_2 : List T_api_Type) (r : T_api_Type) (e : kind_Put_k.body go (.f_29 y_0 a_1 a_2) = some r) : kind_Put_k.I (.f_29 y_0 a_1 a_2) r := by
  unfold kind_Put_k.body at e
  intro W h m cs_0 A_1 n_1 c_1 A_2 n_2 c_2 O e_0 ne_1 k_1 r_1 ne_2 k_2 r_2
  subst ne_1
  subst ne_2
  refine f29.run ?_
  unfold f29.runT
  refine O.new fun h1 x2 O3 => ?_
  refine O3.new fun h5 x6 O7 => ?_
  refine ⟨_, ld0 (Sub.refl _) (O7.all 0 rfl) (T_api_Type.g0 e_0), _, rfl, ?_⟩
  refine split_eq_e e (fun c18 e => ?_) (fun c18 e => ?_)
  · refine ⟨_, ldk (k := 1) (Sub.refl _) (O7.all 0 rfl) (T_api_Type.g1 e_0), _, rfl, ?_⟩
    obtain ⟨y9, g10, e⟩ := bind_e e
    refine (slices_Index_33.walk (Hold.start (W := No) O7.s) rfl k_1 r_1 g10).mono ?_
    rintro _ h11 ⟨m12, Q13, rfl⟩
    have O15 := Hold.nm (O7.retC Q13 vfs_nil)
    refine ⟨_, rfl, ?_⟩
    refine split_dec_e e (fun c16 e => ?_) (fun c16 e => ?_)
    · exact (ih _ _ e) _ _ _ _ _ _ _ _ _ _ _ _ _ _ _ (O15.pick [0, 1]).nm rfl k_1 r_1 rfl k_2 r_2 e_0 (T_api_Type.iff.2 ⟨_, _, rfl, (by exact Nat.le_refl 0), Rd.nil⟩)
    · exact (ih _ _ e) _ _ _ _ _ _ _ _ _ _ _ _ _ _ _ (O15.pick [0, 1]).nm rfl k_1 r_1 rfl k_2 r_2 e_0 (T_api_Type.iff.2 ⟨_, _, rfl, (by exact Nat.le_refl 0), Rd.nil⟩)
  · have O17 := O7.nm
    exact (ih _ _ e) _ _ _ _ _ _ _ _ _ _ _ _ _ _ _ (O17.pick [0, 1]).nm rfl k_1 r_1 rfl k_2 r_2 e_0 (T_api_Type.iff.2 ⟨_, _, rfl, (by exact Nat.le_refl 0), Rd.nil⟩)
set_option maxRecDepth 100000 in
theorem kind_Put_k.step_j1_29 (go : (p : kind_Put_k.Pt) → Option (T_api_Type)) (ih : ∀ p r, go p = some r → kind_Put_k.I p r) (a_1 : List ByteArray) (a_2 : List T_api_Type) (y_3 : T_api_Type) (y_6 : T_api_Type) (x_7 : Int) (b_24 : Bool) (r : T_api_Type) (e : kind_Put_k.body go (.j1_29 a_1 a_2 y_3 y_6 x_7 b_24) = some r) : kind_Put_k.I (.j1_29 a_1 a_2 y_3 y_6 x_7 b_24) r := by
  unfold kind_Put_k.body at e
  intro W h0 m0 h m A_1 n_1 c_1 A_2 n_2 c_2 bk_3 cs_3 bk_6 cs_6 O ne_1 k_1 r_1 ne_2 k_2 r_2 e_3 e_6
  subst ne_1
  subst ne_2
  refine f29.j1_in ?_
  unfold f29.j1T
  refine split_any_e e (fun c21 e => ?_) (fun c21 e => ?_)
  · obtain ⟨y1, g2, e⟩ := bind_e e
    refine r_2.addr rfl g2 fun a3 cs4 ha5 hc6 he7 => ?_
    refine ⟨_, ldAn O.s hc6 rfl, ?_⟩
    obtain ⟨y8, g9, e⟩ := bind_e e
    refine ((ih _ _ g9) _ _ _ _ (Hold.start (W := No) O.s) he7).mono ?_
    rintro _ h10 ⟨m11, cs15, Q12, rfl, he16⟩
    have O17 := Hold.nm (O.ret Q12)
    refine ⟨_, rfl, (T_api_Type.T.len _ _ _ he16), ?_⟩
    refine O17.stA 1 rfl ((T_api_Type.T.len _ _ _ he16).trans ((T_api_Type.T.len _ _ _ e_6)).symm) (T_api_Type.T.flat _ _ _ he16) fun h18 O19 => ?_
    refine ⟨_, ldAn (Sub.refl _) (O19.all 1 rfl) (T_api_Type.T.len _ _ _ he16), ?_⟩
    have O20 := O19.nm
    cases e
    exact ⟨_, _, O20.pick [], rfl, he16⟩
  · exact (ih _ _ e) _ _ _ _ _ _ _ _ _ _ _ _ _ _ _ (O.pick [0, 1]).nm rfl k_1 r_1 rfl k_2 r_2 e_3 e_6
set_option maxRecDepth 100000 in
theorem kind_Put_k.step_j0_29 (go : (p : kind_Put_k.Pt) → Option (T_api_Type)) (ih : ∀ p r, go p = some r → kind_Put_k.I p r) (a_1 : List ByteArray) (a_2 : List T_api_Type) (y_3 : T_api_Type) (y_6 : T_api_Type) (r : T_api_Type) (e : kind_Put_k.body go (.j0_29 a_1 a_2 y_3 y_6) = some r) : kind_Put_k.I (.j0_29 a_1 a_2 y_3 y_6) r := by
  unfold kind_Put_k.body at e
  intro W h0 m0 h m A_1 n_1 c_1 A_2 n_2 c_2 bk_3 cs_3 bk_6 cs_6 O ne_1 k_1 r_1 ne_2 k_2 r_2 e_3 e_6
  subst ne_1
  subst ne_2
  refine f29.j0_in ?_
  unfold f29.j0T
  refine ⟨_, ld0 (Sub.refl _) (O.all 0 rfl) (T_api_Type.g0 e_3), _, rfl, ?_⟩
  refine ⟨_, ldk (k := 1) (Sub.refl _) (O.all 0 rfl) (T_api_Type.g1 e_3), _, rfl, ?_⟩
  obtain ⟨A1, c2, q3, k4, r5⟩ := T_api_Type.g2 e_3
  refine ⟨_, ldk (k := 2) (Sub.refl _) (O.all 0 rfl) q3, _, _, _, rfl, ?_⟩
  obtain ⟨y6, g7, e⟩ := bind_e e
  refine (slices_Clone_42.walk (Hold.start (W := No) O.s) rfl k4 r5 g7).mono ?_
  rintro _ h8 ⟨m9, A12, n13, c14, Q10, rfl, ne15⟩
  have O17 := Hold.nm (O.ret Q10)
  subst ne15
  refine ⟨_, _, _, rfl, ?_⟩
  refine ⟨Q10.S.ext, ?_⟩
  refine ⟨_, rfl, rfl, ?_⟩
  refine O17.stA 0 rfl ((T_api_Type.T.len _ _ _ e_3)).symm (Flats.cons trivial (Flats.cons trivial (Flats.cons trivial Flats.nil))) fun h18 O19 => ?_
  refine ⟨_, ldk (k := 2) (Sub.refl _) (O19.all 0 rfl) rfl, _, _, _, rfl, ?_⟩
  have O20 := O19.nm
  exact (ih _ _ e) _ _ _ _ _ _ _ _ _ _ _ _ _ _ _ _ _ (O20.pick [0, 2, 1]).nm rfl k_1 (r_1.sub tell_str Q10.S.up) rfl k_2 (r_2.sub T_api_Type.T Q10.S.up) rfl (T_api_Type.T.mono _ _ _ _ Q10.S.up e_6)
set_option maxHeartbeats 4000000 in
set_option maxRecDepth 100000 in
theorem kind_Put_k.step_l0_29 (go : (p : kind_Put_k.Pt) → Option (T_api_Type)) (ih : ∀ p r, go p = some r → kind_Put_k.I p r) (a_1 : List ByteArray) (a_2 : List T_api_Type) (x_3_0 : Int) (s_3_1 : ByteArray) (a_3_2 : (List T_api_Type)) (y_6 : T_api_Type) (x_40 : Int) (x_41 : Int) (r : T_api_Type) (e : kind_Put_k.body go (.l0_29 a_1 a_2 x_3_0 s_3_1 a_3_2 y_6 x_40 x_41) = some r) : kind_Put_k.I (.l0_29 a_1 a_2 x_3_0 s_3_1 a_3_2 y_6 x_40 x_41) r := by
  unfold kind_Put_k.body at e
  intro W h0 m0 h m A_1 n_1 c_1 A_2 n_2 c_2 bk_3 A_3_2_0 n_3_2_0 c_3_2_0 bk_6 cs_6 O ne_1 k_1 r_1 ne_2 k_2 r_2 ne_3_2_0 e_6
  subst ne_1
  subst ne_2
  subst ne_3_2_0
  refine f29.l0_in ?_
  unfold f29.l0T
  refine split_dec_e e (fun c88 e => ?_) (fun c88 e => ?_)
  · obtain ⟨y1, g2, e⟩ := bind_e e
    refine (O.os 1 rfl).addr rfl g2 fun a3 cs4 ha5 hc6 he7 => ?_
    refine ⟨_, ldAn (Sub.refl _) hc6 rfl, ?_⟩
    refine O.new fun h8 x9 O10 => ?_
    refine ⟨_, rfl, (T_api_Type.T.len _ _ _ he7), ?_⟩
    refine O10.stA 3 rfl (T_api_Type.T.len _ _ _ he7) (T_api_Type.T.flat _ _ _ he7) fun h12 O13 => ?_
    refine ⟨_, ldAn (Sub.refl _) (O13.all 3 rfl) (T_api_Type.T.len _ _ _ he7), ?_⟩
    obtain ⟨y14, g15, e⟩ := bind_e e
    obtain ⟨y24, g25, e⟩ := bind_e e
    obtain ⟨l33, g34, e⟩ := bind_e e
    refine ⟨?_, ?_⟩
    · refine ⟨_, ldk (k := 2) (Sub.refl _) (O13.all 0 rfl) rfl, _, _, _, rfl, ?_⟩
      refine ⟨Ext.refl _, ?_⟩
      refine ((ih _ _ g15) _ _ _ _ _ _ _ _ _ _ (Hold.start (W := No) O13.s) he7 rfl k_1 r_1 rfl k_2 r_2).mono ?_
      rintro _ h38 ⟨m39, cs43, Q40, rfl, he44⟩
      have O45 := Hold.nm (O13.ret Q40)
      refine (O45.os 1 rfl).addr rfl g25 fun a48 cs49 ha50 hc51 he52 => ?_
      replace g34 := Option.some.inj g34
      refine ⟨_, rfl, (T_api_Type.T.len _ _ _ he44), ?_⟩
      refine O45.elstA 1 rfl g25 ha50 hc51 (y' := y14) he44 (T_api_Type.T.flat _ _ _ he44) g34 fun h53 O54 => ?_
      have O57 := O54.nm
      exact (ih _ _ e) _ _ _ _ _ _ _ _ _ _ _ _ _ _ _ _ _ (O57.pick [0, 1, 2]).nm rfl k_1 (r_1.sub tell_str Q40.S.up) rfl k_2 (r_2.sub T_api_Type.T Q40.S.up) (lset' g34) (T_api_Type.T.mono _ _ _ _ Q40.S.up e_6)
    · refine ((ih _ _ g15) _ _ _ _ _ _ _ _ _ _ (Hold.start (W := No) O13.s) he7 rfl k_1 r_1 rfl k_2 r_2).mono ?_
      rintro _ h60 ⟨m61, cs65, Q62, rfl, he66⟩
      have O67 := Hold.nm (O13.ret Q62)
      refine ⟨_, ldk (k := 2) (Sub.refl _) (O67.all 0 rfl) rfl, _, _, _, rfl, ?_⟩
      refine ⟨Ext.refl _, ?_⟩
      refine (O67.os 1 rfl).addr rfl g25 fun a70 cs71 ha72 hc73 he74 => ?_
      replace g34 := Option.some.inj g34
      refine ⟨_, rfl, (T_api_Type.T.len _ _ _ he66), ?_⟩
      refine O67.elstA 1 rfl g25 ha72 hc73 (y' := y14) he66 (T_api_Type.T.flat _ _ _ he66) g34 fun h75 O76 => ?_
      have O79 := O76.nm
      exact (ih _ _ e) _ _ _ _ _ _ _ _ _ _ _ _ _ _ _ _ _ (O79.pick [0, 1, 2]).nm rfl k_1 (r_1.sub tell_str Q62.S.up) rfl k_2 (r_2.sub T_api_Type.T Q62.S.up) (lset' g34) (T_api_Type.T.mono _ _ _ _ Q62.S.up e_6)
  · refine ⟨_, ldAn (Sub.refl _) (O.all 0 rfl) rfl, ?_⟩
    refine ⟨_, rfl, rfl, ?_⟩
    refine O.stA 2 rfl ((T_api_Type.T.len _ _ _ e_6)).symm (Flats.cons trivial (Flats.cons trivial (Flats.cons trivial Flats.nil))) fun h80 O81 => ?_
    refine ⟨_, ldAn (Sub.refl _) (O81.all 2 rfl) rfl, ?_⟩
    obtain ⟨m82, u83, ⟨r84, k85⟩, O86⟩ := O81.frz 1 rfl
    replace r84 : Rd 3 T_api_Type.E m82 A_3_2_0 a_3_2 := r84
    have O87 := O86.nm
    cases e
    exact ⟨_, _, O87.pick [], rfl, (T_api_Type.iff.2 ⟨_, _, rfl, k85, r84⟩)⟩
set_option maxRecDepth 100000 in
theorem kind_Put_k.step_f_30 (go : (p : kind_Put_k.Pt) → Option (T_api_Type)) (ih : ∀ p r, go p = some r → kind_Put_k.I p r) (y_0 : T_api_Type) (r : T_api_Type) (e : kind_Put_k.body go (.f_30 y_0) = some r) : kind_Put_k.I (.f_30 y_0) r := by
  unfold kind_Put_k.body at e
  intro W h m cs_0 O e_0
  refine f30.run ?_
  unfold f30.runT
  refine O.new fun h1 x2 O3 => ?_
  refine O3.new fun h5 x6 O7 => ?_
  refine ⟨_, ldAn (Sub.refl _) (O7.all 0 rfl) (T_api_Type.T.len _ _ _ e_0), ?_⟩
  obtain ⟨y9, g10, e⟩ := bind_e e
  refine ((ih _ _ g10) _ _ _ _ _ _ _ _ _ _ (Hold.start (W := No) O7.s) e_0 rfl (by exact Nat.le_refl 0) Rd.nil rfl (by exact Nat.le_refl 0) Rd.nil).mono ?_
  rintro _ h11 ⟨m12, cs16, Q13, rfl, he17⟩
  have O18 := Hold.nm (O7.ret Q13)
  refine ⟨_, rfl, (T_api_Type.T.len _ _ _ he17), ?_⟩
  refine O18.stA 1 rfl (T_api_Type.T.len _ _ _ he17) (T_api_Type.T.flat _ _ _ he17) fun h19 O20 => ?_
  refine ⟨_, ldAn (Sub.refl _) (O20.all 1 rfl) (T_api_Type.T.len _ _ _ he17), ?_⟩
  have O21 := O20.nm
  cases e
  exact ⟨_, _, O21.pick [], rfl, he17⟩
theorem kind_Put_k.all {p : kind_Put_k.Pt} {r : (T_api_Type)} (e : kind_Put_k.go p = some r) : kind_Put_k.I p r := fixF_ind (β := fun _ => (T_api_Type)) kind_Put_k.mono (I := kind_Put_k.I) (fun go ih p r e => match p with
  | .f_29 y_0 a_1 a_2 => kind_Put_k.step_f_29 go ih y_0 a_1 a_2 r e
  | .j1_29 a_1 a_2 y_3 y_6 x_7 b_24 => kind_Put_k.step_j1_29 go ih a_1 a_2 y_3 y_6 x_7 b_24 r e
  | .j0_29 a_1 a_2 y_3 y_6 => kind_Put_k.step_j0_29 go ih a_1 a_2 y_3 y_6 r e
  | .l0_29 a_1 a_2 x_3_0 s_3_1 a_3_2 y_6 x_40 x_41 => kind_Put_k.step_l0_29 go ih a_1 a_2 x_3_0 s_3_1 a_3_2 y_6 x_40 x_41 r e
  | .f_30 y_0 => kind_Put_k.step_f_30 go ih y_0 r e
  ) e
theorem kind_Put.walk {W : Nat → Prop} {h m : Heap} {cs_0 : List Value} {A_1 : Option Addr} {n_1 c_1 : Nat} {A_2 : Option Addr} {n_2 c_2 : Nat} {y_0 : T_api_Type} {a_1 : List ByteArray} {a_2 : List T_api_Type} (O : Hold W h m h m []) (e_0 : T_api_Type.E m y_0 cs_0) (ne_1 : n_1 = List.length a_1) (k_1 : List.length a_1 ≤ c_1) (r_1 : Rd 1 eStr m A_1 a_1) (ne_2 : n_2 = List.length a_2) (k_2 : List.length a_2 ≤ c_2) (r_2 : Rd 3 T_api_Type.E m A_2 a_2) {r : T_api_Type} (e : kind_Put y_0 a_1 a_2 = some r) : Run Tryd.prog 29 #[Value.agg cs_0.toArray, Value.slice A_1 n_1 c_1, Value.slice A_2 n_2 c_2] h (kind_Put.post W h m r) := kind_Put_k.all (p := .f_29 y_0 a_1 a_2) e W h m cs_0 A_1 n_1 c_1 A_2 n_2 c_2 O e_0 ne_1 k_1 r_1 ne_2 k_2 r_2
theorem kind_Copy.walk {W : Nat → Prop} {h m : Heap} {cs_0 : List Value} {y_0 : T_api_Type} (O : Hold W h m h m []) (e_0 : T_api_Type.E m y_0 cs_0) {r : T_api_Type} (e : kind_Copy y_0 = some r) : Run Tryd.prog 30 #[Value.agg cs_0.toArray] h (kind_Copy.post W h m r) := kind_Put_k.all (p := .f_30 y_0) e W h m cs_0 O e_0
end Go.Proofs.YtdlihfedhojdgaaDoor.Fw

end
section
namespace Go.Proofs.YtdlihfedhojdgaaDoor.Fw
open Go Go.Hw Go.Proofs
set_option linter.unusedVariables false
set_option synthInstance.maxHeartbeats 400000
set_option synthInstance.maxSize 1000
def roadlaw2_KindSays.post (W : Nat → Prop) (h0 m0 : Heap) (r : Bool) (v : Value) (h : Heap) : Prop := ∃ m , Hold W h0 m0 h m [] ∧ v = .bool r
noncomputable def roadlaw2_KindSays.j1 (a_1 : List ByteArray) (y_7 : T_api_Type) (y_8 : T_api_Type) : Option (Bool) :=
  Option.bind (kind_Put y_7 a_1 ([y_8] : List T_api_Type)) fun y7 => Option.bind (roadref2_TypeMark y7) fun y31 => Option.bind (roadref2_Swap y_7 a_1 ([y_8] : List T_api_Type)) fun y44 => Option.bind (roadref2_TypeMark y44) fun y62 => if y31 = y62 then (Option.bind (kind_Copy y_7) fun y69 => Option.bind (roadref2_TypeMark y69) fun y79 => Option.bind (roadref2_TypeMark y_7) fun y86 => some ((decide (y79 = y86)))) else (some (false))
set_option maxHeartbeats 4000000 in
set_option maxRecDepth 100000 in
theorem roadlaw2_KindSays.j1.walk {W : Nat → Prop} {h0 m0 h m : Heap} {A_1 : Option Addr} {n_1 c_1 : Nat} {bk_7 : Nat} {cs_7 : List Value} {bk_8 : Nat} {cs_8 : List Value} {a_1 : List ByteArray} {y_7 : T_api_Type} {y_8 : T_api_Type} (O : Hold W h0 m0 h m [rV bk_7 25 cs_7, rV bk_8 25 cs_8]) (ne_1 : n_1 = List.length a_1) (k_1 : List.length a_1 ≤ c_1) (r_1 : Rd 1 eStr m A_1 a_1) (e_7 : T_api_Type.E m y_7 cs_7) (e_8 : T_api_Type.E m y_8 cs_8) (tab : TB m) {r : Bool} (e : roadlaw2_KindSays.j1 a_1 y_7 y_8 = some r) : f4.j1 (roadlaw2_KindSays.post W h0 m0 r) A_1 n_1 c_1 (⟨bk_7, 0, none⟩ : Addr) (⟨bk_8, 0, none⟩ : Addr) h := by
  unfold roadlaw2_KindSays.j1 at e
  subst ne_1
  refine f4.j1_in ?_
  unfold f4.j1T
  refine ⟨_, ldAn (Sub.refl _) (O.all 0 rfl) (T_api_Type.T.len _ _ _ e_7), ?_⟩
  refine ⟨_, ldAn (Sub.refl _) (O.all 1 rfl) (T_api_Type.T.len _ _ _ e_8), ?_⟩
  refine ⟨cs_8, rfl, (T_api_Type.T.len _ _ _ e_8), ?_⟩
  refine O.new fun h1 x2 O3 => ?_
  have O5 := O3.recell 2 rfl (cs' := cs_8 ++ []) rfl
  obtain ⟨y7, g8, e⟩ := bind_e e
  have O6 := O5.rowE (l := ([y_8] : List T_api_Type)) 2 rfl T_api_Type.T (show CsE _ _ _ _ _ from (CsE.cons e_8 (T_api_Type.T.len _ _ _ e_8) CsE.nil)) rfl
  have O13 := O6.nm
  obtain ⟨m14, u15, s20, ⟨⟨r18, k19⟩, _⟩, B16, C17⟩ := O13.lend0 [2]
  replace r18 : Rd 3 T_api_Type.E m14 (some ⟨(Array.size h), 0, none⟩) ([y_8] : List T_api_Type) := r18
  replace k19 : List.length ([y_8] : List T_api_Type) ≤ 1 := k19
  refine (kind_Put.walk (Hold.start (W := No) s20) (T_api_Type.T.mono _ _ _ _ u15 e_7) rfl k_1 (r_1.sub tell_str u15) rfl k19 r18 g8).mono ?_
  rintro _ h9 ⟨m10, cs22, Q11, rfl, he23⟩
  have O24 := Hold.nm (B16 Q11)
  refine O24.new fun h25 x26 O27 => ?_
  refine ⟨_, rfl, (T_api_Type.T.len _ _ _ he23), ?_⟩
  refine O27.stA 3 rfl (T_api_Type.T.len _ _ _ he23) (T_api_Type.T.flat _ _ _ he23) fun h29 O30 => ?_
  refine ⟨_, ldAn (Sub.refl _) (O30.all 3 rfl) (T_api_Type.T.len _ _ _ he23), ?_⟩
  refine ⟨_, ldAn (Sub.refl _) (O30.all 0 rfl) (T_api_Type.T.len _ _ _ e_7), ?_⟩
  refine ⟨_, ldAn (Sub.refl _) (O30.all 1 rfl) (T_api_Type.T.len _ _ _ e_8), ?_⟩
  obtain ⟨y31, g32, e⟩ := bind_e e
  obtain ⟨y44, g45, e⟩ := bind_e e
  obtain ⟨y62, g63, e⟩ := bind_e e
  refine ⟨?_, ?_⟩
  · refine (roadref2_TypeMark.walk (Hold.start (W := No) O30.s) he23 (TBg.sub tab (u15.trans Q11.S.up)) g32).mono ?_
    rintro _ h120 ⟨m121, Q122, rfl⟩
    have O124 := Hold.nm (O30.retC Q122 vfs_nil)
    refine ⟨_, rfl, ?_⟩
    refine ⟨Q122.S.ext, ?_⟩
    refine ⟨cs_8, rfl, (T_api_Type.T.len _ _ _ e_8), ?_⟩
    refine O124.new fun h125 x126 O127 => ?_
    have O129 := O127.recell 4 rfl (cs' := cs_8 ++ []) rfl
    refine ⟨x126, ?_⟩
    have O130 := O129.rowE (l := ([y_8] : List T_api_Type)) 4 rfl T_api_Type.T (show CsE _ _ _ _ _ from (CsE.cons (T_api_Type.T.mono _ _ _ _ (u15.trans Q11.S.up) e_8) (T_api_Type.T.len _ _ _ (T_api_Type.T.mono _ _ _ _ (u15.trans Q11.S.up) e_8)) CsE.nil)) rfl
    have O137 := O130.nm
    obtain ⟨m138, u139, s144, ⟨⟨r142, k143⟩, _⟩, B140, C141⟩ := O137.lend0 [4]
    replace r142 : Rd 3 T_api_Type.E m138 (some ⟨(Array.size h120), 0, none⟩) ([y_8] : List T_api_Type) := r142
    replace k143 : List.length ([y_8] : List T_api_Type) ≤ 1 := k143
    refine (roadref2_Swap.walk (Hold.start (W := No) s144) (T_api_Type.T.mono _ _ _ _ (u15.trans (Q11.S.up.trans u139)) e_7) rfl k_1 (r_1.sub tell_str (u15.trans (Q11.S.up.trans u139))) rfl k143 r142 g45).mono ?_
    rintro _ h133 ⟨m134, cs146, Q135, rfl, he147⟩
    have O148 := Hold.nm (B140 Q135)
    refine (roadref2_TypeMark.walk (Hold.start (W := No) O148.s) he147 (TBg.sub tab (u15.trans (Q11.S.up.trans (u139.trans Q135.S.up)))) g63).mono ?_
    rintro _ h151 ⟨m152, Q153, rfl⟩
    have O155 := Hold.nm (O148.retC Q153 vfs_nil)
    refine ⟨_, rfl, ?_⟩
    try rw [ba_list y31 y62]
    refine split_dec_e e (fun c204 e => ?_) (fun c204 e => ?_)
    · refine ⟨_, ldAn (Sub.refl _) (O155.all 0 rfl) (T_api_Type.T.len _ _ _ e_7), ?_⟩
      refine ⟨_, ldAn (Sub.refl _) (O155.all 0 rfl) (T_api_Type.T.len _ _ _ e_7), ?_⟩
      obtain ⟨y156, g157, e⟩ := bind_e e
      obtain ⟨y166, g167, e⟩ := bind_e e
      obtain ⟨y173, g174, e⟩ := bind_e e
      refine (kind_Copy.walk (Hold.start (W := No) O155.s) (T_api_Type.T.mono _ _ _ _ (u15.trans (Q11.S.up.trans (u139.trans Q135.S.up))) e_7) g157).mono ?_
      rintro _ h182 ⟨m183, cs187, Q184, rfl, he188⟩
      have O189 := Hold.nm (O155.ret Q184)
      refine ⟨Q184.S.ext, ?_⟩
      refine (roadref2_TypeMark.walk (Hold.start (W := No) O189.s) he188 (TBg.sub tab (u15.trans (Q11.S.up.trans (u139.trans (Q135.S.up.trans Q184.S.up))))) g167).mono ?_
      rintro _ h192 ⟨m193, Q194, rfl⟩
      have O196 := Hold.nm (O189.retC Q194 vfs_nil)
      refine ⟨_, rfl, ?_⟩
      refine ⟨Q194.S.ext, ?_⟩
      refine (roadref2_TypeMark.walk (Hold.start (W := No) O196.s) (T_api_Type.T.mono _ _ _ _ (u15.trans (Q11.S.up.trans (u139.trans (Q135.S.up.trans Q184.S.up)))) e_7) (TBg.sub tab (u15.trans (Q11.S.up.trans (u139.trans (Q135.S.up.trans Q184.S.up))))) g174).mono ?_
      rintro _ h199 ⟨m200, Q201, rfl⟩
      have O203 := Hold.nm (O196.retC Q201 vfs_nil)
      refine ⟨_, rfl, ?_⟩
      try rw [ba_list y166 y173]
      cases e
      exact ⟨_, O203.pick [], rfl⟩
    · refine ⟨Ext.refl _, ?_⟩
      refine ⟨Ext.refl _, ?_⟩
      cases e
      exact ⟨_, O155.pick [], rfl⟩
  · refine ⟨cs_8, rfl, (T_api_Type.T.len _ _ _ e_8), ?_⟩
    refine O30.new fun h205 x206 O207 => ?_
    have O209 := O207.recell 4 rfl (cs' := cs_8 ++ []) rfl
    refine ⟨x206, ?_⟩
    refine (roadref2_TypeMark.walk (Hold.start (W := No) O209.s) he23 (TBg.sub tab (u15.trans Q11.S.up)) g32).mono ?_
    rintro _ h212 ⟨m213, Q214, rfl⟩
    have O216 := Hold.nm (O209.retC Q214 vfs_nil)
    refine ⟨_, rfl, ?_⟩
    refine ⟨Q214.S.ext, ?_⟩
    have O217 := O216.rowE (l := ([y_8] : List T_api_Type)) 4 rfl T_api_Type.T (show CsE _ _ _ _ _ from (CsE.cons (T_api_Type.T.mono _ _ _ _ (u15.trans Q11.S.up) e_8) (T_api_Type.T.len _ _ _ (T_api_Type.T.mono _ _ _ _ (u15.trans Q11.S.up) e_8)) CsE.nil)) rfl
    have O224 := O217.nm
    obtain ⟨m225, u226, s231, ⟨⟨r229, k230⟩, _⟩, B227, C228⟩ := O224.lend0 [4]
    replace r229 : Rd 3 T_api_Type.E m225 (some ⟨(Array.size h29), 0, none⟩) ([y_8] : List T_api_Type) := r229
    replace k230 : List.length ([y_8] : List T_api_Type) ≤ 1 := k230
    refine (roadref2_Swap.walk (Hold.start (W := No) s231) (T_api_Type.T.mono _ _ _ _ (u15.trans (Q11.S.up.trans u226)) e_7) rfl k_1 (r_1.sub tell_str (u15.trans (Q11.S.up.trans u226))) rfl k230 r229 g45).mono ?_
    rintro _ h220 ⟨m221, cs233, Q222, rfl, he234⟩
    have O235 := Hold.nm (B227 Q222)
    refine (roadref2_TypeMark.walk (Hold.start (W := No) O235.s) he234 (TBg.sub tab (u15.trans (Q11.S.up.trans (u226.trans Q222.S.up)))) g63).mono ?_
    rintro _ h238 ⟨m239, Q240, rfl⟩
    have O242 := Hold.nm (O235.retC Q240 vfs_nil)
    refine ⟨_, rfl, ?_⟩
    try rw [ba_list y31 y62]
    refine split_dec_e e (fun c291 e => ?_) (fun c291 e => ?_)
    · refine ⟨_, ldAn (Sub.refl _) (O242.all 0 rfl) (T_api_Type.T.len _ _ _ e_7), ?_⟩
      refine ⟨_, ldAn (Sub.refl _) (O242.all 0 rfl) (T_api_Type.T.len _ _ _ e_7), ?_⟩
      obtain ⟨y243, g244, e⟩ := bind_e e
      obtain ⟨y253, g254, e⟩ := bind_e e
      obtain ⟨y260, g261, e⟩ := bind_e e
      refine (kind_Copy.walk (Hold.start (W := No) O242.s) (T_api_Type.T.mono _ _ _ _ (u15.trans (Q11.S.up.trans (u226.trans Q222.S.up))) e_7) g244).mono ?_
      rintro _ h269 ⟨m270, cs274, Q271, rfl, he275⟩
      have O276 := Hold.nm (O242.ret Q271)
      refine ⟨Q271.S.ext, ?_⟩
      refine (roadref2_TypeMark.walk (Hold.start (W := No) O276.s) he275 (TBg.sub tab (u15.trans (Q11.S.up.trans (u226.trans (Q222.S.up.trans Q271.S.up))))) g254).mono ?_
      rintro _ h279 ⟨m280, Q281, rfl⟩
      have O283 := Hold.nm (O276.retC Q281 vfs_nil)
      refine ⟨_, rfl, ?_⟩
      refine ⟨Q281.S.ext, ?_⟩
      refine (roadref2_TypeMark.walk (Hold.start (W := No) O283.s) (T_api_Type.T.mono _ _ _ _ (u15.trans (Q11.S.up.trans (u226.trans (Q222.S.up.trans Q271.S.up)))) e_7) (TBg.sub tab (u15.trans (Q11.S.up.trans (u226.trans (Q222.S.up.trans Q271.S.up))))) g261).mono ?_
      rintro _ h286 ⟨m287, Q288, rfl⟩
      have O290 := Hold.nm (O283.retC Q288 vfs_nil)
      refine ⟨_, rfl, ?_⟩
      try rw [ba_list y253 y260]
      cases e
      exact ⟨_, O290.pick [], rfl⟩
    · refine ⟨Ext.refl _, ?_⟩
      refine ⟨Ext.refl _, ?_⟩
      cases e
      exact ⟨_, O242.pick [], rfl⟩
noncomputable def roadlaw2_KindSays.j0 (a_1 : List ByteArray) (y_5 : T_api_Program) (y_7 : T_api_Type) (y_8 : T_api_Type) : Option (Bool) :=
  Option.bind (kind_Type y_5 a_1 y_7) fun y1 => Option.bind (roadref2_KindOf y_5 a_1 ([y_7] : List T_api_Type)) fun y14 => if y1 = y14 then (Option.bind (kind_Types y_5 a_1 ([y_7, y_8] : List T_api_Type)) fun y36 => Option.bind (roadref2_KindOf y_5 a_1 ([y_7, y_8] : List T_api_Type)) fun y56 => if y36 = y56 then ((roadlaw2_KindSays.j1 a_1 y_7 y_8)) else (some (false))) else (some (false))
set_option maxHeartbeats 4000000 in
set_option maxRecDepth 100000 in
theorem roadlaw2_KindSays.j0.walk {W : Nat → Prop} {h0 m0 h m : Heap} {A_1 : Option Addr} {n_1 c_1 : Nat} {bk_5 : Nat} {cs_5 : List Value} {bk_7 : Nat} {cs_7 : List Value} {bk_8 : Nat} {cs_8 : List Value} {a_1 : List ByteArray} {y_5 : T_api_Program} {y_7 : T_api_Type} {y_8 : T_api_Type} (O : Hold W h0 m0 h m [rV bk_5 54 cs_5, rV bk_7 25 cs_7, rV bk_8 25 cs_8]) (ne_1 : n_1 = List.length a_1) (k_1 : List.length a_1 ≤ c_1) (r_1 : Rd 1 eStr m A_1 a_1) (e_5 : T_api_Program.E m y_5 cs_5) (e_7 : T_api_Type.E m y_7 cs_7) (e_8 : T_api_Type.E m y_8 cs_8) (tab : TB m) {r : Bool} (e : roadlaw2_KindSays.j0 a_1 y_5 y_7 y_8 = some r) : f4.j0 (roadlaw2_KindSays.post W h0 m0 r) A_1 n_1 c_1 (⟨bk_5, 0, none⟩ : Addr) (⟨bk_7, 0, none⟩ : Addr) (⟨bk_8, 0, none⟩ : Addr) h := by
  unfold roadlaw2_KindSays.j0 at e
  subst ne_1
  refine f4.j0_in ?_
  unfold f4.j0T
  refine ⟨_, ldAn (Sub.refl _) (O.all 0 rfl) (T_api_Program.T.len _ _ _ e_5), ?_⟩
  refine ⟨_, ldAn (Sub.refl _) (O.all 1 rfl) (T_api_Type.T.len _ _ _ e_7), ?_⟩
  refine ⟨_, ldAn (Sub.refl _) (O.all 0 rfl) (T_api_Program.T.len _ _ _ e_5), ?_⟩
  refine ⟨_, ldAn (Sub.refl _) (O.all 1 rfl) (T_api_Type.T.len _ _ _ e_7), ?_⟩
  obtain ⟨y1, g2, e⟩ := bind_e e
  obtain ⟨y14, g15, e⟩ := bind_e e
  refine ⟨?_, ?_⟩
  · refine (kind_Type.walk (Hold.start (W := No) O.s) e_5 rfl k_1 r_1 e_7 g2).mono ?_
    rintro _ h198 ⟨m199, Q200, rfl⟩
    have O202 := Hold.nm (O.retC Q200 vfs_nil)
    refine ⟨_, rfl, ?_⟩
    refine ⟨Q200.S.ext, ?_⟩
    refine ⟨cs_7, rfl, (T_api_Type.T.len _ _ _ e_7), ?_⟩
    refine O202.new fun h203 x204 O205 => ?_
    have O207 := O205.recell 3 rfl (cs' := cs_7 ++ []) rfl
    refine ⟨x204, ?_⟩
    have O208 := O207.rowE (l := ([y_7] : List T_api_Type)) 3 rfl T_api_Type.T (show CsE _ _ _ _ _ from (CsE.cons e_7 (T_api_Type.T.len _ _ _ e_7) CsE.nil)) rfl
    have O215 := O208.nm
    obtain ⟨m216, u217, s222, ⟨⟨r220, k221⟩, _⟩, B218, C219⟩ := O215.lend0 [3]
    replace r220 : Rd 3 T_api_Type.E m216 (some ⟨(Array.size h198), 0, none⟩) ([y_7] : List T_api_Type) := r220
    replace k221 : List.length ([y_7] : List T_api_Type) ≤ 1 := k221
    refine (roadref2_KindOf.walk (Hold.start (W := No) s222) (T_api_Program.T.mono _ _ _ _ u217 e_5) rfl k_1 (r_1.sub tell_str u217) rfl k221 r220 g15).mono ?_
    rintro _ h211 ⟨m212, Q213, rfl⟩
    have O223 := Hold.nm (C219 Q213 vfs_nil)
    refine ⟨_, rfl, ?_⟩
    refine split_ne_e e (fun c390 e => ?_) (fun c390 e => ?_)
    · refine ⟨?_, ?_⟩
      · refine ⟨Ext.refl _, ?_⟩
        refine ⟨?_, ?_⟩
        · refine ⟨Ext.refl _, ?_⟩
          refine ⟨Ext.refl _, ?_⟩
          cases e
          exact ⟨_, O223.pick [], rfl⟩
        · refine ⟨Ext.refl _, ?_⟩
          refine ⟨Ext.refl _, ?_⟩
          cases e
          exact ⟨_, O223.pick [], rfl⟩
      · refine ⟨Ext.refl _, ?_⟩
        refine ⟨Ext.refl _, ?_⟩
        refine ⟨Ext.refl _, ?_⟩
        cases e
        exact ⟨_, O223.pick [], rfl⟩
    · refine ⟨_, ldAn (Sub.refl _) (O223.all 0 rfl) (T_api_Program.T.len _ _ _ e_5), ?_⟩
      refine ⟨_, ldAn (Sub.refl _) (O223.all 1 rfl) (T_api_Type.T.len _ _ _ e_7), ?_⟩
      refine ⟨_, ldAn (Sub.refl _) (O223.all 2 rfl) (T_api_Type.T.len _ _ _ e_8), ?_⟩
      refine ⟨_, ldAn (Sub.refl _) (O223.all 0 rfl) (T_api_Program.T.len _ _ _ e_5), ?_⟩
      refine ⟨_, ldAn (Sub.refl _) (O223.all 1 rfl) (T_api_Type.T.len _ _ _ e_7), ?_⟩
      refine ⟨_, ldAn (Sub.refl _) (O223.all 2 rfl) (T_api_Type.T.len _ _ _ e_8), ?_⟩
      obtain ⟨y231, g232, e⟩ := bind_e e
      obtain ⟨y251, g252, e⟩ := bind_e e
      refine ⟨?_, ?_⟩
      · obtain ⟨Ae267_2, ce267_2, rfl, ke267_2, re267_2⟩ := T_api_Type.iff.1 e_7
        obtain ⟨Ae268_2, ce268_2, rfl, ke268_2, re268_2⟩ := T_api_Type.iff.1 e_8
        refine ⟨[(Value.int .i64 y_7.Kind), (Value.string y_7.Name), (Value.slice Ae267_2 (List.length y_7.Args) ce267_2)], rfl, rfl, ?_⟩
        refine ⟨[(Value.int .i64 y_8.Kind), (Value.string y_8.Name), (Value.slice Ae268_2 (List.length y_8.Args) ce268_2)], rfl, rfl, ?_⟩
        refine O223.new fun h269 x270 O271 => ?_
        refine ⟨x270, ?_⟩
        refine ⟨?_, ?_⟩
        · have O273 := O271.rowE (l := ([y_7, y_8] : List T_api_Type)) 4 rfl T_api_Type.T (show CsE _ _ _ _ _ from (CsE.cons (c1 := [(Value.int .i64 y_7.Kind), (Value.string y_7.Name), (Value.slice Ae267_2 (List.length y_7.Args) ce267_2)]) (T_api_Type.iff.2 ⟨_, _, rfl, ke267_2, re267_2⟩) rfl (CsE.cons (c1 := [(Value.int .i64 y_8.Kind), (Value.string y_8.Name), (Value.slice Ae268_2 (List.length y_8.Args) ce268_2)]) (T_api_Type.iff.2 ⟨_, _, rfl, ke268_2, re268_2⟩) rfl CsE.nil))) rfl
          have O280 := O273.nm
          obtain ⟨m281, u282, s287, ⟨⟨r285, k286⟩, _⟩, B283, C284⟩ := O280.lend0 [4]
          replace r285 : Rd 3 T_api_Type.E m281 (some ⟨(Array.size h211), 0, none⟩) ([y_7, y_8] : List T_api_Type) := r285
          replace k286 : List.length ([y_7, y_8] : List T_api_Type) ≤ 2 := k286
          refine (kind_Types.walk (Hold.start (W := No) s287) (T_api_Program.T.mono _ _ _ _ u282 e_5) rfl k_1 (r_1.sub tell_str u282) rfl k286 r285 g232).mono ?_
          rintro _ h276 ⟨m277, Q278, rfl⟩
          have O288 := Hold.nm (C284 Q278 vfs_nil)
          refine ⟨_, rfl, ?_⟩
          refine ⟨Q278.S.ext, ?_⟩
          refine ⟨[(Value.int .i64 y_7.Kind), (Value.string y_7.Name), (Value.slice Ae267_2 (List.length y_7.Args) ce267_2)], rfl, rfl, ?_⟩
          refine ⟨[(Value.int .i64 y_8.Kind), (Value.string y_8.Name), (Value.slice Ae268_2 (List.length y_8.Args) ce268_2)], rfl, rfl, ?_⟩
          refine O288.new fun h289 x290 O291 => ?_
          refine ⟨x290, ?_⟩
          have O293 := O291.rowE (l := ([y_7, y_8] : List T_api_Type)) 5 rfl T_api_Type.T (show CsE _ _ _ _ _ from (CsE.cons (c1 := [(Value.int .i64 y_7.Kind), (Value.string y_7.Name), (Value.slice Ae267_2 (List.length y_7.Args) ce267_2)]) (T_api_Type.iff.2 ⟨_, _, rfl, ke267_2, re267_2⟩) rfl (CsE.cons (c1 := [(Value.int .i64 y_8.Kind), (Value.string y_8.Name), (Value.slice Ae268_2 (List.length y_8.Args) ce268_2)]) (T_api_Type.iff.2 ⟨_, _, rfl, ke268_2, re268_2⟩) rfl CsE.nil))) rfl
          have O300 := O293.nm
          obtain ⟨m301, u302, s307, ⟨⟨r305, k306⟩, _⟩, B303, C304⟩ := O300.lend0 [5]
          replace r305 : Rd 3 T_api_Type.E m301 (some ⟨(Array.size h276), 0, none⟩) ([y_7, y_8] : List T_api_Type) := r305
          replace k306 : List.length ([y_7, y_8] : List T_api_Type) ≤ 2 := k306
          refine (roadref2_KindOf.walk (Hold.start (W := No) s307) (T_api_Program.T.mono _ _ _ _ u302 e_5) rfl k_1 (r_1.sub tell_str u302) rfl k306 r305 g252).mono ?_
          rintro _ h296 ⟨m297, Q298, rfl⟩
          have O308 := Hold.nm (C304 Q298 vfs_nil)
          refine ⟨_, rfl, ?_⟩
          refine split_ne_e e (fun c309 e => ?_) (fun c309 e => ?_)
          · cases e
            exact ⟨_, O308.pick [], rfl⟩
          · exact roadlaw2_KindSays.j1.walk (O308.pick [1, 2]).nm rfl k_1 r_1 (T_api_Type.iff.2 ⟨_, _, rfl, ke267_2, re267_2⟩) (T_api_Type.iff.2 ⟨_, _, rfl, ke268_2, re268_2⟩) tab e
        · refine ⟨[(Value.int .i64 y_7.Kind), (Value.string y_7.Name), (Value.slice Ae267_2 (List.length y_7.Args) ce267_2)], rfl, rfl, ?_⟩
          refine ⟨[(Value.int .i64 y_8.Kind), (Value.string y_8.Name), (Value.slice Ae268_2 (List.length y_8.Args) ce268_2)], rfl, rfl, ?_⟩
          refine O271.new fun h310 x311 O312 => ?_
          refine ⟨x311, ?_⟩
          have O314 := O312.rowE (l := ([y_7, y_8] : List T_api_Type)) 4 rfl T_api_Type.T (show CsE _ _ _ _ _ from (CsE.cons (c1 := [(Value.int .i64 y_7.Kind), (Value.string y_7.Name), (Value.slice Ae267_2 (List.length y_7.Args) ce267_2)]) (T_api_Type.iff.2 ⟨_, _, rfl, ke267_2, re267_2⟩) rfl (CsE.cons (c1 := [(Value.int .i64 y_8.Kind), (Value.string y_8.Name), (Value.slice Ae268_2 (List.length y_8.Args) ce268_2)]) (T_api_Type.iff.2 ⟨_, _, rfl, ke268_2, re268_2⟩) rfl CsE.nil))) rfl
          have O321 := O314.nm
          obtain ⟨m322, u323, s328, ⟨⟨r326, k327⟩, _⟩, B324, C325⟩ := O321.lend0 [4]
          replace r326 : Rd 3 T_api_Type.E m322 (some ⟨(Array.size h211), 0, none⟩) ([y_7, y_8] : List T_api_Type) := r326
          replace k327 : List.length ([y_7, y_8] : List T_api_Type) ≤ 2 := k327
          refine (kind_Types.walk (Hold.start (W := No) s328) (T_api_Program.T.mono _ _ _ _ u323 e_5) rfl k_1 (r_1.sub tell_str u323) rfl k327 r326 g232).mono ?_
          rintro _ h317 ⟨m318, Q319, rfl⟩
          have O329 := Hold.nm (C325 Q319 vfs_nil)
          refine ⟨_, rfl, ?_⟩
          refine ⟨Q319.S.ext, ?_⟩
          have O330 := O329.rowE (l := ([y_7, y_8] : List T_api_Type)) 5 rfl T_api_Type.T (show CsE _ _ _ _ _ from (CsE.cons (c1 := [(Value.int .i64 y_7.Kind), (Value.string y_7.Name), (Value.slice Ae267_2 (List.length y_7.Args) ce267_2)]) (T_api_Type.iff.2 ⟨_, _, rfl, ke267_2, re267_2⟩) rfl (CsE.cons (c1 := [(Value.int .i64 y_8.Kind), (Value.string y_8.Name), (Value.slice Ae268_2 (List.length y_8.Args) ce268_2)]) (T_api_Type.iff.2 ⟨_, _, rfl, ke268_2, re268_2⟩) rfl CsE.nil))) rfl
          have O337 := O330.nm
          obtain ⟨m338, u339, s344, ⟨⟨r342, k343⟩, _⟩, B340, C341⟩ := O337.lend0 [5]
          replace r342 : Rd 3 T_api_Type.E m338 (some ⟨(Array.size h269), 0, none⟩) ([y_7, y_8] : List T_api_Type) := r342
          replace k343 : List.length ([y_7, y_8] : List T_api_Type) ≤ 2 := k343
          refine (roadref2_KindOf.walk (Hold.start (W := No) s344) (T_api_Program.T.mono _ _ _ _ u339 e_5) rfl k_1 (r_1.sub tell_str u339) rfl k343 r342 g252).mono ?_
          rintro _ h333 ⟨m334, Q335, rfl⟩
          have O345 := Hold.nm (C341 Q335 vfs_nil)
          refine ⟨_, rfl, ?_⟩
          refine split_ne_e e (fun c346 e => ?_) (fun c346 e => ?_)
          · cases e
            exact ⟨_, O345.pick [], rfl⟩
          · exact roadlaw2_KindSays.j1.walk (O345.pick [1, 2]).nm rfl k_1 r_1 (T_api_Type.iff.2 ⟨_, _, rfl, ke267_2, re267_2⟩) (T_api_Type.iff.2 ⟨_, _, rfl, ke268_2, re268_2⟩) tab e
      · obtain ⟨Ae347_2, ce347_2, rfl, ke347_2, re347_2⟩ := T_api_Type.iff.1 e_7
        obtain ⟨Ae348_2, ce348_2, rfl, ke348_2, re348_2⟩ := T_api_Type.iff.1 e_8
        refine ⟨[(Value.int .i64 y_7.Kind), (Value.string y_7.Name), (Value.slice Ae347_2 (List.length y_7.Args) ce347_2)], rfl, rfl, ?_⟩
        refine ⟨[(Value.int .i64 y_8.Kind), (Value.string y_8.Name), (Value.slice Ae348_2 (List.length y_8.Args) ce348_2)], rfl, rfl, ?_⟩
        refine O223.new fun h349 x350 O351 => ?_
        refine ⟨x350, ?_⟩
        refine ⟨[(Value.int .i64 y_7.Kind), (Value.string y_7.Name), (Value.slice Ae347_2 (List.length y_7.Args) ce347_2)], rfl, rfl, ?_⟩
        refine ⟨[(Value.int .i64 y_8.Kind), (Value.string y_8.Name), (Value.slice Ae348_2 (List.length y_8.Args) ce348_2)], rfl, rfl, ?_⟩
        refine O351.new fun h353 x354 O355 => ?_
        refine ⟨x354, ?_⟩
        have O357 := O355.rowE (l := ([y_7, y_8] : List T_api_Type)) 5 rfl T_api_Type.T (show CsE _ _ _ _ _ from (CsE.cons (c1 := [(Value.int .i64 y_7.Kind), (Value.string y_7.Name), (Value.slice Ae347_2 (List.length y_7.Args) ce347_2)]) (T_api_Type.iff.2 ⟨_, _, rfl, ke347_2, re347_2⟩) rfl (CsE.cons (c1 := [(Value.int .i64 y_8.Kind), (Value.string y_8.Name), (Value.slice Ae348_2 (List.length y_8.Args) ce348_2)]) (T_api_Type.iff.2 ⟨_, _, rfl, ke348_2, re348_2⟩) rfl CsE.nil))) rfl
        have O364 := O357.nm
        obtain ⟨m365, u366, s371, ⟨⟨r369, k370⟩, _⟩, B367, C368⟩ := O364.lend0 [5]
        replace r369 : Rd 3 T_api_Type.E m365 (some ⟨(Array.size h349), 0, none⟩) ([y_7, y_8] : List T_api_Type) := r369
        replace k370 : List.length ([y_7, y_8] : List T_api_Type) ≤ 2 := k370
        refine (kind_Types.walk (Hold.start (W := No) s371) (T_api_Program.T.mono _ _ _ _ u366 e_5) rfl k_1 (r_1.sub tell_str u366) rfl k370 r369 g232).mono ?_
        rintro _ h360 ⟨m361, Q362, rfl⟩
        have O372 := Hold.nm (C368 Q362 vfs_nil)
        refine ⟨_, rfl, ?_⟩
        refine ⟨Q362.S.ext, ?_⟩
        have O373 := O372.rowE (l := ([y_7, y_8] : List T_api_Type)) 4 rfl T_api_Type.T (show CsE _ _ _ _ _ from (CsE.cons (c1 := [(Value.int .i64 y_7.Kind), (Value.string y_7.Name), (Value.slice Ae347_2 (List.length y_7.Args) ce347_2)]) (T_api_Type.iff.2 ⟨_, _, rfl, ke347_2, re347_2⟩) rfl (CsE.cons (c1 := [(Value.int .i64 y_8.Kind), (Value.string y_8.Name), (Value.slice Ae348_2 (List.length y_8.Args) ce348_2)]) (T_api_Type.iff.2 ⟨_, _, rfl, ke348_2, re348_2⟩) rfl CsE.nil))) rfl
        have O380 := O373.nm
        obtain ⟨m381, u382, s387, ⟨⟨r385, k386⟩, _⟩, B383, C384⟩ := O380.lend0 [4]
        replace r385 : Rd 3 T_api_Type.E m381 (some ⟨(Array.size h211), 0, none⟩) ([y_7, y_8] : List T_api_Type) := r385
        replace k386 : List.length ([y_7, y_8] : List T_api_Type) ≤ 2 := k386
        refine (roadref2_KindOf.walk (Hold.start (W := No) s387) (T_api_Program.T.mono _ _ _ _ u382 e_5) rfl k_1 (r_1.sub tell_str u382) rfl k386 r385 g252).mono ?_
        rintro _ h376 ⟨m377, Q378, rfl⟩
        have O388 := Hold.nm (C384 Q378 vfs_nil)
        refine ⟨_, rfl, ?_⟩
        refine split_ne_e e (fun c389 e => ?_) (fun c389 e => ?_)
        · cases e
          exact ⟨_, O388.pick [], rfl⟩
        · exact roadlaw2_KindSays.j1.walk (O388.pick [1, 2]).nm rfl k_1 r_1 (T_api_Type.iff.2 ⟨_, _, rfl, ke347_2, re347_2⟩) (T_api_Type.iff.2 ⟨_, _, rfl, ke348_2, re348_2⟩) tab e
  · refine ⟨cs_7, rfl, (T_api_Type.T.len _ _ _ e_7), ?_⟩
    refine O.new fun h391 x392 O393 => ?_
    have O395 := O393.recell 3 rfl (cs' := cs_7 ++ []) rfl
    refine ⟨x392, ?_⟩
    refine (kind_Type.walk (Hold.start (W := No) O395.s) e_5 rfl k_1 r_1 e_7 g2).mono ?_
    rintro _ h398 ⟨m399, Q400, rfl⟩
    have O402 := Hold.nm (O395.retC Q400 vfs_nil)
    refine ⟨_, rfl, ?_⟩
    refine ⟨Q400.S.ext, ?_⟩
    have O403 := O402.rowE (l := ([y_7] : List T_api_Type)) 3 rfl T_api_Type.T (show CsE _ _ _ _ _ from (CsE.cons e_7 (T_api_Type.T.len _ _ _ e_7) CsE.nil)) rfl
    have O410 := O403.nm
    obtain ⟨m411, u412, s417, ⟨⟨r415, k416⟩, _⟩, B413, C414⟩ := O410.lend0 [3]
    replace r415 : Rd 3 T_api_Type.E m411 (some ⟨(Array.size h), 0, none⟩) ([y_7] : List T_api_Type) := r415
    replace k416 : List.length ([y_7] : List T_api_Type) ≤ 1 := k416
    refine (roadref2_KindOf.walk (Hold.start (W := No) s417) (T_api_Program.T.mono _ _ _ _ u412 e_5) rfl k_1 (r_1.sub tell_str u412) rfl k416 r415 g15).mono ?_
    rintro _ h406 ⟨m407, Q408, rfl⟩
    have O418 := Hold.nm (C414 Q408 vfs_nil)
    refine ⟨_, rfl, ?_⟩
    refine split_ne_e e (fun c585 e => ?_) (fun c585 e => ?_)
    · refine ⟨?_, ?_⟩
      · refine ⟨Ext.refl _, ?_⟩
        refine ⟨?_, ?_⟩
        · refine ⟨Ext.refl _, ?_⟩
          refine ⟨Ext.refl _, ?_⟩
          cases e
          exact ⟨_, O418.pick [], rfl⟩
        · refine ⟨Ext.refl _, ?_⟩
          refine ⟨Ext.refl _, ?_⟩
          cases e
          exact ⟨_, O418.pick [], rfl⟩
      · refine ⟨Ext.refl _, ?_⟩
        refine ⟨Ext.refl _, ?_⟩
        refine ⟨Ext.refl _, ?_⟩
        cases e
        exact ⟨_, O418.pick [], rfl⟩
    · refine ⟨_, ldAn (Sub.refl _) (O418.all 0 rfl) (T_api_Program.T.len _ _ _ e_5), ?_⟩
      refine ⟨_, ldAn (Sub.refl _) (O418.all 1 rfl) (T_api_Type.T.len _ _ _ e_7), ?_⟩
      refine ⟨_, ldAn (Sub.refl _) (O418.all 2 rfl) (T_api_Type.T.len _ _ _ e_8), ?_⟩
      refine ⟨_, ldAn (Sub.refl _) (O418.all 0 rfl) (T_api_Program.T.len _ _ _ e_5), ?_⟩
      refine ⟨_, ldAn (Sub.refl _) (O418.all 1 rfl) (T_api_Type.T.len _ _ _ e_7), ?_⟩
      refine ⟨_, ldAn (Sub.refl _) (O418.all 2 rfl) (T_api_Type.T.len _ _ _ e_8), ?_⟩
      obtain ⟨y426, g427, e⟩ := bind_e e
      obtain ⟨y446, g447, e⟩ := bind_e e
      refine ⟨?_, ?_⟩
      · obtain ⟨Ae462_2, ce462_2, rfl, ke462_2, re462_2⟩ := T_api_Type.iff.1 e_7
        obtain ⟨Ae463_2, ce463_2, rfl, ke463_2, re463_2⟩ := T_api_Type.iff.1 e_8
        refine ⟨[(Value.int .i64 y_7.Kind), (Value.string y_7.Name), (Value.slice Ae462_2 (List.length y_7.Args) ce462_2)], rfl, rfl, ?_⟩
        refine ⟨[(Value.int .i64 y_8.Kind), (Value.string y_8.Name), (Value.slice Ae463_2 (List.length y_8.Args) ce463_2)], rfl, rfl, ?_⟩
        refine O418.new fun h464 x465 O466 => ?_
        refine ⟨x465, ?_⟩
        refine ⟨?_, ?_⟩
        · have O468 := O466.rowE (l := ([y_7, y_8] : List T_api_Type)) 4 rfl T_api_Type.T (show CsE _ _ _ _ _ from (CsE.cons (c1 := [(Value.int .i64 y_7.Kind), (Value.string y_7.Name), (Value.slice Ae462_2 (List.length y_7.Args) ce462_2)]) (T_api_Type.iff.2 ⟨_, _, rfl, ke462_2, re462_2⟩) rfl (CsE.cons (c1 := [(Value.int .i64 y_8.Kind), (Value.string y_8.Name), (Value.slice Ae463_2 (List.length y_8.Args) ce463_2)]) (T_api_Type.iff.2 ⟨_, _, rfl, ke463_2, re463_2⟩) rfl CsE.nil))) rfl
          have O475 := O468.nm
          obtain ⟨m476, u477, s482, ⟨⟨r480, k481⟩, _⟩, B478, C479⟩ := O475.lend0 [4]
          replace r480 : Rd 3 T_api_Type.E m476 (some ⟨(Array.size h406), 0, none⟩) ([y_7, y_8] : List T_api_Type) := r480
          replace k481 : List.length ([y_7, y_8] : List T_api_Type) ≤ 2 := k481
          refine (kind_Types.walk (Hold.start (W := No) s482) (T_api_Program.T.mono _ _ _ _ u477 e_5) rfl k_1 (r_1.sub tell_str u477) rfl k481 r480 g427).mono ?_
          rintro _ h471 ⟨m472, Q473, rfl⟩
          have O483 := Hold.nm (C479 Q473 vfs_nil)
          refine ⟨_, rfl, ?_⟩
          refine ⟨Q473.S.ext, ?_⟩
          refine ⟨[(Value.int .i64 y_7.Kind), (Value.string y_7.Name), (Value.slice Ae462_2 (List.length y_7.Args) ce462_2)], rfl, rfl, ?_⟩
          refine ⟨[(Value.int .i64 y_8.Kind), (Value.string y_8.Name), (Value.slice Ae463_2 (List.length y_8.Args) ce463_2)], rfl, rfl, ?_⟩
          refine O483.new fun h484 x485 O486 => ?_
          refine ⟨x485, ?_⟩
          have O488 := O486.rowE (l := ([y_7, y_8] : List T_api_Type)) 5 rfl T_api_Type.T (show CsE _ _ _ _ _ from (CsE.cons (c1 := [(Value.int .i64 y_7.Kind), (Value.string y_7.Name), (Value.slice Ae462_2 (List.length y_7.Args) ce462_2)]) (T_api_Type.iff.2 ⟨_, _, rfl, ke462_2, re462_2⟩) rfl (CsE.cons (c1 := [(Value.int .i64 y_8.Kind), (Value.string y_8.Name), (Value.slice Ae463_2 (List.length y_8.Args) ce463_2)]) (T_api_Type.iff.2 ⟨_, _, rfl, ke463_2, re463_2⟩) rfl CsE.nil))) rfl
          have O495 := O488.nm
          obtain ⟨m496, u497, s502, ⟨⟨r500, k501⟩, _⟩, B498, C499⟩ := O495.lend0 [5]
          replace r500 : Rd 3 T_api_Type.E m496 (some ⟨(Array.size h471), 0, none⟩) ([y_7, y_8] : List T_api_Type) := r500
          replace k501 : List.length ([y_7, y_8] : List T_api_Type) ≤ 2 := k501
          refine (roadref2_KindOf.walk (Hold.start (W := No) s502) (T_api_Program.T.mono _ _ _ _ u497 e_5) rfl k_1 (r_1.sub tell_str u497) rfl k501 r500 g447).mono ?_
          rintro _ h491 ⟨m492, Q493, rfl⟩
          have O503 := Hold.nm (C499 Q493 vfs_nil)
          refine ⟨_, rfl, ?_⟩
          refine split_ne_e e (fun c504 e => ?_) (fun c504 e => ?_)
          · cases e
            exact ⟨_, O503.pick [], rfl⟩
          · exact roadlaw2_KindSays.j1.walk (O503.pick [1, 2]).nm rfl k_1 r_1 (T_api_Type.iff.2 ⟨_, _, rfl, ke462_2, re462_2⟩) (T_api_Type.iff.2 ⟨_, _, rfl, ke463_2, re463_2⟩) tab e
        · refine ⟨[(Value.int .i64 y_7.Kind), (Value.string y_7.Name), (Value.slice Ae462_2 (List.length y_7.Args) ce462_2)], rfl, rfl, ?_⟩
          refine ⟨[(Value.int .i64 y_8.Kind), (Value.string y_8.Name), (Value.slice Ae463_2 (List.length y_8.Args) ce463_2)], rfl, rfl, ?_⟩
          refine O466.new fun h505 x506 O507 => ?_
          refine ⟨x506, ?_⟩
          have O509 := O507.rowE (l := ([y_7, y_8] : List T_api_Type)) 4 rfl T_api_Type.T (show CsE _ _ _ _ _ from (CsE.cons (c1 := [(Value.int .i64 y_7.Kind), (Value.string y_7.Name), (Value.slice Ae462_2 (List.length y_7.Args) ce462_2)]) (T_api_Type.iff.2 ⟨_, _, rfl, ke462_2, re462_2⟩) rfl (CsE.cons (c1 := [(Value.int .i64 y_8.Kind), (Value.string y_8.Name), (Value.slice Ae463_2 (List.length y_8.Args) ce463_2)]) (T_api_Type.iff.2 ⟨_, _, rfl, ke463_2, re463_2⟩) rfl CsE.nil))) rfl
          have O516 := O509.nm
          obtain ⟨m517, u518, s523, ⟨⟨r521, k522⟩, _⟩, B519, C520⟩ := O516.lend0 [4]
          replace r521 : Rd 3 T_api_Type.E m517 (some ⟨(Array.size h406), 0, none⟩) ([y_7, y_8] : List T_api_Type) := r521
          replace k522 : List.length ([y_7, y_8] : List T_api_Type) ≤ 2 := k522
          refine (kind_Types.walk (Hold.start (W := No) s523) (T_api_Program.T.mono _ _ _ _ u518 e_5) rfl k_1 (r_1.sub tell_str u518) rfl k522 r521 g427).mono ?_
          rintro _ h512 ⟨m513, Q514, rfl⟩
          have O524 := Hold.nm (C520 Q514 vfs_nil)
          refine ⟨_, rfl, ?_⟩
          refine ⟨Q514.S.ext, ?_⟩
          have O525 := O524.rowE (l := ([y_7, y_8] : List T_api_Type)) 5 rfl T_api_Type.T (show CsE _ _ _ _ _ from (CsE.cons (c1 := [(Value.int .i64 y_7.Kind), (Value.string y_7.Name), (Value.slice Ae462_2 (List.length y_7.Args) ce462_2)]) (T_api_Type.iff.2 ⟨_, _, rfl, ke462_2, re462_2⟩) rfl (CsE.cons (c1 := [(Value.int .i64 y_8.Kind), (Value.string y_8.Name), (Value.slice Ae463_2 (List.length y_8.Args) ce463_2)]) (T_api_Type.iff.2 ⟨_, _, rfl, ke463_2, re463_2⟩) rfl CsE.nil))) rfl
          have O532 := O525.nm
          obtain ⟨m533, u534, s539, ⟨⟨r537, k538⟩, _⟩, B535, C536⟩ := O532.lend0 [5]
          replace r537 : Rd 3 T_api_Type.E m533 (some ⟨(Array.size h464), 0, none⟩) ([y_7, y_8] : List T_api_Type) := r537
          replace k538 : List.length ([y_7, y_8] : List T_api_Type) ≤ 2 := k538
          refine (roadref2_KindOf.walk (Hold.start (W := No) s539) (T_api_Program.T.mono _ _ _ _ u534 e_5) rfl k_1 (r_1.sub tell_str u534) rfl k538 r537 g447).mono ?_
          rintro _ h528 ⟨m529, Q530, rfl⟩
          have O540 := Hold.nm (C536 Q530 vfs_nil)
          refine ⟨_, rfl, ?_⟩
          refine split_ne_e e (fun c541 e => ?_) (fun c541 e => ?_)
          · cases e
            exact ⟨_, O540.pick [], rfl⟩
          · exact roadlaw2_KindSays.j1.walk (O540.pick [1, 2]).nm rfl k_1 r_1 (T_api_Type.iff.2 ⟨_, _, rfl, ke462_2, re462_2⟩) (T_api_Type.iff.2 ⟨_, _, rfl, ke463_2, re463_2⟩) tab e
      · obtain ⟨Ae542_2, ce542_2, rfl, ke542_2, re542_2⟩ := T_api_Type.iff.1 e_7
        obtain ⟨Ae543_2, ce543_2, rfl, ke543_2, re543_2⟩ := T_api_Type.iff.1 e_8
        refine ⟨[(Value.int .i64 y_7.Kind), (Value.string y_7.Name), (Value.slice Ae542_2 (List.length y_7.Args) ce542_2)], rfl, rfl, ?_⟩
        refine ⟨[(Value.int .i64 y_8.Kind), (Value.string y_8.Name), (Value.slice Ae543_2 (List.length y_8.Args) ce543_2)], rfl, rfl, ?_⟩
        refine O418.new fun h544 x545 O546 => ?_
        refine ⟨x545, ?_⟩
        refine ⟨[(Value.int .i64 y_7.Kind), (Value.string y_7.Name), (Value.slice Ae542_2 (List.length y_7.Args) ce542_2)], rfl, rfl, ?_⟩
        refine ⟨[(Value.int .i64 y_8.Kind), (Value.string y_8.Name), (Value.slice Ae543_2 (List.length y_8.Args) ce543_2)], rfl, rfl, ?_⟩
        refine O546.new fun h548 x549 O550 => ?_
        refine ⟨x549, ?_⟩
        have O552 := O550.rowE (l := ([y_7, y_8] : List T_api_Type)) 5 rfl T_api_Type.T (show CsE _ _ _ _ _ from (CsE.cons (c1 := [(Value.int .i64 y_7.Kind), (Value.string y_7.Name), (Value.slice Ae542_2 (List.length y_7.Args) ce542_2)]) (T_api_Type.iff.2 ⟨_, _, rfl, ke542_2, re542_2⟩) rfl (CsE.cons (c1 := [(Value.int .i64 y_8.Kind), (Value.string y_8.Name), (Value.slice Ae543_2 (List.length y_8.Args) ce543_2)]) (T_api_Type.iff.2 ⟨_, _, rfl, ke543_2, re543_2⟩) rfl CsE.nil))) rfl
        have O559 := O552.nm
        obtain ⟨m560, u561, s566, ⟨⟨r564, k565⟩, _⟩, B562, C563⟩ := O559.lend0 [5]
        replace r564 : Rd 3 T_api_Type.E m560 (some ⟨(Array.size h544), 0, none⟩) ([y_7, y_8] : List T_api_Type) := r564
        replace k565 : List.length ([y_7, y_8] : List T_api_Type) ≤ 2 := k565
        refine (kind_Types.walk (Hold.start (W := No) s566) (T_api_Program.T.mono _ _ _ _ u561 e_5) rfl k_1 (r_1.sub tell_str u561) rfl k565 r564 g427).mono ?_
        rintro _ h555 ⟨m556, Q557, rfl⟩
        have O567 := Hold.nm (C563 Q557 vfs_nil)
        refine ⟨_, rfl, ?_⟩
        refine ⟨Q557.S.ext, ?_⟩
        have O568 := O567.rowE (l := ([y_7, y_8] : List T_api_Type)) 4 rfl T_api_Type.T (show CsE _ _ _ _ _ from (CsE.cons (c1 := [(Value.int .i64 y_7.Kind), (Value.string y_7.Name), (Value.slice Ae542_2 (List.length y_7.Args) ce542_2)]) (T_api_Type.iff.2 ⟨_, _, rfl, ke542_2, re542_2⟩) rfl (CsE.cons (c1 := [(Value.int .i64 y_8.Kind), (Value.string y_8.Name), (Value.slice Ae543_2 (List.length y_8.Args) ce543_2)]) (T_api_Type.iff.2 ⟨_, _, rfl, ke543_2, re543_2⟩) rfl CsE.nil))) rfl
        have O575 := O568.nm
        obtain ⟨m576, u577, s582, ⟨⟨r580, k581⟩, _⟩, B578, C579⟩ := O575.lend0 [4]
        replace r580 : Rd 3 T_api_Type.E m576 (some ⟨(Array.size h406), 0, none⟩) ([y_7, y_8] : List T_api_Type) := r580
        replace k581 : List.length ([y_7, y_8] : List T_api_Type) ≤ 2 := k581
        refine (roadref2_KindOf.walk (Hold.start (W := No) s582) (T_api_Program.T.mono _ _ _ _ u577 e_5) rfl k_1 (r_1.sub tell_str u577) rfl k581 r580 g447).mono ?_
        rintro _ h571 ⟨m572, Q573, rfl⟩
        have O583 := Hold.nm (C579 Q573 vfs_nil)
        refine ⟨_, rfl, ?_⟩
        refine split_ne_e e (fun c584 e => ?_) (fun c584 e => ?_)
        · cases e
          exact ⟨_, O583.pick [], rfl⟩
        · exact roadlaw2_KindSays.j1.walk (O583.pick [1, 2]).nm rfl k_1 r_1 (T_api_Type.iff.2 ⟨_, _, rfl, ke542_2, re542_2⟩) (T_api_Type.iff.2 ⟨_, _, rfl, ke543_2, re543_2⟩) tab e
noncomputable def roadlaw2_KindSays (y_0 : T_api_Program) (a_1 : List ByteArray) (y_2 : T_api_Type) (y_3 : T_api_Type) (s_4 : ByteArray) : Option (Bool) :=
  Option.bind (roadlaw2_small y_0) fun y17 => if y17 = true then (Option.bind (kind_Program y_0) fun y24 => Option.bind (roadref2_KindsOf y_0) fun y31 => Option.bind (kind_Data y_0 s_4) fun y47 => Option.bind (slices_IndexFunc_24 y_0.Datas (fun z81 => roadlaw2_KindSays_1 z81 s_4)) fun y68 => if y24.1 = y31.E_ then (if y24.2 = y31.At then (if y68 < (0 : Int) then (if y47.2 = (11 : Int) then (if y47.1.Name = (ByteArray.mk #[]) then (if (((List.length y47.1.Makes) : Nat) : Int) > (0 : Int) then (some (false)) else (if y68 ≥ (0 : Int) then (if y47.2 = (0 : Int) then (if y47.1.Name = s_4 then (Option.bind (gi y_0.Datas y68) fun y105 => if (((List.length y47.1.Makes) : Nat) : Int) = (((List.length y105.Makes) : Nat) : Int) then ((roadlaw2_KindSays.j0 a_1 y_0 y_2 y_3)) else (some (false))) else (some (false))) else (some (false))) else ((roadlaw2_KindSays.j0 a_1 y_0 y_2 y_3)))) else (some (false))) else (some (false))) else (if y68 ≥ (0 : Int) then (if y47.2 = (0 : Int) then (if y47.1.Name = s_4 then (Option.bind (gi y_0.Datas y68) fun y134 => if (((List.length y47.1.Makes) : Nat) : Int) = (((List.length y134.Makes) : Nat) : Int) then ((roadlaw2_KindSays.j0 a_1 y_0 y_2 y_3)) else (some (false))) else (some (false))) else (some (false))) else ((roadlaw2_KindSays.j0 a_1 y_0 y_2 y_3)))) else (some (false))) else (some (false))) else (some (true))
set_option maxHeartbeats 4000000 in
set_option maxRecDepth 100000 in
theorem roadlaw2_KindSays.walk {W : Nat → Prop} {h m : Heap} {cs_0 : List Value} {A_1 : Option Addr} {n_1 c_1 : Nat} {cs_2 : List Value} {cs_3 : List Value} {y_0 : T_api_Program} {a_1 : List ByteArray} {y_2 : T_api_Type} {y_3 : T_api_Type} {s_4 : ByteArray} (O : Hold W h m h m []) (e_0 : T_api_Program.E m y_0 cs_0) (ne_1 : n_1 = List.length a_1) (k_1 : List.length a_1 ≤ c_1) (r_1 : Rd 1 eStr m A_1 a_1) (e_2 : T_api_Type.E m y_2 cs_2) (e_3 : T_api_Type.E m y_3 cs_3) (tab : TB m) {r : Bool} (e : roadlaw2_KindSays y_0 a_1 y_2 y_3 s_4 = some r) : Run Tryd.prog 4 #[Value.agg cs_0.toArray, Value.slice A_1 n_1 c_1, Value.agg cs_2.toArray, Value.agg cs_3.toArray, Value.string s_4] h (roadlaw2_KindSays.post W h m r) := by
  unfold roadlaw2_KindSays at e
  subst ne_1
  refine f4.run ?_
  unfold f4.runT
  refine O.new fun h1 x2 O3 => ?_
  refine O3.new fun h5 x6 O7 => ?_
  refine O7.new fun h9 x10 O11 => ?_
  refine O11.new fun h13 x14 O15 => ?_
  refine ⟨_, ldAn (Sub.refl _) (O15.all 0 rfl) (T_api_Program.T.len _ _ _ e_0), ?_⟩
  obtain ⟨y17, g18, e⟩ := bind_e e
  refine (roadlaw2_small.walk (Hold.start (W := No) O15.s) e_0 g18).mono ?_
  rintro _ h19 ⟨m20, Q21, rfl⟩
  have O23 := Hold.nm (O15.retC Q21 vfs_nil)
  refine ⟨_, rfl, ?_⟩
  refine split_not ?_
  refine split_any_e e (fun c153 e => ?_) (fun c153 e => ?_)
  · refine ⟨_, ldAn (Sub.refl _) (O23.all 0 rfl) (T_api_Program.T.len _ _ _ e_0), ?_⟩
    obtain ⟨y24, g25, e⟩ := bind_e e
    refine (kind_Program.walk (Hold.start (W := No) O23.s) e_0 g25).mono ?_
    rintro _ h26 ⟨m27, Q28, rfl⟩
    have O30 := Hold.nm (O23.retC Q28 vfs_nil)
    refine ⟨_, _, rfl, ?_⟩
    refine ⟨_, ldAn (Sub.refl _) (O30.all 0 rfl) (T_api_Program.T.len _ _ _ e_0), ?_⟩
    obtain ⟨y31, g32, e⟩ := bind_e e
    refine (roadref2_KindsOf.walk (Hold.start (W := No) O30.s) e_0 g32).mono ?_
    rintro _ h33 ⟨m34, cs38, Q35, rfl, he39⟩
    replace he39 : T_roadref2_Wrong.E m y31 cs38 := T_roadref2_Wrong.keep he39
    have O40 := Hold.nm (O30.retC Q35 vfs_nil)
    refine O40.new fun h41 x42 O43 => ?_
    refine ⟨_, rfl, (T_roadref2_Wrong.T.len _ _ _ he39), ?_⟩
    refine O43.stA 4 rfl (T_roadref2_Wrong.T.len _ _ _ he39) (T_roadref2_Wrong.T.flat _ _ _ he39) fun h45 O46 => ?_
    refine ⟨_, ldAn (Sub.refl _) (O46.all 0 rfl) (T_api_Program.T.len _ _ _ e_0), ?_⟩
    refine ⟨_, ld0 (Sub.refl _) (O46.all 3 rfl) rfl, _, rfl, ?_⟩
    obtain ⟨y47, g48, e⟩ := bind_e e
    refine (kind_Data.walk (Hold.start (W := No) O46.s) e_0 g48).mono ?_
    rintro _ h49 ⟨m50, cs54, Q51, rfl, he55⟩
    have O56 := Hold.nm (O46.ret Q51)
    refine ⟨_, _, rfl, ?_⟩
    refine O56.new fun h57 x58 O59 => ?_
    refine ⟨_, rfl, (T_api_Data.T.len _ _ _ he55), ?_⟩
    refine O59.stA 5 rfl (T_api_Data.T.len _ _ _ he55) (T_api_Data.T.flat _ _ _ he55) fun h61 O62 => ?_
    obtain ⟨A63, c64, q65, k66, r67⟩ := T_api_Program.g3 e_0
    refine ⟨_, ldk (k := 3) (Sub.refl _) (O62.all 0 rfl) q65, _, _, _, rfl, ?_⟩
    obtain ⟨y68, g69, e⟩ := bind_e e
    have O74 := O62.nm
    obtain ⟨m75, u76, s80, ⟨hb79, _⟩, B77, C78⟩ := O74.lend0 [3]
    refine (slices_IndexFunc_24.walk (Hold.start (W := No) s80) rfl k66 (r67.sub T_api_Data.T (Q51.S.up.trans u76)) (fun h82 m83 u84 s85 y88 cs88 he88 r86 e87 => CallF.of [Value.agg cs88.toArray, Value.pointer (some ⟨(Array.size h9), 0, none⟩)] f25.ok rfl ((roadlaw2_KindSays_1.walk (Hold.start (W := No) s85) he88 (VB.sub (show VB eStr _ _ _ from ⟨_, _, hb79, nn, rfl⟩) tell_str u84) e87).mono (fun _ _ h => let ⟨_, t, e⟩ := h; ⟨e, t.S.ext⟩))) g69).mono ?_
    rintro _ h70 ⟨m71, Q72, rfl⟩
    have O89 := Hold.nm (C78 Q72 vfs_nil)
    refine ⟨_, rfl, ?_⟩
    refine ⟨_, ld0 (Sub.refl _) (O89.all 4 rfl) (T_roadref2_Wrong.g0 he39), _, rfl, ?_⟩
    refine split_ne_e e (fun c152 e => ?_) (fun c152 e => ?_)
    · cases e
      exact ⟨_, O89.pick [], rfl⟩
    · refine ⟨_, ldk (k := 1) (Sub.refl _) (O89.all 4 rfl) (T_roadref2_Wrong.g1 he39), _, rfl, ?_⟩
      refine split_ne_e e (fun c151 e => ?_) (fun c151 e => ?_)
      · cases e
        exact ⟨_, O89.pick [], rfl⟩
      · refine split_dec_e e (fun c150 e => ?_) (fun c150 e => ?_)
        · refine split_ne_e e (fun c123 e => ?_) (fun c123 e => ?_)
          · cases e
            exact ⟨_, O89.pick [], rfl⟩
          · refine ⟨_, ld0 (Sub.refl _) (O89.all 5 rfl) (T_api_Data.g0 he55), _, rfl, ?_⟩
            try rw [ba_list y47.1.Name (ByteArray.mk #[])]
            refine split_not ?_
            refine split_dec_e e (fun c122 e => ?_) (fun c122 e => ?_)
            · obtain ⟨A90, c91, q92, k93, r94⟩ := T_api_Data.g2 he55
              refine ⟨_, ldk (k := 2) (Sub.refl _) (O89.all 5 rfl) q92, _, _, _, rfl, ?_⟩
              refine split_dec_e e (fun c121 e => ?_) (fun c121 e => ?_)
              · cases e
                exact ⟨_, O89.pick [], rfl⟩
              · refine split_dec_e e (fun c120 e => ?_) (fun c120 e => ?_)
                · refine split_ne_e e (fun c119 e => ?_) (fun c119 e => ?_)
                  · cases e
                    exact ⟨_, O89.pick [], rfl⟩
                  · refine ⟨_, ld0 (Sub.refl _) (O89.all 5 rfl) (T_api_Data.g0 he55), _, rfl, ?_⟩
                    refine ⟨_, ld0 (Sub.refl _) (O89.all 3 rfl) rfl, _, rfl, ?_⟩
                    try rw [ba_list y47.1.Name s_4]
                    refine split_not ?_
                    refine split_dec_e e (fun c118 e => ?_) (fun c118 e => ?_)
                    · obtain ⟨A95, c96, q97, k98, r99⟩ := T_api_Data.g2 he55
                      refine ⟨_, ldk (k := 2) (Sub.refl _) (O89.all 5 rfl) q97, _, _, _, rfl, ?_⟩
                      obtain ⟨A100, c101, q102, k103, r104⟩ := T_api_Program.g3 e_0
                      refine ⟨_, ldk (k := 3) (Sub.refl _) (O89.all 0 rfl) q102, _, _, _, rfl, ?_⟩
                      obtain ⟨y105, g106, e⟩ := bind_e e
                      refine (r104.sub T_api_Data.T Q51.S.up).addr rfl g106 fun a107 cs108 ha109 hc110 he111 => ?_
                      obtain ⟨A112, c113, q114, k115, r116⟩ := T_api_Data.g2 he111
                      refine ⟨_, ldk (k := 2) O89.s hc110 q114, _, _, _, rfl, ?_⟩
                      refine split_ne_e e (fun c117 e => ?_) (fun c117 e => ?_)
                      · cases e
                        exact ⟨_, O89.pick [], rfl⟩
                      · exact roadlaw2_KindSays.j0.walk (O89.pick [0, 1, 2]).nm rfl k_1 (r_1.sub tell_str Q51.S.up) (T_api_Program.T.mono _ _ _ _ Q51.S.up e_0) (T_api_Type.T.mono _ _ _ _ Q51.S.up e_2) (T_api_Type.T.mono _ _ _ _ Q51.S.up e_3) (TBg.sub tab Q51.S.up) e
                    · cases e
                      exact ⟨_, O89.pick [], rfl⟩
                · exact roadlaw2_KindSays.j0.walk (O89.pick [0, 1, 2]).nm rfl k_1 (r_1.sub tell_str Q51.S.up) (T_api_Program.T.mono _ _ _ _ Q51.S.up e_0) (T_api_Type.T.mono _ _ _ _ Q51.S.up e_2) (T_api_Type.T.mono _ _ _ _ Q51.S.up e_3) (TBg.sub tab Q51.S.up) e
            · cases e
              exact ⟨_, O89.pick [], rfl⟩
        · refine split_dec_e e (fun c149 e => ?_) (fun c149 e => ?_)
          · refine split_ne_e e (fun c148 e => ?_) (fun c148 e => ?_)
            · cases e
              exact ⟨_, O89.pick [], rfl⟩
            · refine ⟨_, ld0 (Sub.refl _) (O89.all 5 rfl) (T_api_Data.g0 he55), _, rfl, ?_⟩
              refine ⟨_, ld0 (Sub.refl _) (O89.all 3 rfl) rfl, _, rfl, ?_⟩
              try rw [ba_list y47.1.Name s_4]
              refine split_not ?_
              refine split_dec_e e (fun c147 e => ?_) (fun c147 e => ?_)
              · obtain ⟨A124, c125, q126, k127, r128⟩ := T_api_Data.g2 he55
                refine ⟨_, ldk (k := 2) (Sub.refl _) (O89.all 5 rfl) q126, _, _, _, rfl, ?_⟩
                obtain ⟨A129, c130, q131, k132, r133⟩ := T_api_Program.g3 e_0
                refine ⟨_, ldk (k := 3) (Sub.refl _) (O89.all 0 rfl) q131, _, _, _, rfl, ?_⟩
                obtain ⟨y134, g135, e⟩ := bind_e e
                refine (r133.sub T_api_Data.T Q51.S.up).addr rfl g135 fun a136 cs137 ha138 hc139 he140 => ?_
                obtain ⟨A141, c142, q143, k144, r145⟩ := T_api_Data.g2 he140
                refine ⟨_, ldk (k := 2) O89.s hc139 q143, _, _, _, rfl, ?_⟩
                refine split_ne_e e (fun c146 e => ?_) (fun c146 e => ?_)
                · cases e
                  exact ⟨_, O89.pick [], rfl⟩
                · exact roadlaw2_KindSays.j0.walk (O89.pick [0, 1, 2]).nm rfl k_1 (r_1.sub tell_str Q51.S.up) (T_api_Program.T.mono _ _ _ _ Q51.S.up e_0) (T_api_Type.T.mono _ _ _ _ Q51.S.up e_2) (T_api_Type.T.mono _ _ _ _ Q51.S.up e_3) (TBg.sub tab Q51.S.up) e
              · cases e
                exact ⟨_, O89.pick [], rfl⟩
          · exact roadlaw2_KindSays.j0.walk (O89.pick [0, 1, 2]).nm rfl k_1 (r_1.sub tell_str Q51.S.up) (T_api_Program.T.mono _ _ _ _ Q51.S.up e_0) (T_api_Type.T.mono _ _ _ _ Q51.S.up e_2) (T_api_Type.T.mono _ _ _ _ Q51.S.up e_3) (TBg.sub tab Q51.S.up) e
  · cases e
    exact ⟨_, O23.pick [], rfl⟩
end Go.Proofs.YtdlihfedhojdgaaDoor.Fw

end
