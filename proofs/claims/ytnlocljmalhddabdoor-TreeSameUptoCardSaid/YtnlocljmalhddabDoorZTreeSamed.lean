/- Part 4: what the law TreeSame needs, put together out of texts of this session. -/
import Derived.Test.YtnlocljmalhddabDoorZTreeSamec
section
namespace Go.Proofs.YtnlocljmalhddabDoor.Fw
open Go Go.Hw Go.Proofs
set_option linter.unusedVariables false
set_option synthInstance.maxHeartbeats 400000
set_option synthInstance.maxSize 1000
def slices_EqualFunc_50_s4.post (W : Nat → Prop) (h0 m0 : Heap) (r : Bool) (v : Value) (h : Heap) : Prop := ∃ m , Hold W h0 m0 h m [] ∧ v = .bool r
def slices_EqualFunc_26_s3.post (W : Nat → Prop) (h0 m0 : Heap) (r : Bool) (v : Value) (h : Heap) : Prop := ∃ m , Hold W h0 m0 h m [] ∧ v = .bool r
def tree_sameArm.post (W : Nat → Prop) (h0 m0 : Heap) (r : Bool) (v : Value) (h : Heap) : Prop := ∃ m , Hold W h0 m0 h m [] ∧ v = .bool r
def tree_SameExpr.post (W : Nat → Prop) (h0 m0 : Heap) (r : Bool) (v : Value) (h : Heap) : Prop := ∃ m , Hold W h0 m0 h m [] ∧ v = .bool r
inductive tree_SameExpr_k.Pt where
  | f_11 (y_0 : T_api_Expr) (y_1 : T_api_Expr)
  | f_51 (y_0 : T_api_Arm) (y_1 : T_api_Arm)
  | f_1000002 (a_0 : List T_api_Expr) (a_1 : List T_api_Expr)
  | l0_1000002 (a_1 : List T_api_Expr) (a_15 : List T_api_Expr) (x_16 : Int) (x_17 : Int)
  | f_1000003 (a_0 : List T_api_Arm) (a_1 : List T_api_Arm)
  | l0_1000003 (a_1 : List T_api_Arm) (a_15 : List T_api_Arm) (x_16 : Int) (x_17 : Int)
noncomputable def tree_SameExpr_k.body (go : (p : tree_SameExpr_k.Pt) → Option (Bool)) : (p : tree_SameExpr_k.Pt) → Option (Bool)
  | .f_11 y_0 y_1 => if y_0.Kind = y_1.Kind then (if y_0.Num = y_1.Num then (if y_0.Text = y_1.Text then (Option.bind (slices_Equal_20 y_0.Names y_1.Names) fun y19 => if y19 = true then (Option.bind (slices_EqualFunc_48_s1 y_0.Types y_1.Types) fun y36 => if y36 = true then (Option.bind ((go (.f_1000002 y_0.Args y_1.Args))) fun y53 => if y53 = true then (Option.bind ((go (.f_1000003 y_0.Arms y_1.Arms))) fun y70 => some (y70)) else (some (false))) else (some (false))) else (some (false))) else (some (false))) else (some (false))) else (some (false))
  | .f_51 y_0 y_1 => Option.bind (tree_SamePat y_0.Pat y_1.Pat) fun y9 => if y9 = true then (Option.bind ((go (.f_11 y_0.Body y_1.Body))) fun y16 => some (y16)) else (some (false))
  | .f_1000002 a_0 a_1 => if (((List.length a_0) : Nat) : Int) = (((List.length a_1) : Nat) : Int) then ((go (.l0_1000002 a_1 a_0 (((List.length a_0) : Nat) : Int) (0 : Int)))) else (some (false))
  | .l0_1000002 a_1 a_15 x_16 x_17 => if x_17 < x_16 then (Option.bind (gi a_15 x_17) fun y1 => Option.bind (gi a_1 x_17) fun y14 => Option.bind ((go (.f_11 y1 y14))) fun y27 => if y27 = true then ((go (.l0_1000002 a_1 a_15 x_16 (IntKind.wrap .i64 (x_17 + (1 : Int)))))) else (some (false))) else (some (true))
  | .f_1000003 a_0 a_1 => if (((List.length a_0) : Nat) : Int) = (((List.length a_1) : Nat) : Int) then ((go (.l0_1000003 a_1 a_0 (((List.length a_0) : Nat) : Int) (0 : Int)))) else (some (false))
  | .l0_1000003 a_1 a_15 x_16 x_17 => if x_17 < x_16 then (Option.bind (gi a_15 x_17) fun y1 => Option.bind (gi a_1 x_17) fun y14 => Option.bind ((go (.f_51 y1 y14))) fun y27 => if y27 = true then ((go (.l0_1000003 a_1 a_15 x_16 (IntKind.wrap .i64 (x_17 + (1 : Int)))))) else (some (false))) else (some (true))
theorem tree_SameExpr_k.mono : MonoF (β := fun _ => (Bool)) tree_SameExpr_k.body := fun f g hfg p => match p with
  | .f_11 y_0 y_1 => LeO.ite (LeO.ite (LeO.ite (LeO.bind (LeO.refl _) fun y19 => LeO.ite (LeO.bind (LeO.refl _) fun y36 => LeO.ite (LeO.bind ((hfg _)) fun y53 => LeO.ite (LeO.bind ((hfg _)) fun y70 => LeO.refl _) (LeO.refl _)) (LeO.refl _)) (LeO.refl _)) (LeO.refl _)) (LeO.refl _)) (LeO.refl _)
  | .f_51 y_0 y_1 => LeO.bind (LeO.refl _) fun y9 => LeO.ite (LeO.bind ((hfg _)) fun y16 => LeO.refl _) (LeO.refl _)
  | .f_1000002 a_0 a_1 => LeO.ite ((hfg _)) (LeO.refl _)
  | .l0_1000002 a_1 a_15 x_16 x_17 => LeO.ite (LeO.bind (LeO.refl _) fun y1 => LeO.bind (LeO.refl _) fun y14 => LeO.bind ((hfg _)) fun y27 => LeO.ite ((hfg _)) (LeO.refl _)) (LeO.refl _)
  | .f_1000003 a_0 a_1 => LeO.ite ((hfg _)) (LeO.refl _)
  | .l0_1000003 a_1 a_15 x_16 x_17 => LeO.ite (LeO.bind (LeO.refl _) fun y1 => LeO.bind (LeO.refl _) fun y14 => LeO.bind ((hfg _)) fun y27 => LeO.ite ((hfg _)) (LeO.refl _)) (LeO.refl _)
noncomputable def tree_SameExpr_k.go (p : tree_SameExpr_k.Pt) : Option (Bool) := fixF (β := fun _ => (Bool)) tree_SameExpr_k.body p
noncomputable def tree_SameExpr (y_0 : T_api_Expr) (y_1 : T_api_Expr) : Option (Bool) := tree_SameExpr_k.go (.f_11 y_0 y_1)
noncomputable def tree_sameArm (y_0 : T_api_Arm) (y_1 : T_api_Arm) : Option (Bool) := tree_SameExpr_k.go (.f_51 y_0 y_1)
noncomputable def slices_EqualFunc_26_s3 (a_0 : List T_api_Expr) (a_1 : List T_api_Expr) : Option (Bool) := tree_SameExpr_k.go (.f_1000002 a_0 a_1)
noncomputable def slices_EqualFunc_26_s3.l0 (a_1 : List T_api_Expr) (a_15 : List T_api_Expr) (x_16 : Int) (x_17 : Int) : Option (Bool) := tree_SameExpr_k.go (.l0_1000002 a_1 a_15 x_16 x_17)
noncomputable def slices_EqualFunc_50_s4 (a_0 : List T_api_Arm) (a_1 : List T_api_Arm) : Option (Bool) := tree_SameExpr_k.go (.f_1000003 a_0 a_1)
noncomputable def slices_EqualFunc_50_s4.l0 (a_1 : List T_api_Arm) (a_15 : List T_api_Arm) (x_16 : Int) (x_17 : Int) : Option (Bool) := tree_SameExpr_k.go (.l0_1000003 a_1 a_15 x_16 x_17)
theorem tree_SameExpr_eq (y_0 : T_api_Expr) (y_1 : T_api_Expr) : tree_SameExpr y_0 y_1 = if y_0.Kind = y_1.Kind then (if y_0.Num = y_1.Num then (if y_0.Text = y_1.Text then (Option.bind (slices_Equal_20 y_0.Names y_1.Names) fun y19 => if y19 = true then (Option.bind (slices_EqualFunc_48_s1 y_0.Types y_1.Types) fun y36 => if y36 = true then (Option.bind ((slices_EqualFunc_26_s3 y_0.Args y_1.Args)) fun y53 => if y53 = true then (Option.bind ((slices_EqualFunc_50_s4 y_0.Arms y_1.Arms)) fun y70 => some (y70)) else (some (false))) else (some (false))) else (some (false))) else (some (false))) else (some (false))) else (some (false)) := fixF_eq tree_SameExpr_k.mono _
theorem tree_sameArm_eq (y_0 : T_api_Arm) (y_1 : T_api_Arm) : tree_sameArm y_0 y_1 = Option.bind (tree_SamePat y_0.Pat y_1.Pat) fun y9 => if y9 = true then (Option.bind ((tree_SameExpr y_0.Body y_1.Body)) fun y16 => some (y16)) else (some (false)) := fixF_eq tree_SameExpr_k.mono _
theorem slices_EqualFunc_26_s3_eq (a_0 : List T_api_Expr) (a_1 : List T_api_Expr) : slices_EqualFunc_26_s3 a_0 a_1 = if (((List.length a_0) : Nat) : Int) = (((List.length a_1) : Nat) : Int) then ((slices_EqualFunc_26_s3.l0 a_1 a_0 (((List.length a_0) : Nat) : Int) (0 : Int))) else (some (false)) := fixF_eq tree_SameExpr_k.mono _
theorem slices_EqualFunc_26_s3.l0_eq (a_1 : List T_api_Expr) (a_15 : List T_api_Expr) (x_16 : Int) (x_17 : Int) : slices_EqualFunc_26_s3.l0 a_1 a_15 x_16 x_17 = if x_17 < x_16 then (Option.bind (gi a_15 x_17) fun y1 => Option.bind (gi a_1 x_17) fun y14 => Option.bind ((tree_SameExpr y1 y14)) fun y27 => if y27 = true then ((slices_EqualFunc_26_s3.l0 a_1 a_15 x_16 (IntKind.wrap .i64 (x_17 + (1 : Int))))) else (some (false))) else (some (true)) := fixF_eq tree_SameExpr_k.mono _
theorem slices_EqualFunc_50_s4_eq (a_0 : List T_api_Arm) (a_1 : List T_api_Arm) : slices_EqualFunc_50_s4 a_0 a_1 = if (((List.length a_0) : Nat) : Int) = (((List.length a_1) : Nat) : Int) then ((slices_EqualFunc_50_s4.l0 a_1 a_0 (((List.length a_0) : Nat) : Int) (0 : Int))) else (some (false)) := fixF_eq tree_SameExpr_k.mono _
theorem slices_EqualFunc_50_s4.l0_eq (a_1 : List T_api_Arm) (a_15 : List T_api_Arm) (x_16 : Int) (x_17 : Int) : slices_EqualFunc_50_s4.l0 a_1 a_15 x_16 x_17 = if x_17 < x_16 then (Option.bind (gi a_15 x_17) fun y1 => Option.bind (gi a_1 x_17) fun y14 => Option.bind ((tree_sameArm y1 y14)) fun y27 => if y27 = true then ((slices_EqualFunc_50_s4.l0 a_1 a_15 x_16 (IntKind.wrap .i64 (x_17 + (1 : Int))))) else (some (false))) else (some (true)) := fixF_eq tree_SameExpr_k.mono _
def tree_SameExpr_k.I : (p : tree_SameExpr_k.Pt) → (Bool) → Prop
  | .f_11 y_0 y_1, r => ∀ (W : Nat → Prop) (h m : Heap) (cs_0 : List Value) (cs_1 : List Value) (O : Hold W h m h m []) (e_0 : T_api_Expr.E m y_0 cs_0) (e_1 : T_api_Expr.E m y_1 cs_1), Run Tryd.prog 11 #[Value.agg cs_0.toArray, Value.agg cs_1.toArray] h (tree_SameExpr.post W h m r)
  | .f_51 y_0 y_1, r => ∀ (W : Nat → Prop) (h m : Heap) (cs_0 : List Value) (cs_1 : List Value) (O : Hold W h m h m []) (e_0 : T_api_Arm.E m y_0 cs_0) (e_1 : T_api_Arm.E m y_1 cs_1), Run Tryd.prog 51 #[Value.agg cs_0.toArray, Value.agg cs_1.toArray] h (tree_sameArm.post W h m r)
  | .f_1000002 a_0 a_1, r => ∀ (W : Nat → Prop) (h m : Heap) (A_0 : Option Addr) (n_0 c_0 : Nat) (A_1 : Option Addr) (n_1 c_1 : Nat) (O : Hold W h m h m []) (ne_0 : n_0 = List.length a_0) (k_0 : List.length a_0 ≤ c_0) (r_0 : Rd 8 T_api_Expr.E m A_0 a_0) (ne_1 : n_1 = List.length a_1) (k_1 : List.length a_1 ≤ c_1) (r_1 : Rd 8 T_api_Expr.E m A_1 a_1), Run Tryd.prog 26 #[Value.slice A_0 n_0 c_0, Value.slice A_1 n_1 c_1, (Value.func (.func 11) #[] #[])] h (slices_EqualFunc_26_s3.post W h m r)
  | .l0_1000002 a_1 a_15 x_16 x_17, r => ∀ (W : Nat → Prop) (h0 m0 h m : Heap) (A_1 : Option Addr) (n_1 c_1 : Nat) (A_15 : Option Addr) (n_15 c_15 : Nat) (O : Hold W h0 m0 h m []) (ne_1 : n_1 = List.length a_1) (k_1 : List.length a_1 ≤ c_1) (r_1 : Rd 8 T_api_Expr.E m A_1 a_1) (ne_15 : n_15 = List.length a_15) (k_15 : List.length a_15 ≤ c_15) (r_15 : Rd 8 T_api_Expr.E m A_15 a_15), f26.l0 (slices_EqualFunc_26_s3.post W h0 m0 r) A_1 n_1 c_1 (Value.func (.func 11) #[] #[]) A_15 n_15 c_15 x_16 x_17 h
  | .f_1000003 a_0 a_1, r => ∀ (W : Nat → Prop) (h m : Heap) (A_0 : Option Addr) (n_0 c_0 : Nat) (A_1 : Option Addr) (n_1 c_1 : Nat) (O : Hold W h m h m []) (ne_0 : n_0 = List.length a_0) (k_0 : List.length a_0 ≤ c_0) (r_0 : Rd 12 T_api_Arm.E m A_0 a_0) (ne_1 : n_1 = List.length a_1) (k_1 : List.length a_1 ≤ c_1) (r_1 : Rd 12 T_api_Arm.E m A_1 a_1), Run Tryd.prog 50 #[Value.slice A_0 n_0 c_0, Value.slice A_1 n_1 c_1, (Value.func (.func 51) #[] #[])] h (slices_EqualFunc_50_s4.post W h m r)
  | .l0_1000003 a_1 a_15 x_16 x_17, r => ∀ (W : Nat → Prop) (h0 m0 h m : Heap) (A_1 : Option Addr) (n_1 c_1 : Nat) (A_15 : Option Addr) (n_15 c_15 : Nat) (O : Hold W h0 m0 h m []) (ne_1 : n_1 = List.length a_1) (k_1 : List.length a_1 ≤ c_1) (r_1 : Rd 12 T_api_Arm.E m A_1 a_1) (ne_15 : n_15 = List.length a_15) (k_15 : List.length a_15 ≤ c_15) (r_15 : Rd 12 T_api_Arm.E m A_15 a_15), f50.l0 (slices_EqualFunc_50_s4.post W h0 m0 r) A_1 n_1 c_1 (Value.func (.func 51) #[] #[]) A_15 n_15 c_15 x_16 x_17 h
set_option maxHeartbeats 4000000 in
set_option maxRecDepth 100000 in
theorem tree_SameExpr_k.step_f_11 (go : (p : tree_SameExpr_k.Pt) → Option (Bool)) (ih : ∀ p r, go p = some r → tree_SameExpr_k.I p r) (y_0 : T_api_Expr) (y_1 : T_api_Expr) (r : Bool) (e : tree_SameExpr_k.body go (.f_11 y_0 y_1) = some r) : tree_SameExpr_k.I (.f_11 y_0 y_1) r := by
  unfold tree_SameExpr_k.body at e
  intro W h m cs_0 cs_1 O e_0 e_1
  refine f11.run ?_
  unfold f11.runT
  refine O.new fun h1 x2 O3 => ?_
  refine O3.new fun h5 x6 O7 => ?_
  refine ⟨_, ld0 (Sub.refl _) (O7.all 0 rfl) (T_api_Expr.g0 e_0), _, rfl, ?_⟩
  refine ⟨_, ld0 (Sub.refl _) (O7.all 1 rfl) (T_api_Expr.g0 e_1), _, rfl, ?_⟩
  refine split_eq_e e (fun c85 e => ?_) (fun c85 e => ?_)
  · refine ⟨_, ldk (k := 1) (Sub.refl _) (O7.all 0 rfl) (T_api_Expr.g1 e_0), _, rfl, ?_⟩
    refine ⟨_, ldk (k := 1) (Sub.refl _) (O7.all 1 rfl) (T_api_Expr.g1 e_1), _, rfl, ?_⟩
    refine split_eq_e e (fun c83 e => ?_) (fun c83 e => ?_)
    · refine ⟨_, ldk (k := 2) (Sub.refl _) (O7.all 0 rfl) (T_api_Expr.g2 e_0), _, rfl, ?_⟩
      refine ⟨_, ldk (k := 2) (Sub.refl _) (O7.all 1 rfl) (T_api_Expr.g2 e_1), _, rfl, ?_⟩
      try rw [ba_list y_0.Text y_1.Text]
      refine split_dec_e e (fun c81 e => ?_) (fun c81 e => ?_)
      · obtain ⟨A9, c10, q11, k12, r13⟩ := T_api_Expr.g3 e_0
        refine ⟨_, ldk (k := 3) (Sub.refl _) (O7.all 0 rfl) q11, _, _, _, rfl, ?_⟩
        obtain ⟨A14, c15, q16, k17, r18⟩ := T_api_Expr.g3 e_1
        refine ⟨_, ldk (k := 3) (Sub.refl _) (O7.all 1 rfl) q16, _, _, _, rfl, ?_⟩
        obtain ⟨y19, g20, e⟩ := bind_e e
        refine (slices_Equal_20.walk (Hold.start (W := No) O7.s) rfl k12 r13 rfl k17 r18 g20).mono ?_
        rintro _ h21 ⟨m22, Q23, rfl⟩
        have O25 := Hold.nm (O7.retC Q23 vfs_nil)
        refine ⟨_, rfl, ?_⟩
        refine split_any_e e (fun c79 e => ?_) (fun c79 e => ?_)
        · obtain ⟨A26, c27, q28, k29, r30⟩ := T_api_Expr.g4 e_0
          refine ⟨_, ldk (k := 4) (Sub.refl _) (O25.all 0 rfl) q28, _, _, _, rfl, ?_⟩
          obtain ⟨A31, c32, q33, k34, r35⟩ := T_api_Expr.g4 e_1
          refine ⟨_, ldk (k := 4) (Sub.refl _) (O25.all 1 rfl) q33, _, _, _, rfl, ?_⟩
          obtain ⟨y36, g37, e⟩ := bind_e e
          refine (slices_EqualFunc_48_s1.walk (Hold.start (W := No) O25.s) rfl k29 r30 rfl k34 r35 g37).mono ?_
          rintro _ h38 ⟨m39, Q40, rfl⟩
          have O42 := Hold.nm (O25.retC Q40 vfs_nil)
          refine ⟨_, rfl, ?_⟩
          refine split_any_e e (fun c78 e => ?_) (fun c78 e => ?_)
          · obtain ⟨A43, c44, q45, k46, r47⟩ := T_api_Expr.g5 e_0
            refine ⟨_, ldk (k := 5) (Sub.refl _) (O42.all 0 rfl) q45, _, _, _, rfl, ?_⟩
            obtain ⟨A48, c49, q50, k51, r52⟩ := T_api_Expr.g5 e_1
            refine ⟨_, ldk (k := 5) (Sub.refl _) (O42.all 1 rfl) q50, _, _, _, rfl, ?_⟩
            obtain ⟨y53, g54, e⟩ := bind_e e
            refine ((ih _ _ g54) _ _ _ _ _ _ _ _ _ (Hold.start (W := No) O42.s) rfl k46 r47 rfl k51 r52).mono ?_
            rintro _ h55 ⟨m56, Q57, rfl⟩
            have O59 := Hold.nm (O42.retC Q57 vfs_nil)
            refine ⟨_, rfl, ?_⟩
            refine split_any_e e (fun c77 e => ?_) (fun c77 e => ?_)
            · obtain ⟨A60, c61, q62, k63, r64⟩ := T_api_Expr.g6 e_0
              refine ⟨_, ldk (k := 6) (Sub.refl _) (O59.all 0 rfl) q62, _, _, _, rfl, ?_⟩
              obtain ⟨A65, c66, q67, k68, r69⟩ := T_api_Expr.g6 e_1
              refine ⟨_, ldk (k := 6) (Sub.refl _) (O59.all 1 rfl) q67, _, _, _, rfl, ?_⟩
              obtain ⟨y70, g71, e⟩ := bind_e e
              refine ((ih _ _ g71) _ _ _ _ _ _ _ _ _ (Hold.start (W := No) O59.s) rfl k63 r64 rfl k68 r69).mono ?_
              rintro _ h72 ⟨m73, Q74, rfl⟩
              have O76 := Hold.nm (O59.retC Q74 vfs_nil)
              refine ⟨_, rfl, ?_⟩
              cases e
              exact ⟨_, O76.pick [], rfl⟩
            · cases e
              exact ⟨_, O59.pick [], rfl⟩
          · cases e
            exact ⟨_, O42.pick [], rfl⟩
        · cases e
          exact ⟨_, O25.pick [], rfl⟩
      · have O80 := O7.nm
        cases e
        exact ⟨_, O80.pick [], rfl⟩
    · have O82 := O7.nm
      cases e
      exact ⟨_, O82.pick [], rfl⟩
  · have O84 := O7.nm
    cases e
    exact ⟨_, O84.pick [], rfl⟩
set_option maxRecDepth 100000 in
theorem tree_SameExpr_k.step_f_51 (go : (p : tree_SameExpr_k.Pt) → Option (Bool)) (ih : ∀ p r, go p = some r → tree_SameExpr_k.I p r) (y_0 : T_api_Arm) (y_1 : T_api_Arm) (r : Bool) (e : tree_SameExpr_k.body go (.f_51 y_0 y_1) = some r) : tree_SameExpr_k.I (.f_51 y_0 y_1) r := by
  unfold tree_SameExpr_k.body at e
  intro W h m cs_0 cs_1 O e_0 e_1
  refine f51.run ?_
  unfold f51.runT
  refine O.new fun h1 x2 O3 => ?_
  refine O3.new fun h5 x6 O7 => ?_
  refine ⟨_, ldA0n (Sub.refl _) (O7.all 0 rfl) 4 (le_len (T_api_Arm.T.len _ _ _ e_0) (by decide)), ?_⟩
  refine ⟨_, ldA0n (Sub.refl _) (O7.all 1 rfl) 4 (le_len (T_api_Arm.T.len _ _ _ e_1) (by decide)), ?_⟩
  obtain ⟨y9, g10, e⟩ := bind_e e
  refine (tree_SamePat.walk (Hold.start (W := No) O7.s) (T_api_Arm.u0_48 e_0) (T_api_Arm.u0_48 e_1) g10).mono ?_
  rintro _ h11 ⟨m12, Q13, rfl⟩
  have O15 := Hold.nm (O7.retC Q13 vfs_nil)
  refine ⟨_, rfl, ?_⟩
  refine split_any_e e (fun c23 e => ?_) (fun c23 e => ?_)
  · refine ⟨_, ldAkn (Sub.refl _) (O15.all 0 rfl) 4 8 (le_len (T_api_Arm.T.len _ _ _ e_0) (by decide)), ?_⟩
    refine ⟨_, ldAkn (Sub.refl _) (O15.all 1 rfl) 4 8 (le_len (T_api_Arm.T.len _ _ _ e_1) (by decide)), ?_⟩
    obtain ⟨y16, g17, e⟩ := bind_e e
    refine ((ih _ _ g17) _ _ _ _ _ (Hold.start (W := No) O15.s) (T_api_Arm.u4_40 e_0) (T_api_Arm.u4_40 e_1)).mono ?_
    rintro _ h18 ⟨m19, Q20, rfl⟩
    have O22 := Hold.nm (O15.retC Q20 vfs_nil)
    refine ⟨_, rfl, ?_⟩
    cases e
    exact ⟨_, O22.pick [], rfl⟩
  · cases e
    exact ⟨_, O15.pick [], rfl⟩
set_option maxRecDepth 100000 in
theorem tree_SameExpr_k.step_f_1000002 (go : (p : tree_SameExpr_k.Pt) → Option (Bool)) (ih : ∀ p r, go p = some r → tree_SameExpr_k.I p r) (a_0 : List T_api_Expr) (a_1 : List T_api_Expr) (r : Bool) (e : tree_SameExpr_k.body go (.f_1000002 a_0 a_1) = some r) : tree_SameExpr_k.I (.f_1000002 a_0 a_1) r := by
  unfold tree_SameExpr_k.body at e
  intro W h m A_0 n_0 c_0 A_1 n_1 c_1 O ne_0 k_0 r_0 ne_1 k_1 r_1
  subst ne_0
  subst ne_1
  refine f26.run ?_
  unfold f26.runT
  refine split_ne_e e (fun c1 e => ?_) (fun c1 e => ?_)
  · cases e
    exact ⟨_, O.pick [], rfl⟩
  · exact (ih _ _ e) _ _ _ _ _ _ _ _ _ _ _ (O.pick []).nm rfl k_1 r_1 rfl k_0 r_0
set_option maxRecDepth 100000 in
theorem tree_SameExpr_k.step_l0_1000002 (go : (p : tree_SameExpr_k.Pt) → Option (Bool)) (ih : ∀ p r, go p = some r → tree_SameExpr_k.I p r) (a_1 : List T_api_Expr) (a_15 : List T_api_Expr) (x_16 : Int) (x_17 : Int) (r : Bool) (e : tree_SameExpr_k.body go (.l0_1000002 a_1 a_15 x_16 x_17) = some r) : tree_SameExpr_k.I (.l0_1000002 a_1 a_15 x_16 x_17) r := by
  unfold tree_SameExpr_k.body at e
  intro W h0 m0 h m A_1 n_1 c_1 A_15 n_15 c_15 O ne_1 k_1 r_1 ne_15 k_15 r_15
  subst ne_1
  subst ne_15
  refine f26.l0_in ?_
  unfold f26.l0T
  refine split_dec_e e (fun c35 e => ?_) (fun c35 e => ?_)
  · obtain ⟨y1, g2, e⟩ := bind_e e
    refine r_15.addr rfl g2 fun a3 cs4 ha5 hc6 he7 => ?_
    refine ⟨_, ldAn O.s hc6 rfl, ?_⟩
    refine O.new fun h8 x9 O10 => ?_
    refine ⟨_, rfl, (T_api_Expr.T.len _ _ _ he7), ?_⟩
    refine O10.stA 0 rfl (T_api_Expr.T.len _ _ _ he7) (T_api_Expr.T.flat _ _ _ he7) fun h12 O13 => ?_
    obtain ⟨y14, g15, e⟩ := bind_e e
    refine r_1.addr rfl g15 fun a16 cs17 ha18 hc19 he20 => ?_
    refine ⟨_, ldAn O13.s hc19 rfl, ?_⟩
    refine O13.new fun h21 x22 O23 => ?_
    refine ⟨_, rfl, (T_api_Expr.T.len _ _ _ he20), ?_⟩
    refine O23.stA 1 rfl (T_api_Expr.T.len _ _ _ he20) (T_api_Expr.T.flat _ _ _ he20) fun h25 O26 => ?_
    refine ⟨_, ldAn (Sub.refl _) (O26.all 0 rfl) (T_api_Expr.T.len _ _ _ he7), ?_⟩
    refine ⟨_, ldAn (Sub.refl _) (O26.all 1 rfl) (T_api_Expr.T.len _ _ _ he20), ?_⟩
    obtain ⟨y27, g28, e⟩ := bind_e e
    refine CallF.of [(Value.agg (List.toArray cs4)), (Value.agg (List.toArray cs17))] f11.ok rfl ?_
    refine ((ih _ _ g28) _ _ _ _ _ (Hold.start (W := No) O26.s) he7 he20).mono ?_
    rintro _ h29 ⟨m30, Q31, rfl⟩
    have O33 := Hold.nm (O26.retC Q31 vfs_nil)
    refine ⟨_, rfl, ?_⟩
    refine split_not ?_
    refine split_any_e e (fun c34 e => ?_) (fun c34 e => ?_)
    · exact (ih _ _ e) _ _ _ _ _ _ _ _ _ _ _ (O33.pick []).nm rfl k_1 r_1 rfl k_15 r_15
    · cases e
      exact ⟨_, O33.pick [], rfl⟩
  · cases e
    exact ⟨_, O.pick [], rfl⟩
set_option maxRecDepth 100000 in
theorem tree_SameExpr_k.step_f_1000003 (go : (p : tree_SameExpr_k.Pt) → Option (Bool)) (ih : ∀ p r, go p = some r → tree_SameExpr_k.I p r) (a_0 : List T_api_Arm) (a_1 : List T_api_Arm) (r : Bool) (e : tree_SameExpr_k.body go (.f_1000003 a_0 a_1) = some r) : tree_SameExpr_k.I (.f_1000003 a_0 a_1) r := by
  unfold tree_SameExpr_k.body at e
  intro W h m A_0 n_0 c_0 A_1 n_1 c_1 O ne_0 k_0 r_0 ne_1 k_1 r_1
  subst ne_0
  subst ne_1
  refine f50.run ?_
  unfold f50.runT
  refine split_ne_e e (fun c1 e => ?_) (fun c1 e => ?_)
  · cases e
    exact ⟨_, O.pick [], rfl⟩
  · exact (ih _ _ e) _ _ _ _ _ _ _ _ _ _ _ (O.pick []).nm rfl k_1 r_1 rfl k_0 r_0
set_option maxRecDepth 100000 in
theorem tree_SameExpr_k.step_l0_1000003 (go : (p : tree_SameExpr_k.Pt) → Option (Bool)) (ih : ∀ p r, go p = some r → tree_SameExpr_k.I p r) (a_1 : List T_api_Arm) (a_15 : List T_api_Arm) (x_16 : Int) (x_17 : Int) (r : Bool) (e : tree_SameExpr_k.body go (.l0_1000003 a_1 a_15 x_16 x_17) = some r) : tree_SameExpr_k.I (.l0_1000003 a_1 a_15 x_16 x_17) r := by
  unfold tree_SameExpr_k.body at e
  intro W h0 m0 h m A_1 n_1 c_1 A_15 n_15 c_15 O ne_1 k_1 r_1 ne_15 k_15 r_15
  subst ne_1
  subst ne_15
  refine f50.l0_in ?_
  unfold f50.l0T
  refine split_dec_e e (fun c35 e => ?_) (fun c35 e => ?_)
  · obtain ⟨y1, g2, e⟩ := bind_e e
    refine r_15.addr rfl g2 fun a3 cs4 ha5 hc6 he7 => ?_
    refine ⟨_, ldAn O.s hc6 rfl, ?_⟩
    refine O.new fun h8 x9 O10 => ?_
    refine ⟨_, rfl, (T_api_Arm.T.len _ _ _ he7), ?_⟩
    refine O10.stA 0 rfl (T_api_Arm.T.len _ _ _ he7) (T_api_Arm.T.flat _ _ _ he7) fun h12 O13 => ?_
    obtain ⟨y14, g15, e⟩ := bind_e e
    refine r_1.addr rfl g15 fun a16 cs17 ha18 hc19 he20 => ?_
    refine ⟨_, ldAn O13.s hc19 rfl, ?_⟩
    refine O13.new fun h21 x22 O23 => ?_
    refine ⟨_, rfl, (T_api_Arm.T.len _ _ _ he20), ?_⟩
    refine O23.stA 1 rfl (T_api_Arm.T.len _ _ _ he20) (T_api_Arm.T.flat _ _ _ he20) fun h25 O26 => ?_
    refine ⟨_, ldAn (Sub.refl _) (O26.all 0 rfl) (T_api_Arm.T.len _ _ _ he7), ?_⟩
    refine ⟨_, ldAn (Sub.refl _) (O26.all 1 rfl) (T_api_Arm.T.len _ _ _ he20), ?_⟩
    obtain ⟨y27, g28, e⟩ := bind_e e
    refine CallF.of [(Value.agg (List.toArray cs4)), (Value.agg (List.toArray cs17))] f51.ok rfl ?_
    refine ((ih _ _ g28) _ _ _ _ _ (Hold.start (W := No) O26.s) he7 he20).mono ?_
    rintro _ h29 ⟨m30, Q31, rfl⟩
    have O33 := Hold.nm (O26.retC Q31 vfs_nil)
    refine ⟨_, rfl, ?_⟩
    refine split_not ?_
    refine split_any_e e (fun c34 e => ?_) (fun c34 e => ?_)
    · exact (ih _ _ e) _ _ _ _ _ _ _ _ _ _ _ (O33.pick []).nm rfl k_1 r_1 rfl k_15 r_15
    · cases e
      exact ⟨_, O33.pick [], rfl⟩
  · cases e
    exact ⟨_, O.pick [], rfl⟩
theorem tree_SameExpr_k.all {p : tree_SameExpr_k.Pt} {r : (Bool)} (e : tree_SameExpr_k.go p = some r) : tree_SameExpr_k.I p r := fixF_ind (β := fun _ => (Bool)) tree_SameExpr_k.mono (I := tree_SameExpr_k.I) (fun go ih p r e => match p with
  | .f_11 y_0 y_1 => tree_SameExpr_k.step_f_11 go ih y_0 y_1 r e
  | .f_51 y_0 y_1 => tree_SameExpr_k.step_f_51 go ih y_0 y_1 r e
  | .f_1000002 a_0 a_1 => tree_SameExpr_k.step_f_1000002 go ih a_0 a_1 r e
  | .l0_1000002 a_1 a_15 x_16 x_17 => tree_SameExpr_k.step_l0_1000002 go ih a_1 a_15 x_16 x_17 r e
  | .f_1000003 a_0 a_1 => tree_SameExpr_k.step_f_1000003 go ih a_0 a_1 r e
  | .l0_1000003 a_1 a_15 x_16 x_17 => tree_SameExpr_k.step_l0_1000003 go ih a_1 a_15 x_16 x_17 r e
  ) e
theorem tree_SameExpr.walk {W : Nat → Prop} {h m : Heap} {cs_0 : List Value} {cs_1 : List Value} {y_0 : T_api_Expr} {y_1 : T_api_Expr} (O : Hold W h m h m []) (e_0 : T_api_Expr.E m y_0 cs_0) (e_1 : T_api_Expr.E m y_1 cs_1) {r : Bool} (e : tree_SameExpr y_0 y_1 = some r) : Run Tryd.prog 11 #[Value.agg cs_0.toArray, Value.agg cs_1.toArray] h (tree_SameExpr.post W h m r) := tree_SameExpr_k.all (p := .f_11 y_0 y_1) e W h m cs_0 cs_1 O e_0 e_1
def tree_sameFunc.post (W : Nat → Prop) (h0 m0 : Heap) (r : Bool) (v : Value) (h : Heap) : Prop := ∃ m , Hold W h0 m0 h m [] ∧ v = .bool r
noncomputable def tree_sameFunc (y_0 : T_api_Func) (y_1 : T_api_Func) : Option (Bool) :=
  if y_0.Name = y_1.Name then (Option.bind (slices_Equal_20 y_0.Params y_1.Params) fun y19 => if y19 = true then (Option.bind (slices_Equal_20 y_0.Names y_1.Names) fun y36 => if y36 = true then (Option.bind (slices_EqualFunc_48_s1 y_0.Types y_1.Types) fun y53 => if y53 = true then (Option.bind (tree_SameType y_0.Out y_1.Out) fun y60 => if y60 = true then (Option.bind (tree_SameExpr y_0.Body y_1.Body) fun y67 => some (y67)) else (some (false))) else (some (false))) else (some (false))) else (some (false))) else (some (false))
set_option maxHeartbeats 4000000 in
set_option maxRecDepth 100000 in
theorem tree_sameFunc.walk {W : Nat → Prop} {h m : Heap} {cs_0 : List Value} {cs_1 : List Value} {y_0 : T_api_Func} {y_1 : T_api_Func} (O : Hold W h m h m []) (e_0 : T_api_Func.E m y_0 cs_0) (e_1 : T_api_Func.E m y_1 cs_1) {r : Bool} (e : tree_sameFunc y_0 y_1 = some r) : Run Tryd.prog 38 #[Value.agg cs_0.toArray, Value.agg cs_1.toArray] h (tree_sameFunc.post W h m r) := by
  unfold tree_sameFunc at e
  refine f38.run ?_
  unfold f38.runT
  refine O.new fun h1 x2 O3 => ?_
  refine O3.new fun h5 x6 O7 => ?_
  refine ⟨_, ld0 (Sub.refl _) (O7.all 0 rfl) (T_api_Func.g0 e_0), _, rfl, ?_⟩
  refine ⟨_, ld0 (Sub.refl _) (O7.all 1 rfl) (T_api_Func.g0 e_1), _, rfl, ?_⟩
  try rw [ba_list y_0.Name y_1.Name]
  refine split_dec_e e (fun c79 e => ?_) (fun c79 e => ?_)
  · obtain ⟨A9, c10, q11, k12, r13⟩ := T_api_Func.g1 e_0
    refine ⟨_, ldk (k := 1) (Sub.refl _) (O7.all 0 rfl) q11, _, _, _, rfl, ?_⟩
    obtain ⟨A14, c15, q16, k17, r18⟩ := T_api_Func.g1 e_1
    refine ⟨_, ldk (k := 1) (Sub.refl _) (O7.all 1 rfl) q16, _, _, _, rfl, ?_⟩
    obtain ⟨y19, g20, e⟩ := bind_e e
    refine (slices_Equal_20.walk (Hold.start (W := No) O7.s) rfl k12 r13 rfl k17 r18 g20).mono ?_
    rintro _ h21 ⟨m22, Q23, rfl⟩
    have O25 := Hold.nm (O7.retC Q23 vfs_nil)
    refine ⟨_, rfl, ?_⟩
    refine split_any_e e (fun c77 e => ?_) (fun c77 e => ?_)
    · obtain ⟨A26, c27, q28, k29, r30⟩ := T_api_Func.g2 e_0
      refine ⟨_, ldk (k := 2) (Sub.refl _) (O25.all 0 rfl) q28, _, _, _, rfl, ?_⟩
      obtain ⟨A31, c32, q33, k34, r35⟩ := T_api_Func.g2 e_1
      refine ⟨_, ldk (k := 2) (Sub.refl _) (O25.all 1 rfl) q33, _, _, _, rfl, ?_⟩
      obtain ⟨y36, g37, e⟩ := bind_e e
      refine (slices_Equal_20.walk (Hold.start (W := No) O25.s) rfl k29 r30 rfl k34 r35 g37).mono ?_
      rintro _ h38 ⟨m39, Q40, rfl⟩
      have O42 := Hold.nm (O25.retC Q40 vfs_nil)
      refine ⟨_, rfl, ?_⟩
      refine split_any_e e (fun c76 e => ?_) (fun c76 e => ?_)
      · obtain ⟨A43, c44, q45, k46, r47⟩ := T_api_Func.g3 e_0
        refine ⟨_, ldk (k := 3) (Sub.refl _) (O42.all 0 rfl) q45, _, _, _, rfl, ?_⟩
        obtain ⟨A48, c49, q50, k51, r52⟩ := T_api_Func.g3 e_1
        refine ⟨_, ldk (k := 3) (Sub.refl _) (O42.all 1 rfl) q50, _, _, _, rfl, ?_⟩
        obtain ⟨y53, g54, e⟩ := bind_e e
        refine (slices_EqualFunc_48_s1.walk (Hold.start (W := No) O42.s) rfl k46 r47 rfl k51 r52 g54).mono ?_
        rintro _ h55 ⟨m56, Q57, rfl⟩
        have O59 := Hold.nm (O42.retC Q57 vfs_nil)
        refine ⟨_, rfl, ?_⟩
        refine split_any_e e (fun c75 e => ?_) (fun c75 e => ?_)
        · refine ⟨_, ldAkn (Sub.refl _) (O59.all 0 rfl) 4 3 (le_len (T_api_Func.T.len _ _ _ e_0) (by decide)), ?_⟩
          refine ⟨_, ldAkn (Sub.refl _) (O59.all 1 rfl) 4 3 (le_len (T_api_Func.T.len _ _ _ e_1) (by decide)), ?_⟩
          obtain ⟨y60, g61, e⟩ := bind_e e
          refine (tree_SameType.walk (Hold.start (W := No) O59.s) (T_api_Func.u4_59 e_0) (T_api_Func.u4_59 e_1) g61).mono ?_
          rintro _ h62 ⟨m63, Q64, rfl⟩
          have O66 := Hold.nm (O59.retC Q64 vfs_nil)
          refine ⟨_, rfl, ?_⟩
          refine split_any_e e (fun c74 e => ?_) (fun c74 e => ?_)
          · refine ⟨_, ldAkn (Sub.refl _) (O66.all 0 rfl) 7 8 (le_len (T_api_Func.T.len _ _ _ e_0) (by decide)), ?_⟩
            refine ⟨_, ldAkn (Sub.refl _) (O66.all 1 rfl) 7 8 (le_len (T_api_Func.T.len _ _ _ e_1) (by decide)), ?_⟩
            obtain ⟨y67, g68, e⟩ := bind_e e
            refine (tree_SameExpr.walk (Hold.start (W := No) O66.s) (T_api_Func.u7_40 e_0) (T_api_Func.u7_40 e_1) g68).mono ?_
            rintro _ h69 ⟨m70, Q71, rfl⟩
            have O73 := Hold.nm (O66.retC Q71 vfs_nil)
            refine ⟨_, rfl, ?_⟩
            cases e
            exact ⟨_, O73.pick [], rfl⟩
          · cases e
            exact ⟨_, O66.pick [], rfl⟩
        · cases e
          exact ⟨_, O59.pick [], rfl⟩
      · cases e
        exact ⟨_, O42.pick [], rfl⟩
    · cases e
      exact ⟨_, O25.pick [], rfl⟩
  · have O78 := O7.nm
    cases e
    exact ⟨_, O78.pick [], rfl⟩
def tree_sameTrait.post (W : Nat → Prop) (h0 m0 : Heap) (r : Bool) (v : Value) (h : Heap) : Prop := ∃ m , Hold W h0 m0 h m [] ∧ v = .bool r
noncomputable def tree_sameTrait (y_0 : T_api_Trait) (y_1 : T_api_Trait) : Option (Bool) :=
  if y_0.Name = y_1.Name then (Option.bind (slices_EqualFunc_37 y_0.Funcs y_1.Funcs (fun z25 z26 => tree_sameFunc z25 z26)) fun y19 => some (y19)) else (some (false))
set_option maxRecDepth 100000 in
theorem tree_sameTrait.walk {W : Nat → Prop} {h m : Heap} {cs_0 : List Value} {cs_1 : List Value} {y_0 : T_api_Trait} {y_1 : T_api_Trait} (O : Hold W h m h m []) (e_0 : T_api_Trait.E m y_0 cs_0) (e_1 : T_api_Trait.E m y_1 cs_1) {r : Bool} (e : tree_sameTrait y_0 y_1 = some r) : Run Tryd.prog 34 #[Value.agg cs_0.toArray, Value.agg cs_1.toArray] h (tree_sameTrait.post W h m r) := by
  unfold tree_sameTrait at e
  refine f34.run ?_
  unfold f34.runT
  refine O.new fun h1 x2 O3 => ?_
  refine O3.new fun h5 x6 O7 => ?_
  refine ⟨_, ld0 (Sub.refl _) (O7.all 0 rfl) (T_api_Trait.g0 e_0), _, rfl, ?_⟩
  refine ⟨_, ld0 (Sub.refl _) (O7.all 1 rfl) (T_api_Trait.g0 e_1), _, rfl, ?_⟩
  try rw [ba_list y_0.Name y_1.Name]
  refine split_dec_e e (fun c37 e => ?_) (fun c37 e => ?_)
  · obtain ⟨A9, c10, q11, k12, r13⟩ := T_api_Trait.g1 e_0
    refine ⟨_, ldk (k := 1) (Sub.refl _) (O7.all 0 rfl) q11, _, _, _, rfl, ?_⟩
    obtain ⟨A14, c15, q16, k17, r18⟩ := T_api_Trait.g1 e_1
    refine ⟨_, ldk (k := 1) (Sub.refl _) (O7.all 1 rfl) q16, _, _, _, rfl, ?_⟩
    obtain ⟨y19, g20, e⟩ := bind_e e
    refine (slices_EqualFunc_37.walk (Hold.start (W := No) O7.s) rfl k12 r13 rfl k17 r18 (fun h27 m28 u29 s30 y33 cs33 he33 y34 cs34 he34 r31 e32 => CallF.of [Value.agg cs33.toArray, Value.agg cs34.toArray] f38.ok rfl ((tree_sameFunc.walk (Hold.start (W := No) s30) he33 he34 e32).mono (fun _ _ h => let ⟨_, t, e⟩ := h; ⟨e, t.S.ext⟩))) g20).mono ?_
    rintro _ h21 ⟨m22, Q23, rfl⟩
    have O35 := Hold.nm (O7.retC Q23 vfs_nil)
    refine ⟨_, rfl, ?_⟩
    cases e
    exact ⟨_, O35.pick [], rfl⟩
  · have O36 := O7.nm
    cases e
    exact ⟨_, O36.pick [], rfl⟩
def slices_EqualFunc_35.post (W : Nat → Prop) (h0 m0 : Heap) (r : Bool) (v : Value) (h : Heap) : Prop := ∃ m , Hold W h0 m0 h m [] ∧ v = .bool r
inductive slices_EqualFunc_35.l0_k.Pt where
  | l0 (a_1 : List T_api_Impl) (p_2 : T_api_Impl → T_api_Impl → Option Bool) (a_15 : List T_api_Impl) (x_16 : Int) (x_17 : Int)
noncomputable def slices_EqualFunc_35.l0_k.body (go : (p : slices_EqualFunc_35.l0_k.Pt) → Option (Bool)) : (p : slices_EqualFunc_35.l0_k.Pt) → Option (Bool)
  | .l0 a_1 p_2 a_15 x_16 x_17 => if x_17 < x_16 then (Option.bind (gi a_15 x_17) fun y1 => Option.bind (gi a_1 x_17) fun y14 => Option.bind (p_2 y1 y14) fun y27 => if y27 = true then ((go (.l0 a_1 p_2 a_15 x_16 (IntKind.wrap .i64 (x_17 + (1 : Int)))))) else (some (false))) else (some (true))
theorem slices_EqualFunc_35.l0_k.mono : MonoF (β := fun _ => (Bool)) slices_EqualFunc_35.l0_k.body := fun f g hfg p => match p with
  | .l0 a_1 p_2 a_15 x_16 x_17 => LeO.ite (LeO.bind (LeO.refl _) fun y1 => LeO.bind (LeO.refl _) fun y14 => LeO.bind (LeO.refl _) fun y27 => LeO.ite ((hfg _)) (LeO.refl _)) (LeO.refl _)
noncomputable def slices_EqualFunc_35.l0_k.go (p : slices_EqualFunc_35.l0_k.Pt) : Option (Bool) := fixF (β := fun _ => (Bool)) slices_EqualFunc_35.l0_k.body p
noncomputable def slices_EqualFunc_35.l0 (a_1 : List T_api_Impl) (p_2 : T_api_Impl → T_api_Impl → Option Bool) (a_15 : List T_api_Impl) (x_16 : Int) (x_17 : Int) : Option (Bool) := slices_EqualFunc_35.l0_k.go (.l0 a_1 p_2 a_15 x_16 x_17)
theorem slices_EqualFunc_35.l0_eq (a_1 : List T_api_Impl) (p_2 : T_api_Impl → T_api_Impl → Option Bool) (a_15 : List T_api_Impl) (x_16 : Int) (x_17 : Int) : slices_EqualFunc_35.l0 a_1 p_2 a_15 x_16 x_17 = if x_17 < x_16 then (Option.bind (gi a_15 x_17) fun y1 => Option.bind (gi a_1 x_17) fun y14 => Option.bind (p_2 y1 y14) fun y27 => if y27 = true then ((slices_EqualFunc_35.l0 a_1 p_2 a_15 x_16 (IntKind.wrap .i64 (x_17 + (1 : Int))))) else (some (false))) else (some (true)) := fixF_eq slices_EqualFunc_35.l0_k.mono _
def slices_EqualFunc_35.l0_k.I : (p : slices_EqualFunc_35.l0_k.Pt) → (Bool) → Prop
  | .l0 a_1 p_2 a_15 x_16 x_17, r => ∀ (W : Nat → Prop) (h0 m0 h m : Heap) (A_1 : Option Addr) (n_1 c_1 : Nat) (fv_2 : Value) (A_15 : Option Addr) (n_15 c_15 : Nat) (O : Hold W h0 m0 h m []) (ne_1 : n_1 = List.length a_1) (k_1 : List.length a_1 ≤ c_1) (r_1 : Rd 3 T_api_Impl.E m A_1 a_1) (f_2 : ∀ h' m', Sub m0 m' → Sub m' h' → ∀ (y0 : T_api_Impl) (cs0 : List Value) (_ : T_api_Impl.E m' y0 cs0) (y1 : T_api_Impl) (cs1 : List Value) (_ : T_api_Impl.E m' y1 cs1) (r : Bool), p_2 y0 y1 = some r → CallF Tryd.prog fv_2 [.agg cs0.toArray, .agg cs1.toArray] h' (fun v h'' => v = .bool r ∧ Ext h' h'')) (ne_15 : n_15 = List.length a_15) (k_15 : List.length a_15 ≤ c_15) (r_15 : Rd 3 T_api_Impl.E m A_15 a_15), f35.l0 (slices_EqualFunc_35.post W h0 m0 r) A_1 n_1 c_1 fv_2 A_15 n_15 c_15 x_16 x_17 h
set_option maxRecDepth 100000 in
theorem slices_EqualFunc_35.l0_k.step_l0 (go : (p : slices_EqualFunc_35.l0_k.Pt) → Option (Bool)) (ih : ∀ p r, go p = some r → slices_EqualFunc_35.l0_k.I p r) (a_1 : List T_api_Impl) (p_2 : T_api_Impl → T_api_Impl → Option Bool) (a_15 : List T_api_Impl) (x_16 : Int) (x_17 : Int) (r : Bool) (e : slices_EqualFunc_35.l0_k.body go (.l0 a_1 p_2 a_15 x_16 x_17) = some r) : slices_EqualFunc_35.l0_k.I (.l0 a_1 p_2 a_15 x_16 x_17) r := by
  unfold slices_EqualFunc_35.l0_k.body at e
  intro W h0 m0 h m A_1 n_1 c_1 fv_2 A_15 n_15 c_15 O ne_1 k_1 r_1 f_2 ne_15 k_15 r_15
  subst ne_1
  subst ne_15
  refine f35.l0_in ?_
  unfold f35.l0T
  refine split_dec_e e (fun c35 e => ?_) (fun c35 e => ?_)
  · obtain ⟨y1, g2, e⟩ := bind_e e
    refine r_15.addr rfl g2 fun a3 cs4 ha5 hc6 he7 => ?_
    refine ⟨_, ldAn O.s hc6 rfl, ?_⟩
    refine O.new fun h8 x9 O10 => ?_
    refine ⟨_, rfl, (T_api_Impl.T.len _ _ _ he7), ?_⟩
    refine O10.stA 0 rfl (T_api_Impl.T.len _ _ _ he7) (T_api_Impl.T.flat _ _ _ he7) fun h12 O13 => ?_
    obtain ⟨y14, g15, e⟩ := bind_e e
    refine r_1.addr rfl g15 fun a16 cs17 ha18 hc19 he20 => ?_
    refine ⟨_, ldAn O13.s hc19 rfl, ?_⟩
    refine O13.new fun h21 x22 O23 => ?_
    refine ⟨_, rfl, (T_api_Impl.T.len _ _ _ he20), ?_⟩
    refine O23.stA 1 rfl (T_api_Impl.T.len _ _ _ he20) (T_api_Impl.T.flat _ _ _ he20) fun h25 O26 => ?_
    refine ⟨_, ldAn (Sub.refl _) (O26.all 0 rfl) (T_api_Impl.T.len _ _ _ he7), ?_⟩
    refine ⟨_, ldAn (Sub.refl _) (O26.all 1 rfl) (T_api_Impl.T.len _ _ _ he20), ?_⟩
    obtain ⟨y27, g28, e⟩ := bind_e e
    refine CallF.mono (f_2 _ _ O.up O26.s _ _ he7 _ _ he20 _ g28) ?_
    rintro _ h29 ⟨rfl, x30⟩
    have O31 := O26.ext x30
    refine ⟨_, rfl, ?_⟩
    refine split_not ?_
    refine split_any_e e (fun c34 e => ?_) (fun c34 e => ?_)
    · have O32 := O31.nm
      exact (ih _ _ e) _ _ _ _ _ _ _ _ _ _ _ _ (O32.pick []).nm rfl k_1 r_1 f_2 rfl k_15 r_15
    · have O33 := O31.nm
      cases e
      exact ⟨_, O33.pick [], rfl⟩
  · cases e
    exact ⟨_, O.pick [], rfl⟩
theorem slices_EqualFunc_35.l0_k.all {p : slices_EqualFunc_35.l0_k.Pt} {r : (Bool)} (e : slices_EqualFunc_35.l0_k.go p = some r) : slices_EqualFunc_35.l0_k.I p r := fixF_ind (β := fun _ => (Bool)) slices_EqualFunc_35.l0_k.mono (I := slices_EqualFunc_35.l0_k.I) (fun go ih p r e => match p with
  | .l0 a_1 p_2 a_15 x_16 x_17 => slices_EqualFunc_35.l0_k.step_l0 go ih a_1 p_2 a_15 x_16 x_17 r e
  ) e
theorem slices_EqualFunc_35.l0.walk {W : Nat → Prop} {h0 m0 h m : Heap} {A_1 : Option Addr} {n_1 c_1 : Nat} {fv_2 : Value} {A_15 : Option Addr} {n_15 c_15 : Nat} {a_1 : List T_api_Impl} {p_2 : T_api_Impl → T_api_Impl → Option Bool} {a_15 : List T_api_Impl} {x_16 : Int} {x_17 : Int} (O : Hold W h0 m0 h m []) (ne_1 : n_1 = List.length a_1) (k_1 : List.length a_1 ≤ c_1) (r_1 : Rd 3 T_api_Impl.E m A_1 a_1) (f_2 : ∀ h' m', Sub m0 m' → Sub m' h' → ∀ (y0 : T_api_Impl) (cs0 : List Value) (_ : T_api_Impl.E m' y0 cs0) (y1 : T_api_Impl) (cs1 : List Value) (_ : T_api_Impl.E m' y1 cs1) (r : Bool), p_2 y0 y1 = some r → CallF Tryd.prog fv_2 [.agg cs0.toArray, .agg cs1.toArray] h' (fun v h'' => v = .bool r ∧ Ext h' h'')) (ne_15 : n_15 = List.length a_15) (k_15 : List.length a_15 ≤ c_15) (r_15 : Rd 3 T_api_Impl.E m A_15 a_15) {r : Bool} (e : slices_EqualFunc_35.l0 a_1 p_2 a_15 x_16 x_17 = some r) : f35.l0 (slices_EqualFunc_35.post W h0 m0 r) A_1 n_1 c_1 fv_2 A_15 n_15 c_15 x_16 x_17 h := slices_EqualFunc_35.l0_k.all (p := .l0 a_1 p_2 a_15 x_16 x_17) e W h0 m0 h m A_1 n_1 c_1 fv_2 A_15 n_15 c_15 O ne_1 k_1 r_1 f_2 ne_15 k_15 r_15
noncomputable def slices_EqualFunc_35 (a_0 : List T_api_Impl) (a_1 : List T_api_Impl) (p_2 : T_api_Impl → T_api_Impl → Option Bool) : Option (Bool) :=
  if (((List.length a_0) : Nat) : Int) = (((List.length a_1) : Nat) : Int) then ((slices_EqualFunc_35.l0 a_1 p_2 a_0 (((List.length a_0) : Nat) : Int) (0 : Int))) else (some (false))
set_option maxRecDepth 100000 in
theorem slices_EqualFunc_35.walk {W : Nat → Prop} {h m : Heap} {A_0 : Option Addr} {n_0 c_0 : Nat} {A_1 : Option Addr} {n_1 c_1 : Nat} {fv_2 : Value} {a_0 : List T_api_Impl} {a_1 : List T_api_Impl} {p_2 : T_api_Impl → T_api_Impl → Option Bool} (O : Hold W h m h m []) (ne_0 : n_0 = List.length a_0) (k_0 : List.length a_0 ≤ c_0) (r_0 : Rd 3 T_api_Impl.E m A_0 a_0) (ne_1 : n_1 = List.length a_1) (k_1 : List.length a_1 ≤ c_1) (r_1 : Rd 3 T_api_Impl.E m A_1 a_1) (f_2 : ∀ h' m', Sub m m' → Sub m' h' → ∀ (y0 : T_api_Impl) (cs0 : List Value) (_ : T_api_Impl.E m' y0 cs0) (y1 : T_api_Impl) (cs1 : List Value) (_ : T_api_Impl.E m' y1 cs1) (r : Bool), p_2 y0 y1 = some r → CallF Tryd.prog fv_2 [.agg cs0.toArray, .agg cs1.toArray] h' (fun v h'' => v = .bool r ∧ Ext h' h'')) {r : Bool} (e : slices_EqualFunc_35 a_0 a_1 p_2 = some r) : Run Tryd.prog 35 #[Value.slice A_0 n_0 c_0, Value.slice A_1 n_1 c_1, fv_2] h (slices_EqualFunc_35.post W h m r) := by
  unfold slices_EqualFunc_35 at e
  subst ne_0
  subst ne_1
  refine f35.run ?_
  unfold f35.runT
  refine split_ne_e e (fun c1 e => ?_) (fun c1 e => ?_)
  · cases e
    exact ⟨_, O.pick [], rfl⟩
  · exact slices_EqualFunc_35.l0.walk (O.pick []).nm rfl k_1 r_1 f_2 rfl k_0 r_0 e
def tree_sameImpl.post (W : Nat → Prop) (h0 m0 : Heap) (r : Bool) (v : Value) (h : Heap) : Prop := ∃ m , Hold W h0 m0 h m [] ∧ v = .bool r
noncomputable def tree_sameImpl (y_0 : T_api_Impl) (y_1 : T_api_Impl) : Option (Bool) :=
  if y_0.Trait = y_1.Trait then (if y_0.For = y_1.For then (Option.bind (slices_EqualFunc_37 y_0.Funcs y_1.Funcs (fun z25 z26 => tree_sameFunc z25 z26)) fun y19 => some (y19)) else (some (false))) else (some (false))
set_option maxRecDepth 100000 in
theorem tree_sameImpl.walk {W : Nat → Prop} {h m : Heap} {cs_0 : List Value} {cs_1 : List Value} {y_0 : T_api_Impl} {y_1 : T_api_Impl} (O : Hold W h m h m []) (e_0 : T_api_Impl.E m y_0 cs_0) (e_1 : T_api_Impl.E m y_1 cs_1) {r : Bool} (e : tree_sameImpl y_0 y_1 = some r) : Run Tryd.prog 36 #[Value.agg cs_0.toArray, Value.agg cs_1.toArray] h (tree_sameImpl.post W h m r) := by
  unfold tree_sameImpl at e
  refine f36.run ?_
  unfold f36.runT
  refine O.new fun h1 x2 O3 => ?_
  refine O3.new fun h5 x6 O7 => ?_
  refine ⟨_, ld0 (Sub.refl _) (O7.all 0 rfl) (T_api_Impl.g0 e_0), _, rfl, ?_⟩
  refine ⟨_, ld0 (Sub.refl _) (O7.all 1 rfl) (T_api_Impl.g0 e_1), _, rfl, ?_⟩
  try rw [ba_list y_0.Trait y_1.Trait]
  refine split_dec_e e (fun c39 e => ?_) (fun c39 e => ?_)
  · refine ⟨_, ldk (k := 1) (Sub.refl _) (O7.all 0 rfl) (T_api_Impl.g1 e_0), _, rfl, ?_⟩
    refine ⟨_, ldk (k := 1) (Sub.refl _) (O7.all 1 rfl) (T_api_Impl.g1 e_1), _, rfl, ?_⟩
    try rw [ba_list y_0.For y_1.For]
    refine split_dec_e e (fun c37 e => ?_) (fun c37 e => ?_)
    · obtain ⟨A9, c10, q11, k12, r13⟩ := T_api_Impl.g2 e_0
      refine ⟨_, ldk (k := 2) (Sub.refl _) (O7.all 0 rfl) q11, _, _, _, rfl, ?_⟩
      obtain ⟨A14, c15, q16, k17, r18⟩ := T_api_Impl.g2 e_1
      refine ⟨_, ldk (k := 2) (Sub.refl _) (O7.all 1 rfl) q16, _, _, _, rfl, ?_⟩
      obtain ⟨y19, g20, e⟩ := bind_e e
      refine (slices_EqualFunc_37.walk (Hold.start (W := No) O7.s) rfl k12 r13 rfl k17 r18 (fun h27 m28 u29 s30 y33 cs33 he33 y34 cs34 he34 r31 e32 => CallF.of [Value.agg cs33.toArray, Value.agg cs34.toArray] f38.ok rfl ((tree_sameFunc.walk (Hold.start (W := No) s30) he33 he34 e32).mono (fun _ _ h => let ⟨_, t, e⟩ := h; ⟨e, t.S.ext⟩))) g20).mono ?_
      rintro _ h21 ⟨m22, Q23, rfl⟩
      have O35 := Hold.nm (O7.retC Q23 vfs_nil)
      refine ⟨_, rfl, ?_⟩
      cases e
      exact ⟨_, O35.pick [], rfl⟩
    · have O36 := O7.nm
      cases e
      exact ⟨_, O36.pick [], rfl⟩
  · have O38 := O7.nm
    cases e
    exact ⟨_, O38.pick [], rfl⟩
def slices_EqualFunc_39.post (W : Nat → Prop) (h0 m0 : Heap) (r : Bool) (v : Value) (h : Heap) : Prop := ∃ m , Hold W h0 m0 h m [] ∧ v = .bool r
inductive slices_EqualFunc_39.l0_k.Pt where
  | l0 (a_1 : List T_api_Actor) (p_2 : T_api_Actor → T_api_Actor → Option Bool) (a_15 : List T_api_Actor) (x_16 : Int) (x_17 : Int)
noncomputable def slices_EqualFunc_39.l0_k.body (go : (p : slices_EqualFunc_39.l0_k.Pt) → Option (Bool)) : (p : slices_EqualFunc_39.l0_k.Pt) → Option (Bool)
  | .l0 a_1 p_2 a_15 x_16 x_17 => if x_17 < x_16 then (Option.bind (gi a_15 x_17) fun y1 => Option.bind (gi a_1 x_17) fun y14 => Option.bind (p_2 y1 y14) fun y27 => if y27 = true then ((go (.l0 a_1 p_2 a_15 x_16 (IntKind.wrap .i64 (x_17 + (1 : Int)))))) else (some (false))) else (some (true))
theorem slices_EqualFunc_39.l0_k.mono : MonoF (β := fun _ => (Bool)) slices_EqualFunc_39.l0_k.body := fun f g hfg p => match p with
  | .l0 a_1 p_2 a_15 x_16 x_17 => LeO.ite (LeO.bind (LeO.refl _) fun y1 => LeO.bind (LeO.refl _) fun y14 => LeO.bind (LeO.refl _) fun y27 => LeO.ite ((hfg _)) (LeO.refl _)) (LeO.refl _)
noncomputable def slices_EqualFunc_39.l0_k.go (p : slices_EqualFunc_39.l0_k.Pt) : Option (Bool) := fixF (β := fun _ => (Bool)) slices_EqualFunc_39.l0_k.body p
noncomputable def slices_EqualFunc_39.l0 (a_1 : List T_api_Actor) (p_2 : T_api_Actor → T_api_Actor → Option Bool) (a_15 : List T_api_Actor) (x_16 : Int) (x_17 : Int) : Option (Bool) := slices_EqualFunc_39.l0_k.go (.l0 a_1 p_2 a_15 x_16 x_17)
theorem slices_EqualFunc_39.l0_eq (a_1 : List T_api_Actor) (p_2 : T_api_Actor → T_api_Actor → Option Bool) (a_15 : List T_api_Actor) (x_16 : Int) (x_17 : Int) : slices_EqualFunc_39.l0 a_1 p_2 a_15 x_16 x_17 = if x_17 < x_16 then (Option.bind (gi a_15 x_17) fun y1 => Option.bind (gi a_1 x_17) fun y14 => Option.bind (p_2 y1 y14) fun y27 => if y27 = true then ((slices_EqualFunc_39.l0 a_1 p_2 a_15 x_16 (IntKind.wrap .i64 (x_17 + (1 : Int))))) else (some (false))) else (some (true)) := fixF_eq slices_EqualFunc_39.l0_k.mono _
def slices_EqualFunc_39.l0_k.I : (p : slices_EqualFunc_39.l0_k.Pt) → (Bool) → Prop
  | .l0 a_1 p_2 a_15 x_16 x_17, r => ∀ (W : Nat → Prop) (h0 m0 h m : Heap) (A_1 : Option Addr) (n_1 c_1 : Nat) (fv_2 : Value) (A_15 : Option Addr) (n_15 c_15 : Nat) (O : Hold W h0 m0 h m []) (ne_1 : n_1 = List.length a_1) (k_1 : List.length a_1 ≤ c_1) (r_1 : Rd 14 T_api_Actor.E m A_1 a_1) (f_2 : ∀ h' m', Sub m0 m' → Sub m' h' → ∀ (y0 : T_api_Actor) (cs0 : List Value) (_ : T_api_Actor.E m' y0 cs0) (y1 : T_api_Actor) (cs1 : List Value) (_ : T_api_Actor.E m' y1 cs1) (r : Bool), p_2 y0 y1 = some r → CallF Tryd.prog fv_2 [.agg cs0.toArray, .agg cs1.toArray] h' (fun v h'' => v = .bool r ∧ Ext h' h'')) (ne_15 : n_15 = List.length a_15) (k_15 : List.length a_15 ≤ c_15) (r_15 : Rd 14 T_api_Actor.E m A_15 a_15), f39.l0 (slices_EqualFunc_39.post W h0 m0 r) A_1 n_1 c_1 fv_2 A_15 n_15 c_15 x_16 x_17 h
set_option maxRecDepth 100000 in
theorem slices_EqualFunc_39.l0_k.step_l0 (go : (p : slices_EqualFunc_39.l0_k.Pt) → Option (Bool)) (ih : ∀ p r, go p = some r → slices_EqualFunc_39.l0_k.I p r) (a_1 : List T_api_Actor) (p_2 : T_api_Actor → T_api_Actor → Option Bool) (a_15 : List T_api_Actor) (x_16 : Int) (x_17 : Int) (r : Bool) (e : slices_EqualFunc_39.l0_k.body go (.l0 a_1 p_2 a_15 x_16 x_17) = some r) : slices_EqualFunc_39.l0_k.I (.l0 a_1 p_2 a_15 x_16 x_17) r := by
  unfold slices_EqualFunc_39.l0_k.body at e
  intro W h0 m0 h m A_1 n_1 c_1 fv_2 A_15 n_15 c_15 O ne_1 k_1 r_1 f_2 ne_15 k_15 r_15
  subst ne_1
  subst ne_15
  refine f39.l0_in ?_
  unfold f39.l0T
  refine split_dec_e e (fun c35 e => ?_) (fun c35 e => ?_)
  · obtain ⟨y1, g2, e⟩ := bind_e e
    refine r_15.addr rfl g2 fun a3 cs4 ha5 hc6 he7 => ?_
    refine ⟨_, ldAn O.s hc6 rfl, ?_⟩
    refine O.new fun h8 x9 O10 => ?_
    refine ⟨_, rfl, (T_api_Actor.T.len _ _ _ he7), ?_⟩
    refine O10.stA 0 rfl (T_api_Actor.T.len _ _ _ he7) (T_api_Actor.T.flat _ _ _ he7) fun h12 O13 => ?_
    obtain ⟨y14, g15, e⟩ := bind_e e
    refine r_1.addr rfl g15 fun a16 cs17 ha18 hc19 he20 => ?_
    refine ⟨_, ldAn O13.s hc19 rfl, ?_⟩
    refine O13.new fun h21 x22 O23 => ?_
    refine ⟨_, rfl, (T_api_Actor.T.len _ _ _ he20), ?_⟩
    refine O23.stA 1 rfl (T_api_Actor.T.len _ _ _ he20) (T_api_Actor.T.flat _ _ _ he20) fun h25 O26 => ?_
    refine ⟨_, ldAn (Sub.refl _) (O26.all 0 rfl) (T_api_Actor.T.len _ _ _ he7), ?_⟩
    refine ⟨_, ldAn (Sub.refl _) (O26.all 1 rfl) (T_api_Actor.T.len _ _ _ he20), ?_⟩
    obtain ⟨y27, g28, e⟩ := bind_e e
    refine CallF.mono (f_2 _ _ O.up O26.s _ _ he7 _ _ he20 _ g28) ?_
    rintro _ h29 ⟨rfl, x30⟩
    have O31 := O26.ext x30
    refine ⟨_, rfl, ?_⟩
    refine split_not ?_
    refine split_any_e e (fun c34 e => ?_) (fun c34 e => ?_)
    · have O32 := O31.nm
      exact (ih _ _ e) _ _ _ _ _ _ _ _ _ _ _ _ (O32.pick []).nm rfl k_1 r_1 f_2 rfl k_15 r_15
    · have O33 := O31.nm
      cases e
      exact ⟨_, O33.pick [], rfl⟩
  · cases e
    exact ⟨_, O.pick [], rfl⟩
theorem slices_EqualFunc_39.l0_k.all {p : slices_EqualFunc_39.l0_k.Pt} {r : (Bool)} (e : slices_EqualFunc_39.l0_k.go p = some r) : slices_EqualFunc_39.l0_k.I p r := fixF_ind (β := fun _ => (Bool)) slices_EqualFunc_39.l0_k.mono (I := slices_EqualFunc_39.l0_k.I) (fun go ih p r e => match p with
  | .l0 a_1 p_2 a_15 x_16 x_17 => slices_EqualFunc_39.l0_k.step_l0 go ih a_1 p_2 a_15 x_16 x_17 r e
  ) e
theorem slices_EqualFunc_39.l0.walk {W : Nat → Prop} {h0 m0 h m : Heap} {A_1 : Option Addr} {n_1 c_1 : Nat} {fv_2 : Value} {A_15 : Option Addr} {n_15 c_15 : Nat} {a_1 : List T_api_Actor} {p_2 : T_api_Actor → T_api_Actor → Option Bool} {a_15 : List T_api_Actor} {x_16 : Int} {x_17 : Int} (O : Hold W h0 m0 h m []) (ne_1 : n_1 = List.length a_1) (k_1 : List.length a_1 ≤ c_1) (r_1 : Rd 14 T_api_Actor.E m A_1 a_1) (f_2 : ∀ h' m', Sub m0 m' → Sub m' h' → ∀ (y0 : T_api_Actor) (cs0 : List Value) (_ : T_api_Actor.E m' y0 cs0) (y1 : T_api_Actor) (cs1 : List Value) (_ : T_api_Actor.E m' y1 cs1) (r : Bool), p_2 y0 y1 = some r → CallF Tryd.prog fv_2 [.agg cs0.toArray, .agg cs1.toArray] h' (fun v h'' => v = .bool r ∧ Ext h' h'')) (ne_15 : n_15 = List.length a_15) (k_15 : List.length a_15 ≤ c_15) (r_15 : Rd 14 T_api_Actor.E m A_15 a_15) {r : Bool} (e : slices_EqualFunc_39.l0 a_1 p_2 a_15 x_16 x_17 = some r) : f39.l0 (slices_EqualFunc_39.post W h0 m0 r) A_1 n_1 c_1 fv_2 A_15 n_15 c_15 x_16 x_17 h := slices_EqualFunc_39.l0_k.all (p := .l0 a_1 p_2 a_15 x_16 x_17) e W h0 m0 h m A_1 n_1 c_1 fv_2 A_15 n_15 c_15 O ne_1 k_1 r_1 f_2 ne_15 k_15 r_15
noncomputable def slices_EqualFunc_39 (a_0 : List T_api_Actor) (a_1 : List T_api_Actor) (p_2 : T_api_Actor → T_api_Actor → Option Bool) : Option (Bool) :=
  if (((List.length a_0) : Nat) : Int) = (((List.length a_1) : Nat) : Int) then ((slices_EqualFunc_39.l0 a_1 p_2 a_0 (((List.length a_0) : Nat) : Int) (0 : Int))) else (some (false))
set_option maxRecDepth 100000 in
theorem slices_EqualFunc_39.walk {W : Nat → Prop} {h m : Heap} {A_0 : Option Addr} {n_0 c_0 : Nat} {A_1 : Option Addr} {n_1 c_1 : Nat} {fv_2 : Value} {a_0 : List T_api_Actor} {a_1 : List T_api_Actor} {p_2 : T_api_Actor → T_api_Actor → Option Bool} (O : Hold W h m h m []) (ne_0 : n_0 = List.length a_0) (k_0 : List.length a_0 ≤ c_0) (r_0 : Rd 14 T_api_Actor.E m A_0 a_0) (ne_1 : n_1 = List.length a_1) (k_1 : List.length a_1 ≤ c_1) (r_1 : Rd 14 T_api_Actor.E m A_1 a_1) (f_2 : ∀ h' m', Sub m m' → Sub m' h' → ∀ (y0 : T_api_Actor) (cs0 : List Value) (_ : T_api_Actor.E m' y0 cs0) (y1 : T_api_Actor) (cs1 : List Value) (_ : T_api_Actor.E m' y1 cs1) (r : Bool), p_2 y0 y1 = some r → CallF Tryd.prog fv_2 [.agg cs0.toArray, .agg cs1.toArray] h' (fun v h'' => v = .bool r ∧ Ext h' h'')) {r : Bool} (e : slices_EqualFunc_39 a_0 a_1 p_2 = some r) : Run Tryd.prog 39 #[Value.slice A_0 n_0 c_0, Value.slice A_1 n_1 c_1, fv_2] h (slices_EqualFunc_39.post W h m r) := by
  unfold slices_EqualFunc_39 at e
  subst ne_0
  subst ne_1
  refine f39.run ?_
  unfold f39.runT
  refine split_ne_e e (fun c1 e => ?_) (fun c1 e => ?_)
  · cases e
    exact ⟨_, O.pick [], rfl⟩
  · exact slices_EqualFunc_39.l0.walk (O.pick []).nm rfl k_1 r_1 f_2 rfl k_0 r_0 e
def tree_sameActor.post (W : Nat → Prop) (h0 m0 : Heap) (r : Bool) (v : Value) (h : Heap) : Prop := ∃ m , Hold W h0 m0 h m [] ∧ v = .bool r
noncomputable def tree_sameActor (y_0 : T_api_Actor) (y_1 : T_api_Actor) : Option (Bool) :=
  if y_0.Name = y_1.Name then (Option.bind (slices_Equal_20 y_0.Names y_1.Names) fun y19 => if y19 = true then (Option.bind (slices_EqualFunc_48_s1 y_0.Types y_1.Types) fun y36 => if y36 = true then (Option.bind (tree_SameType y_0.Msg y_1.Msg) fun y43 => if y43 = true then (Option.bind (tree_SameExpr y_0.Body y_1.Body) fun y50 => some (y50)) else (some (false))) else (some (false))) else (some (false))) else (some (false))
set_option maxHeartbeats 4000000 in
set_option maxRecDepth 100000 in
theorem tree_sameActor.walk {W : Nat → Prop} {h m : Heap} {cs_0 : List Value} {cs_1 : List Value} {y_0 : T_api_Actor} {y_1 : T_api_Actor} (O : Hold W h m h m []) (e_0 : T_api_Actor.E m y_0 cs_0) (e_1 : T_api_Actor.E m y_1 cs_1) {r : Bool} (e : tree_sameActor y_0 y_1 = some r) : Run Tryd.prog 40 #[Value.agg cs_0.toArray, Value.agg cs_1.toArray] h (tree_sameActor.post W h m r) := by
  unfold tree_sameActor at e
  refine f40.run ?_
  unfold f40.runT
  refine O.new fun h1 x2 O3 => ?_
  refine O3.new fun h5 x6 O7 => ?_
  refine ⟨_, ld0 (Sub.refl _) (O7.all 0 rfl) (T_api_Actor.g0 e_0), _, rfl, ?_⟩
  refine ⟨_, ld0 (Sub.refl _) (O7.all 1 rfl) (T_api_Actor.g0 e_1), _, rfl, ?_⟩
  try rw [ba_list y_0.Name y_1.Name]
  refine split_dec_e e (fun c61 e => ?_) (fun c61 e => ?_)
  · obtain ⟨A9, c10, q11, k12, r13⟩ := T_api_Actor.g1 e_0
    refine ⟨_, ldk (k := 1) (Sub.refl _) (O7.all 0 rfl) q11, _, _, _, rfl, ?_⟩
    obtain ⟨A14, c15, q16, k17, r18⟩ := T_api_Actor.g1 e_1
    refine ⟨_, ldk (k := 1) (Sub.refl _) (O7.all 1 rfl) q16, _, _, _, rfl, ?_⟩
    obtain ⟨y19, g20, e⟩ := bind_e e
    refine (slices_Equal_20.walk (Hold.start (W := No) O7.s) rfl k12 r13 rfl k17 r18 g20).mono ?_
    rintro _ h21 ⟨m22, Q23, rfl⟩
    have O25 := Hold.nm (O7.retC Q23 vfs_nil)
    refine ⟨_, rfl, ?_⟩
    refine split_any_e e (fun c59 e => ?_) (fun c59 e => ?_)
    · obtain ⟨A26, c27, q28, k29, r30⟩ := T_api_Actor.g2 e_0
      refine ⟨_, ldk (k := 2) (Sub.refl _) (O25.all 0 rfl) q28, _, _, _, rfl, ?_⟩
      obtain ⟨A31, c32, q33, k34, r35⟩ := T_api_Actor.g2 e_1
      refine ⟨_, ldk (k := 2) (Sub.refl _) (O25.all 1 rfl) q33, _, _, _, rfl, ?_⟩
      obtain ⟨y36, g37, e⟩ := bind_e e
      refine (slices_EqualFunc_48_s1.walk (Hold.start (W := No) O25.s) rfl k29 r30 rfl k34 r35 g37).mono ?_
      rintro _ h38 ⟨m39, Q40, rfl⟩
      have O42 := Hold.nm (O25.retC Q40 vfs_nil)
      refine ⟨_, rfl, ?_⟩
      refine split_any_e e (fun c58 e => ?_) (fun c58 e => ?_)
      · refine ⟨_, ldAkn (Sub.refl _) (O42.all 0 rfl) 3 3 (le_len (T_api_Actor.T.len _ _ _ e_0) (by decide)), ?_⟩
        refine ⟨_, ldAkn (Sub.refl _) (O42.all 1 rfl) 3 3 (le_len (T_api_Actor.T.len _ _ _ e_1) (by decide)), ?_⟩
        obtain ⟨y43, g44, e⟩ := bind_e e
        refine (tree_SameType.walk (Hold.start (W := No) O42.s) (T_api_Actor.u3_59 e_0) (T_api_Actor.u3_59 e_1) g44).mono ?_
        rintro _ h45 ⟨m46, Q47, rfl⟩
        have O49 := Hold.nm (O42.retC Q47 vfs_nil)
        refine ⟨_, rfl, ?_⟩
        refine split_any_e e (fun c57 e => ?_) (fun c57 e => ?_)
        · refine ⟨_, ldAkn (Sub.refl _) (O49.all 0 rfl) 6 8 (le_len (T_api_Actor.T.len _ _ _ e_0) (by decide)), ?_⟩
          refine ⟨_, ldAkn (Sub.refl _) (O49.all 1 rfl) 6 8 (le_len (T_api_Actor.T.len _ _ _ e_1) (by decide)), ?_⟩
          obtain ⟨y50, g51, e⟩ := bind_e e
          refine (tree_SameExpr.walk (Hold.start (W := No) O49.s) (T_api_Actor.u6_40 e_0) (T_api_Actor.u6_40 e_1) g51).mono ?_
          rintro _ h52 ⟨m53, Q54, rfl⟩
          have O56 := Hold.nm (O49.retC Q54 vfs_nil)
          refine ⟨_, rfl, ?_⟩
          cases e
          exact ⟨_, O56.pick [], rfl⟩
        · cases e
          exact ⟨_, O49.pick [], rfl⟩
      · cases e
        exact ⟨_, O42.pick [], rfl⟩
    · cases e
      exact ⟨_, O25.pick [], rfl⟩
  · have O60 := O7.nm
    cases e
    exact ⟨_, O60.pick [], rfl⟩
def tree_Same.post (W : Nat → Prop) (h0 m0 : Heap) (r : Bool) (v : Value) (h : Heap) : Prop := ∃ m , Hold W h0 m0 h m [] ∧ v = .bool r
noncomputable def tree_Same (y_0 : T_api_Program) (y_1 : T_api_Program) : Option (Bool) :=
  if y_0.Name = y_1.Name then (if y_0.Version = y_1.Version then (Option.bind (slices_Equal_30 y_0.Uses y_1.Uses) fun y19 => if y19 = true then (Option.bind (slices_EqualFunc_31 y_0.Datas y_1.Datas (fun z42 z43 => tree_sameData z42 z43)) fun y36 => if y36 = true then (Option.bind (slices_EqualFunc_33 y_0.Traits y_1.Traits (fun z69 z70 => tree_sameTrait z69 z70)) fun y63 => if y63 = true then (Option.bind (slices_EqualFunc_35 y_0.Impls y_1.Impls (fun z96 z97 => tree_sameImpl z96 z97)) fun y90 => if y90 = true then (Option.bind (slices_EqualFunc_37 y_0.Funcs y_1.Funcs (fun z123 z124 => tree_sameFunc z123 z124)) fun y117 => if y117 = true then (Option.bind (slices_EqualFunc_39 y_0.Actors y_1.Actors (fun z150 z151 => tree_sameActor z150 z151)) fun y144 => some (y144)) else (some (false))) else (some (false))) else (some (false))) else (some (false))) else (some (false))) else (some (false))) else (some (false))
set_option maxHeartbeats 4000000 in
set_option maxRecDepth 100000 in
theorem tree_Same.walk {W : Nat → Prop} {h m : Heap} {cs_0 : List Value} {cs_1 : List Value} {y_0 : T_api_Program} {y_1 : T_api_Program} (O : Hold W h m h m []) (e_0 : T_api_Program.E m y_0 cs_0) (e_1 : T_api_Program.E m y_1 cs_1) {r : Bool} (e : tree_Same y_0 y_1 = some r) : Run Tryd.prog 8 #[Value.agg cs_0.toArray, Value.agg cs_1.toArray] h (tree_Same.post W h m r) := by
  unfold tree_Same at e
  refine f8.run ?_
  unfold f8.runT
  refine O.new fun h1 x2 O3 => ?_
  refine O3.new fun h5 x6 O7 => ?_
  refine ⟨_, ld0 (Sub.refl _) (O7.all 0 rfl) (T_api_Program.g0 e_0), _, rfl, ?_⟩
  refine ⟨_, ld0 (Sub.refl _) (O7.all 1 rfl) (T_api_Program.g0 e_1), _, rfl, ?_⟩
  try rw [ba_list y_0.Name y_1.Name]
  refine split_dec_e e (fun c169 e => ?_) (fun c169 e => ?_)
  · refine ⟨_, ldk (k := 1) (Sub.refl _) (O7.all 0 rfl) (T_api_Program.g1 e_0), _, rfl, ?_⟩
    refine ⟨_, ldk (k := 1) (Sub.refl _) (O7.all 1 rfl) (T_api_Program.g1 e_1), _, rfl, ?_⟩
    refine split_eq_e e (fun c167 e => ?_) (fun c167 e => ?_)
    · obtain ⟨A9, c10, q11, k12, r13⟩ := T_api_Program.g2 e_0
      refine ⟨_, ldk (k := 2) (Sub.refl _) (O7.all 0 rfl) q11, _, _, _, rfl, ?_⟩
      obtain ⟨A14, c15, q16, k17, r18⟩ := T_api_Program.g2 e_1
      refine ⟨_, ldk (k := 2) (Sub.refl _) (O7.all 1 rfl) q16, _, _, _, rfl, ?_⟩
      obtain ⟨y19, g20, e⟩ := bind_e e
      refine (slices_Equal_30.walk (Hold.start (W := No) O7.s) rfl k12 r13 rfl k17 r18 g20).mono ?_
      rintro _ h21 ⟨m22, Q23, rfl⟩
      have O25 := Hold.nm (O7.retC Q23 vfs_nil)
      refine ⟨_, rfl, ?_⟩
      refine split_any_e e (fun c165 e => ?_) (fun c165 e => ?_)
      · obtain ⟨A26, c27, q28, k29, r30⟩ := T_api_Program.g3 e_0
        refine ⟨_, ldk (k := 3) (Sub.refl _) (O25.all 0 rfl) q28, _, _, _, rfl, ?_⟩
        obtain ⟨A31, c32, q33, k34, r35⟩ := T_api_Program.g3 e_1
        refine ⟨_, ldk (k := 3) (Sub.refl _) (O25.all 1 rfl) q33, _, _, _, rfl, ?_⟩
        obtain ⟨y36, g37, e⟩ := bind_e e
        refine (slices_EqualFunc_31.walk (Hold.start (W := No) O25.s) rfl k29 r30 rfl k34 r35 (fun h44 m45 u46 s47 y50 cs50 he50 y51 cs51 he51 r48 e49 => CallF.of [Value.agg cs50.toArray, Value.agg cs51.toArray] f32.ok rfl ((tree_sameData.walk (Hold.start (W := No) s47) he50 he51 e49).mono (fun _ _ h => let ⟨_, t, e⟩ := h; ⟨e, t.S.ext⟩))) g37).mono ?_
        rintro _ h38 ⟨m39, Q40, rfl⟩
        have O52 := Hold.nm (O25.retC Q40 vfs_nil)
        refine ⟨_, rfl, ?_⟩
        refine split_any_e e (fun c164 e => ?_) (fun c164 e => ?_)
        · obtain ⟨A53, c54, q55, k56, r57⟩ := T_api_Program.g4 e_0
          refine ⟨_, ldk (k := 4) (Sub.refl _) (O52.all 0 rfl) q55, _, _, _, rfl, ?_⟩
          obtain ⟨A58, c59, q60, k61, r62⟩ := T_api_Program.g4 e_1
          refine ⟨_, ldk (k := 4) (Sub.refl _) (O52.all 1 rfl) q60, _, _, _, rfl, ?_⟩
          obtain ⟨y63, g64, e⟩ := bind_e e
          refine (slices_EqualFunc_33.walk (Hold.start (W := No) O52.s) rfl k56 r57 rfl k61 r62 (fun h71 m72 u73 s74 y77 cs77 he77 y78 cs78 he78 r75 e76 => CallF.of [Value.agg cs77.toArray, Value.agg cs78.toArray] f34.ok rfl ((tree_sameTrait.walk (Hold.start (W := No) s74) he77 he78 e76).mono (fun _ _ h => let ⟨_, t, e⟩ := h; ⟨e, t.S.ext⟩))) g64).mono ?_
          rintro _ h65 ⟨m66, Q67, rfl⟩
          have O79 := Hold.nm (O52.retC Q67 vfs_nil)
          refine ⟨_, rfl, ?_⟩
          refine split_any_e e (fun c163 e => ?_) (fun c163 e => ?_)
          · obtain ⟨A80, c81, q82, k83, r84⟩ := T_api_Program.g5 e_0
            refine ⟨_, ldk (k := 5) (Sub.refl _) (O79.all 0 rfl) q82, _, _, _, rfl, ?_⟩
            obtain ⟨A85, c86, q87, k88, r89⟩ := T_api_Program.g5 e_1
            refine ⟨_, ldk (k := 5) (Sub.refl _) (O79.all 1 rfl) q87, _, _, _, rfl, ?_⟩
            obtain ⟨y90, g91, e⟩ := bind_e e
            refine (slices_EqualFunc_35.walk (Hold.start (W := No) O79.s) rfl k83 r84 rfl k88 r89 (fun h98 m99 u100 s101 y104 cs104 he104 y105 cs105 he105 r102 e103 => CallF.of [Value.agg cs104.toArray, Value.agg cs105.toArray] f36.ok rfl ((tree_sameImpl.walk (Hold.start (W := No) s101) he104 he105 e103).mono (fun _ _ h => let ⟨_, t, e⟩ := h; ⟨e, t.S.ext⟩))) g91).mono ?_
            rintro _ h92 ⟨m93, Q94, rfl⟩
            have O106 := Hold.nm (O79.retC Q94 vfs_nil)
            refine ⟨_, rfl, ?_⟩
            refine split_any_e e (fun c162 e => ?_) (fun c162 e => ?_)
            · obtain ⟨A107, c108, q109, k110, r111⟩ := T_api_Program.g6 e_0
              refine ⟨_, ldk (k := 6) (Sub.refl _) (O106.all 0 rfl) q109, _, _, _, rfl, ?_⟩
              obtain ⟨A112, c113, q114, k115, r116⟩ := T_api_Program.g6 e_1
              refine ⟨_, ldk (k := 6) (Sub.refl _) (O106.all 1 rfl) q114, _, _, _, rfl, ?_⟩
              obtain ⟨y117, g118, e⟩ := bind_e e
              refine (slices_EqualFunc_37.walk (Hold.start (W := No) O106.s) rfl k110 r111 rfl k115 r116 (fun h125 m126 u127 s128 y131 cs131 he131 y132 cs132 he132 r129 e130 => CallF.of [Value.agg cs131.toArray, Value.agg cs132.toArray] f38.ok rfl ((tree_sameFunc.walk (Hold.start (W := No) s128) he131 he132 e130).mono (fun _ _ h => let ⟨_, t, e⟩ := h; ⟨e, t.S.ext⟩))) g118).mono ?_
              rintro _ h119 ⟨m120, Q121, rfl⟩
              have O133 := Hold.nm (O106.retC Q121 vfs_nil)
              refine ⟨_, rfl, ?_⟩
              refine split_any_e e (fun c161 e => ?_) (fun c161 e => ?_)
              · obtain ⟨A134, c135, q136, k137, r138⟩ := T_api_Program.g7 e_0
                refine ⟨_, ldk (k := 7) (Sub.refl _) (O133.all 0 rfl) q136, _, _, _, rfl, ?_⟩
                obtain ⟨A139, c140, q141, k142, r143⟩ := T_api_Program.g7 e_1
                refine ⟨_, ldk (k := 7) (Sub.refl _) (O133.all 1 rfl) q141, _, _, _, rfl, ?_⟩
                obtain ⟨y144, g145, e⟩ := bind_e e
                refine (slices_EqualFunc_39.walk (Hold.start (W := No) O133.s) rfl k137 r138 rfl k142 r143 (fun h152 m153 u154 s155 y158 cs158 he158 y159 cs159 he159 r156 e157 => CallF.of [Value.agg cs158.toArray, Value.agg cs159.toArray] f40.ok rfl ((tree_sameActor.walk (Hold.start (W := No) s155) he158 he159 e157).mono (fun _ _ h => let ⟨_, t, e⟩ := h; ⟨e, t.S.ext⟩))) g145).mono ?_
                rintro _ h146 ⟨m147, Q148, rfl⟩
                have O160 := Hold.nm (O133.retC Q148 vfs_nil)
                refine ⟨_, rfl, ?_⟩
                cases e
                exact ⟨_, O160.pick [], rfl⟩
              · cases e
                exact ⟨_, O133.pick [], rfl⟩
            · cases e
              exact ⟨_, O106.pick [], rfl⟩
          · cases e
            exact ⟨_, O79.pick [], rfl⟩
        · cases e
          exact ⟨_, O52.pick [], rfl⟩
      · cases e
        exact ⟨_, O25.pick [], rfl⟩
    · have O166 := O7.nm
      cases e
      exact ⟨_, O166.pick [], rfl⟩
  · have O168 := O7.nm
    cases e
    exact ⟨_, O168.pick [], rfl⟩
def strconv_Itoa.post (W : Nat → Prop) (h0 m0 : Heap) (r : ByteArray) (v : Value) (h : Heap) : Prop := ∃ m , Hold W h0 m0 h m [] ∧ v = .string r
noncomputable def strconv_Itoa (x0 : Int) : Option ByteArray := if -9223372036854775808 ≤ x0 ∧ x0 ≤ 9223372036854775807 then some (itoaB x0) else none
set_option maxRecDepth 100000 in
theorem strconv_Itoa.walk {W : Nat → Prop} {h m : Heap} {x0 : Int} (O : Hold W h m h m []) (tab : TB m) {r : ByteArray} (e : strconv_Itoa x0 = some r) : Run Tryd.prog 64 #[Value.int .i64 x0] h (strconv_Itoa.post W h m r) := by
  unfold strconv_Itoa at e
  exact (itoa_run (by kernel_rfl) Tryd.strconv_Itoa O tab e).mono fun v h' hp => hp
def roadref2_nums.post (W : Nat → Prop) (h0 m0 : Heap) (r : ByteArray) (v : Value) (h : Heap) : Prop := ∃ m , Hold W h0 m0 h m [] ∧ v = .string r
inductive roadref2_nums.l0_k.Pt where
  | l0 (s_3 : ByteArray) (a_6 : List Int) (x_7 : Int) (x_8 : Int)
noncomputable def roadref2_nums.l0_k.body (go : (p : roadref2_nums.l0_k.Pt) → Option (ByteArray)) : (p : roadref2_nums.l0_k.Pt) → Option (ByteArray)
  | .l0 s_3 a_6 x_7 x_8 => if x_8 < x_7 then (Option.bind (gi a_6 x_8) fun y1 => Option.bind (strconv_Itoa y1) fun y8 => if ByteArray.size y8 + ByteArray.size (ByteArray.mk #[44]) ≤ 9223372036854775807 then (if ByteArray.size s_3 + ByteArray.size (y8 ++ (ByteArray.mk #[44])) ≤ 9223372036854775807 then ((go (.l0 (s_3 ++ (y8 ++ (ByteArray.mk #[44]))) a_6 x_7 (IntKind.wrap .i64 (x_8 + (1 : Int)))))) else none) else none) else (some (s_3))
theorem roadref2_nums.l0_k.mono : MonoF (β := fun _ => (ByteArray)) roadref2_nums.l0_k.body := fun f g hfg p => match p with
  | .l0 s_3 a_6 x_7 x_8 => LeO.ite (LeO.bind (LeO.refl _) fun y1 => LeO.bind (LeO.refl _) fun y8 => LeO.ite (LeO.ite ((hfg _)) (LeO.refl _)) (LeO.refl _)) (LeO.refl _)
noncomputable def roadref2_nums.l0_k.go (p : roadref2_nums.l0_k.Pt) : Option (ByteArray) := fixF (β := fun _ => (ByteArray)) roadref2_nums.l0_k.body p
noncomputable def roadref2_nums.l0 (s_3 : ByteArray) (a_6 : List Int) (x_7 : Int) (x_8 : Int) : Option (ByteArray) := roadref2_nums.l0_k.go (.l0 s_3 a_6 x_7 x_8)
theorem roadref2_nums.l0_eq (s_3 : ByteArray) (a_6 : List Int) (x_7 : Int) (x_8 : Int) : roadref2_nums.l0 s_3 a_6 x_7 x_8 = if x_8 < x_7 then (Option.bind (gi a_6 x_8) fun y1 => Option.bind (strconv_Itoa y1) fun y8 => if ByteArray.size y8 + ByteArray.size (ByteArray.mk #[44]) ≤ 9223372036854775807 then (if ByteArray.size s_3 + ByteArray.size (y8 ++ (ByteArray.mk #[44])) ≤ 9223372036854775807 then ((roadref2_nums.l0 (s_3 ++ (y8 ++ (ByteArray.mk #[44]))) a_6 x_7 (IntKind.wrap .i64 (x_8 + (1 : Int))))) else none) else none) else (some (s_3)) := fixF_eq roadref2_nums.l0_k.mono _
def roadref2_nums.l0_k.I : (p : roadref2_nums.l0_k.Pt) → (ByteArray) → Prop
  | .l0 s_3 a_6 x_7 x_8, r => ∀ (W : Nat → Prop) (h0 m0 h m : Heap) (A_6 : Option Addr) (n_6 c_6 : Nat) (O : Hold W h0 m0 h m []) (ne_6 : n_6 = List.length a_6) (k_6 : List.length a_6 ≤ c_6) (r_6 : Rd 1 (eInt .i64) m A_6 a_6) (tab : TB m), f42.l0 (roadref2_nums.post W h0 m0 r) s_3 A_6 n_6 c_6 x_7 x_8 h
set_option maxRecDepth 100000 in
theorem roadref2_nums.l0_k.step_l0 (go : (p : roadref2_nums.l0_k.Pt) → Option (ByteArray)) (ih : ∀ p r, go p = some r → roadref2_nums.l0_k.I p r) (s_3 : ByteArray) (a_6 : List Int) (x_7 : Int) (x_8 : Int) (r : ByteArray) (e : roadref2_nums.l0_k.body go (.l0 s_3 a_6 x_7 x_8) = some r) : roadref2_nums.l0_k.I (.l0 s_3 a_6 x_7 x_8) r := by
  unfold roadref2_nums.l0_k.body at e
  intro W h0 m0 h m A_6 n_6 c_6 O ne_6 k_6 r_6 tab
  subst ne_6
  refine f42.l0_in ?_
  unfold f42.l0T
  refine split_dec_e e (fun c17 e => ?_) (fun c17 e => ?_)
  · obtain ⟨y1, g2, e⟩ := bind_e e
    refine r_6.addr rfl g2 fun a3 cs4 ha5 hc6 he7 => ?_
    obtain rfl : cs4 = [(Value.int .i64 y1)] := he7
    refine ⟨_, ld0 O.s hc6 rfl, _, rfl, ?_⟩
    obtain ⟨y8, g9, e⟩ := bind_e e
    refine (strconv_Itoa.walk (Hold.start (W := No) O.s) tab g9).mono ?_
    rintro _ h10 ⟨m11, Q12, rfl⟩
    have O14 := Hold.nm (O.retC Q12 vfs_nil)
    refine ⟨_, rfl, ?_⟩
    obtain ⟨g15, e⟩ := guard_e e
    refine ⟨g15, ?_⟩
    obtain ⟨g16, e⟩ := guard_e e
    refine ⟨g16, ?_⟩
    exact (ih _ _ e) _ _ _ _ _ _ _ _ (O14.pick []).nm rfl k_6 r_6 tab
  · cases e
    exact ⟨_, O.pick [], rfl⟩
theorem roadref2_nums.l0_k.all {p : roadref2_nums.l0_k.Pt} {r : (ByteArray)} (e : roadref2_nums.l0_k.go p = some r) : roadref2_nums.l0_k.I p r := fixF_ind (β := fun _ => (ByteArray)) roadref2_nums.l0_k.mono (I := roadref2_nums.l0_k.I) (fun go ih p r e => match p with
  | .l0 s_3 a_6 x_7 x_8 => roadref2_nums.l0_k.step_l0 go ih s_3 a_6 x_7 x_8 r e
  ) e
theorem roadref2_nums.l0.walk {W : Nat → Prop} {h0 m0 h m : Heap} {A_6 : Option Addr} {n_6 c_6 : Nat} {s_3 : ByteArray} {a_6 : List Int} {x_7 : Int} {x_8 : Int} (O : Hold W h0 m0 h m []) (ne_6 : n_6 = List.length a_6) (k_6 : List.length a_6 ≤ c_6) (r_6 : Rd 1 (eInt .i64) m A_6 a_6) (tab : TB m) {r : ByteArray} (e : roadref2_nums.l0 s_3 a_6 x_7 x_8 = some r) : f42.l0 (roadref2_nums.post W h0 m0 r) s_3 A_6 n_6 c_6 x_7 x_8 h := roadref2_nums.l0_k.all (p := .l0 s_3 a_6 x_7 x_8) e W h0 m0 h m A_6 n_6 c_6 O ne_6 k_6 r_6 tab
noncomputable def roadref2_nums (a_0 : List Int) : Option (ByteArray) :=
  (roadref2_nums.l0 (ByteArray.mk #[]) a_0 (((List.length a_0) : Nat) : Int) (0 : Int))
set_option maxRecDepth 100000 in
theorem roadref2_nums.walk {W : Nat → Prop} {h m : Heap} {A_0 : Option Addr} {n_0 c_0 : Nat} {a_0 : List Int} (O : Hold W h m h m []) (ne_0 : n_0 = List.length a_0) (k_0 : List.length a_0 ≤ c_0) (r_0 : Rd 1 (eInt .i64) m A_0 a_0) (tab : TB m) {r : ByteArray} (e : roadref2_nums a_0 = some r) : Run Tryd.prog 42 #[Value.slice A_0 n_0 c_0] h (roadref2_nums.post W h m r) := by
  unfold roadref2_nums at e
  subst ne_0
  refine f42.run ?_
  unfold f42.runT
  exact roadref2_nums.l0.walk (O.pick []).nm rfl k_0 r_0 tab e
def roadref2_texts.post (W : Nat → Prop) (h0 m0 : Heap) (r : ByteArray) (v : Value) (h : Heap) : Prop := ∃ m , Hold W h0 m0 h m [] ∧ v = .string r
inductive roadref2_texts.l0_k.Pt where
  | l0 (s_3 : ByteArray) (a_6 : List ByteArray) (x_7 : Int) (x_8 : Int)
noncomputable def roadref2_texts.l0_k.body (go : (p : roadref2_texts.l0_k.Pt) → Option (ByteArray)) : (p : roadref2_texts.l0_k.Pt) → Option (ByteArray)
  | .l0 s_3 a_6 x_7 x_8 => if x_8 < x_7 then (Option.bind (gi a_6 x_8) fun y1 => Option.bind (roadref2_nums ([((ByteArray.size y1 : Nat) : Int)] : List Int)) fun y13 => if ByteArray.size y13 + ByteArray.size y1 ≤ 9223372036854775807 then (if ByteArray.size s_3 + ByteArray.size (y13 ++ y1) ≤ 9223372036854775807 then ((go (.l0 (s_3 ++ (y13 ++ y1)) a_6 x_7 (IntKind.wrap .i64 (x_8 + (1 : Int)))))) else none) else none) else (some (s_3))
theorem roadref2_texts.l0_k.mono : MonoF (β := fun _ => (ByteArray)) roadref2_texts.l0_k.body := fun f g hfg p => match p with
  | .l0 s_3 a_6 x_7 x_8 => LeO.ite (LeO.bind (LeO.refl _) fun y1 => LeO.bind (LeO.refl _) fun y13 => LeO.ite (LeO.ite ((hfg _)) (LeO.refl _)) (LeO.refl _)) (LeO.refl _)
noncomputable def roadref2_texts.l0_k.go (p : roadref2_texts.l0_k.Pt) : Option (ByteArray) := fixF (β := fun _ => (ByteArray)) roadref2_texts.l0_k.body p
noncomputable def roadref2_texts.l0 (s_3 : ByteArray) (a_6 : List ByteArray) (x_7 : Int) (x_8 : Int) : Option (ByteArray) := roadref2_texts.l0_k.go (.l0 s_3 a_6 x_7 x_8)
theorem roadref2_texts.l0_eq (s_3 : ByteArray) (a_6 : List ByteArray) (x_7 : Int) (x_8 : Int) : roadref2_texts.l0 s_3 a_6 x_7 x_8 = if x_8 < x_7 then (Option.bind (gi a_6 x_8) fun y1 => Option.bind (roadref2_nums ([((ByteArray.size y1 : Nat) : Int)] : List Int)) fun y13 => if ByteArray.size y13 + ByteArray.size y1 ≤ 9223372036854775807 then (if ByteArray.size s_3 + ByteArray.size (y13 ++ y1) ≤ 9223372036854775807 then ((roadref2_texts.l0 (s_3 ++ (y13 ++ y1)) a_6 x_7 (IntKind.wrap .i64 (x_8 + (1 : Int))))) else none) else none) else (some (s_3)) := fixF_eq roadref2_texts.l0_k.mono _
def roadref2_texts.l0_k.I : (p : roadref2_texts.l0_k.Pt) → (ByteArray) → Prop
  | .l0 s_3 a_6 x_7 x_8, r => ∀ (W : Nat → Prop) (h0 m0 h m : Heap) (A_6 : Option Addr) (n_6 c_6 : Nat) (O : Hold W h0 m0 h m []) (ne_6 : n_6 = List.length a_6) (k_6 : List.length a_6 ≤ c_6) (r_6 : Rd 1 eStr m A_6 a_6) (tab : TB m), f41.l0 (roadref2_texts.post W h0 m0 r) s_3 A_6 n_6 c_6 x_7 x_8 h
set_option maxRecDepth 100000 in
theorem roadref2_texts.l0_k.step_l0 (go : (p : roadref2_texts.l0_k.Pt) → Option (ByteArray)) (ih : ∀ p r, go p = some r → roadref2_texts.l0_k.I p r) (s_3 : ByteArray) (a_6 : List ByteArray) (x_7 : Int) (x_8 : Int) (r : ByteArray) (e : roadref2_texts.l0_k.body go (.l0 s_3 a_6 x_7 x_8) = some r) : roadref2_texts.l0_k.I (.l0 s_3 a_6 x_7 x_8) r := by
  unfold roadref2_texts.l0_k.body at e
  intro W h0 m0 h m A_6 n_6 c_6 O ne_6 k_6 r_6 tab
  subst ne_6
  refine f41.l0_in ?_
  unfold f41.l0T
  refine split_dec_e e (fun c30 e => ?_) (fun c30 e => ?_)
  · obtain ⟨y1, g2, e⟩ := bind_e e
    refine r_6.addr rfl g2 fun a3 cs4 ha5 hc6 he7 => ?_
    obtain rfl : cs4 = [(Value.string y1)] := he7
    refine ⟨_, ld0 O.s hc6 rfl, _, rfl, ?_⟩
    refine O.new fun h8 x9 O10 => ?_
    obtain ⟨y13, g14, e⟩ := bind_e e
    have O12 := O10.rowE (l := ([((ByteArray.size y1 : Nat) : Int)] : List Int)) 0 rfl (tell_int .i64) (show CsE _ _ _ _ _ from (CsE.cons (c1 := [(Value.int .i64 ((ByteArray.size y1 : Nat) : Int))]) rfl rfl CsE.nil)) rfl
    have O19 := O12.nm
    obtain ⟨m20, u21, s26, ⟨⟨r24, k25⟩, _⟩, B22, C23⟩ := O19.lend0 [0]
    replace r24 : Rd 1 (eInt .i64) m20 (some ⟨(Array.size h), 0, none⟩) ([((ByteArray.size y1 : Nat) : Int)] : List Int) := r24
    replace k25 : List.length ([((ByteArray.size y1 : Nat) : Int)] : List Int) ≤ 1 := k25
    refine (roadref2_nums.walk (Hold.start (W := No) s26) rfl k25 r24 (TBg.sub tab u21) g14).mono ?_
    rintro _ h15 ⟨m16, Q17, rfl⟩
    have O27 := Hold.nm (C23 Q17 vfs_nil)
    refine ⟨_, rfl, ?_⟩
    obtain ⟨g28, e⟩ := guard_e e
    refine ⟨g28, ?_⟩
    obtain ⟨g29, e⟩ := guard_e e
    refine ⟨g29, ?_⟩
    exact (ih _ _ e) _ _ _ _ _ _ _ _ (O27.pick []).nm rfl k_6 r_6 tab
  · cases e
    exact ⟨_, O.pick [], rfl⟩
theorem roadref2_texts.l0_k.all {p : roadref2_texts.l0_k.Pt} {r : (ByteArray)} (e : roadref2_texts.l0_k.go p = some r) : roadref2_texts.l0_k.I p r := fixF_ind (β := fun _ => (ByteArray)) roadref2_texts.l0_k.mono (I := roadref2_texts.l0_k.I) (fun go ih p r e => match p with
  | .l0 s_3 a_6 x_7 x_8 => roadref2_texts.l0_k.step_l0 go ih s_3 a_6 x_7 x_8 r e
  ) e
theorem roadref2_texts.l0.walk {W : Nat → Prop} {h0 m0 h m : Heap} {A_6 : Option Addr} {n_6 c_6 : Nat} {s_3 : ByteArray} {a_6 : List ByteArray} {x_7 : Int} {x_8 : Int} (O : Hold W h0 m0 h m []) (ne_6 : n_6 = List.length a_6) (k_6 : List.length a_6 ≤ c_6) (r_6 : Rd 1 eStr m A_6 a_6) (tab : TB m) {r : ByteArray} (e : roadref2_texts.l0 s_3 a_6 x_7 x_8 = some r) : f41.l0 (roadref2_texts.post W h0 m0 r) s_3 A_6 n_6 c_6 x_7 x_8 h := roadref2_texts.l0_k.all (p := .l0 s_3 a_6 x_7 x_8) e W h0 m0 h m A_6 n_6 c_6 O ne_6 k_6 r_6 tab
noncomputable def roadref2_texts (a_0 : List ByteArray) : Option (ByteArray) :=
  (roadref2_texts.l0 (ByteArray.mk #[]) a_0 (((List.length a_0) : Nat) : Int) (0 : Int))
set_option maxRecDepth 100000 in
theorem roadref2_texts.walk {W : Nat → Prop} {h m : Heap} {A_0 : Option Addr} {n_0 c_0 : Nat} {a_0 : List ByteArray} (O : Hold W h m h m []) (ne_0 : n_0 = List.length a_0) (k_0 : List.length a_0 ≤ c_0) (r_0 : Rd 1 eStr m A_0 a_0) (tab : TB m) {r : ByteArray} (e : roadref2_texts a_0 = some r) : Run Tryd.prog 41 #[Value.slice A_0 n_0 c_0] h (roadref2_texts.post W h m r) := by
  unfold roadref2_texts at e
  subst ne_0
  refine f41.run ?_
  unfold f41.runT
  exact roadref2_texts.l0.walk (O.pick []).nm rfl k_0 r_0 tab e
def roadref2_TypeMark.post (W : Nat → Prop) (h0 m0 : Heap) (r : ByteArray) (v : Value) (h : Heap) : Prop := ∃ m , Hold W h0 m0 h m [] ∧ v = .string r
inductive roadref2_TypeMark_k.Pt where
  | f (y_0 : T_api_Type)
  | j0 (y_1 : T_api_Type) (s_3 : ByteArray)
  | l0 (s_3 : ByteArray) (a_19 : List T_api_Type) (x_20 : Int) (x_21 : Int)
noncomputable def roadref2_TypeMark_k.body (go : (p : roadref2_TypeMark_k.Pt) → Option (ByteArray)) : (p : roadref2_TypeMark_k.Pt) → Option (ByteArray)
  | .f y_0 => Option.bind (roadref2_nums ([y_0.Kind, (((List.length y_0.Args) : Nat) : Int)] : List Int)) fun y15 => Option.bind (roadref2_texts ([y_0.Name] : List ByteArray)) fun y35 => if ByteArray.size y15 + ByteArray.size y35 ≤ 9223372036854775807 then ((go (.j0 y_0 (y15 ++ y35)))) else none
  | .j0 y_1 s_3 => (go (.l0 s_3 y_1.Args (((List.length y_1.Args) : Nat) : Int) (0 : Int)))
  | .l0 s_3 a_19 x_20 x_21 => if x_21 < x_20 then (Option.bind (gi a_19 x_21) fun y1 => Option.bind ((go (.f y1))) fun y14 => if ByteArray.size s_3 + ByteArray.size y14 ≤ 9223372036854775807 then ((go (.l0 (s_3 ++ y14) a_19 x_20 (IntKind.wrap .i64 (x_21 + (1 : Int)))))) else none) else (some (s_3))
theorem roadref2_TypeMark_k.mono : MonoF (β := fun _ => (ByteArray)) roadref2_TypeMark_k.body := fun f g hfg p => match p with
  | .f y_0 => LeO.bind (LeO.refl _) fun y15 => LeO.bind (LeO.refl _) fun y35 => LeO.ite ((hfg _)) (LeO.refl _)
  | .j0 y_1 s_3 => (hfg _)
  | .l0 s_3 a_19 x_20 x_21 => LeO.ite (LeO.bind (LeO.refl _) fun y1 => LeO.bind ((hfg _)) fun y14 => LeO.ite ((hfg _)) (LeO.refl _)) (LeO.refl _)
noncomputable def roadref2_TypeMark_k.go (p : roadref2_TypeMark_k.Pt) : Option (ByteArray) := fixF (β := fun _ => (ByteArray)) roadref2_TypeMark_k.body p
noncomputable def roadref2_TypeMark (y_0 : T_api_Type) : Option (ByteArray) := roadref2_TypeMark_k.go (.f y_0)
noncomputable def roadref2_TypeMark.j0 (y_1 : T_api_Type) (s_3 : ByteArray) : Option (ByteArray) := roadref2_TypeMark_k.go (.j0 y_1 s_3)
noncomputable def roadref2_TypeMark.l0 (s_3 : ByteArray) (a_19 : List T_api_Type) (x_20 : Int) (x_21 : Int) : Option (ByteArray) := roadref2_TypeMark_k.go (.l0 s_3 a_19 x_20 x_21)
theorem roadref2_TypeMark_eq (y_0 : T_api_Type) : roadref2_TypeMark y_0 = Option.bind (roadref2_nums ([y_0.Kind, (((List.length y_0.Args) : Nat) : Int)] : List Int)) fun y15 => Option.bind (roadref2_texts ([y_0.Name] : List ByteArray)) fun y35 => if ByteArray.size y15 + ByteArray.size y35 ≤ 9223372036854775807 then ((roadref2_TypeMark.j0 y_0 (y15 ++ y35))) else none := fixF_eq roadref2_TypeMark_k.mono _
theorem roadref2_TypeMark.j0_eq (y_1 : T_api_Type) (s_3 : ByteArray) : roadref2_TypeMark.j0 y_1 s_3 = (roadref2_TypeMark.l0 s_3 y_1.Args (((List.length y_1.Args) : Nat) : Int) (0 : Int)) := fixF_eq roadref2_TypeMark_k.mono _
theorem roadref2_TypeMark.l0_eq (s_3 : ByteArray) (a_19 : List T_api_Type) (x_20 : Int) (x_21 : Int) : roadref2_TypeMark.l0 s_3 a_19 x_20 x_21 = if x_21 < x_20 then (Option.bind (gi a_19 x_21) fun y1 => Option.bind ((roadref2_TypeMark y1)) fun y14 => if ByteArray.size s_3 + ByteArray.size y14 ≤ 9223372036854775807 then ((roadref2_TypeMark.l0 (s_3 ++ y14) a_19 x_20 (IntKind.wrap .i64 (x_21 + (1 : Int))))) else none) else (some (s_3)) := fixF_eq roadref2_TypeMark_k.mono _
def roadref2_TypeMark_k.I : (p : roadref2_TypeMark_k.Pt) → (ByteArray) → Prop
  | .f y_0, r => ∀ (W : Nat → Prop) (h m : Heap) (cs_0 : List Value) (O : Hold W h m h m []) (e_0 : T_api_Type.E m y_0 cs_0) (tab : TB m), Run Tryd.prog 46 #[Value.agg cs_0.toArray] h (roadref2_TypeMark.post W h m r)
  | .j0 y_1 s_3, r => ∀ (W : Nat → Prop) (h0 m0 h m : Heap) (bk_1 : Nat) (cs_1 : List Value) (O : Hold W h0 m0 h m [rV bk_1 59 cs_1]) (e_1 : T_api_Type.E m y_1 cs_1) (tab : TB m), f46.j0 (roadref2_TypeMark.post W h0 m0 r) (⟨bk_1, 0, none⟩ : Addr) s_3 h
  | .l0 s_3 a_19 x_20 x_21, r => ∀ (W : Nat → Prop) (h0 m0 h m : Heap) (A_19 : Option Addr) (n_19 c_19 : Nat) (O : Hold W h0 m0 h m []) (ne_19 : n_19 = List.length a_19) (k_19 : List.length a_19 ≤ c_19) (r_19 : Rd 3 T_api_Type.E m A_19 a_19) (tab : TB m), f46.l0 (roadref2_TypeMark.post W h0 m0 r) s_3 A_19 n_19 c_19 x_20 x_21 h
set_option maxHeartbeats 4000000 in
set_option maxRecDepth 100000 in
theorem roadref2_TypeMark_k.step_f (go : (p : roadref2_TypeMark_k.Pt) → Option (ByteArray)) (ih : ∀ p r, go p = some r → roadref2_TypeMark_k.I p r) (y_0 : T_api_Type) (r : ByteArray) (e : roadref2_TypeMark_k.body go (.f y_0) = some r) : roadref2_TypeMark_k.I (.f y_0) r := by
  unfold roadref2_TypeMark_k.body at e
  intro W h m cs_0 O e_0 tab
  refine f46.run ?_
  unfold f46.runT
  refine O.new fun h1 x2 O3 => ?_
  refine ⟨_, ld0 (Sub.refl _) (O3.all 0 rfl) (T_api_Type.g0 e_0), _, rfl, ?_⟩
  obtain ⟨A5, c6, q7, k8, r9⟩ := T_api_Type.g2 e_0
  refine ⟨_, ldk (k := 2) (Sub.refl _) (O3.all 0 rfl) q7, _, _, _, rfl, ?_⟩
  obtain ⟨y15, g16, e⟩ := bind_e e
  obtain ⟨y35, g36, e⟩ := bind_e e
  refine ⟨?_, ?_⟩
  · refine O3.new fun h51 x52 O53 => ?_
    refine ⟨?_, ?_⟩
    · have O55 := O53.rowE (l := ([y_0.Kind, (((List.length y_0.Args) : Nat) : Int)] : List Int)) 1 rfl (tell_int .i64) (show CsE _ _ _ _ _ from (CsE.cons (c1 := [(Value.int .i64 y_0.Kind)]) rfl rfl (CsE.cons (c1 := [(Value.int .i64 (((List.length y_0.Args) : Nat) : Int))]) rfl rfl CsE.nil))) rfl
      have O62 := O55.nm
      obtain ⟨m63, u64, s69, ⟨⟨r67, k68⟩, _⟩, B65, C66⟩ := O62.lend0 [1]
      replace r67 : Rd 1 (eInt .i64) m63 (some ⟨(Array.size h1), 0, none⟩) ([y_0.Kind, (((List.length y_0.Args) : Nat) : Int)] : List Int) := r67
      replace k68 : List.length ([y_0.Kind, (((List.length y_0.Args) : Nat) : Int)] : List Int) ≤ 2 := k68
      refine (roadref2_nums.walk (Hold.start (W := No) s69) rfl k68 r67 (TBg.sub tab u64) g16).mono ?_
      rintro _ h58 ⟨m59, Q60, rfl⟩
      have O70 := Hold.nm (C66 Q60 vfs_nil)
      refine ⟨_, rfl, ?_⟩
      refine ⟨_, ldk (k := 1) (Sub.refl _) (O70.all 0 rfl) (T_api_Type.g1 e_0), _, rfl, ?_⟩
      refine ⟨Ext.refl _, ?_⟩
      refine O70.new fun h71 x72 O73 => ?_
      refine ⟨x72, ?_⟩
      have O75 := O73.rowE (l := ([y_0.Name] : List ByteArray)) 2 rfl tell_str (show CsE _ _ _ _ _ from (CsE.cons (c1 := [(Value.string y_0.Name)]) rfl rfl CsE.nil)) rfl
      have O82 := O75.nm
      obtain ⟨m83, u84, s89, ⟨⟨r87, k88⟩, _⟩, B85, C86⟩ := O82.lend0 [2]
      replace r87 : Rd 1 eStr m83 (some ⟨(Array.size h58), 0, none⟩) ([y_0.Name] : List ByteArray) := r87
      replace k88 : List.length ([y_0.Name] : List ByteArray) ≤ 1 := k88
      refine (roadref2_texts.walk (Hold.start (W := No) s89) rfl k88 r87 (TBg.sub tab u84) g36).mono ?_
      rintro _ h78 ⟨m79, Q80, rfl⟩
      have O90 := Hold.nm (C86 Q80 vfs_nil)
      refine ⟨_, rfl, ?_⟩
      obtain ⟨g91, e⟩ := guard_e e
      refine ⟨g91, ?_⟩
      exact (ih _ _ e) _ _ _ _ _ _ _ (O90.pick [0]).nm e_0 tab
    · refine ⟨_, ldk (k := 1) (Sub.refl _) (O53.all 0 rfl) (T_api_Type.g1 e_0), _, rfl, ?_⟩
      refine ⟨Ext.refl _, ?_⟩
      refine ⟨?_, ?_⟩
      · have O92 := O53.rowE (l := ([y_0.Kind, (((List.length y_0.Args) : Nat) : Int)] : List Int)) 1 rfl (tell_int .i64) (show CsE _ _ _ _ _ from (CsE.cons (c1 := [(Value.int .i64 y_0.Kind)]) rfl rfl (CsE.cons (c1 := [(Value.int .i64 (((List.length y_0.Args) : Nat) : Int))]) rfl rfl CsE.nil))) rfl
        have O99 := O92.nm
        obtain ⟨m100, u101, s106, ⟨⟨r104, k105⟩, _⟩, B102, C103⟩ := O99.lend0 [1]
        replace r104 : Rd 1 (eInt .i64) m100 (some ⟨(Array.size h1), 0, none⟩) ([y_0.Kind, (((List.length y_0.Args) : Nat) : Int)] : List Int) := r104
        replace k105 : List.length ([y_0.Kind, (((List.length y_0.Args) : Nat) : Int)] : List Int) ≤ 2 := k105
        refine (roadref2_nums.walk (Hold.start (W := No) s106) rfl k105 r104 (TBg.sub tab u101) g16).mono ?_
        rintro _ h95 ⟨m96, Q97, rfl⟩
        have O107 := Hold.nm (C103 Q97 vfs_nil)
        refine ⟨_, rfl, ?_⟩
        refine O107.new fun h108 x109 O110 => ?_
        refine ⟨x109, ?_⟩
        have O112 := O110.rowE (l := ([y_0.Name] : List ByteArray)) 2 rfl tell_str (show CsE _ _ _ _ _ from (CsE.cons (c1 := [(Value.string y_0.Name)]) rfl rfl CsE.nil)) rfl
        have O119 := O112.nm
        obtain ⟨m120, u121, s126, ⟨⟨r124, k125⟩, _⟩, B122, C123⟩ := O119.lend0 [2]
        replace r124 : Rd 1 eStr m120 (some ⟨(Array.size h95), 0, none⟩) ([y_0.Name] : List ByteArray) := r124
        replace k125 : List.length ([y_0.Name] : List ByteArray) ≤ 1 := k125
        refine (roadref2_texts.walk (Hold.start (W := No) s126) rfl k125 r124 (TBg.sub tab u121) g36).mono ?_
        rintro _ h115 ⟨m116, Q117, rfl⟩
        have O127 := Hold.nm (C123 Q117 vfs_nil)
        refine ⟨_, rfl, ?_⟩
        obtain ⟨g128, e⟩ := guard_e e
        refine ⟨g128, ?_⟩
        exact (ih _ _ e) _ _ _ _ _ _ _ (O127.pick [0]).nm e_0 tab
      · refine O53.new fun h129 x130 O131 => ?_
        refine ⟨x130, ?_⟩
        have O133 := O131.rowE (l := ([y_0.Kind, (((List.length y_0.Args) : Nat) : Int)] : List Int)) 1 rfl (tell_int .i64) (show CsE _ _ _ _ _ from (CsE.cons (c1 := [(Value.int .i64 y_0.Kind)]) rfl rfl (CsE.cons (c1 := [(Value.int .i64 (((List.length y_0.Args) : Nat) : Int))]) rfl rfl CsE.nil))) rfl
        have O140 := O133.nm
        obtain ⟨m141, u142, s147, ⟨⟨r145, k146⟩, _⟩, B143, C144⟩ := O140.lend0 [1]
        replace r145 : Rd 1 (eInt .i64) m141 (some ⟨(Array.size h1), 0, none⟩) ([y_0.Kind, (((List.length y_0.Args) : Nat) : Int)] : List Int) := r145
        replace k146 : List.length ([y_0.Kind, (((List.length y_0.Args) : Nat) : Int)] : List Int) ≤ 2 := k146
        refine (roadref2_nums.walk (Hold.start (W := No) s147) rfl k146 r145 (TBg.sub tab u142) g16).mono ?_
        rintro _ h136 ⟨m137, Q138, rfl⟩
        have O148 := Hold.nm (C144 Q138 vfs_nil)
        refine ⟨_, rfl, ?_⟩
        have O149 := O148.rowE (l := ([y_0.Name] : List ByteArray)) 2 rfl tell_str (show CsE _ _ _ _ _ from (CsE.cons (c1 := [(Value.string y_0.Name)]) rfl rfl CsE.nil)) rfl
        have O156 := O149.nm
        obtain ⟨m157, u158, s163, ⟨⟨r161, k162⟩, _⟩, B159, C160⟩ := O156.lend0 [2]
        replace r161 : Rd 1 eStr m157 (some ⟨(Array.size h51), 0, none⟩) ([y_0.Name] : List ByteArray) := r161
        replace k162 : List.length ([y_0.Name] : List ByteArray) ≤ 1 := k162
        refine (roadref2_texts.walk (Hold.start (W := No) s163) rfl k162 r161 (TBg.sub tab u158) g36).mono ?_
        rintro _ h152 ⟨m153, Q154, rfl⟩
        have O164 := Hold.nm (C160 Q154 vfs_nil)
        refine ⟨_, rfl, ?_⟩
        obtain ⟨g165, e⟩ := guard_e e
        refine ⟨g165, ?_⟩
        exact (ih _ _ e) _ _ _ _ _ _ _ (O164.pick [0]).nm e_0 tab
  · refine ⟨_, ldk (k := 1) (Sub.refl _) (O3.all 0 rfl) (T_api_Type.g1 e_0), _, rfl, ?_⟩
    refine ⟨Ext.refl _, ?_⟩
    refine ⟨?_, ?_⟩
    · refine O3.new fun h166 x167 O168 => ?_
      refine ⟨?_, ?_⟩
      · have O170 := O168.rowE (l := ([y_0.Kind, (((List.length y_0.Args) : Nat) : Int)] : List Int)) 1 rfl (tell_int .i64) (show CsE _ _ _ _ _ from (CsE.cons (c1 := [(Value.int .i64 y_0.Kind)]) rfl rfl (CsE.cons (c1 := [(Value.int .i64 (((List.length y_0.Args) : Nat) : Int))]) rfl rfl CsE.nil))) rfl
        have O177 := O170.nm
        obtain ⟨m178, u179, s184, ⟨⟨r182, k183⟩, _⟩, B180, C181⟩ := O177.lend0 [1]
        replace r182 : Rd 1 (eInt .i64) m178 (some ⟨(Array.size h1), 0, none⟩) ([y_0.Kind, (((List.length y_0.Args) : Nat) : Int)] : List Int) := r182
        replace k183 : List.length ([y_0.Kind, (((List.length y_0.Args) : Nat) : Int)] : List Int) ≤ 2 := k183
        refine (roadref2_nums.walk (Hold.start (W := No) s184) rfl k183 r182 (TBg.sub tab u179) g16).mono ?_
        rintro _ h173 ⟨m174, Q175, rfl⟩
        have O185 := Hold.nm (C181 Q175 vfs_nil)
        refine ⟨_, rfl, ?_⟩
        refine O185.new fun h186 x187 O188 => ?_
        refine ⟨x187, ?_⟩
        have O190 := O188.rowE (l := ([y_0.Name] : List ByteArray)) 2 rfl tell_str (show CsE _ _ _ _ _ from (CsE.cons (c1 := [(Value.string y_0.Name)]) rfl rfl CsE.nil)) rfl
        have O197 := O190.nm
        obtain ⟨m198, u199, s204, ⟨⟨r202, k203⟩, _⟩, B200, C201⟩ := O197.lend0 [2]
        replace r202 : Rd 1 eStr m198 (some ⟨(Array.size h173), 0, none⟩) ([y_0.Name] : List ByteArray) := r202
        replace k203 : List.length ([y_0.Name] : List ByteArray) ≤ 1 := k203
        refine (roadref2_texts.walk (Hold.start (W := No) s204) rfl k203 r202 (TBg.sub tab u199) g36).mono ?_
        rintro _ h193 ⟨m194, Q195, rfl⟩
        have O205 := Hold.nm (C201 Q195 vfs_nil)
        refine ⟨_, rfl, ?_⟩
        obtain ⟨g206, e⟩ := guard_e e
        refine ⟨g206, ?_⟩
        exact (ih _ _ e) _ _ _ _ _ _ _ (O205.pick [0]).nm e_0 tab
      · refine O168.new fun h207 x208 O209 => ?_
        refine ⟨x208, ?_⟩
        have O211 := O209.rowE (l := ([y_0.Kind, (((List.length y_0.Args) : Nat) : Int)] : List Int)) 1 rfl (tell_int .i64) (show CsE _ _ _ _ _ from (CsE.cons (c1 := [(Value.int .i64 y_0.Kind)]) rfl rfl (CsE.cons (c1 := [(Value.int .i64 (((List.length y_0.Args) : Nat) : Int))]) rfl rfl CsE.nil))) rfl
        have O218 := O211.nm
        obtain ⟨m219, u220, s225, ⟨⟨r223, k224⟩, _⟩, B221, C222⟩ := O218.lend0 [1]
        replace r223 : Rd 1 (eInt .i64) m219 (some ⟨(Array.size h1), 0, none⟩) ([y_0.Kind, (((List.length y_0.Args) : Nat) : Int)] : List Int) := r223
        replace k224 : List.length ([y_0.Kind, (((List.length y_0.Args) : Nat) : Int)] : List Int) ≤ 2 := k224
        refine (roadref2_nums.walk (Hold.start (W := No) s225) rfl k224 r223 (TBg.sub tab u220) g16).mono ?_
        rintro _ h214 ⟨m215, Q216, rfl⟩
        have O226 := Hold.nm (C222 Q216 vfs_nil)
        refine ⟨_, rfl, ?_⟩
        have O227 := O226.rowE (l := ([y_0.Name] : List ByteArray)) 2 rfl tell_str (show CsE _ _ _ _ _ from (CsE.cons (c1 := [(Value.string y_0.Name)]) rfl rfl CsE.nil)) rfl
        have O234 := O227.nm
        obtain ⟨m235, u236, s241, ⟨⟨r239, k240⟩, _⟩, B237, C238⟩ := O234.lend0 [2]
        replace r239 : Rd 1 eStr m235 (some ⟨(Array.size h166), 0, none⟩) ([y_0.Name] : List ByteArray) := r239
        replace k240 : List.length ([y_0.Name] : List ByteArray) ≤ 1 := k240
        refine (roadref2_texts.walk (Hold.start (W := No) s241) rfl k240 r239 (TBg.sub tab u236) g36).mono ?_
        rintro _ h230 ⟨m231, Q232, rfl⟩
        have O242 := Hold.nm (C238 Q232 vfs_nil)
        refine ⟨_, rfl, ?_⟩
        obtain ⟨g243, e⟩ := guard_e e
        refine ⟨g243, ?_⟩
        exact (ih _ _ e) _ _ _ _ _ _ _ (O242.pick [0]).nm e_0 tab
    · refine O3.new fun h244 x245 O246 => ?_
      refine ⟨x245, ?_⟩
      refine O246.new fun h248 x249 O250 => ?_
      have O252 := O250.rowE (l := ([y_0.Kind, (((List.length y_0.Args) : Nat) : Int)] : List Int)) 2 rfl (tell_int .i64) (show CsE _ _ _ _ _ from (CsE.cons (c1 := [(Value.int .i64 y_0.Kind)]) rfl rfl (CsE.cons (c1 := [(Value.int .i64 (((List.length y_0.Args) : Nat) : Int))]) rfl rfl CsE.nil))) rfl
      have O259 := O252.nm
      obtain ⟨m260, u261, s266, ⟨⟨r264, k265⟩, _⟩, B262, C263⟩ := O259.lend0 [2]
      replace r264 : Rd 1 (eInt .i64) m260 (some ⟨(Array.size h244), 0, none⟩) ([y_0.Kind, (((List.length y_0.Args) : Nat) : Int)] : List Int) := r264
      replace k265 : List.length ([y_0.Kind, (((List.length y_0.Args) : Nat) : Int)] : List Int) ≤ 2 := k265
      refine (roadref2_nums.walk (Hold.start (W := No) s266) rfl k265 r264 (TBg.sub tab u261) g16).mono ?_
      rintro _ h255 ⟨m256, Q257, rfl⟩
      have O267 := Hold.nm (C263 Q257 vfs_nil)
      refine ⟨_, rfl, ?_⟩
      have O268 := O267.rowE (l := ([y_0.Name] : List ByteArray)) 1 rfl tell_str (show CsE _ _ _ _ _ from (CsE.cons (c1 := [(Value.string y_0.Name)]) rfl rfl CsE.nil)) rfl
      have O275 := O268.nm
      obtain ⟨m276, u277, s282, ⟨⟨r280, k281⟩, _⟩, B278, C279⟩ := O275.lend0 [1]
      replace r280 : Rd 1 eStr m276 (some ⟨(Array.size h1), 0, none⟩) ([y_0.Name] : List ByteArray) := r280
      replace k281 : List.length ([y_0.Name] : List ByteArray) ≤ 1 := k281
      refine (roadref2_texts.walk (Hold.start (W := No) s282) rfl k281 r280 (TBg.sub tab u277) g36).mono ?_
      rintro _ h271 ⟨m272, Q273, rfl⟩
      have O283 := Hold.nm (C279 Q273 vfs_nil)
      refine ⟨_, rfl, ?_⟩
      obtain ⟨g284, e⟩ := guard_e e
      refine ⟨g284, ?_⟩
      exact (ih _ _ e) _ _ _ _ _ _ _ (O283.pick [0]).nm e_0 tab
set_option maxRecDepth 100000 in
theorem roadref2_TypeMark_k.step_j0 (go : (p : roadref2_TypeMark_k.Pt) → Option (ByteArray)) (ih : ∀ p r, go p = some r → roadref2_TypeMark_k.I p r) (y_1 : T_api_Type) (s_3 : ByteArray) (r : ByteArray) (e : roadref2_TypeMark_k.body go (.j0 y_1 s_3) = some r) : roadref2_TypeMark_k.I (.j0 y_1 s_3) r := by
  unfold roadref2_TypeMark_k.body at e
  intro W h0 m0 h m bk_1 cs_1 O e_1 tab
  refine f46.j0_in ?_
  unfold f46.j0T
  obtain ⟨A1, c2, q3, k4, r5⟩ := T_api_Type.g2 e_1
  refine ⟨_, ldk (k := 2) (Sub.refl _) (O.all 0 rfl) q3, _, _, _, rfl, ?_⟩
  exact (ih _ _ e) _ _ _ _ _ _ _ _ (O.pick []).nm rfl k4 r5 tab
set_option maxRecDepth 100000 in
theorem roadref2_TypeMark_k.step_l0 (go : (p : roadref2_TypeMark_k.Pt) → Option (ByteArray)) (ih : ∀ p r, go p = some r → roadref2_TypeMark_k.I p r) (s_3 : ByteArray) (a_19 : List T_api_Type) (x_20 : Int) (x_21 : Int) (r : ByteArray) (e : roadref2_TypeMark_k.body go (.l0 s_3 a_19 x_20 x_21) = some r) : roadref2_TypeMark_k.I (.l0 s_3 a_19 x_20 x_21) r := by
  unfold roadref2_TypeMark_k.body at e
  intro W h0 m0 h m A_19 n_19 c_19 O ne_19 k_19 r_19 tab
  subst ne_19
  refine f46.l0_in ?_
  unfold f46.l0T
  refine split_dec_e e (fun c22 e => ?_) (fun c22 e => ?_)
  · obtain ⟨y1, g2, e⟩ := bind_e e
    refine r_19.addr rfl g2 fun a3 cs4 ha5 hc6 he7 => ?_
    refine ⟨_, ldAn O.s hc6 rfl, ?_⟩
    refine O.new fun h8 x9 O10 => ?_
    refine ⟨_, rfl, (T_api_Type.T.len _ _ _ he7), ?_⟩
    refine O10.stA 0 rfl (T_api_Type.T.len _ _ _ he7) (T_api_Type.T.flat _ _ _ he7) fun h12 O13 => ?_
    refine ⟨_, ldAn (Sub.refl _) (O13.all 0 rfl) (T_api_Type.T.len _ _ _ he7), ?_⟩
    obtain ⟨y14, g15, e⟩ := bind_e e
    refine ((ih _ _ g15) _ _ _ _ (Hold.start (W := No) O13.s) he7 tab).mono ?_
    rintro _ h16 ⟨m17, Q18, rfl⟩
    have O20 := Hold.nm (O13.retC Q18 vfs_nil)
    refine ⟨_, rfl, ?_⟩
    obtain ⟨g21, e⟩ := guard_e e
    refine ⟨g21, ?_⟩
    exact (ih _ _ e) _ _ _ _ _ _ _ _ (O20.pick []).nm rfl k_19 r_19 tab
  · cases e
    exact ⟨_, O.pick [], rfl⟩
theorem roadref2_TypeMark_k.all {p : roadref2_TypeMark_k.Pt} {r : (ByteArray)} (e : roadref2_TypeMark_k.go p = some r) : roadref2_TypeMark_k.I p r := fixF_ind (β := fun _ => (ByteArray)) roadref2_TypeMark_k.mono (I := roadref2_TypeMark_k.I) (fun go ih p r e => match p with
  | .f y_0 => roadref2_TypeMark_k.step_f go ih y_0 r e
  | .j0 y_1 s_3 => roadref2_TypeMark_k.step_j0 go ih y_1 s_3 r e
  | .l0 s_3 a_19 x_20 x_21 => roadref2_TypeMark_k.step_l0 go ih s_3 a_19 x_20 x_21 r e
  ) e
theorem roadref2_TypeMark.walk {W : Nat → Prop} {h m : Heap} {cs_0 : List Value} {y_0 : T_api_Type} (O : Hold W h m h m []) (e_0 : T_api_Type.E m y_0 cs_0) (tab : TB m) {r : ByteArray} (e : roadref2_TypeMark y_0 = some r) : Run Tryd.prog 46 #[Value.agg cs_0.toArray] h (roadref2_TypeMark.post W h m r) := roadref2_TypeMark_k.all (p := .f y_0) e W h m cs_0 O e_0 tab
def roadref2_PatMark.post (W : Nat → Prop) (h0 m0 : Heap) (r : ByteArray) (v : Value) (h : Heap) : Prop := ∃ m , Hold W h0 m0 h m [] ∧ v = .string r
inductive roadref2_PatMark_k.Pt where
  | f (y_0 : T_api_Pat)
  | j0 (y_1 : T_api_Pat) (s_3 : ByteArray)
  | l0 (s_3 : ByteArray) (a_21 : List T_api_Pat) (x_22 : Int) (x_23 : Int)
noncomputable def roadref2_PatMark_k.body (go : (p : roadref2_PatMark_k.Pt) → Option (ByteArray)) : (p : roadref2_PatMark_k.Pt) → Option (ByteArray)
  | .f y_0 => Option.bind (roadref2_nums ([y_0.Kind, y_0.Num, (((List.length y_0.Args) : Nat) : Int)] : List Int)) fun y15 => Option.bind (roadref2_texts ([y_0.Text] : List ByteArray)) fun y35 => if ByteArray.size y15 + ByteArray.size y35 ≤ 9223372036854775807 then ((go (.j0 y_0 (y15 ++ y35)))) else none
  | .j0 y_1 s_3 => (go (.l0 s_3 y_1.Args (((List.length y_1.Args) : Nat) : Int) (0 : Int)))
  | .l0 s_3 a_21 x_22 x_23 => if x_23 < x_22 then (Option.bind (gi a_21 x_23) fun y1 => Option.bind ((go (.f y1))) fun y14 => if ByteArray.size s_3 + ByteArray.size y14 ≤ 9223372036854775807 then ((go (.l0 (s_3 ++ y14) a_21 x_22 (IntKind.wrap .i64 (x_23 + (1 : Int)))))) else none) else (some (s_3))
theorem roadref2_PatMark_k.mono : MonoF (β := fun _ => (ByteArray)) roadref2_PatMark_k.body := fun f g hfg p => match p with
  | .f y_0 => LeO.bind (LeO.refl _) fun y15 => LeO.bind (LeO.refl _) fun y35 => LeO.ite ((hfg _)) (LeO.refl _)
  | .j0 y_1 s_3 => (hfg _)
  | .l0 s_3 a_21 x_22 x_23 => LeO.ite (LeO.bind (LeO.refl _) fun y1 => LeO.bind ((hfg _)) fun y14 => LeO.ite ((hfg _)) (LeO.refl _)) (LeO.refl _)
noncomputable def roadref2_PatMark_k.go (p : roadref2_PatMark_k.Pt) : Option (ByteArray) := fixF (β := fun _ => (ByteArray)) roadref2_PatMark_k.body p
noncomputable def roadref2_PatMark (y_0 : T_api_Pat) : Option (ByteArray) := roadref2_PatMark_k.go (.f y_0)
noncomputable def roadref2_PatMark.j0 (y_1 : T_api_Pat) (s_3 : ByteArray) : Option (ByteArray) := roadref2_PatMark_k.go (.j0 y_1 s_3)
noncomputable def roadref2_PatMark.l0 (s_3 : ByteArray) (a_21 : List T_api_Pat) (x_22 : Int) (x_23 : Int) : Option (ByteArray) := roadref2_PatMark_k.go (.l0 s_3 a_21 x_22 x_23)
theorem roadref2_PatMark_eq (y_0 : T_api_Pat) : roadref2_PatMark y_0 = Option.bind (roadref2_nums ([y_0.Kind, y_0.Num, (((List.length y_0.Args) : Nat) : Int)] : List Int)) fun y15 => Option.bind (roadref2_texts ([y_0.Text] : List ByteArray)) fun y35 => if ByteArray.size y15 + ByteArray.size y35 ≤ 9223372036854775807 then ((roadref2_PatMark.j0 y_0 (y15 ++ y35))) else none := fixF_eq roadref2_PatMark_k.mono _
theorem roadref2_PatMark.j0_eq (y_1 : T_api_Pat) (s_3 : ByteArray) : roadref2_PatMark.j0 y_1 s_3 = (roadref2_PatMark.l0 s_3 y_1.Args (((List.length y_1.Args) : Nat) : Int) (0 : Int)) := fixF_eq roadref2_PatMark_k.mono _
theorem roadref2_PatMark.l0_eq (s_3 : ByteArray) (a_21 : List T_api_Pat) (x_22 : Int) (x_23 : Int) : roadref2_PatMark.l0 s_3 a_21 x_22 x_23 = if x_23 < x_22 then (Option.bind (gi a_21 x_23) fun y1 => Option.bind ((roadref2_PatMark y1)) fun y14 => if ByteArray.size s_3 + ByteArray.size y14 ≤ 9223372036854775807 then ((roadref2_PatMark.l0 (s_3 ++ y14) a_21 x_22 (IntKind.wrap .i64 (x_23 + (1 : Int))))) else none) else (some (s_3)) := fixF_eq roadref2_PatMark_k.mono _
def roadref2_PatMark_k.I : (p : roadref2_PatMark_k.Pt) → (ByteArray) → Prop
  | .f y_0, r => ∀ (W : Nat → Prop) (h m : Heap) (cs_0 : List Value) (O : Hold W h m h m []) (e_0 : T_api_Pat.E m y_0 cs_0) (tab : TB m), Run Tryd.prog 47 #[Value.agg cs_0.toArray] h (roadref2_PatMark.post W h m r)
  | .j0 y_1 s_3, r => ∀ (W : Nat → Prop) (h0 m0 h m : Heap) (bk_1 : Nat) (cs_1 : List Value) (O : Hold W h0 m0 h m [rV bk_1 48 cs_1]) (e_1 : T_api_Pat.E m y_1 cs_1) (tab : TB m), f47.j0 (roadref2_PatMark.post W h0 m0 r) (⟨bk_1, 0, none⟩ : Addr) s_3 h
  | .l0 s_3 a_21 x_22 x_23, r => ∀ (W : Nat → Prop) (h0 m0 h m : Heap) (A_21 : Option Addr) (n_21 c_21 : Nat) (O : Hold W h0 m0 h m []) (ne_21 : n_21 = List.length a_21) (k_21 : List.length a_21 ≤ c_21) (r_21 : Rd 4 T_api_Pat.E m A_21 a_21) (tab : TB m), f47.l0 (roadref2_PatMark.post W h0 m0 r) s_3 A_21 n_21 c_21 x_22 x_23 h
set_option maxHeartbeats 4000000 in
set_option maxRecDepth 100000 in
theorem roadref2_PatMark_k.step_f (go : (p : roadref2_PatMark_k.Pt) → Option (ByteArray)) (ih : ∀ p r, go p = some r → roadref2_PatMark_k.I p r) (y_0 : T_api_Pat) (r : ByteArray) (e : roadref2_PatMark_k.body go (.f y_0) = some r) : roadref2_PatMark_k.I (.f y_0) r := by
  unfold roadref2_PatMark_k.body at e
  intro W h m cs_0 O e_0 tab
  refine f47.run ?_
  unfold f47.runT
  refine O.new fun h1 x2 O3 => ?_
  refine ⟨_, ld0 (Sub.refl _) (O3.all 0 rfl) (T_api_Pat.g0 e_0), _, rfl, ?_⟩
  refine ⟨_, ldk (k := 1) (Sub.refl _) (O3.all 0 rfl) (T_api_Pat.g1 e_0), _, rfl, ?_⟩
  obtain ⟨A5, c6, q7, k8, r9⟩ := T_api_Pat.g3 e_0
  refine ⟨_, ldk (k := 3) (Sub.refl _) (O3.all 0 rfl) q7, _, _, _, rfl, ?_⟩
  obtain ⟨y15, g16, e⟩ := bind_e e
  obtain ⟨y35, g36, e⟩ := bind_e e
  refine ⟨?_, ?_⟩
  · refine O3.new fun h51 x52 O53 => ?_
    refine ⟨?_, ?_⟩
    · have O55 := O53.rowE (l := ([y_0.Kind, y_0.Num, (((List.length y_0.Args) : Nat) : Int)] : List Int)) 1 rfl (tell_int .i64) (show CsE _ _ _ _ _ from (CsE.cons (c1 := [(Value.int .i64 y_0.Kind)]) rfl rfl (CsE.cons (c1 := [(Value.int .i64 y_0.Num)]) rfl rfl (CsE.cons (c1 := [(Value.int .i64 (((List.length y_0.Args) : Nat) : Int))]) rfl rfl CsE.nil)))) rfl
      have O62 := O55.nm
      obtain ⟨m63, u64, s69, ⟨⟨r67, k68⟩, _⟩, B65, C66⟩ := O62.lend0 [1]
      replace r67 : Rd 1 (eInt .i64) m63 (some ⟨(Array.size h1), 0, none⟩) ([y_0.Kind, y_0.Num, (((List.length y_0.Args) : Nat) : Int)] : List Int) := r67
      replace k68 : List.length ([y_0.Kind, y_0.Num, (((List.length y_0.Args) : Nat) : Int)] : List Int) ≤ 3 := k68
      refine (roadref2_nums.walk (Hold.start (W := No) s69) rfl k68 r67 (TBg.sub tab u64) g16).mono ?_
      rintro _ h58 ⟨m59, Q60, rfl⟩
      have O70 := Hold.nm (C66 Q60 vfs_nil)
      refine ⟨_, rfl, ?_⟩
      refine ⟨_, ldk (k := 2) (Sub.refl _) (O70.all 0 rfl) (T_api_Pat.g2 e_0), _, rfl, ?_⟩
      refine ⟨Ext.refl _, ?_⟩
      refine O70.new fun h71 x72 O73 => ?_
      refine ⟨x72, ?_⟩
      have O75 := O73.rowE (l := ([y_0.Text] : List ByteArray)) 2 rfl tell_str (show CsE _ _ _ _ _ from (CsE.cons (c1 := [(Value.string y_0.Text)]) rfl rfl CsE.nil)) rfl
      have O82 := O75.nm
      obtain ⟨m83, u84, s89, ⟨⟨r87, k88⟩, _⟩, B85, C86⟩ := O82.lend0 [2]
      replace r87 : Rd 1 eStr m83 (some ⟨(Array.size h58), 0, none⟩) ([y_0.Text] : List ByteArray) := r87
      replace k88 : List.length ([y_0.Text] : List ByteArray) ≤ 1 := k88
      refine (roadref2_texts.walk (Hold.start (W := No) s89) rfl k88 r87 (TBg.sub tab u84) g36).mono ?_
      rintro _ h78 ⟨m79, Q80, rfl⟩
      have O90 := Hold.nm (C86 Q80 vfs_nil)
      refine ⟨_, rfl, ?_⟩
      obtain ⟨g91, e⟩ := guard_e e
      refine ⟨g91, ?_⟩
      exact (ih _ _ e) _ _ _ _ _ _ _ (O90.pick [0]).nm e_0 tab
    · refine ⟨_, ldk (k := 2) (Sub.refl _) (O53.all 0 rfl) (T_api_Pat.g2 e_0), _, rfl, ?_⟩
      refine ⟨Ext.refl _, ?_⟩
      refine ⟨?_, ?_⟩
      · have O92 := O53.rowE (l := ([y_0.Kind, y_0.Num, (((List.length y_0.Args) : Nat) : Int)] : List Int)) 1 rfl (tell_int .i64) (show CsE _ _ _ _ _ from (CsE.cons (c1 := [(Value.int .i64 y_0.Kind)]) rfl rfl (CsE.cons (c1 := [(Value.int .i64 y_0.Num)]) rfl rfl (CsE.cons (c1 := [(Value.int .i64 (((List.length y_0.Args) : Nat) : Int))]) rfl rfl CsE.nil)))) rfl
        have O99 := O92.nm
        obtain ⟨m100, u101, s106, ⟨⟨r104, k105⟩, _⟩, B102, C103⟩ := O99.lend0 [1]
        replace r104 : Rd 1 (eInt .i64) m100 (some ⟨(Array.size h1), 0, none⟩) ([y_0.Kind, y_0.Num, (((List.length y_0.Args) : Nat) : Int)] : List Int) := r104
        replace k105 : List.length ([y_0.Kind, y_0.Num, (((List.length y_0.Args) : Nat) : Int)] : List Int) ≤ 3 := k105
        refine (roadref2_nums.walk (Hold.start (W := No) s106) rfl k105 r104 (TBg.sub tab u101) g16).mono ?_
        rintro _ h95 ⟨m96, Q97, rfl⟩
        have O107 := Hold.nm (C103 Q97 vfs_nil)
        refine ⟨_, rfl, ?_⟩
        refine O107.new fun h108 x109 O110 => ?_
        refine ⟨x109, ?_⟩
        have O112 := O110.rowE (l := ([y_0.Text] : List ByteArray)) 2 rfl tell_str (show CsE _ _ _ _ _ from (CsE.cons (c1 := [(Value.string y_0.Text)]) rfl rfl CsE.nil)) rfl
        have O119 := O112.nm
        obtain ⟨m120, u121, s126, ⟨⟨r124, k125⟩, _⟩, B122, C123⟩ := O119.lend0 [2]
        replace r124 : Rd 1 eStr m120 (some ⟨(Array.size h95), 0, none⟩) ([y_0.Text] : List ByteArray) := r124
        replace k125 : List.length ([y_0.Text] : List ByteArray) ≤ 1 := k125
        refine (roadref2_texts.walk (Hold.start (W := No) s126) rfl k125 r124 (TBg.sub tab u121) g36).mono ?_
        rintro _ h115 ⟨m116, Q117, rfl⟩
        have O127 := Hold.nm (C123 Q117 vfs_nil)
        refine ⟨_, rfl, ?_⟩
        obtain ⟨g128, e⟩ := guard_e e
        refine ⟨g128, ?_⟩
        exact (ih _ _ e) _ _ _ _ _ _ _ (O127.pick [0]).nm e_0 tab
      · refine O53.new fun h129 x130 O131 => ?_
        refine ⟨x130, ?_⟩
        have O133 := O131.rowE (l := ([y_0.Kind, y_0.Num, (((List.length y_0.Args) : Nat) : Int)] : List Int)) 1 rfl (tell_int .i64) (show CsE _ _ _ _ _ from (CsE.cons (c1 := [(Value.int .i64 y_0.Kind)]) rfl rfl (CsE.cons (c1 := [(Value.int .i64 y_0.Num)]) rfl rfl (CsE.cons (c1 := [(Value.int .i64 (((List.length y_0.Args) : Nat) : Int))]) rfl rfl CsE.nil)))) rfl
        have O140 := O133.nm
        obtain ⟨m141, u142, s147, ⟨⟨r145, k146⟩, _⟩, B143, C144⟩ := O140.lend0 [1]
        replace r145 : Rd 1 (eInt .i64) m141 (some ⟨(Array.size h1), 0, none⟩) ([y_0.Kind, y_0.Num, (((List.length y_0.Args) : Nat) : Int)] : List Int) := r145
        replace k146 : List.length ([y_0.Kind, y_0.Num, (((List.length y_0.Args) : Nat) : Int)] : List Int) ≤ 3 := k146
        refine (roadref2_nums.walk (Hold.start (W := No) s147) rfl k146 r145 (TBg.sub tab u142) g16).mono ?_
        rintro _ h136 ⟨m137, Q138, rfl⟩
        have O148 := Hold.nm (C144 Q138 vfs_nil)
        refine ⟨_, rfl, ?_⟩
        have O149 := O148.rowE (l := ([y_0.Text] : List ByteArray)) 2 rfl tell_str (show CsE _ _ _ _ _ from (CsE.cons (c1 := [(Value.string y_0.Text)]) rfl rfl CsE.nil)) rfl
        have O156 := O149.nm
        obtain ⟨m157, u158, s163, ⟨⟨r161, k162⟩, _⟩, B159, C160⟩ := O156.lend0 [2]
        replace r161 : Rd 1 eStr m157 (some ⟨(Array.size h51), 0, none⟩) ([y_0.Text] : List ByteArray) := r161
        replace k162 : List.length ([y_0.Text] : List ByteArray) ≤ 1 := k162
        refine (roadref2_texts.walk (Hold.start (W := No) s163) rfl k162 r161 (TBg.sub tab u158) g36).mono ?_
        rintro _ h152 ⟨m153, Q154, rfl⟩
        have O164 := Hold.nm (C160 Q154 vfs_nil)
        refine ⟨_, rfl, ?_⟩
        obtain ⟨g165, e⟩ := guard_e e
        refine ⟨g165, ?_⟩
        exact (ih _ _ e) _ _ _ _ _ _ _ (O164.pick [0]).nm e_0 tab
  · refine ⟨_, ldk (k := 2) (Sub.refl _) (O3.all 0 rfl) (T_api_Pat.g2 e_0), _, rfl, ?_⟩
    refine ⟨Ext.refl _, ?_⟩
    refine ⟨?_, ?_⟩
    · refine O3.new fun h166 x167 O168 => ?_
      refine ⟨?_, ?_⟩
      · have O170 := O168.rowE (l := ([y_0.Kind, y_0.Num, (((List.length y_0.Args) : Nat) : Int)] : List Int)) 1 rfl (tell_int .i64) (show CsE _ _ _ _ _ from (CsE.cons (c1 := [(Value.int .i64 y_0.Kind)]) rfl rfl (CsE.cons (c1 := [(Value.int .i64 y_0.Num)]) rfl rfl (CsE.cons (c1 := [(Value.int .i64 (((List.length y_0.Args) : Nat) : Int))]) rfl rfl CsE.nil)))) rfl
        have O177 := O170.nm
        obtain ⟨m178, u179, s184, ⟨⟨r182, k183⟩, _⟩, B180, C181⟩ := O177.lend0 [1]
        replace r182 : Rd 1 (eInt .i64) m178 (some ⟨(Array.size h1), 0, none⟩) ([y_0.Kind, y_0.Num, (((List.length y_0.Args) : Nat) : Int)] : List Int) := r182
        replace k183 : List.length ([y_0.Kind, y_0.Num, (((List.length y_0.Args) : Nat) : Int)] : List Int) ≤ 3 := k183
        refine (roadref2_nums.walk (Hold.start (W := No) s184) rfl k183 r182 (TBg.sub tab u179) g16).mono ?_
        rintro _ h173 ⟨m174, Q175, rfl⟩
        have O185 := Hold.nm (C181 Q175 vfs_nil)
        refine ⟨_, rfl, ?_⟩
        refine O185.new fun h186 x187 O188 => ?_
        refine ⟨x187, ?_⟩
        have O190 := O188.rowE (l := ([y_0.Text] : List ByteArray)) 2 rfl tell_str (show CsE _ _ _ _ _ from (CsE.cons (c1 := [(Value.string y_0.Text)]) rfl rfl CsE.nil)) rfl
        have O197 := O190.nm
        obtain ⟨m198, u199, s204, ⟨⟨r202, k203⟩, _⟩, B200, C201⟩ := O197.lend0 [2]
        replace r202 : Rd 1 eStr m198 (some ⟨(Array.size h173), 0, none⟩) ([y_0.Text] : List ByteArray) := r202
        replace k203 : List.length ([y_0.Text] : List ByteArray) ≤ 1 := k203
        refine (roadref2_texts.walk (Hold.start (W := No) s204) rfl k203 r202 (TBg.sub tab u199) g36).mono ?_
        rintro _ h193 ⟨m194, Q195, rfl⟩
        have O205 := Hold.nm (C201 Q195 vfs_nil)
        refine ⟨_, rfl, ?_⟩
        obtain ⟨g206, e⟩ := guard_e e
        refine ⟨g206, ?_⟩
        exact (ih _ _ e) _ _ _ _ _ _ _ (O205.pick [0]).nm e_0 tab
      · refine O168.new fun h207 x208 O209 => ?_
        refine ⟨x208, ?_⟩
        have O211 := O209.rowE (l := ([y_0.Kind, y_0.Num, (((List.length y_0.Args) : Nat) : Int)] : List Int)) 1 rfl (tell_int .i64) (show CsE _ _ _ _ _ from (CsE.cons (c1 := [(Value.int .i64 y_0.Kind)]) rfl rfl (CsE.cons (c1 := [(Value.int .i64 y_0.Num)]) rfl rfl (CsE.cons (c1 := [(Value.int .i64 (((List.length y_0.Args) : Nat) : Int))]) rfl rfl CsE.nil)))) rfl
        have O218 := O211.nm
        obtain ⟨m219, u220, s225, ⟨⟨r223, k224⟩, _⟩, B221, C222⟩ := O218.lend0 [1]
        replace r223 : Rd 1 (eInt .i64) m219 (some ⟨(Array.size h1), 0, none⟩) ([y_0.Kind, y_0.Num, (((List.length y_0.Args) : Nat) : Int)] : List Int) := r223
        replace k224 : List.length ([y_0.Kind, y_0.Num, (((List.length y_0.Args) : Nat) : Int)] : List Int) ≤ 3 := k224
        refine (roadref2_nums.walk (Hold.start (W := No) s225) rfl k224 r223 (TBg.sub tab u220) g16).mono ?_
        rintro _ h214 ⟨m215, Q216, rfl⟩
        have O226 := Hold.nm (C222 Q216 vfs_nil)
        refine ⟨_, rfl, ?_⟩
        have O227 := O226.rowE (l := ([y_0.Text] : List ByteArray)) 2 rfl tell_str (show CsE _ _ _ _ _ from (CsE.cons (c1 := [(Value.string y_0.Text)]) rfl rfl CsE.nil)) rfl
        have O234 := O227.nm
        obtain ⟨m235, u236, s241, ⟨⟨r239, k240⟩, _⟩, B237, C238⟩ := O234.lend0 [2]
        replace r239 : Rd 1 eStr m235 (some ⟨(Array.size h166), 0, none⟩) ([y_0.Text] : List ByteArray) := r239
        replace k240 : List.length ([y_0.Text] : List ByteArray) ≤ 1 := k240
        refine (roadref2_texts.walk (Hold.start (W := No) s241) rfl k240 r239 (TBg.sub tab u236) g36).mono ?_
        rintro _ h230 ⟨m231, Q232, rfl⟩
        have O242 := Hold.nm (C238 Q232 vfs_nil)
        refine ⟨_, rfl, ?_⟩
        obtain ⟨g243, e⟩ := guard_e e
        refine ⟨g243, ?_⟩
        exact (ih _ _ e) _ _ _ _ _ _ _ (O242.pick [0]).nm e_0 tab
    · refine O3.new fun h244 x245 O246 => ?_
      refine ⟨x245, ?_⟩
      refine O246.new fun h248 x249 O250 => ?_
      have O252 := O250.rowE (l := ([y_0.Kind, y_0.Num, (((List.length y_0.Args) : Nat) : Int)] : List Int)) 2 rfl (tell_int .i64) (show CsE _ _ _ _ _ from (CsE.cons (c1 := [(Value.int .i64 y_0.Kind)]) rfl rfl (CsE.cons (c1 := [(Value.int .i64 y_0.Num)]) rfl rfl (CsE.cons (c1 := [(Value.int .i64 (((List.length y_0.Args) : Nat) : Int))]) rfl rfl CsE.nil)))) rfl
      have O259 := O252.nm
      obtain ⟨m260, u261, s266, ⟨⟨r264, k265⟩, _⟩, B262, C263⟩ := O259.lend0 [2]
      replace r264 : Rd 1 (eInt .i64) m260 (some ⟨(Array.size h244), 0, none⟩) ([y_0.Kind, y_0.Num, (((List.length y_0.Args) : Nat) : Int)] : List Int) := r264
      replace k265 : List.length ([y_0.Kind, y_0.Num, (((List.length y_0.Args) : Nat) : Int)] : List Int) ≤ 3 := k265
      refine (roadref2_nums.walk (Hold.start (W := No) s266) rfl k265 r264 (TBg.sub tab u261) g16).mono ?_
      rintro _ h255 ⟨m256, Q257, rfl⟩
      have O267 := Hold.nm (C263 Q257 vfs_nil)
      refine ⟨_, rfl, ?_⟩
      have O268 := O267.rowE (l := ([y_0.Text] : List ByteArray)) 1 rfl tell_str (show CsE _ _ _ _ _ from (CsE.cons (c1 := [(Value.string y_0.Text)]) rfl rfl CsE.nil)) rfl
      have O275 := O268.nm
      obtain ⟨m276, u277, s282, ⟨⟨r280, k281⟩, _⟩, B278, C279⟩ := O275.lend0 [1]
      replace r280 : Rd 1 eStr m276 (some ⟨(Array.size h1), 0, none⟩) ([y_0.Text] : List ByteArray) := r280
      replace k281 : List.length ([y_0.Text] : List ByteArray) ≤ 1 := k281
      refine (roadref2_texts.walk (Hold.start (W := No) s282) rfl k281 r280 (TBg.sub tab u277) g36).mono ?_
      rintro _ h271 ⟨m272, Q273, rfl⟩
      have O283 := Hold.nm (C279 Q273 vfs_nil)
      refine ⟨_, rfl, ?_⟩
      obtain ⟨g284, e⟩ := guard_e e
      refine ⟨g284, ?_⟩
      exact (ih _ _ e) _ _ _ _ _ _ _ (O283.pick [0]).nm e_0 tab
set_option maxRecDepth 100000 in
theorem roadref2_PatMark_k.step_j0 (go : (p : roadref2_PatMark_k.Pt) → Option (ByteArray)) (ih : ∀ p r, go p = some r → roadref2_PatMark_k.I p r) (y_1 : T_api_Pat) (s_3 : ByteArray) (r : ByteArray) (e : roadref2_PatMark_k.body go (.j0 y_1 s_3) = some r) : roadref2_PatMark_k.I (.j0 y_1 s_3) r := by
  unfold roadref2_PatMark_k.body at e
  intro W h0 m0 h m bk_1 cs_1 O e_1 tab
  refine f47.j0_in ?_
  unfold f47.j0T
  obtain ⟨A1, c2, q3, k4, r5⟩ := T_api_Pat.g3 e_1
  refine ⟨_, ldk (k := 3) (Sub.refl _) (O.all 0 rfl) q3, _, _, _, rfl, ?_⟩
  exact (ih _ _ e) _ _ _ _ _ _ _ _ (O.pick []).nm rfl k4 r5 tab
set_option maxRecDepth 100000 in
theorem roadref2_PatMark_k.step_l0 (go : (p : roadref2_PatMark_k.Pt) → Option (ByteArray)) (ih : ∀ p r, go p = some r → roadref2_PatMark_k.I p r) (s_3 : ByteArray) (a_21 : List T_api_Pat) (x_22 : Int) (x_23 : Int) (r : ByteArray) (e : roadref2_PatMark_k.body go (.l0 s_3 a_21 x_22 x_23) = some r) : roadref2_PatMark_k.I (.l0 s_3 a_21 x_22 x_23) r := by
  unfold roadref2_PatMark_k.body at e
  intro W h0 m0 h m A_21 n_21 c_21 O ne_21 k_21 r_21 tab
  subst ne_21
  refine f47.l0_in ?_
  unfold f47.l0T
  refine split_dec_e e (fun c22 e => ?_) (fun c22 e => ?_)
  · obtain ⟨y1, g2, e⟩ := bind_e e
    refine r_21.addr rfl g2 fun a3 cs4 ha5 hc6 he7 => ?_
    refine ⟨_, ldAn O.s hc6 rfl, ?_⟩
    refine O.new fun h8 x9 O10 => ?_
    refine ⟨_, rfl, (T_api_Pat.T.len _ _ _ he7), ?_⟩
    refine O10.stA 0 rfl (T_api_Pat.T.len _ _ _ he7) (T_api_Pat.T.flat _ _ _ he7) fun h12 O13 => ?_
    refine ⟨_, ldAn (Sub.refl _) (O13.all 0 rfl) (T_api_Pat.T.len _ _ _ he7), ?_⟩
    obtain ⟨y14, g15, e⟩ := bind_e e
    refine ((ih _ _ g15) _ _ _ _ (Hold.start (W := No) O13.s) he7 tab).mono ?_
    rintro _ h16 ⟨m17, Q18, rfl⟩
    have O20 := Hold.nm (O13.retC Q18 vfs_nil)
    refine ⟨_, rfl, ?_⟩
    obtain ⟨g21, e⟩ := guard_e e
    refine ⟨g21, ?_⟩
    exact (ih _ _ e) _ _ _ _ _ _ _ _ (O20.pick []).nm rfl k_21 r_21 tab
  · cases e
    exact ⟨_, O.pick [], rfl⟩
theorem roadref2_PatMark_k.all {p : roadref2_PatMark_k.Pt} {r : (ByteArray)} (e : roadref2_PatMark_k.go p = some r) : roadref2_PatMark_k.I p r := fixF_ind (β := fun _ => (ByteArray)) roadref2_PatMark_k.mono (I := roadref2_PatMark_k.I) (fun go ih p r e => match p with
  | .f y_0 => roadref2_PatMark_k.step_f go ih y_0 r e
  | .j0 y_1 s_3 => roadref2_PatMark_k.step_j0 go ih y_1 s_3 r e
  | .l0 s_3 a_21 x_22 x_23 => roadref2_PatMark_k.step_l0 go ih s_3 a_21 x_22 x_23 r e
  ) e
theorem roadref2_PatMark.walk {W : Nat → Prop} {h m : Heap} {cs_0 : List Value} {y_0 : T_api_Pat} (O : Hold W h m h m []) (e_0 : T_api_Pat.E m y_0 cs_0) (tab : TB m) {r : ByteArray} (e : roadref2_PatMark y_0 = some r) : Run Tryd.prog 47 #[Value.agg cs_0.toArray] h (roadref2_PatMark.post W h m r) := roadref2_PatMark_k.all (p := .f y_0) e W h m cs_0 O e_0 tab
def roadref2_ExprMark.post (W : Nat → Prop) (h0 m0 : Heap) (r : ByteArray) (v : Value) (h : Heap) : Prop := ∃ m , Hold W h0 m0 h m [] ∧ v = .string r
inductive roadref2_ExprMark_k.Pt where
  | f (y_0 : T_api_Expr)
  | j0 (y_1 : T_api_Expr) (s_3 : ByteArray)
  | l0 (y_1 : T_api_Expr) (s_3 : ByteArray) (a_38 : List T_api_Type) (x_39 : Int) (x_40 : Int)
  | l1 (y_1 : T_api_Expr) (s_3 : ByteArray) (a_50 : List T_api_Expr) (x_51 : Int) (x_52 : Int)
  | l2 (s_3 : ByteArray) (a_62 : List T_api_Arm) (x_63 : Int) (x_64 : Int)
noncomputable def roadref2_ExprMark_k.body (go : (p : roadref2_ExprMark_k.Pt) → Option (ByteArray)) : (p : roadref2_ExprMark_k.Pt) → Option (ByteArray)
  | .f y_0 => Option.bind (roadref2_nums ([y_0.Kind, y_0.Num, (((List.length y_0.Names) : Nat) : Int), (((List.length y_0.Types) : Nat) : Int), (((List.length y_0.Args) : Nat) : Int), (((List.length y_0.Arms) : Nat) : Int)] : List Int)) fun y35 => Option.bind (roadref2_texts ([y_0.Text] : List ByteArray)) fun y55 => if ByteArray.size y35 + ByteArray.size y55 ≤ 9223372036854775807 then (Option.bind (roadref2_texts y_0.Names) fun y71 => if ByteArray.size (y35 ++ y55) + ByteArray.size y71 ≤ 9223372036854775807 then ((go (.j0 y_0 ((y35 ++ y55) ++ y71)))) else none) else none
  | .j0 y_1 s_3 => (go (.l0 y_1 s_3 y_1.Types (((List.length y_1.Types) : Nat) : Int) (0 : Int)))
  | .l0 y_1 s_3 a_38 x_39 x_40 => if x_40 < x_39 then (Option.bind (gi a_38 x_40) fun y1 => Option.bind (roadref2_TypeMark y1) fun y14 => if ByteArray.size s_3 + ByteArray.size y14 ≤ 9223372036854775807 then ((go (.l0 y_1 (s_3 ++ y14) a_38 x_39 (IntKind.wrap .i64 (x_40 + (1 : Int)))))) else none) else ((go (.l1 y_1 s_3 y_1.Args (((List.length y_1.Args) : Nat) : Int) (0 : Int))))
  | .l1 y_1 s_3 a_50 x_51 x_52 => if x_52 < x_51 then (Option.bind (gi a_50 x_52) fun y1 => Option.bind ((go (.f y1))) fun y14 => if ByteArray.size s_3 + ByteArray.size y14 ≤ 9223372036854775807 then ((go (.l1 y_1 (s_3 ++ y14) a_50 x_51 (IntKind.wrap .i64 (x_52 + (1 : Int)))))) else none) else ((go (.l2 s_3 y_1.Arms (((List.length y_1.Arms) : Nat) : Int) (0 : Int))))
  | .l2 s_3 a_62 x_63 x_64 => if x_64 < x_63 then (Option.bind (gi a_62 x_64) fun y1 => Option.bind (roadref2_PatMark y1.Pat) fun y14 => Option.bind ((go (.f y1.Body))) fun y21 => if ByteArray.size y14 + ByteArray.size y21 ≤ 9223372036854775807 then (if ByteArray.size s_3 + ByteArray.size (y14 ++ y21) ≤ 9223372036854775807 then ((go (.l2 (s_3 ++ (y14 ++ y21)) a_62 x_63 (IntKind.wrap .i64 (x_64 + (1 : Int)))))) else none) else none) else (some (s_3))
theorem roadref2_ExprMark_k.mono : MonoF (β := fun _ => (ByteArray)) roadref2_ExprMark_k.body := fun f g hfg p => match p with
  | .f y_0 => LeO.bind (LeO.refl _) fun y35 => LeO.bind (LeO.refl _) fun y55 => LeO.ite (LeO.bind (LeO.refl _) fun y71 => LeO.ite ((hfg _)) (LeO.refl _)) (LeO.refl _)
  | .j0 y_1 s_3 => (hfg _)
  | .l0 y_1 s_3 a_38 x_39 x_40 => LeO.ite (LeO.bind (LeO.refl _) fun y1 => LeO.bind (LeO.refl _) fun y14 => LeO.ite ((hfg _)) (LeO.refl _)) ((hfg _))
  | .l1 y_1 s_3 a_50 x_51 x_52 => LeO.ite (LeO.bind (LeO.refl _) fun y1 => LeO.bind ((hfg _)) fun y14 => LeO.ite ((hfg _)) (LeO.refl _)) ((hfg _))
  | .l2 s_3 a_62 x_63 x_64 => LeO.ite (LeO.bind (LeO.refl _) fun y1 => LeO.bind (LeO.refl _) fun y14 => LeO.bind ((hfg _)) fun y21 => LeO.ite (LeO.ite ((hfg _)) (LeO.refl _)) (LeO.refl _)) (LeO.refl _)
noncomputable def roadref2_ExprMark_k.go (p : roadref2_ExprMark_k.Pt) : Option (ByteArray) := fixF (β := fun _ => (ByteArray)) roadref2_ExprMark_k.body p
noncomputable def roadref2_ExprMark (y_0 : T_api_Expr) : Option (ByteArray) := roadref2_ExprMark_k.go (.f y_0)
noncomputable def roadref2_ExprMark.j0 (y_1 : T_api_Expr) (s_3 : ByteArray) : Option (ByteArray) := roadref2_ExprMark_k.go (.j0 y_1 s_3)
noncomputable def roadref2_ExprMark.l0 (y_1 : T_api_Expr) (s_3 : ByteArray) (a_38 : List T_api_Type) (x_39 : Int) (x_40 : Int) : Option (ByteArray) := roadref2_ExprMark_k.go (.l0 y_1 s_3 a_38 x_39 x_40)
noncomputable def roadref2_ExprMark.l1 (y_1 : T_api_Expr) (s_3 : ByteArray) (a_50 : List T_api_Expr) (x_51 : Int) (x_52 : Int) : Option (ByteArray) := roadref2_ExprMark_k.go (.l1 y_1 s_3 a_50 x_51 x_52)
noncomputable def roadref2_ExprMark.l2 (s_3 : ByteArray) (a_62 : List T_api_Arm) (x_63 : Int) (x_64 : Int) : Option (ByteArray) := roadref2_ExprMark_k.go (.l2 s_3 a_62 x_63 x_64)
theorem roadref2_ExprMark_eq (y_0 : T_api_Expr) : roadref2_ExprMark y_0 = Option.bind (roadref2_nums ([y_0.Kind, y_0.Num, (((List.length y_0.Names) : Nat) : Int), (((List.length y_0.Types) : Nat) : Int), (((List.length y_0.Args) : Nat) : Int), (((List.length y_0.Arms) : Nat) : Int)] : List Int)) fun y35 => Option.bind (roadref2_texts ([y_0.Text] : List ByteArray)) fun y55 => if ByteArray.size y35 + ByteArray.size y55 ≤ 9223372036854775807 then (Option.bind (roadref2_texts y_0.Names) fun y71 => if ByteArray.size (y35 ++ y55) + ByteArray.size y71 ≤ 9223372036854775807 then ((roadref2_ExprMark.j0 y_0 ((y35 ++ y55) ++ y71))) else none) else none := fixF_eq roadref2_ExprMark_k.mono _
theorem roadref2_ExprMark.j0_eq (y_1 : T_api_Expr) (s_3 : ByteArray) : roadref2_ExprMark.j0 y_1 s_3 = (roadref2_ExprMark.l0 y_1 s_3 y_1.Types (((List.length y_1.Types) : Nat) : Int) (0 : Int)) := fixF_eq roadref2_ExprMark_k.mono _
theorem roadref2_ExprMark.l0_eq (y_1 : T_api_Expr) (s_3 : ByteArray) (a_38 : List T_api_Type) (x_39 : Int) (x_40 : Int) : roadref2_ExprMark.l0 y_1 s_3 a_38 x_39 x_40 = if x_40 < x_39 then (Option.bind (gi a_38 x_40) fun y1 => Option.bind (roadref2_TypeMark y1) fun y14 => if ByteArray.size s_3 + ByteArray.size y14 ≤ 9223372036854775807 then ((roadref2_ExprMark.l0 y_1 (s_3 ++ y14) a_38 x_39 (IntKind.wrap .i64 (x_40 + (1 : Int))))) else none) else ((roadref2_ExprMark.l1 y_1 s_3 y_1.Args (((List.length y_1.Args) : Nat) : Int) (0 : Int))) := fixF_eq roadref2_ExprMark_k.mono _
theorem roadref2_ExprMark.l1_eq (y_1 : T_api_Expr) (s_3 : ByteArray) (a_50 : List T_api_Expr) (x_51 : Int) (x_52 : Int) : roadref2_ExprMark.l1 y_1 s_3 a_50 x_51 x_52 = if x_52 < x_51 then (Option.bind (gi a_50 x_52) fun y1 => Option.bind ((roadref2_ExprMark y1)) fun y14 => if ByteArray.size s_3 + ByteArray.size y14 ≤ 9223372036854775807 then ((roadref2_ExprMark.l1 y_1 (s_3 ++ y14) a_50 x_51 (IntKind.wrap .i64 (x_52 + (1 : Int))))) else none) else ((roadref2_ExprMark.l2 s_3 y_1.Arms (((List.length y_1.Arms) : Nat) : Int) (0 : Int))) := fixF_eq roadref2_ExprMark_k.mono _
theorem roadref2_ExprMark.l2_eq (s_3 : ByteArray) (a_62 : List T_api_Arm) (x_63 : Int) (x_64 : Int) : roadref2_ExprMark.l2 s_3 a_62 x_63 x_64 = if x_64 < x_63 then (Option.bind (gi a_62 x_64) fun y1 => Option.bind (roadref2_PatMark y1.Pat) fun y14 => Option.bind ((roadref2_ExprMark y1.Body)) fun y21 => if ByteArray.size y14 + ByteArray.size y21 ≤ 9223372036854775807 then (if ByteArray.size s_3 + ByteArray.size (y14 ++ y21) ≤ 9223372036854775807 then ((roadref2_ExprMark.l2 (s_3 ++ (y14 ++ y21)) a_62 x_63 (IntKind.wrap .i64 (x_64 + (1 : Int))))) else none) else none) else (some (s_3)) := fixF_eq roadref2_ExprMark_k.mono _
def roadref2_ExprMark_k.I : (p : roadref2_ExprMark_k.Pt) → (ByteArray) → Prop
  | .f y_0, r => ∀ (W : Nat → Prop) (h m : Heap) (cs_0 : List Value) (O : Hold W h m h m []) (e_0 : T_api_Expr.E m y_0 cs_0) (tab : TB m), Run Tryd.prog 10 #[Value.agg cs_0.toArray] h (roadref2_ExprMark.post W h m r)
  | .j0 y_1 s_3, r => ∀ (W : Nat → Prop) (h0 m0 h m : Heap) (bk_1 : Nat) (cs_1 : List Value) (O : Hold W h0 m0 h m [rV bk_1 40 cs_1]) (e_1 : T_api_Expr.E m y_1 cs_1) (tab : TB m), f10.j0 (roadref2_ExprMark.post W h0 m0 r) (⟨bk_1, 0, none⟩ : Addr) s_3 h
  | .l0 y_1 s_3 a_38 x_39 x_40, r => ∀ (W : Nat → Prop) (h0 m0 h m : Heap) (bk_1 : Nat) (cs_1 : List Value) (A_38 : Option Addr) (n_38 c_38 : Nat) (O : Hold W h0 m0 h m [rV bk_1 40 cs_1]) (e_1 : T_api_Expr.E m y_1 cs_1) (ne_38 : n_38 = List.length a_38) (k_38 : List.length a_38 ≤ c_38) (r_38 : Rd 3 T_api_Type.E m A_38 a_38) (tab : TB m), f10.l0 (roadref2_ExprMark.post W h0 m0 r) (⟨bk_1, 0, none⟩ : Addr) s_3 A_38 n_38 c_38 x_39 x_40 h
  | .l1 y_1 s_3 a_50 x_51 x_52, r => ∀ (W : Nat → Prop) (h0 m0 h m : Heap) (bk_1 : Nat) (cs_1 : List Value) (A_50 : Option Addr) (n_50 c_50 : Nat) (O : Hold W h0 m0 h m [rV bk_1 40 cs_1]) (e_1 : T_api_Expr.E m y_1 cs_1) (ne_50 : n_50 = List.length a_50) (k_50 : List.length a_50 ≤ c_50) (r_50 : Rd 8 T_api_Expr.E m A_50 a_50) (tab : TB m), f10.l1 (roadref2_ExprMark.post W h0 m0 r) (⟨bk_1, 0, none⟩ : Addr) s_3 A_50 n_50 c_50 x_51 x_52 h
  | .l2 s_3 a_62 x_63 x_64, r => ∀ (W : Nat → Prop) (h0 m0 h m : Heap) (A_62 : Option Addr) (n_62 c_62 : Nat) (O : Hold W h0 m0 h m []) (ne_62 : n_62 = List.length a_62) (k_62 : List.length a_62 ≤ c_62) (r_62 : Rd 12 T_api_Arm.E m A_62 a_62) (tab : TB m), f10.l2 (roadref2_ExprMark.post W h0 m0 r) s_3 A_62 n_62 c_62 x_63 x_64 h
set_option maxHeartbeats 4000000 in
set_option maxRecDepth 100000 in
theorem roadref2_ExprMark_k.step_f (go : (p : roadref2_ExprMark_k.Pt) → Option (ByteArray)) (ih : ∀ p r, go p = some r → roadref2_ExprMark_k.I p r) (y_0 : T_api_Expr) (r : ByteArray) (e : roadref2_ExprMark_k.body go (.f y_0) = some r) : roadref2_ExprMark_k.I (.f y_0) r := by
  unfold roadref2_ExprMark_k.body at e
  intro W h m cs_0 O e_0 tab
  refine f10.run ?_
  unfold f10.runT
  refine O.new fun h1 x2 O3 => ?_
  refine ⟨_, ld0 (Sub.refl _) (O3.all 0 rfl) (T_api_Expr.g0 e_0), _, rfl, ?_⟩
  refine ⟨_, ldk (k := 1) (Sub.refl _) (O3.all 0 rfl) (T_api_Expr.g1 e_0), _, rfl, ?_⟩
  obtain ⟨A5, c6, q7, k8, r9⟩ := T_api_Expr.g3 e_0
  refine ⟨_, ldk (k := 3) (Sub.refl _) (O3.all 0 rfl) q7, _, _, _, rfl, ?_⟩
  obtain ⟨A10, c11, q12, k13, r14⟩ := T_api_Expr.g4 e_0
  refine ⟨_, ldk (k := 4) (Sub.refl _) (O3.all 0 rfl) q12, _, _, _, rfl, ?_⟩
  obtain ⟨A15, c16, q17, k18, r19⟩ := T_api_Expr.g5 e_0
  refine ⟨_, ldk (k := 5) (Sub.refl _) (O3.all 0 rfl) q17, _, _, _, rfl, ?_⟩
  obtain ⟨A20, c21, q22, k23, r24⟩ := T_api_Expr.g6 e_0
  refine ⟨_, ldk (k := 6) (Sub.refl _) (O3.all 0 rfl) q22, _, _, _, rfl, ?_⟩
  refine ⟨_, ldk (k := 2) (Sub.refl _) (O3.all 0 rfl) (T_api_Expr.g2 e_0), _, rfl, ?_⟩
  obtain ⟨A25, c26, q27, k28, r29⟩ := T_api_Expr.g3 e_0
  refine ⟨_, ldk (k := 3) (Sub.refl _) (O3.all 0 rfl) q27, _, _, _, rfl, ?_⟩
  obtain ⟨y35, g36, e⟩ := bind_e e
  obtain ⟨y55, g56, e⟩ := bind_e e
  obtain ⟨g70, e⟩ := guard_e e
  obtain ⟨y71, g72, e⟩ := bind_e e
  refine ⟨?_, ?_⟩
  · refine O3.new fun h79 x80 O81 => ?_
    refine ⟨x80, ?_⟩
    refine ⟨?_, ?_⟩
    · have O83 := O81.rowE (l := ([y_0.Kind, y_0.Num, (((List.length y_0.Names) : Nat) : Int), (((List.length y_0.Types) : Nat) : Int), (((List.length y_0.Args) : Nat) : Int), (((List.length y_0.Arms) : Nat) : Int)] : List Int)) 1 rfl (tell_int .i64) (show CsE _ _ _ _ _ from (CsE.cons (c1 := [(Value.int .i64 y_0.Kind)]) rfl rfl (CsE.cons (c1 := [(Value.int .i64 y_0.Num)]) rfl rfl (CsE.cons (c1 := [(Value.int .i64 (((List.length y_0.Names) : Nat) : Int))]) rfl rfl (CsE.cons (c1 := [(Value.int .i64 (((List.length y_0.Types) : Nat) : Int))]) rfl rfl (CsE.cons (c1 := [(Value.int .i64 (((List.length y_0.Args) : Nat) : Int))]) rfl rfl (CsE.cons (c1 := [(Value.int .i64 (((List.length y_0.Arms) : Nat) : Int))]) rfl rfl CsE.nil))))))) rfl
      have O90 := O83.nm
      obtain ⟨m91, u92, s97, ⟨⟨r95, k96⟩, _⟩, B93, C94⟩ := O90.lend0 [1]
      replace r95 : Rd 1 (eInt .i64) m91 (some ⟨(Array.size h1), 0, none⟩) ([y_0.Kind, y_0.Num, (((List.length y_0.Names) : Nat) : Int), (((List.length y_0.Types) : Nat) : Int), (((List.length y_0.Args) : Nat) : Int), (((List.length y_0.Arms) : Nat) : Int)] : List Int) := r95
      replace k96 : List.length ([y_0.Kind, y_0.Num, (((List.length y_0.Names) : Nat) : Int), (((List.length y_0.Types) : Nat) : Int), (((List.length y_0.Args) : Nat) : Int), (((List.length y_0.Arms) : Nat) : Int)] : List Int) ≤ 6 := k96
      refine (roadref2_nums.walk (Hold.start (W := No) s97) rfl k96 r95 (TBg.sub tab u92) g36).mono ?_
      rintro _ h86 ⟨m87, Q88, rfl⟩
      have O98 := Hold.nm (C94 Q88 vfs_nil)
      refine ⟨_, rfl, ?_⟩
      refine ⟨Q88.S.ext, ?_⟩
      refine O98.new fun h99 x100 O101 => ?_
      refine ⟨x100, ?_⟩
      have O103 := O101.rowE (l := ([y_0.Text] : List ByteArray)) 2 rfl tell_str (show CsE _ _ _ _ _ from (CsE.cons (c1 := [(Value.string y_0.Text)]) rfl rfl CsE.nil)) rfl
      have O110 := O103.nm
      obtain ⟨m111, u112, s117, ⟨⟨r115, k116⟩, _⟩, B113, C114⟩ := O110.lend0 [2]
      replace r115 : Rd 1 eStr m111 (some ⟨(Array.size h86), 0, none⟩) ([y_0.Text] : List ByteArray) := r115
      replace k116 : List.length ([y_0.Text] : List ByteArray) ≤ 1 := k116
      refine (roadref2_texts.walk (Hold.start (W := No) s117) rfl k116 r115 (TBg.sub tab u112) g56).mono ?_
      rintro _ h106 ⟨m107, Q108, rfl⟩
      have O118 := Hold.nm (C114 Q108 vfs_nil)
      refine ⟨_, rfl, ?_⟩
      refine ⟨Q108.S.ext, ?_⟩
      refine ⟨g70, ?_⟩
      refine (roadref2_texts.walk (Hold.start (W := No) O118.s) rfl k28 r29 tab g72).mono ?_
      rintro _ h122 ⟨m123, Q124, rfl⟩
      have O126 := Hold.nm (O118.retC Q124 vfs_nil)
      refine ⟨_, rfl, ?_⟩
      obtain ⟨g127, e⟩ := guard_e e
      refine ⟨g127, ?_⟩
      exact (ih _ _ e) _ _ _ _ _ _ _ (O126.pick [0]).nm e_0 tab
    · refine O81.new fun h128 x129 O130 => ?_
      refine ⟨x129, ?_⟩
      have O132 := O130.rowE (l := ([y_0.Kind, y_0.Num, (((List.length y_0.Names) : Nat) : Int), (((List.length y_0.Types) : Nat) : Int), (((List.length y_0.Args) : Nat) : Int), (((List.length y_0.Arms) : Nat) : Int)] : List Int)) 1 rfl (tell_int .i64) (show CsE _ _ _ _ _ from (CsE.cons (c1 := [(Value.int .i64 y_0.Kind)]) rfl rfl (CsE.cons (c1 := [(Value.int .i64 y_0.Num)]) rfl rfl (CsE.cons (c1 := [(Value.int .i64 (((List.length y_0.Names) : Nat) : Int))]) rfl rfl (CsE.cons (c1 := [(Value.int .i64 (((List.length y_0.Types) : Nat) : Int))]) rfl rfl (CsE.cons (c1 := [(Value.int .i64 (((List.length y_0.Args) : Nat) : Int))]) rfl rfl (CsE.cons (c1 := [(Value.int .i64 (((List.length y_0.Arms) : Nat) : Int))]) rfl rfl CsE.nil))))))) rfl
      have O139 := O132.nm
      obtain ⟨m140, u141, s146, ⟨⟨r144, k145⟩, _⟩, B142, C143⟩ := O139.lend0 [1]
      replace r144 : Rd 1 (eInt .i64) m140 (some ⟨(Array.size h1), 0, none⟩) ([y_0.Kind, y_0.Num, (((List.length y_0.Names) : Nat) : Int), (((List.length y_0.Types) : Nat) : Int), (((List.length y_0.Args) : Nat) : Int), (((List.length y_0.Arms) : Nat) : Int)] : List Int) := r144
      replace k145 : List.length ([y_0.Kind, y_0.Num, (((List.length y_0.Names) : Nat) : Int), (((List.length y_0.Types) : Nat) : Int), (((List.length y_0.Args) : Nat) : Int), (((List.length y_0.Arms) : Nat) : Int)] : List Int) ≤ 6 := k145
      refine (roadref2_nums.walk (Hold.start (W := No) s146) rfl k145 r144 (TBg.sub tab u141) g36).mono ?_
      rintro _ h135 ⟨m136, Q137, rfl⟩
      have O147 := Hold.nm (C143 Q137 vfs_nil)
      refine ⟨_, rfl, ?_⟩
      refine ⟨Q137.S.ext, ?_⟩
      have O148 := O147.rowE (l := ([y_0.Text] : List ByteArray)) 2 rfl tell_str (show CsE _ _ _ _ _ from (CsE.cons (c1 := [(Value.string y_0.Text)]) rfl rfl CsE.nil)) rfl
      have O155 := O148.nm
      obtain ⟨m156, u157, s162, ⟨⟨r160, k161⟩, _⟩, B158, C159⟩ := O155.lend0 [2]
      replace r160 : Rd 1 eStr m156 (some ⟨(Array.size h79), 0, none⟩) ([y_0.Text] : List ByteArray) := r160
      replace k161 : List.length ([y_0.Text] : List ByteArray) ≤ 1 := k161
      refine (roadref2_texts.walk (Hold.start (W := No) s162) rfl k161 r160 (TBg.sub tab u157) g56).mono ?_
      rintro _ h151 ⟨m152, Q153, rfl⟩
      have O163 := Hold.nm (C159 Q153 vfs_nil)
      refine ⟨_, rfl, ?_⟩
      refine ⟨Q153.S.ext, ?_⟩
      refine ⟨g70, ?_⟩
      refine (roadref2_texts.walk (Hold.start (W := No) O163.s) rfl k28 r29 tab g72).mono ?_
      rintro _ h167 ⟨m168, Q169, rfl⟩
      have O171 := Hold.nm (O163.retC Q169 vfs_nil)
      refine ⟨_, rfl, ?_⟩
      obtain ⟨g172, e⟩ := guard_e e
      refine ⟨g172, ?_⟩
      exact (ih _ _ e) _ _ _ _ _ _ _ (O171.pick [0]).nm e_0 tab
  · refine O3.new fun h173 x174 O175 => ?_
    refine ⟨x174, ?_⟩
    refine O175.new fun h177 x178 O179 => ?_
    refine ⟨x178, ?_⟩
    have O181 := O179.rowE (l := ([y_0.Kind, y_0.Num, (((List.length y_0.Names) : Nat) : Int), (((List.length y_0.Types) : Nat) : Int), (((List.length y_0.Args) : Nat) : Int), (((List.length y_0.Arms) : Nat) : Int)] : List Int)) 2 rfl (tell_int .i64) (show CsE _ _ _ _ _ from (CsE.cons (c1 := [(Value.int .i64 y_0.Kind)]) rfl rfl (CsE.cons (c1 := [(Value.int .i64 y_0.Num)]) rfl rfl (CsE.cons (c1 := [(Value.int .i64 (((List.length y_0.Names) : Nat) : Int))]) rfl rfl (CsE.cons (c1 := [(Value.int .i64 (((List.length y_0.Types) : Nat) : Int))]) rfl rfl (CsE.cons (c1 := [(Value.int .i64 (((List.length y_0.Args) : Nat) : Int))]) rfl rfl (CsE.cons (c1 := [(Value.int .i64 (((List.length y_0.Arms) : Nat) : Int))]) rfl rfl CsE.nil))))))) rfl
    have O188 := O181.nm
    obtain ⟨m189, u190, s195, ⟨⟨r193, k194⟩, _⟩, B191, C192⟩ := O188.lend0 [2]
    replace r193 : Rd 1 (eInt .i64) m189 (some ⟨(Array.size h173), 0, none⟩) ([y_0.Kind, y_0.Num, (((List.length y_0.Names) : Nat) : Int), (((List.length y_0.Types) : Nat) : Int), (((List.length y_0.Args) : Nat) : Int), (((List.length y_0.Arms) : Nat) : Int)] : List Int) := r193
    replace k194 : List.length ([y_0.Kind, y_0.Num, (((List.length y_0.Names) : Nat) : Int), (((List.length y_0.Types) : Nat) : Int), (((List.length y_0.Args) : Nat) : Int), (((List.length y_0.Arms) : Nat) : Int)] : List Int) ≤ 6 := k194
    refine (roadref2_nums.walk (Hold.start (W := No) s195) rfl k194 r193 (TBg.sub tab u190) g36).mono ?_
    rintro _ h184 ⟨m185, Q186, rfl⟩
    have O196 := Hold.nm (C192 Q186 vfs_nil)
    refine ⟨_, rfl, ?_⟩
    refine ⟨Q186.S.ext, ?_⟩
    have O197 := O196.rowE (l := ([y_0.Text] : List ByteArray)) 1 rfl tell_str (show CsE _ _ _ _ _ from (CsE.cons (c1 := [(Value.string y_0.Text)]) rfl rfl CsE.nil)) rfl
    have O204 := O197.nm
    obtain ⟨m205, u206, s211, ⟨⟨r209, k210⟩, _⟩, B207, C208⟩ := O204.lend0 [1]
    replace r209 : Rd 1 eStr m205 (some ⟨(Array.size h1), 0, none⟩) ([y_0.Text] : List ByteArray) := r209
    replace k210 : List.length ([y_0.Text] : List ByteArray) ≤ 1 := k210
    refine (roadref2_texts.walk (Hold.start (W := No) s211) rfl k210 r209 (TBg.sub tab u206) g56).mono ?_
    rintro _ h200 ⟨m201, Q202, rfl⟩
    have O212 := Hold.nm (C208 Q202 vfs_nil)
    refine ⟨_, rfl, ?_⟩
    refine ⟨Q202.S.ext, ?_⟩
    refine ⟨g70, ?_⟩
    refine (roadref2_texts.walk (Hold.start (W := No) O212.s) rfl k28 r29 tab g72).mono ?_
    rintro _ h216 ⟨m217, Q218, rfl⟩
    have O220 := Hold.nm (O212.retC Q218 vfs_nil)
    refine ⟨_, rfl, ?_⟩
    obtain ⟨g221, e⟩ := guard_e e
    refine ⟨g221, ?_⟩
    exact (ih _ _ e) _ _ _ _ _ _ _ (O220.pick [0]).nm e_0 tab
set_option maxRecDepth 100000 in
theorem roadref2_ExprMark_k.step_j0 (go : (p : roadref2_ExprMark_k.Pt) → Option (ByteArray)) (ih : ∀ p r, go p = some r → roadref2_ExprMark_k.I p r) (y_1 : T_api_Expr) (s_3 : ByteArray) (r : ByteArray) (e : roadref2_ExprMark_k.body go (.j0 y_1 s_3) = some r) : roadref2_ExprMark_k.I (.j0 y_1 s_3) r := by
  unfold roadref2_ExprMark_k.body at e
  intro W h0 m0 h m bk_1 cs_1 O e_1 tab
  refine f10.j0_in ?_
  unfold f10.j0T
  obtain ⟨A1, c2, q3, k4, r5⟩ := T_api_Expr.g4 e_1
  refine ⟨_, ldk (k := 4) (Sub.refl _) (O.all 0 rfl) q3, _, _, _, rfl, ?_⟩
  exact (ih _ _ e) _ _ _ _ _ _ _ _ _ _ (O.pick [0]).nm e_1 rfl k4 r5 tab
set_option maxRecDepth 100000 in
theorem roadref2_ExprMark_k.step_l0 (go : (p : roadref2_ExprMark_k.Pt) → Option (ByteArray)) (ih : ∀ p r, go p = some r → roadref2_ExprMark_k.I p r) (y_1 : T_api_Expr) (s_3 : ByteArray) (a_38 : List T_api_Type) (x_39 : Int) (x_40 : Int) (r : ByteArray) (e : roadref2_ExprMark_k.body go (.l0 y_1 s_3 a_38 x_39 x_40) = some r) : roadref2_ExprMark_k.I (.l0 y_1 s_3 a_38 x_39 x_40) r := by
  unfold roadref2_ExprMark_k.body at e
  intro W h0 m0 h m bk_1 cs_1 A_38 n_38 c_38 O e_1 ne_38 k_38 r_38 tab
  subst ne_38
  refine f10.l0_in ?_
  unfold f10.l0T
  refine split_dec_e e (fun c27 e => ?_) (fun c27 e => ?_)
  · obtain ⟨y1, g2, e⟩ := bind_e e
    refine r_38.addr rfl g2 fun a3 cs4 ha5 hc6 he7 => ?_
    refine ⟨_, ldAn O.s hc6 rfl, ?_⟩
    refine O.new fun h8 x9 O10 => ?_
    refine ⟨_, rfl, (T_api_Type.T.len _ _ _ he7), ?_⟩
    refine O10.stA 1 rfl (T_api_Type.T.len _ _ _ he7) (T_api_Type.T.flat _ _ _ he7) fun h12 O13 => ?_
    refine ⟨_, ldAn (Sub.refl _) (O13.all 1 rfl) (T_api_Type.T.len _ _ _ he7), ?_⟩
    obtain ⟨y14, g15, e⟩ := bind_e e
    refine (roadref2_TypeMark.walk (Hold.start (W := No) O13.s) he7 tab g15).mono ?_
    rintro _ h16 ⟨m17, Q18, rfl⟩
    have O20 := Hold.nm (O13.retC Q18 vfs_nil)
    refine ⟨_, rfl, ?_⟩
    obtain ⟨g21, e⟩ := guard_e e
    refine ⟨g21, ?_⟩
    exact (ih _ _ e) _ _ _ _ _ _ _ _ _ _ (O20.pick [0]).nm e_1 rfl k_38 r_38 tab
  · obtain ⟨A22, c23, q24, k25, r26⟩ := T_api_Expr.g5 e_1
    refine ⟨_, ldk (k := 5) (Sub.refl _) (O.all 0 rfl) q24, _, _, _, rfl, ?_⟩
    exact (ih _ _ e) _ _ _ _ _ _ _ _ _ _ (O.pick [0]).nm e_1 rfl k25 r26 tab
set_option maxRecDepth 100000 in
theorem roadref2_ExprMark_k.step_l1 (go : (p : roadref2_ExprMark_k.Pt) → Option (ByteArray)) (ih : ∀ p r, go p = some r → roadref2_ExprMark_k.I p r) (y_1 : T_api_Expr) (s_3 : ByteArray) (a_50 : List T_api_Expr) (x_51 : Int) (x_52 : Int) (r : ByteArray) (e : roadref2_ExprMark_k.body go (.l1 y_1 s_3 a_50 x_51 x_52) = some r) : roadref2_ExprMark_k.I (.l1 y_1 s_3 a_50 x_51 x_52) r := by
  unfold roadref2_ExprMark_k.body at e
  intro W h0 m0 h m bk_1 cs_1 A_50 n_50 c_50 O e_1 ne_50 k_50 r_50 tab
  subst ne_50
  refine f10.l1_in ?_
  unfold f10.l1T
  refine split_dec_e e (fun c27 e => ?_) (fun c27 e => ?_)
  · obtain ⟨y1, g2, e⟩ := bind_e e
    refine r_50.addr rfl g2 fun a3 cs4 ha5 hc6 he7 => ?_
    refine ⟨_, ldAn O.s hc6 rfl, ?_⟩
    refine O.new fun h8 x9 O10 => ?_
    refine ⟨_, rfl, (T_api_Expr.T.len _ _ _ he7), ?_⟩
    refine O10.stA 1 rfl (T_api_Expr.T.len _ _ _ he7) (T_api_Expr.T.flat _ _ _ he7) fun h12 O13 => ?_
    refine ⟨_, ldAn (Sub.refl _) (O13.all 1 rfl) (T_api_Expr.T.len _ _ _ he7), ?_⟩
    obtain ⟨y14, g15, e⟩ := bind_e e
    refine ((ih _ _ g15) _ _ _ _ (Hold.start (W := No) O13.s) he7 tab).mono ?_
    rintro _ h16 ⟨m17, Q18, rfl⟩
    have O20 := Hold.nm (O13.retC Q18 vfs_nil)
    refine ⟨_, rfl, ?_⟩
    obtain ⟨g21, e⟩ := guard_e e
    refine ⟨g21, ?_⟩
    exact (ih _ _ e) _ _ _ _ _ _ _ _ _ _ (O20.pick [0]).nm e_1 rfl k_50 r_50 tab
  · obtain ⟨A22, c23, q24, k25, r26⟩ := T_api_Expr.g6 e_1
    refine ⟨_, ldk (k := 6) (Sub.refl _) (O.all 0 rfl) q24, _, _, _, rfl, ?_⟩
    exact (ih _ _ e) _ _ _ _ _ _ _ _ (O.pick []).nm rfl k25 r26 tab
set_option maxHeartbeats 4000000 in
set_option maxRecDepth 100000 in
theorem roadref2_ExprMark_k.step_l2 (go : (p : roadref2_ExprMark_k.Pt) → Option (ByteArray)) (ih : ∀ p r, go p = some r → roadref2_ExprMark_k.I p r) (s_3 : ByteArray) (a_62 : List T_api_Arm) (x_63 : Int) (x_64 : Int) (r : ByteArray) (e : roadref2_ExprMark_k.body go (.l2 s_3 a_62 x_63 x_64) = some r) : roadref2_ExprMark_k.I (.l2 s_3 a_62 x_63 x_64) r := by
  unfold roadref2_ExprMark_k.body at e
  intro W h0 m0 h m A_62 n_62 c_62 O ne_62 k_62 r_62 tab
  subst ne_62
  refine f10.l2_in ?_
  unfold f10.l2T
  refine split_dec_e e (fun c62 e => ?_) (fun c62 e => ?_)
  · obtain ⟨y1, g2, e⟩ := bind_e e
    refine r_62.addr rfl g2 fun a3 cs4 ha5 hc6 he7 => ?_
    refine ⟨_, ldAn O.s hc6 rfl, ?_⟩
    refine O.new fun h8 x9 O10 => ?_
    refine ⟨_, rfl, (T_api_Arm.T.len _ _ _ he7), ?_⟩
    refine O10.stA 0 rfl (T_api_Arm.T.len _ _ _ he7) (T_api_Arm.T.flat _ _ _ he7) fun h12 O13 => ?_
    refine ⟨_, ldA0n (Sub.refl _) (O13.all 0 rfl) 4 (le_len (T_api_Arm.T.len _ _ _ he7) (by decide)), ?_⟩
    obtain ⟨y14, g15, e⟩ := bind_e e
    obtain ⟨y21, g22, e⟩ := bind_e e
    refine ⟨?_, ?_⟩
    · refine (roadref2_PatMark.walk (Hold.start (W := No) O13.s) (T_api_Arm.u0_48 he7) tab g15).mono ?_
      rintro _ h32 ⟨m33, Q34, rfl⟩
      have O36 := Hold.nm (O13.retC Q34 vfs_nil)
      refine ⟨_, rfl, ?_⟩
      refine ⟨_, ldAkn (Sub.refl _) (O36.all 0 rfl) 4 8 (le_len (T_api_Arm.T.len _ _ _ he7) (by decide)), ?_⟩
      refine ⟨Ext.refl _, ?_⟩
      refine ((ih _ _ g22) _ _ _ _ (Hold.start (W := No) O36.s) (T_api_Arm.u4_40 he7) tab).mono ?_
      rintro _ h39 ⟨m40, Q41, rfl⟩
      have O43 := Hold.nm (O36.retC Q41 vfs_nil)
      refine ⟨_, rfl, ?_⟩
      obtain ⟨g44, e⟩ := guard_e e
      refine ⟨g44, ?_⟩
      obtain ⟨g45, e⟩ := guard_e e
      refine ⟨g45, ?_⟩
      exact (ih _ _ e) _ _ _ _ _ _ _ _ (O43.pick []).nm rfl k_62 r_62 tab
    · refine ⟨_, ldAkn (Sub.refl _) (O13.all 0 rfl) 4 8 (le_len (T_api_Arm.T.len _ _ _ he7) (by decide)), ?_⟩
      refine ⟨Ext.refl _, ?_⟩
      refine (roadref2_PatMark.walk (Hold.start (W := No) O13.s) (T_api_Arm.u0_48 he7) tab g15).mono ?_
      rintro _ h48 ⟨m49, Q50, rfl⟩
      have O52 := Hold.nm (O13.retC Q50 vfs_nil)
      refine ⟨_, rfl, ?_⟩
      refine ((ih _ _ g22) _ _ _ _ (Hold.start (W := No) O52.s) (T_api_Arm.u4_40 he7) tab).mono ?_
      rintro _ h55 ⟨m56, Q57, rfl⟩
      have O59 := Hold.nm (O52.retC Q57 vfs_nil)
      refine ⟨_, rfl, ?_⟩
      obtain ⟨g60, e⟩ := guard_e e
      refine ⟨g60, ?_⟩
      obtain ⟨g61, e⟩ := guard_e e
      refine ⟨g61, ?_⟩
      exact (ih _ _ e) _ _ _ _ _ _ _ _ (O59.pick []).nm rfl k_62 r_62 tab
  · cases e
    exact ⟨_, O.pick [], rfl⟩
theorem roadref2_ExprMark_k.all {p : roadref2_ExprMark_k.Pt} {r : (ByteArray)} (e : roadref2_ExprMark_k.go p = some r) : roadref2_ExprMark_k.I p r := fixF_ind (β := fun _ => (ByteArray)) roadref2_ExprMark_k.mono (I := roadref2_ExprMark_k.I) (fun go ih p r e => match p with
  | .f y_0 => roadref2_ExprMark_k.step_f go ih y_0 r e
  | .j0 y_1 s_3 => roadref2_ExprMark_k.step_j0 go ih y_1 s_3 r e
  | .l0 y_1 s_3 a_38 x_39 x_40 => roadref2_ExprMark_k.step_l0 go ih y_1 s_3 a_38 x_39 x_40 r e
  | .l1 y_1 s_3 a_50 x_51 x_52 => roadref2_ExprMark_k.step_l1 go ih y_1 s_3 a_50 x_51 x_52 r e
  | .l2 s_3 a_62 x_63 x_64 => roadref2_ExprMark_k.step_l2 go ih s_3 a_62 x_63 x_64 r e
  ) e
theorem roadref2_ExprMark.walk {W : Nat → Prop} {h m : Heap} {cs_0 : List Value} {y_0 : T_api_Expr} (O : Hold W h m h m []) (e_0 : T_api_Expr.E m y_0 cs_0) (tab : TB m) {r : ByteArray} (e : roadref2_ExprMark y_0 = some r) : Run Tryd.prog 10 #[Value.agg cs_0.toArray] h (roadref2_ExprMark.post W h m r) := roadref2_ExprMark_k.all (p := .f y_0) e W h m cs_0 O e_0 tab
def roadref2_namesMark.post (W : Nat → Prop) (h0 m0 : Heap) (r : ByteArray) (v : Value) (h : Heap) : Prop := ∃ m , Hold W h0 m0 h m [] ∧ v = .string r
noncomputable def roadref2_namesMark (a_0 : List ByteArray) : Option (ByteArray) :=
  Option.bind (roadref2_nums ([(((List.length a_0) : Nat) : Int)] : List Int)) fun y6 => Option.bind (roadref2_texts a_0) fun y21 => if ByteArray.size y6 + ByteArray.size y21 ≤ 9223372036854775807 then (some ((y6 ++ y21))) else none
set_option maxRecDepth 100000 in
theorem roadref2_namesMark.walk {W : Nat → Prop} {h m : Heap} {A_0 : Option Addr} {n_0 c_0 : Nat} {a_0 : List ByteArray} (O : Hold W h m h m []) (ne_0 : n_0 = List.length a_0) (k_0 : List.length a_0 ≤ c_0) (r_0 : Rd 1 eStr m A_0 a_0) (tab : TB m) {r : ByteArray} (e : roadref2_namesMark a_0 = some r) : Run Tryd.prog 43 #[Value.slice A_0 n_0 c_0] h (roadref2_namesMark.post W h m r) := by
  unfold roadref2_namesMark at e
  subst ne_0
  refine f43.run ?_
  unfold f43.runT
  refine O.new fun h1 x2 O3 => ?_
  obtain ⟨y6, g7, e⟩ := bind_e e
  have O5 := O3.rowE (l := ([(((List.length a_0) : Nat) : Int)] : List Int)) 0 rfl (tell_int .i64) (show CsE _ _ _ _ _ from (CsE.cons (c1 := [(Value.int .i64 (((List.length a_0) : Nat) : Int))]) rfl rfl CsE.nil)) rfl
  have O12 := O5.nm
  obtain ⟨m13, u14, s19, ⟨⟨r17, k18⟩, _⟩, B15, C16⟩ := O12.lend0 [0]
  replace r17 : Rd 1 (eInt .i64) m13 (some ⟨(Array.size h), 0, none⟩) ([(((List.length a_0) : Nat) : Int)] : List Int) := r17
  replace k18 : List.length ([(((List.length a_0) : Nat) : Int)] : List Int) ≤ 1 := k18
  refine (roadref2_nums.walk (Hold.start (W := No) s19) rfl k18 r17 (TBg.sub tab u14) g7).mono ?_
  rintro _ h8 ⟨m9, Q10, rfl⟩
  have O20 := Hold.nm (C16 Q10 vfs_nil)
  refine ⟨_, rfl, ?_⟩
  obtain ⟨y21, g22, e⟩ := bind_e e
  refine (roadref2_texts.walk (Hold.start (W := No) O20.s) rfl k_0 r_0 tab g22).mono ?_
  rintro _ h23 ⟨m24, Q25, rfl⟩
  have O27 := Hold.nm (O20.retC Q25 vfs_nil)
  refine ⟨_, rfl, ?_⟩
  obtain ⟨g28, e⟩ := guard_e e
  refine ⟨g28, ?_⟩
  cases e
  exact ⟨_, O27.pick [], rfl⟩
def roadref2_typesMark.post (W : Nat → Prop) (h0 m0 : Heap) (r : ByteArray) (v : Value) (h : Heap) : Prop := ∃ m , Hold W h0 m0 h m [] ∧ v = .string r
inductive roadref2_typesMark.l0_k.Pt where
  | l0 (s_3 : ByteArray) (a_10 : List T_api_Type) (x_11 : Int) (x_12 : Int)
noncomputable def roadref2_typesMark.l0_k.body (go : (p : roadref2_typesMark.l0_k.Pt) → Option (ByteArray)) : (p : roadref2_typesMark.l0_k.Pt) → Option (ByteArray)
  | .l0 s_3 a_10 x_11 x_12 => if x_12 < x_11 then (Option.bind (gi a_10 x_12) fun y1 => Option.bind (roadref2_TypeMark y1) fun y14 => if ByteArray.size s_3 + ByteArray.size y14 ≤ 9223372036854775807 then ((go (.l0 (s_3 ++ y14) a_10 x_11 (IntKind.wrap .i64 (x_12 + (1 : Int)))))) else none) else (some (s_3))
theorem roadref2_typesMark.l0_k.mono : MonoF (β := fun _ => (ByteArray)) roadref2_typesMark.l0_k.body := fun f g hfg p => match p with
  | .l0 s_3 a_10 x_11 x_12 => LeO.ite (LeO.bind (LeO.refl _) fun y1 => LeO.bind (LeO.refl _) fun y14 => LeO.ite ((hfg _)) (LeO.refl _)) (LeO.refl _)
noncomputable def roadref2_typesMark.l0_k.go (p : roadref2_typesMark.l0_k.Pt) : Option (ByteArray) := fixF (β := fun _ => (ByteArray)) roadref2_typesMark.l0_k.body p
noncomputable def roadref2_typesMark.l0 (s_3 : ByteArray) (a_10 : List T_api_Type) (x_11 : Int) (x_12 : Int) : Option (ByteArray) := roadref2_typesMark.l0_k.go (.l0 s_3 a_10 x_11 x_12)
theorem roadref2_typesMark.l0_eq (s_3 : ByteArray) (a_10 : List T_api_Type) (x_11 : Int) (x_12 : Int) : roadref2_typesMark.l0 s_3 a_10 x_11 x_12 = if x_12 < x_11 then (Option.bind (gi a_10 x_12) fun y1 => Option.bind (roadref2_TypeMark y1) fun y14 => if ByteArray.size s_3 + ByteArray.size y14 ≤ 9223372036854775807 then ((roadref2_typesMark.l0 (s_3 ++ y14) a_10 x_11 (IntKind.wrap .i64 (x_12 + (1 : Int))))) else none) else (some (s_3)) := fixF_eq roadref2_typesMark.l0_k.mono _
def roadref2_typesMark.l0_k.I : (p : roadref2_typesMark.l0_k.Pt) → (ByteArray) → Prop
  | .l0 s_3 a_10 x_11 x_12, r => ∀ (W : Nat → Prop) (h0 m0 h m : Heap) (A_10 : Option Addr) (n_10 c_10 : Nat) (O : Hold W h0 m0 h m []) (ne_10 : n_10 = List.length a_10) (k_10 : List.length a_10 ≤ c_10) (r_10 : Rd 3 T_api_Type.E m A_10 a_10) (tab : TB m), f44.l0 (roadref2_typesMark.post W h0 m0 r) s_3 A_10 n_10 c_10 x_11 x_12 h
set_option maxRecDepth 100000 in
theorem roadref2_typesMark.l0_k.step_l0 (go : (p : roadref2_typesMark.l0_k.Pt) → Option (ByteArray)) (ih : ∀ p r, go p = some r → roadref2_typesMark.l0_k.I p r) (s_3 : ByteArray) (a_10 : List T_api_Type) (x_11 : Int) (x_12 : Int) (r : ByteArray) (e : roadref2_typesMark.l0_k.body go (.l0 s_3 a_10 x_11 x_12) = some r) : roadref2_typesMark.l0_k.I (.l0 s_3 a_10 x_11 x_12) r := by
  unfold roadref2_typesMark.l0_k.body at e
  intro W h0 m0 h m A_10 n_10 c_10 O ne_10 k_10 r_10 tab
  subst ne_10
  refine f44.l0_in ?_
  unfold f44.l0T
  refine split_dec_e e (fun c22 e => ?_) (fun c22 e => ?_)
  · obtain ⟨y1, g2, e⟩ := bind_e e
    refine r_10.addr rfl g2 fun a3 cs4 ha5 hc6 he7 => ?_
    refine ⟨_, ldAn O.s hc6 rfl, ?_⟩
    refine O.new fun h8 x9 O10 => ?_
    refine ⟨_, rfl, (T_api_Type.T.len _ _ _ he7), ?_⟩
    refine O10.stA 0 rfl (T_api_Type.T.len _ _ _ he7) (T_api_Type.T.flat _ _ _ he7) fun h12 O13 => ?_
    refine ⟨_, ldAn (Sub.refl _) (O13.all 0 rfl) (T_api_Type.T.len _ _ _ he7), ?_⟩
    obtain ⟨y14, g15, e⟩ := bind_e e
    refine (roadref2_TypeMark.walk (Hold.start (W := No) O13.s) he7 tab g15).mono ?_
    rintro _ h16 ⟨m17, Q18, rfl⟩
    have O20 := Hold.nm (O13.retC Q18 vfs_nil)
    refine ⟨_, rfl, ?_⟩
    obtain ⟨g21, e⟩ := guard_e e
    refine ⟨g21, ?_⟩
    exact (ih _ _ e) _ _ _ _ _ _ _ _ (O20.pick []).nm rfl k_10 r_10 tab
  · cases e
    exact ⟨_, O.pick [], rfl⟩
theorem roadref2_typesMark.l0_k.all {p : roadref2_typesMark.l0_k.Pt} {r : (ByteArray)} (e : roadref2_typesMark.l0_k.go p = some r) : roadref2_typesMark.l0_k.I p r := fixF_ind (β := fun _ => (ByteArray)) roadref2_typesMark.l0_k.mono (I := roadref2_typesMark.l0_k.I) (fun go ih p r e => match p with
  | .l0 s_3 a_10 x_11 x_12 => roadref2_typesMark.l0_k.step_l0 go ih s_3 a_10 x_11 x_12 r e
  ) e
theorem roadref2_typesMark.l0.walk {W : Nat → Prop} {h0 m0 h m : Heap} {A_10 : Option Addr} {n_10 c_10 : Nat} {s_3 : ByteArray} {a_10 : List T_api_Type} {x_11 : Int} {x_12 : Int} (O : Hold W h0 m0 h m []) (ne_10 : n_10 = List.length a_10) (k_10 : List.length a_10 ≤ c_10) (r_10 : Rd 3 T_api_Type.E m A_10 a_10) (tab : TB m) {r : ByteArray} (e : roadref2_typesMark.l0 s_3 a_10 x_11 x_12 = some r) : f44.l0 (roadref2_typesMark.post W h0 m0 r) s_3 A_10 n_10 c_10 x_11 x_12 h := roadref2_typesMark.l0_k.all (p := .l0 s_3 a_10 x_11 x_12) e W h0 m0 h m A_10 n_10 c_10 O ne_10 k_10 r_10 tab
noncomputable def roadref2_typesMark (a_0 : List T_api_Type) : Option (ByteArray) :=
  Option.bind (roadref2_nums ([(((List.length a_0) : Nat) : Int)] : List Int)) fun y6 => (roadref2_typesMark.l0 y6 a_0 (((List.length a_0) : Nat) : Int) (0 : Int))
set_option maxRecDepth 100000 in
theorem roadref2_typesMark.walk {W : Nat → Prop} {h m : Heap} {A_0 : Option Addr} {n_0 c_0 : Nat} {a_0 : List T_api_Type} (O : Hold W h m h m []) (ne_0 : n_0 = List.length a_0) (k_0 : List.length a_0 ≤ c_0) (r_0 : Rd 3 T_api_Type.E m A_0 a_0) (tab : TB m) {r : ByteArray} (e : roadref2_typesMark a_0 = some r) : Run Tryd.prog 44 #[Value.slice A_0 n_0 c_0] h (roadref2_typesMark.post W h m r) := by
  unfold roadref2_typesMark at e
  subst ne_0
  refine f44.run ?_
  unfold f44.runT
  refine O.new fun h1 x2 O3 => ?_
  obtain ⟨y6, g7, e⟩ := bind_e e
  have O5 := O3.rowE (l := ([(((List.length a_0) : Nat) : Int)] : List Int)) 0 rfl (tell_int .i64) (show CsE _ _ _ _ _ from (CsE.cons (c1 := [(Value.int .i64 (((List.length a_0) : Nat) : Int))]) rfl rfl CsE.nil)) rfl
  have O12 := O5.nm
  obtain ⟨m13, u14, s19, ⟨⟨r17, k18⟩, _⟩, B15, C16⟩ := O12.lend0 [0]
  replace r17 : Rd 1 (eInt .i64) m13 (some ⟨(Array.size h), 0, none⟩) ([(((List.length a_0) : Nat) : Int)] : List Int) := r17
  replace k18 : List.length ([(((List.length a_0) : Nat) : Int)] : List Int) ≤ 1 := k18
  refine (roadref2_nums.walk (Hold.start (W := No) s19) rfl k18 r17 (TBg.sub tab u14) g7).mono ?_
  rintro _ h8 ⟨m9, Q10, rfl⟩
  have O20 := Hold.nm (C16 Q10 vfs_nil)
  refine ⟨_, rfl, ?_⟩
  exact roadref2_typesMark.l0.walk (O20.pick []).nm rfl k_0 r_0 tab e
def roadref2_funcsMark.post (W : Nat → Prop) (h0 m0 : Heap) (r : ByteArray) (v : Value) (h : Heap) : Prop := ∃ m , Hold W h0 m0 h m [] ∧ v = .string r
inductive roadref2_funcsMark.l0_k.Pt where
  | l0 (s_3 : ByteArray) (a_10 : List T_api_Func) (x_11 : Int) (x_12 : Int)
noncomputable def roadref2_funcsMark.l0_k.body (go : (p : roadref2_funcsMark.l0_k.Pt) → Option (ByteArray)) : (p : roadref2_funcsMark.l0_k.Pt) → Option (ByteArray)
  | .l0 s_3 a_10 x_11 x_12 => if x_12 < x_11 then (Option.bind (gi a_10 x_12) fun y1 => Option.bind (roadref2_texts ([y1.Name] : List ByteArray)) fun y34 => Option.bind (roadref2_namesMark y1.Params) fun y49 => if ByteArray.size y34 + ByteArray.size y49 ≤ 9223372036854775807 then (Option.bind (roadref2_namesMark y1.Names) fun y57 => if ByteArray.size (y34 ++ y49) + ByteArray.size y57 ≤ 9223372036854775807 then (Option.bind (roadref2_typesMark y1.Types) fun y65 => if ByteArray.size ((y34 ++ y49) ++ y57) + ByteArray.size y65 ≤ 9223372036854775807 then (Option.bind (roadref2_TypeMark y1.Out) fun y73 => if ByteArray.size (((y34 ++ y49) ++ y57) ++ y65) + ByteArray.size y73 ≤ 9223372036854775807 then (Option.bind (roadref2_ExprMark y1.Body) fun y81 => if ByteArray.size ((((y34 ++ y49) ++ y57) ++ y65) ++ y73) + ByteArray.size y81 ≤ 9223372036854775807 then (if ByteArray.size s_3 + ByteArray.size (((((y34 ++ y49) ++ y57) ++ y65) ++ y73) ++ y81) ≤ 9223372036854775807 then ((go (.l0 (s_3 ++ (((((y34 ++ y49) ++ y57) ++ y65) ++ y73) ++ y81)) a_10 x_11 (IntKind.wrap .i64 (x_12 + (1 : Int)))))) else none) else none) else none) else none) else none) else none) else (some (s_3))
theorem roadref2_funcsMark.l0_k.mono : MonoF (β := fun _ => (ByteArray)) roadref2_funcsMark.l0_k.body := fun f g hfg p => match p with
  | .l0 s_3 a_10 x_11 x_12 => LeO.ite (LeO.bind (LeO.refl _) fun y1 => LeO.bind (LeO.refl _) fun y34 => LeO.bind (LeO.refl _) fun y49 => LeO.ite (LeO.bind (LeO.refl _) fun y57 => LeO.ite (LeO.bind (LeO.refl _) fun y65 => LeO.ite (LeO.bind (LeO.refl _) fun y73 => LeO.ite (LeO.bind (LeO.refl _) fun y81 => LeO.ite (LeO.ite ((hfg _)) (LeO.refl _)) (LeO.refl _)) (LeO.refl _)) (LeO.refl _)) (LeO.refl _)) (LeO.refl _)) (LeO.refl _)
noncomputable def roadref2_funcsMark.l0_k.go (p : roadref2_funcsMark.l0_k.Pt) : Option (ByteArray) := fixF (β := fun _ => (ByteArray)) roadref2_funcsMark.l0_k.body p
noncomputable def roadref2_funcsMark.l0 (s_3 : ByteArray) (a_10 : List T_api_Func) (x_11 : Int) (x_12 : Int) : Option (ByteArray) := roadref2_funcsMark.l0_k.go (.l0 s_3 a_10 x_11 x_12)
theorem roadref2_funcsMark.l0_eq (s_3 : ByteArray) (a_10 : List T_api_Func) (x_11 : Int) (x_12 : Int) : roadref2_funcsMark.l0 s_3 a_10 x_11 x_12 = if x_12 < x_11 then (Option.bind (gi a_10 x_12) fun y1 => Option.bind (roadref2_texts ([y1.Name] : List ByteArray)) fun y34 => Option.bind (roadref2_namesMark y1.Params) fun y49 => if ByteArray.size y34 + ByteArray.size y49 ≤ 9223372036854775807 then (Option.bind (roadref2_namesMark y1.Names) fun y57 => if ByteArray.size (y34 ++ y49) + ByteArray.size y57 ≤ 9223372036854775807 then (Option.bind (roadref2_typesMark y1.Types) fun y65 => if ByteArray.size ((y34 ++ y49) ++ y57) + ByteArray.size y65 ≤ 9223372036854775807 then (Option.bind (roadref2_TypeMark y1.Out) fun y73 => if ByteArray.size (((y34 ++ y49) ++ y57) ++ y65) + ByteArray.size y73 ≤ 9223372036854775807 then (Option.bind (roadref2_ExprMark y1.Body) fun y81 => if ByteArray.size ((((y34 ++ y49) ++ y57) ++ y65) ++ y73) + ByteArray.size y81 ≤ 9223372036854775807 then (if ByteArray.size s_3 + ByteArray.size (((((y34 ++ y49) ++ y57) ++ y65) ++ y73) ++ y81) ≤ 9223372036854775807 then ((roadref2_funcsMark.l0 (s_3 ++ (((((y34 ++ y49) ++ y57) ++ y65) ++ y73) ++ y81)) a_10 x_11 (IntKind.wrap .i64 (x_12 + (1 : Int))))) else none) else none) else none) else none) else none) else none) else (some (s_3)) := fixF_eq roadref2_funcsMark.l0_k.mono _
def roadref2_funcsMark.l0_k.I : (p : roadref2_funcsMark.l0_k.Pt) → (ByteArray) → Prop
  | .l0 s_3 a_10 x_11 x_12, r => ∀ (W : Nat → Prop) (h0 m0 h m : Heap) (A_10 : Option Addr) (n_10 c_10 : Nat) (O : Hold W h0 m0 h m []) (ne_10 : n_10 = List.length a_10) (k_10 : List.length a_10 ≤ c_10) (r_10 : Rd 15 T_api_Func.E m A_10 a_10) (tab : TB m), f45.l0 (roadref2_funcsMark.post W h0 m0 r) s_3 A_10 n_10 c_10 x_11 x_12 h
set_option maxHeartbeats 4000000 in
set_option maxRecDepth 100000 in
theorem roadref2_funcsMark.l0_k.step_l0 (go : (p : roadref2_funcsMark.l0_k.Pt) → Option (ByteArray)) (ih : ∀ p r, go p = some r → roadref2_funcsMark.l0_k.I p r) (s_3 : ByteArray) (a_10 : List T_api_Func) (x_11 : Int) (x_12 : Int) (r : ByteArray) (e : roadref2_funcsMark.l0_k.body go (.l0 s_3 a_10 x_11 x_12) = some r) : roadref2_funcsMark.l0_k.I (.l0 s_3 a_10 x_11 x_12) r := by
  unfold roadref2_funcsMark.l0_k.body at e
  intro W h0 m0 h m A_10 n_10 c_10 O ne_10 k_10 r_10 tab
  subst ne_10
  refine f45.l0_in ?_
  unfold f45.l0T
  refine split_dec_e e (fun c90 e => ?_) (fun c90 e => ?_)
  · obtain ⟨y1, g2, e⟩ := bind_e e
    refine r_10.addr rfl g2 fun a3 cs4 ha5 hc6 he7 => ?_
    refine ⟨_, ldAn O.s hc6 rfl, ?_⟩
    refine O.new fun h8 x9 O10 => ?_
    refine ⟨_, rfl, (T_api_Func.T.len _ _ _ he7), ?_⟩
    refine O10.stA 0 rfl (T_api_Func.T.len _ _ _ he7) (T_api_Func.T.flat _ _ _ he7) fun h12 O13 => ?_
    refine ⟨_, ld0 (Sub.refl _) (O13.all 0 rfl) (T_api_Func.g0 he7), _, rfl, ?_⟩
    obtain ⟨A14, c15, q16, k17, r18⟩ := T_api_Func.g1 he7
    refine ⟨_, ldk (k := 1) (Sub.refl _) (O13.all 0 rfl) q16, _, _, _, rfl, ?_⟩
    obtain ⟨A19, c20, q21, k22, r23⟩ := T_api_Func.g2 he7
    refine ⟨_, ldk (k := 2) (Sub.refl _) (O13.all 0 rfl) q21, _, _, _, rfl, ?_⟩
    obtain ⟨A24, c25, q26, k27, r28⟩ := T_api_Func.g3 he7
    refine ⟨_, ldk (k := 3) (Sub.refl _) (O13.all 0 rfl) q26, _, _, _, rfl, ?_⟩
    refine ⟨_, ldAkn (Sub.refl _) (O13.all 0 rfl) 4 3 (le_len (T_api_Func.T.len _ _ _ he7) (by decide)), ?_⟩
    refine ⟨_, ldAkn (Sub.refl _) (O13.all 0 rfl) 7 8 (le_len (T_api_Func.T.len _ _ _ he7) (by decide)), ?_⟩
    refine O13.new fun h29 x30 O31 => ?_
    refine ⟨x30, ?_⟩
    obtain ⟨y34, g35, e⟩ := bind_e e
    have O33 := O31.rowE (l := ([y1.Name] : List ByteArray)) 1 rfl tell_str (show CsE _ _ _ _ _ from (CsE.cons (c1 := [(Value.string y1.Name)]) rfl rfl CsE.nil)) rfl
    have O40 := O33.nm
    obtain ⟨m41, u42, s47, ⟨⟨r45, k46⟩, _⟩, B43, C44⟩ := O40.lend0 [1]
    replace r45 : Rd 1 eStr m41 (some ⟨(Array.size h12), 0, none⟩) ([y1.Name] : List ByteArray) := r45
    replace k46 : List.length ([y1.Name] : List ByteArray) ≤ 1 := k46
    refine (roadref2_texts.walk (Hold.start (W := No) s47) rfl k46 r45 (TBg.sub tab u42) g35).mono ?_
    rintro _ h36 ⟨m37, Q38, rfl⟩
    have O48 := Hold.nm (C44 Q38 vfs_nil)
    refine ⟨_, rfl, ?_⟩
    refine ⟨Q38.S.ext, ?_⟩
    obtain ⟨y49, g50, e⟩ := bind_e e
    refine (roadref2_namesMark.walk (Hold.start (W := No) O48.s) rfl k17 r18 tab g50).mono ?_
    rintro _ h51 ⟨m52, Q53, rfl⟩
    have O55 := Hold.nm (O48.retC Q53 vfs_nil)
    refine ⟨_, rfl, ?_⟩
    refine ⟨Q53.S.ext, ?_⟩
    obtain ⟨g56, e⟩ := guard_e e
    refine ⟨g56, ?_⟩
    obtain ⟨y57, g58, e⟩ := bind_e e
    refine (roadref2_namesMark.walk (Hold.start (W := No) O55.s) rfl k22 r23 tab g58).mono ?_
    rintro _ h59 ⟨m60, Q61, rfl⟩
    have O63 := Hold.nm (O55.retC Q61 vfs_nil)
    refine ⟨_, rfl, ?_⟩
    refine ⟨Q61.S.ext, ?_⟩
    obtain ⟨g64, e⟩ := guard_e e
    refine ⟨g64, ?_⟩
    obtain ⟨y65, g66, e⟩ := bind_e e
    refine (roadref2_typesMark.walk (Hold.start (W := No) O63.s) rfl k27 r28 tab g66).mono ?_
    rintro _ h67 ⟨m68, Q69, rfl⟩
    have O71 := Hold.nm (O63.retC Q69 vfs_nil)
    refine ⟨_, rfl, ?_⟩
    refine ⟨Q69.S.ext, ?_⟩
    obtain ⟨g72, e⟩ := guard_e e
    refine ⟨g72, ?_⟩
    obtain ⟨y73, g74, e⟩ := bind_e e
    refine (roadref2_TypeMark.walk (Hold.start (W := No) O71.s) (T_api_Func.u4_59 he7) tab g74).mono ?_
    rintro _ h75 ⟨m76, Q77, rfl⟩
    have O79 := Hold.nm (O71.retC Q77 vfs_nil)
    refine ⟨_, rfl, ?_⟩
    refine ⟨Q77.S.ext, ?_⟩
    obtain ⟨g80, e⟩ := guard_e e
    refine ⟨g80, ?_⟩
    obtain ⟨y81, g82, e⟩ := bind_e e
    refine (roadref2_ExprMark.walk (Hold.start (W := No) O79.s) (T_api_Func.u7_40 he7) tab g82).mono ?_
    rintro _ h83 ⟨m84, Q85, rfl⟩
    have O87 := Hold.nm (O79.retC Q85 vfs_nil)
    refine ⟨_, rfl, ?_⟩
    obtain ⟨g88, e⟩ := guard_e e
    refine ⟨g88, ?_⟩
    obtain ⟨g89, e⟩ := guard_e e
    refine ⟨g89, ?_⟩
    exact (ih _ _ e) _ _ _ _ _ _ _ _ (O87.pick []).nm rfl k_10 r_10 tab
  · cases e
    exact ⟨_, O.pick [], rfl⟩
theorem roadref2_funcsMark.l0_k.all {p : roadref2_funcsMark.l0_k.Pt} {r : (ByteArray)} (e : roadref2_funcsMark.l0_k.go p = some r) : roadref2_funcsMark.l0_k.I p r := fixF_ind (β := fun _ => (ByteArray)) roadref2_funcsMark.l0_k.mono (I := roadref2_funcsMark.l0_k.I) (fun go ih p r e => match p with
  | .l0 s_3 a_10 x_11 x_12 => roadref2_funcsMark.l0_k.step_l0 go ih s_3 a_10 x_11 x_12 r e
  ) e
theorem roadref2_funcsMark.l0.walk {W : Nat → Prop} {h0 m0 h m : Heap} {A_10 : Option Addr} {n_10 c_10 : Nat} {s_3 : ByteArray} {a_10 : List T_api_Func} {x_11 : Int} {x_12 : Int} (O : Hold W h0 m0 h m []) (ne_10 : n_10 = List.length a_10) (k_10 : List.length a_10 ≤ c_10) (r_10 : Rd 15 T_api_Func.E m A_10 a_10) (tab : TB m) {r : ByteArray} (e : roadref2_funcsMark.l0 s_3 a_10 x_11 x_12 = some r) : f45.l0 (roadref2_funcsMark.post W h0 m0 r) s_3 A_10 n_10 c_10 x_11 x_12 h := roadref2_funcsMark.l0_k.all (p := .l0 s_3 a_10 x_11 x_12) e W h0 m0 h m A_10 n_10 c_10 O ne_10 k_10 r_10 tab
noncomputable def roadref2_funcsMark (a_0 : List T_api_Func) : Option (ByteArray) :=
  Option.bind (roadref2_nums ([(((List.length a_0) : Nat) : Int)] : List Int)) fun y6 => (roadref2_funcsMark.l0 y6 a_0 (((List.length a_0) : Nat) : Int) (0 : Int))
set_option maxRecDepth 100000 in
theorem roadref2_funcsMark.walk {W : Nat → Prop} {h m : Heap} {A_0 : Option Addr} {n_0 c_0 : Nat} {a_0 : List T_api_Func} (O : Hold W h m h m []) (ne_0 : n_0 = List.length a_0) (k_0 : List.length a_0 ≤ c_0) (r_0 : Rd 15 T_api_Func.E m A_0 a_0) (tab : TB m) {r : ByteArray} (e : roadref2_funcsMark a_0 = some r) : Run Tryd.prog 45 #[Value.slice A_0 n_0 c_0] h (roadref2_funcsMark.post W h m r) := by
  unfold roadref2_funcsMark at e
  subst ne_0
  refine f45.run ?_
  unfold f45.runT
  refine O.new fun h1 x2 O3 => ?_
  obtain ⟨y6, g7, e⟩ := bind_e e
  have O5 := O3.rowE (l := ([(((List.length a_0) : Nat) : Int)] : List Int)) 0 rfl (tell_int .i64) (show CsE _ _ _ _ _ from (CsE.cons (c1 := [(Value.int .i64 (((List.length a_0) : Nat) : Int))]) rfl rfl CsE.nil)) rfl
  have O12 := O5.nm
  obtain ⟨m13, u14, s19, ⟨⟨r17, k18⟩, _⟩, B15, C16⟩ := O12.lend0 [0]
  replace r17 : Rd 1 (eInt .i64) m13 (some ⟨(Array.size h), 0, none⟩) ([(((List.length a_0) : Nat) : Int)] : List Int) := r17
  replace k18 : List.length ([(((List.length a_0) : Nat) : Int)] : List Int) ≤ 1 := k18
  refine (roadref2_nums.walk (Hold.start (W := No) s19) rfl k18 r17 (TBg.sub tab u14) g7).mono ?_
  rintro _ h8 ⟨m9, Q10, rfl⟩
  have O20 := Hold.nm (C16 Q10 vfs_nil)
  refine ⟨_, rfl, ?_⟩
  exact roadref2_funcsMark.l0.walk (O20.pick []).nm rfl k_0 r_0 tab e
def roadref2_Mark.post (W : Nat → Prop) (h0 m0 : Heap) (r : ByteArray) (v : Value) (h : Heap) : Prop := ∃ m , Hold W h0 m0 h m [] ∧ v = .string r
inductive roadref2_Mark.l4_k.Pt where
  | l4 (s_3 : ByteArray) (a_147 : List T_api_Actor) (x_148 : Int) (x_149 : Int)
noncomputable def roadref2_Mark.l4_k.body (go : (p : roadref2_Mark.l4_k.Pt) → Option (ByteArray)) : (p : roadref2_Mark.l4_k.Pt) → Option (ByteArray)
  | .l4 s_3 a_147 x_148 x_149 => if x_149 < x_148 then (Option.bind (gi a_147 x_149) fun y1 => Option.bind (roadref2_texts ([y1.Name] : List ByteArray)) fun y29 => Option.bind (roadref2_namesMark y1.Names) fun y44 => if ByteArray.size y29 + ByteArray.size y44 ≤ 9223372036854775807 then (Option.bind (roadref2_typesMark y1.Types) fun y52 => if ByteArray.size (y29 ++ y44) + ByteArray.size y52 ≤ 9223372036854775807 then (Option.bind (roadref2_TypeMark y1.Msg) fun y60 => if ByteArray.size ((y29 ++ y44) ++ y52) + ByteArray.size y60 ≤ 9223372036854775807 then (Option.bind (roadref2_ExprMark y1.Body) fun y68 => if ByteArray.size (((y29 ++ y44) ++ y52) ++ y60) + ByteArray.size y68 ≤ 9223372036854775807 then (if ByteArray.size s_3 + ByteArray.size ((((y29 ++ y44) ++ y52) ++ y60) ++ y68) ≤ 9223372036854775807 then ((go (.l4 (s_3 ++ ((((y29 ++ y44) ++ y52) ++ y60) ++ y68)) a_147 x_148 (IntKind.wrap .i64 (x_149 + (1 : Int)))))) else none) else none) else none) else none) else none) else (some (s_3))
theorem roadref2_Mark.l4_k.mono : MonoF (β := fun _ => (ByteArray)) roadref2_Mark.l4_k.body := fun f g hfg p => match p with
  | .l4 s_3 a_147 x_148 x_149 => LeO.ite (LeO.bind (LeO.refl _) fun y1 => LeO.bind (LeO.refl _) fun y29 => LeO.bind (LeO.refl _) fun y44 => LeO.ite (LeO.bind (LeO.refl _) fun y52 => LeO.ite (LeO.bind (LeO.refl _) fun y60 => LeO.ite (LeO.bind (LeO.refl _) fun y68 => LeO.ite (LeO.ite ((hfg _)) (LeO.refl _)) (LeO.refl _)) (LeO.refl _)) (LeO.refl _)) (LeO.refl _)) (LeO.refl _)
noncomputable def roadref2_Mark.l4_k.go (p : roadref2_Mark.l4_k.Pt) : Option (ByteArray) := fixF (β := fun _ => (ByteArray)) roadref2_Mark.l4_k.body p
noncomputable def roadref2_Mark.l4 (s_3 : ByteArray) (a_147 : List T_api_Actor) (x_148 : Int) (x_149 : Int) : Option (ByteArray) := roadref2_Mark.l4_k.go (.l4 s_3 a_147 x_148 x_149)
theorem roadref2_Mark.l4_eq (s_3 : ByteArray) (a_147 : List T_api_Actor) (x_148 : Int) (x_149 : Int) : roadref2_Mark.l4 s_3 a_147 x_148 x_149 = if x_149 < x_148 then (Option.bind (gi a_147 x_149) fun y1 => Option.bind (roadref2_texts ([y1.Name] : List ByteArray)) fun y29 => Option.bind (roadref2_namesMark y1.Names) fun y44 => if ByteArray.size y29 + ByteArray.size y44 ≤ 9223372036854775807 then (Option.bind (roadref2_typesMark y1.Types) fun y52 => if ByteArray.size (y29 ++ y44) + ByteArray.size y52 ≤ 9223372036854775807 then (Option.bind (roadref2_TypeMark y1.Msg) fun y60 => if ByteArray.size ((y29 ++ y44) ++ y52) + ByteArray.size y60 ≤ 9223372036854775807 then (Option.bind (roadref2_ExprMark y1.Body) fun y68 => if ByteArray.size (((y29 ++ y44) ++ y52) ++ y60) + ByteArray.size y68 ≤ 9223372036854775807 then (if ByteArray.size s_3 + ByteArray.size ((((y29 ++ y44) ++ y52) ++ y60) ++ y68) ≤ 9223372036854775807 then ((roadref2_Mark.l4 (s_3 ++ ((((y29 ++ y44) ++ y52) ++ y60) ++ y68)) a_147 x_148 (IntKind.wrap .i64 (x_149 + (1 : Int))))) else none) else none) else none) else none) else none) else (some (s_3)) := fixF_eq roadref2_Mark.l4_k.mono _
def roadref2_Mark.l4_k.I : (p : roadref2_Mark.l4_k.Pt) → (ByteArray) → Prop
  | .l4 s_3 a_147 x_148 x_149, r => ∀ (W : Nat → Prop) (h0 m0 h m : Heap) (A_147 : Option Addr) (n_147 c_147 : Nat) (O : Hold W h0 m0 h m []) (ne_147 : n_147 = List.length a_147) (k_147 : List.length a_147 ≤ c_147) (r_147 : Rd 14 T_api_Actor.E m A_147 a_147) (tab : TB m), f9.l4 (roadref2_Mark.post W h0 m0 r) s_3 A_147 n_147 c_147 x_148 x_149 h
set_option maxHeartbeats 4000000 in
set_option maxRecDepth 100000 in
theorem roadref2_Mark.l4_k.step_l4 (go : (p : roadref2_Mark.l4_k.Pt) → Option (ByteArray)) (ih : ∀ p r, go p = some r → roadref2_Mark.l4_k.I p r) (s_3 : ByteArray) (a_147 : List T_api_Actor) (x_148 : Int) (x_149 : Int) (r : ByteArray) (e : roadref2_Mark.l4_k.body go (.l4 s_3 a_147 x_148 x_149) = some r) : roadref2_Mark.l4_k.I (.l4 s_3 a_147 x_148 x_149) r := by
  unfold roadref2_Mark.l4_k.body at e
  intro W h0 m0 h m A_147 n_147 c_147 O ne_147 k_147 r_147 tab
  subst ne_147
  refine f9.l4_in ?_
  unfold f9.l4T
  refine split_dec_e e (fun c77 e => ?_) (fun c77 e => ?_)
  · obtain ⟨y1, g2, e⟩ := bind_e e
    refine r_147.addr rfl g2 fun a3 cs4 ha5 hc6 he7 => ?_
    refine ⟨_, ldAn O.s hc6 rfl, ?_⟩
    refine O.new fun h8 x9 O10 => ?_
    refine ⟨_, rfl, (T_api_Actor.T.len _ _ _ he7), ?_⟩
    refine O10.stA 0 rfl (T_api_Actor.T.len _ _ _ he7) (T_api_Actor.T.flat _ _ _ he7) fun h12 O13 => ?_
    refine ⟨_, ld0 (Sub.refl _) (O13.all 0 rfl) (T_api_Actor.g0 he7), _, rfl, ?_⟩
    obtain ⟨A14, c15, q16, k17, r18⟩ := T_api_Actor.g1 he7
    refine ⟨_, ldk (k := 1) (Sub.refl _) (O13.all 0 rfl) q16, _, _, _, rfl, ?_⟩
    obtain ⟨A19, c20, q21, k22, r23⟩ := T_api_Actor.g2 he7
    refine ⟨_, ldk (k := 2) (Sub.refl _) (O13.all 0 rfl) q21, _, _, _, rfl, ?_⟩
    refine ⟨_, ldAkn (Sub.refl _) (O13.all 0 rfl) 3 3 (le_len (T_api_Actor.T.len _ _ _ he7) (by decide)), ?_⟩
    refine ⟨_, ldAkn (Sub.refl _) (O13.all 0 rfl) 6 8 (le_len (T_api_Actor.T.len _ _ _ he7) (by decide)), ?_⟩
    refine O13.new fun h24 x25 O26 => ?_
    refine ⟨x25, ?_⟩
    obtain ⟨y29, g30, e⟩ := bind_e e
    have O28 := O26.rowE (l := ([y1.Name] : List ByteArray)) 1 rfl tell_str (show CsE _ _ _ _ _ from (CsE.cons (c1 := [(Value.string y1.Name)]) rfl rfl CsE.nil)) rfl
    have O35 := O28.nm
    obtain ⟨m36, u37, s42, ⟨⟨r40, k41⟩, _⟩, B38, C39⟩ := O35.lend0 [1]
    replace r40 : Rd 1 eStr m36 (some ⟨(Array.size h12), 0, none⟩) ([y1.Name] : List ByteArray) := r40
    replace k41 : List.length ([y1.Name] : List ByteArray) ≤ 1 := k41
    refine (roadref2_texts.walk (Hold.start (W := No) s42) rfl k41 r40 (TBg.sub tab u37) g30).mono ?_
    rintro _ h31 ⟨m32, Q33, rfl⟩
    have O43 := Hold.nm (C39 Q33 vfs_nil)
    refine ⟨_, rfl, ?_⟩
    refine ⟨Q33.S.ext, ?_⟩
    obtain ⟨y44, g45, e⟩ := bind_e e
    refine (roadref2_namesMark.walk (Hold.start (W := No) O43.s) rfl k17 r18 tab g45).mono ?_
    rintro _ h46 ⟨m47, Q48, rfl⟩
    have O50 := Hold.nm (O43.retC Q48 vfs_nil)
    refine ⟨_, rfl, ?_⟩
    refine ⟨Q48.S.ext, ?_⟩
    obtain ⟨g51, e⟩ := guard_e e
    refine ⟨g51, ?_⟩
    obtain ⟨y52, g53, e⟩ := bind_e e
    refine (roadref2_typesMark.walk (Hold.start (W := No) O50.s) rfl k22 r23 tab g53).mono ?_
    rintro _ h54 ⟨m55, Q56, rfl⟩
    have O58 := Hold.nm (O50.retC Q56 vfs_nil)
    refine ⟨_, rfl, ?_⟩
    refine ⟨Q56.S.ext, ?_⟩
    obtain ⟨g59, e⟩ := guard_e e
    refine ⟨g59, ?_⟩
    obtain ⟨y60, g61, e⟩ := bind_e e
    refine (roadref2_TypeMark.walk (Hold.start (W := No) O58.s) (T_api_Actor.u3_59 he7) tab g61).mono ?_
    rintro _ h62 ⟨m63, Q64, rfl⟩
    have O66 := Hold.nm (O58.retC Q64 vfs_nil)
    refine ⟨_, rfl, ?_⟩
    refine ⟨Q64.S.ext, ?_⟩
    obtain ⟨g67, e⟩ := guard_e e
    refine ⟨g67, ?_⟩
    obtain ⟨y68, g69, e⟩ := bind_e e
    refine (roadref2_ExprMark.walk (Hold.start (W := No) O66.s) (T_api_Actor.u6_40 he7) tab g69).mono ?_
    rintro _ h70 ⟨m71, Q72, rfl⟩
    have O74 := Hold.nm (O66.retC Q72 vfs_nil)
    refine ⟨_, rfl, ?_⟩
    obtain ⟨g75, e⟩ := guard_e e
    refine ⟨g75, ?_⟩
    obtain ⟨g76, e⟩ := guard_e e
    refine ⟨g76, ?_⟩
    exact (ih _ _ e) _ _ _ _ _ _ _ _ (O74.pick []).nm rfl k_147 r_147 tab
  · cases e
    exact ⟨_, O.pick [], rfl⟩
theorem roadref2_Mark.l4_k.all {p : roadref2_Mark.l4_k.Pt} {r : (ByteArray)} (e : roadref2_Mark.l4_k.go p = some r) : roadref2_Mark.l4_k.I p r := fixF_ind (β := fun _ => (ByteArray)) roadref2_Mark.l4_k.mono (I := roadref2_Mark.l4_k.I) (fun go ih p r e => match p with
  | .l4 s_3 a_147 x_148 x_149 => roadref2_Mark.l4_k.step_l4 go ih s_3 a_147 x_148 x_149 r e
  ) e
theorem roadref2_Mark.l4.walk {W : Nat → Prop} {h0 m0 h m : Heap} {A_147 : Option Addr} {n_147 c_147 : Nat} {s_3 : ByteArray} {a_147 : List T_api_Actor} {x_148 : Int} {x_149 : Int} (O : Hold W h0 m0 h m []) (ne_147 : n_147 = List.length a_147) (k_147 : List.length a_147 ≤ c_147) (r_147 : Rd 14 T_api_Actor.E m A_147 a_147) (tab : TB m) {r : ByteArray} (e : roadref2_Mark.l4 s_3 a_147 x_148 x_149 = some r) : f9.l4 (roadref2_Mark.post W h0 m0 r) s_3 A_147 n_147 c_147 x_148 x_149 h := roadref2_Mark.l4_k.all (p := .l4 s_3 a_147 x_148 x_149) e W h0 m0 h m A_147 n_147 c_147 O ne_147 k_147 r_147 tab
inductive roadref2_Mark.l3_k.Pt where
  | l3 (y_1 : T_api_Program) (s_3 : ByteArray) (a_122 : List T_api_Impl) (x_123 : Int) (x_124 : Int)
noncomputable def roadref2_Mark.l3_k.body (go : (p : roadref2_Mark.l3_k.Pt) → Option (ByteArray)) : (p : roadref2_Mark.l3_k.Pt) → Option (ByteArray)
  | .l3 y_1 s_3 a_122 x_123 x_124 => if x_124 < x_123 then (Option.bind (gi a_122 x_124) fun y1 => Option.bind (roadref2_texts ([y1.Trait, y1.For] : List ByteArray)) fun y19 => Option.bind (roadref2_funcsMark y1.Funcs) fun y39 => if ByteArray.size y19 + ByteArray.size y39 ≤ 9223372036854775807 then (if ByteArray.size s_3 + ByteArray.size (y19 ++ y39) ≤ 9223372036854775807 then ((go (.l3 y_1 (s_3 ++ (y19 ++ y39)) a_122 x_123 (IntKind.wrap .i64 (x_124 + (1 : Int)))))) else none) else none) else (Option.bind (roadref2_funcsMark y_1.Funcs) fun y151 => if ByteArray.size s_3 + ByteArray.size y151 ≤ 9223372036854775807 then ((roadref2_Mark.l4 (s_3 ++ y151) y_1.Actors (((List.length y_1.Actors) : Nat) : Int) (0 : Int))) else none)
theorem roadref2_Mark.l3_k.mono : MonoF (β := fun _ => (ByteArray)) roadref2_Mark.l3_k.body := fun f g hfg p => match p with
  | .l3 y_1 s_3 a_122 x_123 x_124 => LeO.ite (LeO.bind (LeO.refl _) fun y1 => LeO.bind (LeO.refl _) fun y19 => LeO.bind (LeO.refl _) fun y39 => LeO.ite (LeO.ite ((hfg _)) (LeO.refl _)) (LeO.refl _)) (LeO.bind (LeO.refl _) fun y151 => LeO.ite ((LeO.refl _)) (LeO.refl _))
noncomputable def roadref2_Mark.l3_k.go (p : roadref2_Mark.l3_k.Pt) : Option (ByteArray) := fixF (β := fun _ => (ByteArray)) roadref2_Mark.l3_k.body p
noncomputable def roadref2_Mark.l3 (y_1 : T_api_Program) (s_3 : ByteArray) (a_122 : List T_api_Impl) (x_123 : Int) (x_124 : Int) : Option (ByteArray) := roadref2_Mark.l3_k.go (.l3 y_1 s_3 a_122 x_123 x_124)
theorem roadref2_Mark.l3_eq (y_1 : T_api_Program) (s_3 : ByteArray) (a_122 : List T_api_Impl) (x_123 : Int) (x_124 : Int) : roadref2_Mark.l3 y_1 s_3 a_122 x_123 x_124 = if x_124 < x_123 then (Option.bind (gi a_122 x_124) fun y1 => Option.bind (roadref2_texts ([y1.Trait, y1.For] : List ByteArray)) fun y19 => Option.bind (roadref2_funcsMark y1.Funcs) fun y39 => if ByteArray.size y19 + ByteArray.size y39 ≤ 9223372036854775807 then (if ByteArray.size s_3 + ByteArray.size (y19 ++ y39) ≤ 9223372036854775807 then ((roadref2_Mark.l3 y_1 (s_3 ++ (y19 ++ y39)) a_122 x_123 (IntKind.wrap .i64 (x_124 + (1 : Int))))) else none) else none) else (Option.bind (roadref2_funcsMark y_1.Funcs) fun y151 => if ByteArray.size s_3 + ByteArray.size y151 ≤ 9223372036854775807 then ((roadref2_Mark.l4 (s_3 ++ y151) y_1.Actors (((List.length y_1.Actors) : Nat) : Int) (0 : Int))) else none) := fixF_eq roadref2_Mark.l3_k.mono _
def roadref2_Mark.l3_k.I : (p : roadref2_Mark.l3_k.Pt) → (ByteArray) → Prop
  | .l3 y_1 s_3 a_122 x_123 x_124, r => ∀ (W : Nat → Prop) (h0 m0 h m : Heap) (bk_1 : Nat) (cs_1 : List Value) (A_122 : Option Addr) (n_122 c_122 : Nat) (O : Hold W h0 m0 h m [rV bk_1 29 cs_1]) (e_1 : T_api_Program.E m y_1 cs_1) (ne_122 : n_122 = List.length a_122) (k_122 : List.length a_122 ≤ c_122) (r_122 : Rd 3 T_api_Impl.E m A_122 a_122) (tab : TB m), f9.l3 (roadref2_Mark.post W h0 m0 r) (⟨bk_1, 0, none⟩ : Addr) s_3 A_122 n_122 c_122 x_123 x_124 h
set_option maxHeartbeats 4000000 in
set_option maxRecDepth 100000 in
theorem roadref2_Mark.l3_k.step_l3 (go : (p : roadref2_Mark.l3_k.Pt) → Option (ByteArray)) (ih : ∀ p r, go p = some r → roadref2_Mark.l3_k.I p r) (y_1 : T_api_Program) (s_3 : ByteArray) (a_122 : List T_api_Impl) (x_123 : Int) (x_124 : Int) (r : ByteArray) (e : roadref2_Mark.l3_k.body go (.l3 y_1 s_3 a_122 x_123 x_124) = some r) : roadref2_Mark.l3_k.I (.l3 y_1 s_3 a_122 x_123 x_124) r := by
  unfold roadref2_Mark.l3_k.body at e
  intro W h0 m0 h m bk_1 cs_1 A_122 n_122 c_122 O e_1 ne_122 k_122 r_122 tab
  subst ne_122
  refine f9.l3_in ?_
  unfold f9.l3T
  refine split_dec_e e (fun c164 e => ?_) (fun c164 e => ?_)
  · obtain ⟨y1, g2, e⟩ := bind_e e
    refine r_122.addr rfl g2 fun a3 cs4 ha5 hc6 he7 => ?_
    refine ⟨_, ldAn O.s hc6 rfl, ?_⟩
    refine O.new fun h8 x9 O10 => ?_
    refine ⟨_, rfl, (T_api_Impl.T.len _ _ _ he7), ?_⟩
    refine O10.stA 1 rfl (T_api_Impl.T.len _ _ _ he7) (T_api_Impl.T.flat _ _ _ he7) fun h12 O13 => ?_
    refine ⟨_, ld0 (Sub.refl _) (O13.all 1 rfl) (T_api_Impl.g0 he7), _, rfl, ?_⟩
    refine ⟨_, ldk (k := 1) (Sub.refl _) (O13.all 1 rfl) (T_api_Impl.g1 he7), _, rfl, ?_⟩
    obtain ⟨y19, g20, e⟩ := bind_e e
    obtain ⟨y39, g40, e⟩ := bind_e e
    refine ⟨?_, ?_⟩
    · refine O13.new fun h48 x49 O50 => ?_
      refine ⟨?_, ?_⟩
      · have O52 := O50.rowE (l := ([y1.Trait, y1.For] : List ByteArray)) 2 rfl tell_str (show CsE _ _ _ _ _ from (CsE.cons (c1 := [(Value.string y1.Trait)]) rfl rfl (CsE.cons (c1 := [(Value.string y1.For)]) rfl rfl CsE.nil))) rfl
        have O59 := O52.nm
        obtain ⟨m60, u61, s66, ⟨⟨r64, k65⟩, _⟩, B62, C63⟩ := O59.lend0 [2]
        replace r64 : Rd 1 eStr m60 (some ⟨(Array.size h12), 0, none⟩) ([y1.Trait, y1.For] : List ByteArray) := r64
        replace k65 : List.length ([y1.Trait, y1.For] : List ByteArray) ≤ 2 := k65
        refine (roadref2_texts.walk (Hold.start (W := No) s66) rfl k65 r64 (TBg.sub tab u61) g20).mono ?_
        rintro _ h55 ⟨m56, Q57, rfl⟩
        have O67 := Hold.nm (C63 Q57 vfs_nil)
        refine ⟨_, rfl, ?_⟩
        obtain ⟨A68, c69, q70, k71, r72⟩ := T_api_Impl.g2 he7
        refine ⟨_, ldk (k := 2) (Sub.refl _) (O67.all 1 rfl) q70, _, _, _, rfl, ?_⟩
        refine ⟨Ext.refl _, ?_⟩
        refine (roadref2_funcsMark.walk (Hold.start (W := No) O67.s) rfl k71 r72 tab g40).mono ?_
        rintro _ h75 ⟨m76, Q77, rfl⟩
        have O79 := Hold.nm (O67.retC Q77 vfs_nil)
        refine ⟨_, rfl, ?_⟩
        obtain ⟨g80, e⟩ := guard_e e
        refine ⟨g80, ?_⟩
        obtain ⟨g81, e⟩ := guard_e e
        refine ⟨g81, ?_⟩
        exact (ih _ _ e) _ _ _ _ _ _ _ _ _ _ (O79.pick [0]).nm e_1 rfl k_122 r_122 tab
      · obtain ⟨A82, c83, q84, k85, r86⟩ := T_api_Impl.g2 he7
        refine ⟨_, ldk (k := 2) (Sub.refl _) (O50.all 1 rfl) q84, _, _, _, rfl, ?_⟩
        refine ⟨Ext.refl _, ?_⟩
        have O87 := O50.rowE (l := ([y1.Trait, y1.For] : List ByteArray)) 2 rfl tell_str (show CsE _ _ _ _ _ from (CsE.cons (c1 := [(Value.string y1.Trait)]) rfl rfl (CsE.cons (c1 := [(Value.string y1.For)]) rfl rfl CsE.nil))) rfl
        have O94 := O87.nm
        obtain ⟨m95, u96, s101, ⟨⟨r99, k100⟩, _⟩, B97, C98⟩ := O94.lend0 [2]
        replace r99 : Rd 1 eStr m95 (some ⟨(Array.size h12), 0, none⟩) ([y1.Trait, y1.For] : List ByteArray) := r99
        replace k100 : List.length ([y1.Trait, y1.For] : List ByteArray) ≤ 2 := k100
        refine (roadref2_texts.walk (Hold.start (W := No) s101) rfl k100 r99 (TBg.sub tab u96) g20).mono ?_
        rintro _ h90 ⟨m91, Q92, rfl⟩
        have O102 := Hold.nm (C98 Q92 vfs_nil)
        refine ⟨_, rfl, ?_⟩
        refine (roadref2_funcsMark.walk (Hold.start (W := No) O102.s) rfl k85 r86 tab g40).mono ?_
        rintro _ h105 ⟨m106, Q107, rfl⟩
        have O109 := Hold.nm (O102.retC Q107 vfs_nil)
        refine ⟨_, rfl, ?_⟩
        obtain ⟨g110, e⟩ := guard_e e
        refine ⟨g110, ?_⟩
        obtain ⟨g111, e⟩ := guard_e e
        refine ⟨g111, ?_⟩
        exact (ih _ _ e) _ _ _ _ _ _ _ _ _ _ (O109.pick [0]).nm e_1 rfl k_122 r_122 tab
    · obtain ⟨A112, c113, q114, k115, r116⟩ := T_api_Impl.g2 he7
      refine ⟨_, ldk (k := 2) (Sub.refl _) (O13.all 1 rfl) q114, _, _, _, rfl, ?_⟩
      refine ⟨Ext.refl _, ?_⟩
      refine O13.new fun h117 x118 O119 => ?_
      have O121 := O119.rowE (l := ([y1.Trait, y1.For] : List ByteArray)) 2 rfl tell_str (show CsE _ _ _ _ _ from (CsE.cons (c1 := [(Value.string y1.Trait)]) rfl rfl (CsE.cons (c1 := [(Value.string y1.For)]) rfl rfl CsE.nil))) rfl
      have O128 := O121.nm
      obtain ⟨m129, u130, s135, ⟨⟨r133, k134⟩, _⟩, B131, C132⟩ := O128.lend0 [2]
      replace r133 : Rd 1 eStr m129 (some ⟨(Array.size h12), 0, none⟩) ([y1.Trait, y1.For] : List ByteArray) := r133
      replace k134 : List.length ([y1.Trait, y1.For] : List ByteArray) ≤ 2 := k134
      refine (roadref2_texts.walk (Hold.start (W := No) s135) rfl k134 r133 (TBg.sub tab u130) g20).mono ?_
      rintro _ h124 ⟨m125, Q126, rfl⟩
      have O136 := Hold.nm (C132 Q126 vfs_nil)
      refine ⟨_, rfl, ?_⟩
      refine (roadref2_funcsMark.walk (Hold.start (W := No) O136.s) rfl k115 r116 tab g40).mono ?_
      rintro _ h139 ⟨m140, Q141, rfl⟩
      have O143 := Hold.nm (O136.retC Q141 vfs_nil)
      refine ⟨_, rfl, ?_⟩
      obtain ⟨g144, e⟩ := guard_e e
      refine ⟨g144, ?_⟩
      obtain ⟨g145, e⟩ := guard_e e
      refine ⟨g145, ?_⟩
      exact (ih _ _ e) _ _ _ _ _ _ _ _ _ _ (O143.pick [0]).nm e_1 rfl k_122 r_122 tab
  · obtain ⟨A146, c147, q148, k149, r150⟩ := T_api_Program.g6 e_1
    refine ⟨_, ldk (k := 6) (Sub.refl _) (O.all 0 rfl) q148, _, _, _, rfl, ?_⟩
    obtain ⟨y151, g152, e⟩ := bind_e e
    refine (roadref2_funcsMark.walk (Hold.start (W := No) O.s) rfl k149 r150 tab g152).mono ?_
    rintro _ h153 ⟨m154, Q155, rfl⟩
    have O157 := Hold.nm (O.retC Q155 vfs_nil)
    refine ⟨_, rfl, ?_⟩
    obtain ⟨g158, e⟩ := guard_e e
    refine ⟨g158, ?_⟩
    obtain ⟨A159, c160, q161, k162, r163⟩ := T_api_Program.g7 e_1
    refine ⟨_, ldk (k := 7) (Sub.refl _) (O157.all 0 rfl) q161, _, _, _, rfl, ?_⟩
    exact roadref2_Mark.l4.walk (O157.pick []).nm rfl k162 r163 tab e
theorem roadref2_Mark.l3_k.all {p : roadref2_Mark.l3_k.Pt} {r : (ByteArray)} (e : roadref2_Mark.l3_k.go p = some r) : roadref2_Mark.l3_k.I p r := fixF_ind (β := fun _ => (ByteArray)) roadref2_Mark.l3_k.mono (I := roadref2_Mark.l3_k.I) (fun go ih p r e => match p with
  | .l3 y_1 s_3 a_122 x_123 x_124 => roadref2_Mark.l3_k.step_l3 go ih y_1 s_3 a_122 x_123 x_124 r e
  ) e
theorem roadref2_Mark.l3.walk {W : Nat → Prop} {h0 m0 h m : Heap} {bk_1 : Nat} {cs_1 : List Value} {A_122 : Option Addr} {n_122 c_122 : Nat} {y_1 : T_api_Program} {s_3 : ByteArray} {a_122 : List T_api_Impl} {x_123 : Int} {x_124 : Int} (O : Hold W h0 m0 h m [rV bk_1 29 cs_1]) (e_1 : T_api_Program.E m y_1 cs_1) (ne_122 : n_122 = List.length a_122) (k_122 : List.length a_122 ≤ c_122) (r_122 : Rd 3 T_api_Impl.E m A_122 a_122) (tab : TB m) {r : ByteArray} (e : roadref2_Mark.l3 y_1 s_3 a_122 x_123 x_124 = some r) : f9.l3 (roadref2_Mark.post W h0 m0 r) (⟨bk_1, 0, none⟩ : Addr) s_3 A_122 n_122 c_122 x_123 x_124 h := roadref2_Mark.l3_k.all (p := .l3 y_1 s_3 a_122 x_123 x_124) e W h0 m0 h m bk_1 cs_1 A_122 n_122 c_122 O e_1 ne_122 k_122 r_122 tab
inductive roadref2_Mark.l2_k.Pt where
  | l2 (y_1 : T_api_Program) (s_3 : ByteArray) (a_104 : List T_api_Trait) (x_105 : Int) (x_106 : Int)
noncomputable def roadref2_Mark.l2_k.body (go : (p : roadref2_Mark.l2_k.Pt) → Option (ByteArray)) : (p : roadref2_Mark.l2_k.Pt) → Option (ByteArray)
  | .l2 y_1 s_3 a_104 x_105 x_106 => if x_106 < x_105 then (Option.bind (gi a_104 x_106) fun y1 => Option.bind (roadref2_texts ([y1.Name] : List ByteArray)) fun y19 => Option.bind (roadref2_funcsMark y1.Funcs) fun y39 => if ByteArray.size y19 + ByteArray.size y39 ≤ 9223372036854775807 then (if ByteArray.size s_3 + ByteArray.size (y19 ++ y39) ≤ 9223372036854775807 then ((go (.l2 y_1 (s_3 ++ (y19 ++ y39)) a_104 x_105 (IntKind.wrap .i64 (x_106 + (1 : Int)))))) else none) else none) else ((roadref2_Mark.l3 y_1 s_3 y_1.Impls (((List.length y_1.Impls) : Nat) : Int) (0 : Int)))
theorem roadref2_Mark.l2_k.mono : MonoF (β := fun _ => (ByteArray)) roadref2_Mark.l2_k.body := fun f g hfg p => match p with
  | .l2 y_1 s_3 a_104 x_105 x_106 => LeO.ite (LeO.bind (LeO.refl _) fun y1 => LeO.bind (LeO.refl _) fun y19 => LeO.bind (LeO.refl _) fun y39 => LeO.ite (LeO.ite ((hfg _)) (LeO.refl _)) (LeO.refl _)) ((LeO.refl _))
noncomputable def roadref2_Mark.l2_k.go (p : roadref2_Mark.l2_k.Pt) : Option (ByteArray) := fixF (β := fun _ => (ByteArray)) roadref2_Mark.l2_k.body p
noncomputable def roadref2_Mark.l2 (y_1 : T_api_Program) (s_3 : ByteArray) (a_104 : List T_api_Trait) (x_105 : Int) (x_106 : Int) : Option (ByteArray) := roadref2_Mark.l2_k.go (.l2 y_1 s_3 a_104 x_105 x_106)
theorem roadref2_Mark.l2_eq (y_1 : T_api_Program) (s_3 : ByteArray) (a_104 : List T_api_Trait) (x_105 : Int) (x_106 : Int) : roadref2_Mark.l2 y_1 s_3 a_104 x_105 x_106 = if x_106 < x_105 then (Option.bind (gi a_104 x_106) fun y1 => Option.bind (roadref2_texts ([y1.Name] : List ByteArray)) fun y19 => Option.bind (roadref2_funcsMark y1.Funcs) fun y39 => if ByteArray.size y19 + ByteArray.size y39 ≤ 9223372036854775807 then (if ByteArray.size s_3 + ByteArray.size (y19 ++ y39) ≤ 9223372036854775807 then ((roadref2_Mark.l2 y_1 (s_3 ++ (y19 ++ y39)) a_104 x_105 (IntKind.wrap .i64 (x_106 + (1 : Int))))) else none) else none) else ((roadref2_Mark.l3 y_1 s_3 y_1.Impls (((List.length y_1.Impls) : Nat) : Int) (0 : Int))) := fixF_eq roadref2_Mark.l2_k.mono _
def roadref2_Mark.l2_k.I : (p : roadref2_Mark.l2_k.Pt) → (ByteArray) → Prop
  | .l2 y_1 s_3 a_104 x_105 x_106, r => ∀ (W : Nat → Prop) (h0 m0 h m : Heap) (bk_1 : Nat) (cs_1 : List Value) (A_104 : Option Addr) (n_104 c_104 : Nat) (O : Hold W h0 m0 h m [rV bk_1 29 cs_1]) (e_1 : T_api_Program.E m y_1 cs_1) (ne_104 : n_104 = List.length a_104) (k_104 : List.length a_104 ≤ c_104) (r_104 : Rd 2 T_api_Trait.E m A_104 a_104) (tab : TB m), f9.l2 (roadref2_Mark.post W h0 m0 r) (⟨bk_1, 0, none⟩ : Addr) s_3 A_104 n_104 c_104 x_105 x_106 h
set_option maxHeartbeats 4000000 in
set_option maxRecDepth 100000 in
theorem roadref2_Mark.l2_k.step_l2 (go : (p : roadref2_Mark.l2_k.Pt) → Option (ByteArray)) (ih : ∀ p r, go p = some r → roadref2_Mark.l2_k.I p r) (y_1 : T_api_Program) (s_3 : ByteArray) (a_104 : List T_api_Trait) (x_105 : Int) (x_106 : Int) (r : ByteArray) (e : roadref2_Mark.l2_k.body go (.l2 y_1 s_3 a_104 x_105 x_106) = some r) : roadref2_Mark.l2_k.I (.l2 y_1 s_3 a_104 x_105 x_106) r := by
  unfold roadref2_Mark.l2_k.body at e
  intro W h0 m0 h m bk_1 cs_1 A_104 n_104 c_104 O e_1 ne_104 k_104 r_104 tab
  subst ne_104
  refine f9.l2_in ?_
  unfold f9.l2T
  refine split_dec_e e (fun c151 e => ?_) (fun c151 e => ?_)
  · obtain ⟨y1, g2, e⟩ := bind_e e
    refine r_104.addr rfl g2 fun a3 cs4 ha5 hc6 he7 => ?_
    refine ⟨_, ldAn O.s hc6 rfl, ?_⟩
    refine O.new fun h8 x9 O10 => ?_
    refine ⟨_, rfl, (T_api_Trait.T.len _ _ _ he7), ?_⟩
    refine O10.stA 1 rfl (T_api_Trait.T.len _ _ _ he7) (T_api_Trait.T.flat _ _ _ he7) fun h12 O13 => ?_
    refine ⟨_, ld0 (Sub.refl _) (O13.all 1 rfl) (T_api_Trait.g0 he7), _, rfl, ?_⟩
    obtain ⟨y19, g20, e⟩ := bind_e e
    obtain ⟨y39, g40, e⟩ := bind_e e
    refine ⟨?_, ?_⟩
    · refine O13.new fun h48 x49 O50 => ?_
      refine ⟨?_, ?_⟩
      · have O52 := O50.rowE (l := ([y1.Name] : List ByteArray)) 2 rfl tell_str (show CsE _ _ _ _ _ from (CsE.cons (c1 := [(Value.string y1.Name)]) rfl rfl CsE.nil)) rfl
        have O59 := O52.nm
        obtain ⟨m60, u61, s66, ⟨⟨r64, k65⟩, _⟩, B62, C63⟩ := O59.lend0 [2]
        replace r64 : Rd 1 eStr m60 (some ⟨(Array.size h12), 0, none⟩) ([y1.Name] : List ByteArray) := r64
        replace k65 : List.length ([y1.Name] : List ByteArray) ≤ 1 := k65
        refine (roadref2_texts.walk (Hold.start (W := No) s66) rfl k65 r64 (TBg.sub tab u61) g20).mono ?_
        rintro _ h55 ⟨m56, Q57, rfl⟩
        have O67 := Hold.nm (C63 Q57 vfs_nil)
        refine ⟨_, rfl, ?_⟩
        obtain ⟨A68, c69, q70, k71, r72⟩ := T_api_Trait.g1 he7
        refine ⟨_, ldk (k := 1) (Sub.refl _) (O67.all 1 rfl) q70, _, _, _, rfl, ?_⟩
        refine ⟨Ext.refl _, ?_⟩
        refine (roadref2_funcsMark.walk (Hold.start (W := No) O67.s) rfl k71 r72 tab g40).mono ?_
        rintro _ h75 ⟨m76, Q77, rfl⟩
        have O79 := Hold.nm (O67.retC Q77 vfs_nil)
        refine ⟨_, rfl, ?_⟩
        obtain ⟨g80, e⟩ := guard_e e
        refine ⟨g80, ?_⟩
        obtain ⟨g81, e⟩ := guard_e e
        refine ⟨g81, ?_⟩
        exact (ih _ _ e) _ _ _ _ _ _ _ _ _ _ (O79.pick [0]).nm e_1 rfl k_104 r_104 tab
      · obtain ⟨A82, c83, q84, k85, r86⟩ := T_api_Trait.g1 he7
        refine ⟨_, ldk (k := 1) (Sub.refl _) (O50.all 1 rfl) q84, _, _, _, rfl, ?_⟩
        refine ⟨Ext.refl _, ?_⟩
        have O87 := O50.rowE (l := ([y1.Name] : List ByteArray)) 2 rfl tell_str (show CsE _ _ _ _ _ from (CsE.cons (c1 := [(Value.string y1.Name)]) rfl rfl CsE.nil)) rfl
        have O94 := O87.nm
        obtain ⟨m95, u96, s101, ⟨⟨r99, k100⟩, _⟩, B97, C98⟩ := O94.lend0 [2]
        replace r99 : Rd 1 eStr m95 (some ⟨(Array.size h12), 0, none⟩) ([y1.Name] : List ByteArray) := r99
        replace k100 : List.length ([y1.Name] : List ByteArray) ≤ 1 := k100
        refine (roadref2_texts.walk (Hold.start (W := No) s101) rfl k100 r99 (TBg.sub tab u96) g20).mono ?_
        rintro _ h90 ⟨m91, Q92, rfl⟩
        have O102 := Hold.nm (C98 Q92 vfs_nil)
        refine ⟨_, rfl, ?_⟩
        refine (roadref2_funcsMark.walk (Hold.start (W := No) O102.s) rfl k85 r86 tab g40).mono ?_
        rintro _ h105 ⟨m106, Q107, rfl⟩
        have O109 := Hold.nm (O102.retC Q107 vfs_nil)
        refine ⟨_, rfl, ?_⟩
        obtain ⟨g110, e⟩ := guard_e e
        refine ⟨g110, ?_⟩
        obtain ⟨g111, e⟩ := guard_e e
        refine ⟨g111, ?_⟩
        exact (ih _ _ e) _ _ _ _ _ _ _ _ _ _ (O109.pick [0]).nm e_1 rfl k_104 r_104 tab
    · obtain ⟨A112, c113, q114, k115, r116⟩ := T_api_Trait.g1 he7
      refine ⟨_, ldk (k := 1) (Sub.refl _) (O13.all 1 rfl) q114, _, _, _, rfl, ?_⟩
      refine ⟨Ext.refl _, ?_⟩
      refine O13.new fun h117 x118 O119 => ?_
      have O121 := O119.rowE (l := ([y1.Name] : List ByteArray)) 2 rfl tell_str (show CsE _ _ _ _ _ from (CsE.cons (c1 := [(Value.string y1.Name)]) rfl rfl CsE.nil)) rfl
      have O128 := O121.nm
      obtain ⟨m129, u130, s135, ⟨⟨r133, k134⟩, _⟩, B131, C132⟩ := O128.lend0 [2]
      replace r133 : Rd 1 eStr m129 (some ⟨(Array.size h12), 0, none⟩) ([y1.Name] : List ByteArray) := r133
      replace k134 : List.length ([y1.Name] : List ByteArray) ≤ 1 := k134
      refine (roadref2_texts.walk (Hold.start (W := No) s135) rfl k134 r133 (TBg.sub tab u130) g20).mono ?_
      rintro _ h124 ⟨m125, Q126, rfl⟩
      have O136 := Hold.nm (C132 Q126 vfs_nil)
      refine ⟨_, rfl, ?_⟩
      refine (roadref2_funcsMark.walk (Hold.start (W := No) O136.s) rfl k115 r116 tab g40).mono ?_
      rintro _ h139 ⟨m140, Q141, rfl⟩
      have O143 := Hold.nm (O136.retC Q141 vfs_nil)
      refine ⟨_, rfl, ?_⟩
      obtain ⟨g144, e⟩ := guard_e e
      refine ⟨g144, ?_⟩
      obtain ⟨g145, e⟩ := guard_e e
      refine ⟨g145, ?_⟩
      exact (ih _ _ e) _ _ _ _ _ _ _ _ _ _ (O143.pick [0]).nm e_1 rfl k_104 r_104 tab
  · obtain ⟨A146, c147, q148, k149, r150⟩ := T_api_Program.g5 e_1
    refine ⟨_, ldk (k := 5) (Sub.refl _) (O.all 0 rfl) q148, _, _, _, rfl, ?_⟩
    exact roadref2_Mark.l3.walk (O.pick [0]).nm e_1 rfl k149 r150 tab e
theorem roadref2_Mark.l2_k.all {p : roadref2_Mark.l2_k.Pt} {r : (ByteArray)} (e : roadref2_Mark.l2_k.go p = some r) : roadref2_Mark.l2_k.I p r := fixF_ind (β := fun _ => (ByteArray)) roadref2_Mark.l2_k.mono (I := roadref2_Mark.l2_k.I) (fun go ih p r e => match p with
  | .l2 y_1 s_3 a_104 x_105 x_106 => roadref2_Mark.l2_k.step_l2 go ih y_1 s_3 a_104 x_105 x_106 r e
  ) e
theorem roadref2_Mark.l2.walk {W : Nat → Prop} {h0 m0 h m : Heap} {bk_1 : Nat} {cs_1 : List Value} {A_104 : Option Addr} {n_104 c_104 : Nat} {y_1 : T_api_Program} {s_3 : ByteArray} {a_104 : List T_api_Trait} {x_105 : Int} {x_106 : Int} (O : Hold W h0 m0 h m [rV bk_1 29 cs_1]) (e_1 : T_api_Program.E m y_1 cs_1) (ne_104 : n_104 = List.length a_104) (k_104 : List.length a_104 ≤ c_104) (r_104 : Rd 2 T_api_Trait.E m A_104 a_104) (tab : TB m) {r : ByteArray} (e : roadref2_Mark.l2 y_1 s_3 a_104 x_105 x_106 = some r) : f9.l2 (roadref2_Mark.post W h0 m0 r) (⟨bk_1, 0, none⟩ : Addr) s_3 A_104 n_104 c_104 x_105 x_106 h := roadref2_Mark.l2_k.all (p := .l2 y_1 s_3 a_104 x_105 x_106) e W h0 m0 h m bk_1 cs_1 A_104 n_104 c_104 O e_1 ne_104 k_104 r_104 tab
inductive roadref2_Mark.l1_k.Pt where
  | l1 (y_1 : T_api_Program) (s_3 : ByteArray) (a_62 : List T_api_Data) (x_63 : Int) (x_64 : Int)
  | j1 (y_1 : T_api_Program) (s_3 : ByteArray) (y_7 : T_api_Data) (a_62 : List T_api_Data) (x_63 : Int) (x_64 : Int)
  | l5 (y_1 : T_api_Program) (s_3 : ByteArray) (a_62 : List T_api_Data) (x_63 : Int) (x_64 : Int) (a_85 : List T_api_Make) (x_86 : Int) (x_87 : Int)
noncomputable def roadref2_Mark.l1_k.body (go : (p : roadref2_Mark.l1_k.Pt) → Option (ByteArray)) : (p : roadref2_Mark.l1_k.Pt) → Option (ByteArray)
  | .l1 y_1 s_3 a_62 x_63 x_64 => if x_64 < x_63 then (Option.bind (gi a_62 x_64) fun y1 => Option.bind (roadref2_texts ([y1.Name] : List ByteArray)) fun y29 => Option.bind (roadref2_nums ([(((List.length y1.Makes) : Nat) : Int)] : List Int)) fun y49 => if ByteArray.size y29 + ByteArray.size y49 ≤ 9223372036854775807 then (Option.bind (roadref2_namesMark y1.Params) fun y65 => if ByteArray.size (y29 ++ y49) + ByteArray.size y65 ≤ 9223372036854775807 then (if ByteArray.size s_3 + ByteArray.size ((y29 ++ y49) ++ y65) ≤ 9223372036854775807 then ((go (.j1 y_1 (s_3 ++ ((y29 ++ y49) ++ y65)) y1 a_62 x_63 x_64))) else none) else none) else none) else ((roadref2_Mark.l2 y_1 s_3 y_1.Traits (((List.length y_1.Traits) : Nat) : Int) (0 : Int)))
  | .j1 y_1 s_3 y_7 a_62 x_63 x_64 => (go (.l5 y_1 s_3 a_62 x_63 x_64 y_7.Makes (((List.length y_7.Makes) : Nat) : Int) (0 : Int)))
  | .l5 y_1 s_3 a_62 x_63 x_64 a_85 x_86 x_87 => if x_87 < x_86 then (Option.bind (gi a_85 x_87) fun y1 => Option.bind (roadref2_texts ([y1.Name] : List ByteArray)) fun y19 => Option.bind (roadref2_typesMark y1.Args) fun y39 => if ByteArray.size y19 + ByteArray.size y39 ≤ 9223372036854775807 then (if ByteArray.size s_3 + ByteArray.size (y19 ++ y39) ≤ 9223372036854775807 then ((go (.l5 y_1 (s_3 ++ (y19 ++ y39)) a_62 x_63 x_64 a_85 x_86 (IntKind.wrap .i64 (x_87 + (1 : Int)))))) else none) else none) else ((go (.l1 y_1 s_3 a_62 x_63 (IntKind.wrap .i64 (x_64 + (1 : Int))))))
theorem roadref2_Mark.l1_k.mono : MonoF (β := fun _ => (ByteArray)) roadref2_Mark.l1_k.body := fun f g hfg p => match p with
  | .l1 y_1 s_3 a_62 x_63 x_64 => LeO.ite (LeO.bind (LeO.refl _) fun y1 => LeO.bind (LeO.refl _) fun y29 => LeO.bind (LeO.refl _) fun y49 => LeO.ite (LeO.bind (LeO.refl _) fun y65 => LeO.ite (LeO.ite ((hfg _)) (LeO.refl _)) (LeO.refl _)) (LeO.refl _)) ((LeO.refl _))
  | .j1 y_1 s_3 y_7 a_62 x_63 x_64 => (hfg _)
  | .l5 y_1 s_3 a_62 x_63 x_64 a_85 x_86 x_87 => LeO.ite (LeO.bind (LeO.refl _) fun y1 => LeO.bind (LeO.refl _) fun y19 => LeO.bind (LeO.refl _) fun y39 => LeO.ite (LeO.ite ((hfg _)) (LeO.refl _)) (LeO.refl _)) ((hfg _))
noncomputable def roadref2_Mark.l1_k.go (p : roadref2_Mark.l1_k.Pt) : Option (ByteArray) := fixF (β := fun _ => (ByteArray)) roadref2_Mark.l1_k.body p
noncomputable def roadref2_Mark.l1 (y_1 : T_api_Program) (s_3 : ByteArray) (a_62 : List T_api_Data) (x_63 : Int) (x_64 : Int) : Option (ByteArray) := roadref2_Mark.l1_k.go (.l1 y_1 s_3 a_62 x_63 x_64)
noncomputable def roadref2_Mark.j1 (y_1 : T_api_Program) (s_3 : ByteArray) (y_7 : T_api_Data) (a_62 : List T_api_Data) (x_63 : Int) (x_64 : Int) : Option (ByteArray) := roadref2_Mark.l1_k.go (.j1 y_1 s_3 y_7 a_62 x_63 x_64)
noncomputable def roadref2_Mark.l5 (y_1 : T_api_Program) (s_3 : ByteArray) (a_62 : List T_api_Data) (x_63 : Int) (x_64 : Int) (a_85 : List T_api_Make) (x_86 : Int) (x_87 : Int) : Option (ByteArray) := roadref2_Mark.l1_k.go (.l5 y_1 s_3 a_62 x_63 x_64 a_85 x_86 x_87)
theorem roadref2_Mark.l1_eq (y_1 : T_api_Program) (s_3 : ByteArray) (a_62 : List T_api_Data) (x_63 : Int) (x_64 : Int) : roadref2_Mark.l1 y_1 s_3 a_62 x_63 x_64 = if x_64 < x_63 then (Option.bind (gi a_62 x_64) fun y1 => Option.bind (roadref2_texts ([y1.Name] : List ByteArray)) fun y29 => Option.bind (roadref2_nums ([(((List.length y1.Makes) : Nat) : Int)] : List Int)) fun y49 => if ByteArray.size y29 + ByteArray.size y49 ≤ 9223372036854775807 then (Option.bind (roadref2_namesMark y1.Params) fun y65 => if ByteArray.size (y29 ++ y49) + ByteArray.size y65 ≤ 9223372036854775807 then (if ByteArray.size s_3 + ByteArray.size ((y29 ++ y49) ++ y65) ≤ 9223372036854775807 then ((roadref2_Mark.j1 y_1 (s_3 ++ ((y29 ++ y49) ++ y65)) y1 a_62 x_63 x_64)) else none) else none) else none) else ((roadref2_Mark.l2 y_1 s_3 y_1.Traits (((List.length y_1.Traits) : Nat) : Int) (0 : Int))) := fixF_eq roadref2_Mark.l1_k.mono _
theorem roadref2_Mark.j1_eq (y_1 : T_api_Program) (s_3 : ByteArray) (y_7 : T_api_Data) (a_62 : List T_api_Data) (x_63 : Int) (x_64 : Int) : roadref2_Mark.j1 y_1 s_3 y_7 a_62 x_63 x_64 = (roadref2_Mark.l5 y_1 s_3 a_62 x_63 x_64 y_7.Makes (((List.length y_7.Makes) : Nat) : Int) (0 : Int)) := fixF_eq roadref2_Mark.l1_k.mono _
theorem roadref2_Mark.l5_eq (y_1 : T_api_Program) (s_3 : ByteArray) (a_62 : List T_api_Data) (x_63 : Int) (x_64 : Int) (a_85 : List T_api_Make) (x_86 : Int) (x_87 : Int) : roadref2_Mark.l5 y_1 s_3 a_62 x_63 x_64 a_85 x_86 x_87 = if x_87 < x_86 then (Option.bind (gi a_85 x_87) fun y1 => Option.bind (roadref2_texts ([y1.Name] : List ByteArray)) fun y19 => Option.bind (roadref2_typesMark y1.Args) fun y39 => if ByteArray.size y19 + ByteArray.size y39 ≤ 9223372036854775807 then (if ByteArray.size s_3 + ByteArray.size (y19 ++ y39) ≤ 9223372036854775807 then ((roadref2_Mark.l5 y_1 (s_3 ++ (y19 ++ y39)) a_62 x_63 x_64 a_85 x_86 (IntKind.wrap .i64 (x_87 + (1 : Int))))) else none) else none) else ((roadref2_Mark.l1 y_1 s_3 a_62 x_63 (IntKind.wrap .i64 (x_64 + (1 : Int))))) := fixF_eq roadref2_Mark.l1_k.mono _
def roadref2_Mark.l1_k.I : (p : roadref2_Mark.l1_k.Pt) → (ByteArray) → Prop
  | .l1 y_1 s_3 a_62 x_63 x_64, r => ∀ (W : Nat → Prop) (h0 m0 h m : Heap) (bk_1 : Nat) (cs_1 : List Value) (A_62 : Option Addr) (n_62 c_62 : Nat) (O : Hold W h0 m0 h m [rV bk_1 29 cs_1]) (e_1 : T_api_Program.E m y_1 cs_1) (ne_62 : n_62 = List.length a_62) (k_62 : List.length a_62 ≤ c_62) (r_62 : Rd 3 T_api_Data.E m A_62 a_62) (tab : TB m), f9.l1 (roadref2_Mark.post W h0 m0 r) (⟨bk_1, 0, none⟩ : Addr) s_3 A_62 n_62 c_62 x_63 x_64 h
  | .j1 y_1 s_3 y_7 a_62 x_63 x_64, r => ∀ (W : Nat → Prop) (h0 m0 h m : Heap) (bk_1 : Nat) (cs_1 : List Value) (bk_7 : Nat) (cs_7 : List Value) (A_62 : Option Addr) (n_62 c_62 : Nat) (O : Hold W h0 m0 h m [rV bk_1 29 cs_1, rV bk_7 71 cs_7]) (e_1 : T_api_Program.E m y_1 cs_1) (e_7 : T_api_Data.E m y_7 cs_7) (ne_62 : n_62 = List.length a_62) (k_62 : List.length a_62 ≤ c_62) (r_62 : Rd 3 T_api_Data.E m A_62 a_62) (tab : TB m), f9.j1 (roadref2_Mark.post W h0 m0 r) (⟨bk_1, 0, none⟩ : Addr) s_3 (⟨bk_7, 0, none⟩ : Addr) A_62 n_62 c_62 x_63 x_64 h
  | .l5 y_1 s_3 a_62 x_63 x_64 a_85 x_86 x_87, r => ∀ (W : Nat → Prop) (h0 m0 h m : Heap) (bk_1 : Nat) (cs_1 : List Value) (A_62 : Option Addr) (n_62 c_62 : Nat) (A_85 : Option Addr) (n_85 c_85 : Nat) (O : Hold W h0 m0 h m [rV bk_1 29 cs_1]) (e_1 : T_api_Program.E m y_1 cs_1) (ne_62 : n_62 = List.length a_62) (k_62 : List.length a_62 ≤ c_62) (r_62 : Rd 3 T_api_Data.E m A_62 a_62) (ne_85 : n_85 = List.length a_85) (k_85 : List.length a_85 ≤ c_85) (r_85 : Rd 2 T_api_Make.E m A_85 a_85) (tab : TB m), f9.l5 (roadref2_Mark.post W h0 m0 r) (⟨bk_1, 0, none⟩ : Addr) s_3 A_62 n_62 c_62 x_63 x_64 A_85 n_85 c_85 x_86 x_87 h
set_option maxHeartbeats 4000000 in
set_option maxRecDepth 100000 in
theorem roadref2_Mark.l1_k.step_l1 (go : (p : roadref2_Mark.l1_k.Pt) → Option (ByteArray)) (ih : ∀ p r, go p = some r → roadref2_Mark.l1_k.I p r) (y_1 : T_api_Program) (s_3 : ByteArray) (a_62 : List T_api_Data) (x_63 : Int) (x_64 : Int) (r : ByteArray) (e : roadref2_Mark.l1_k.body go (.l1 y_1 s_3 a_62 x_63 x_64) = some r) : roadref2_Mark.l1_k.I (.l1 y_1 s_3 a_62 x_63 x_64) r := by
  unfold roadref2_Mark.l1_k.body at e
  intro W h0 m0 h m bk_1 cs_1 A_62 n_62 c_62 O e_1 ne_62 k_62 r_62 tab
  subst ne_62
  refine f9.l1_in ?_
  unfold f9.l1T
  refine split_dec_e e (fun c225 e => ?_) (fun c225 e => ?_)
  · obtain ⟨y1, g2, e⟩ := bind_e e
    refine r_62.addr rfl g2 fun a3 cs4 ha5 hc6 he7 => ?_
    refine ⟨_, ldAn O.s hc6 rfl, ?_⟩
    refine O.new fun h8 x9 O10 => ?_
    refine ⟨_, rfl, (T_api_Data.T.len _ _ _ he7), ?_⟩
    refine O10.stA 1 rfl (T_api_Data.T.len _ _ _ he7) (T_api_Data.T.flat _ _ _ he7) fun h12 O13 => ?_
    refine ⟨_, ld0 (Sub.refl _) (O13.all 1 rfl) (T_api_Data.g0 he7), _, rfl, ?_⟩
    obtain ⟨A14, c15, q16, k17, r18⟩ := T_api_Data.g2 he7
    refine ⟨_, ldk (k := 2) (Sub.refl _) (O13.all 1 rfl) q16, _, _, _, rfl, ?_⟩
    obtain ⟨A19, c20, q21, k22, r23⟩ := T_api_Data.g1 he7
    refine ⟨_, ldk (k := 1) (Sub.refl _) (O13.all 1 rfl) q21, _, _, _, rfl, ?_⟩
    obtain ⟨y29, g30, e⟩ := bind_e e
    obtain ⟨y49, g50, e⟩ := bind_e e
    obtain ⟨g64, e⟩ := guard_e e
    obtain ⟨y65, g66, e⟩ := bind_e e
    refine ⟨?_, ?_⟩
    · refine O13.new fun h74 x75 O76 => ?_
      refine ⟨x75, ?_⟩
      refine ⟨?_, ?_⟩
      · have O78 := O76.rowE (l := ([y1.Name] : List ByteArray)) 2 rfl tell_str (show CsE _ _ _ _ _ from (CsE.cons (c1 := [(Value.string y1.Name)]) rfl rfl CsE.nil)) rfl
        have O85 := O78.nm
        obtain ⟨m86, u87, s92, ⟨⟨r90, k91⟩, _⟩, B88, C89⟩ := O85.lend0 [2]
        replace r90 : Rd 1 eStr m86 (some ⟨(Array.size h12), 0, none⟩) ([y1.Name] : List ByteArray) := r90
        replace k91 : List.length ([y1.Name] : List ByteArray) ≤ 1 := k91
        refine (roadref2_texts.walk (Hold.start (W := No) s92) rfl k91 r90 (TBg.sub tab u87) g30).mono ?_
        rintro _ h81 ⟨m82, Q83, rfl⟩
        have O93 := Hold.nm (C89 Q83 vfs_nil)
        refine ⟨_, rfl, ?_⟩
        refine ⟨Q83.S.ext, ?_⟩
        refine O93.new fun h94 x95 O96 => ?_
        refine ⟨x95, ?_⟩
        have O98 := O96.rowE (l := ([(((List.length y1.Makes) : Nat) : Int)] : List Int)) 3 rfl (tell_int .i64) (show CsE _ _ _ _ _ from (CsE.cons (c1 := [(Value.int .i64 (((List.length y1.Makes) : Nat) : Int))]) rfl rfl CsE.nil)) rfl
        have O105 := O98.nm
        obtain ⟨m106, u107, s112, ⟨⟨r110, k111⟩, _⟩, B108, C109⟩ := O105.lend0 [3]
        replace r110 : Rd 1 (eInt .i64) m106 (some ⟨(Array.size h81), 0, none⟩) ([(((List.length y1.Makes) : Nat) : Int)] : List Int) := r110
        replace k111 : List.length ([(((List.length y1.Makes) : Nat) : Int)] : List Int) ≤ 1 := k111
        refine (roadref2_nums.walk (Hold.start (W := No) s112) rfl k111 r110 (TBg.sub tab u107) g50).mono ?_
        rintro _ h101 ⟨m102, Q103, rfl⟩
        have O113 := Hold.nm (C109 Q103 vfs_nil)
        refine ⟨_, rfl, ?_⟩
        refine ⟨Q103.S.ext, ?_⟩
        refine ⟨g64, ?_⟩
        refine (roadref2_namesMark.walk (Hold.start (W := No) O113.s) rfl k22 r23 tab g66).mono ?_
        rintro _ h117 ⟨m118, Q119, rfl⟩
        have O121 := Hold.nm (O113.retC Q119 vfs_nil)
        refine ⟨_, rfl, ?_⟩
        obtain ⟨g122, e⟩ := guard_e e
        refine ⟨g122, ?_⟩
        obtain ⟨g123, e⟩ := guard_e e
        refine ⟨g123, ?_⟩
        exact (ih _ _ e) _ _ _ _ _ _ _ _ _ _ _ _ (O121.pick [0, 1]).nm e_1 he7 rfl k_62 r_62 tab
      · refine O76.new fun h124 x125 O126 => ?_
        refine ⟨x125, ?_⟩
        have O128 := O126.rowE (l := ([y1.Name] : List ByteArray)) 2 rfl tell_str (show CsE _ _ _ _ _ from (CsE.cons (c1 := [(Value.string y1.Name)]) rfl rfl CsE.nil)) rfl
        have O135 := O128.nm
        obtain ⟨m136, u137, s142, ⟨⟨r140, k141⟩, _⟩, B138, C139⟩ := O135.lend0 [2]
        replace r140 : Rd 1 eStr m136 (some ⟨(Array.size h12), 0, none⟩) ([y1.Name] : List ByteArray) := r140
        replace k141 : List.length ([y1.Name] : List ByteArray) ≤ 1 := k141
        refine (roadref2_texts.walk (Hold.start (W := No) s142) rfl k141 r140 (TBg.sub tab u137) g30).mono ?_
        rintro _ h131 ⟨m132, Q133, rfl⟩
        have O143 := Hold.nm (C139 Q133 vfs_nil)
        refine ⟨_, rfl, ?_⟩
        refine ⟨Q133.S.ext, ?_⟩
        have O144 := O143.rowE (l := ([(((List.length y1.Makes) : Nat) : Int)] : List Int)) 3 rfl (tell_int .i64) (show CsE _ _ _ _ _ from (CsE.cons (c1 := [(Value.int .i64 (((List.length y1.Makes) : Nat) : Int))]) rfl rfl CsE.nil)) rfl
        have O151 := O144.nm
        obtain ⟨m152, u153, s158, ⟨⟨r156, k157⟩, _⟩, B154, C155⟩ := O151.lend0 [3]
        replace r156 : Rd 1 (eInt .i64) m152 (some ⟨(Array.size h74), 0, none⟩) ([(((List.length y1.Makes) : Nat) : Int)] : List Int) := r156
        replace k157 : List.length ([(((List.length y1.Makes) : Nat) : Int)] : List Int) ≤ 1 := k157
        refine (roadref2_nums.walk (Hold.start (W := No) s158) rfl k157 r156 (TBg.sub tab u153) g50).mono ?_
        rintro _ h147 ⟨m148, Q149, rfl⟩
        have O159 := Hold.nm (C155 Q149 vfs_nil)
        refine ⟨_, rfl, ?_⟩
        refine ⟨Q149.S.ext, ?_⟩
        refine ⟨g64, ?_⟩
        refine (roadref2_namesMark.walk (Hold.start (W := No) O159.s) rfl k22 r23 tab g66).mono ?_
        rintro _ h163 ⟨m164, Q165, rfl⟩
        have O167 := Hold.nm (O159.retC Q165 vfs_nil)
        refine ⟨_, rfl, ?_⟩
        obtain ⟨g168, e⟩ := guard_e e
        refine ⟨g168, ?_⟩
        obtain ⟨g169, e⟩ := guard_e e
        refine ⟨g169, ?_⟩
        exact (ih _ _ e) _ _ _ _ _ _ _ _ _ _ _ _ (O167.pick [0, 1]).nm e_1 he7 rfl k_62 r_62 tab
    · refine O13.new fun h170 x171 O172 => ?_
      refine ⟨x171, ?_⟩
      refine O172.new fun h174 x175 O176 => ?_
      refine ⟨x175, ?_⟩
      have O178 := O176.rowE (l := ([y1.Name] : List ByteArray)) 3 rfl tell_str (show CsE _ _ _ _ _ from (CsE.cons (c1 := [(Value.string y1.Name)]) rfl rfl CsE.nil)) rfl
      have O185 := O178.nm
      obtain ⟨m186, u187, s192, ⟨⟨r190, k191⟩, _⟩, B188, C189⟩ := O185.lend0 [3]
      replace r190 : Rd 1 eStr m186 (some ⟨(Array.size h170), 0, none⟩) ([y1.Name] : List ByteArray) := r190
      replace k191 : List.length ([y1.Name] : List ByteArray) ≤ 1 := k191
      refine (roadref2_texts.walk (Hold.start (W := No) s192) rfl k191 r190 (TBg.sub tab u187) g30).mono ?_
      rintro _ h181 ⟨m182, Q183, rfl⟩
      have O193 := Hold.nm (C189 Q183 vfs_nil)
      refine ⟨_, rfl, ?_⟩
      refine ⟨Q183.S.ext, ?_⟩
      have O194 := O193.rowE (l := ([(((List.length y1.Makes) : Nat) : Int)] : List Int)) 2 rfl (tell_int .i64) (show CsE _ _ _ _ _ from (CsE.cons (c1 := [(Value.int .i64 (((List.length y1.Makes) : Nat) : Int))]) rfl rfl CsE.nil)) rfl
      have O201 := O194.nm
      obtain ⟨m202, u203, s208, ⟨⟨r206, k207⟩, _⟩, B204, C205⟩ := O201.lend0 [2]
      replace r206 : Rd 1 (eInt .i64) m202 (some ⟨(Array.size h12), 0, none⟩) ([(((List.length y1.Makes) : Nat) : Int)] : List Int) := r206
      replace k207 : List.length ([(((List.length y1.Makes) : Nat) : Int)] : List Int) ≤ 1 := k207
      refine (roadref2_nums.walk (Hold.start (W := No) s208) rfl k207 r206 (TBg.sub tab u203) g50).mono ?_
      rintro _ h197 ⟨m198, Q199, rfl⟩
      have O209 := Hold.nm (C205 Q199 vfs_nil)
      refine ⟨_, rfl, ?_⟩
      refine ⟨Q199.S.ext, ?_⟩
      refine ⟨g64, ?_⟩
      refine (roadref2_namesMark.walk (Hold.start (W := No) O209.s) rfl k22 r23 tab g66).mono ?_
      rintro _ h213 ⟨m214, Q215, rfl⟩
      have O217 := Hold.nm (O209.retC Q215 vfs_nil)
      refine ⟨_, rfl, ?_⟩
      obtain ⟨g218, e⟩ := guard_e e
      refine ⟨g218, ?_⟩
      obtain ⟨g219, e⟩ := guard_e e
      refine ⟨g219, ?_⟩
      exact (ih _ _ e) _ _ _ _ _ _ _ _ _ _ _ _ (O217.pick [0, 1]).nm e_1 he7 rfl k_62 r_62 tab
  · obtain ⟨A220, c221, q222, k223, r224⟩ := T_api_Program.g4 e_1
    refine ⟨_, ldk (k := 4) (Sub.refl _) (O.all 0 rfl) q222, _, _, _, rfl, ?_⟩
    exact roadref2_Mark.l2.walk (O.pick [0]).nm e_1 rfl k223 r224 tab e
set_option maxRecDepth 100000 in
theorem roadref2_Mark.l1_k.step_j1 (go : (p : roadref2_Mark.l1_k.Pt) → Option (ByteArray)) (ih : ∀ p r, go p = some r → roadref2_Mark.l1_k.I p r) (y_1 : T_api_Program) (s_3 : ByteArray) (y_7 : T_api_Data) (a_62 : List T_api_Data) (x_63 : Int) (x_64 : Int) (r : ByteArray) (e : roadref2_Mark.l1_k.body go (.j1 y_1 s_3 y_7 a_62 x_63 x_64) = some r) : roadref2_Mark.l1_k.I (.j1 y_1 s_3 y_7 a_62 x_63 x_64) r := by
  unfold roadref2_Mark.l1_k.body at e
  intro W h0 m0 h m bk_1 cs_1 bk_7 cs_7 A_62 n_62 c_62 O e_1 e_7 ne_62 k_62 r_62 tab
  subst ne_62
  refine f9.j1_in ?_
  unfold f9.j1T
  obtain ⟨A1, c2, q3, k4, r5⟩ := T_api_Data.g2 e_7
  refine ⟨_, ldk (k := 2) (Sub.refl _) (O.all 1 rfl) q3, _, _, _, rfl, ?_⟩
  exact (ih _ _ e) _ _ _ _ _ _ _ _ _ _ _ _ _ (O.pick [0]).nm e_1 rfl k_62 r_62 rfl k4 r5 tab
set_option maxHeartbeats 4000000 in
set_option maxRecDepth 100000 in
theorem roadref2_Mark.l1_k.step_l5 (go : (p : roadref2_Mark.l1_k.Pt) → Option (ByteArray)) (ih : ∀ p r, go p = some r → roadref2_Mark.l1_k.I p r) (y_1 : T_api_Program) (s_3 : ByteArray) (a_62 : List T_api_Data) (x_63 : Int) (x_64 : Int) (a_85 : List T_api_Make) (x_86 : Int) (x_87 : Int) (r : ByteArray) (e : roadref2_Mark.l1_k.body go (.l5 y_1 s_3 a_62 x_63 x_64 a_85 x_86 x_87) = some r) : roadref2_Mark.l1_k.I (.l5 y_1 s_3 a_62 x_63 x_64 a_85 x_86 x_87) r := by
  unfold roadref2_Mark.l1_k.body at e
  intro W h0 m0 h m bk_1 cs_1 A_62 n_62 c_62 A_85 n_85 c_85 O e_1 ne_62 k_62 r_62 ne_85 k_85 r_85 tab
  subst ne_62
  subst ne_85
  refine f9.l5_in ?_
  unfold f9.l5T
  refine split_dec_e e (fun c146 e => ?_) (fun c146 e => ?_)
  · obtain ⟨y1, g2, e⟩ := bind_e e
    refine r_85.addr rfl g2 fun a3 cs4 ha5 hc6 he7 => ?_
    refine ⟨_, ldAn O.s hc6 rfl, ?_⟩
    refine O.new fun h8 x9 O10 => ?_
    refine ⟨_, rfl, (T_api_Make.T.len _ _ _ he7), ?_⟩
    refine O10.stA 1 rfl (T_api_Make.T.len _ _ _ he7) (T_api_Make.T.flat _ _ _ he7) fun h12 O13 => ?_
    refine ⟨_, ld0 (Sub.refl _) (O13.all 1 rfl) (T_api_Make.g0 he7), _, rfl, ?_⟩
    obtain ⟨y19, g20, e⟩ := bind_e e
    obtain ⟨y39, g40, e⟩ := bind_e e
    refine ⟨?_, ?_⟩
    · refine O13.new fun h48 x49 O50 => ?_
      refine ⟨?_, ?_⟩
      · have O52 := O50.rowE (l := ([y1.Name] : List ByteArray)) 2 rfl tell_str (show CsE _ _ _ _ _ from (CsE.cons (c1 := [(Value.string y1.Name)]) rfl rfl CsE.nil)) rfl
        have O59 := O52.nm
        obtain ⟨m60, u61, s66, ⟨⟨r64, k65⟩, _⟩, B62, C63⟩ := O59.lend0 [2]
        replace r64 : Rd 1 eStr m60 (some ⟨(Array.size h12), 0, none⟩) ([y1.Name] : List ByteArray) := r64
        replace k65 : List.length ([y1.Name] : List ByteArray) ≤ 1 := k65
        refine (roadref2_texts.walk (Hold.start (W := No) s66) rfl k65 r64 (TBg.sub tab u61) g20).mono ?_
        rintro _ h55 ⟨m56, Q57, rfl⟩
        have O67 := Hold.nm (C63 Q57 vfs_nil)
        refine ⟨_, rfl, ?_⟩
        obtain ⟨A68, c69, q70, k71, r72⟩ := T_api_Make.g1 he7
        refine ⟨_, ldk (k := 1) (Sub.refl _) (O67.all 1 rfl) q70, _, _, _, rfl, ?_⟩
        refine ⟨Ext.refl _, ?_⟩
        refine (roadref2_typesMark.walk (Hold.start (W := No) O67.s) rfl k71 r72 tab g40).mono ?_
        rintro _ h75 ⟨m76, Q77, rfl⟩
        have O79 := Hold.nm (O67.retC Q77 vfs_nil)
        refine ⟨_, rfl, ?_⟩
        obtain ⟨g80, e⟩ := guard_e e
        refine ⟨g80, ?_⟩
        obtain ⟨g81, e⟩ := guard_e e
        refine ⟨g81, ?_⟩
        exact (ih _ _ e) _ _ _ _ _ _ _ _ _ _ _ _ _ (O79.pick [0]).nm e_1 rfl k_62 r_62 rfl k_85 r_85 tab
      · obtain ⟨A82, c83, q84, k85, r86⟩ := T_api_Make.g1 he7
        refine ⟨_, ldk (k := 1) (Sub.refl _) (O50.all 1 rfl) q84, _, _, _, rfl, ?_⟩
        refine ⟨Ext.refl _, ?_⟩
        have O87 := O50.rowE (l := ([y1.Name] : List ByteArray)) 2 rfl tell_str (show CsE _ _ _ _ _ from (CsE.cons (c1 := [(Value.string y1.Name)]) rfl rfl CsE.nil)) rfl
        have O94 := O87.nm
        obtain ⟨m95, u96, s101, ⟨⟨r99, k100⟩, _⟩, B97, C98⟩ := O94.lend0 [2]
        replace r99 : Rd 1 eStr m95 (some ⟨(Array.size h12), 0, none⟩) ([y1.Name] : List ByteArray) := r99
        replace k100 : List.length ([y1.Name] : List ByteArray) ≤ 1 := k100
        refine (roadref2_texts.walk (Hold.start (W := No) s101) rfl k100 r99 (TBg.sub tab u96) g20).mono ?_
        rintro _ h90 ⟨m91, Q92, rfl⟩
        have O102 := Hold.nm (C98 Q92 vfs_nil)
        refine ⟨_, rfl, ?_⟩
        refine (roadref2_typesMark.walk (Hold.start (W := No) O102.s) rfl k85 r86 tab g40).mono ?_
        rintro _ h105 ⟨m106, Q107, rfl⟩
        have O109 := Hold.nm (O102.retC Q107 vfs_nil)
        refine ⟨_, rfl, ?_⟩
        obtain ⟨g110, e⟩ := guard_e e
        refine ⟨g110, ?_⟩
        obtain ⟨g111, e⟩ := guard_e e
        refine ⟨g111, ?_⟩
        exact (ih _ _ e) _ _ _ _ _ _ _ _ _ _ _ _ _ (O109.pick [0]).nm e_1 rfl k_62 r_62 rfl k_85 r_85 tab
    · obtain ⟨A112, c113, q114, k115, r116⟩ := T_api_Make.g1 he7
      refine ⟨_, ldk (k := 1) (Sub.refl _) (O13.all 1 rfl) q114, _, _, _, rfl, ?_⟩
      refine ⟨Ext.refl _, ?_⟩
      refine O13.new fun h117 x118 O119 => ?_
      have O121 := O119.rowE (l := ([y1.Name] : List ByteArray)) 2 rfl tell_str (show CsE _ _ _ _ _ from (CsE.cons (c1 := [(Value.string y1.Name)]) rfl rfl CsE.nil)) rfl
      have O128 := O121.nm
      obtain ⟨m129, u130, s135, ⟨⟨r133, k134⟩, _⟩, B131, C132⟩ := O128.lend0 [2]
      replace r133 : Rd 1 eStr m129 (some ⟨(Array.size h12), 0, none⟩) ([y1.Name] : List ByteArray) := r133
      replace k134 : List.length ([y1.Name] : List ByteArray) ≤ 1 := k134
      refine (roadref2_texts.walk (Hold.start (W := No) s135) rfl k134 r133 (TBg.sub tab u130) g20).mono ?_
      rintro _ h124 ⟨m125, Q126, rfl⟩
      have O136 := Hold.nm (C132 Q126 vfs_nil)
      refine ⟨_, rfl, ?_⟩
      refine (roadref2_typesMark.walk (Hold.start (W := No) O136.s) rfl k115 r116 tab g40).mono ?_
      rintro _ h139 ⟨m140, Q141, rfl⟩
      have O143 := Hold.nm (O136.retC Q141 vfs_nil)
      refine ⟨_, rfl, ?_⟩
      obtain ⟨g144, e⟩ := guard_e e
      refine ⟨g144, ?_⟩
      obtain ⟨g145, e⟩ := guard_e e
      refine ⟨g145, ?_⟩
      exact (ih _ _ e) _ _ _ _ _ _ _ _ _ _ _ _ _ (O143.pick [0]).nm e_1 rfl k_62 r_62 rfl k_85 r_85 tab
  · exact (ih _ _ e) _ _ _ _ _ _ _ _ _ _ (O.pick [0]).nm e_1 rfl k_62 r_62 tab
theorem roadref2_Mark.l1_k.all {p : roadref2_Mark.l1_k.Pt} {r : (ByteArray)} (e : roadref2_Mark.l1_k.go p = some r) : roadref2_Mark.l1_k.I p r := fixF_ind (β := fun _ => (ByteArray)) roadref2_Mark.l1_k.mono (I := roadref2_Mark.l1_k.I) (fun go ih p r e => match p with
  | .l1 y_1 s_3 a_62 x_63 x_64 => roadref2_Mark.l1_k.step_l1 go ih y_1 s_3 a_62 x_63 x_64 r e
  | .j1 y_1 s_3 y_7 a_62 x_63 x_64 => roadref2_Mark.l1_k.step_j1 go ih y_1 s_3 y_7 a_62 x_63 x_64 r e
  | .l5 y_1 s_3 a_62 x_63 x_64 a_85 x_86 x_87 => roadref2_Mark.l1_k.step_l5 go ih y_1 s_3 a_62 x_63 x_64 a_85 x_86 x_87 r e
  ) e
theorem roadref2_Mark.l1.walk {W : Nat → Prop} {h0 m0 h m : Heap} {bk_1 : Nat} {cs_1 : List Value} {A_62 : Option Addr} {n_62 c_62 : Nat} {y_1 : T_api_Program} {s_3 : ByteArray} {a_62 : List T_api_Data} {x_63 : Int} {x_64 : Int} (O : Hold W h0 m0 h m [rV bk_1 29 cs_1]) (e_1 : T_api_Program.E m y_1 cs_1) (ne_62 : n_62 = List.length a_62) (k_62 : List.length a_62 ≤ c_62) (r_62 : Rd 3 T_api_Data.E m A_62 a_62) (tab : TB m) {r : ByteArray} (e : roadref2_Mark.l1 y_1 s_3 a_62 x_63 x_64 = some r) : f9.l1 (roadref2_Mark.post W h0 m0 r) (⟨bk_1, 0, none⟩ : Addr) s_3 A_62 n_62 c_62 x_63 x_64 h := roadref2_Mark.l1_k.all (p := .l1 y_1 s_3 a_62 x_63 x_64) e W h0 m0 h m bk_1 cs_1 A_62 n_62 c_62 O e_1 ne_62 k_62 r_62 tab
inductive roadref2_Mark.l0_k.Pt where
  | l0 (y_1 : T_api_Program) (s_3 : ByteArray) (a_41 : List T_api_Use) (x_42 : Int) (x_43 : Int)
noncomputable def roadref2_Mark.l0_k.body (go : (p : roadref2_Mark.l0_k.Pt) → Option (ByteArray)) : (p : roadref2_Mark.l0_k.Pt) → Option (ByteArray)
  | .l0 y_1 s_3 a_41 x_42 x_43 => if x_43 < x_42 then (Option.bind (gi a_41 x_43) fun y1 => Option.bind (roadref2_texts ([y1.Name] : List ByteArray)) fun y19 => Option.bind (roadref2_nums ([y1.Low, y1.High] : List Int)) fun y39 => if ByteArray.size y19 + ByteArray.size y39 ≤ 9223372036854775807 then (if ByteArray.size s_3 + ByteArray.size (y19 ++ y39) ≤ 9223372036854775807 then ((go (.l0 y_1 (s_3 ++ (y19 ++ y39)) a_41 x_42 (IntKind.wrap .i64 (x_43 + (1 : Int)))))) else none) else none) else ((roadref2_Mark.l1 y_1 s_3 y_1.Datas (((List.length y_1.Datas) : Nat) : Int) (0 : Int)))
theorem roadref2_Mark.l0_k.mono : MonoF (β := fun _ => (ByteArray)) roadref2_Mark.l0_k.body := fun f g hfg p => match p with
  | .l0 y_1 s_3 a_41 x_42 x_43 => LeO.ite (LeO.bind (LeO.refl _) fun y1 => LeO.bind (LeO.refl _) fun y19 => LeO.bind (LeO.refl _) fun y39 => LeO.ite (LeO.ite ((hfg _)) (LeO.refl _)) (LeO.refl _)) ((LeO.refl _))
noncomputable def roadref2_Mark.l0_k.go (p : roadref2_Mark.l0_k.Pt) : Option (ByteArray) := fixF (β := fun _ => (ByteArray)) roadref2_Mark.l0_k.body p
noncomputable def roadref2_Mark.l0 (y_1 : T_api_Program) (s_3 : ByteArray) (a_41 : List T_api_Use) (x_42 : Int) (x_43 : Int) : Option (ByteArray) := roadref2_Mark.l0_k.go (.l0 y_1 s_3 a_41 x_42 x_43)
theorem roadref2_Mark.l0_eq (y_1 : T_api_Program) (s_3 : ByteArray) (a_41 : List T_api_Use) (x_42 : Int) (x_43 : Int) : roadref2_Mark.l0 y_1 s_3 a_41 x_42 x_43 = if x_43 < x_42 then (Option.bind (gi a_41 x_43) fun y1 => Option.bind (roadref2_texts ([y1.Name] : List ByteArray)) fun y19 => Option.bind (roadref2_nums ([y1.Low, y1.High] : List Int)) fun y39 => if ByteArray.size y19 + ByteArray.size y39 ≤ 9223372036854775807 then (if ByteArray.size s_3 + ByteArray.size (y19 ++ y39) ≤ 9223372036854775807 then ((roadref2_Mark.l0 y_1 (s_3 ++ (y19 ++ y39)) a_41 x_42 (IntKind.wrap .i64 (x_43 + (1 : Int))))) else none) else none) else ((roadref2_Mark.l1 y_1 s_3 y_1.Datas (((List.length y_1.Datas) : Nat) : Int) (0 : Int))) := fixF_eq roadref2_Mark.l0_k.mono _
def roadref2_Mark.l0_k.I : (p : roadref2_Mark.l0_k.Pt) → (ByteArray) → Prop
  | .l0 y_1 s_3 a_41 x_42 x_43, r => ∀ (W : Nat → Prop) (h0 m0 h m : Heap) (bk_1 : Nat) (cs_1 : List Value) (A_41 : Option Addr) (n_41 c_41 : Nat) (O : Hold W h0 m0 h m [rV bk_1 29 cs_1]) (e_1 : T_api_Program.E m y_1 cs_1) (ne_41 : n_41 = List.length a_41) (k_41 : List.length a_41 ≤ c_41) (r_41 : Rd 3 T_api_Use.E m A_41 a_41) (tab : TB m), f9.l0 (roadref2_Mark.post W h0 m0 r) (⟨bk_1, 0, none⟩ : Addr) s_3 A_41 n_41 c_41 x_42 x_43 h
set_option maxHeartbeats 4000000 in
set_option maxRecDepth 100000 in
theorem roadref2_Mark.l0_k.step_l0 (go : (p : roadref2_Mark.l0_k.Pt) → Option (ByteArray)) (ih : ∀ p r, go p = some r → roadref2_Mark.l0_k.I p r) (y_1 : T_api_Program) (s_3 : ByteArray) (a_41 : List T_api_Use) (x_42 : Int) (x_43 : Int) (r : ByteArray) (e : roadref2_Mark.l0_k.body go (.l0 y_1 s_3 a_41 x_42 x_43) = some r) : roadref2_Mark.l0_k.I (.l0 y_1 s_3 a_41 x_42 x_43) r := by
  unfold roadref2_Mark.l0_k.body at e
  intro W h0 m0 h m bk_1 cs_1 A_41 n_41 c_41 O e_1 ne_41 k_41 r_41 tab
  subst ne_41
  refine f9.l0_in ?_
  unfold f9.l0T
  refine split_dec_e e (fun c183 e => ?_) (fun c183 e => ?_)
  · obtain ⟨y1, g2, e⟩ := bind_e e
    refine r_41.addr rfl g2 fun a3 cs4 ha5 hc6 he7 => ?_
    refine ⟨_, ldAn O.s hc6 rfl, ?_⟩
    refine O.new fun h8 x9 O10 => ?_
    refine ⟨_, rfl, (T_api_Use.T.len _ _ _ he7), ?_⟩
    refine O10.stA 1 rfl (T_api_Use.T.len _ _ _ he7) (T_api_Use.T.flat _ _ _ he7) fun h12 O13 => ?_
    refine ⟨_, ld0 (Sub.refl _) (O13.all 1 rfl) (T_api_Use.g0 he7), _, rfl, ?_⟩
    refine ⟨_, ldk (k := 1) (Sub.refl _) (O13.all 1 rfl) (T_api_Use.g1 he7), _, rfl, ?_⟩
    refine ⟨_, ldk (k := 2) (Sub.refl _) (O13.all 1 rfl) (T_api_Use.g2 he7), _, rfl, ?_⟩
    obtain ⟨y19, g20, e⟩ := bind_e e
    obtain ⟨y39, g40, e⟩ := bind_e e
    refine ⟨?_, ?_⟩
    · refine O13.new fun h56 x57 O58 => ?_
      refine ⟨x57, ?_⟩
      refine ⟨?_, ?_⟩
      · have O60 := O58.rowE (l := ([y1.Name] : List ByteArray)) 2 rfl tell_str (show CsE _ _ _ _ _ from (CsE.cons (c1 := [(Value.string y1.Name)]) rfl rfl CsE.nil)) rfl
        have O67 := O60.nm
        obtain ⟨m68, u69, s74, ⟨⟨r72, k73⟩, _⟩, B70, C71⟩ := O67.lend0 [2]
        replace r72 : Rd 1 eStr m68 (some ⟨(Array.size h12), 0, none⟩) ([y1.Name] : List ByteArray) := r72
        replace k73 : List.length ([y1.Name] : List ByteArray) ≤ 1 := k73
        refine (roadref2_texts.walk (Hold.start (W := No) s74) rfl k73 r72 (TBg.sub tab u69) g20).mono ?_
        rintro _ h63 ⟨m64, Q65, rfl⟩
        have O75 := Hold.nm (C71 Q65 vfs_nil)
        refine ⟨_, rfl, ?_⟩
        refine ⟨Q65.S.ext, ?_⟩
        refine O75.new fun h76 x77 O78 => ?_
        refine ⟨x77, ?_⟩
        have O80 := O78.rowE (l := ([y1.Low, y1.High] : List Int)) 3 rfl (tell_int .i64) (show CsE _ _ _ _ _ from (CsE.cons (c1 := [(Value.int .i64 y1.Low)]) rfl rfl (CsE.cons (c1 := [(Value.int .i64 y1.High)]) rfl rfl CsE.nil))) rfl
        have O87 := O80.nm
        obtain ⟨m88, u89, s94, ⟨⟨r92, k93⟩, _⟩, B90, C91⟩ := O87.lend0 [3]
        replace r92 : Rd 1 (eInt .i64) m88 (some ⟨(Array.size h63), 0, none⟩) ([y1.Low, y1.High] : List Int) := r92
        replace k93 : List.length ([y1.Low, y1.High] : List Int) ≤ 2 := k93
        refine (roadref2_nums.walk (Hold.start (W := No) s94) rfl k93 r92 (TBg.sub tab u89) g40).mono ?_
        rintro _ h83 ⟨m84, Q85, rfl⟩
        have O95 := Hold.nm (C91 Q85 vfs_nil)
        refine ⟨_, rfl, ?_⟩
        obtain ⟨g96, e⟩ := guard_e e
        refine ⟨g96, ?_⟩
        obtain ⟨g97, e⟩ := guard_e e
        refine ⟨g97, ?_⟩
        exact (ih _ _ e) _ _ _ _ _ _ _ _ _ _ (O95.pick [0]).nm e_1 rfl k_41 r_41 tab
      · refine O58.new fun h98 x99 O100 => ?_
        refine ⟨x99, ?_⟩
        have O102 := O100.rowE (l := ([y1.Name] : List ByteArray)) 2 rfl tell_str (show CsE _ _ _ _ _ from (CsE.cons (c1 := [(Value.string y1.Name)]) rfl rfl CsE.nil)) rfl
        have O109 := O102.nm
        obtain ⟨m110, u111, s116, ⟨⟨r114, k115⟩, _⟩, B112, C113⟩ := O109.lend0 [2]
        replace r114 : Rd 1 eStr m110 (some ⟨(Array.size h12), 0, none⟩) ([y1.Name] : List ByteArray) := r114
        replace k115 : List.length ([y1.Name] : List ByteArray) ≤ 1 := k115
        refine (roadref2_texts.walk (Hold.start (W := No) s116) rfl k115 r114 (TBg.sub tab u111) g20).mono ?_
        rintro _ h105 ⟨m106, Q107, rfl⟩
        have O117 := Hold.nm (C113 Q107 vfs_nil)
        refine ⟨_, rfl, ?_⟩
        refine ⟨Q107.S.ext, ?_⟩
        have O118 := O117.rowE (l := ([y1.Low, y1.High] : List Int)) 3 rfl (tell_int .i64) (show CsE _ _ _ _ _ from (CsE.cons (c1 := [(Value.int .i64 y1.Low)]) rfl rfl (CsE.cons (c1 := [(Value.int .i64 y1.High)]) rfl rfl CsE.nil))) rfl
        have O125 := O118.nm
        obtain ⟨m126, u127, s132, ⟨⟨r130, k131⟩, _⟩, B128, C129⟩ := O125.lend0 [3]
        replace r130 : Rd 1 (eInt .i64) m126 (some ⟨(Array.size h56), 0, none⟩) ([y1.Low, y1.High] : List Int) := r130
        replace k131 : List.length ([y1.Low, y1.High] : List Int) ≤ 2 := k131
        refine (roadref2_nums.walk (Hold.start (W := No) s132) rfl k131 r130 (TBg.sub tab u127) g40).mono ?_
        rintro _ h121 ⟨m122, Q123, rfl⟩
        have O133 := Hold.nm (C129 Q123 vfs_nil)
        refine ⟨_, rfl, ?_⟩
        obtain ⟨g134, e⟩ := guard_e e
        refine ⟨g134, ?_⟩
        obtain ⟨g135, e⟩ := guard_e e
        refine ⟨g135, ?_⟩
        exact (ih _ _ e) _ _ _ _ _ _ _ _ _ _ (O133.pick [0]).nm e_1 rfl k_41 r_41 tab
    · refine O13.new fun h136 x137 O138 => ?_
      refine ⟨x137, ?_⟩
      refine O138.new fun h140 x141 O142 => ?_
      refine ⟨x141, ?_⟩
      have O144 := O142.rowE (l := ([y1.Name] : List ByteArray)) 3 rfl tell_str (show CsE _ _ _ _ _ from (CsE.cons (c1 := [(Value.string y1.Name)]) rfl rfl CsE.nil)) rfl
      have O151 := O144.nm
      obtain ⟨m152, u153, s158, ⟨⟨r156, k157⟩, _⟩, B154, C155⟩ := O151.lend0 [3]
      replace r156 : Rd 1 eStr m152 (some ⟨(Array.size h136), 0, none⟩) ([y1.Name] : List ByteArray) := r156
      replace k157 : List.length ([y1.Name] : List ByteArray) ≤ 1 := k157
      refine (roadref2_texts.walk (Hold.start (W := No) s158) rfl k157 r156 (TBg.sub tab u153) g20).mono ?_
      rintro _ h147 ⟨m148, Q149, rfl⟩
      have O159 := Hold.nm (C155 Q149 vfs_nil)
      refine ⟨_, rfl, ?_⟩
      refine ⟨Q149.S.ext, ?_⟩
      have O160 := O159.rowE (l := ([y1.Low, y1.High] : List Int)) 2 rfl (tell_int .i64) (show CsE _ _ _ _ _ from (CsE.cons (c1 := [(Value.int .i64 y1.Low)]) rfl rfl (CsE.cons (c1 := [(Value.int .i64 y1.High)]) rfl rfl CsE.nil))) rfl
      have O167 := O160.nm
      obtain ⟨m168, u169, s174, ⟨⟨r172, k173⟩, _⟩, B170, C171⟩ := O167.lend0 [2]
      replace r172 : Rd 1 (eInt .i64) m168 (some ⟨(Array.size h12), 0, none⟩) ([y1.Low, y1.High] : List Int) := r172
      replace k173 : List.length ([y1.Low, y1.High] : List Int) ≤ 2 := k173
      refine (roadref2_nums.walk (Hold.start (W := No) s174) rfl k173 r172 (TBg.sub tab u169) g40).mono ?_
      rintro _ h163 ⟨m164, Q165, rfl⟩
      have O175 := Hold.nm (C171 Q165 vfs_nil)
      refine ⟨_, rfl, ?_⟩
      obtain ⟨g176, e⟩ := guard_e e
      refine ⟨g176, ?_⟩
      obtain ⟨g177, e⟩ := guard_e e
      refine ⟨g177, ?_⟩
      exact (ih _ _ e) _ _ _ _ _ _ _ _ _ _ (O175.pick [0]).nm e_1 rfl k_41 r_41 tab
  · obtain ⟨A178, c179, q180, k181, r182⟩ := T_api_Program.g3 e_1
    refine ⟨_, ldk (k := 3) (Sub.refl _) (O.all 0 rfl) q180, _, _, _, rfl, ?_⟩
    exact roadref2_Mark.l1.walk (O.pick [0]).nm e_1 rfl k181 r182 tab e
theorem roadref2_Mark.l0_k.all {p : roadref2_Mark.l0_k.Pt} {r : (ByteArray)} (e : roadref2_Mark.l0_k.go p = some r) : roadref2_Mark.l0_k.I p r := fixF_ind (β := fun _ => (ByteArray)) roadref2_Mark.l0_k.mono (I := roadref2_Mark.l0_k.I) (fun go ih p r e => match p with
  | .l0 y_1 s_3 a_41 x_42 x_43 => roadref2_Mark.l0_k.step_l0 go ih y_1 s_3 a_41 x_42 x_43 r e
  ) e
theorem roadref2_Mark.l0.walk {W : Nat → Prop} {h0 m0 h m : Heap} {bk_1 : Nat} {cs_1 : List Value} {A_41 : Option Addr} {n_41 c_41 : Nat} {y_1 : T_api_Program} {s_3 : ByteArray} {a_41 : List T_api_Use} {x_42 : Int} {x_43 : Int} (O : Hold W h0 m0 h m [rV bk_1 29 cs_1]) (e_1 : T_api_Program.E m y_1 cs_1) (ne_41 : n_41 = List.length a_41) (k_41 : List.length a_41 ≤ c_41) (r_41 : Rd 3 T_api_Use.E m A_41 a_41) (tab : TB m) {r : ByteArray} (e : roadref2_Mark.l0 y_1 s_3 a_41 x_42 x_43 = some r) : f9.l0 (roadref2_Mark.post W h0 m0 r) (⟨bk_1, 0, none⟩ : Addr) s_3 A_41 n_41 c_41 x_42 x_43 h := roadref2_Mark.l0_k.all (p := .l0 y_1 s_3 a_41 x_42 x_43) e W h0 m0 h m bk_1 cs_1 A_41 n_41 c_41 O e_1 ne_41 k_41 r_41 tab
noncomputable def roadref2_Mark.j0 (y_1 : T_api_Program) (s_3 : ByteArray) : Option (ByteArray) :=
  (roadref2_Mark.l0 y_1 s_3 y_1.Uses (((List.length y_1.Uses) : Nat) : Int) (0 : Int))
set_option maxRecDepth 100000 in
theorem roadref2_Mark.j0.walk {W : Nat → Prop} {h0 m0 h m : Heap} {bk_1 : Nat} {cs_1 : List Value} {y_1 : T_api_Program} {s_3 : ByteArray} (O : Hold W h0 m0 h m [rV bk_1 29 cs_1]) (e_1 : T_api_Program.E m y_1 cs_1) (tab : TB m) {r : ByteArray} (e : roadref2_Mark.j0 y_1 s_3 = some r) : f9.j0 (roadref2_Mark.post W h0 m0 r) (⟨bk_1, 0, none⟩ : Addr) s_3 h := by
  unfold roadref2_Mark.j0 at e
  refine f9.j0_in ?_
  unfold f9.j0T
  obtain ⟨A1, c2, q3, k4, r5⟩ := T_api_Program.g2 e_1
  refine ⟨_, ldk (k := 2) (Sub.refl _) (O.all 0 rfl) q3, _, _, _, rfl, ?_⟩
  exact roadref2_Mark.l0.walk (O.pick [0]).nm e_1 rfl k4 r5 tab e
noncomputable def roadref2_Mark (y_0 : T_api_Program) : Option (ByteArray) :=
  Option.bind (roadref2_texts ([y_0.Name] : List ByteArray)) fun y35 => Option.bind (roadref2_nums ([y_0.Version, (((List.length y_0.Uses) : Nat) : Int), (((List.length y_0.Datas) : Nat) : Int), (((List.length y_0.Traits) : Nat) : Int), (((List.length y_0.Impls) : Nat) : Int), (((List.length y_0.Actors) : Nat) : Int)] : List Int)) fun y55 => if ByteArray.size y35 + ByteArray.size y55 ≤ 9223372036854775807 then ((roadref2_Mark.j0 y_0 (y35 ++ y55))) else none
set_option maxHeartbeats 4000000 in
set_option maxRecDepth 100000 in
theorem roadref2_Mark.walk {W : Nat → Prop} {h m : Heap} {cs_0 : List Value} {y_0 : T_api_Program} (O : Hold W h m h m []) (e_0 : T_api_Program.E m y_0 cs_0) (tab : TB m) {r : ByteArray} (e : roadref2_Mark y_0 = some r) : Run Tryd.prog 9 #[Value.agg cs_0.toArray] h (roadref2_Mark.post W h m r) := by
  unfold roadref2_Mark at e
  refine f9.run ?_
  unfold f9.runT
  refine O.new fun h1 x2 O3 => ?_
  refine ⟨_, ld0 (Sub.refl _) (O3.all 0 rfl) (T_api_Program.g0 e_0), _, rfl, ?_⟩
  refine ⟨_, ldk (k := 1) (Sub.refl _) (O3.all 0 rfl) (T_api_Program.g1 e_0), _, rfl, ?_⟩
  obtain ⟨A5, c6, q7, k8, r9⟩ := T_api_Program.g2 e_0
  refine ⟨_, ldk (k := 2) (Sub.refl _) (O3.all 0 rfl) q7, _, _, _, rfl, ?_⟩
  obtain ⟨A10, c11, q12, k13, r14⟩ := T_api_Program.g3 e_0
  refine ⟨_, ldk (k := 3) (Sub.refl _) (O3.all 0 rfl) q12, _, _, _, rfl, ?_⟩
  obtain ⟨A15, c16, q17, k18, r19⟩ := T_api_Program.g4 e_0
  refine ⟨_, ldk (k := 4) (Sub.refl _) (O3.all 0 rfl) q17, _, _, _, rfl, ?_⟩
  obtain ⟨A20, c21, q22, k23, r24⟩ := T_api_Program.g5 e_0
  refine ⟨_, ldk (k := 5) (Sub.refl _) (O3.all 0 rfl) q22, _, _, _, rfl, ?_⟩
  obtain ⟨A25, c26, q27, k28, r29⟩ := T_api_Program.g7 e_0
  refine ⟨_, ldk (k := 7) (Sub.refl _) (O3.all 0 rfl) q27, _, _, _, rfl, ?_⟩
  obtain ⟨y35, g36, e⟩ := bind_e e
  obtain ⟨y55, g56, e⟩ := bind_e e
  refine ⟨?_, ?_⟩
  · refine O3.new fun h71 x72 O73 => ?_
    refine ⟨x72, ?_⟩
    refine ⟨?_, ?_⟩
    · have O75 := O73.rowE (l := ([y_0.Name] : List ByteArray)) 1 rfl tell_str (show CsE _ _ _ _ _ from (CsE.cons (c1 := [(Value.string y_0.Name)]) rfl rfl CsE.nil)) rfl
      have O82 := O75.nm
      obtain ⟨m83, u84, s89, ⟨⟨r87, k88⟩, _⟩, B85, C86⟩ := O82.lend0 [1]
      replace r87 : Rd 1 eStr m83 (some ⟨(Array.size h1), 0, none⟩) ([y_0.Name] : List ByteArray) := r87
      replace k88 : List.length ([y_0.Name] : List ByteArray) ≤ 1 := k88
      refine (roadref2_texts.walk (Hold.start (W := No) s89) rfl k88 r87 (TBg.sub tab u84) g36).mono ?_
      rintro _ h78 ⟨m79, Q80, rfl⟩
      have O90 := Hold.nm (C86 Q80 vfs_nil)
      refine ⟨_, rfl, ?_⟩
      refine ⟨Q80.S.ext, ?_⟩
      refine O90.new fun h91 x92 O93 => ?_
      refine ⟨x92, ?_⟩
      have O95 := O93.rowE (l := ([y_0.Version, (((List.length y_0.Uses) : Nat) : Int), (((List.length y_0.Datas) : Nat) : Int), (((List.length y_0.Traits) : Nat) : Int), (((List.length y_0.Impls) : Nat) : Int), (((List.length y_0.Actors) : Nat) : Int)] : List Int)) 2 rfl (tell_int .i64) (show CsE _ _ _ _ _ from (CsE.cons (c1 := [(Value.int .i64 y_0.Version)]) rfl rfl (CsE.cons (c1 := [(Value.int .i64 (((List.length y_0.Uses) : Nat) : Int))]) rfl rfl (CsE.cons (c1 := [(Value.int .i64 (((List.length y_0.Datas) : Nat) : Int))]) rfl rfl (CsE.cons (c1 := [(Value.int .i64 (((List.length y_0.Traits) : Nat) : Int))]) rfl rfl (CsE.cons (c1 := [(Value.int .i64 (((List.length y_0.Impls) : Nat) : Int))]) rfl rfl (CsE.cons (c1 := [(Value.int .i64 (((List.length y_0.Actors) : Nat) : Int))]) rfl rfl CsE.nil))))))) rfl
      have O102 := O95.nm
      obtain ⟨m103, u104, s109, ⟨⟨r107, k108⟩, _⟩, B105, C106⟩ := O102.lend0 [2]
      replace r107 : Rd 1 (eInt .i64) m103 (some ⟨(Array.size h78), 0, none⟩) ([y_0.Version, (((List.length y_0.Uses) : Nat) : Int), (((List.length y_0.Datas) : Nat) : Int), (((List.length y_0.Traits) : Nat) : Int), (((List.length y_0.Impls) : Nat) : Int), (((List.length y_0.Actors) : Nat) : Int)] : List Int) := r107
      replace k108 : List.length ([y_0.Version, (((List.length y_0.Uses) : Nat) : Int), (((List.length y_0.Datas) : Nat) : Int), (((List.length y_0.Traits) : Nat) : Int), (((List.length y_0.Impls) : Nat) : Int), (((List.length y_0.Actors) : Nat) : Int)] : List Int) ≤ 6 := k108
      refine (roadref2_nums.walk (Hold.start (W := No) s109) rfl k108 r107 (TBg.sub tab u104) g56).mono ?_
      rintro _ h98 ⟨m99, Q100, rfl⟩
      have O110 := Hold.nm (C106 Q100 vfs_nil)
      refine ⟨_, rfl, ?_⟩
      obtain ⟨g111, e⟩ := guard_e e
      refine ⟨g111, ?_⟩
      exact roadref2_Mark.j0.walk (O110.pick [0]).nm e_0 tab e
    · refine O73.new fun h112 x113 O114 => ?_
      refine ⟨x113, ?_⟩
      have O116 := O114.rowE (l := ([y_0.Name] : List ByteArray)) 1 rfl tell_str (show CsE _ _ _ _ _ from (CsE.cons (c1 := [(Value.string y_0.Name)]) rfl rfl CsE.nil)) rfl
      have O123 := O116.nm
      obtain ⟨m124, u125, s130, ⟨⟨r128, k129⟩, _⟩, B126, C127⟩ := O123.lend0 [1]
      replace r128 : Rd 1 eStr m124 (some ⟨(Array.size h1), 0, none⟩) ([y_0.Name] : List ByteArray) := r128
      replace k129 : List.length ([y_0.Name] : List ByteArray) ≤ 1 := k129
      refine (roadref2_texts.walk (Hold.start (W := No) s130) rfl k129 r128 (TBg.sub tab u125) g36).mono ?_
      rintro _ h119 ⟨m120, Q121, rfl⟩
      have O131 := Hold.nm (C127 Q121 vfs_nil)
      refine ⟨_, rfl, ?_⟩
      refine ⟨Q121.S.ext, ?_⟩
      have O132 := O131.rowE (l := ([y_0.Version, (((List.length y_0.Uses) : Nat) : Int), (((List.length y_0.Datas) : Nat) : Int), (((List.length y_0.Traits) : Nat) : Int), (((List.length y_0.Impls) : Nat) : Int), (((List.length y_0.Actors) : Nat) : Int)] : List Int)) 2 rfl (tell_int .i64) (show CsE _ _ _ _ _ from (CsE.cons (c1 := [(Value.int .i64 y_0.Version)]) rfl rfl (CsE.cons (c1 := [(Value.int .i64 (((List.length y_0.Uses) : Nat) : Int))]) rfl rfl (CsE.cons (c1 := [(Value.int .i64 (((List.length y_0.Datas) : Nat) : Int))]) rfl rfl (CsE.cons (c1 := [(Value.int .i64 (((List.length y_0.Traits) : Nat) : Int))]) rfl rfl (CsE.cons (c1 := [(Value.int .i64 (((List.length y_0.Impls) : Nat) : Int))]) rfl rfl (CsE.cons (c1 := [(Value.int .i64 (((List.length y_0.Actors) : Nat) : Int))]) rfl rfl CsE.nil))))))) rfl
      have O139 := O132.nm
      obtain ⟨m140, u141, s146, ⟨⟨r144, k145⟩, _⟩, B142, C143⟩ := O139.lend0 [2]
      replace r144 : Rd 1 (eInt .i64) m140 (some ⟨(Array.size h71), 0, none⟩) ([y_0.Version, (((List.length y_0.Uses) : Nat) : Int), (((List.length y_0.Datas) : Nat) : Int), (((List.length y_0.Traits) : Nat) : Int), (((List.length y_0.Impls) : Nat) : Int), (((List.length y_0.Actors) : Nat) : Int)] : List Int) := r144
      replace k145 : List.length ([y_0.Version, (((List.length y_0.Uses) : Nat) : Int), (((List.length y_0.Datas) : Nat) : Int), (((List.length y_0.Traits) : Nat) : Int), (((List.length y_0.Impls) : Nat) : Int), (((List.length y_0.Actors) : Nat) : Int)] : List Int) ≤ 6 := k145
      refine (roadref2_nums.walk (Hold.start (W := No) s146) rfl k145 r144 (TBg.sub tab u141) g56).mono ?_
      rintro _ h135 ⟨m136, Q137, rfl⟩
      have O147 := Hold.nm (C143 Q137 vfs_nil)
      refine ⟨_, rfl, ?_⟩
      obtain ⟨g148, e⟩ := guard_e e
      refine ⟨g148, ?_⟩
      exact roadref2_Mark.j0.walk (O147.pick [0]).nm e_0 tab e
  · refine O3.new fun h149 x150 O151 => ?_
    refine ⟨x150, ?_⟩
    refine O151.new fun h153 x154 O155 => ?_
    refine ⟨x154, ?_⟩
    have O157 := O155.rowE (l := ([y_0.Name] : List ByteArray)) 2 rfl tell_str (show CsE _ _ _ _ _ from (CsE.cons (c1 := [(Value.string y_0.Name)]) rfl rfl CsE.nil)) rfl
    have O164 := O157.nm
    obtain ⟨m165, u166, s171, ⟨⟨r169, k170⟩, _⟩, B167, C168⟩ := O164.lend0 [2]
    replace r169 : Rd 1 eStr m165 (some ⟨(Array.size h149), 0, none⟩) ([y_0.Name] : List ByteArray) := r169
    replace k170 : List.length ([y_0.Name] : List ByteArray) ≤ 1 := k170
    refine (roadref2_texts.walk (Hold.start (W := No) s171) rfl k170 r169 (TBg.sub tab u166) g36).mono ?_
    rintro _ h160 ⟨m161, Q162, rfl⟩
    have O172 := Hold.nm (C168 Q162 vfs_nil)
    refine ⟨_, rfl, ?_⟩
    refine ⟨Q162.S.ext, ?_⟩
    have O173 := O172.rowE (l := ([y_0.Version, (((List.length y_0.Uses) : Nat) : Int), (((List.length y_0.Datas) : Nat) : Int), (((List.length y_0.Traits) : Nat) : Int), (((List.length y_0.Impls) : Nat) : Int), (((List.length y_0.Actors) : Nat) : Int)] : List Int)) 1 rfl (tell_int .i64) (show CsE _ _ _ _ _ from (CsE.cons (c1 := [(Value.int .i64 y_0.Version)]) rfl rfl (CsE.cons (c1 := [(Value.int .i64 (((List.length y_0.Uses) : Nat) : Int))]) rfl rfl (CsE.cons (c1 := [(Value.int .i64 (((List.length y_0.Datas) : Nat) : Int))]) rfl rfl (CsE.cons (c1 := [(Value.int .i64 (((List.length y_0.Traits) : Nat) : Int))]) rfl rfl (CsE.cons (c1 := [(Value.int .i64 (((List.length y_0.Impls) : Nat) : Int))]) rfl rfl (CsE.cons (c1 := [(Value.int .i64 (((List.length y_0.Actors) : Nat) : Int))]) rfl rfl CsE.nil))))))) rfl
    have O180 := O173.nm
    obtain ⟨m181, u182, s187, ⟨⟨r185, k186⟩, _⟩, B183, C184⟩ := O180.lend0 [1]
    replace r185 : Rd 1 (eInt .i64) m181 (some ⟨(Array.size h1), 0, none⟩) ([y_0.Version, (((List.length y_0.Uses) : Nat) : Int), (((List.length y_0.Datas) : Nat) : Int), (((List.length y_0.Traits) : Nat) : Int), (((List.length y_0.Impls) : Nat) : Int), (((List.length y_0.Actors) : Nat) : Int)] : List Int) := r185
    replace k186 : List.length ([y_0.Version, (((List.length y_0.Uses) : Nat) : Int), (((List.length y_0.Datas) : Nat) : Int), (((List.length y_0.Traits) : Nat) : Int), (((List.length y_0.Impls) : Nat) : Int), (((List.length y_0.Actors) : Nat) : Int)] : List Int) ≤ 6 := k186
    refine (roadref2_nums.walk (Hold.start (W := No) s187) rfl k186 r185 (TBg.sub tab u182) g56).mono ?_
    rintro _ h176 ⟨m177, Q178, rfl⟩
    have O188 := Hold.nm (C184 Q178 vfs_nil)
    refine ⟨_, rfl, ?_⟩
    obtain ⟨g189, e⟩ := guard_e e
    refine ⟨g189, ?_⟩
    exact roadref2_Mark.j0.walk (O188.pick [0]).nm e_0 tab e
end Go.Proofs.YtnlocljmalhddabDoor.Fw

end
section
namespace Go.Proofs.YtnlocljmalhddabDoor.Fw
open Go Go.Hw Go.Proofs
set_option linter.unusedVariables false
set_option synthInstance.maxHeartbeats 400000
set_option synthInstance.maxSize 1000
def roadlaw2_TreeSame.post (W : Nat → Prop) (h0 m0 : Heap) (r : Bool) (v : Value) (h : Heap) : Prop := ∃ m , Hold W h0 m0 h m [] ∧ v = .bool r
inductive roadlaw2_TreeSame.l0_k.Pt where
  | l0 (a_5 : List T_api_Expr) (a_6 : List T_api_Expr) (x_45 : Int) (x_46 : Int)
  | j2 (a_5 : List T_api_Expr) (a_6 : List T_api_Expr) (x_7 : Int) (x_45 : Int) (x_46 : Int)
  | l1 (a_5 : List T_api_Expr) (a_6 : List T_api_Expr) (x_7 : Int) (x_45 : Int) (x_46 : Int) (x_61 : Int) (x_62 : Int)
noncomputable def roadlaw2_TreeSame.l0_k.body (go : (p : roadlaw2_TreeSame.l0_k.Pt) → Option (Bool)) : (p : roadlaw2_TreeSame.l0_k.Pt) → Option (Bool)
  | .l0 a_5 a_6 x_45 x_46 => if x_46 < x_45 then (Option.bind (gi a_5 x_46) fun y1 => Option.bind (gi a_6 x_46) fun y8 => Option.bind (roadref2_ExprMark y1) fun y15 => Option.bind (roadref2_ExprMark y8) fun y27 => if y15 = y27 then ((go (.j2 a_5 a_6 x_46 x_45 x_46))) else (some (false))) else (some (true))
  | .j2 a_5 a_6 x_7 x_45 x_46 => (go (.l1 a_5 a_6 x_7 x_45 x_46 (((List.length a_6) : Nat) : Int) (0 : Int)))
  | .l1 a_5 a_6 x_7 x_45 x_46 x_61 x_62 => if x_62 < x_61 then (Option.bind (gi a_6 x_62) fun y1 => Option.bind (gi a_6 x_7) fun y14 => Option.bind (gi a_6 x_7) fun y21 => Option.bind (tree_SameExpr y14 y1) fun y28 => Option.bind (roadref2_ExprMark y21) fun y35 => Option.bind (roadref2_ExprMark y1) fun y42 => if (y28 == (decide (y35 = y42))) = true then ((go (.l1 a_5 a_6 x_7 x_45 x_46 x_61 (IntKind.wrap .i64 (x_62 + (1 : Int)))))) else (some (false))) else ((go (.l0 a_5 a_6 x_45 (IntKind.wrap .i64 (x_46 + (1 : Int))))))
theorem roadlaw2_TreeSame.l0_k.mono : MonoF (β := fun _ => (Bool)) roadlaw2_TreeSame.l0_k.body := fun f g hfg p => match p with
  | .l0 a_5 a_6 x_45 x_46 => LeO.ite (LeO.bind (LeO.refl _) fun y1 => LeO.bind (LeO.refl _) fun y8 => LeO.bind (LeO.refl _) fun y15 => LeO.bind (LeO.refl _) fun y27 => LeO.ite ((hfg _)) (LeO.refl _)) (LeO.refl _)
  | .j2 a_5 a_6 x_7 x_45 x_46 => (hfg _)
  | .l1 a_5 a_6 x_7 x_45 x_46 x_61 x_62 => LeO.ite (LeO.bind (LeO.refl _) fun y1 => LeO.bind (LeO.refl _) fun y14 => LeO.bind (LeO.refl _) fun y21 => LeO.bind (LeO.refl _) fun y28 => LeO.bind (LeO.refl _) fun y35 => LeO.bind (LeO.refl _) fun y42 => LeO.ite ((hfg _)) (LeO.refl _)) ((hfg _))
noncomputable def roadlaw2_TreeSame.l0_k.go (p : roadlaw2_TreeSame.l0_k.Pt) : Option (Bool) := fixF (β := fun _ => (Bool)) roadlaw2_TreeSame.l0_k.body p
noncomputable def roadlaw2_TreeSame.l0 (a_5 : List T_api_Expr) (a_6 : List T_api_Expr) (x_45 : Int) (x_46 : Int) : Option (Bool) := roadlaw2_TreeSame.l0_k.go (.l0 a_5 a_6 x_45 x_46)
noncomputable def roadlaw2_TreeSame.j2 (a_5 : List T_api_Expr) (a_6 : List T_api_Expr) (x_7 : Int) (x_45 : Int) (x_46 : Int) : Option (Bool) := roadlaw2_TreeSame.l0_k.go (.j2 a_5 a_6 x_7 x_45 x_46)
noncomputable def roadlaw2_TreeSame.l1 (a_5 : List T_api_Expr) (a_6 : List T_api_Expr) (x_7 : Int) (x_45 : Int) (x_46 : Int) (x_61 : Int) (x_62 : Int) : Option (Bool) := roadlaw2_TreeSame.l0_k.go (.l1 a_5 a_6 x_7 x_45 x_46 x_61 x_62)
theorem roadlaw2_TreeSame.l0_eq (a_5 : List T_api_Expr) (a_6 : List T_api_Expr) (x_45 : Int) (x_46 : Int) : roadlaw2_TreeSame.l0 a_5 a_6 x_45 x_46 = if x_46 < x_45 then (Option.bind (gi a_5 x_46) fun y1 => Option.bind (gi a_6 x_46) fun y8 => Option.bind (roadref2_ExprMark y1) fun y15 => Option.bind (roadref2_ExprMark y8) fun y27 => if y15 = y27 then ((roadlaw2_TreeSame.j2 a_5 a_6 x_46 x_45 x_46)) else (some (false))) else (some (true)) := fixF_eq roadlaw2_TreeSame.l0_k.mono _
theorem roadlaw2_TreeSame.j2_eq (a_5 : List T_api_Expr) (a_6 : List T_api_Expr) (x_7 : Int) (x_45 : Int) (x_46 : Int) : roadlaw2_TreeSame.j2 a_5 a_6 x_7 x_45 x_46 = (roadlaw2_TreeSame.l1 a_5 a_6 x_7 x_45 x_46 (((List.length a_6) : Nat) : Int) (0 : Int)) := fixF_eq roadlaw2_TreeSame.l0_k.mono _
theorem roadlaw2_TreeSame.l1_eq (a_5 : List T_api_Expr) (a_6 : List T_api_Expr) (x_7 : Int) (x_45 : Int) (x_46 : Int) (x_61 : Int) (x_62 : Int) : roadlaw2_TreeSame.l1 a_5 a_6 x_7 x_45 x_46 x_61 x_62 = if x_62 < x_61 then (Option.bind (gi a_6 x_62) fun y1 => Option.bind (gi a_6 x_7) fun y14 => Option.bind (gi a_6 x_7) fun y21 => Option.bind (tree_SameExpr y14 y1) fun y28 => Option.bind (roadref2_ExprMark y21) fun y35 => Option.bind (roadref2_ExprMark y1) fun y42 => if (y28 == (decide (y35 = y42))) = true then ((roadlaw2_TreeSame.l1 a_5 a_6 x_7 x_45 x_46 x_61 (IntKind.wrap .i64 (x_62 + (1 : Int))))) else (some (false))) else ((roadlaw2_TreeSame.l0 a_5 a_6 x_45 (IntKind.wrap .i64 (x_46 + (1 : Int))))) := fixF_eq roadlaw2_TreeSame.l0_k.mono _
def roadlaw2_TreeSame.l0_k.I : (p : roadlaw2_TreeSame.l0_k.Pt) → (Bool) → Prop
  | .l0 a_5 a_6 x_45 x_46, r => ∀ (W : Nat → Prop) (h0 m0 h m : Heap) (A_5 : Option Addr) (n_5 c_5 : Nat) (A_6 : Option Addr) (n_6 c_6 : Nat) (O : Hold W h0 m0 h m [rR (aE T_api_Expr.T) A_5 c_5 a_5, rR (aE T_api_Expr.T) A_6 c_6 a_6]) (ne_5 : n_5 = List.length a_5) (ne_6 : n_6 = List.length a_6) (tab : TB m), f3.l0 (roadlaw2_TreeSame.post W h0 m0 r) A_5 n_5 c_5 A_6 n_6 c_6 x_45 x_46 h
  | .j2 a_5 a_6 x_7 x_45 x_46, r => ∀ (W : Nat → Prop) (h0 m0 h m : Heap) (A_5 : Option Addr) (n_5 c_5 : Nat) (A_6 : Option Addr) (n_6 c_6 : Nat) (O : Hold W h0 m0 h m [rR (aE T_api_Expr.T) A_5 c_5 a_5, rR (aE T_api_Expr.T) A_6 c_6 a_6]) (ne_5 : n_5 = List.length a_5) (ne_6 : n_6 = List.length a_6) (tab : TB m), f3.j2 (roadlaw2_TreeSame.post W h0 m0 r) A_5 n_5 c_5 A_6 n_6 c_6 x_7 x_45 x_46 h
  | .l1 a_5 a_6 x_7 x_45 x_46 x_61 x_62, r => ∀ (W : Nat → Prop) (h0 m0 h m : Heap) (A_5 : Option Addr) (n_5 c_5 : Nat) (A_6 : Option Addr) (n_6 c_6 : Nat) (O : Hold W h0 m0 h m [rR (aE T_api_Expr.T) A_5 c_5 a_5, rR (aE T_api_Expr.T) A_6 c_6 a_6]) (ne_5 : n_5 = List.length a_5) (ne_6 : n_6 = List.length a_6) (tab : TB m), f3.l1 (roadlaw2_TreeSame.post W h0 m0 r) A_5 n_5 c_5 A_6 n_6 c_6 x_7 x_45 x_46 A_6 n_6 c_6 x_61 x_62 h
set_option maxHeartbeats 4000000 in
set_option maxRecDepth 100000 in
theorem roadlaw2_TreeSame.l0_k.step_l0 (go : (p : roadlaw2_TreeSame.l0_k.Pt) → Option (Bool)) (ih : ∀ p r, go p = some r → roadlaw2_TreeSame.l0_k.I p r) (a_5 : List T_api_Expr) (a_6 : List T_api_Expr) (x_45 : Int) (x_46 : Int) (r : Bool) (e : roadlaw2_TreeSame.l0_k.body go (.l0 a_5 a_6 x_45 x_46) = some r) : roadlaw2_TreeSame.l0_k.I (.l0 a_5 a_6 x_45 x_46) r := by
  unfold roadlaw2_TreeSame.l0_k.body at e
  intro W h0 m0 h m A_5 n_5 c_5 A_6 n_6 c_6 O ne_5 ne_6 tab
  subst ne_5
  subst ne_6
  refine f3.l0_in ?_
  unfold f3.l0T
  refine split_dec_e e (fun c70 e => ?_) (fun c70 e => ?_)
  · obtain ⟨y1, g2, e⟩ := bind_e e
    refine (O.os 0 rfl).addr rfl g2 fun a3 cs4 ha5 hc6 he7 => ?_
    obtain ⟨y8, g9, e⟩ := bind_e e
    refine (O.os 1 rfl).addr rfl g9 fun a10 cs11 ha12 hc13 he14 => ?_
    refine ⟨_, ldAn (Sub.refl _) hc6 rfl, ?_⟩
    obtain ⟨y15, g16, e⟩ := bind_e e
    obtain ⟨y27, g28, e⟩ := bind_e e
    refine ⟨?_, ?_⟩
    · refine (roadref2_ExprMark.walk (Hold.start (W := No) O.s) he7 tab g16).mono ?_
      rintro _ h37 ⟨m38, Q39, rfl⟩
      have O41 := Hold.nm (O.retC Q39 vfs_nil)
      refine ⟨_, rfl, ?_⟩
      obtain ⟨a42, cs43, ha46, hc44, he45⟩ := (O41.os 1 rfl).cellsAt g9
      cases ha12.symm.trans ha46
      refine ⟨_, ldAn (Sub.refl _) hc44 rfl, ?_⟩
      refine ⟨Ext.refl _, ?_⟩
      refine (roadref2_ExprMark.walk (Hold.start (W := No) O41.s) he45 tab g28).mono ?_
      rintro _ h49 ⟨m50, Q51, rfl⟩
      have O53 := Hold.nm (O41.retC Q51 vfs_nil)
      refine ⟨_, rfl, ?_⟩
      try rw [ba_list y15 y27]
      refine split_not ?_
      refine split_dec_e e (fun c54 e => ?_) (fun c54 e => ?_)
      · exact (ih _ _ e) _ _ _ _ _ _ _ _ _ _ _ (O53.pick [0, 1]).nm rfl rfl tab
      · cases e
        exact ⟨_, O53.pick [], rfl⟩
    · refine ⟨_, ldAn (Sub.refl _) hc13 rfl, ?_⟩
      refine ⟨Ext.refl _, ?_⟩
      refine (roadref2_ExprMark.walk (Hold.start (W := No) O.s) he7 tab g16).mono ?_
      rintro _ h57 ⟨m58, Q59, rfl⟩
      have O61 := Hold.nm (O.retC Q59 vfs_nil)
      refine ⟨_, rfl, ?_⟩
      refine (roadref2_ExprMark.walk (Hold.start (W := No) O61.s) he14 tab g28).mono ?_
      rintro _ h64 ⟨m65, Q66, rfl⟩
      have O68 := Hold.nm (O61.retC Q66 vfs_nil)
      refine ⟨_, rfl, ?_⟩
      try rw [ba_list y15 y27]
      refine split_not ?_
      refine split_dec_e e (fun c69 e => ?_) (fun c69 e => ?_)
      · exact (ih _ _ e) _ _ _ _ _ _ _ _ _ _ _ (O68.pick [0, 1]).nm rfl rfl tab
      · cases e
        exact ⟨_, O68.pick [], rfl⟩
  · cases e
    exact ⟨_, O.pick [], rfl⟩
set_option maxRecDepth 100000 in
theorem roadlaw2_TreeSame.l0_k.step_j2 (go : (p : roadlaw2_TreeSame.l0_k.Pt) → Option (Bool)) (ih : ∀ p r, go p = some r → roadlaw2_TreeSame.l0_k.I p r) (a_5 : List T_api_Expr) (a_6 : List T_api_Expr) (x_7 : Int) (x_45 : Int) (x_46 : Int) (r : Bool) (e : roadlaw2_TreeSame.l0_k.body go (.j2 a_5 a_6 x_7 x_45 x_46) = some r) : roadlaw2_TreeSame.l0_k.I (.j2 a_5 a_6 x_7 x_45 x_46) r := by
  unfold roadlaw2_TreeSame.l0_k.body at e
  intro W h0 m0 h m A_5 n_5 c_5 A_6 n_6 c_6 O ne_5 ne_6 tab
  subst ne_5
  subst ne_6
  refine f3.j2_in ?_
  unfold f3.j2T
  exact (ih _ _ e) _ _ _ _ _ _ _ _ _ _ _ (O.pick [0, 1]).nm rfl rfl tab
set_option maxHeartbeats 4000000 in
set_option maxRecDepth 100000 in
theorem roadlaw2_TreeSame.l0_k.step_l1 (go : (p : roadlaw2_TreeSame.l0_k.Pt) → Option (Bool)) (ih : ∀ p r, go p = some r → roadlaw2_TreeSame.l0_k.I p r) (a_5 : List T_api_Expr) (a_6 : List T_api_Expr) (x_7 : Int) (x_45 : Int) (x_46 : Int) (x_61 : Int) (x_62 : Int) (r : Bool) (e : roadlaw2_TreeSame.l0_k.body go (.l1 a_5 a_6 x_7 x_45 x_46 x_61 x_62) = some r) : roadlaw2_TreeSame.l0_k.I (.l1 a_5 a_6 x_7 x_45 x_46 x_61 x_62) r := by
  unfold roadlaw2_TreeSame.l0_k.body at e
  intro W h0 m0 h m A_5 n_5 c_5 A_6 n_6 c_6 O ne_5 ne_6 tab
  subst ne_5
  subst ne_6
  refine f3.l1_in ?_
  unfold f3.l1T
  refine split_dec_e e (fun c109 e => ?_) (fun c109 e => ?_)
  · obtain ⟨y1, g2, e⟩ := bind_e e
    refine (O.os 1 rfl).addr rfl g2 fun a3 cs4 ha5 hc6 he7 => ?_
    refine ⟨_, ldAn (Sub.refl _) hc6 rfl, ?_⟩
    refine O.new fun h8 x9 O10 => ?_
    refine ⟨_, rfl, (T_api_Expr.T.len _ _ _ he7), ?_⟩
    refine O10.stA 2 rfl (T_api_Expr.T.len _ _ _ he7) (T_api_Expr.T.flat _ _ _ he7) fun h12 O13 => ?_
    obtain ⟨y14, g15, e⟩ := bind_e e
    refine (O13.os 1 rfl).addr rfl g15 fun a16 cs17 ha18 hc19 he20 => ?_
    obtain ⟨y21, g22, e⟩ := bind_e e
    refine (O13.os 1 rfl).addr rfl g22 fun a23 cs24 ha25 hc26 he27 => ?_
    refine ⟨_, ldAn (Sub.refl _) hc19 rfl, ?_⟩
    refine ⟨_, ldAn (Sub.refl _) (O13.all 2 rfl) (T_api_Expr.T.len _ _ _ he7), ?_⟩
    refine ⟨_, ldAn (Sub.refl _) hc26 rfl, ?_⟩
    obtain ⟨y28, g29, e⟩ := bind_e e
    obtain ⟨y35, g36, e⟩ := bind_e e
    obtain ⟨y42, g43, e⟩ := bind_e e
    refine ⟨?_, ?_⟩
    · refine (tree_SameExpr.walk (Hold.start (W := No) O13.s) he20 he7 g29).mono ?_
      rintro _ h52 ⟨m53, Q54, rfl⟩
      have O56 := Hold.nm (O13.retC Q54 vfs_nil)
      refine ⟨_, rfl, ?_⟩
      refine ⟨Q54.S.ext, ?_⟩
      refine ⟨?_, ?_⟩
      · refine (roadref2_ExprMark.walk (Hold.start (W := No) O56.s) he27 tab g36).mono ?_
        rintro _ h59 ⟨m60, Q61, rfl⟩
        have O63 := Hold.nm (O56.retC Q61 vfs_nil)
        refine ⟨_, rfl, ?_⟩
        refine ⟨_, ldAn (Sub.refl _) (O63.all 2 rfl) (T_api_Expr.T.len _ _ _ he7), ?_⟩
        refine ⟨Ext.refl _, ?_⟩
        refine (roadref2_ExprMark.walk (Hold.start (W := No) O63.s) he7 tab g43).mono ?_
        rintro _ h66 ⟨m67, Q68, rfl⟩
        have O70 := Hold.nm (O63.retC Q68 vfs_nil)
        refine ⟨_, rfl, ?_⟩
        try rw [ba_list y35 y42]
        refine split_not ?_
        refine split_any_e e (fun c71 e => ?_) (fun c71 e => ?_)
        · exact (ih _ _ e) _ _ _ _ _ _ _ _ _ _ _ (O70.pick [0, 1]).nm rfl rfl tab
        · cases e
          exact ⟨_, O70.pick [], rfl⟩
      · refine ⟨_, ldAn (Sub.refl _) (O56.all 2 rfl) (T_api_Expr.T.len _ _ _ he7), ?_⟩
        refine ⟨Ext.refl _, ?_⟩
        refine (roadref2_ExprMark.walk (Hold.start (W := No) O56.s) he27 tab g36).mono ?_
        rintro _ h74 ⟨m75, Q76, rfl⟩
        have O78 := Hold.nm (O56.retC Q76 vfs_nil)
        refine ⟨_, rfl, ?_⟩
        refine (roadref2_ExprMark.walk (Hold.start (W := No) O78.s) he7 tab g43).mono ?_
        rintro _ h81 ⟨m82, Q83, rfl⟩
        have O85 := Hold.nm (O78.retC Q83 vfs_nil)
        refine ⟨_, rfl, ?_⟩
        try rw [ba_list y35 y42]
        refine split_not ?_
        refine split_any_e e (fun c86 e => ?_) (fun c86 e => ?_)
        · exact (ih _ _ e) _ _ _ _ _ _ _ _ _ _ _ (O85.pick [0, 1]).nm rfl rfl tab
        · cases e
          exact ⟨_, O85.pick [], rfl⟩
    · refine ⟨_, ldAn (Sub.refl _) (O13.all 2 rfl) (T_api_Expr.T.len _ _ _ he7), ?_⟩
      refine ⟨Ext.refl _, ?_⟩
      refine (tree_SameExpr.walk (Hold.start (W := No) O13.s) he20 he7 g29).mono ?_
      rintro _ h89 ⟨m90, Q91, rfl⟩
      have O93 := Hold.nm (O13.retC Q91 vfs_nil)
      refine ⟨_, rfl, ?_⟩
      refine ⟨Q91.S.ext, ?_⟩
      refine (roadref2_ExprMark.walk (Hold.start (W := No) O93.s) he27 tab g36).mono ?_
      rintro _ h96 ⟨m97, Q98, rfl⟩
      have O100 := Hold.nm (O93.retC Q98 vfs_nil)
      refine ⟨_, rfl, ?_⟩
      refine (roadref2_ExprMark.walk (Hold.start (W := No) O100.s) he7 tab g43).mono ?_
      rintro _ h103 ⟨m104, Q105, rfl⟩
      have O107 := Hold.nm (O100.retC Q105 vfs_nil)
      refine ⟨_, rfl, ?_⟩
      try rw [ba_list y35 y42]
      refine split_not ?_
      refine split_any_e e (fun c108 e => ?_) (fun c108 e => ?_)
      · exact (ih _ _ e) _ _ _ _ _ _ _ _ _ _ _ (O107.pick [0, 1]).nm rfl rfl tab
      · cases e
        exact ⟨_, O107.pick [], rfl⟩
  · exact (ih _ _ e) _ _ _ _ _ _ _ _ _ _ _ (O.pick [0, 1]).nm rfl rfl tab
theorem roadlaw2_TreeSame.l0_k.all {p : roadlaw2_TreeSame.l0_k.Pt} {r : (Bool)} (e : roadlaw2_TreeSame.l0_k.go p = some r) : roadlaw2_TreeSame.l0_k.I p r := fixF_ind (β := fun _ => (Bool)) roadlaw2_TreeSame.l0_k.mono (I := roadlaw2_TreeSame.l0_k.I) (fun go ih p r e => match p with
  | .l0 a_5 a_6 x_45 x_46 => roadlaw2_TreeSame.l0_k.step_l0 go ih a_5 a_6 x_45 x_46 r e
  | .j2 a_5 a_6 x_7 x_45 x_46 => roadlaw2_TreeSame.l0_k.step_j2 go ih a_5 a_6 x_7 x_45 x_46 r e
  | .l1 a_5 a_6 x_7 x_45 x_46 x_61 x_62 => roadlaw2_TreeSame.l0_k.step_l1 go ih a_5 a_6 x_7 x_45 x_46 x_61 x_62 r e
  ) e
theorem roadlaw2_TreeSame.l0.walk {W : Nat → Prop} {h0 m0 h m : Heap} {A_5 : Option Addr} {n_5 c_5 : Nat} {A_6 : Option Addr} {n_6 c_6 : Nat} {a_5 : List T_api_Expr} {a_6 : List T_api_Expr} {x_45 : Int} {x_46 : Int} (O : Hold W h0 m0 h m [rR (aE T_api_Expr.T) A_5 c_5 a_5, rR (aE T_api_Expr.T) A_6 c_6 a_6]) (ne_5 : n_5 = List.length a_5) (ne_6 : n_6 = List.length a_6) (tab : TB m) {r : Bool} (e : roadlaw2_TreeSame.l0 a_5 a_6 x_45 x_46 = some r) : f3.l0 (roadlaw2_TreeSame.post W h0 m0 r) A_5 n_5 c_5 A_6 n_6 c_6 x_45 x_46 h := roadlaw2_TreeSame.l0_k.all (p := .l0 a_5 a_6 x_45 x_46) e W h0 m0 h m A_5 n_5 c_5 A_6 n_6 c_6 O ne_5 ne_6 tab
noncomputable def roadlaw2_TreeSame.j1 (a_5 : List T_api_Expr) (a_6 : List T_api_Expr) : Option (Bool) :=
  (roadlaw2_TreeSame.l0 a_5 a_6 (((List.length a_5) : Nat) : Int) (0 : Int))
set_option maxRecDepth 100000 in
theorem roadlaw2_TreeSame.j1.walk {W : Nat → Prop} {h0 m0 h m : Heap} {A_5 : Option Addr} {n_5 c_5 : Nat} {A_6 : Option Addr} {n_6 c_6 : Nat} {a_5 : List T_api_Expr} {a_6 : List T_api_Expr} (O : Hold W h0 m0 h m [rR (aE T_api_Expr.T) A_5 c_5 a_5, rR (aE T_api_Expr.T) A_6 c_6 a_6]) (ne_5 : n_5 = List.length a_5) (ne_6 : n_6 = List.length a_6) (tab : TB m) {r : Bool} (e : roadlaw2_TreeSame.j1 a_5 a_6 = some r) : f3.j1 (roadlaw2_TreeSame.post W h0 m0 r) A_5 n_5 c_5 A_6 n_6 c_6 h := by
  unfold roadlaw2_TreeSame.j1 at e
  subst ne_5
  subst ne_6
  refine f3.j1_in ?_
  unfold f3.j1T
  exact roadlaw2_TreeSame.l0.walk (O.pick [0, 1]).nm rfl rfl tab e
noncomputable def roadlaw2_TreeSame.j0 (y_2 : T_api_Program) (y_3 : T_api_Program) : Option (Bool) :=
  Option.bind (tree_Bodies y_2) fun y1 => Option.bind (roadref2_BodiesOf y_2) fun y13 => Option.bind (tree_Same y_2 y_3) fun y25 => Option.bind (roadref2_Mark y_2) fun y32 => Option.bind (roadref2_Mark y_3) fun y39 => if (y25 == (decide (y32 = y39))) = true then (Option.bind (tree_Same y_2 y_2) fun y46 => if y46 = true then (if (((List.length y1) : Nat) : Int) = (((List.length y13) : Nat) : Int) then ((roadlaw2_TreeSame.j1 y1 y13)) else (some (false))) else (some (false))) else (some (false))
set_option maxHeartbeats 4000000 in
set_option maxRecDepth 100000 in
theorem roadlaw2_TreeSame.j0.walk {W : Nat → Prop} {h0 m0 h m : Heap} {bk_2 : Nat} {cs_2 : List Value} {bk_3 : Nat} {cs_3 : List Value} {y_2 : T_api_Program} {y_3 : T_api_Program} (O : Hold W h0 m0 h m [rV bk_2 29 cs_2, rV bk_3 29 cs_3]) (e_2 : T_api_Program.E m y_2 cs_2) (e_3 : T_api_Program.E m y_3 cs_3) (tab : TB m) {r : Bool} (e : roadlaw2_TreeSame.j0 y_2 y_3 = some r) : f3.j0 (roadlaw2_TreeSame.post W h0 m0 r) (⟨bk_2, 0, none⟩ : Addr) (⟨bk_3, 0, none⟩ : Addr) h := by
  unfold roadlaw2_TreeSame.j0 at e
  refine f3.j0_in ?_
  unfold f3.j0T
  refine ⟨_, ldAn (Sub.refl _) (O.all 0 rfl) (T_api_Program.T.len _ _ _ e_2), ?_⟩
  refine ⟨_, ldAn (Sub.refl _) (O.all 0 rfl) (T_api_Program.T.len _ _ _ e_2), ?_⟩
  obtain ⟨y1, g2, e⟩ := bind_e e
  refine (tree_Bodies.walk (Hold.start (W := No) O.s) e_2 g2).mono ?_
  rintro _ h3 ⟨m4, A7, n8, c9, Q5, rfl, ne10⟩
  have O12 := Hold.nm (O.ret Q5)
  subst ne10
  refine ⟨_, _, _, rfl, ?_⟩
  refine ⟨Q5.S.ext, ?_⟩
  obtain ⟨y13, g14, e⟩ := bind_e e
  refine (roadref2_BodiesOf.walk (Hold.start (W := No) O12.s) (T_api_Program.T.mono _ _ _ _ Q5.S.up e_2) g14).mono ?_
  rintro _ h15 ⟨m16, A19, n20, c21, Q17, rfl, ne22⟩
  have O24 := Hold.nm (O12.ret Q17)
  subst ne22
  refine ⟨_, _, _, rfl, ?_⟩
  refine ⟨_, ldAn (Sub.refl _) (O24.all 0 rfl) (T_api_Program.T.len _ _ _ e_2), ?_⟩
  refine ⟨_, ldAn (Sub.refl _) (O24.all 1 rfl) (T_api_Program.T.len _ _ _ e_3), ?_⟩
  refine ⟨_, ldAn (Sub.refl _) (O24.all 0 rfl) (T_api_Program.T.len _ _ _ e_2), ?_⟩
  refine ⟨_, ldAn (Sub.refl _) (O24.all 1 rfl) (T_api_Program.T.len _ _ _ e_3), ?_⟩
  obtain ⟨y25, g26, e⟩ := bind_e e
  refine (tree_Same.walk (Hold.start (W := No) O24.s) (T_api_Program.T.mono _ _ _ _ (Q5.S.up.trans Q17.S.up) e_2) (T_api_Program.T.mono _ _ _ _ (Q5.S.up.trans Q17.S.up) e_3) g26).mono ?_
  rintro _ h27 ⟨m28, Q29, rfl⟩
  have O31 := Hold.nm (O24.retC Q29 vfs_nil)
  refine ⟨_, rfl, ?_⟩
  refine ⟨Q29.S.ext, ?_⟩
  obtain ⟨y32, g33, e⟩ := bind_e e
  refine (roadref2_Mark.walk (Hold.start (W := No) O31.s) (T_api_Program.T.mono _ _ _ _ (Q5.S.up.trans Q17.S.up) e_2) (TBg.sub tab (Q5.S.up.trans Q17.S.up)) g33).mono ?_
  rintro _ h34 ⟨m35, Q36, rfl⟩
  have O38 := Hold.nm (O31.retC Q36 vfs_nil)
  refine ⟨_, rfl, ?_⟩
  refine ⟨Q36.S.ext, ?_⟩
  obtain ⟨y39, g40, e⟩ := bind_e e
  refine (roadref2_Mark.walk (Hold.start (W := No) O38.s) (T_api_Program.T.mono _ _ _ _ (Q5.S.up.trans Q17.S.up) e_3) (TBg.sub tab (Q5.S.up.trans Q17.S.up)) g40).mono ?_
  rintro _ h41 ⟨m42, Q43, rfl⟩
  have O45 := Hold.nm (O38.retC Q43 vfs_nil)
  refine ⟨_, rfl, ?_⟩
  try rw [ba_list y32 y39]
  refine split_not ?_
  refine split_any_e e (fun c55 e => ?_) (fun c55 e => ?_)
  · refine ⟨_, ldAn (Sub.refl _) (O45.all 0 rfl) (T_api_Program.T.len _ _ _ e_2), ?_⟩
    refine ⟨_, ldAn (Sub.refl _) (O45.all 0 rfl) (T_api_Program.T.len _ _ _ e_2), ?_⟩
    obtain ⟨y46, g47, e⟩ := bind_e e
    refine (tree_Same.walk (Hold.start (W := No) O45.s) (T_api_Program.T.mono _ _ _ _ (Q5.S.up.trans Q17.S.up) e_2) (T_api_Program.T.mono _ _ _ _ (Q5.S.up.trans Q17.S.up) e_2) g47).mono ?_
    rintro _ h48 ⟨m49, Q50, rfl⟩
    have O52 := Hold.nm (O45.retC Q50 vfs_nil)
    refine ⟨_, rfl, ?_⟩
    refine split_not ?_
    refine split_any_e e (fun c54 e => ?_) (fun c54 e => ?_)
    · refine split_ne_e e (fun c53 e => ?_) (fun c53 e => ?_)
      · cases e
        exact ⟨_, O52.pick [], rfl⟩
      · exact roadlaw2_TreeSame.j1.walk (O52.pick [2, 3]).nm rfl rfl (TBg.sub tab (Q5.S.up.trans Q17.S.up)) e
    · cases e
      exact ⟨_, O52.pick [], rfl⟩
  · cases e
    exact ⟨_, O45.pick [], rfl⟩
noncomputable def roadlaw2_TreeSame (y_0 : T_api_Program) (y_1 : T_api_Program) : Option (Bool) :=
  Option.bind (roadlaw2_small y_0) fun y9 => if y9 = true then (Option.bind (roadlaw2_small y_1) fun y16 => if y16 = true then ((roadlaw2_TreeSame.j0 y_0 y_1)) else (some (true))) else (some (true))
set_option maxRecDepth 100000 in
theorem roadlaw2_TreeSame.walk {W : Nat → Prop} {h m : Heap} {cs_0 : List Value} {cs_1 : List Value} {y_0 : T_api_Program} {y_1 : T_api_Program} (O : Hold W h m h m []) (e_0 : T_api_Program.E m y_0 cs_0) (e_1 : T_api_Program.E m y_1 cs_1) (tab : TB m) {r : Bool} (e : roadlaw2_TreeSame y_0 y_1 = some r) : Run Tryd.prog 3 #[Value.agg cs_0.toArray, Value.agg cs_1.toArray] h (roadlaw2_TreeSame.post W h m r) := by
  unfold roadlaw2_TreeSame at e
  refine f3.run ?_
  unfold f3.runT
  refine O.new fun h1 x2 O3 => ?_
  refine O3.new fun h5 x6 O7 => ?_
  refine ⟨_, ldAn (Sub.refl _) (O7.all 0 rfl) (T_api_Program.T.len _ _ _ e_0), ?_⟩
  obtain ⟨y9, g10, e⟩ := bind_e e
  refine (roadlaw2_small.walk (Hold.start (W := No) O7.s) e_0 g10).mono ?_
  rintro _ h11 ⟨m12, Q13, rfl⟩
  have O15 := Hold.nm (O7.retC Q13 vfs_nil)
  refine ⟨_, rfl, ?_⟩
  refine split_not ?_
  refine split_any_e e (fun c24 e => ?_) (fun c24 e => ?_)
  · refine ⟨_, ldAn (Sub.refl _) (O15.all 1 rfl) (T_api_Program.T.len _ _ _ e_1), ?_⟩
    obtain ⟨y16, g17, e⟩ := bind_e e
    refine (roadlaw2_small.walk (Hold.start (W := No) O15.s) e_1 g17).mono ?_
    rintro _ h18 ⟨m19, Q20, rfl⟩
    have O22 := Hold.nm (O15.retC Q20 vfs_nil)
    refine ⟨_, rfl, ?_⟩
    refine split_not ?_
    refine split_any_e e (fun c23 e => ?_) (fun c23 e => ?_)
    · exact roadlaw2_TreeSame.j0.walk (O22.pick [0, 1]).nm e_0 e_1 tab e
    · cases e
      exact ⟨_, O22.pick [], rfl⟩
  · cases e
    exact ⟨_, O15.pick [], rfl⟩
end Go.Proofs.YtnlocljmalhddabDoor.Fw

end
