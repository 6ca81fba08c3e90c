/- Part 5: what the law TreeTells needs, put together out of texts of this session. -/
import Derived.Test.YtnlocljmalhddabDoorZTreeTellsd
section
namespace Go.Proofs.YtnlocljmalhddabDoor.Fw
open Go Go.Hw Go.Proofs
set_option linter.unusedVariables false
set_option synthInstance.maxHeartbeats 400000
set_option synthInstance.maxSize 1000
def tree_Deep.post (W : Nat → Prop) (h0 m0 : Heap) (r : Int) (v : Value) (h : Heap) : Prop := ∃ m , Hold W h0 m0 h m [] ∧ v = .int .i64 r
inductive tree_Deep_k.Pt where
  | f (y_0 : T_api_Expr)
  | l0 (y_1 : T_api_Expr) (x_3 : Int) (a_9 : List T_api_Expr) (x_10 : Int) (x_11 : Int)
  | l1 (x_3 : Int) (a_21 : List T_api_Arm) (x_22 : Int) (x_23 : Int)
noncomputable def tree_Deep_k.body (go : (p : tree_Deep_k.Pt) → Option (Int)) : (p : tree_Deep_k.Pt) → Option (Int)
  | .f y_0 => (go (.l0 y_0 (0 : Int) y_0.Args (((List.length y_0.Args) : Nat) : Int) (0 : Int)))
  | .l0 y_1 x_3 a_9 x_10 x_11 => if x_11 < x_10 then (Option.bind (gi a_9 x_11) fun y1 => Option.bind ((go (.f y1))) fun y14 => (go (.l0 y_1 (if y14 > x_3 then y14 else x_3) a_9 x_10 (IntKind.wrap .i64 (x_11 + (1 : Int)))))) else ((go (.l1 x_3 y_1.Arms (((List.length y_1.Arms) : Nat) : Int) (0 : Int))))
  | .l1 x_3 a_21 x_22 x_23 => if x_23 < x_22 then (Option.bind (gi a_21 x_23) fun y1 => Option.bind ((go (.f y1.Body))) fun y14 => Option.bind (tree_patDeep y1.Pat) fun y21 => (go (.l1 (if y21 > (if y14 > x_3 then y14 else x_3) then y21 else (if y14 > x_3 then y14 else x_3)) a_21 x_22 (IntKind.wrap .i64 (x_23 + (1 : Int)))))) else (some ((IntKind.wrap .i64 (x_3 + (1 : Int)))))
theorem tree_Deep_k.mono : MonoF (β := fun _ => (Int)) tree_Deep_k.body := fun f g hfg p => match p with
  | .f y_0 => (hfg _)
  | .l0 y_1 x_3 a_9 x_10 x_11 => LeO.ite (LeO.bind (LeO.refl _) fun y1 => LeO.bind ((hfg _)) fun y14 => (hfg _)) ((hfg _))
  | .l1 x_3 a_21 x_22 x_23 => LeO.ite (LeO.bind (LeO.refl _) fun y1 => LeO.bind ((hfg _)) fun y14 => LeO.bind (LeO.refl _) fun y21 => (hfg _)) (LeO.refl _)
noncomputable def tree_Deep_k.go (p : tree_Deep_k.Pt) : Option (Int) := fixF (β := fun _ => (Int)) tree_Deep_k.body p
noncomputable def tree_Deep (y_0 : T_api_Expr) : Option (Int) := tree_Deep_k.go (.f y_0)
noncomputable def tree_Deep.l0 (y_1 : T_api_Expr) (x_3 : Int) (a_9 : List T_api_Expr) (x_10 : Int) (x_11 : Int) : Option (Int) := tree_Deep_k.go (.l0 y_1 x_3 a_9 x_10 x_11)
noncomputable def tree_Deep.l1 (x_3 : Int) (a_21 : List T_api_Arm) (x_22 : Int) (x_23 : Int) : Option (Int) := tree_Deep_k.go (.l1 x_3 a_21 x_22 x_23)
theorem tree_Deep_eq (y_0 : T_api_Expr) : tree_Deep y_0 = (tree_Deep.l0 y_0 (0 : Int) y_0.Args (((List.length y_0.Args) : Nat) : Int) (0 : Int)) := fixF_eq tree_Deep_k.mono _
theorem tree_Deep.l0_eq (y_1 : T_api_Expr) (x_3 : Int) (a_9 : List T_api_Expr) (x_10 : Int) (x_11 : Int) : tree_Deep.l0 y_1 x_3 a_9 x_10 x_11 = if x_11 < x_10 then (Option.bind (gi a_9 x_11) fun y1 => Option.bind ((tree_Deep y1)) fun y14 => (tree_Deep.l0 y_1 (if y14 > x_3 then y14 else x_3) a_9 x_10 (IntKind.wrap .i64 (x_11 + (1 : Int))))) else ((tree_Deep.l1 x_3 y_1.Arms (((List.length y_1.Arms) : Nat) : Int) (0 : Int))) := fixF_eq tree_Deep_k.mono _
theorem tree_Deep.l1_eq (x_3 : Int) (a_21 : List T_api_Arm) (x_22 : Int) (x_23 : Int) : tree_Deep.l1 x_3 a_21 x_22 x_23 = if x_23 < x_22 then (Option.bind (gi a_21 x_23) fun y1 => Option.bind ((tree_Deep y1.Body)) fun y14 => Option.bind (tree_patDeep y1.Pat) fun y21 => (tree_Deep.l1 (if y21 > (if y14 > x_3 then y14 else x_3) then y21 else (if y14 > x_3 then y14 else x_3)) a_21 x_22 (IntKind.wrap .i64 (x_23 + (1 : Int))))) else (some ((IntKind.wrap .i64 (x_3 + (1 : Int))))) := fixF_eq tree_Deep_k.mono _
def tree_Deep_k.I : (p : tree_Deep_k.Pt) → (Int) → Prop
  | .f y_0, r => ∀ (W : Nat → Prop) (h m : Heap) (cs_0 : List Value) (O : Hold W h m h m []) (e_0 : T_api_Expr.E m y_0 cs_0), Run Tryd.prog 16 #[Value.agg cs_0.toArray] h (tree_Deep.post W h m r)
  | .l0 y_1 x_3 a_9 x_10 x_11, r => ∀ (W : Nat → Prop) (h0 m0 h m : Heap) (bk_1 : Nat) (cs_1 : List Value) (A_9 : Option Addr) (n_9 c_9 : Nat) (O : Hold W h0 m0 h m [rV bk_1 40 cs_1]) (e_1 : T_api_Expr.E m y_1 cs_1) (ne_9 : n_9 = List.length a_9) (k_9 : List.length a_9 ≤ c_9) (r_9 : Rd 8 T_api_Expr.E m A_9 a_9), f16.l0 (tree_Deep.post W h0 m0 r) (⟨bk_1, 0, none⟩ : Addr) x_3 A_9 n_9 c_9 x_10 x_11 h
  | .l1 x_3 a_21 x_22 x_23, r => ∀ (W : Nat → Prop) (h0 m0 h m : Heap) (A_21 : Option Addr) (n_21 c_21 : Nat) (O : Hold W h0 m0 h m []) (ne_21 : n_21 = List.length a_21) (k_21 : List.length a_21 ≤ c_21) (r_21 : Rd 12 T_api_Arm.E m A_21 a_21), f16.l1 (tree_Deep.post W h0 m0 r) x_3 A_21 n_21 c_21 x_22 x_23 h
set_option maxRecDepth 100000 in
theorem tree_Deep_k.step_f (go : (p : tree_Deep_k.Pt) → Option (Int)) (ih : ∀ p r, go p = some r → tree_Deep_k.I p r) (y_0 : T_api_Expr) (r : Int) (e : tree_Deep_k.body go (.f y_0) = some r) : tree_Deep_k.I (.f y_0) r := by
  unfold tree_Deep_k.body at e
  intro W h m cs_0 O e_0
  refine f16.run ?_
  unfold f16.runT
  refine O.new fun h1 x2 O3 => ?_
  obtain ⟨A5, c6, q7, k8, r9⟩ := T_api_Expr.g5 e_0
  refine ⟨_, ldk (k := 5) (Sub.refl _) (O3.all 0 rfl) q7, _, _, _, rfl, ?_⟩
  have O10 := O3.nm
  exact (ih _ _ e) _ _ _ _ _ _ _ _ _ _ (O10.pick [0]).nm e_0 rfl k8 r9
set_option maxRecDepth 100000 in
theorem tree_Deep_k.step_l0 (go : (p : tree_Deep_k.Pt) → Option (Int)) (ih : ∀ p r, go p = some r → tree_Deep_k.I p r) (y_1 : T_api_Expr) (x_3 : Int) (a_9 : List T_api_Expr) (x_10 : Int) (x_11 : Int) (r : Int) (e : tree_Deep_k.body go (.l0 y_1 x_3 a_9 x_10 x_11) = some r) : tree_Deep_k.I (.l0 y_1 x_3 a_9 x_10 x_11) r := by
  unfold tree_Deep_k.body at e
  intro W h0 m0 h m bk_1 cs_1 A_9 n_9 c_9 O e_1 ne_9 k_9 r_9
  subst ne_9
  refine f16.l0_in ?_
  unfold f16.l0T
  refine split_dec_e e (fun c26 e => ?_) (fun c26 e => ?_)
  · obtain ⟨y1, g2, e⟩ := bind_e e
    refine r_9.addr rfl g2 fun a3 cs4 ha5 hc6 he7 => ?_
    refine ⟨_, ldAn O.s hc6 rfl, ?_⟩
    refine O.new fun h8 x9 O10 => ?_
    refine ⟨_, rfl, (T_api_Expr.T.len _ _ _ he7), ?_⟩
    refine O10.stA 1 rfl (T_api_Expr.T.len _ _ _ he7) (T_api_Expr.T.flat _ _ _ he7) fun h12 O13 => ?_
    refine ⟨_, ldAn (Sub.refl _) (O13.all 1 rfl) (T_api_Expr.T.len _ _ _ he7), ?_⟩
    obtain ⟨y14, g15, e⟩ := bind_e e
    refine ((ih _ _ g15) _ _ _ _ (Hold.start (W := No) O13.s) he7).mono ?_
    rintro _ h16 ⟨m17, Q18, rfl⟩
    have O20 := Hold.nm (O13.retC Q18 vfs_nil)
    refine ⟨_, rfl, ?_⟩
    exact (ih _ _ e) _ _ _ _ _ _ _ _ _ _ (O20.pick [0]).nm e_1 rfl k_9 r_9
  · obtain ⟨A21, c22, q23, k24, r25⟩ := T_api_Expr.g6 e_1
    refine ⟨_, ldk (k := 6) (Sub.refl _) (O.all 0 rfl) q23, _, _, _, rfl, ?_⟩
    exact (ih _ _ e) _ _ _ _ _ _ _ _ (O.pick []).nm rfl k24 r25
set_option maxRecDepth 100000 in
theorem tree_Deep_k.step_l1 (go : (p : tree_Deep_k.Pt) → Option (Int)) (ih : ∀ p r, go p = some r → tree_Deep_k.I p r) (x_3 : Int) (a_21 : List T_api_Arm) (x_22 : Int) (x_23 : Int) (r : Int) (e : tree_Deep_k.body go (.l1 x_3 a_21 x_22 x_23) = some r) : tree_Deep_k.I (.l1 x_3 a_21 x_22 x_23) r := by
  unfold tree_Deep_k.body at e
  intro W h0 m0 h m A_21 n_21 c_21 O ne_21 k_21 r_21
  subst ne_21
  refine f16.l1_in ?_
  unfold f16.l1T
  refine split_dec_e e (fun c28 e => ?_) (fun c28 e => ?_)
  · obtain ⟨y1, g2, e⟩ := bind_e e
    refine r_21.addr rfl g2 fun a3 cs4 ha5 hc6 he7 => ?_
    refine ⟨_, ldAn O.s hc6 rfl, ?_⟩
    refine O.new fun h8 x9 O10 => ?_
    refine ⟨_, rfl, (T_api_Arm.T.len _ _ _ he7), ?_⟩
    refine O10.stA 0 rfl (T_api_Arm.T.len _ _ _ he7) (T_api_Arm.T.flat _ _ _ he7) fun h12 O13 => ?_
    refine ⟨_, ldAkn (Sub.refl _) (O13.all 0 rfl) 4 8 (le_len (T_api_Arm.T.len _ _ _ he7) (by decide)), ?_⟩
    refine ⟨_, ldA0n (Sub.refl _) (O13.all 0 rfl) 4 (le_len (T_api_Arm.T.len _ _ _ he7) (by decide)), ?_⟩
    obtain ⟨y14, g15, e⟩ := bind_e e
    refine ((ih _ _ g15) _ _ _ _ (Hold.start (W := No) O13.s) (T_api_Arm.u4_40 he7)).mono ?_
    rintro _ h16 ⟨m17, Q18, rfl⟩
    have O20 := Hold.nm (O13.retC Q18 vfs_nil)
    refine ⟨_, rfl, ?_⟩
    refine ⟨Q18.S.ext, ?_⟩
    obtain ⟨y21, g22, e⟩ := bind_e e
    refine (tree_patDeep.walk (Hold.start (W := No) O20.s) (T_api_Arm.u0_48 he7) g22).mono ?_
    rintro _ h23 ⟨m24, Q25, rfl⟩
    have O27 := Hold.nm (O20.retC Q25 vfs_nil)
    refine ⟨_, rfl, ?_⟩
    exact (ih _ _ e) _ _ _ _ _ _ _ _ (O27.pick []).nm rfl k_21 r_21
  · cases e
    exact ⟨_, O.pick [], rfl⟩
theorem tree_Deep_k.all {p : tree_Deep_k.Pt} {r : (Int)} (e : tree_Deep_k.go p = some r) : tree_Deep_k.I p r := fixF_ind (β := fun _ => (Int)) tree_Deep_k.mono (I := tree_Deep_k.I) (fun go ih p r e => match p with
  | .f y_0 => tree_Deep_k.step_f go ih y_0 r e
  | .l0 y_1 x_3 a_9 x_10 x_11 => tree_Deep_k.step_l0 go ih y_1 x_3 a_9 x_10 x_11 r e
  | .l1 x_3 a_21 x_22 x_23 => tree_Deep_k.step_l1 go ih x_3 a_21 x_22 x_23 r e
  ) e
theorem tree_Deep.walk {W : Nat → Prop} {h m : Heap} {cs_0 : List Value} {y_0 : T_api_Expr} (O : Hold W h m h m []) (e_0 : T_api_Expr.E m y_0 cs_0) {r : Int} (e : tree_Deep y_0 = some r) : Run Tryd.prog 16 #[Value.agg cs_0.toArray] h (tree_Deep.post W h m r) := tree_Deep_k.all (p := .f y_0) e W h m cs_0 O e_0
def roadref2_height.post (W : Nat → Prop) (h0 m0 : Heap) (r : Int) (v : Value) (h : Heap) : Prop := ∃ m , Hold W h0 m0 h m [] ∧ v = .int .i64 r
inductive roadref2_height_k.Pt where
  | f (y_0 : T_api_Pat)
  | l0 (x_3 : Int) (a_7 : List T_api_Pat) (x_8 : Int) (x_9 : Int)
noncomputable def roadref2_height_k.body (go : (p : roadref2_height_k.Pt) → Option (Int)) : (p : roadref2_height_k.Pt) → Option (Int)
  | .f y_0 => (go (.l0 (1 : Int) y_0.Args (((List.length y_0.Args) : Nat) : Int) (0 : Int)))
  | .l0 x_3 a_7 x_8 x_9 => if x_9 < x_8 then (Option.bind (gi a_7 x_9) fun y1 => Option.bind ((go (.f y1))) fun y14 => (go (.l0 (if (IntKind.wrap .i64 ((1 : Int) + y14)) > x_3 then (IntKind.wrap .i64 ((1 : Int) + y14)) else x_3) a_7 x_8 (IntKind.wrap .i64 (x_9 + (1 : Int)))))) else (some (x_3))
theorem roadref2_height_k.mono : MonoF (β := fun _ => (Int)) roadref2_height_k.body := fun f g hfg p => match p with
  | .f y_0 => (hfg _)
  | .l0 x_3 a_7 x_8 x_9 => LeO.ite (LeO.bind (LeO.refl _) fun y1 => LeO.bind ((hfg _)) fun y14 => (hfg _)) (LeO.refl _)
noncomputable def roadref2_height_k.go (p : roadref2_height_k.Pt) : Option (Int) := fixF (β := fun _ => (Int)) roadref2_height_k.body p
noncomputable def roadref2_height (y_0 : T_api_Pat) : Option (Int) := roadref2_height_k.go (.f y_0)
noncomputable def roadref2_height.l0 (x_3 : Int) (a_7 : List T_api_Pat) (x_8 : Int) (x_9 : Int) : Option (Int) := roadref2_height_k.go (.l0 x_3 a_7 x_8 x_9)
theorem roadref2_height_eq (y_0 : T_api_Pat) : roadref2_height y_0 = (roadref2_height.l0 (1 : Int) y_0.Args (((List.length y_0.Args) : Nat) : Int) (0 : Int)) := fixF_eq roadref2_height_k.mono _
theorem roadref2_height.l0_eq (x_3 : Int) (a_7 : List T_api_Pat) (x_8 : Int) (x_9 : Int) : roadref2_height.l0 x_3 a_7 x_8 x_9 = if x_9 < x_8 then (Option.bind (gi a_7 x_9) fun y1 => Option.bind ((roadref2_height y1)) fun y14 => (roadref2_height.l0 (if (IntKind.wrap .i64 ((1 : Int) + y14)) > x_3 then (IntKind.wrap .i64 ((1 : Int) + y14)) else x_3) a_7 x_8 (IntKind.wrap .i64 (x_9 + (1 : Int))))) else (some (x_3)) := fixF_eq roadref2_height_k.mono _
def roadref2_height_k.I : (p : roadref2_height_k.Pt) → (Int) → Prop
  | .f y_0, r => ∀ (W : Nat → Prop) (h m : Heap) (cs_0 : List Value) (O : Hold W h m h m []) (e_0 : T_api_Pat.E m y_0 cs_0), Run Tryd.prog 55 #[Value.agg cs_0.toArray] h (roadref2_height.post W h m r)
  | .l0 x_3 a_7 x_8 x_9, r => ∀ (W : Nat → Prop) (h0 m0 h m : Heap) (A_7 : Option Addr) (n_7 c_7 : Nat) (O : Hold W h0 m0 h m []) (ne_7 : n_7 = List.length a_7) (k_7 : List.length a_7 ≤ c_7) (r_7 : Rd 4 T_api_Pat.E m A_7 a_7), f55.l0 (roadref2_height.post W h0 m0 r) x_3 A_7 n_7 c_7 x_8 x_9 h
set_option maxRecDepth 100000 in
theorem roadref2_height_k.step_f (go : (p : roadref2_height_k.Pt) → Option (Int)) (ih : ∀ p r, go p = some r → roadref2_height_k.I p r) (y_0 : T_api_Pat) (r : Int) (e : roadref2_height_k.body go (.f y_0) = some r) : roadref2_height_k.I (.f y_0) r := by
  unfold roadref2_height_k.body at e
  intro W h m cs_0 O e_0
  refine f55.run ?_
  unfold f55.runT
  refine O.new fun h1 x2 O3 => ?_
  obtain ⟨A5, c6, q7, k8, r9⟩ := T_api_Pat.g3 e_0
  refine ⟨_, ldk (k := 3) (Sub.refl _) (O3.all 0 rfl) q7, _, _, _, rfl, ?_⟩
  have O10 := O3.nm
  exact (ih _ _ e) _ _ _ _ _ _ _ _ (O10.pick []).nm rfl k8 r9
set_option maxRecDepth 100000 in
theorem roadref2_height_k.step_l0 (go : (p : roadref2_height_k.Pt) → Option (Int)) (ih : ∀ p r, go p = some r → roadref2_height_k.I p r) (x_3 : Int) (a_7 : List T_api_Pat) (x_8 : Int) (x_9 : Int) (r : Int) (e : roadref2_height_k.body go (.l0 x_3 a_7 x_8 x_9) = some r) : roadref2_height_k.I (.l0 x_3 a_7 x_8 x_9) r := by
  unfold roadref2_height_k.body at e
  intro W h0 m0 h m A_7 n_7 c_7 O ne_7 k_7 r_7
  subst ne_7
  refine f55.l0_in ?_
  unfold f55.l0T
  refine split_dec_e e (fun c21 e => ?_) (fun c21 e => ?_)
  · obtain ⟨y1, g2, e⟩ := bind_e e
    refine r_7.addr rfl g2 fun a3 cs4 ha5 hc6 he7 => ?_
    refine ⟨_, ldAn O.s hc6 rfl, ?_⟩
    refine O.new fun h8 x9 O10 => ?_
    refine ⟨_, rfl, (T_api_Pat.T.len _ _ _ he7), ?_⟩
    refine O10.stA 0 rfl (T_api_Pat.T.len _ _ _ he7) (T_api_Pat.T.flat _ _ _ he7) fun h12 O13 => ?_
    refine ⟨_, ldAn (Sub.refl _) (O13.all 0 rfl) (T_api_Pat.T.len _ _ _ he7), ?_⟩
    obtain ⟨y14, g15, e⟩ := bind_e e
    refine ((ih _ _ g15) _ _ _ _ (Hold.start (W := No) O13.s) he7).mono ?_
    rintro _ h16 ⟨m17, Q18, rfl⟩
    have O20 := Hold.nm (O13.retC Q18 vfs_nil)
    refine ⟨_, rfl, ?_⟩
    exact (ih _ _ e) _ _ _ _ _ _ _ _ (O20.pick []).nm rfl k_7 r_7
  · cases e
    exact ⟨_, O.pick [], rfl⟩
theorem roadref2_height_k.all {p : roadref2_height_k.Pt} {r : (Int)} (e : roadref2_height_k.go p = some r) : roadref2_height_k.I p r := fixF_ind (β := fun _ => (Int)) roadref2_height_k.mono (I := roadref2_height_k.I) (fun go ih p r e => match p with
  | .f y_0 => roadref2_height_k.step_f go ih y_0 r e
  | .l0 x_3 a_7 x_8 x_9 => roadref2_height_k.step_l0 go ih x_3 a_7 x_8 x_9 r e
  ) e
theorem roadref2_height.walk {W : Nat → Prop} {h m : Heap} {cs_0 : List Value} {y_0 : T_api_Pat} (O : Hold W h m h m []) (e_0 : T_api_Pat.E m y_0 cs_0) {r : Int} (e : roadref2_height y_0 = some r) : Run Tryd.prog 55 #[Value.agg cs_0.toArray] h (roadref2_height.post W h m r) := roadref2_height_k.all (p := .f y_0) e W h m cs_0 O e_0
def roadref2_DeepOf.post (W : Nat → Prop) (h0 m0 : Heap) (r : Int) (v : Value) (h : Heap) : Prop := ∃ m , Hold W h0 m0 h m [] ∧ v = .int .i64 r
inductive roadref2_DeepOf_k.Pt where
  | f (y_0 : T_api_Expr)
  | l0 (y_1 : T_api_Expr) (x_3 : Int) (a_9 : List T_api_Expr) (x_10 : Int) (x_11 : Int)
  | l1 (x_3 : Int) (a_22 : List T_api_Arm) (x_23 : Int) (x_24 : Int)
noncomputable def roadref2_DeepOf_k.body (go : (p : roadref2_DeepOf_k.Pt) → Option (Int)) : (p : roadref2_DeepOf_k.Pt) → Option (Int)
  | .f y_0 => (go (.l0 y_0 (1 : Int) y_0.Args (((List.length y_0.Args) : Nat) : Int) (0 : Int)))
  | .l0 y_1 x_3 a_9 x_10 x_11 => if x_11 < x_10 then (Option.bind (gi a_9 x_11) fun y1 => Option.bind ((go (.f y1))) fun y14 => (go (.l0 y_1 (if (IntKind.wrap .i64 ((1 : Int) + y14)) > x_3 then (IntKind.wrap .i64 ((1 : Int) + y14)) else x_3) a_9 x_10 (IntKind.wrap .i64 (x_11 + (1 : Int)))))) else ((go (.l1 x_3 y_1.Arms (((List.length y_1.Arms) : Nat) : Int) (0 : Int))))
  | .l1 x_3 a_22 x_23 x_24 => if x_24 < x_23 then (Option.bind (gi a_22 x_24) fun y1 => Option.bind ((go (.f y1.Body))) fun y14 => Option.bind (roadref2_height y1.Pat) fun y21 => (go (.l1 (if (IntKind.wrap .i64 ((1 : Int) + y21)) > (if (IntKind.wrap .i64 ((1 : Int) + y14)) > x_3 then (IntKind.wrap .i64 ((1 : Int) + y14)) else x_3) then (IntKind.wrap .i64 ((1 : Int) + y21)) else (if (IntKind.wrap .i64 ((1 : Int) + y14)) > x_3 then (IntKind.wrap .i64 ((1 : Int) + y14)) else x_3)) a_22 x_23 (IntKind.wrap .i64 (x_24 + (1 : Int)))))) else (some (x_3))
theorem roadref2_DeepOf_k.mono : MonoF (β := fun _ => (Int)) roadref2_DeepOf_k.body := fun f g hfg p => match p with
  | .f y_0 => (hfg _)
  | .l0 y_1 x_3 a_9 x_10 x_11 => LeO.ite (LeO.bind (LeO.refl _) fun y1 => LeO.bind ((hfg _)) fun y14 => (hfg _)) ((hfg _))
  | .l1 x_3 a_22 x_23 x_24 => LeO.ite (LeO.bind (LeO.refl _) fun y1 => LeO.bind ((hfg _)) fun y14 => LeO.bind (LeO.refl _) fun y21 => (hfg _)) (LeO.refl _)
noncomputable def roadref2_DeepOf_k.go (p : roadref2_DeepOf_k.Pt) : Option (Int) := fixF (β := fun _ => (Int)) roadref2_DeepOf_k.body p
noncomputable def roadref2_DeepOf (y_0 : T_api_Expr) : Option (Int) := roadref2_DeepOf_k.go (.f y_0)
noncomputable def roadref2_DeepOf.l0 (y_1 : T_api_Expr) (x_3 : Int) (a_9 : List T_api_Expr) (x_10 : Int) (x_11 : Int) : Option (Int) := roadref2_DeepOf_k.go (.l0 y_1 x_3 a_9 x_10 x_11)
noncomputable def roadref2_DeepOf.l1 (x_3 : Int) (a_22 : List T_api_Arm) (x_23 : Int) (x_24 : Int) : Option (Int) := roadref2_DeepOf_k.go (.l1 x_3 a_22 x_23 x_24)
theorem roadref2_DeepOf_eq (y_0 : T_api_Expr) : roadref2_DeepOf y_0 = (roadref2_DeepOf.l0 y_0 (1 : Int) y_0.Args (((List.length y_0.Args) : Nat) : Int) (0 : Int)) := fixF_eq roadref2_DeepOf_k.mono _
theorem roadref2_DeepOf.l0_eq (y_1 : T_api_Expr) (x_3 : Int) (a_9 : List T_api_Expr) (x_10 : Int) (x_11 : Int) : roadref2_DeepOf.l0 y_1 x_3 a_9 x_10 x_11 = if x_11 < x_10 then (Option.bind (gi a_9 x_11) fun y1 => Option.bind ((roadref2_DeepOf y1)) fun y14 => (roadref2_DeepOf.l0 y_1 (if (IntKind.wrap .i64 ((1 : Int) + y14)) > x_3 then (IntKind.wrap .i64 ((1 : Int) + y14)) else x_3) a_9 x_10 (IntKind.wrap .i64 (x_11 + (1 : Int))))) else ((roadref2_DeepOf.l1 x_3 y_1.Arms (((List.length y_1.Arms) : Nat) : Int) (0 : Int))) := fixF_eq roadref2_DeepOf_k.mono _
theorem roadref2_DeepOf.l1_eq (x_3 : Int) (a_22 : List T_api_Arm) (x_23 : Int) (x_24 : Int) : roadref2_DeepOf.l1 x_3 a_22 x_23 x_24 = if x_24 < x_23 then (Option.bind (gi a_22 x_24) fun y1 => Option.bind ((roadref2_DeepOf y1.Body)) fun y14 => Option.bind (roadref2_height y1.Pat) fun y21 => (roadref2_DeepOf.l1 (if (IntKind.wrap .i64 ((1 : Int) + y21)) > (if (IntKind.wrap .i64 ((1 : Int) + y14)) > x_3 then (IntKind.wrap .i64 ((1 : Int) + y14)) else x_3) then (IntKind.wrap .i64 ((1 : Int) + y21)) else (if (IntKind.wrap .i64 ((1 : Int) + y14)) > x_3 then (IntKind.wrap .i64 ((1 : Int) + y14)) else x_3)) a_22 x_23 (IntKind.wrap .i64 (x_24 + (1 : Int))))) else (some (x_3)) := fixF_eq roadref2_DeepOf_k.mono _
def roadref2_DeepOf_k.I : (p : roadref2_DeepOf_k.Pt) → (Int) → Prop
  | .f y_0, r => ∀ (W : Nat → Prop) (h m : Heap) (cs_0 : List Value) (O : Hold W h m h m []) (e_0 : T_api_Expr.E m y_0 cs_0), Run Tryd.prog 17 #[Value.agg cs_0.toArray] h (roadref2_DeepOf.post W h m r)
  | .l0 y_1 x_3 a_9 x_10 x_11, r => ∀ (W : Nat → Prop) (h0 m0 h m : Heap) (bk_1 : Nat) (cs_1 : List Value) (A_9 : Option Addr) (n_9 c_9 : Nat) (O : Hold W h0 m0 h m [rV bk_1 40 cs_1]) (e_1 : T_api_Expr.E m y_1 cs_1) (ne_9 : n_9 = List.length a_9) (k_9 : List.length a_9 ≤ c_9) (r_9 : Rd 8 T_api_Expr.E m A_9 a_9), f17.l0 (roadref2_DeepOf.post W h0 m0 r) (⟨bk_1, 0, none⟩ : Addr) x_3 A_9 n_9 c_9 x_10 x_11 h
  | .l1 x_3 a_22 x_23 x_24, r => ∀ (W : Nat → Prop) (h0 m0 h m : Heap) (A_22 : Option Addr) (n_22 c_22 : Nat) (O : Hold W h0 m0 h m []) (ne_22 : n_22 = List.length a_22) (k_22 : List.length a_22 ≤ c_22) (r_22 : Rd 12 T_api_Arm.E m A_22 a_22), f17.l1 (roadref2_DeepOf.post W h0 m0 r) x_3 A_22 n_22 c_22 x_23 x_24 h
set_option maxRecDepth 100000 in
theorem roadref2_DeepOf_k.step_f (go : (p : roadref2_DeepOf_k.Pt) → Option (Int)) (ih : ∀ p r, go p = some r → roadref2_DeepOf_k.I p r) (y_0 : T_api_Expr) (r : Int) (e : roadref2_DeepOf_k.body go (.f y_0) = some r) : roadref2_DeepOf_k.I (.f y_0) r := by
  unfold roadref2_DeepOf_k.body at e
  intro W h m cs_0 O e_0
  refine f17.run ?_
  unfold f17.runT
  refine O.new fun h1 x2 O3 => ?_
  obtain ⟨A5, c6, q7, k8, r9⟩ := T_api_Expr.g5 e_0
  refine ⟨_, ldk (k := 5) (Sub.refl _) (O3.all 0 rfl) q7, _, _, _, rfl, ?_⟩
  have O10 := O3.nm
  exact (ih _ _ e) _ _ _ _ _ _ _ _ _ _ (O10.pick [0]).nm e_0 rfl k8 r9
set_option maxRecDepth 100000 in
theorem roadref2_DeepOf_k.step_l0 (go : (p : roadref2_DeepOf_k.Pt) → Option (Int)) (ih : ∀ p r, go p = some r → roadref2_DeepOf_k.I p r) (y_1 : T_api_Expr) (x_3 : Int) (a_9 : List T_api_Expr) (x_10 : Int) (x_11 : Int) (r : Int) (e : roadref2_DeepOf_k.body go (.l0 y_1 x_3 a_9 x_10 x_11) = some r) : roadref2_DeepOf_k.I (.l0 y_1 x_3 a_9 x_10 x_11) r := by
  unfold roadref2_DeepOf_k.body at e
  intro W h0 m0 h m bk_1 cs_1 A_9 n_9 c_9 O e_1 ne_9 k_9 r_9
  subst ne_9
  refine f17.l0_in ?_
  unfold f17.l0T
  refine split_dec_e e (fun c26 e => ?_) (fun c26 e => ?_)
  · obtain ⟨y1, g2, e⟩ := bind_e e
    refine r_9.addr rfl g2 fun a3 cs4 ha5 hc6 he7 => ?_
    refine ⟨_, ldAn O.s hc6 rfl, ?_⟩
    refine O.new fun h8 x9 O10 => ?_
    refine ⟨_, rfl, (T_api_Expr.T.len _ _ _ he7), ?_⟩
    refine O10.stA 1 rfl (T_api_Expr.T.len _ _ _ he7) (T_api_Expr.T.flat _ _ _ he7) fun h12 O13 => ?_
    refine ⟨_, ldAn (Sub.refl _) (O13.all 1 rfl) (T_api_Expr.T.len _ _ _ he7), ?_⟩
    obtain ⟨y14, g15, e⟩ := bind_e e
    refine ((ih _ _ g15) _ _ _ _ (Hold.start (W := No) O13.s) he7).mono ?_
    rintro _ h16 ⟨m17, Q18, rfl⟩
    have O20 := Hold.nm (O13.retC Q18 vfs_nil)
    refine ⟨_, rfl, ?_⟩
    exact (ih _ _ e) _ _ _ _ _ _ _ _ _ _ (O20.pick [0]).nm e_1 rfl k_9 r_9
  · obtain ⟨A21, c22, q23, k24, r25⟩ := T_api_Expr.g6 e_1
    refine ⟨_, ldk (k := 6) (Sub.refl _) (O.all 0 rfl) q23, _, _, _, rfl, ?_⟩
    exact (ih _ _ e) _ _ _ _ _ _ _ _ (O.pick []).nm rfl k24 r25
set_option maxRecDepth 100000 in
theorem roadref2_DeepOf_k.step_l1 (go : (p : roadref2_DeepOf_k.Pt) → Option (Int)) (ih : ∀ p r, go p = some r → roadref2_DeepOf_k.I p r) (x_3 : Int) (a_22 : List T_api_Arm) (x_23 : Int) (x_24 : Int) (r : Int) (e : roadref2_DeepOf_k.body go (.l1 x_3 a_22 x_23 x_24) = some r) : roadref2_DeepOf_k.I (.l1 x_3 a_22 x_23 x_24) r := by
  unfold roadref2_DeepOf_k.body at e
  intro W h0 m0 h m A_22 n_22 c_22 O ne_22 k_22 r_22
  subst ne_22
  refine f17.l1_in ?_
  unfold f17.l1T
  refine split_dec_e e (fun c28 e => ?_) (fun c28 e => ?_)
  · obtain ⟨y1, g2, e⟩ := bind_e e
    refine r_22.addr rfl g2 fun a3 cs4 ha5 hc6 he7 => ?_
    refine ⟨_, ldAn O.s hc6 rfl, ?_⟩
    refine O.new fun h8 x9 O10 => ?_
    refine ⟨_, rfl, (T_api_Arm.T.len _ _ _ he7), ?_⟩
    refine O10.stA 0 rfl (T_api_Arm.T.len _ _ _ he7) (T_api_Arm.T.flat _ _ _ he7) fun h12 O13 => ?_
    refine ⟨_, ldAkn (Sub.refl _) (O13.all 0 rfl) 4 8 (le_len (T_api_Arm.T.len _ _ _ he7) (by decide)), ?_⟩
    refine ⟨_, ldA0n (Sub.refl _) (O13.all 0 rfl) 4 (le_len (T_api_Arm.T.len _ _ _ he7) (by decide)), ?_⟩
    obtain ⟨y14, g15, e⟩ := bind_e e
    refine ((ih _ _ g15) _ _ _ _ (Hold.start (W := No) O13.s) (T_api_Arm.u4_40 he7)).mono ?_
    rintro _ h16 ⟨m17, Q18, rfl⟩
    have O20 := Hold.nm (O13.retC Q18 vfs_nil)
    refine ⟨_, rfl, ?_⟩
    refine ⟨Q18.S.ext, ?_⟩
    obtain ⟨y21, g22, e⟩ := bind_e e
    refine (roadref2_height.walk (Hold.start (W := No) O20.s) (T_api_Arm.u0_48 he7) g22).mono ?_
    rintro _ h23 ⟨m24, Q25, rfl⟩
    have O27 := Hold.nm (O20.retC Q25 vfs_nil)
    refine ⟨_, rfl, ?_⟩
    exact (ih _ _ e) _ _ _ _ _ _ _ _ (O27.pick []).nm rfl k_22 r_22
  · cases e
    exact ⟨_, O.pick [], rfl⟩
theorem roadref2_DeepOf_k.all {p : roadref2_DeepOf_k.Pt} {r : (Int)} (e : roadref2_DeepOf_k.go p = some r) : roadref2_DeepOf_k.I p r := fixF_ind (β := fun _ => (Int)) roadref2_DeepOf_k.mono (I := roadref2_DeepOf_k.I) (fun go ih p r e => match p with
  | .f y_0 => roadref2_DeepOf_k.step_f go ih y_0 r e
  | .l0 y_1 x_3 a_9 x_10 x_11 => roadref2_DeepOf_k.step_l0 go ih y_1 x_3 a_9 x_10 x_11 r e
  | .l1 x_3 a_22 x_23 x_24 => roadref2_DeepOf_k.step_l1 go ih x_3 a_22 x_23 x_24 r e
  ) e
theorem roadref2_DeepOf.walk {W : Nat → Prop} {h m : Heap} {cs_0 : List Value} {y_0 : T_api_Expr} (O : Hold W h m h m []) (e_0 : T_api_Expr.E m y_0 cs_0) {r : Int} (e : roadref2_DeepOf y_0 = some r) : Run Tryd.prog 17 #[Value.agg cs_0.toArray] h (roadref2_DeepOf.post W h m r) := roadref2_DeepOf_k.all (p := .f y_0) e W h m cs_0 O e_0
def tree_Needs.post (W : Nat → Prop) (h0 m0 : Heap) (r : Int) (v : Value) (h : Heap) : Prop := ∃ m , Hold W h0 m0 h m [] ∧ v = .int .i64 r
noncomputable def tree_Needs.j3 (y_1 : T_api_Expr) (b_38 : Bool) : Option (Int) :=
  if b_38 = true then (some ((((List.length y_1.Args) : Nat) : Int))) else (some ((-1 : Int)))
set_option maxRecDepth 100000 in
theorem tree_Needs.j3.walk {W : Nat → Prop} {h0 m0 h m : Heap} {bk_1 : Nat} {cs_1 : List Value} {y_1 : T_api_Expr} {b_38 : Bool} (O : Hold W h0 m0 h m [rV bk_1 40 cs_1]) (e_1 : T_api_Expr.E m y_1 cs_1) {r : Int} (e : tree_Needs.j3 y_1 b_38 = some r) : f18.j3 (tree_Needs.post W h0 m0 r) (⟨bk_1, 0, none⟩ : Addr) b_38 h := by
  unfold tree_Needs.j3 at e
  refine f18.j3_in ?_
  unfold f18.j3T
  refine split_any_e e (fun c6 e => ?_) (fun c6 e => ?_)
  · obtain ⟨A1, c2, q3, k4, r5⟩ := T_api_Expr.g5 e_1
    refine ⟨_, ldk (k := 5) (Sub.refl _) (O.all 0 rfl) q3, _, _, _, rfl, ?_⟩
    cases e
    exact ⟨_, O.pick [], rfl⟩
  · cases e
    exact ⟨_, O.pick [], rfl⟩
noncomputable def tree_Needs.j2 (y_1 : T_api_Expr) (x_4 : Int) (b_18 : Bool) : Option (Int) :=
  if b_18 = true then (some ((1 : Int))) else (if x_4 = (18 : Int) then (if y_1.Num ≥ (0 : Int) then (some ((1 : Int))) else (some ((0 : Int)))) else (if x_4 = (11 : Int) then (some ((if (((List.length y_1.Args) : Nat) : Int) > (1 : Int) then (((List.length y_1.Args) : Nat) : Int) else (1 : Int)))) else (if x_4 = (8 : Int) then ((tree_Needs.j3 y_1 (x_4 == (8 : Int)))) else (if x_4 = (9 : Int) then ((tree_Needs.j3 y_1 (x_4 == (9 : Int)))) else (if x_4 = (12 : Int) then ((tree_Needs.j3 y_1 (x_4 == (12 : Int)))) else (if x_4 = (14 : Int) then ((tree_Needs.j3 y_1 (x_4 == (14 : Int)))) else ((tree_Needs.j3 y_1 (x_4 == (17 : Int))))))))))
set_option maxRecDepth 100000 in
theorem tree_Needs.j2.walk {W : Nat → Prop} {h0 m0 h m : Heap} {bk_1 : Nat} {cs_1 : List Value} {y_1 : T_api_Expr} {x_4 : Int} {b_18 : Bool} (O : Hold W h0 m0 h m [rV bk_1 40 cs_1]) (e_1 : T_api_Expr.E m y_1 cs_1) {r : Int} (e : tree_Needs.j2 y_1 x_4 b_18 = some r) : f18.j2 (tree_Needs.post W h0 m0 r) (⟨bk_1, 0, none⟩ : Addr) x_4 b_18 h := by
  unfold tree_Needs.j2 at e
  refine f18.j2_in ?_
  unfold f18.j2T
  refine split_any_e e (fun c13 e => ?_) (fun c13 e => ?_)
  · cases e
    exact ⟨_, O.pick [], rfl⟩
  · refine split_eq_e e (fun c12 e => ?_) (fun c12 e => ?_)
    · refine ⟨_, ldk (k := 1) (Sub.refl _) (O.all 0 rfl) (T_api_Expr.g1 e_1), _, rfl, ?_⟩
      refine split_dec_e e (fun c1 e => ?_) (fun c1 e => ?_)
      · cases e
        exact ⟨_, O.pick [], rfl⟩
      · cases e
        exact ⟨_, O.pick [], rfl⟩
    · refine split_eq_e e (fun c11 e => ?_) (fun c11 e => ?_)
      · obtain ⟨A2, c3, q4, k5, r6⟩ := T_api_Expr.g5 e_1
        refine ⟨_, ldk (k := 5) (Sub.refl _) (O.all 0 rfl) q4, _, _, _, rfl, ?_⟩
        cases e
        exact ⟨_, O.pick [], rfl⟩
      · refine split_eq_e e (fun c10 e => ?_) (fun c10 e => ?_)
        · exact tree_Needs.j3.walk (O.pick [0]).nm e_1 e
        · refine split_eq_e e (fun c9 e => ?_) (fun c9 e => ?_)
          · exact tree_Needs.j3.walk (O.pick [0]).nm e_1 e
          · refine split_eq_e e (fun c8 e => ?_) (fun c8 e => ?_)
            · exact tree_Needs.j3.walk (O.pick [0]).nm e_1 e
            · refine split_eq_e e (fun c7 e => ?_) (fun c7 e => ?_)
              · exact tree_Needs.j3.walk (O.pick [0]).nm e_1 e
              · exact tree_Needs.j3.walk (O.pick [0]).nm e_1 e
noncomputable def tree_Needs.j1 (y_1 : T_api_Expr) (x_4 : Int) (b_12 : Bool) : Option (Int) :=
  if b_12 = true then (some ((2 : Int))) else (if x_4 = (7 : Int) then (some ((3 : Int))) else (if x_4 = (10 : Int) then ((tree_Needs.j2 y_1 x_4 (x_4 == (10 : Int)))) else (if x_4 = (13 : Int) then ((tree_Needs.j2 y_1 x_4 (x_4 == (13 : Int)))) else (if x_4 = (19 : Int) then ((tree_Needs.j2 y_1 x_4 (x_4 == (19 : Int)))) else (if x_4 = (20 : Int) then ((tree_Needs.j2 y_1 x_4 (x_4 == (20 : Int)))) else (if x_4 = (21 : Int) then ((tree_Needs.j2 y_1 x_4 (x_4 == (21 : Int)))) else (if x_4 = (22 : Int) then ((tree_Needs.j2 y_1 x_4 (x_4 == (22 : Int)))) else (if x_4 = (24 : Int) then ((tree_Needs.j2 y_1 x_4 (x_4 == (24 : Int)))) else ((tree_Needs.j2 y_1 x_4 (x_4 == (25 : Int))))))))))))
set_option maxRecDepth 100000 in
theorem tree_Needs.j1.walk {W : Nat → Prop} {h0 m0 h m : Heap} {bk_1 : Nat} {cs_1 : List Value} {y_1 : T_api_Expr} {x_4 : Int} {b_12 : Bool} (O : Hold W h0 m0 h m [rV bk_1 40 cs_1]) (e_1 : T_api_Expr.E m y_1 cs_1) {r : Int} (e : tree_Needs.j1 y_1 x_4 b_12 = some r) : f18.j1 (tree_Needs.post W h0 m0 r) (⟨bk_1, 0, none⟩ : Addr) x_4 b_12 h := by
  unfold tree_Needs.j1 at e
  refine f18.j1_in ?_
  unfold f18.j1T
  refine split_any_e e (fun c9 e => ?_) (fun c9 e => ?_)
  · cases e
    exact ⟨_, O.pick [], rfl⟩
  · refine split_eq_e e (fun c8 e => ?_) (fun c8 e => ?_)
    · cases e
      exact ⟨_, O.pick [], rfl⟩
    · refine split_eq_e e (fun c7 e => ?_) (fun c7 e => ?_)
      · exact tree_Needs.j2.walk (O.pick [0]).nm e_1 e
      · refine split_eq_e e (fun c6 e => ?_) (fun c6 e => ?_)
        · exact tree_Needs.j2.walk (O.pick [0]).nm e_1 e
        · refine split_eq_e e (fun c5 e => ?_) (fun c5 e => ?_)
          · exact tree_Needs.j2.walk (O.pick [0]).nm e_1 e
          · refine split_eq_e e (fun c4 e => ?_) (fun c4 e => ?_)
            · exact tree_Needs.j2.walk (O.pick [0]).nm e_1 e
            · refine split_eq_e e (fun c3 e => ?_) (fun c3 e => ?_)
              · exact tree_Needs.j2.walk (O.pick [0]).nm e_1 e
              · refine split_eq_e e (fun c2 e => ?_) (fun c2 e => ?_)
                · exact tree_Needs.j2.walk (O.pick [0]).nm e_1 e
                · refine split_eq_e e (fun c1 e => ?_) (fun c1 e => ?_)
                  · exact tree_Needs.j2.walk (O.pick [0]).nm e_1 e
                  · exact tree_Needs.j2.walk (O.pick [0]).nm e_1 e
noncomputable def tree_Needs.j0 (y_1 : T_api_Expr) (x_4 : Int) (b_5 : Bool) : Option (Int) :=
  if b_5 = true then (some ((0 : Int))) else (if x_4 = (6 : Int) then ((tree_Needs.j1 y_1 x_4 (x_4 == (6 : Int)))) else (if x_4 = (15 : Int) then ((tree_Needs.j1 y_1 x_4 (x_4 == (15 : Int)))) else ((tree_Needs.j1 y_1 x_4 (x_4 == (23 : Int))))))
set_option maxRecDepth 100000 in
theorem tree_Needs.j0.walk {W : Nat → Prop} {h0 m0 h m : Heap} {bk_1 : Nat} {cs_1 : List Value} {y_1 : T_api_Expr} {x_4 : Int} {b_5 : Bool} (O : Hold W h0 m0 h m [rV bk_1 40 cs_1]) (e_1 : T_api_Expr.E m y_1 cs_1) {r : Int} (e : tree_Needs.j0 y_1 x_4 b_5 = some r) : f18.j0 (tree_Needs.post W h0 m0 r) (⟨bk_1, 0, none⟩ : Addr) x_4 b_5 h := by
  unfold tree_Needs.j0 at e
  refine f18.j0_in ?_
  unfold f18.j0T
  refine split_any_e e (fun c3 e => ?_) (fun c3 e => ?_)
  · cases e
    exact ⟨_, O.pick [], rfl⟩
  · refine split_eq_e e (fun c2 e => ?_) (fun c2 e => ?_)
    · exact tree_Needs.j1.walk (O.pick [0]).nm e_1 e
    · refine split_eq_e e (fun c1 e => ?_) (fun c1 e => ?_)
      · exact tree_Needs.j1.walk (O.pick [0]).nm e_1 e
      · exact tree_Needs.j1.walk (O.pick [0]).nm e_1 e
noncomputable def tree_Needs (y_0 : T_api_Expr) : Option (Int) :=
  if y_0.Kind = (1 : Int) then ((tree_Needs.j0 y_0 y_0.Kind (y_0.Kind == (1 : Int)))) else (if y_0.Kind = (2 : Int) then ((tree_Needs.j0 y_0 y_0.Kind (y_0.Kind == (2 : Int)))) else (if y_0.Kind = (3 : Int) then ((tree_Needs.j0 y_0 y_0.Kind (y_0.Kind == (3 : Int)))) else (if y_0.Kind = (4 : Int) then ((tree_Needs.j0 y_0 y_0.Kind (y_0.Kind == (4 : Int)))) else (if y_0.Kind = (5 : Int) then ((tree_Needs.j0 y_0 y_0.Kind (y_0.Kind == (5 : Int)))) else ((tree_Needs.j0 y_0 y_0.Kind (y_0.Kind == (16 : Int))))))))
set_option maxRecDepth 100000 in
theorem tree_Needs.walk {W : Nat → Prop} {h m : Heap} {cs_0 : List Value} {y_0 : T_api_Expr} (O : Hold W h m h m []) (e_0 : T_api_Expr.E m y_0 cs_0) {r : Int} (e : tree_Needs y_0 = some r) : Run Tryd.prog 18 #[Value.agg cs_0.toArray] h (tree_Needs.post W h m r) := by
  unfold tree_Needs at e
  refine f18.run ?_
  unfold f18.runT
  refine O.new fun h1 x2 O3 => ?_
  refine ⟨_, ld0 (Sub.refl _) (O3.all 0 rfl) (T_api_Expr.g0 e_0), _, rfl, ?_⟩
  refine split_eq_e e (fun c15 e => ?_) (fun c15 e => ?_)
  · have O5 := O3.nm
    exact tree_Needs.j0.walk (O5.pick [0]).nm e_0 e
  · refine split_eq_e e (fun c14 e => ?_) (fun c14 e => ?_)
    · have O6 := O3.nm
      exact tree_Needs.j0.walk (O6.pick [0]).nm e_0 e
    · refine split_eq_e e (fun c13 e => ?_) (fun c13 e => ?_)
      · have O7 := O3.nm
        exact tree_Needs.j0.walk (O7.pick [0]).nm e_0 e
      · refine split_eq_e e (fun c12 e => ?_) (fun c12 e => ?_)
        · have O8 := O3.nm
          exact tree_Needs.j0.walk (O8.pick [0]).nm e_0 e
        · refine split_eq_e e (fun c11 e => ?_) (fun c11 e => ?_)
          · have O9 := O3.nm
            exact tree_Needs.j0.walk (O9.pick [0]).nm e_0 e
          · have O10 := O3.nm
            exact tree_Needs.j0.walk (O10.pick [0]).nm e_0 e
def roadref2_NeedsOf.post (W : Nat → Prop) (h0 m0 : Heap) (r : Int) (v : Value) (h : Heap) : Prop := ∃ m , Hold W h0 m0 h m [] ∧ v = .int .i64 r
noncomputable def roadref2_NeedsOf.j3 (y_1 : T_api_Expr) (x_4 : Int) (b_32 : Bool) : Option (Int) :=
  if b_32 = true then (some ((((List.length y_1.Args) : Nat) : Int))) else (if x_4 = (11 : Int) then (some ((if (((List.length y_1.Args) : Nat) : Int) > (1 : Int) then (((List.length y_1.Args) : Nat) : Int) else (1 : Int)))) else (some ((-1 : Int))))
set_option maxRecDepth 100000 in
theorem roadref2_NeedsOf.j3.walk {W : Nat → Prop} {h0 m0 h m : Heap} {bk_1 : Nat} {cs_1 : List Value} {y_1 : T_api_Expr} {x_4 : Int} {b_32 : Bool} (O : Hold W h0 m0 h m [rV bk_1 40 cs_1]) (e_1 : T_api_Expr.E m y_1 cs_1) {r : Int} (e : roadref2_NeedsOf.j3 y_1 x_4 b_32 = some r) : f19.j3 (roadref2_NeedsOf.post W h0 m0 r) (⟨bk_1, 0, none⟩ : Addr) x_4 b_32 h := by
  unfold roadref2_NeedsOf.j3 at e
  refine f19.j3_in ?_
  unfold f19.j3T
  refine split_any_e e (fun c12 e => ?_) (fun c12 e => ?_)
  · obtain ⟨A1, c2, q3, k4, r5⟩ := T_api_Expr.g5 e_1
    refine ⟨_, ldk (k := 5) (Sub.refl _) (O.all 0 rfl) q3, _, _, _, rfl, ?_⟩
    cases e
    exact ⟨_, O.pick [], rfl⟩
  · refine split_eq_e e (fun c11 e => ?_) (fun c11 e => ?_)
    · obtain ⟨A6, c7, q8, k9, r10⟩ := T_api_Expr.g5 e_1
      refine ⟨_, ldk (k := 5) (Sub.refl _) (O.all 0 rfl) q8, _, _, _, rfl, ?_⟩
      cases e
      exact ⟨_, O.pick [], rfl⟩
    · cases e
      exact ⟨_, O.pick [], rfl⟩
noncomputable def roadref2_NeedsOf.j2 (y_1 : T_api_Expr) (x_4 : Int) (b_21 : Bool) : Option (Int) :=
  if b_21 = true then (some ((2 : Int))) else (if x_4 = (7 : Int) then (some ((3 : Int))) else (if x_4 = (18 : Int) then (if y_1.Num < (0 : Int) then (some ((0 : Int))) else (some ((1 : Int)))) else (if x_4 = (8 : Int) then ((roadref2_NeedsOf.j3 y_1 x_4 (x_4 == (8 : Int)))) else (if x_4 = (9 : Int) then ((roadref2_NeedsOf.j3 y_1 x_4 (x_4 == (9 : Int)))) else (if x_4 = (12 : Int) then ((roadref2_NeedsOf.j3 y_1 x_4 (x_4 == (12 : Int)))) else (if x_4 = (14 : Int) then ((roadref2_NeedsOf.j3 y_1 x_4 (x_4 == (14 : Int)))) else ((roadref2_NeedsOf.j3 y_1 x_4 (x_4 == (17 : Int))))))))))
set_option maxRecDepth 100000 in
theorem roadref2_NeedsOf.j2.walk {W : Nat → Prop} {h0 m0 h m : Heap} {bk_1 : Nat} {cs_1 : List Value} {y_1 : T_api_Expr} {x_4 : Int} {b_21 : Bool} (O : Hold W h0 m0 h m [rV bk_1 40 cs_1]) (e_1 : T_api_Expr.E m y_1 cs_1) {r : Int} (e : roadref2_NeedsOf.j2 y_1 x_4 b_21 = some r) : f19.j2 (roadref2_NeedsOf.post W h0 m0 r) (⟨bk_1, 0, none⟩ : Addr) x_4 b_21 h := by
  unfold roadref2_NeedsOf.j2 at e
  refine f19.j2_in ?_
  unfold f19.j2T
  refine split_any_e e (fun c8 e => ?_) (fun c8 e => ?_)
  · cases e
    exact ⟨_, O.pick [], rfl⟩
  · refine split_eq_e e (fun c7 e => ?_) (fun c7 e => ?_)
    · cases e
      exact ⟨_, O.pick [], rfl⟩
    · refine split_eq_e e (fun c6 e => ?_) (fun c6 e => ?_)
      · refine ⟨_, ldk (k := 1) (Sub.refl _) (O.all 0 rfl) (T_api_Expr.g1 e_1), _, rfl, ?_⟩
        refine split_dec_e e (fun c1 e => ?_) (fun c1 e => ?_)
        · cases e
          exact ⟨_, O.pick [], rfl⟩
        · cases e
          exact ⟨_, O.pick [], rfl⟩
      · refine split_eq_e e (fun c5 e => ?_) (fun c5 e => ?_)
        · exact roadref2_NeedsOf.j3.walk (O.pick [0]).nm e_1 e
        · refine split_eq_e e (fun c4 e => ?_) (fun c4 e => ?_)
          · exact roadref2_NeedsOf.j3.walk (O.pick [0]).nm e_1 e
          · refine split_eq_e e (fun c3 e => ?_) (fun c3 e => ?_)
            · exact roadref2_NeedsOf.j3.walk (O.pick [0]).nm e_1 e
            · refine split_eq_e e (fun c2 e => ?_) (fun c2 e => ?_)
              · exact roadref2_NeedsOf.j3.walk (O.pick [0]).nm e_1 e
              · exact roadref2_NeedsOf.j3.walk (O.pick [0]).nm e_1 e
noncomputable def roadref2_NeedsOf.j1 (y_1 : T_api_Expr) (x_4 : Int) (b_12 : Bool) : Option (Int) :=
  if b_12 = true then (some ((1 : Int))) else (if x_4 = (6 : Int) then ((roadref2_NeedsOf.j2 y_1 x_4 (x_4 == (6 : Int)))) else (if x_4 = (15 : Int) then ((roadref2_NeedsOf.j2 y_1 x_4 (x_4 == (15 : Int)))) else ((roadref2_NeedsOf.j2 y_1 x_4 (x_4 == (23 : Int))))))
set_option maxRecDepth 100000 in
theorem roadref2_NeedsOf.j1.walk {W : Nat → Prop} {h0 m0 h m : Heap} {bk_1 : Nat} {cs_1 : List Value} {y_1 : T_api_Expr} {x_4 : Int} {b_12 : Bool} (O : Hold W h0 m0 h m [rV bk_1 40 cs_1]) (e_1 : T_api_Expr.E m y_1 cs_1) {r : Int} (e : roadref2_NeedsOf.j1 y_1 x_4 b_12 = some r) : f19.j1 (roadref2_NeedsOf.post W h0 m0 r) (⟨bk_1, 0, none⟩ : Addr) x_4 b_12 h := by
  unfold roadref2_NeedsOf.j1 at e
  refine f19.j1_in ?_
  unfold f19.j1T
  refine split_any_e e (fun c3 e => ?_) (fun c3 e => ?_)
  · cases e
    exact ⟨_, O.pick [], rfl⟩
  · refine split_eq_e e (fun c2 e => ?_) (fun c2 e => ?_)
    · exact roadref2_NeedsOf.j2.walk (O.pick [0]).nm e_1 e
    · refine split_eq_e e (fun c1 e => ?_) (fun c1 e => ?_)
      · exact roadref2_NeedsOf.j2.walk (O.pick [0]).nm e_1 e
      · exact roadref2_NeedsOf.j2.walk (O.pick [0]).nm e_1 e
noncomputable def roadref2_NeedsOf.j0 (y_1 : T_api_Expr) (x_4 : Int) (b_5 : Bool) : Option (Int) :=
  if b_5 = true then (some ((0 : Int))) else (if x_4 = (10 : Int) then ((roadref2_NeedsOf.j1 y_1 x_4 (x_4 == (10 : Int)))) else (if x_4 = (13 : Int) then ((roadref2_NeedsOf.j1 y_1 x_4 (x_4 == (13 : Int)))) else (if x_4 = (19 : Int) then ((roadref2_NeedsOf.j1 y_1 x_4 (x_4 == (19 : Int)))) else (if x_4 = (20 : Int) then ((roadref2_NeedsOf.j1 y_1 x_4 (x_4 == (20 : Int)))) else (if x_4 = (21 : Int) then ((roadref2_NeedsOf.j1 y_1 x_4 (x_4 == (21 : Int)))) else (if x_4 = (22 : Int) then ((roadref2_NeedsOf.j1 y_1 x_4 (x_4 == (22 : Int)))) else (if x_4 = (24 : Int) then ((roadref2_NeedsOf.j1 y_1 x_4 (x_4 == (24 : Int)))) else ((roadref2_NeedsOf.j1 y_1 x_4 (x_4 == (25 : Int)))))))))))
set_option maxRecDepth 100000 in
theorem roadref2_NeedsOf.j0.walk {W : Nat → Prop} {h0 m0 h m : Heap} {bk_1 : Nat} {cs_1 : List Value} {y_1 : T_api_Expr} {x_4 : Int} {b_5 : Bool} (O : Hold W h0 m0 h m [rV bk_1 40 cs_1]) (e_1 : T_api_Expr.E m y_1 cs_1) {r : Int} (e : roadref2_NeedsOf.j0 y_1 x_4 b_5 = some r) : f19.j0 (roadref2_NeedsOf.post W h0 m0 r) (⟨bk_1, 0, none⟩ : Addr) x_4 b_5 h := by
  unfold roadref2_NeedsOf.j0 at e
  refine f19.j0_in ?_
  unfold f19.j0T
  refine split_any_e e (fun c8 e => ?_) (fun c8 e => ?_)
  · cases e
    exact ⟨_, O.pick [], rfl⟩
  · refine split_eq_e e (fun c7 e => ?_) (fun c7 e => ?_)
    · exact roadref2_NeedsOf.j1.walk (O.pick [0]).nm e_1 e
    · refine split_eq_e e (fun c6 e => ?_) (fun c6 e => ?_)
      · exact roadref2_NeedsOf.j1.walk (O.pick [0]).nm e_1 e
      · refine split_eq_e e (fun c5 e => ?_) (fun c5 e => ?_)
        · exact roadref2_NeedsOf.j1.walk (O.pick [0]).nm e_1 e
        · refine split_eq_e e (fun c4 e => ?_) (fun c4 e => ?_)
          · exact roadref2_NeedsOf.j1.walk (O.pick [0]).nm e_1 e
          · refine split_eq_e e (fun c3 e => ?_) (fun c3 e => ?_)
            · exact roadref2_NeedsOf.j1.walk (O.pick [0]).nm e_1 e
            · refine split_eq_e e (fun c2 e => ?_) (fun c2 e => ?_)
              · exact roadref2_NeedsOf.j1.walk (O.pick [0]).nm e_1 e
              · refine split_eq_e e (fun c1 e => ?_) (fun c1 e => ?_)
                · exact roadref2_NeedsOf.j1.walk (O.pick [0]).nm e_1 e
                · exact roadref2_NeedsOf.j1.walk (O.pick [0]).nm e_1 e
noncomputable def roadref2_NeedsOf (y_0 : T_api_Expr) : Option (Int) :=
  if y_0.Kind = (1 : Int) then ((roadref2_NeedsOf.j0 y_0 y_0.Kind (y_0.Kind == (1 : Int)))) else (if y_0.Kind = (2 : Int) then ((roadref2_NeedsOf.j0 y_0 y_0.Kind (y_0.Kind == (2 : Int)))) else (if y_0.Kind = (3 : Int) then ((roadref2_NeedsOf.j0 y_0 y_0.Kind (y_0.Kind == (3 : Int)))) else (if y_0.Kind = (4 : Int) then ((roadref2_NeedsOf.j0 y_0 y_0.Kind (y_0.Kind == (4 : Int)))) else (if y_0.Kind = (5 : Int) then ((roadref2_NeedsOf.j0 y_0 y_0.Kind (y_0.Kind == (5 : Int)))) else ((roadref2_NeedsOf.j0 y_0 y_0.Kind (y_0.Kind == (16 : Int))))))))
set_option maxRecDepth 100000 in
theorem roadref2_NeedsOf.walk {W : Nat → Prop} {h m : Heap} {cs_0 : List Value} {y_0 : T_api_Expr} (O : Hold W h m h m []) (e_0 : T_api_Expr.E m y_0 cs_0) {r : Int} (e : roadref2_NeedsOf y_0 = some r) : Run Tryd.prog 19 #[Value.agg cs_0.toArray] h (roadref2_NeedsOf.post W h m r) := by
  unfold roadref2_NeedsOf at e
  refine f19.run ?_
  unfold f19.runT
  refine O.new fun h1 x2 O3 => ?_
  refine ⟨_, ld0 (Sub.refl _) (O3.all 0 rfl) (T_api_Expr.g0 e_0), _, rfl, ?_⟩
  refine split_eq_e e (fun c15 e => ?_) (fun c15 e => ?_)
  · have O5 := O3.nm
    exact roadref2_NeedsOf.j0.walk (O5.pick [0]).nm e_0 e
  · refine split_eq_e e (fun c14 e => ?_) (fun c14 e => ?_)
    · have O6 := O3.nm
      exact roadref2_NeedsOf.j0.walk (O6.pick [0]).nm e_0 e
    · refine split_eq_e e (fun c13 e => ?_) (fun c13 e => ?_)
      · have O7 := O3.nm
        exact roadref2_NeedsOf.j0.walk (O7.pick [0]).nm e_0 e
      · refine split_eq_e e (fun c12 e => ?_) (fun c12 e => ?_)
        · have O8 := O3.nm
          exact roadref2_NeedsOf.j0.walk (O8.pick [0]).nm e_0 e
        · refine split_eq_e e (fun c11 e => ?_) (fun c11 e => ?_)
          · have O9 := O3.nm
            exact roadref2_NeedsOf.j0.walk (O9.pick [0]).nm e_0 e
          · have O10 := O3.nm
            exact roadref2_NeedsOf.j0.walk (O10.pick [0]).nm e_0 e
def tree_Bound.post (W : Nat → Prop) (h0 m0 : Heap) (r : (List ByteArray)) (v : Value) (h : Heap) : Prop := ∃ m A0 n0 c0, Hold W h0 m0 h m [rR (aE tell_str) A0 c0 r] ∧ v = .slice A0 n0 c0 ∧ n0 = List.length r
inductive tree_Bound_k.Pt where
  | f (y_0 : T_api_Pat)
  | l0 (a_3 : List ByteArray) (a_16 : List T_api_Pat) (x_17 : Int) (x_18 : Int)
noncomputable def tree_Bound_k.body (go : (p : tree_Bound_k.Pt) → Option ((List ByteArray))) : (p : tree_Bound_k.Pt) → Option ((List ByteArray))
  | .f y_0 => if y_0.Kind = (2 : Int) then (some (([y_0.Text] : List ByteArray))) else (if y_0.Kind = (6 : Int) then ((go (.l0 ([] : List ByteArray) y_0.Args (((List.length y_0.Args) : Nat) : Int) (0 : Int)))) else (some (([] : List ByteArray))))
  | .l0 a_3 a_16 x_17 x_18 => if x_18 < x_17 then (Option.bind (gi a_16 x_18) fun y1 => Option.bind ((go (.f y1))) fun y14 => Option.bind (ap 16 a_3 y14) fun l26 => (go (.l0 l26 a_16 x_17 (IntKind.wrap .i64 (x_18 + (1 : Int)))))) else (some (a_3))
theorem tree_Bound_k.mono : MonoF (β := fun _ => ((List ByteArray))) tree_Bound_k.body := fun f g hfg p => match p with
  | .f y_0 => LeO.ite (LeO.refl _) (LeO.ite ((hfg _)) (LeO.refl _))
  | .l0 a_3 a_16 x_17 x_18 => LeO.ite (LeO.bind (LeO.refl _) fun y1 => LeO.bind ((hfg _)) fun y14 => LeO.bind (LeO.refl _) fun l26 => (hfg _)) (LeO.refl _)
noncomputable def tree_Bound_k.go (p : tree_Bound_k.Pt) : Option ((List ByteArray)) := fixF (β := fun _ => ((List ByteArray))) tree_Bound_k.body p
noncomputable def tree_Bound (y_0 : T_api_Pat) : Option ((List ByteArray)) := tree_Bound_k.go (.f y_0)
noncomputable def tree_Bound.l0 (a_3 : List ByteArray) (a_16 : List T_api_Pat) (x_17 : Int) (x_18 : Int) : Option ((List ByteArray)) := tree_Bound_k.go (.l0 a_3 a_16 x_17 x_18)
theorem tree_Bound_eq (y_0 : T_api_Pat) : tree_Bound y_0 = if y_0.Kind = (2 : Int) then (some (([y_0.Text] : List ByteArray))) else (if y_0.Kind = (6 : Int) then ((tree_Bound.l0 ([] : List ByteArray) y_0.Args (((List.length y_0.Args) : Nat) : Int) (0 : Int))) else (some (([] : List ByteArray)))) := fixF_eq tree_Bound_k.mono _
theorem tree_Bound.l0_eq (a_3 : List ByteArray) (a_16 : List T_api_Pat) (x_17 : Int) (x_18 : Int) : tree_Bound.l0 a_3 a_16 x_17 x_18 = if x_18 < x_17 then (Option.bind (gi a_16 x_18) fun y1 => Option.bind ((tree_Bound y1)) fun y14 => Option.bind (ap 16 a_3 y14) fun l26 => (tree_Bound.l0 l26 a_16 x_17 (IntKind.wrap .i64 (x_18 + (1 : Int))))) else (some (a_3)) := fixF_eq tree_Bound_k.mono _
def tree_Bound_k.I : (p : tree_Bound_k.Pt) → ((List ByteArray)) → Prop
  | .f y_0, r => ∀ (W : Nat → Prop) (h m : Heap) (cs_0 : List Value) (O : Hold W h m h m []) (e_0 : T_api_Pat.E m y_0 cs_0), Run Tryd.prog 23 #[Value.agg cs_0.toArray] h (tree_Bound.post W h m r)
  | .l0 a_3 a_16 x_17 x_18, r => ∀ (W : Nat → Prop) (h0 m0 h m : Heap) (A_3 : Option Addr) (n_3 c_3 : Nat) (A_16 : Option Addr) (n_16 c_16 : Nat) (O : Hold W h0 m0 h m [rR (aE tell_str) A_3 c_3 a_3]) (ne_3 : n_3 = List.length a_3) (ne_16 : n_16 = List.length a_16) (k_16 : List.length a_16 ≤ c_16) (r_16 : Rd 4 T_api_Pat.E m A_16 a_16), f23.l0 (tree_Bound.post W h0 m0 r) A_3 n_3 c_3 A_16 n_16 c_16 x_17 x_18 h
set_option maxRecDepth 100000 in
theorem tree_Bound_k.step_f (go : (p : tree_Bound_k.Pt) → Option ((List ByteArray))) (ih : ∀ p r, go p = some r → tree_Bound_k.I p r) (y_0 : T_api_Pat) (r : (List ByteArray)) (e : tree_Bound_k.body go (.f y_0) = some r) : tree_Bound_k.I (.f y_0) r := by
  unfold tree_Bound_k.body at e
  intro W h m cs_0 O e_0
  refine f23.run ?_
  unfold f23.runT
  refine O.new fun h1 x2 O3 => ?_
  refine ⟨_, ld0 (Sub.refl _) (O3.all 0 rfl) (T_api_Pat.g0 e_0), _, rfl, ?_⟩
  refine split_eq_e e (fun c23 e => ?_) (fun c23 e => ?_)
  · refine ⟨_, ldk (k := 2) (Sub.refl _) (O3.all 0 rfl) (T_api_Pat.g2 e_0), _, rfl, ?_⟩
    refine O3.new fun h5 x6 O7 => ?_
    have O9 := O7.rowE (l := ([y_0.Text] : List ByteArray)) 1 rfl tell_str (show CsE _ _ _ _ _ from (CsE.cons (c1 := [(Value.string y_0.Text)]) rfl rfl CsE.nil)) rfl
    have O10 := O9.nm
    cases e
    exact ⟨_, _, _, _, O10.pick [1], rfl, rfl⟩
  · refine split_eq_e e (fun c22 e => ?_) (fun c22 e => ?_)
    · obtain ⟨A11, c12, q13, k14, r15⟩ := T_api_Pat.g3 e_0
      refine ⟨_, ldk (k := 3) (Sub.refl _) (O3.all 0 rfl) q13, _, _, _, rfl, ?_⟩
      have O16 := O3.nil (aE tell_str) none
      have O18 := O16.nm
      exact (ih _ _ e) _ _ _ _ _ _ _ _ _ _ _ (O18.pick [1]).nm rfl rfl k14 r15
    · have O19 := O3.nil (aE tell_str) none
      have O21 := O19.nm
      cases e
      exact ⟨_, _, _, _, O21.pick [1], rfl, rfl⟩
set_option maxRecDepth 100000 in
theorem tree_Bound_k.step_l0 (go : (p : tree_Bound_k.Pt) → Option ((List ByteArray))) (ih : ∀ p r, go p = some r → tree_Bound_k.I p r) (a_3 : List ByteArray) (a_16 : List T_api_Pat) (x_17 : Int) (x_18 : Int) (r : (List ByteArray)) (e : tree_Bound_k.body go (.l0 a_3 a_16 x_17 x_18) = some r) : tree_Bound_k.I (.l0 a_3 a_16 x_17 x_18) r := by
  unfold tree_Bound_k.body at e
  intro W h0 m0 h m A_3 n_3 c_3 A_16 n_16 c_16 O ne_3 ne_16 k_16 r_16
  subst ne_3
  subst ne_16
  refine f23.l0_in ?_
  unfold f23.l0T
  refine split_dec_e e (fun c35 e => ?_) (fun c35 e => ?_)
  · obtain ⟨y1, g2, e⟩ := bind_e e
    refine r_16.addr rfl g2 fun a3 cs4 ha5 hc6 he7 => ?_
    refine ⟨_, ldAn O.s hc6 rfl, ?_⟩
    refine O.new fun h8 x9 O10 => ?_
    refine ⟨_, rfl, (T_api_Pat.T.len _ _ _ he7), ?_⟩
    refine O10.stA 1 rfl (T_api_Pat.T.len _ _ _ he7) (T_api_Pat.T.flat _ _ _ he7) fun h12 O13 => ?_
    refine ⟨_, ldAn (Sub.refl _) (O13.all 1 rfl) (T_api_Pat.T.len _ _ _ he7), ?_⟩
    obtain ⟨y14, g15, e⟩ := bind_e e
    refine ((ih _ _ g15) _ _ _ _ (Hold.start (W := No) O13.s) he7).mono ?_
    rintro _ h16 ⟨m17, A20, n21, c22, Q18, rfl, ne23⟩
    have O25 := Hold.nm (O13.retC Q18 (vfs_cons (rR_vf (aE_vf (fun _ _ _ _ h => h))) vfs_nil))
    subst ne23
    refine ⟨_, _, _, rfl, ?_⟩
    obtain ⟨l26, g27, e⟩ := bind_e e
    refine O25.app 0 rfl rfl rfl ((O25.os 2 rfl).srcE rfl) (by decide) g27 fun A28 c29 h30 O31 => ?_
    refine ⟨_, _, _, rfl, ?_⟩
    have O34 := O31.nm
    exact (ih _ _ e) _ _ _ _ _ _ _ _ _ _ _ (O34.pick [0]).nm rfl rfl k_16 r_16
  · cases e
    exact ⟨_, _, _, _, O.pick [0], rfl, rfl⟩
theorem tree_Bound_k.all {p : tree_Bound_k.Pt} {r : ((List ByteArray))} (e : tree_Bound_k.go p = some r) : tree_Bound_k.I p r := fixF_ind (β := fun _ => ((List ByteArray))) tree_Bound_k.mono (I := tree_Bound_k.I) (fun go ih p r e => match p with
  | .f y_0 => tree_Bound_k.step_f go ih y_0 r e
  | .l0 a_3 a_16 x_17 x_18 => tree_Bound_k.step_l0 go ih a_3 a_16 x_17 x_18 r e
  ) e
theorem tree_Bound.walk {W : Nat → Prop} {h m : Heap} {cs_0 : List Value} {y_0 : T_api_Pat} (O : Hold W h m h m []) (e_0 : T_api_Pat.E m y_0 cs_0) {r : (List ByteArray)} (e : tree_Bound y_0 = some r) : Run Tryd.prog 23 #[Value.agg cs_0.toArray] h (tree_Bound.post W h m r) := tree_Bound_k.all (p := .f y_0) e W h m cs_0 O e_0
def slices_Index_66.post (W : Nat → Prop) (h0 m0 : Heap) (r : Int) (v : Value) (h : Heap) : Prop := ∃ m , Hold W h0 m0 h m [] ∧ v = .int .i64 r
inductive slices_Index_66.l0_k.Pt where
  | l0 (a_0 : List ByteArray) (s_1 : ByteArray) (x_7 : Int) (x_8 : Int)
noncomputable def slices_Index_66.l0_k.body (go : (p : slices_Index_66.l0_k.Pt) → Option (Int)) : (p : slices_Index_66.l0_k.Pt) → Option (Int)
  | .l0 a_0 s_1 x_7 x_8 => if x_8 < x_7 then (Option.bind (gi a_0 x_8) fun y1 => if s_1 = y1 then (some (x_8)) else ((go (.l0 a_0 s_1 x_7 (IntKind.wrap .i64 (x_8 + (1 : Int))))))) else (some ((-1 : Int)))
theorem slices_Index_66.l0_k.mono : MonoF (β := fun _ => (Int)) slices_Index_66.l0_k.body := fun f g hfg p => match p with
  | .l0 a_0 s_1 x_7 x_8 => LeO.ite (LeO.bind (LeO.refl _) fun y1 => LeO.ite (LeO.refl _) ((hfg _))) (LeO.refl _)
noncomputable def slices_Index_66.l0_k.go (p : slices_Index_66.l0_k.Pt) : Option (Int) := fixF (β := fun _ => (Int)) slices_Index_66.l0_k.body p
noncomputable def slices_Index_66.l0 (a_0 : List ByteArray) (s_1 : ByteArray) (x_7 : Int) (x_8 : Int) : Option (Int) := slices_Index_66.l0_k.go (.l0 a_0 s_1 x_7 x_8)
theorem slices_Index_66.l0_eq (a_0 : List ByteArray) (s_1 : ByteArray) (x_7 : Int) (x_8 : Int) : slices_Index_66.l0 a_0 s_1 x_7 x_8 = if x_8 < x_7 then (Option.bind (gi a_0 x_8) fun y1 => if s_1 = y1 then (some (x_8)) else ((slices_Index_66.l0 a_0 s_1 x_7 (IntKind.wrap .i64 (x_8 + (1 : Int)))))) else (some ((-1 : Int))) := fixF_eq slices_Index_66.l0_k.mono _
def slices_Index_66.l0_k.I : (p : slices_Index_66.l0_k.Pt) → (Int) → Prop
  | .l0 a_0 s_1 x_7 x_8, r => ∀ (W : Nat → Prop) (h0 m0 h m : Heap) (A_0 : Option Addr) (n_0 c_0 : Nat) (O : Hold W h0 m0 h m []) (ne_0 : n_0 = List.length a_0) (k_0 : List.length a_0 ≤ c_0) (r_0 : Rd 1 eStr m A_0 a_0), f66.l0 (slices_Index_66.post W h0 m0 r) A_0 n_0 c_0 s_1 x_7 x_8 h
set_option maxRecDepth 100000 in
theorem slices_Index_66.l0_k.step_l0 (go : (p : slices_Index_66.l0_k.Pt) → Option (Int)) (ih : ∀ p r, go p = some r → slices_Index_66.l0_k.I p r) (a_0 : List ByteArray) (s_1 : ByteArray) (x_7 : Int) (x_8 : Int) (r : Int) (e : slices_Index_66.l0_k.body go (.l0 a_0 s_1 x_7 x_8) = some r) : slices_Index_66.l0_k.I (.l0 a_0 s_1 x_7 x_8) r := by
  unfold slices_Index_66.l0_k.body at e
  intro W h0 m0 h m A_0 n_0 c_0 O ne_0 k_0 r_0
  subst ne_0
  refine f66.l0_in ?_
  unfold f66.l0T
  refine split_dec_e e (fun c9 e => ?_) (fun c9 e => ?_)
  · obtain ⟨y1, g2, e⟩ := bind_e e
    refine r_0.addr rfl g2 fun a3 cs4 ha5 hc6 he7 => ?_
    obtain rfl : cs4 = [(Value.string y1)] := he7
    refine ⟨_, ld0 O.s hc6 rfl, _, rfl, ?_⟩
    try rw [ba_list s_1 y1]
    refine split_dec_e e (fun c8 e => ?_) (fun c8 e => ?_)
    · cases e
      exact ⟨_, O.pick [], rfl⟩
    · exact (ih _ _ e) _ _ _ _ _ _ _ _ (O.pick []).nm rfl k_0 r_0
  · cases e
    exact ⟨_, O.pick [], rfl⟩
theorem slices_Index_66.l0_k.all {p : slices_Index_66.l0_k.Pt} {r : (Int)} (e : slices_Index_66.l0_k.go p = some r) : slices_Index_66.l0_k.I p r := fixF_ind (β := fun _ => (Int)) slices_Index_66.l0_k.mono (I := slices_Index_66.l0_k.I) (fun go ih p r e => match p with
  | .l0 a_0 s_1 x_7 x_8 => slices_Index_66.l0_k.step_l0 go ih a_0 s_1 x_7 x_8 r e
  ) e
theorem slices_Index_66.l0.walk {W : Nat → Prop} {h0 m0 h m : Heap} {A_0 : Option Addr} {n_0 c_0 : Nat} {a_0 : List ByteArray} {s_1 : ByteArray} {x_7 : Int} {x_8 : Int} (O : Hold W h0 m0 h m []) (ne_0 : n_0 = List.length a_0) (k_0 : List.length a_0 ≤ c_0) (r_0 : Rd 1 eStr m A_0 a_0) {r : Int} (e : slices_Index_66.l0 a_0 s_1 x_7 x_8 = some r) : f66.l0 (slices_Index_66.post W h0 m0 r) A_0 n_0 c_0 s_1 x_7 x_8 h := slices_Index_66.l0_k.all (p := .l0 a_0 s_1 x_7 x_8) e W h0 m0 h m A_0 n_0 c_0 O ne_0 k_0 r_0
noncomputable def slices_Index_66 (a_0 : List ByteArray) (s_1 : ByteArray) : Option (Int) :=
  (slices_Index_66.l0 a_0 s_1 (((List.length a_0) : Nat) : Int) (0 : Int))
set_option maxRecDepth 100000 in
theorem slices_Index_66.walk {W : Nat → Prop} {h m : Heap} {A_0 : Option Addr} {n_0 c_0 : Nat} {a_0 : List ByteArray} {s_1 : ByteArray} (O : Hold W h m h m []) (ne_0 : n_0 = List.length a_0) (k_0 : List.length a_0 ≤ c_0) (r_0 : Rd 1 eStr m A_0 a_0) {r : Int} (e : slices_Index_66 a_0 s_1 = some r) : Run Tryd.prog 66 #[Value.slice A_0 n_0 c_0, Value.string s_1] h (slices_Index_66.post W h m r) := by
  unfold slices_Index_66 at e
  subst ne_0
  refine f66.run ?_
  unfold f66.runT
  exact slices_Index_66.l0.walk (O.pick []).nm rfl k_0 r_0 e
def slices_Contains_58.post (W : Nat → Prop) (h0 m0 : Heap) (r : Bool) (v : Value) (h : Heap) : Prop := ∃ m , Hold W h0 m0 h m [] ∧ v = .bool r
noncomputable def slices_Contains_58 (a_0 : List ByteArray) (s_1 : ByteArray) : Option (Bool) :=
  Option.bind (slices_Index_66 a_0 s_1) fun y1 => some ((decide (y1 ≥ (0 : Int))))
set_option maxRecDepth 100000 in
theorem slices_Contains_58.walk {W : Nat → Prop} {h m : Heap} {A_0 : Option Addr} {n_0 c_0 : Nat} {a_0 : List ByteArray} {s_1 : ByteArray} (O : Hold W h m h m []) (ne_0 : n_0 = List.length a_0) (k_0 : List.length a_0 ≤ c_0) (r_0 : Rd 1 eStr m A_0 a_0) {r : Bool} (e : slices_Contains_58 a_0 s_1 = some r) : Run Tryd.prog 58 #[Value.slice A_0 n_0 c_0, Value.string s_1] h (slices_Contains_58.post W h m r) := by
  unfold slices_Contains_58 at e
  subst ne_0
  refine f58.run ?_
  unfold f58.runT
  obtain ⟨y1, g2, e⟩ := bind_e e
  refine (slices_Index_66.walk (Hold.start (W := No) O.s) rfl k_0 r_0 g2).mono ?_
  rintro _ h3 ⟨m4, Q5, rfl⟩
  have O7 := Hold.nm (O.retC Q5 vfs_nil)
  refine ⟨_, rfl, ?_⟩
  cases e
  exact ⟨_, O7.pick [], rfl⟩
def slices_Clone_59.post (W : Nat → Prop) (h0 m0 : Heap) (r : (List ByteArray)) (v : Value) (h : Heap) : Prop := ∃ m A0 n0 c0, Hold W h0 m0 h m [rR (aE tell_str) A0 c0 r] ∧ v = .slice A0 n0 c0 ∧ n0 = List.length r
noncomputable def slices_Clone_59 (a0 : List ByteArray) : Option (List ByteArray) := ap 16 ([] : List ByteArray) a0
set_option maxRecDepth 100000 in
theorem slices_Clone_59.walk {W : Nat → Prop} {h m : Heap} {A0 : Option Addr} {n0 c0 : Nat} {a0 : List ByteArray} (O : Hold W h m h m []) (ne0 : n0 = List.length a0) (k0 : List.length a0 ≤ c0) (r0 : Rd 1 eStr m A0 a0) {r : List ByteArray} (e : slices_Clone_59 a0 = some r) : Run Tryd.prog 59 #[Value.slice A0 n0 c0] h (slices_Clone_59.post W h m r) := by
  unfold slices_Clone_59 at e
  subst ne0
  refine f59.run ?_
  unfold f59.runT
  cases A0 with
  | none =>
    refine split_t ?_
    obtain rfl := Rd.void r0
    obtain rfl : [] = r := by have := (ap_e e).2; simpa using this
    exact ⟨m, none, 0, 0, O.nil (aE tell_str) none, rfl, rfl⟩
  | some a =>
    refine split_f ?_
    refine O.new fun h1 x1 O1 => ?_
    refine O1.appE0 tell_str rfl rfl (r0.srcE tell_str O1.s rfl) (by decide) e fun A4 c4 h4 x4 O4 => ?_
    refine ⟨_, _, _, rfl, ?_⟩
    exact ⟨m, _, _, _, O4.pick [1], rfl, rfl⟩
def tree_free.post (W : Nat → Prop) (h0 m0 : Heap) (r : (List ByteArray)) (v : Value) (h : Heap) : Prop := ∃ m A0 n0 c0, Hold W h0 m0 h m [rR (aE tell_str) A0 c0 r] ∧ v = .slice A0 n0 c0 ∧ n0 = List.length r
noncomputable def tree_free.j1 (a_2 : List ByteArray) (y_3 : T_api_Expr) (b_36 : Bool) : Option ((List ByteArray)) :=
  if b_36 = true then (Option.bind (ap 16 a_2 ([y_3.Text] : List ByteArray)) fun l5 => some (l5)) else (some (a_2))
set_option maxRecDepth 100000 in
theorem tree_free.j1.walk {W : Nat → Prop} {h0 m0 h m : Heap} {A_2 : Option Addr} {n_2 c_2 : Nat} {bk_3 : Nat} {cs_3 : List Value} {a_2 : List ByteArray} {y_3 : T_api_Expr} {b_36 : Bool} (O : Hold W h0 m0 h m [rR (aE tell_str) A_2 c_2 a_2, rV bk_3 40 cs_3]) (ne_2 : n_2 = List.length a_2) (e_3 : T_api_Expr.E m y_3 cs_3) {r : (List ByteArray)} (e : tree_free.j1 a_2 y_3 b_36 = some r) : f56.j1 (tree_free.post W h0 m0 r) A_2 n_2 c_2 (⟨bk_3, 0, none⟩ : Addr) b_36 h := by
  unfold tree_free.j1 at e
  subst ne_2
  refine f56.j1_in ?_
  unfold f56.j1T
  refine split_any_e e (fun c15 e => ?_) (fun c15 e => ?_)
  · refine ⟨_, ldk (k := 2) (Sub.refl _) (O.all 1 rfl) (T_api_Expr.g2 e_3), _, rfl, ?_⟩
    refine O.new fun h1 x2 O3 => ?_
    obtain ⟨l5, g6, e⟩ := bind_e e
    have O13 := O3.rowE (l := ([y_3.Text] : List ByteArray)) 2 rfl tell_str (show CsE _ _ _ _ _ from (CsE.cons (c1 := [(Value.string y_3.Text)]) rfl rfl CsE.nil)) rfl
    refine O13.app 0 rfl rfl rfl ((O13.os 2 rfl).srcE rfl) (by decide) g6 fun A7 c8 h9 O10 => ?_
    refine ⟨_, _, _, rfl, ?_⟩
    have O14 := O10.nm
    cases e
    exact ⟨_, _, _, _, O14.pick [0], rfl, rfl⟩
  · cases e
    exact ⟨_, _, _, _, O.pick [0], rfl, rfl⟩
inductive tree_free_k.Pt where
  | f (y_0 : T_api_Expr) (a_1 : List ByteArray) (a_2 : List ByteArray)
  | l2 (a_1 : List ByteArray) (a_2 : List ByteArray) (a_50 : List T_api_Expr) (x_51 : Int) (x_52 : Int)
  | l0 (a_1 : List ByteArray) (a_2 : List ByteArray) (y_3 : T_api_Expr) (a_65 : List T_api_Expr) (x_66 : Int) (x_67 : Int)
  | j3 (a_1 : List ByteArray) (a_2 : List ByteArray) (y_3 : T_api_Expr) (y_11 : T_api_Expr) (a_12 : List ByteArray) (a_65 : List T_api_Expr) (x_66 : Int) (x_67 : Int) (b_79 : Bool)
  | j2 (a_1 : List ByteArray) (a_2 : List ByteArray) (y_3 : T_api_Expr) (y_11 : T_api_Expr) (a_12 : List ByteArray) (a_65 : List T_api_Expr) (x_66 : Int) (x_67 : Int)
  | j4 (a_1 : List ByteArray) (a_2 : List ByteArray) (y_3 : T_api_Expr) (y_11 : T_api_Expr) (a_12 : List ByteArray) (a_65 : List T_api_Expr) (x_66 : Int) (x_67 : Int)
  | j0 (a_1 : List ByteArray) (a_2 : List ByteArray) (y_3 : T_api_Expr) (b_106 : Bool)
  | l1 (a_1 : List ByteArray) (a_2 : List ByteArray) (a_108 : List T_api_Arm) (x_109 : Int) (x_110 : Int)
noncomputable def tree_free_k.body (go : (p : tree_free_k.Pt) → Option ((List ByteArray))) : (p : tree_free_k.Pt) → Option ((List ByteArray))
  | .f y_0 a_1 a_2 => Option.bind (tree_Needs y_0) fun y5 => if y5 < (0 : Int) then (some (a_2)) else (if y_0.Kind = (5 : Int) then (Option.bind (slices_Contains_58 a_1 y_0.Text) fun y12 => if y12 = true then ((tree_free.j1 a_2 y_0 false)) else (Option.bind (slices_Contains_58 a_2 y_0.Text) fun y19 => (tree_free.j1 a_2 y_0 (!y19)))) else (if (((List.length y_0.Args) : Nat) : Int) < y5 then ((go (.l2 a_1 a_2 y_0.Args (((List.length y_0.Args) : Nat) : Int) (0 : Int)))) else (Option.bind (sls y_0.Args (0 : Int) y5) fun l49 => (go (.l0 a_1 a_2 y_0 l49 (((List.length l49) : Nat) : Int) (0 : Int))))))
  | .l2 a_1 a_2 a_50 x_51 x_52 => if x_52 < x_51 then (Option.bind (gi a_50 x_52) fun y1 => Option.bind ((go (.f y1 a_1 a_2))) fun y14 => (go (.l2 a_1 y14 a_50 x_51 (IntKind.wrap .i64 (x_52 + (1 : Int)))))) else (some (a_2))
  | .l0 a_1 a_2 y_3 a_65 x_66 x_67 => if x_67 < x_66 then (Option.bind (gi a_65 x_67) fun y1 => if y_3.Kind = (6 : Int) then ((go (.j3 a_1 a_2 y_3 y1 a_1 a_65 x_66 x_67 (x_67 == (1 : Int))))) else ((go (.j3 a_1 a_2 y_3 y1 a_1 a_65 x_66 x_67 false)))) else (if y_3.Kind = (13 : Int) then ((go (.j0 a_1 a_2 y_3 true))) else ((go (.j0 a_1 a_2 y_3 (y_3.Kind == (18 : Int))))))
  | .j3 a_1 a_2 y_3 y_11 a_12 a_65 x_66 x_67 b_79 => if b_79 = true then (Option.bind (slices_Clone_59 a_1) fun y1 => Option.bind (ap 16 y1 ([y_3.Text] : List ByteArray)) fun l17 => (go (.j2 a_1 a_2 y_3 y_11 l17 a_65 x_66 x_67))) else ((go (.j2 a_1 a_2 y_3 y_11 a_12 a_65 x_66 x_67)))
  | .j2 a_1 a_2 y_3 y_11 a_12 a_65 x_66 x_67 => if y_3.Kind = (10 : Int) then (Option.bind (slices_Clone_59 a_1) fun y6 => Option.bind (ap 16 y6 y_3.Names) fun l18 => (go (.j4 a_1 a_2 y_3 y_11 l18 a_65 x_66 x_67))) else ((go (.j4 a_1 a_2 y_3 y_11 a_12 a_65 x_66 x_67)))
  | .j4 a_1 a_2 y_3 y_11 a_12 a_65 x_66 x_67 => Option.bind ((go (.f y_11 a_12 a_2))) fun y1 => (go (.l0 a_1 y1 y_3 a_65 x_66 (IntKind.wrap .i64 (x_67 + (1 : Int)))))
  | .j0 a_1 a_2 y_3 b_106 => if b_106 = true then ((go (.l1 a_1 a_2 y_3.Arms (((List.length y_3.Arms) : Nat) : Int) (0 : Int)))) else (some (a_2))
  | .l1 a_1 a_2 a_108 x_109 x_110 => if x_110 < x_109 then (Option.bind (gi a_108 x_110) fun y1 => Option.bind (slices_Clone_59 a_1) fun y14 => Option.bind (tree_Bound y1.Pat) fun y26 => Option.bind (ap 16 y14 y26) fun l38 => Option.bind ((go (.f y1.Body l38 a_2))) fun y46 => (go (.l1 a_1 y46 a_108 x_109 (IntKind.wrap .i64 (x_110 + (1 : Int)))))) else (some (a_2))
theorem tree_free_k.mono : MonoF (β := fun _ => ((List ByteArray))) tree_free_k.body := fun f g hfg p => match p with
  | .f y_0 a_1 a_2 => LeO.bind (LeO.refl _) fun y5 => LeO.ite (LeO.refl _) (LeO.ite (LeO.bind (LeO.refl _) fun y12 => LeO.ite ((LeO.refl _)) (LeO.bind (LeO.refl _) fun y19 => (LeO.refl _))) (LeO.ite ((hfg _)) (LeO.bind (LeO.refl _) fun l49 => (hfg _))))
  | .l2 a_1 a_2 a_50 x_51 x_52 => LeO.ite (LeO.bind (LeO.refl _) fun y1 => LeO.bind ((hfg _)) fun y14 => (hfg _)) (LeO.refl _)
  | .l0 a_1 a_2 y_3 a_65 x_66 x_67 => LeO.ite (LeO.bind (LeO.refl _) fun y1 => LeO.ite ((hfg _)) ((hfg _))) (LeO.ite ((hfg _)) ((hfg _)))
  | .j3 a_1 a_2 y_3 y_11 a_12 a_65 x_66 x_67 b_79 => LeO.ite (LeO.bind (LeO.refl _) fun y1 => LeO.bind (LeO.refl _) fun l17 => (hfg _)) ((hfg _))
  | .j2 a_1 a_2 y_3 y_11 a_12 a_65 x_66 x_67 => LeO.ite (LeO.bind (LeO.refl _) fun y6 => LeO.bind (LeO.refl _) fun l18 => (hfg _)) ((hfg _))
  | .j4 a_1 a_2 y_3 y_11 a_12 a_65 x_66 x_67 => LeO.bind ((hfg _)) fun y1 => (hfg _)
  | .j0 a_1 a_2 y_3 b_106 => LeO.ite ((hfg _)) (LeO.refl _)
  | .l1 a_1 a_2 a_108 x_109 x_110 => LeO.ite (LeO.bind (LeO.refl _) fun y1 => LeO.bind (LeO.refl _) fun y14 => LeO.bind (LeO.refl _) fun y26 => LeO.bind (LeO.refl _) fun l38 => LeO.bind ((hfg _)) fun y46 => (hfg _)) (LeO.refl _)
noncomputable def tree_free_k.go (p : tree_free_k.Pt) : Option ((List ByteArray)) := fixF (β := fun _ => ((List ByteArray))) tree_free_k.body p
noncomputable def tree_free (y_0 : T_api_Expr) (a_1 : List ByteArray) (a_2 : List ByteArray) : Option ((List ByteArray)) := tree_free_k.go (.f y_0 a_1 a_2)
noncomputable def tree_free.l2 (a_1 : List ByteArray) (a_2 : List ByteArray) (a_50 : List T_api_Expr) (x_51 : Int) (x_52 : Int) : Option ((List ByteArray)) := tree_free_k.go (.l2 a_1 a_2 a_50 x_51 x_52)
noncomputable def tree_free.l0 (a_1 : List ByteArray) (a_2 : List ByteArray) (y_3 : T_api_Expr) (a_65 : List T_api_Expr) (x_66 : Int) (x_67 : Int) : Option ((List ByteArray)) := tree_free_k.go (.l0 a_1 a_2 y_3 a_65 x_66 x_67)
noncomputable def tree_free.j3 (a_1 : List ByteArray) (a_2 : List ByteArray) (y_3 : T_api_Expr) (y_11 : T_api_Expr) (a_12 : List ByteArray) (a_65 : List T_api_Expr) (x_66 : Int) (x_67 : Int) (b_79 : Bool) : Option ((List ByteArray)) := tree_free_k.go (.j3 a_1 a_2 y_3 y_11 a_12 a_65 x_66 x_67 b_79)
noncomputable def tree_free.j2 (a_1 : List ByteArray) (a_2 : List ByteArray) (y_3 : T_api_Expr) (y_11 : T_api_Expr) (a_12 : List ByteArray) (a_65 : List T_api_Expr) (x_66 : Int) (x_67 : Int) : Option ((List ByteArray)) := tree_free_k.go (.j2 a_1 a_2 y_3 y_11 a_12 a_65 x_66 x_67)
noncomputable def tree_free.j4 (a_1 : List ByteArray) (a_2 : List ByteArray) (y_3 : T_api_Expr) (y_11 : T_api_Expr) (a_12 : List ByteArray) (a_65 : List T_api_Expr) (x_66 : Int) (x_67 : Int) : Option ((List ByteArray)) := tree_free_k.go (.j4 a_1 a_2 y_3 y_11 a_12 a_65 x_66 x_67)
noncomputable def tree_free.j0 (a_1 : List ByteArray) (a_2 : List ByteArray) (y_3 : T_api_Expr) (b_106 : Bool) : Option ((List ByteArray)) := tree_free_k.go (.j0 a_1 a_2 y_3 b_106)
noncomputable def tree_free.l1 (a_1 : List ByteArray) (a_2 : List ByteArray) (a_108 : List T_api_Arm) (x_109 : Int) (x_110 : Int) : Option ((List ByteArray)) := tree_free_k.go (.l1 a_1 a_2 a_108 x_109 x_110)
theorem tree_free_eq (y_0 : T_api_Expr) (a_1 : List ByteArray) (a_2 : List ByteArray) : tree_free y_0 a_1 a_2 = Option.bind (tree_Needs y_0) fun y5 => if y5 < (0 : Int) then (some (a_2)) else (if y_0.Kind = (5 : Int) then (Option.bind (slices_Contains_58 a_1 y_0.Text) fun y12 => if y12 = true then ((tree_free.j1 a_2 y_0 false)) else (Option.bind (slices_Contains_58 a_2 y_0.Text) fun y19 => (tree_free.j1 a_2 y_0 (!y19)))) else (if (((List.length y_0.Args) : Nat) : Int) < y5 then ((tree_free.l2 a_1 a_2 y_0.Args (((List.length y_0.Args) : Nat) : Int) (0 : Int))) else (Option.bind (sls y_0.Args (0 : Int) y5) fun l49 => (tree_free.l0 a_1 a_2 y_0 l49 (((List.length l49) : Nat) : Int) (0 : Int))))) := fixF_eq tree_free_k.mono _
theorem tree_free.l2_eq (a_1 : List ByteArray) (a_2 : List ByteArray) (a_50 : List T_api_Expr) (x_51 : Int) (x_52 : Int) : tree_free.l2 a_1 a_2 a_50 x_51 x_52 = if x_52 < x_51 then (Option.bind (gi a_50 x_52) fun y1 => Option.bind ((tree_free y1 a_1 a_2)) fun y14 => (tree_free.l2 a_1 y14 a_50 x_51 (IntKind.wrap .i64 (x_52 + (1 : Int))))) else (some (a_2)) := fixF_eq tree_free_k.mono _
theorem tree_free.l0_eq (a_1 : List ByteArray) (a_2 : List ByteArray) (y_3 : T_api_Expr) (a_65 : List T_api_Expr) (x_66 : Int) (x_67 : Int) : tree_free.l0 a_1 a_2 y_3 a_65 x_66 x_67 = if x_67 < x_66 then (Option.bind (gi a_65 x_67) fun y1 => if y_3.Kind = (6 : Int) then ((tree_free.j3 a_1 a_2 y_3 y1 a_1 a_65 x_66 x_67 (x_67 == (1 : Int)))) else ((tree_free.j3 a_1 a_2 y_3 y1 a_1 a_65 x_66 x_67 false))) else (if y_3.Kind = (13 : Int) then ((tree_free.j0 a_1 a_2 y_3 true)) else ((tree_free.j0 a_1 a_2 y_3 (y_3.Kind == (18 : Int))))) := fixF_eq tree_free_k.mono _
theorem tree_free.j3_eq (a_1 : List ByteArray) (a_2 : List ByteArray) (y_3 : T_api_Expr) (y_11 : T_api_Expr) (a_12 : List ByteArray) (a_65 : List T_api_Expr) (x_66 : Int) (x_67 : Int) (b_79 : Bool) : tree_free.j3 a_1 a_2 y_3 y_11 a_12 a_65 x_66 x_67 b_79 = if b_79 = true then (Option.bind (slices_Clone_59 a_1) fun y1 => Option.bind (ap 16 y1 ([y_3.Text] : List ByteArray)) fun l17 => (tree_free.j2 a_1 a_2 y_3 y_11 l17 a_65 x_66 x_67)) else ((tree_free.j2 a_1 a_2 y_3 y_11 a_12 a_65 x_66 x_67)) := fixF_eq tree_free_k.mono _
theorem tree_free.j2_eq (a_1 : List ByteArray) (a_2 : List ByteArray) (y_3 : T_api_Expr) (y_11 : T_api_Expr) (a_12 : List ByteArray) (a_65 : List T_api_Expr) (x_66 : Int) (x_67 : Int) : tree_free.j2 a_1 a_2 y_3 y_11 a_12 a_65 x_66 x_67 = if y_3.Kind = (10 : Int) then (Option.bind (slices_Clone_59 a_1) fun y6 => Option.bind (ap 16 y6 y_3.Names) fun l18 => (tree_free.j4 a_1 a_2 y_3 y_11 l18 a_65 x_66 x_67)) else ((tree_free.j4 a_1 a_2 y_3 y_11 a_12 a_65 x_66 x_67)) := fixF_eq tree_free_k.mono _
theorem tree_free.j4_eq (a_1 : List ByteArray) (a_2 : List ByteArray) (y_3 : T_api_Expr) (y_11 : T_api_Expr) (a_12 : List ByteArray) (a_65 : List T_api_Expr) (x_66 : Int) (x_67 : Int) : tree_free.j4 a_1 a_2 y_3 y_11 a_12 a_65 x_66 x_67 = Option.bind ((tree_free y_11 a_12 a_2)) fun y1 => (tree_free.l0 a_1 y1 y_3 a_65 x_66 (IntKind.wrap .i64 (x_67 + (1 : Int)))) := fixF_eq tree_free_k.mono _
theorem tree_free.j0_eq (a_1 : List ByteArray) (a_2 : List ByteArray) (y_3 : T_api_Expr) (b_106 : Bool) : tree_free.j0 a_1 a_2 y_3 b_106 = if b_106 = true then ((tree_free.l1 a_1 a_2 y_3.Arms (((List.length y_3.Arms) : Nat) : Int) (0 : Int))) else (some (a_2)) := fixF_eq tree_free_k.mono _
theorem tree_free.l1_eq (a_1 : List ByteArray) (a_2 : List ByteArray) (a_108 : List T_api_Arm) (x_109 : Int) (x_110 : Int) : tree_free.l1 a_1 a_2 a_108 x_109 x_110 = if x_110 < x_109 then (Option.bind (gi a_108 x_110) fun y1 => Option.bind (slices_Clone_59 a_1) fun y14 => Option.bind (tree_Bound y1.Pat) fun y26 => Option.bind (ap 16 y14 y26) fun l38 => Option.bind ((tree_free y1.Body l38 a_2)) fun y46 => (tree_free.l1 a_1 y46 a_108 x_109 (IntKind.wrap .i64 (x_110 + (1 : Int))))) else (some (a_2)) := fixF_eq tree_free_k.mono _
def tree_free_k.I : (p : tree_free_k.Pt) → ((List ByteArray)) → Prop
  | .f y_0 a_1 a_2, r => ∀ (W : Nat → Prop) (h m : Heap) (cs_0 : List Value) (A_1 : Option Addr) (n_1 c_1 : Nat) (A_2 : Option Addr) (n_2 c_2 : Nat) (O : Hold W h m h m [rR (aE tell_str) A_2 c_2 a_2]) (e_0 : T_api_Expr.E m y_0 cs_0) (ne_1 : n_1 = List.length a_1) (k_1 : List.length a_1 ≤ c_1) (r_1 : Rd 1 eStr m A_1 a_1) (ne_2 : n_2 = List.length a_2), Run Tryd.prog 56 #[Value.agg cs_0.toArray, Value.slice A_1 n_1 c_1, Value.slice A_2 n_2 c_2] h (tree_free.post W h m r)
  | .l2 a_1 a_2 a_50 x_51 x_52, r => ∀ (W : Nat → Prop) (h0 m0 h m : Heap) (A_1 : Option Addr) (n_1 c_1 : Nat) (A_2 : Option Addr) (n_2 c_2 : Nat) (A_50 : Option Addr) (n_50 c_50 : Nat) (O : Hold W h0 m0 h m [rR (aE tell_str) A_2 c_2 a_2]) (ne_1 : n_1 = List.length a_1) (k_1 : List.length a_1 ≤ c_1) (r_1 : Rd 1 eStr m A_1 a_1) (ne_2 : n_2 = List.length a_2) (ne_50 : n_50 = List.length a_50) (k_50 : List.length a_50 ≤ c_50) (r_50 : Rd 8 T_api_Expr.E m A_50 a_50), f56.l2 (tree_free.post W h0 m0 r) A_1 n_1 c_1 A_2 n_2 c_2 A_50 n_50 c_50 x_51 x_52 h
  | .l0 a_1 a_2 y_3 a_65 x_66 x_67, r => ∀ (W : Nat → Prop) (h0 m0 h m : Heap) (A_1 : Option Addr) (n_1 c_1 : Nat) (A_2 : Option Addr) (n_2 c_2 : Nat) (bk_3 : Nat) (cs_3 : List Value) (A_65 : Option Addr) (n_65 c_65 : Nat) (O : Hold W h0 m0 h m [rR (aE tell_str) A_2 c_2 a_2, rV bk_3 40 cs_3]) (ne_1 : n_1 = List.length a_1) (k_1 : List.length a_1 ≤ c_1) (r_1 : Rd 1 eStr m A_1 a_1) (ne_2 : n_2 = List.length a_2) (e_3 : T_api_Expr.E m y_3 cs_3) (ne_65 : n_65 = List.length a_65) (k_65 : List.length a_65 ≤ c_65) (r_65 : Rd 8 T_api_Expr.E m A_65 a_65), f56.l0 (tree_free.post W h0 m0 r) A_1 n_1 c_1 A_2 n_2 c_2 (⟨bk_3, 0, none⟩ : Addr) A_65 n_65 c_65 x_66 x_67 h
  | .j3 a_1 a_2 y_3 y_11 a_12 a_65 x_66 x_67 b_79, r => ∀ (W : Nat → Prop) (h0 m0 h m : Heap) (A_1 : Option Addr) (n_1 c_1 : Nat) (A_2 : Option Addr) (n_2 c_2 : Nat) (bk_3 : Nat) (cs_3 : List Value) (bk_11 : Nat) (cs_11 : List Value) (A_12 : Option Addr) (n_12 c_12 : Nat) (A_65 : Option Addr) (n_65 c_65 : Nat) (O : Hold W h0 m0 h m [rR (aE tell_str) A_2 c_2 a_2, rV bk_3 40 cs_3, rV bk_11 40 cs_11]) (ne_1 : n_1 = List.length a_1) (k_1 : List.length a_1 ≤ c_1) (r_1 : Rd 1 eStr m A_1 a_1) (ne_2 : n_2 = List.length a_2) (e_3 : T_api_Expr.E m y_3 cs_3) (e_11 : T_api_Expr.E m y_11 cs_11) (ne_12 : n_12 = List.length a_12) (k_12 : List.length a_12 ≤ c_12) (r_12 : Rd 1 eStr m A_12 a_12) (ne_65 : n_65 = List.length a_65) (k_65 : List.length a_65 ≤ c_65) (r_65 : Rd 8 T_api_Expr.E m A_65 a_65), f56.j3 (tree_free.post W h0 m0 r) A_1 n_1 c_1 A_2 n_2 c_2 (⟨bk_3, 0, none⟩ : Addr) (⟨bk_11, 0, none⟩ : Addr) A_12 n_12 c_12 A_65 n_65 c_65 x_66 x_67 b_79 h
  | .j2 a_1 a_2 y_3 y_11 a_12 a_65 x_66 x_67, r => ∀ (W : Nat → Prop) (h0 m0 h m : Heap) (A_1 : Option Addr) (n_1 c_1 : Nat) (A_2 : Option Addr) (n_2 c_2 : Nat) (bk_3 : Nat) (cs_3 : List Value) (bk_11 : Nat) (cs_11 : List Value) (A_12 : Option Addr) (n_12 c_12 : Nat) (A_65 : Option Addr) (n_65 c_65 : Nat) (O : Hold W h0 m0 h m [rR (aE tell_str) A_2 c_2 a_2, rV bk_3 40 cs_3, rV bk_11 40 cs_11]) (ne_1 : n_1 = List.length a_1) (k_1 : List.length a_1 ≤ c_1) (r_1 : Rd 1 eStr m A_1 a_1) (ne_2 : n_2 = List.length a_2) (e_3 : T_api_Expr.E m y_3 cs_3) (e_11 : T_api_Expr.E m y_11 cs_11) (ne_12 : n_12 = List.length a_12) (k_12 : List.length a_12 ≤ c_12) (r_12 : Rd 1 eStr m A_12 a_12) (ne_65 : n_65 = List.length a_65) (k_65 : List.length a_65 ≤ c_65) (r_65 : Rd 8 T_api_Expr.E m A_65 a_65), f56.j2 (tree_free.post W h0 m0 r) A_1 n_1 c_1 A_2 n_2 c_2 (⟨bk_3, 0, none⟩ : Addr) (⟨bk_11, 0, none⟩ : Addr) A_12 n_12 c_12 A_65 n_65 c_65 x_66 x_67 h
  | .j4 a_1 a_2 y_3 y_11 a_12 a_65 x_66 x_67, r => ∀ (W : Nat → Prop) (h0 m0 h m : Heap) (A_1 : Option Addr) (n_1 c_1 : Nat) (A_2 : Option Addr) (n_2 c_2 : Nat) (bk_3 : Nat) (cs_3 : List Value) (bk_11 : Nat) (cs_11 : List Value) (A_12 : Option Addr) (n_12 c_12 : Nat) (A_65 : Option Addr) (n_65 c_65 : Nat) (O : Hold W h0 m0 h m [rR (aE tell_str) A_2 c_2 a_2, rV bk_3 40 cs_3, rV bk_11 40 cs_11]) (ne_1 : n_1 = List.length a_1) (k_1 : List.length a_1 ≤ c_1) (r_1 : Rd 1 eStr m A_1 a_1) (ne_2 : n_2 = List.length a_2) (e_3 : T_api_Expr.E m y_3 cs_3) (e_11 : T_api_Expr.E m y_11 cs_11) (ne_12 : n_12 = List.length a_12) (k_12 : List.length a_12 ≤ c_12) (r_12 : Rd 1 eStr m A_12 a_12) (ne_65 : n_65 = List.length a_65) (k_65 : List.length a_65 ≤ c_65) (r_65 : Rd 8 T_api_Expr.E m A_65 a_65), f56.j4 (tree_free.post W h0 m0 r) A_1 n_1 c_1 A_2 n_2 c_2 (⟨bk_3, 0, none⟩ : Addr) (⟨bk_11, 0, none⟩ : Addr) A_12 n_12 c_12 A_65 n_65 c_65 x_66 x_67 h
  | .j0 a_1 a_2 y_3 b_106, r => ∀ (W : Nat → Prop) (h0 m0 h m : Heap) (A_1 : Option Addr) (n_1 c_1 : Nat) (A_2 : Option Addr) (n_2 c_2 : Nat) (bk_3 : Nat) (cs_3 : List Value) (O : Hold W h0 m0 h m [rR (aE tell_str) A_2 c_2 a_2, rV bk_3 40 cs_3]) (ne_1 : n_1 = List.length a_1) (k_1 : List.length a_1 ≤ c_1) (r_1 : Rd 1 eStr m A_1 a_1) (ne_2 : n_2 = List.length a_2) (e_3 : T_api_Expr.E m y_3 cs_3), f56.j0 (tree_free.post W h0 m0 r) A_1 n_1 c_1 A_2 n_2 c_2 (⟨bk_3, 0, none⟩ : Addr) b_106 h
  | .l1 a_1 a_2 a_108 x_109 x_110, r => ∀ (W : Nat → Prop) (h0 m0 h m : Heap) (A_1 : Option Addr) (n_1 c_1 : Nat) (A_2 : Option Addr) (n_2 c_2 : Nat) (A_108 : Option Addr) (n_108 c_108 : Nat) (O : Hold W h0 m0 h m [rR (aE tell_str) A_2 c_2 a_2]) (ne_1 : n_1 = List.length a_1) (k_1 : List.length a_1 ≤ c_1) (r_1 : Rd 1 eStr m A_1 a_1) (ne_2 : n_2 = List.length a_2) (ne_108 : n_108 = List.length a_108) (k_108 : List.length a_108 ≤ c_108) (r_108 : Rd 12 T_api_Arm.E m A_108 a_108), f56.l1 (tree_free.post W h0 m0 r) A_1 n_1 c_1 A_2 n_2 c_2 A_108 n_108 c_108 x_109 x_110 h
set_option maxHeartbeats 4000000 in
set_option maxRecDepth 100000 in
theorem tree_free_k.step_f (go : (p : tree_free_k.Pt) → Option ((List ByteArray))) (ih : ∀ p r, go p = some r → tree_free_k.I p r) (y_0 : T_api_Expr) (a_1 : List ByteArray) (a_2 : List ByteArray) (r : (List ByteArray)) (e : tree_free_k.body go (.f y_0 a_1 a_2) = some r) : tree_free_k.I (.f y_0 a_1 a_2) r := by
  unfold tree_free_k.body at e
  intro W h m cs_0 A_1 n_1 c_1 A_2 n_2 c_2 O e_0 ne_1 k_1 r_1 ne_2
  subst ne_1
  subst ne_2
  refine f56.run ?_
  unfold f56.runT
  refine O.new fun h1 x2 O3 => ?_
  refine ⟨_, ldAn (Sub.refl _) (O3.all 1 rfl) (T_api_Expr.T.len _ _ _ e_0), ?_⟩
  obtain ⟨y5, g6, e⟩ := bind_e e
  refine (tree_Needs.walk (Hold.start (W := No) O3.s) e_0 g6).mono ?_
  rintro _ h7 ⟨m8, Q9, rfl⟩
  have O11 := Hold.nm (O3.retC Q9 vfs_nil)
  refine ⟨_, rfl, ?_⟩
  refine split_dec_e e (fun c56 e => ?_) (fun c56 e => ?_)
  · cases e
    exact ⟨_, _, _, _, O11.pick [0], rfl, rfl⟩
  · refine ⟨_, ld0 (Sub.refl _) (O11.all 1 rfl) (T_api_Expr.g0 e_0), _, rfl, ?_⟩
    refine split_eq_e e (fun c55 e => ?_) (fun c55 e => ?_)
    · refine ⟨_, ldk (k := 2) (Sub.refl _) (O11.all 1 rfl) (T_api_Expr.g2 e_0), _, rfl, ?_⟩
      obtain ⟨y12, g13, e⟩ := bind_e e
      refine (slices_Contains_58.walk (Hold.start (W := No) O11.s) rfl k_1 r_1 g13).mono ?_
      rintro _ h14 ⟨m15, Q16, rfl⟩
      have O18 := Hold.nm (O11.retC Q16 vfs_nil)
      refine ⟨_, rfl, ?_⟩
      refine split_not ?_
      refine split_any_e e (fun c33 e => ?_) (fun c33 e => ?_)
      · exact tree_free.j1.walk (O18.pick [0, 1]).nm rfl e_0 e
      · refine ⟨_, ldk (k := 2) (Sub.refl _) (O18.all 1 rfl) (T_api_Expr.g2 e_0), _, rfl, ?_⟩
        obtain ⟨y19, g20, e⟩ := bind_e e
        obtain ⟨m25, u26, s31, ⟨⟨r29, k30⟩, _⟩, B27, C28⟩ := O18.lend0 [0]
        replace r29 : Rd 1 eStr m25 A_2 a_2 := r29
        replace k30 : List.length a_2 ≤ c_2 := k30
        refine (slices_Contains_58.walk (Hold.start (W := No) s31) rfl k30 r29 g20).mono ?_
        rintro _ h21 ⟨m22, Q23, rfl⟩
        have O32 := Hold.nm (C28 Q23 vfs_nil)
        refine ⟨_, rfl, ?_⟩
        exact tree_free.j1.walk (O32.pick [0, 1]).nm rfl e_0 e
    · obtain ⟨A34, c35, q36, k37, r38⟩ := T_api_Expr.g5 e_0
      refine ⟨_, ldk (k := 5) (Sub.refl _) (O11.all 1 rfl) q36, _, _, _, rfl, ?_⟩
      refine split_dec_e e (fun c54 e => ?_) (fun c54 e => ?_)
      · obtain ⟨A39, c40, q41, k42, r43⟩ := T_api_Expr.g5 e_0
        refine ⟨_, ldk (k := 5) (Sub.refl _) (O11.all 1 rfl) q41, _, _, _, rfl, ?_⟩
        exact (ih _ _ e) _ _ _ _ _ _ _ _ _ _ _ _ _ _ (O11.pick [0]).nm rfl k_1 r_1 rfl rfl k42 r43
      · obtain ⟨A44, c45, q46, k47, r48⟩ := T_api_Expr.g5 e_0
        refine ⟨_, ldk (k := 5) (Sub.refl _) (O11.all 1 rfl) q46, _, _, _, rfl, ?_⟩
        obtain ⟨l49, g50, e⟩ := bind_e e
        have q51 := sls_e g50
        refine ⟨q51.1, q51.2.1, cap_in q51.2.2.1 k47, ?_⟩
        try rw [q51.2.2.2.1]
        have k52 : List.length l49 ≤ (c45 - Int.toNat (0 : Int)) := sls_cap g50 k47
        have r53 := r48.sls g50 (le_mx q51.2.2.1 k47)
        exact (ih _ _ e) _ _ _ _ _ _ _ _ _ _ _ _ _ _ _ _ (O11.pick [0, 1]).nm rfl k_1 r_1 rfl e_0 rfl k52 r53
set_option maxRecDepth 100000 in
theorem tree_free_k.step_l2 (go : (p : tree_free_k.Pt) → Option ((List ByteArray))) (ih : ∀ p r, go p = some r → tree_free_k.I p r) (a_1 : List ByteArray) (a_2 : List ByteArray) (a_50 : List T_api_Expr) (x_51 : Int) (x_52 : Int) (r : (List ByteArray)) (e : tree_free_k.body go (.l2 a_1 a_2 a_50 x_51 x_52) = some r) : tree_free_k.I (.l2 a_1 a_2 a_50 x_51 x_52) r := by
  unfold tree_free_k.body at e
  intro W h0 m0 h m A_1 n_1 c_1 A_2 n_2 c_2 A_50 n_50 c_50 O ne_1 k_1 r_1 ne_2 ne_50 k_50 r_50
  subst ne_1
  subst ne_2
  subst ne_50
  refine f56.l2_in ?_
  unfold f56.l2T
  refine split_dec_e e (fun c31 e => ?_) (fun c31 e => ?_)
  · obtain ⟨y1, g2, e⟩ := bind_e e
    refine r_50.addr rfl g2 fun a3 cs4 ha5 hc6 he7 => ?_
    refine ⟨_, ldAn O.s hc6 rfl, ?_⟩
    refine O.new fun h8 x9 O10 => ?_
    refine ⟨_, rfl, (T_api_Expr.T.len _ _ _ he7), ?_⟩
    refine O10.stA 1 rfl (T_api_Expr.T.len _ _ _ he7) (T_api_Expr.T.flat _ _ _ he7) fun h12 O13 => ?_
    refine ⟨_, ldAn (Sub.refl _) (O13.all 1 rfl) (T_api_Expr.T.len _ _ _ he7), ?_⟩
    obtain ⟨y14, g15, e⟩ := bind_e e
    have O20 := O13.nm
    obtain ⟨W21, P22, B23, C24⟩ := O20.callC [0]
    refine ((ih _ _ g15) _ _ _ _ _ _ _ _ _ _ P22 he7 rfl k_1 r_1 rfl).mono ?_
    rintro _ h16 ⟨m17, A25, n26, c27, Q18, rfl, ne28⟩
    have O30 := Hold.nm (C24 Q18 (vfs_cons (rR_vf (aE_vf (fun _ _ _ _ h => h))) vfs_nil))
    subst ne28
    refine ⟨_, _, _, rfl, ?_⟩
    exact (ih _ _ e) _ _ _ _ _ _ _ _ _ _ _ _ _ _ (O30.pick [2]).nm rfl k_1 r_1 rfl rfl k_50 r_50
  · cases e
    exact ⟨_, _, _, _, O.pick [0], rfl, rfl⟩
set_option maxRecDepth 100000 in
theorem tree_free_k.step_l0 (go : (p : tree_free_k.Pt) → Option ((List ByteArray))) (ih : ∀ p r, go p = some r → tree_free_k.I p r) (a_1 : List ByteArray) (a_2 : List ByteArray) (y_3 : T_api_Expr) (a_65 : List T_api_Expr) (x_66 : Int) (x_67 : Int) (r : (List ByteArray)) (e : tree_free_k.body go (.l0 a_1 a_2 y_3 a_65 x_66 x_67) = some r) : tree_free_k.I (.l0 a_1 a_2 y_3 a_65 x_66 x_67) r := by
  unfold tree_free_k.body at e
  intro W h0 m0 h m A_1 n_1 c_1 A_2 n_2 c_2 bk_3 cs_3 A_65 n_65 c_65 O ne_1 k_1 r_1 ne_2 e_3 ne_65 k_65 r_65
  subst ne_1
  subst ne_2
  subst ne_65
  refine f56.l0_in ?_
  unfold f56.l0T
  refine split_dec_e e (fun c18 e => ?_) (fun c18 e => ?_)
  · obtain ⟨y1, g2, e⟩ := bind_e e
    refine r_65.addr rfl g2 fun a3 cs4 ha5 hc6 he7 => ?_
    refine ⟨_, ldAn O.s hc6 rfl, ?_⟩
    refine O.new fun h8 x9 O10 => ?_
    refine ⟨_, rfl, (T_api_Expr.T.len _ _ _ he7), ?_⟩
    refine O10.stA 2 rfl (T_api_Expr.T.len _ _ _ he7) (T_api_Expr.T.flat _ _ _ he7) fun h12 O13 => ?_
    refine ⟨_, ld0 (Sub.refl _) (O13.all 1 rfl) (T_api_Expr.g0 e_3), _, rfl, ?_⟩
    refine split_eq_e e (fun c16 e => ?_) (fun c16 e => ?_)
    · have O14 := O13.nm
      exact (ih _ _ e) _ _ _ _ _ _ _ _ _ _ _ _ _ _ _ _ _ _ _ _ _ (O14.pick [0, 1, 2]).nm rfl k_1 r_1 rfl e_3 he7 rfl k_1 r_1 rfl k_65 r_65
    · have O15 := O13.nm
      exact (ih _ _ e) _ _ _ _ _ _ _ _ _ _ _ _ _ _ _ _ _ _ _ _ _ (O15.pick [0, 1, 2]).nm rfl k_1 r_1 rfl e_3 he7 rfl k_1 r_1 rfl k_65 r_65
  · refine ⟨_, ld0 (Sub.refl _) (O.all 1 rfl) (T_api_Expr.g0 e_3), _, rfl, ?_⟩
    refine split_eq_e e (fun c17 e => ?_) (fun c17 e => ?_)
    · exact (ih _ _ e) _ _ _ _ _ _ _ _ _ _ _ _ _ (O.pick [0, 1]).nm rfl k_1 r_1 rfl e_3
    · refine ⟨_, ld0 (Sub.refl _) (O.all 1 rfl) (T_api_Expr.g0 e_3), _, rfl, ?_⟩
      exact (ih _ _ e) _ _ _ _ _ _ _ _ _ _ _ _ _ (O.pick [0, 1]).nm rfl k_1 r_1 rfl e_3
set_option maxHeartbeats 4000000 in
set_option maxRecDepth 100000 in
theorem tree_free_k.step_j3 (go : (p : tree_free_k.Pt) → Option ((List ByteArray))) (ih : ∀ p r, go p = some r → tree_free_k.I p r) (a_1 : List ByteArray) (a_2 : List ByteArray) (y_3 : T_api_Expr) (y_11 : T_api_Expr) (a_12 : List ByteArray) (a_65 : List T_api_Expr) (x_66 : Int) (x_67 : Int) (b_79 : Bool) (r : (List ByteArray)) (e : tree_free_k.body go (.j3 a_1 a_2 y_3 y_11 a_12 a_65 x_66 x_67 b_79) = some r) : tree_free_k.I (.j3 a_1 a_2 y_3 y_11 a_12 a_65 x_66 x_67 b_79) r := by
  unfold tree_free_k.body at e
  intro W h0 m0 h m A_1 n_1 c_1 A_2 n_2 c_2 bk_3 cs_3 bk_11 cs_11 A_12 n_12 c_12 A_65 n_65 c_65 O ne_1 k_1 r_1 ne_2 e_3 e_11 ne_12 k_12 r_12 ne_65 k_65 r_65
  subst ne_1
  subst ne_2
  subst ne_12
  subst ne_65
  refine f56.j3_in ?_
  unfold f56.j3T
  refine split_any_e e (fun c94 e => ?_) (fun c94 e => ?_)
  · refine ⟨_, ldk (k := 2) (Sub.refl _) (O.all 1 rfl) (T_api_Expr.g2 e_3), _, rfl, ?_⟩
    obtain ⟨y1, g2, e⟩ := bind_e e
    obtain ⟨l17, g18, e⟩ := bind_e e
    refine ⟨?_, ?_⟩
    · refine (slices_Clone_59.walk (Hold.start (W := No) O.s) rfl k_1 r_1 g2).mono ?_
      rintro _ h34 ⟨m35, A38, n39, c40, Q36, rfl, ne41⟩
      have O43 := Hold.nm (O.retC Q36 (vfs_cons (rR_vf (aE_vf (fun _ _ _ _ h => h))) vfs_nil))
      subst ne41
      refine ⟨_, _, _, rfl, ?_⟩
      refine ⟨Q36.S.ext, ?_⟩
      refine O43.new fun h44 x45 O46 => ?_
      have O56 := O46.rowE (l := ([y_3.Text] : List ByteArray)) 4 rfl tell_str (show CsE _ _ _ _ _ from (CsE.cons (c1 := [(Value.string y_3.Text)]) rfl rfl CsE.nil)) rfl
      refine O56.app 3 rfl rfl rfl ((O56.os 4 rfl).srcE rfl) (by decide) g18 fun A50 c51 h52 O53 => ?_
      refine ⟨_, _, _, rfl, ?_⟩
      obtain ⟨m57, u58, ⟨r59, k60⟩, O61⟩ := O53.frz 3 rfl
      replace r59 : Rd 1 eStr m57 A50 l17 := r59
      have O62 := O61.nm
      exact (ih _ _ e) _ _ _ _ _ _ _ _ _ _ _ _ _ _ _ _ _ _ _ _ _ (O62.pick [0, 1, 2]).nm rfl k_1 (r_1.sub tell_str u58) rfl (T_api_Expr.T.mono _ _ _ _ u58 e_3) (T_api_Expr.T.mono _ _ _ _ u58 e_11) rfl k60 r59 rfl k_65 (r_65.sub T_api_Expr.T u58)
    · refine O.new fun h63 x64 O65 => ?_
      refine (slices_Clone_59.walk (Hold.start (W := No) O65.s) rfl k_1 r_1 g2).mono ?_
      rintro _ h69 ⟨m70, A73, n74, c75, Q71, rfl, ne76⟩
      have O78 := Hold.nm (O65.retC Q71 (vfs_cons (rR_vf (aE_vf (fun _ _ _ _ h => h))) vfs_nil))
      subst ne76
      refine ⟨_, _, _, rfl, ?_⟩
      refine ⟨Q71.S.ext, ?_⟩
      have O87 := O78.rowE (l := ([y_3.Text] : List ByteArray)) 3 rfl tell_str (show CsE _ _ _ _ _ from (CsE.cons (c1 := [(Value.string y_3.Text)]) rfl rfl CsE.nil)) rfl
      refine O87.app 4 rfl rfl rfl ((O87.os 3 rfl).srcE rfl) (by decide) g18 fun A81 c82 h83 O84 => ?_
      refine ⟨_, _, _, rfl, ?_⟩
      obtain ⟨m88, u89, ⟨r90, k91⟩, O92⟩ := O84.frz 4 rfl
      replace r90 : Rd 1 eStr m88 A81 l17 := r90
      have O93 := O92.nm
      exact (ih _ _ e) _ _ _ _ _ _ _ _ _ _ _ _ _ _ _ _ _ _ _ _ _ (O93.pick [0, 1, 2]).nm rfl k_1 (r_1.sub tell_str u89) rfl (T_api_Expr.T.mono _ _ _ _ u89 e_3) (T_api_Expr.T.mono _ _ _ _ u89 e_11) rfl k91 r90 rfl k_65 (r_65.sub T_api_Expr.T u89)
  · exact (ih _ _ e) _ _ _ _ _ _ _ _ _ _ _ _ _ _ _ _ _ _ _ _ _ (O.pick [0, 1, 2]).nm rfl k_1 r_1 rfl e_3 e_11 rfl k_12 r_12 rfl k_65 r_65
set_option maxRecDepth 100000 in
theorem tree_free_k.step_j2 (go : (p : tree_free_k.Pt) → Option ((List ByteArray))) (ih : ∀ p r, go p = some r → tree_free_k.I p r) (a_1 : List ByteArray) (a_2 : List ByteArray) (y_3 : T_api_Expr) (y_11 : T_api_Expr) (a_12 : List ByteArray) (a_65 : List T_api_Expr) (x_66 : Int) (x_67 : Int) (r : (List ByteArray)) (e : tree_free_k.body go (.j2 a_1 a_2 y_3 y_11 a_12 a_65 x_66 x_67) = some r) : tree_free_k.I (.j2 a_1 a_2 y_3 y_11 a_12 a_65 x_66 x_67) r := by
  unfold tree_free_k.body at e
  intro W h0 m0 h m A_1 n_1 c_1 A_2 n_2 c_2 bk_3 cs_3 bk_11 cs_11 A_12 n_12 c_12 A_65 n_65 c_65 O ne_1 k_1 r_1 ne_2 e_3 e_11 ne_12 k_12 r_12 ne_65 k_65 r_65
  subst ne_1
  subst ne_2
  subst ne_12
  subst ne_65
  refine f56.j2_in ?_
  unfold f56.j2T
  refine ⟨_, ld0 (Sub.refl _) (O.all 1 rfl) (T_api_Expr.g0 e_3), _, rfl, ?_⟩
  refine split_eq_e e (fun c32 e => ?_) (fun c32 e => ?_)
  · obtain ⟨A1, c2, q3, k4, r5⟩ := T_api_Expr.g3 e_3
    refine ⟨_, ldk (k := 3) (Sub.refl _) (O.all 1 rfl) q3, _, _, _, rfl, ?_⟩
    obtain ⟨y6, g7, e⟩ := bind_e e
    refine (slices_Clone_59.walk (Hold.start (W := No) O.s) rfl k_1 r_1 g7).mono ?_
    rintro _ h8 ⟨m9, A12, n13, c14, Q10, rfl, ne15⟩
    have O17 := Hold.nm (O.retC Q10 (vfs_cons (rR_vf (aE_vf (fun _ _ _ _ h => h))) vfs_nil))
    subst ne15
    refine ⟨_, _, _, rfl, ?_⟩
    refine ⟨Q10.S.ext, ?_⟩
    obtain ⟨l18, g19, e⟩ := bind_e e
    refine O17.app 3 rfl rfl rfl (Rd.srcE r5 tell_str O17.s rfl) (by decide) g19 fun A20 c21 h22 O23 => ?_
    refine ⟨_, _, _, rfl, ?_⟩
    obtain ⟨m26, u27, ⟨r28, k29⟩, O30⟩ := O23.frz 3 rfl
    replace r28 : Rd 1 eStr m26 A20 l18 := r28
    have O31 := O30.nm
    exact (ih _ _ e) _ _ _ _ _ _ _ _ _ _ _ _ _ _ _ _ _ _ _ _ _ (O31.pick [0, 1, 2]).nm rfl k_1 (r_1.sub tell_str u27) rfl (T_api_Expr.T.mono _ _ _ _ u27 e_3) (T_api_Expr.T.mono _ _ _ _ u27 e_11) rfl k29 r28 rfl k_65 (r_65.sub T_api_Expr.T u27)
  · exact (ih _ _ e) _ _ _ _ _ _ _ _ _ _ _ _ _ _ _ _ _ _ _ _ _ (O.pick [0, 1, 2]).nm rfl k_1 r_1 rfl e_3 e_11 rfl k_12 r_12 rfl k_65 r_65
set_option maxRecDepth 100000 in
theorem tree_free_k.step_j4 (go : (p : tree_free_k.Pt) → Option ((List ByteArray))) (ih : ∀ p r, go p = some r → tree_free_k.I p r) (a_1 : List ByteArray) (a_2 : List ByteArray) (y_3 : T_api_Expr) (y_11 : T_api_Expr) (a_12 : List ByteArray) (a_65 : List T_api_Expr) (x_66 : Int) (x_67 : Int) (r : (List ByteArray)) (e : tree_free_k.body go (.j4 a_1 a_2 y_3 y_11 a_12 a_65 x_66 x_67) = some r) : tree_free_k.I (.j4 a_1 a_2 y_3 y_11 a_12 a_65 x_66 x_67) r := by
  unfold tree_free_k.body at e
  intro W h0 m0 h m A_1 n_1 c_1 A_2 n_2 c_2 bk_3 cs_3 bk_11 cs_11 A_12 n_12 c_12 A_65 n_65 c_65 O ne_1 k_1 r_1 ne_2 e_3 e_11 ne_12 k_12 r_12 ne_65 k_65 r_65
  subst ne_1
  subst ne_2
  subst ne_12
  subst ne_65
  refine f56.j4_in ?_
  unfold f56.j4T
  refine ⟨_, ldAn (Sub.refl _) (O.all 2 rfl) (T_api_Expr.T.len _ _ _ e_11), ?_⟩
  obtain ⟨y1, g2, e⟩ := bind_e e
  obtain ⟨W7, P8, B9, C10⟩ := O.callC [0]
  refine ((ih _ _ g2) _ _ _ _ _ _ _ _ _ _ P8 e_11 rfl k_12 r_12 rfl).mono ?_
  rintro _ h3 ⟨m4, A11, n12, c13, Q5, rfl, ne14⟩
  have O16 := Hold.nm (C10 Q5 (vfs_cons (rR_vf (aE_vf (fun _ _ _ _ h => h))) vfs_nil))
  subst ne14
  refine ⟨_, _, _, rfl, ?_⟩
  exact (ih _ _ e) _ _ _ _ _ _ _ _ _ _ _ _ _ _ _ _ (O16.pick [3, 1]).nm rfl k_1 r_1 rfl e_3 rfl k_65 r_65
set_option maxRecDepth 100000 in
theorem tree_free_k.step_j0 (go : (p : tree_free_k.Pt) → Option ((List ByteArray))) (ih : ∀ p r, go p = some r → tree_free_k.I p r) (a_1 : List ByteArray) (a_2 : List ByteArray) (y_3 : T_api_Expr) (b_106 : Bool) (r : (List ByteArray)) (e : tree_free_k.body go (.j0 a_1 a_2 y_3 b_106) = some r) : tree_free_k.I (.j0 a_1 a_2 y_3 b_106) r := by
  unfold tree_free_k.body at e
  intro W h0 m0 h m A_1 n_1 c_1 A_2 n_2 c_2 bk_3 cs_3 O ne_1 k_1 r_1 ne_2 e_3
  subst ne_1
  subst ne_2
  refine f56.j0_in ?_
  unfold f56.j0T
  refine split_any_e e (fun c6 e => ?_) (fun c6 e => ?_)
  · obtain ⟨A1, c2, q3, k4, r5⟩ := T_api_Expr.g6 e_3
    refine ⟨_, ldk (k := 6) (Sub.refl _) (O.all 1 rfl) q3, _, _, _, rfl, ?_⟩
    exact (ih _ _ e) _ _ _ _ _ _ _ _ _ _ _ _ _ _ (O.pick [0]).nm rfl k_1 r_1 rfl rfl k4 r5
  · cases e
    exact ⟨_, _, _, _, O.pick [0], rfl, rfl⟩
set_option maxHeartbeats 4000000 in
set_option maxRecDepth 100000 in
theorem tree_free_k.step_l1 (go : (p : tree_free_k.Pt) → Option ((List ByteArray))) (ih : ∀ p r, go p = some r → tree_free_k.I p r) (a_1 : List ByteArray) (a_2 : List ByteArray) (a_108 : List T_api_Arm) (x_109 : Int) (x_110 : Int) (r : (List ByteArray)) (e : tree_free_k.body go (.l1 a_1 a_2 a_108 x_109 x_110) = some r) : tree_free_k.I (.l1 a_1 a_2 a_108 x_109 x_110) r := by
  unfold tree_free_k.body at e
  intro W h0 m0 h m A_1 n_1 c_1 A_2 n_2 c_2 A_108 n_108 c_108 O ne_1 k_1 r_1 ne_2 ne_108 k_108 r_108
  subst ne_1
  subst ne_2
  subst ne_108
  refine f56.l1_in ?_
  unfold f56.l1T
  refine split_dec_e e (fun c243 e => ?_) (fun c243 e => ?_)
  · obtain ⟨y1, g2, e⟩ := bind_e e
    refine r_108.addr rfl g2 fun a3 cs4 ha5 hc6 he7 => ?_
    refine ⟨_, ldAn O.s hc6 rfl, ?_⟩
    refine O.new fun h8 x9 O10 => ?_
    refine ⟨_, rfl, (T_api_Arm.T.len _ _ _ he7), ?_⟩
    refine O10.stA 1 rfl (T_api_Arm.T.len _ _ _ he7) (T_api_Arm.T.flat _ _ _ he7) fun h12 O13 => ?_
    refine ⟨_, ldA0n (Sub.refl _) (O13.all 1 rfl) 4 (le_len (T_api_Arm.T.len _ _ _ he7) (by decide)), ?_⟩
    obtain ⟨y14, g15, e⟩ := bind_e e
    obtain ⟨y26, g27, e⟩ := bind_e e
    obtain ⟨l38, g39, e⟩ := bind_e e
    obtain ⟨y46, g47, e⟩ := bind_e e
    refine ⟨?_, ?_⟩
    · refine ⟨_, ldAkn (Sub.refl _) (O13.all 1 rfl) 4 8 (le_len (T_api_Arm.T.len _ _ _ he7) (by decide)), ?_⟩
      refine ⟨Ext.refl _, ?_⟩
      refine (slices_Clone_59.walk (Hold.start (W := No) O13.s) rfl k_1 r_1 g15).mono ?_
      rintro _ h69 ⟨m70, A73, n74, c75, Q71, rfl, ne76⟩
      have O78 := Hold.nm (O13.retC Q71 (vfs_cons (rR_vf (aE_vf (fun _ _ _ _ h => h))) vfs_nil))
      subst ne76
      refine ⟨_, _, _, rfl, ?_⟩
      refine ⟨Q71.S.ext, ?_⟩
      refine (tree_Bound.walk (Hold.start (W := No) O78.s) (T_api_Arm.u0_48 he7) g27).mono ?_
      rintro _ h81 ⟨m82, A85, n86, c87, Q83, rfl, ne88⟩
      have O90 := Hold.nm (O78.retC Q83 (vfs_cons (rR_vf (aE_vf (fun _ _ _ _ h => h))) vfs_nil))
      subst ne88
      refine ⟨_, _, _, rfl, ?_⟩
      refine O90.app 2 rfl rfl rfl ((O90.os 3 rfl).srcE rfl) (by decide) g39 fun A93 c94 h95 O96 => ?_
      refine ⟨_, _, _, rfl, ?_⟩
      have O105 := O96.nm
      obtain ⟨m106, W112, u107, P113, ⟨⟨r110, k111⟩, _⟩, B108, C109⟩ := O105.lend [0] [2]
      replace r110 : Rd 1 eStr m106 A93 l38 := r110
      replace k111 : List.length l38 ≤ c94 := k111
      refine ((ih _ _ g47) _ _ _ _ _ _ _ _ _ _ P113 (T_api_Expr.T.mono _ _ _ _ u107 (T_api_Arm.u4_40 he7)) rfl k111 r110 rfl).mono ?_
      rintro _ h101 ⟨m102, A114, n115, c116, Q103, rfl, ne117⟩
      have O119 := Hold.nm (C109 Q103 (vfs_cons (rR_vf (aE_vf (fun _ _ _ _ h => h))) vfs_nil))
      subst ne117
      refine ⟨_, _, _, rfl, ?_⟩
      exact (ih _ _ e) _ _ _ _ _ _ _ _ _ _ _ _ _ _ (O119.pick [4]).nm rfl k_1 r_1 rfl rfl k_108 r_108
    · refine (slices_Clone_59.walk (Hold.start (W := No) O13.s) rfl k_1 r_1 g15).mono ?_
      rintro _ h122 ⟨m123, A126, n127, c128, Q124, rfl, ne129⟩
      have O131 := Hold.nm (O13.retC Q124 (vfs_cons (rR_vf (aE_vf (fun _ _ _ _ h => h))) vfs_nil))
      subst ne129
      refine ⟨_, _, _, rfl, ?_⟩
      refine ⟨Q124.S.ext, ?_⟩
      refine ⟨?_, ?_⟩
      · refine ⟨_, ldAkn (Sub.refl _) (O131.all 1 rfl) 4 8 (le_len (T_api_Arm.T.len _ _ _ he7) (by decide)), ?_⟩
        refine ⟨Ext.refl _, ?_⟩
        refine (tree_Bound.walk (Hold.start (W := No) O131.s) (T_api_Arm.u0_48 he7) g27).mono ?_
        rintro _ h134 ⟨m135, A138, n139, c140, Q136, rfl, ne141⟩
        have O143 := Hold.nm (O131.retC Q136 (vfs_cons (rR_vf (aE_vf (fun _ _ _ _ h => h))) vfs_nil))
        subst ne141
        refine ⟨_, _, _, rfl, ?_⟩
        refine O143.app 2 rfl rfl rfl ((O143.os 3 rfl).srcE rfl) (by decide) g39 fun A146 c147 h148 O149 => ?_
        refine ⟨_, _, _, rfl, ?_⟩
        have O158 := O149.nm
        obtain ⟨m159, W165, u160, P166, ⟨⟨r163, k164⟩, _⟩, B161, C162⟩ := O158.lend [0] [2]
        replace r163 : Rd 1 eStr m159 A146 l38 := r163
        replace k164 : List.length l38 ≤ c147 := k164
        refine ((ih _ _ g47) _ _ _ _ _ _ _ _ _ _ P166 (T_api_Expr.T.mono _ _ _ _ u160 (T_api_Arm.u4_40 he7)) rfl k164 r163 rfl).mono ?_
        rintro _ h154 ⟨m155, A167, n168, c169, Q156, rfl, ne170⟩
        have O172 := Hold.nm (C162 Q156 (vfs_cons (rR_vf (aE_vf (fun _ _ _ _ h => h))) vfs_nil))
        subst ne170
        refine ⟨_, _, _, rfl, ?_⟩
        exact (ih _ _ e) _ _ _ _ _ _ _ _ _ _ _ _ _ _ (O172.pick [4]).nm rfl k_1 r_1 rfl rfl k_108 r_108
      · refine (tree_Bound.walk (Hold.start (W := No) O131.s) (T_api_Arm.u0_48 he7) g27).mono ?_
        rintro _ h175 ⟨m176, A179, n180, c181, Q177, rfl, ne182⟩
        have O184 := Hold.nm (O131.retC Q177 (vfs_cons (rR_vf (aE_vf (fun _ _ _ _ h => h))) vfs_nil))
        subst ne182
        refine ⟨_, _, _, rfl, ?_⟩
        refine ⟨?_, ?_⟩
        · refine ⟨_, ldAkn (Sub.refl _) (O184.all 1 rfl) 4 8 (le_len (T_api_Arm.T.len _ _ _ he7) (by decide)), ?_⟩
          refine ⟨Ext.refl _, ?_⟩
          refine O184.app 2 rfl rfl rfl ((O184.os 3 rfl).srcE rfl) (by decide) g39 fun A187 c188 h189 O190 => ?_
          refine ⟨_, _, _, rfl, ?_⟩
          have O199 := O190.nm
          obtain ⟨m200, W206, u201, P207, ⟨⟨r204, k205⟩, _⟩, B202, C203⟩ := O199.lend [0] [2]
          replace r204 : Rd 1 eStr m200 A187 l38 := r204
          replace k205 : List.length l38 ≤ c188 := k205
          refine ((ih _ _ g47) _ _ _ _ _ _ _ _ _ _ P207 (T_api_Expr.T.mono _ _ _ _ u201 (T_api_Arm.u4_40 he7)) rfl k205 r204 rfl).mono ?_
          rintro _ h195 ⟨m196, A208, n209, c210, Q197, rfl, ne211⟩
          have O213 := Hold.nm (C203 Q197 (vfs_cons (rR_vf (aE_vf (fun _ _ _ _ h => h))) vfs_nil))
          subst ne211
          refine ⟨_, _, _, rfl, ?_⟩
          exact (ih _ _ e) _ _ _ _ _ _ _ _ _ _ _ _ _ _ (O213.pick [4]).nm rfl k_1 r_1 rfl rfl k_108 r_108
        · refine O184.app 2 rfl rfl rfl ((O184.os 3 rfl).srcE rfl) (by decide) g39 fun A216 c217 h218 O219 => ?_
          refine ⟨_, _, _, rfl, ?_⟩
          refine ⟨_, ldAkn (Sub.refl _) (O219.all 1 rfl) 4 8 (le_len (T_api_Arm.T.len _ _ _ he7) (by decide)), ?_⟩
          refine ⟨Ext.refl _, ?_⟩
          have O228 := O219.nm
          obtain ⟨m229, W235, u230, P236, ⟨⟨r233, k234⟩, _⟩, B231, C232⟩ := O228.lend [0] [2]
          replace r233 : Rd 1 eStr m229 A216 l38 := r233
          replace k234 : List.length l38 ≤ c217 := k234
          refine ((ih _ _ g47) _ _ _ _ _ _ _ _ _ _ P236 (T_api_Expr.T.mono _ _ _ _ u230 (T_api_Arm.u4_40 he7)) rfl k234 r233 rfl).mono ?_
          rintro _ h224 ⟨m225, A237, n238, c239, Q226, rfl, ne240⟩
          have O242 := Hold.nm (C232 Q226 (vfs_cons (rR_vf (aE_vf (fun _ _ _ _ h => h))) vfs_nil))
          subst ne240
          refine ⟨_, _, _, rfl, ?_⟩
          exact (ih _ _ e) _ _ _ _ _ _ _ _ _ _ _ _ _ _ (O242.pick [4]).nm rfl k_1 r_1 rfl rfl k_108 r_108
  · cases e
    exact ⟨_, _, _, _, O.pick [0], rfl, rfl⟩
theorem tree_free_k.all {p : tree_free_k.Pt} {r : ((List ByteArray))} (e : tree_free_k.go p = some r) : tree_free_k.I p r := fixF_ind (β := fun _ => ((List ByteArray))) tree_free_k.mono (I := tree_free_k.I) (fun go ih p r e => match p with
  | .f y_0 a_1 a_2 => tree_free_k.step_f go ih y_0 a_1 a_2 r e
  | .l2 a_1 a_2 a_50 x_51 x_52 => tree_free_k.step_l2 go ih a_1 a_2 a_50 x_51 x_52 r e
  | .l0 a_1 a_2 y_3 a_65 x_66 x_67 => tree_free_k.step_l0 go ih a_1 a_2 y_3 a_65 x_66 x_67 r e
  | .j3 a_1 a_2 y_3 y_11 a_12 a_65 x_66 x_67 b_79 => tree_free_k.step_j3 go ih a_1 a_2 y_3 y_11 a_12 a_65 x_66 x_67 b_79 r e
  | .j2 a_1 a_2 y_3 y_11 a_12 a_65 x_66 x_67 => tree_free_k.step_j2 go ih a_1 a_2 y_3 y_11 a_12 a_65 x_66 x_67 r e
  | .j4 a_1 a_2 y_3 y_11 a_12 a_65 x_66 x_67 => tree_free_k.step_j4 go ih a_1 a_2 y_3 y_11 a_12 a_65 x_66 x_67 r e
  | .j0 a_1 a_2 y_3 b_106 => tree_free_k.step_j0 go ih a_1 a_2 y_3 b_106 r e
  | .l1 a_1 a_2 a_108 x_109 x_110 => tree_free_k.step_l1 go ih a_1 a_2 a_108 x_109 x_110 r e
  ) e
theorem tree_free.walk {W : Nat → Prop} {h m : Heap} {cs_0 : List Value} {A_1 : Option Addr} {n_1 c_1 : Nat} {A_2 : Option Addr} {n_2 c_2 : Nat} {y_0 : T_api_Expr} {a_1 : List ByteArray} {a_2 : List ByteArray} (O : Hold W h m h m [rR (aE tell_str) A_2 c_2 a_2]) (e_0 : T_api_Expr.E m y_0 cs_0) (ne_1 : n_1 = List.length a_1) (k_1 : List.length a_1 ≤ c_1) (r_1 : Rd 1 eStr m A_1 a_1) (ne_2 : n_2 = List.length a_2) {r : (List ByteArray)} (e : tree_free y_0 a_1 a_2 = some r) : Run Tryd.prog 56 #[Value.agg cs_0.toArray, Value.slice A_1 n_1 c_1, Value.slice A_2 n_2 c_2] h (tree_free.post W h m r) := tree_free_k.all (p := .f y_0 a_1 a_2) e W h m cs_0 A_1 n_1 c_1 A_2 n_2 c_2 O e_0 ne_1 k_1 r_1 ne_2
def tree_Free.post (W : Nat → Prop) (h0 m0 : Heap) (r : (List ByteArray)) (v : Value) (h : Heap) : Prop := ∃ m A0 n0 c0, Hold W h0 m0 h m [rR (aE tell_str) A0 c0 r] ∧ v = .slice A0 n0 c0 ∧ n0 = List.length r
noncomputable def tree_Free (y_0 : T_api_Expr) : Option ((List ByteArray)) :=
  Option.bind (tree_free y_0 ([] : List ByteArray) ([] : List ByteArray)) fun y7 => some (y7)
set_option maxRecDepth 100000 in
theorem tree_Free.walk {W : Nat → Prop} {h m : Heap} {cs_0 : List Value} {y_0 : T_api_Expr} (O : Hold W h m h m []) (e_0 : T_api_Expr.E m y_0 cs_0) {r : (List ByteArray)} (e : tree_Free y_0 = some r) : Run Tryd.prog 21 #[Value.agg cs_0.toArray] h (tree_Free.post W h m r) := by
  unfold tree_Free at e
  refine f21.run ?_
  unfold f21.runT
  refine O.new fun h1 x2 O3 => ?_
  refine ⟨_, ldAn (Sub.refl _) (O3.all 0 rfl) (T_api_Expr.T.len _ _ _ e_0), ?_⟩
  obtain ⟨y7, g8, e⟩ := bind_e e
  have O5 := O3.nil (aE tell_str) none
  have O13 := O5.nm
  obtain ⟨W14, P15, B16, C17⟩ := O13.callC [1]
  refine (tree_free.walk P15 e_0 rfl (by exact Nat.le_refl 0) Rd.nil rfl g8).mono ?_
  rintro _ h9 ⟨m10, A18, n19, c20, Q11, rfl, ne21⟩
  have O23 := Hold.nm (C17 Q11 (vfs_cons (rR_vf (aE_vf (fun _ _ _ _ h => h))) vfs_nil))
  subst ne21
  refine ⟨_, _, _, rfl, ?_⟩
  cases e
  exact ⟨_, _, _, _, O23.pick [2], rfl, rfl⟩
def roadref2_NamesOf.post (W : Nat → Prop) (h0 m0 : Heap) (r : (List ByteArray)) (v : Value) (h : Heap) : Prop := ∃ m A0 n0 c0, Hold W h0 m0 h m [rR (aE tell_str) A0 c0 r] ∧ v = .slice A0 n0 c0 ∧ n0 = List.length r
inductive roadref2_NamesOf_k.Pt where
  | f (y_0 : T_api_Pat)
  | l0 (a_3 : List ByteArray) (a_16 : List T_api_Pat) (x_17 : Int) (x_18 : Int)
noncomputable def roadref2_NamesOf_k.body (go : (p : roadref2_NamesOf_k.Pt) → Option ((List ByteArray))) : (p : roadref2_NamesOf_k.Pt) → Option ((List ByteArray))
  | .f y_0 => if y_0.Kind = (2 : Int) then (some (([y_0.Text] : List ByteArray))) else (if y_0.Kind = (6 : Int) then ((go (.l0 ([] : List ByteArray) y_0.Args (((List.length y_0.Args) : Nat) : Int) (0 : Int)))) else (some (([] : List ByteArray))))
  | .l0 a_3 a_16 x_17 x_18 => if x_18 < x_17 then (Option.bind (gi a_16 x_18) fun y1 => Option.bind ((go (.f y1))) fun y14 => Option.bind (ap 16 a_3 y14) fun l26 => (go (.l0 l26 a_16 x_17 (IntKind.wrap .i64 (x_18 + (1 : Int)))))) else (some (a_3))
theorem roadref2_NamesOf_k.mono : MonoF (β := fun _ => ((List ByteArray))) roadref2_NamesOf_k.body := fun f g hfg p => match p with
  | .f y_0 => LeO.ite (LeO.refl _) (LeO.ite ((hfg _)) (LeO.refl _))
  | .l0 a_3 a_16 x_17 x_18 => LeO.ite (LeO.bind (LeO.refl _) fun y1 => LeO.bind ((hfg _)) fun y14 => LeO.bind (LeO.refl _) fun l26 => (hfg _)) (LeO.refl _)
noncomputable def roadref2_NamesOf_k.go (p : roadref2_NamesOf_k.Pt) : Option ((List ByteArray)) := fixF (β := fun _ => ((List ByteArray))) roadref2_NamesOf_k.body p
noncomputable def roadref2_NamesOf (y_0 : T_api_Pat) : Option ((List ByteArray)) := roadref2_NamesOf_k.go (.f y_0)
noncomputable def roadref2_NamesOf.l0 (a_3 : List ByteArray) (a_16 : List T_api_Pat) (x_17 : Int) (x_18 : Int) : Option ((List ByteArray)) := roadref2_NamesOf_k.go (.l0 a_3 a_16 x_17 x_18)
theorem roadref2_NamesOf_eq (y_0 : T_api_Pat) : roadref2_NamesOf y_0 = if y_0.Kind = (2 : Int) then (some (([y_0.Text] : List ByteArray))) else (if y_0.Kind = (6 : Int) then ((roadref2_NamesOf.l0 ([] : List ByteArray) y_0.Args (((List.length y_0.Args) : Nat) : Int) (0 : Int))) else (some (([] : List ByteArray)))) := fixF_eq roadref2_NamesOf_k.mono _
theorem roadref2_NamesOf.l0_eq (a_3 : List ByteArray) (a_16 : List T_api_Pat) (x_17 : Int) (x_18 : Int) : roadref2_NamesOf.l0 a_3 a_16 x_17 x_18 = if x_18 < x_17 then (Option.bind (gi a_16 x_18) fun y1 => Option.bind ((roadref2_NamesOf y1)) fun y14 => Option.bind (ap 16 a_3 y14) fun l26 => (roadref2_NamesOf.l0 l26 a_16 x_17 (IntKind.wrap .i64 (x_18 + (1 : Int))))) else (some (a_3)) := fixF_eq roadref2_NamesOf_k.mono _
def roadref2_NamesOf_k.I : (p : roadref2_NamesOf_k.Pt) → ((List ByteArray)) → Prop
  | .f y_0, r => ∀ (W : Nat → Prop) (h m : Heap) (cs_0 : List Value) (O : Hold W h m h m []) (e_0 : T_api_Pat.E m y_0 cs_0), Run Tryd.prog 24 #[Value.agg cs_0.toArray] h (roadref2_NamesOf.post W h m r)
  | .l0 a_3 a_16 x_17 x_18, r => ∀ (W : Nat → Prop) (h0 m0 h m : Heap) (A_3 : Option Addr) (n_3 c_3 : Nat) (A_16 : Option Addr) (n_16 c_16 : Nat) (O : Hold W h0 m0 h m [rR (aE tell_str) A_3 c_3 a_3]) (ne_3 : n_3 = List.length a_3) (ne_16 : n_16 = List.length a_16) (k_16 : List.length a_16 ≤ c_16) (r_16 : Rd 4 T_api_Pat.E m A_16 a_16), f24.l0 (roadref2_NamesOf.post W h0 m0 r) A_3 n_3 c_3 A_16 n_16 c_16 x_17 x_18 h
set_option maxRecDepth 100000 in
theorem roadref2_NamesOf_k.step_f (go : (p : roadref2_NamesOf_k.Pt) → Option ((List ByteArray))) (ih : ∀ p r, go p = some r → roadref2_NamesOf_k.I p r) (y_0 : T_api_Pat) (r : (List ByteArray)) (e : roadref2_NamesOf_k.body go (.f y_0) = some r) : roadref2_NamesOf_k.I (.f y_0) r := by
  unfold roadref2_NamesOf_k.body at e
  intro W h m cs_0 O e_0
  refine f24.run ?_
  unfold f24.runT
  refine O.new fun h1 x2 O3 => ?_
  refine ⟨_, ld0 (Sub.refl _) (O3.all 0 rfl) (T_api_Pat.g0 e_0), _, rfl, ?_⟩
  refine split_eq_e e (fun c23 e => ?_) (fun c23 e => ?_)
  · refine ⟨_, ldk (k := 2) (Sub.refl _) (O3.all 0 rfl) (T_api_Pat.g2 e_0), _, rfl, ?_⟩
    refine O3.new fun h5 x6 O7 => ?_
    have O9 := O7.rowE (l := ([y_0.Text] : List ByteArray)) 1 rfl tell_str (show CsE _ _ _ _ _ from (CsE.cons (c1 := [(Value.string y_0.Text)]) rfl rfl CsE.nil)) rfl
    have O10 := O9.nm
    cases e
    exact ⟨_, _, _, _, O10.pick [1], rfl, rfl⟩
  · refine ⟨_, ld0 (Sub.refl _) (O3.all 0 rfl) (T_api_Pat.g0 e_0), _, rfl, ?_⟩
    refine split_eq_e e (fun c22 e => ?_) (fun c22 e => ?_)
    · obtain ⟨A11, c12, q13, k14, r15⟩ := T_api_Pat.g3 e_0
      refine ⟨_, ldk (k := 3) (Sub.refl _) (O3.all 0 rfl) q13, _, _, _, rfl, ?_⟩
      have O16 := O3.nil (aE tell_str) none
      have O18 := O16.nm
      exact (ih _ _ e) _ _ _ _ _ _ _ _ _ _ _ (O18.pick [1]).nm rfl rfl k14 r15
    · have O19 := O3.nil (aE tell_str) none
      have O21 := O19.nm
      cases e
      exact ⟨_, _, _, _, O21.pick [1], rfl, rfl⟩
set_option maxRecDepth 100000 in
theorem roadref2_NamesOf_k.step_l0 (go : (p : roadref2_NamesOf_k.Pt) → Option ((List ByteArray))) (ih : ∀ p r, go p = some r → roadref2_NamesOf_k.I p r) (a_3 : List ByteArray) (a_16 : List T_api_Pat) (x_17 : Int) (x_18 : Int) (r : (List ByteArray)) (e : roadref2_NamesOf_k.body go (.l0 a_3 a_16 x_17 x_18) = some r) : roadref2_NamesOf_k.I (.l0 a_3 a_16 x_17 x_18) r := by
  unfold roadref2_NamesOf_k.body at e
  intro W h0 m0 h m A_3 n_3 c_3 A_16 n_16 c_16 O ne_3 ne_16 k_16 r_16
  subst ne_3
  subst ne_16
  refine f24.l0_in ?_
  unfold f24.l0T
  refine split_dec_e e (fun c35 e => ?_) (fun c35 e => ?_)
  · obtain ⟨y1, g2, e⟩ := bind_e e
    refine r_16.addr rfl g2 fun a3 cs4 ha5 hc6 he7 => ?_
    refine ⟨_, ldAn O.s hc6 rfl, ?_⟩
    refine O.new fun h8 x9 O10 => ?_
    refine ⟨_, rfl, (T_api_Pat.T.len _ _ _ he7), ?_⟩
    refine O10.stA 1 rfl (T_api_Pat.T.len _ _ _ he7) (T_api_Pat.T.flat _ _ _ he7) fun h12 O13 => ?_
    refine ⟨_, ldAn (Sub.refl _) (O13.all 1 rfl) (T_api_Pat.T.len _ _ _ he7), ?_⟩
    obtain ⟨y14, g15, e⟩ := bind_e e
    refine ((ih _ _ g15) _ _ _ _ (Hold.start (W := No) O13.s) he7).mono ?_
    rintro _ h16 ⟨m17, A20, n21, c22, Q18, rfl, ne23⟩
    have O25 := Hold.nm (O13.retC Q18 (vfs_cons (rR_vf (aE_vf (fun _ _ _ _ h => h))) vfs_nil))
    subst ne23
    refine ⟨_, _, _, rfl, ?_⟩
    obtain ⟨l26, g27, e⟩ := bind_e e
    refine O25.app 0 rfl rfl rfl ((O25.os 2 rfl).srcE rfl) (by decide) g27 fun A28 c29 h30 O31 => ?_
    refine ⟨_, _, _, rfl, ?_⟩
    have O34 := O31.nm
    exact (ih _ _ e) _ _ _ _ _ _ _ _ _ _ _ (O34.pick [0]).nm rfl rfl k_16 r_16
  · cases e
    exact ⟨_, _, _, _, O.pick [0], rfl, rfl⟩
theorem roadref2_NamesOf_k.all {p : roadref2_NamesOf_k.Pt} {r : ((List ByteArray))} (e : roadref2_NamesOf_k.go p = some r) : roadref2_NamesOf_k.I p r := fixF_ind (β := fun _ => ((List ByteArray))) roadref2_NamesOf_k.mono (I := roadref2_NamesOf_k.I) (fun go ih p r e => match p with
  | .f y_0 => roadref2_NamesOf_k.step_f go ih y_0 r e
  | .l0 a_3 a_16 x_17 x_18 => roadref2_NamesOf_k.step_l0 go ih a_3 a_16 x_17 x_18 r e
  ) e
theorem roadref2_NamesOf.walk {W : Nat → Prop} {h m : Heap} {cs_0 : List Value} {y_0 : T_api_Pat} (O : Hold W h m h m []) (e_0 : T_api_Pat.E m y_0 cs_0) {r : (List ByteArray)} (e : roadref2_NamesOf y_0 = some r) : Run Tryd.prog 24 #[Value.agg cs_0.toArray] h (roadref2_NamesOf.post W h m r) := roadref2_NamesOf_k.all (p := .f y_0) e W h m cs_0 O e_0
def roadref2_counted.post (W : Nat → Prop) (h0 m0 : Heap) (r : (List T_roadref2_scoped)) (v : Value) (h : Heap) : Prop := ∃ m A0 n0 c0, Hold W h0 m0 h m [rR (aE T_roadref2_scoped.T) A0 c0 r] ∧ v = .slice A0 n0 c0 ∧ n0 = List.length r
inductive roadref2_counted.l1_k.Pt where
  | l1 (a_4 : List T_roadref2_scoped) (a_19 : List T_api_Expr) (x_20 : Int) (x_21 : Int)
noncomputable def roadref2_counted.l1_k.body (go : (p : roadref2_counted.l1_k.Pt) → Option ((List T_roadref2_scoped))) : (p : roadref2_counted.l1_k.Pt) → Option ((List T_roadref2_scoped))
  | .l1 a_4 a_19 x_20 x_21 => if x_21 < x_20 then (Option.bind (gi a_19 x_21) fun y1 => Option.bind (ap 160 a_4 ([(T_roadref2_scoped.mk y1 ([]))] : List T_roadref2_scoped)) fun l19 => (go (.l1 l19 a_19 x_20 (IntKind.wrap .i64 (x_21 + (1 : Int)))))) else (some (a_4))
theorem roadref2_counted.l1_k.mono : MonoF (β := fun _ => ((List T_roadref2_scoped))) roadref2_counted.l1_k.body := fun f g hfg p => match p with
  | .l1 a_4 a_19 x_20 x_21 => LeO.ite (LeO.bind (LeO.refl _) fun y1 => LeO.bind (LeO.refl _) fun l19 => (hfg _)) (LeO.refl _)
noncomputable def roadref2_counted.l1_k.go (p : roadref2_counted.l1_k.Pt) : Option ((List T_roadref2_scoped)) := fixF (β := fun _ => ((List T_roadref2_scoped))) roadref2_counted.l1_k.body p
noncomputable def roadref2_counted.l1 (a_4 : List T_roadref2_scoped) (a_19 : List T_api_Expr) (x_20 : Int) (x_21 : Int) : Option ((List T_roadref2_scoped)) := roadref2_counted.l1_k.go (.l1 a_4 a_19 x_20 x_21)
theorem roadref2_counted.l1_eq (a_4 : List T_roadref2_scoped) (a_19 : List T_api_Expr) (x_20 : Int) (x_21 : Int) : roadref2_counted.l1 a_4 a_19 x_20 x_21 = if x_21 < x_20 then (Option.bind (gi a_19 x_21) fun y1 => Option.bind (ap 160 a_4 ([(T_roadref2_scoped.mk y1 ([]))] : List T_roadref2_scoped)) fun l19 => (roadref2_counted.l1 l19 a_19 x_20 (IntKind.wrap .i64 (x_21 + (1 : Int))))) else (some (a_4)) := fixF_eq roadref2_counted.l1_k.mono _
def roadref2_counted.l1_k.I : (p : roadref2_counted.l1_k.Pt) → ((List T_roadref2_scoped)) → Prop
  | .l1 a_4 a_19 x_20 x_21, r => ∀ (W : Nat → Prop) (h0 m0 h m : Heap) (A_4 : Option Addr) (n_4 c_4 : Nat) (A_19 : Option Addr) (n_19 c_19 : Nat) (O : Hold W h0 m0 h m [rR (aE T_roadref2_scoped.T) A_4 c_4 a_4]) (ne_4 : n_4 = List.length a_4) (ne_19 : n_19 = List.length a_19) (k_19 : List.length a_19 ≤ c_19) (r_19 : Rd 8 T_api_Expr.E m A_19 a_19), f57.l1 (roadref2_counted.post W h0 m0 r) A_4 n_4 c_4 A_19 n_19 c_19 x_20 x_21 h
set_option maxRecDepth 100000 in
theorem roadref2_counted.l1_k.step_l1 (go : (p : roadref2_counted.l1_k.Pt) → Option ((List T_roadref2_scoped))) (ih : ∀ p r, go p = some r → roadref2_counted.l1_k.I p r) (a_4 : List T_roadref2_scoped) (a_19 : List T_api_Expr) (x_20 : Int) (x_21 : Int) (r : (List T_roadref2_scoped)) (e : roadref2_counted.l1_k.body go (.l1 a_4 a_19 x_20 x_21) = some r) : roadref2_counted.l1_k.I (.l1 a_4 a_19 x_20 x_21) r := by
  unfold roadref2_counted.l1_k.body at e
  intro W h0 m0 h m A_4 n_4 c_4 A_19 n_19 c_19 O ne_4 ne_19 k_19 r_19
  subst ne_4
  subst ne_19
  refine f57.l1_in ?_
  unfold f57.l1T
  refine split_dec_e e (fun c29 e => ?_) (fun c29 e => ?_)
  · obtain ⟨y1, g2, e⟩ := bind_e e
    refine r_19.addr rfl g2 fun a3 cs4 ha5 hc6 he7 => ?_
    refine ⟨_, ldAn O.s hc6 rfl, ?_⟩
    refine O.new fun h8 x9 O10 => ?_
    refine ⟨_, rfl, (T_api_Expr.T.len _ _ _ he7), ?_⟩
    refine O10.stA 1 rfl (T_api_Expr.T.len _ _ _ he7) (T_api_Expr.T.flat _ _ _ he7) fun h12 O13 => ?_
    refine ⟨_, ldAn (Sub.refl _) (O13.all 1 rfl) (T_api_Expr.T.len _ _ _ he7), ?_⟩
    obtain ⟨Ae14_3, ce14_3, Ae14_4, ce14_4, Ae14_5, ce14_5, Ae14_6, ce14_6, rfl, ke14_3, re14_3, ke14_4, re14_4, ke14_5, re14_5, ke14_6, re14_6⟩ := T_api_Expr.iff.1 he7
    refine ⟨[(Value.int .i64 y1.Kind), (Value.int .i64 y1.Num), (Value.string y1.Text), (Value.slice Ae14_3 (List.length y1.Names) ce14_3), (Value.slice Ae14_4 (List.length y1.Types) ce14_4), (Value.slice Ae14_5 (List.length y1.Args) ce14_5), (Value.slice Ae14_6 (List.length y1.Arms) ce14_6), (Value.int .i64 y1.At)], rfl, rfl, ?_⟩
    refine ⟨[(Value.int .i64 y1.Kind), (Value.int .i64 y1.Num), (Value.string y1.Text), (Value.slice Ae14_3 (List.length y1.Names) ce14_3), (Value.slice Ae14_4 (List.length y1.Types) ce14_4), (Value.slice Ae14_5 (List.length y1.Args) ce14_5), (Value.slice Ae14_6 (List.length y1.Arms) ce14_6), (Value.int .i64 y1.At), (Value.slice none 0 0)], rfl, rfl, ?_⟩
    refine O13.new fun h15 x16 O17 => ?_
    obtain ⟨l19, g20, e⟩ := bind_e e
    have O27 := O17.rowE (l := ([(T_roadref2_scoped.mk y1 ([]))] : List T_roadref2_scoped)) 2 rfl T_roadref2_scoped.T (show CsE _ _ _ _ _ from (CsE.cons (c1 := [(Value.int .i64 y1.Kind), (Value.int .i64 y1.Num), (Value.string y1.Text), (Value.slice Ae14_3 (List.length y1.Names) ce14_3), (Value.slice Ae14_4 (List.length y1.Types) ce14_4), (Value.slice Ae14_5 (List.length y1.Args) ce14_5), (Value.slice Ae14_6 (List.length y1.Arms) ce14_6), (Value.int .i64 y1.At), (Value.slice none 0 0)]) (show T_roadref2_scoped.E _ (T_roadref2_scoped.mk y1 ([])) [(Value.int .i64 y1.Kind), (Value.int .i64 y1.Num), (Value.string y1.Text), (Value.slice Ae14_3 (List.length y1.Names) ce14_3), (Value.slice Ae14_4 (List.length y1.Types) ce14_4), (Value.slice Ae14_5 (List.length y1.Args) ce14_5), (Value.slice Ae14_6 (List.length y1.Arms) ce14_6), (Value.int .i64 y1.At), (Value.slice none 0 0)] from ⟨_, _, _, _, _, _, _, _, _, _, rfl, ke14_3, re14_3, ke14_4, re14_4, ke14_5, re14_5, ke14_6, re14_6, (by exact Nat.le_refl 0), Rd.nil⟩) rfl CsE.nil)) rfl
    refine O27.app 0 rfl rfl rfl ((O27.os 2 rfl).srcE rfl) (by decide) g20 fun A21 c22 h23 O24 => ?_
    refine ⟨_, _, _, rfl, ?_⟩
    have O28 := O24.nm
    exact (ih _ _ e) _ _ _ _ _ _ _ _ _ _ _ (O28.pick [0]).nm rfl rfl k_19 r_19
  · cases e
    exact ⟨_, _, _, _, O.pick [0], rfl, rfl⟩
theorem roadref2_counted.l1_k.all {p : roadref2_counted.l1_k.Pt} {r : ((List T_roadref2_scoped))} (e : roadref2_counted.l1_k.go p = some r) : roadref2_counted.l1_k.I p r := fixF_ind (β := fun _ => ((List T_roadref2_scoped))) roadref2_counted.l1_k.mono (I := roadref2_counted.l1_k.I) (fun go ih p r e => match p with
  | .l1 a_4 a_19 x_20 x_21 => roadref2_counted.l1_k.step_l1 go ih a_4 a_19 x_20 x_21 r e
  ) e
theorem roadref2_counted.l1.walk {W : Nat → Prop} {h0 m0 h m : Heap} {A_4 : Option Addr} {n_4 c_4 : Nat} {A_19 : Option Addr} {n_19 c_19 : Nat} {a_4 : List T_roadref2_scoped} {a_19 : List T_api_Expr} {x_20 : Int} {x_21 : Int} (O : Hold W h0 m0 h m [rR (aE T_roadref2_scoped.T) A_4 c_4 a_4]) (ne_4 : n_4 = List.length a_4) (ne_19 : n_19 = List.length a_19) (k_19 : List.length a_19 ≤ c_19) (r_19 : Rd 8 T_api_Expr.E m A_19 a_19) {r : (List T_roadref2_scoped)} (e : roadref2_counted.l1 a_4 a_19 x_20 x_21 = some r) : f57.l1 (roadref2_counted.post W h0 m0 r) A_4 n_4 c_4 A_19 n_19 c_19 x_20 x_21 h := roadref2_counted.l1_k.all (p := .l1 a_4 a_19 x_20 x_21) e W h0 m0 h m A_4 n_4 c_4 A_19 n_19 c_19 O ne_4 ne_19 k_19 r_19
inductive roadref2_counted.l2_k.Pt where
  | l2 (a_4 : List T_roadref2_scoped) (a_72 : List T_api_Arm) (x_73 : Int) (x_74 : Int)
noncomputable def roadref2_counted.l2_k.body (go : (p : roadref2_counted.l2_k.Pt) → Option ((List T_roadref2_scoped))) : (p : roadref2_counted.l2_k.Pt) → Option ((List T_roadref2_scoped))
  | .l2 a_4 a_72 x_73 x_74 => if x_74 < x_73 then (Option.bind (gi a_72 x_74) fun y1 => Option.bind (roadref2_NamesOf y1.Pat) fun y14 => Option.bind (ap 160 a_4 ([(T_roadref2_scoped.mk y1.Body y14)] : List T_roadref2_scoped)) fun l33 => (go (.l2 l33 a_72 x_73 (IntKind.wrap .i64 (x_74 + (1 : Int)))))) else (some (a_4))
theorem roadref2_counted.l2_k.mono : MonoF (β := fun _ => ((List T_roadref2_scoped))) roadref2_counted.l2_k.body := fun f g hfg p => match p with
  | .l2 a_4 a_72 x_73 x_74 => LeO.ite (LeO.bind (LeO.refl _) fun y1 => LeO.bind (LeO.refl _) fun y14 => LeO.bind (LeO.refl _) fun l33 => (hfg _)) (LeO.refl _)
noncomputable def roadref2_counted.l2_k.go (p : roadref2_counted.l2_k.Pt) : Option ((List T_roadref2_scoped)) := fixF (β := fun _ => ((List T_roadref2_scoped))) roadref2_counted.l2_k.body p
noncomputable def roadref2_counted.l2 (a_4 : List T_roadref2_scoped) (a_72 : List T_api_Arm) (x_73 : Int) (x_74 : Int) : Option ((List T_roadref2_scoped)) := roadref2_counted.l2_k.go (.l2 a_4 a_72 x_73 x_74)
theorem roadref2_counted.l2_eq (a_4 : List T_roadref2_scoped) (a_72 : List T_api_Arm) (x_73 : Int) (x_74 : Int) : roadref2_counted.l2 a_4 a_72 x_73 x_74 = if x_74 < x_73 then (Option.bind (gi a_72 x_74) fun y1 => Option.bind (roadref2_NamesOf y1.Pat) fun y14 => Option.bind (ap 160 a_4 ([(T_roadref2_scoped.mk y1.Body y14)] : List T_roadref2_scoped)) fun l33 => (roadref2_counted.l2 l33 a_72 x_73 (IntKind.wrap .i64 (x_74 + (1 : Int))))) else (some (a_4)) := fixF_eq roadref2_counted.l2_k.mono _
def roadref2_counted.l2_k.I : (p : roadref2_counted.l2_k.Pt) → ((List T_roadref2_scoped)) → Prop
  | .l2 a_4 a_72 x_73 x_74, r => ∀ (W : Nat → Prop) (h0 m0 h m : Heap) (A_4 : Option Addr) (n_4 c_4 : Nat) (A_72 : Option Addr) (n_72 c_72 : Nat) (O : Hold W h0 m0 h m [rR (aE T_roadref2_scoped.T) A_4 c_4 a_4]) (ne_4 : n_4 = List.length a_4) (ne_72 : n_72 = List.length a_72) (k_72 : List.length a_72 ≤ c_72) (r_72 : Rd 12 T_api_Arm.E m A_72 a_72), f57.l2 (roadref2_counted.post W h0 m0 r) A_4 n_4 c_4 A_72 n_72 c_72 x_73 x_74 h
set_option maxHeartbeats 4000000 in
set_option maxRecDepth 100000 in
theorem roadref2_counted.l2_k.step_l2 (go : (p : roadref2_counted.l2_k.Pt) → Option ((List T_roadref2_scoped))) (ih : ∀ p r, go p = some r → roadref2_counted.l2_k.I p r) (a_4 : List T_roadref2_scoped) (a_72 : List T_api_Arm) (x_73 : Int) (x_74 : Int) (r : (List T_roadref2_scoped)) (e : roadref2_counted.l2_k.body go (.l2 a_4 a_72 x_73 x_74) = some r) : roadref2_counted.l2_k.I (.l2 a_4 a_72 x_73 x_74) r := by
  unfold roadref2_counted.l2_k.body at e
  intro W h0 m0 h m A_4 n_4 c_4 A_72 n_72 c_72 O ne_4 ne_72 k_72 r_72
  subst ne_4
  subst ne_72
  refine f57.l2_in ?_
  unfold f57.l2T
  refine split_dec_e e (fun c48 e => ?_) (fun c48 e => ?_)
  · obtain ⟨y1, g2, e⟩ := bind_e e
    refine r_72.addr rfl g2 fun a3 cs4 ha5 hc6 he7 => ?_
    refine ⟨_, ldAn O.s hc6 rfl, ?_⟩
    refine O.new fun h8 x9 O10 => ?_
    refine ⟨_, rfl, (T_api_Arm.T.len _ _ _ he7), ?_⟩
    refine O10.stA 1 rfl (T_api_Arm.T.len _ _ _ he7) (T_api_Arm.T.flat _ _ _ he7) fun h12 O13 => ?_
    refine ⟨_, ldAkn (Sub.refl _) (O13.all 1 rfl) 4 8 (le_len (T_api_Arm.T.len _ _ _ he7) (by decide)), ?_⟩
    refine ⟨_, ldA0n (Sub.refl _) (O13.all 1 rfl) 4 (le_len (T_api_Arm.T.len _ _ _ he7) (by decide)), ?_⟩
    obtain ⟨y14, g15, e⟩ := bind_e e
    refine (roadref2_NamesOf.walk (Hold.start (W := No) O13.s) (T_api_Arm.u0_48 he7) g15).mono ?_
    rintro _ h16 ⟨m17, A20, n21, c22, Q18, rfl, ne23⟩
    have O25 := Hold.nm (O13.retC Q18 (vfs_cons (rR_vf (aE_vf (fun _ _ _ _ h => h))) vfs_nil))
    subst ne23
    refine ⟨_, _, _, rfl, ?_⟩
    refine ⟨Q18.S.ext, ?_⟩
    have he27 := (T_api_Arm.u4_40 he7)
    generalize (List.take 8 (List.drop 4 cs4)) = cs26 at he27 ⊢
    obtain ⟨Ae28_3, ce28_3, Ae28_4, ce28_4, Ae28_5, ce28_5, Ae28_6, ce28_6, rfl, ke28_3, re28_3, ke28_4, re28_4, ke28_5, re28_5, ke28_6, re28_6⟩ := T_api_Expr.iff.1 he27
    refine ⟨[(Value.int .i64 y1.Body.Kind), (Value.int .i64 y1.Body.Num), (Value.string y1.Body.Text), (Value.slice Ae28_3 (List.length y1.Body.Names) ce28_3), (Value.slice Ae28_4 (List.length y1.Body.Types) ce28_4), (Value.slice Ae28_5 (List.length y1.Body.Args) ce28_5), (Value.slice Ae28_6 (List.length y1.Body.Arms) ce28_6), (Value.int .i64 y1.Body.At)], rfl, rfl, ?_⟩
    refine ⟨[(Value.int .i64 y1.Body.Kind), (Value.int .i64 y1.Body.Num), (Value.string y1.Body.Text), (Value.slice Ae28_3 (List.length y1.Body.Names) ce28_3), (Value.slice Ae28_4 (List.length y1.Body.Types) ce28_4), (Value.slice Ae28_5 (List.length y1.Body.Args) ce28_5), (Value.slice Ae28_6 (List.length y1.Body.Arms) ce28_6), (Value.int .i64 y1.Body.At), (Value.slice A20 (List.length y14) c22)], rfl, rfl, ?_⟩
    refine O25.new fun h29 x30 O31 => ?_
    obtain ⟨l33, g34, e⟩ := bind_e e
    obtain ⟨m41, u42, ⟨r43, k44⟩, O45⟩ := O31.frz 2 rfl
    replace r43 : Rd 1 eStr m41 A20 y14 := r43
    have O46 := O45.rowE (l := ([(T_roadref2_scoped.mk y1.Body y14)] : List T_roadref2_scoped)) 3 rfl T_roadref2_scoped.T (show CsE _ _ _ _ _ from (CsE.cons (c1 := [(Value.int .i64 y1.Body.Kind), (Value.int .i64 y1.Body.Num), (Value.string y1.Body.Text), (Value.slice Ae28_3 (List.length y1.Body.Names) ce28_3), (Value.slice Ae28_4 (List.length y1.Body.Types) ce28_4), (Value.slice Ae28_5 (List.length y1.Body.Args) ce28_5), (Value.slice Ae28_6 (List.length y1.Body.Arms) ce28_6), (Value.int .i64 y1.Body.At), (Value.slice A20 (List.length y14) c22)]) (show T_roadref2_scoped.E _ (T_roadref2_scoped.mk y1.Body y14) [(Value.int .i64 y1.Body.Kind), (Value.int .i64 y1.Body.Num), (Value.string y1.Body.Text), (Value.slice Ae28_3 (List.length y1.Body.Names) ce28_3), (Value.slice Ae28_4 (List.length y1.Body.Types) ce28_4), (Value.slice Ae28_5 (List.length y1.Body.Args) ce28_5), (Value.slice Ae28_6 (List.length y1.Body.Arms) ce28_6), (Value.int .i64 y1.Body.At), (Value.slice A20 (List.length y14) c22)] from ⟨_, _, _, _, _, _, _, _, _, _, rfl, ke28_3, (re28_3.sub tell_str u42), ke28_4, (re28_4.sub T_api_Type.T u42), ke28_5, (re28_5.sub T_api_Expr.T u42), ke28_6, (re28_6.sub T_api_Arm.T u42), k44, r43⟩) rfl CsE.nil)) rfl
    refine O46.app 0 rfl rfl rfl ((O46.os 3 rfl).srcE rfl) (by decide) g34 fun A35 c36 h37 O38 => ?_
    refine ⟨_, _, _, rfl, ?_⟩
    have O47 := O38.nm
    exact (ih _ _ e) _ _ _ _ _ _ _ _ _ _ _ (O47.pick [0]).nm rfl rfl k_72 (r_72.sub T_api_Arm.T u42)
  · cases e
    exact ⟨_, _, _, _, O.pick [0], rfl, rfl⟩
theorem roadref2_counted.l2_k.all {p : roadref2_counted.l2_k.Pt} {r : ((List T_roadref2_scoped))} (e : roadref2_counted.l2_k.go p = some r) : roadref2_counted.l2_k.I p r := fixF_ind (β := fun _ => ((List T_roadref2_scoped))) roadref2_counted.l2_k.mono (I := roadref2_counted.l2_k.I) (fun go ih p r e => match p with
  | .l2 a_4 a_72 x_73 x_74 => roadref2_counted.l2_k.step_l2 go ih a_4 a_72 x_73 x_74 r e
  ) e
theorem roadref2_counted.l2.walk {W : Nat → Prop} {h0 m0 h m : Heap} {A_4 : Option Addr} {n_4 c_4 : Nat} {A_72 : Option Addr} {n_72 c_72 : Nat} {a_4 : List T_roadref2_scoped} {a_72 : List T_api_Arm} {x_73 : Int} {x_74 : Int} (O : Hold W h0 m0 h m [rR (aE T_roadref2_scoped.T) A_4 c_4 a_4]) (ne_4 : n_4 = List.length a_4) (ne_72 : n_72 = List.length a_72) (k_72 : List.length a_72 ≤ c_72) (r_72 : Rd 12 T_api_Arm.E m A_72 a_72) {r : (List T_roadref2_scoped)} (e : roadref2_counted.l2 a_4 a_72 x_73 x_74 = some r) : f57.l2 (roadref2_counted.post W h0 m0 r) A_4 n_4 c_4 A_72 n_72 c_72 x_73 x_74 h := roadref2_counted.l2_k.all (p := .l2 a_4 a_72 x_73 x_74) e W h0 m0 h m A_4 n_4 c_4 A_72 n_72 c_72 O ne_4 ne_72 k_72 r_72
noncomputable def roadref2_counted.j0 (y_1 : T_api_Expr) (a_4 : List T_roadref2_scoped) (b_70 : Bool) : Option ((List T_roadref2_scoped)) :=
  if b_70 = true then ((roadref2_counted.l2 a_4 y_1.Arms (((List.length y_1.Arms) : Nat) : Int) (0 : Int))) else (some (a_4))
set_option maxRecDepth 100000 in
theorem roadref2_counted.j0.walk {W : Nat → Prop} {h0 m0 h m : Heap} {bk_1 : Nat} {cs_1 : List Value} {A_4 : Option Addr} {n_4 c_4 : Nat} {y_1 : T_api_Expr} {a_4 : List T_roadref2_scoped} {b_70 : Bool} (O : Hold W h0 m0 h m [rV bk_1 40 cs_1, rR (aE T_roadref2_scoped.T) A_4 c_4 a_4]) (e_1 : T_api_Expr.E m y_1 cs_1) (ne_4 : n_4 = List.length a_4) {r : (List T_roadref2_scoped)} (e : roadref2_counted.j0 y_1 a_4 b_70 = some r) : f57.j0 (roadref2_counted.post W h0 m0 r) (⟨bk_1, 0, none⟩ : Addr) A_4 n_4 c_4 b_70 h := by
  unfold roadref2_counted.j0 at e
  subst ne_4
  refine f57.j0_in ?_
  unfold f57.j0T
  refine split_any_e e (fun c6 e => ?_) (fun c6 e => ?_)
  · obtain ⟨A1, c2, q3, k4, r5⟩ := T_api_Expr.g6 e_1
    refine ⟨_, ldk (k := 6) (Sub.refl _) (O.all 0 rfl) q3, _, _, _, rfl, ?_⟩
    exact roadref2_counted.l2.walk (O.pick [1]).nm rfl rfl k4 r5 e
  · cases e
    exact ⟨_, _, _, _, O.pick [1], rfl, rfl⟩
inductive roadref2_counted.l0_k.Pt where
  | l0 (y_1 : T_api_Expr) (a_4 : List T_roadref2_scoped) (x_33 : Int) (x_34 : Int)
  | j2 (y_1 : T_api_Expr) (a_4 : List T_roadref2_scoped) (x_7 : Int) (a_8 : List ByteArray) (x_33 : Int) (x_34 : Int) (b_43 : Bool)
  | j1 (y_1 : T_api_Expr) (a_4 : List T_roadref2_scoped) (x_7 : Int) (a_8 : List ByteArray) (x_33 : Int) (x_34 : Int)
  | j3 (y_1 : T_api_Expr) (a_4 : List T_roadref2_scoped) (x_7 : Int) (a_8 : List ByteArray) (x_33 : Int) (x_34 : Int)
noncomputable def roadref2_counted.l0_k.body (go : (p : roadref2_counted.l0_k.Pt) → Option ((List T_roadref2_scoped))) : (p : roadref2_counted.l0_k.Pt) → Option ((List T_roadref2_scoped))
  | .l0 y_1 a_4 x_33 x_34 => if x_34 < x_33 then (if y_1.Kind = (6 : Int) then ((go (.j2 y_1 a_4 x_34 ([] : List ByteArray) x_33 x_34 (x_34 == (1 : Int))))) else ((go (.j2 y_1 a_4 x_34 ([] : List ByteArray) x_33 x_34 false)))) else (if y_1.Kind = (13 : Int) then ((roadref2_counted.j0 y_1 a_4 true)) else ((roadref2_counted.j0 y_1 a_4 (y_1.Kind == (18 : Int)))))
  | .j2 y_1 a_4 x_7 a_8 x_33 x_34 b_43 => if b_43 = true then ((go (.j1 y_1 a_4 x_7 ([y_1.Text] : List ByteArray) x_33 x_34))) else ((go (.j1 y_1 a_4 x_7 a_8 x_33 x_34)))
  | .j1 y_1 a_4 x_7 a_8 x_33 x_34 => if y_1.Kind = (10 : Int) then ((go (.j3 y_1 a_4 x_7 y_1.Names x_33 x_34))) else ((go (.j3 y_1 a_4 x_7 a_8 x_33 x_34)))
  | .j3 y_1 a_4 x_7 a_8 x_33 x_34 => Option.bind (gi y_1.Args x_7) fun y6 => Option.bind (ap 160 a_4 ([(T_roadref2_scoped.mk y6 a_8)] : List T_roadref2_scoped)) fun l18 => (go (.l0 y_1 l18 x_33 (IntKind.wrap .i64 (x_34 + (1 : Int)))))
theorem roadref2_counted.l0_k.mono : MonoF (β := fun _ => ((List T_roadref2_scoped))) roadref2_counted.l0_k.body := fun f g hfg p => match p with
  | .l0 y_1 a_4 x_33 x_34 => LeO.ite (LeO.ite ((hfg _)) ((hfg _))) (LeO.ite ((LeO.refl _)) ((LeO.refl _)))
  | .j2 y_1 a_4 x_7 a_8 x_33 x_34 b_43 => LeO.ite ((hfg _)) ((hfg _))
  | .j1 y_1 a_4 x_7 a_8 x_33 x_34 => LeO.ite ((hfg _)) ((hfg _))
  | .j3 y_1 a_4 x_7 a_8 x_33 x_34 => LeO.bind (LeO.refl _) fun y6 => LeO.bind (LeO.refl _) fun l18 => (hfg _)
noncomputable def roadref2_counted.l0_k.go (p : roadref2_counted.l0_k.Pt) : Option ((List T_roadref2_scoped)) := fixF (β := fun _ => ((List T_roadref2_scoped))) roadref2_counted.l0_k.body p
noncomputable def roadref2_counted.l0 (y_1 : T_api_Expr) (a_4 : List T_roadref2_scoped) (x_33 : Int) (x_34 : Int) : Option ((List T_roadref2_scoped)) := roadref2_counted.l0_k.go (.l0 y_1 a_4 x_33 x_34)
noncomputable def roadref2_counted.j2 (y_1 : T_api_Expr) (a_4 : List T_roadref2_scoped) (x_7 : Int) (a_8 : List ByteArray) (x_33 : Int) (x_34 : Int) (b_43 : Bool) : Option ((List T_roadref2_scoped)) := roadref2_counted.l0_k.go (.j2 y_1 a_4 x_7 a_8 x_33 x_34 b_43)
noncomputable def roadref2_counted.j1 (y_1 : T_api_Expr) (a_4 : List T_roadref2_scoped) (x_7 : Int) (a_8 : List ByteArray) (x_33 : Int) (x_34 : Int) : Option ((List T_roadref2_scoped)) := roadref2_counted.l0_k.go (.j1 y_1 a_4 x_7 a_8 x_33 x_34)
noncomputable def roadref2_counted.j3 (y_1 : T_api_Expr) (a_4 : List T_roadref2_scoped) (x_7 : Int) (a_8 : List ByteArray) (x_33 : Int) (x_34 : Int) : Option ((List T_roadref2_scoped)) := roadref2_counted.l0_k.go (.j3 y_1 a_4 x_7 a_8 x_33 x_34)
theorem roadref2_counted.l0_eq (y_1 : T_api_Expr) (a_4 : List T_roadref2_scoped) (x_33 : Int) (x_34 : Int) : roadref2_counted.l0 y_1 a_4 x_33 x_34 = if x_34 < x_33 then (if y_1.Kind = (6 : Int) then ((roadref2_counted.j2 y_1 a_4 x_34 ([] : List ByteArray) x_33 x_34 (x_34 == (1 : Int)))) else ((roadref2_counted.j2 y_1 a_4 x_34 ([] : List ByteArray) x_33 x_34 false))) else (if y_1.Kind = (13 : Int) then ((roadref2_counted.j0 y_1 a_4 true)) else ((roadref2_counted.j0 y_1 a_4 (y_1.Kind == (18 : Int))))) := fixF_eq roadref2_counted.l0_k.mono _
theorem roadref2_counted.j2_eq (y_1 : T_api_Expr) (a_4 : List T_roadref2_scoped) (x_7 : Int) (a_8 : List ByteArray) (x_33 : Int) (x_34 : Int) (b_43 : Bool) : roadref2_counted.j2 y_1 a_4 x_7 a_8 x_33 x_34 b_43 = if b_43 = true then ((roadref2_counted.j1 y_1 a_4 x_7 ([y_1.Text] : List ByteArray) x_33 x_34)) else ((roadref2_counted.j1 y_1 a_4 x_7 a_8 x_33 x_34)) := fixF_eq roadref2_counted.l0_k.mono _
theorem roadref2_counted.j1_eq (y_1 : T_api_Expr) (a_4 : List T_roadref2_scoped) (x_7 : Int) (a_8 : List ByteArray) (x_33 : Int) (x_34 : Int) : roadref2_counted.j1 y_1 a_4 x_7 a_8 x_33 x_34 = if y_1.Kind = (10 : Int) then ((roadref2_counted.j3 y_1 a_4 x_7 y_1.Names x_33 x_34)) else ((roadref2_counted.j3 y_1 a_4 x_7 a_8 x_33 x_34)) := fixF_eq roadref2_counted.l0_k.mono _
theorem roadref2_counted.j3_eq (y_1 : T_api_Expr) (a_4 : List T_roadref2_scoped) (x_7 : Int) (a_8 : List ByteArray) (x_33 : Int) (x_34 : Int) : roadref2_counted.j3 y_1 a_4 x_7 a_8 x_33 x_34 = Option.bind (gi y_1.Args x_7) fun y6 => Option.bind (ap 160 a_4 ([(T_roadref2_scoped.mk y6 a_8)] : List T_roadref2_scoped)) fun l18 => (roadref2_counted.l0 y_1 l18 x_33 (IntKind.wrap .i64 (x_34 + (1 : Int)))) := fixF_eq roadref2_counted.l0_k.mono _
def roadref2_counted.l0_k.I : (p : roadref2_counted.l0_k.Pt) → ((List T_roadref2_scoped)) → Prop
  | .l0 y_1 a_4 x_33 x_34, r => ∀ (W : Nat → Prop) (h0 m0 h m : Heap) (bk_1 : Nat) (cs_1 : List Value) (A_4 : Option Addr) (n_4 c_4 : Nat) (O : Hold W h0 m0 h m [rV bk_1 40 cs_1, rR (aE T_roadref2_scoped.T) A_4 c_4 a_4]) (e_1 : T_api_Expr.E m y_1 cs_1) (ne_4 : n_4 = List.length a_4), f57.l0 (roadref2_counted.post W h0 m0 r) (⟨bk_1, 0, none⟩ : Addr) A_4 n_4 c_4 x_33 x_34 h
  | .j2 y_1 a_4 x_7 a_8 x_33 x_34 b_43, r => ∀ (W : Nat → Prop) (h0 m0 h m : Heap) (bk_1 : Nat) (cs_1 : List Value) (A_4 : Option Addr) (n_4 c_4 : Nat) (A_8 : Option Addr) (n_8 c_8 : Nat) (O : Hold W h0 m0 h m [rV bk_1 40 cs_1, rR (aE T_roadref2_scoped.T) A_4 c_4 a_4, rR (aE tell_str) A_8 c_8 a_8]) (e_1 : T_api_Expr.E m y_1 cs_1) (ne_4 : n_4 = List.length a_4) (ne_8 : n_8 = List.length a_8), f57.j2 (roadref2_counted.post W h0 m0 r) (⟨bk_1, 0, none⟩ : Addr) A_4 n_4 c_4 x_7 A_8 n_8 c_8 x_33 x_34 b_43 h
  | .j1 y_1 a_4 x_7 a_8 x_33 x_34, r => ∀ (W : Nat → Prop) (h0 m0 h m : Heap) (bk_1 : Nat) (cs_1 : List Value) (A_4 : Option Addr) (n_4 c_4 : Nat) (A_8 : Option Addr) (n_8 c_8 : Nat) (O : Hold W h0 m0 h m [rV bk_1 40 cs_1, rR (aE T_roadref2_scoped.T) A_4 c_4 a_4, rR (aE tell_str) A_8 c_8 a_8]) (e_1 : T_api_Expr.E m y_1 cs_1) (ne_4 : n_4 = List.length a_4) (ne_8 : n_8 = List.length a_8), f57.j1 (roadref2_counted.post W h0 m0 r) (⟨bk_1, 0, none⟩ : Addr) A_4 n_4 c_4 x_7 A_8 n_8 c_8 x_33 x_34 h
  | .j3 y_1 a_4 x_7 a_8 x_33 x_34, r => ∀ (W : Nat → Prop) (h0 m0 h m : Heap) (bk_1 : Nat) (cs_1 : List Value) (A_4 : Option Addr) (n_4 c_4 : Nat) (A_8 : Option Addr) (n_8 c_8 : Nat) (O : Hold W h0 m0 h m [rV bk_1 40 cs_1, rR (aE T_roadref2_scoped.T) A_4 c_4 a_4]) (e_1 : T_api_Expr.E m y_1 cs_1) (ne_4 : n_4 = List.length a_4) (ne_8 : n_8 = List.length a_8) (k_8 : List.length a_8 ≤ c_8) (r_8 : Rd 1 eStr m A_8 a_8), f57.j3 (roadref2_counted.post W h0 m0 r) (⟨bk_1, 0, none⟩ : Addr) A_4 n_4 c_4 x_7 A_8 n_8 c_8 x_33 x_34 h
set_option maxRecDepth 100000 in
theorem roadref2_counted.l0_k.step_l0 (go : (p : roadref2_counted.l0_k.Pt) → Option ((List T_roadref2_scoped))) (ih : ∀ p r, go p = some r → roadref2_counted.l0_k.I p r) (y_1 : T_api_Expr) (a_4 : List T_roadref2_scoped) (x_33 : Int) (x_34 : Int) (r : (List T_roadref2_scoped)) (e : roadref2_counted.l0_k.body go (.l0 y_1 a_4 x_33 x_34) = some r) : roadref2_counted.l0_k.I (.l0 y_1 a_4 x_33 x_34) r := by
  unfold roadref2_counted.l0_k.body at e
  intro W h0 m0 h m bk_1 cs_1 A_4 n_4 c_4 O e_1 ne_4
  subst ne_4
  refine f57.l0_in ?_
  unfold f57.l0T
  refine split_dec_e e (fun c9 e => ?_) (fun c9 e => ?_)
  · refine ⟨_, ld0 (Sub.refl _) (O.all 0 rfl) (T_api_Expr.g0 e_1), _, rfl, ?_⟩
    refine split_eq_e e (fun c7 e => ?_) (fun c7 e => ?_)
    · have O1 := O.nil (aE tell_str) none
      have O3 := O1.nm
      exact (ih _ _ e) _ _ _ _ _ _ _ _ _ _ _ _ _ (O3.pick [0, 1, 2]).nm e_1 rfl rfl
    · have O4 := O.nil (aE tell_str) none
      have O6 := O4.nm
      exact (ih _ _ e) _ _ _ _ _ _ _ _ _ _ _ _ _ (O6.pick [0, 1, 2]).nm e_1 rfl rfl
  · refine ⟨_, ld0 (Sub.refl _) (O.all 0 rfl) (T_api_Expr.g0 e_1), _, rfl, ?_⟩
    refine split_eq_e e (fun c8 e => ?_) (fun c8 e => ?_)
    · exact roadref2_counted.j0.walk (O.pick [0, 1]).nm e_1 rfl e
    · refine ⟨_, ld0 (Sub.refl _) (O.all 0 rfl) (T_api_Expr.g0 e_1), _, rfl, ?_⟩
      exact roadref2_counted.j0.walk (O.pick [0, 1]).nm e_1 rfl e
set_option maxRecDepth 100000 in
theorem roadref2_counted.l0_k.step_j2 (go : (p : roadref2_counted.l0_k.Pt) → Option ((List T_roadref2_scoped))) (ih : ∀ p r, go p = some r → roadref2_counted.l0_k.I p r) (y_1 : T_api_Expr) (a_4 : List T_roadref2_scoped) (x_7 : Int) (a_8 : List ByteArray) (x_33 : Int) (x_34 : Int) (b_43 : Bool) (r : (List T_roadref2_scoped)) (e : roadref2_counted.l0_k.body go (.j2 y_1 a_4 x_7 a_8 x_33 x_34 b_43) = some r) : roadref2_counted.l0_k.I (.j2 y_1 a_4 x_7 a_8 x_33 x_34 b_43) r := by
  unfold roadref2_counted.l0_k.body at e
  intro W h0 m0 h m bk_1 cs_1 A_4 n_4 c_4 A_8 n_8 c_8 O e_1 ne_4 ne_8
  subst ne_4
  subst ne_8
  refine f57.j2_in ?_
  unfold f57.j2T
  refine split_any_e e (fun c7 e => ?_) (fun c7 e => ?_)
  · refine ⟨_, ldk (k := 2) (Sub.refl _) (O.all 0 rfl) (T_api_Expr.g2 e_1), _, rfl, ?_⟩
    refine O.new fun h1 x2 O3 => ?_
    have O5 := O3.rowE (l := ([y_1.Text] : List ByteArray)) 3 rfl tell_str (show CsE _ _ _ _ _ from (CsE.cons (c1 := [(Value.string y_1.Text)]) rfl rfl CsE.nil)) rfl
    have O6 := O5.nm
    exact (ih _ _ e) _ _ _ _ _ _ _ _ _ _ _ _ _ (O6.pick [0, 1, 3]).nm e_1 rfl rfl
  · exact (ih _ _ e) _ _ _ _ _ _ _ _ _ _ _ _ _ (O.pick [0, 1, 2]).nm e_1 rfl rfl
set_option maxRecDepth 100000 in
theorem roadref2_counted.l0_k.step_j1 (go : (p : roadref2_counted.l0_k.Pt) → Option ((List T_roadref2_scoped))) (ih : ∀ p r, go p = some r → roadref2_counted.l0_k.I p r) (y_1 : T_api_Expr) (a_4 : List T_roadref2_scoped) (x_7 : Int) (a_8 : List ByteArray) (x_33 : Int) (x_34 : Int) (r : (List T_roadref2_scoped)) (e : roadref2_counted.l0_k.body go (.j1 y_1 a_4 x_7 a_8 x_33 x_34) = some r) : roadref2_counted.l0_k.I (.j1 y_1 a_4 x_7 a_8 x_33 x_34) r := by
  unfold roadref2_counted.l0_k.body at e
  intro W h0 m0 h m bk_1 cs_1 A_4 n_4 c_4 A_8 n_8 c_8 O e_1 ne_4 ne_8
  subst ne_4
  subst ne_8
  refine f57.j1_in ?_
  unfold f57.j1T
  refine ⟨_, ld0 (Sub.refl _) (O.all 0 rfl) (T_api_Expr.g0 e_1), _, rfl, ?_⟩
  refine split_eq_e e (fun c12 e => ?_) (fun c12 e => ?_)
  · obtain ⟨A1, c2, q3, k4, r5⟩ := T_api_Expr.g3 e_1
    refine ⟨_, ldk (k := 3) (Sub.refl _) (O.all 0 rfl) q3, _, _, _, rfl, ?_⟩
    exact (ih _ _ e) _ _ _ _ _ _ _ _ _ _ _ _ _ (O.pick [0, 1]).nm e_1 rfl rfl k4 r5
  · obtain ⟨m6, u7, ⟨r8, k9⟩, O10⟩ := O.frz 2 rfl
    replace r8 : Rd 1 eStr m6 A_8 a_8 := r8
    have O11 := O10.nm
    exact (ih _ _ e) _ _ _ _ _ _ _ _ _ _ _ _ _ (O11.pick [0, 1]).nm (T_api_Expr.T.mono _ _ _ _ u7 e_1) rfl rfl k9 r8
set_option maxRecDepth 100000 in
theorem roadref2_counted.l0_k.step_j3 (go : (p : roadref2_counted.l0_k.Pt) → Option ((List T_roadref2_scoped))) (ih : ∀ p r, go p = some r → roadref2_counted.l0_k.I p r) (y_1 : T_api_Expr) (a_4 : List T_roadref2_scoped) (x_7 : Int) (a_8 : List ByteArray) (x_33 : Int) (x_34 : Int) (r : (List T_roadref2_scoped)) (e : roadref2_counted.l0_k.body go (.j3 y_1 a_4 x_7 a_8 x_33 x_34) = some r) : roadref2_counted.l0_k.I (.j3 y_1 a_4 x_7 a_8 x_33 x_34) r := by
  unfold roadref2_counted.l0_k.body at e
  intro W h0 m0 h m bk_1 cs_1 A_4 n_4 c_4 A_8 n_8 c_8 O e_1 ne_4 ne_8 k_8 r_8
  subst ne_4
  subst ne_8
  refine f57.j3_in ?_
  unfold f57.j3T
  obtain ⟨A1, c2, q3, k4, r5⟩ := T_api_Expr.g5 e_1
  refine ⟨_, ldk (k := 5) (Sub.refl _) (O.all 0 rfl) q3, _, _, _, rfl, ?_⟩
  obtain ⟨y6, g7, e⟩ := bind_e e
  refine r5.addr rfl g7 fun a8 cs9 ha10 hc11 he12 => ?_
  refine ⟨_, ldAn O.s hc11 rfl, ?_⟩
  obtain ⟨Ae13_3, ce13_3, Ae13_4, ce13_4, Ae13_5, ce13_5, Ae13_6, ce13_6, rfl, ke13_3, re13_3, ke13_4, re13_4, ke13_5, re13_5, ke13_6, re13_6⟩ := T_api_Expr.iff.1 he12
  refine ⟨[(Value.int .i64 y6.Kind), (Value.int .i64 y6.Num), (Value.string y6.Text), (Value.slice Ae13_3 (List.length y6.Names) ce13_3), (Value.slice Ae13_4 (List.length y6.Types) ce13_4), (Value.slice Ae13_5 (List.length y6.Args) ce13_5), (Value.slice Ae13_6 (List.length y6.Arms) ce13_6), (Value.int .i64 y6.At)], rfl, rfl, ?_⟩
  refine ⟨[(Value.int .i64 y6.Kind), (Value.int .i64 y6.Num), (Value.string y6.Text), (Value.slice Ae13_3 (List.length y6.Names) ce13_3), (Value.slice Ae13_4 (List.length y6.Types) ce13_4), (Value.slice Ae13_5 (List.length y6.Args) ce13_5), (Value.slice Ae13_6 (List.length y6.Arms) ce13_6), (Value.int .i64 y6.At), (Value.slice A_8 (List.length a_8) c_8)], rfl, rfl, ?_⟩
  refine O.new fun h14 x15 O16 => ?_
  obtain ⟨l18, g19, e⟩ := bind_e e
  have O26 := O16.rowE (l := ([(T_roadref2_scoped.mk y6 a_8)] : List T_roadref2_scoped)) 2 rfl T_roadref2_scoped.T (show CsE _ _ _ _ _ from (CsE.cons (c1 := [(Value.int .i64 y6.Kind), (Value.int .i64 y6.Num), (Value.string y6.Text), (Value.slice Ae13_3 (List.length y6.Names) ce13_3), (Value.slice Ae13_4 (List.length y6.Types) ce13_4), (Value.slice Ae13_5 (List.length y6.Args) ce13_5), (Value.slice Ae13_6 (List.length y6.Arms) ce13_6), (Value.int .i64 y6.At), (Value.slice A_8 (List.length a_8) c_8)]) (show T_roadref2_scoped.E _ (T_roadref2_scoped.mk y6 a_8) [(Value.int .i64 y6.Kind), (Value.int .i64 y6.Num), (Value.string y6.Text), (Value.slice Ae13_3 (List.length y6.Names) ce13_3), (Value.slice Ae13_4 (List.length y6.Types) ce13_4), (Value.slice Ae13_5 (List.length y6.Args) ce13_5), (Value.slice Ae13_6 (List.length y6.Arms) ce13_6), (Value.int .i64 y6.At), (Value.slice A_8 (List.length a_8) c_8)] from ⟨_, _, _, _, _, _, _, _, _, _, rfl, ke13_3, re13_3, ke13_4, re13_4, ke13_5, re13_5, ke13_6, re13_6, k_8, r_8⟩) rfl CsE.nil)) rfl
  refine O26.app 1 rfl rfl rfl ((O26.os 2 rfl).srcE rfl) (by decide) g19 fun A20 c21 h22 O23 => ?_
  refine ⟨_, _, _, rfl, ?_⟩
  have O27 := O23.nm
  exact (ih _ _ e) _ _ _ _ _ _ _ _ _ _ (O27.pick [0, 1]).nm e_1 rfl
theorem roadref2_counted.l0_k.all {p : roadref2_counted.l0_k.Pt} {r : ((List T_roadref2_scoped))} (e : roadref2_counted.l0_k.go p = some r) : roadref2_counted.l0_k.I p r := fixF_ind (β := fun _ => ((List T_roadref2_scoped))) roadref2_counted.l0_k.mono (I := roadref2_counted.l0_k.I) (fun go ih p r e => match p with
  | .l0 y_1 a_4 x_33 x_34 => roadref2_counted.l0_k.step_l0 go ih y_1 a_4 x_33 x_34 r e
  | .j2 y_1 a_4 x_7 a_8 x_33 x_34 b_43 => roadref2_counted.l0_k.step_j2 go ih y_1 a_4 x_7 a_8 x_33 x_34 b_43 r e
  | .j1 y_1 a_4 x_7 a_8 x_33 x_34 => roadref2_counted.l0_k.step_j1 go ih y_1 a_4 x_7 a_8 x_33 x_34 r e
  | .j3 y_1 a_4 x_7 a_8 x_33 x_34 => roadref2_counted.l0_k.step_j3 go ih y_1 a_4 x_7 a_8 x_33 x_34 r e
  ) e
theorem roadref2_counted.l0.walk {W : Nat → Prop} {h0 m0 h m : Heap} {bk_1 : Nat} {cs_1 : List Value} {A_4 : Option Addr} {n_4 c_4 : Nat} {y_1 : T_api_Expr} {a_4 : List T_roadref2_scoped} {x_33 : Int} {x_34 : Int} (O : Hold W h0 m0 h m [rV bk_1 40 cs_1, rR (aE T_roadref2_scoped.T) A_4 c_4 a_4]) (e_1 : T_api_Expr.E m y_1 cs_1) (ne_4 : n_4 = List.length a_4) {r : (List T_roadref2_scoped)} (e : roadref2_counted.l0 y_1 a_4 x_33 x_34 = some r) : f57.l0 (roadref2_counted.post W h0 m0 r) (⟨bk_1, 0, none⟩ : Addr) A_4 n_4 c_4 x_33 x_34 h := roadref2_counted.l0_k.all (p := .l0 y_1 a_4 x_33 x_34) e W h0 m0 h m bk_1 cs_1 A_4 n_4 c_4 O e_1 ne_4
noncomputable def roadref2_counted (y_0 : T_api_Expr) : Option ((List T_roadref2_scoped)) :=
  Option.bind (roadref2_NeedsOf y_0) fun y5 => if y5 > (((List.length y_0.Args) : Nat) : Int) then ((roadref2_counted.l1 ([] : List T_roadref2_scoped) y_0.Args (((List.length y_0.Args) : Nat) : Int) (0 : Int))) else ((roadref2_counted.l0 y_0 ([] : List T_roadref2_scoped) (if (0 : Int) > y5 then (0 : Int) else y5) (0 : Int)))
set_option maxRecDepth 100000 in
theorem roadref2_counted.walk {W : Nat → Prop} {h m : Heap} {cs_0 : List Value} {y_0 : T_api_Expr} (O : Hold W h m h m []) (e_0 : T_api_Expr.E m y_0 cs_0) {r : (List T_roadref2_scoped)} (e : roadref2_counted y_0 = some r) : Run Tryd.prog 57 #[Value.agg cs_0.toArray] h (roadref2_counted.post W h m r) := by
  unfold roadref2_counted at e
  refine f57.run ?_
  unfold f57.runT
  refine O.new fun h1 x2 O3 => ?_
  refine ⟨_, ldAn (Sub.refl _) (O3.all 0 rfl) (T_api_Expr.T.len _ _ _ e_0), ?_⟩
  obtain ⟨y5, g6, e⟩ := bind_e e
  refine (roadref2_NeedsOf.walk (Hold.start (W := No) O3.s) e_0 g6).mono ?_
  rintro _ h7 ⟨m8, Q9, rfl⟩
  have O11 := Hold.nm (O3.retC Q9 vfs_nil)
  refine ⟨_, rfl, ?_⟩
  obtain ⟨A12, c13, q14, k15, r16⟩ := T_api_Expr.g5 e_0
  refine ⟨_, ldk (k := 5) (Sub.refl _) (O11.all 0 rfl) q14, _, _, _, rfl, ?_⟩
  refine split_dec_e e (fun c28 e => ?_) (fun c28 e => ?_)
  · obtain ⟨A17, c18, q19, k20, r21⟩ := T_api_Expr.g5 e_0
    refine ⟨_, ldk (k := 5) (Sub.refl _) (O11.all 0 rfl) q19, _, _, _, rfl, ?_⟩
    have O22 := O11.nil (aE T_roadref2_scoped.T) none
    have O24 := O22.nm
    exact roadref2_counted.l1.walk (O24.pick [1]).nm rfl rfl k20 r21 e
  · have O25 := O11.nil (aE T_roadref2_scoped.T) none
    have O27 := O25.nm
    exact roadref2_counted.l0.walk (O27.pick [0, 1]).nm e_0 rfl e
def roadref2_FreeOf.post (W : Nat → Prop) (h0 m0 : Heap) (r : (List ByteArray)) (v : Value) (h : Heap) : Prop := ∃ m A0 n0 c0, Hold W h0 m0 h m [rR (aE tell_str) A0 c0 r] ∧ v = .slice A0 n0 c0 ∧ n0 = List.length r
inductive roadref2_FreeOf_k.Pt where
  | f (y_0 : T_api_Expr)
  | l0 (a_3 : List ByteArray) (a_15 : List T_roadref2_scoped) (x_16 : Int) (x_17 : Int)
  | l1 (a_3 : List ByteArray) (y_5 : T_roadref2_scoped) (a_15 : List T_roadref2_scoped) (x_16 : Int) (x_17 : Int) (a_23 : List ByteArray) (x_24 : Int) (x_25 : Int)
  | j0 (a_3 : List ByteArray) (y_5 : T_roadref2_scoped) (s_7 : ByteArray) (a_15 : List T_roadref2_scoped) (x_16 : Int) (x_17 : Int) (a_23 : List ByteArray) (x_24 : Int) (x_25 : Int) (b_39 : Bool)
noncomputable def roadref2_FreeOf_k.body (go : (p : roadref2_FreeOf_k.Pt) → Option ((List ByteArray))) : (p : roadref2_FreeOf_k.Pt) → Option ((List ByteArray))
  | .f y_0 => if y_0.Kind = (5 : Int) then (some (([y_0.Text] : List ByteArray))) else (Option.bind (roadref2_counted y_0) fun y11 => (go (.l0 ([] : List ByteArray) y11 (((List.length y11) : Nat) : Int) (0 : Int))))
  | .l0 a_3 a_15 x_16 x_17 => if x_17 < x_16 then (Option.bind (gi a_15 x_17) fun y1 => Option.bind ((go (.f y1.e_))) fun y14 => (go (.l1 a_3 y1 a_15 x_16 x_17 y14 (((List.length y14) : Nat) : Int) (0 : Int)))) else (some (a_3))
  | .l1 a_3 y_5 a_15 x_16 x_17 a_23 x_24 x_25 => if x_25 < x_24 then (Option.bind (gi a_23 x_25) fun y1 => Option.bind (slices_Contains_58 y_5.names_ y1) fun y13 => if y13 = true then ((go (.j0 a_3 y_5 y1 a_15 x_16 x_17 a_23 x_24 x_25 false))) else (Option.bind (slices_Contains_58 a_3 y1) fun y20 => (go (.j0 a_3 y_5 y1 a_15 x_16 x_17 a_23 x_24 x_25 (!y20))))) else ((go (.l0 a_3 a_15 x_16 (IntKind.wrap .i64 (x_17 + (1 : Int))))))
  | .j0 a_3 y_5 s_7 a_15 x_16 x_17 a_23 x_24 x_25 b_39 => if b_39 = true then (Option.bind (ap 16 a_3 ([s_7] : List ByteArray)) fun l5 => (go (.l1 l5 y_5 a_15 x_16 x_17 a_23 x_24 (IntKind.wrap .i64 (x_25 + (1 : Int)))))) else ((go (.l1 a_3 y_5 a_15 x_16 x_17 a_23 x_24 (IntKind.wrap .i64 (x_25 + (1 : Int))))))
theorem roadref2_FreeOf_k.mono : MonoF (β := fun _ => ((List ByteArray))) roadref2_FreeOf_k.body := fun f g hfg p => match p with
  | .f y_0 => LeO.ite (LeO.refl _) (LeO.bind (LeO.refl _) fun y11 => (hfg _))
  | .l0 a_3 a_15 x_16 x_17 => LeO.ite (LeO.bind (LeO.refl _) fun y1 => LeO.bind ((hfg _)) fun y14 => (hfg _)) (LeO.refl _)
  | .l1 a_3 y_5 a_15 x_16 x_17 a_23 x_24 x_25 => LeO.ite (LeO.bind (LeO.refl _) fun y1 => LeO.bind (LeO.refl _) fun y13 => LeO.ite ((hfg _)) (LeO.bind (LeO.refl _) fun y20 => (hfg _))) ((hfg _))
  | .j0 a_3 y_5 s_7 a_15 x_16 x_17 a_23 x_24 x_25 b_39 => LeO.ite (LeO.bind (LeO.refl _) fun l5 => (hfg _)) ((hfg _))
noncomputable def roadref2_FreeOf_k.go (p : roadref2_FreeOf_k.Pt) : Option ((List ByteArray)) := fixF (β := fun _ => ((List ByteArray))) roadref2_FreeOf_k.body p
noncomputable def roadref2_FreeOf (y_0 : T_api_Expr) : Option ((List ByteArray)) := roadref2_FreeOf_k.go (.f y_0)
noncomputable def roadref2_FreeOf.l0 (a_3 : List ByteArray) (a_15 : List T_roadref2_scoped) (x_16 : Int) (x_17 : Int) : Option ((List ByteArray)) := roadref2_FreeOf_k.go (.l0 a_3 a_15 x_16 x_17)
noncomputable def roadref2_FreeOf.l1 (a_3 : List ByteArray) (y_5 : T_roadref2_scoped) (a_15 : List T_roadref2_scoped) (x_16 : Int) (x_17 : Int) (a_23 : List ByteArray) (x_24 : Int) (x_25 : Int) : Option ((List ByteArray)) := roadref2_FreeOf_k.go (.l1 a_3 y_5 a_15 x_16 x_17 a_23 x_24 x_25)
noncomputable def roadref2_FreeOf.j0 (a_3 : List ByteArray) (y_5 : T_roadref2_scoped) (s_7 : ByteArray) (a_15 : List T_roadref2_scoped) (x_16 : Int) (x_17 : Int) (a_23 : List ByteArray) (x_24 : Int) (x_25 : Int) (b_39 : Bool) : Option ((List ByteArray)) := roadref2_FreeOf_k.go (.j0 a_3 y_5 s_7 a_15 x_16 x_17 a_23 x_24 x_25 b_39)
theorem roadref2_FreeOf_eq (y_0 : T_api_Expr) : roadref2_FreeOf y_0 = if y_0.Kind = (5 : Int) then (some (([y_0.Text] : List ByteArray))) else (Option.bind (roadref2_counted y_0) fun y11 => (roadref2_FreeOf.l0 ([] : List ByteArray) y11 (((List.length y11) : Nat) : Int) (0 : Int))) := fixF_eq roadref2_FreeOf_k.mono _
theorem roadref2_FreeOf.l0_eq (a_3 : List ByteArray) (a_15 : List T_roadref2_scoped) (x_16 : Int) (x_17 : Int) : roadref2_FreeOf.l0 a_3 a_15 x_16 x_17 = if x_17 < x_16 then (Option.bind (gi a_15 x_17) fun y1 => Option.bind ((roadref2_FreeOf y1.e_)) fun y14 => (roadref2_FreeOf.l1 a_3 y1 a_15 x_16 x_17 y14 (((List.length y14) : Nat) : Int) (0 : Int))) else (some (a_3)) := fixF_eq roadref2_FreeOf_k.mono _
theorem roadref2_FreeOf.l1_eq (a_3 : List ByteArray) (y_5 : T_roadref2_scoped) (a_15 : List T_roadref2_scoped) (x_16 : Int) (x_17 : Int) (a_23 : List ByteArray) (x_24 : Int) (x_25 : Int) : roadref2_FreeOf.l1 a_3 y_5 a_15 x_16 x_17 a_23 x_24 x_25 = if x_25 < x_24 then (Option.bind (gi a_23 x_25) fun y1 => Option.bind (slices_Contains_58 y_5.names_ y1) fun y13 => if y13 = true then ((roadref2_FreeOf.j0 a_3 y_5 y1 a_15 x_16 x_17 a_23 x_24 x_25 false)) else (Option.bind (slices_Contains_58 a_3 y1) fun y20 => (roadref2_FreeOf.j0 a_3 y_5 y1 a_15 x_16 x_17 a_23 x_24 x_25 (!y20)))) else ((roadref2_FreeOf.l0 a_3 a_15 x_16 (IntKind.wrap .i64 (x_17 + (1 : Int))))) := fixF_eq roadref2_FreeOf_k.mono _
theorem roadref2_FreeOf.j0_eq (a_3 : List ByteArray) (y_5 : T_roadref2_scoped) (s_7 : ByteArray) (a_15 : List T_roadref2_scoped) (x_16 : Int) (x_17 : Int) (a_23 : List ByteArray) (x_24 : Int) (x_25 : Int) (b_39 : Bool) : roadref2_FreeOf.j0 a_3 y_5 s_7 a_15 x_16 x_17 a_23 x_24 x_25 b_39 = if b_39 = true then (Option.bind (ap 16 a_3 ([s_7] : List ByteArray)) fun l5 => (roadref2_FreeOf.l1 l5 y_5 a_15 x_16 x_17 a_23 x_24 (IntKind.wrap .i64 (x_25 + (1 : Int))))) else ((roadref2_FreeOf.l1 a_3 y_5 a_15 x_16 x_17 a_23 x_24 (IntKind.wrap .i64 (x_25 + (1 : Int))))) := fixF_eq roadref2_FreeOf_k.mono _
def roadref2_FreeOf_k.I : (p : roadref2_FreeOf_k.Pt) → ((List ByteArray)) → Prop
  | .f y_0, r => ∀ (W : Nat → Prop) (h m : Heap) (cs_0 : List Value) (O : Hold W h m h m []) (e_0 : T_api_Expr.E m y_0 cs_0), Run Tryd.prog 22 #[Value.agg cs_0.toArray] h (roadref2_FreeOf.post W h m r)
  | .l0 a_3 a_15 x_16 x_17, r => ∀ (W : Nat → Prop) (h0 m0 h m : Heap) (A_3 : Option Addr) (n_3 c_3 : Nat) (A_15 : Option Addr) (n_15 c_15 : Nat) (O : Hold W h0 m0 h m [rR (aE tell_str) A_3 c_3 a_3, rR (aE T_roadref2_scoped.T) A_15 c_15 a_15]) (ne_3 : n_3 = List.length a_3) (ne_15 : n_15 = List.length a_15), f22.l0 (roadref2_FreeOf.post W h0 m0 r) A_3 n_3 c_3 A_15 n_15 c_15 x_16 x_17 h
  | .l1 a_3 y_5 a_15 x_16 x_17 a_23 x_24 x_25, r => ∀ (W : Nat → Prop) (h0 m0 h m : Heap) (A_3 : Option Addr) (n_3 c_3 : Nat) (bk_5 : Nat) (cs_5 : List Value) (A_15 : Option Addr) (n_15 c_15 : Nat) (A_23 : Option Addr) (n_23 c_23 : Nat) (O : Hold W h0 m0 h m [rR (aE tell_str) A_3 c_3 a_3, rV bk_5 102 cs_5, rR (aE T_roadref2_scoped.T) A_15 c_15 a_15, rR (aE tell_str) A_23 c_23 a_23]) (ne_3 : n_3 = List.length a_3) (e_5 : T_roadref2_scoped.E m y_5 cs_5) (ne_15 : n_15 = List.length a_15) (ne_23 : n_23 = List.length a_23), f22.l1 (roadref2_FreeOf.post W h0 m0 r) A_3 n_3 c_3 (⟨bk_5, 0, none⟩ : Addr) A_15 n_15 c_15 x_16 x_17 A_23 n_23 c_23 x_24 x_25 h
  | .j0 a_3 y_5 s_7 a_15 x_16 x_17 a_23 x_24 x_25 b_39, r => ∀ (W : Nat → Prop) (h0 m0 h m : Heap) (A_3 : Option Addr) (n_3 c_3 : Nat) (bk_5 : Nat) (cs_5 : List Value) (A_15 : Option Addr) (n_15 c_15 : Nat) (A_23 : Option Addr) (n_23 c_23 : Nat) (O : Hold W h0 m0 h m [rR (aE tell_str) A_3 c_3 a_3, rV bk_5 102 cs_5, rR (aE T_roadref2_scoped.T) A_15 c_15 a_15, rR (aE tell_str) A_23 c_23 a_23]) (ne_3 : n_3 = List.length a_3) (e_5 : T_roadref2_scoped.E m y_5 cs_5) (ne_15 : n_15 = List.length a_15) (ne_23 : n_23 = List.length a_23), f22.j0 (roadref2_FreeOf.post W h0 m0 r) A_3 n_3 c_3 (⟨bk_5, 0, none⟩ : Addr) s_7 A_15 n_15 c_15 x_16 x_17 A_23 n_23 c_23 x_24 x_25 b_39 h
set_option maxRecDepth 100000 in
theorem roadref2_FreeOf_k.step_f (go : (p : roadref2_FreeOf_k.Pt) → Option ((List ByteArray))) (ih : ∀ p r, go p = some r → roadref2_FreeOf_k.I p r) (y_0 : T_api_Expr) (r : (List ByteArray)) (e : roadref2_FreeOf_k.body go (.f y_0) = some r) : roadref2_FreeOf_k.I (.f y_0) r := by
  unfold roadref2_FreeOf_k.body at e
  intro W h m cs_0 O e_0
  refine f22.run ?_
  unfold f22.runT
  refine O.new fun h1 x2 O3 => ?_
  refine ⟨_, ld0 (Sub.refl _) (O3.all 0 rfl) (T_api_Expr.g0 e_0), _, rfl, ?_⟩
  refine split_eq_e e (fun c26 e => ?_) (fun c26 e => ?_)
  · refine ⟨_, ldk (k := 2) (Sub.refl _) (O3.all 0 rfl) (T_api_Expr.g2 e_0), _, rfl, ?_⟩
    refine O3.new fun h5 x6 O7 => ?_
    have O9 := O7.rowE (l := ([y_0.Text] : List ByteArray)) 1 rfl tell_str (show CsE _ _ _ _ _ from (CsE.cons (c1 := [(Value.string y_0.Text)]) rfl rfl CsE.nil)) rfl
    have O10 := O9.nm
    cases e
    exact ⟨_, _, _, _, O10.pick [1], rfl, rfl⟩
  · refine ⟨_, ldAn (Sub.refl _) (O3.all 0 rfl) (T_api_Expr.T.len _ _ _ e_0), ?_⟩
    obtain ⟨y11, g12, e⟩ := bind_e e
    refine (roadref2_counted.walk (Hold.start (W := No) O3.s) e_0 g12).mono ?_
    rintro _ h13 ⟨m14, A17, n18, c19, Q15, rfl, ne20⟩
    have O22 := Hold.nm (O3.ret Q15)
    subst ne20
    refine ⟨_, _, _, rfl, ?_⟩
    have O23 := O22.nil (aE tell_str) none
    have O25 := O23.nm
    exact (ih _ _ e) _ _ _ _ _ _ _ _ _ _ _ (O25.pick [2, 1]).nm rfl rfl
set_option maxRecDepth 100000 in
theorem roadref2_FreeOf_k.step_l0 (go : (p : roadref2_FreeOf_k.Pt) → Option ((List ByteArray))) (ih : ∀ p r, go p = some r → roadref2_FreeOf_k.I p r) (a_3 : List ByteArray) (a_15 : List T_roadref2_scoped) (x_16 : Int) (x_17 : Int) (r : (List ByteArray)) (e : roadref2_FreeOf_k.body go (.l0 a_3 a_15 x_16 x_17) = some r) : roadref2_FreeOf_k.I (.l0 a_3 a_15 x_16 x_17) r := by
  unfold roadref2_FreeOf_k.body at e
  intro W h0 m0 h m A_3 n_3 c_3 A_15 n_15 c_15 O ne_3 ne_15
  subst ne_3
  subst ne_15
  refine f22.l0_in ?_
  unfold f22.l0T
  refine split_dec_e e (fun c26 e => ?_) (fun c26 e => ?_)
  · obtain ⟨y1, g2, e⟩ := bind_e e
    refine (O.os 1 rfl).addr rfl g2 fun a3 cs4 ha5 hc6 he7 => ?_
    refine ⟨_, ldAn (Sub.refl _) hc6 rfl, ?_⟩
    refine O.new fun h8 x9 O10 => ?_
    refine ⟨_, rfl, (T_roadref2_scoped.T.len _ _ _ he7), ?_⟩
    refine O10.stA 2 rfl (T_roadref2_scoped.T.len _ _ _ he7) (T_roadref2_scoped.T.flat _ _ _ he7) fun h12 O13 => ?_
    refine ⟨_, ldA0n (Sub.refl _) (O13.all 2 rfl) 8 (le_len (T_roadref2_scoped.T.len _ _ _ he7) (by decide)), ?_⟩
    obtain ⟨y14, g15, e⟩ := bind_e e
    refine ((ih _ _ g15) _ _ _ _ (Hold.start (W := No) O13.s) (T_roadref2_scoped.u0_40 he7)).mono ?_
    rintro _ h16 ⟨m17, A20, n21, c22, Q18, rfl, ne23⟩
    have O25 := Hold.nm (O13.retC Q18 (vfs_cons (rR_vf (aE_vf (fun _ _ _ _ h => h))) vfs_nil))
    subst ne23
    refine ⟨_, _, _, rfl, ?_⟩
    exact (ih _ _ e) _ _ _ _ _ _ _ _ _ _ _ _ _ _ _ _ (O25.pick [0, 2, 1, 3]).nm rfl he7 rfl rfl
  · cases e
    exact ⟨_, _, _, _, O.pick [0], rfl, rfl⟩
set_option maxRecDepth 100000 in
theorem roadref2_FreeOf_k.step_l1 (go : (p : roadref2_FreeOf_k.Pt) → Option ((List ByteArray))) (ih : ∀ p r, go p = some r → roadref2_FreeOf_k.I p r) (a_3 : List ByteArray) (y_5 : T_roadref2_scoped) (a_15 : List T_roadref2_scoped) (x_16 : Int) (x_17 : Int) (a_23 : List ByteArray) (x_24 : Int) (x_25 : Int) (r : (List ByteArray)) (e : roadref2_FreeOf_k.body go (.l1 a_3 y_5 a_15 x_16 x_17 a_23 x_24 x_25) = some r) : roadref2_FreeOf_k.I (.l1 a_3 y_5 a_15 x_16 x_17 a_23 x_24 x_25) r := by
  unfold roadref2_FreeOf_k.body at e
  intro W h0 m0 h m A_3 n_3 c_3 bk_5 cs_5 A_15 n_15 c_15 A_23 n_23 c_23 O ne_3 e_5 ne_15 ne_23
  subst ne_3
  subst ne_15
  subst ne_23
  refine f22.l1_in ?_
  unfold f22.l1T
  refine split_dec_e e (fun c35 e => ?_) (fun c35 e => ?_)
  · obtain ⟨y1, g2, e⟩ := bind_e e
    refine (O.os 3 rfl).addr rfl g2 fun a3 cs4 ha5 hc6 he7 => ?_
    obtain rfl : cs4 = [(Value.string y1)] := he7
    refine ⟨_, ld0 (Sub.refl _) hc6 rfl, _, rfl, ?_⟩
    obtain ⟨A8, c9, q10, k11, r12⟩ := T_roadref2_scoped.g8 e_5
    refine ⟨_, ldk (k := 8) (Sub.refl _) (O.all 1 rfl) q10, _, _, _, rfl, ?_⟩
    obtain ⟨y13, g14, e⟩ := bind_e e
    refine (slices_Contains_58.walk (Hold.start (W := No) O.s) rfl k11 r12 g14).mono ?_
    rintro _ h15 ⟨m16, Q17, rfl⟩
    have O19 := Hold.nm (O.retC Q17 vfs_nil)
    refine ⟨_, rfl, ?_⟩
    refine split_not ?_
    refine split_any_e e (fun c34 e => ?_) (fun c34 e => ?_)
    · exact (ih _ _ e) _ _ _ _ _ _ _ _ _ _ _ _ _ _ _ _ (O19.pick [0, 1, 2, 3]).nm rfl e_5 rfl rfl
    · obtain ⟨y20, g21, e⟩ := bind_e e
      obtain ⟨m26, u27, s32, ⟨⟨r30, k31⟩, _⟩, B28, C29⟩ := O19.lend0 [0]
      replace r30 : Rd 1 eStr m26 A_3 a_3 := r30
      replace k31 : List.length a_3 ≤ c_3 := k31
      refine (slices_Contains_58.walk (Hold.start (W := No) s32) rfl k31 r30 g21).mono ?_
      rintro _ h22 ⟨m23, Q24, rfl⟩
      have O33 := Hold.nm (C29 Q24 vfs_nil)
      refine ⟨_, rfl, ?_⟩
      exact (ih _ _ e) _ _ _ _ _ _ _ _ _ _ _ _ _ _ _ _ (O33.pick [0, 1, 2, 3]).nm rfl e_5 rfl rfl
  · exact (ih _ _ e) _ _ _ _ _ _ _ _ _ _ _ (O.pick [0, 2]).nm rfl rfl
set_option maxRecDepth 100000 in
theorem roadref2_FreeOf_k.step_j0 (go : (p : roadref2_FreeOf_k.Pt) → Option ((List ByteArray))) (ih : ∀ p r, go p = some r → roadref2_FreeOf_k.I p r) (a_3 : List ByteArray) (y_5 : T_roadref2_scoped) (s_7 : ByteArray) (a_15 : List T_roadref2_scoped) (x_16 : Int) (x_17 : Int) (a_23 : List ByteArray) (x_24 : Int) (x_25 : Int) (b_39 : Bool) (r : (List ByteArray)) (e : roadref2_FreeOf_k.body go (.j0 a_3 y_5 s_7 a_15 x_16 x_17 a_23 x_24 x_25 b_39) = some r) : roadref2_FreeOf_k.I (.j0 a_3 y_5 s_7 a_15 x_16 x_17 a_23 x_24 x_25 b_39) r := by
  unfold roadref2_FreeOf_k.body at e
  intro W h0 m0 h m A_3 n_3 c_3 bk_5 cs_5 A_15 n_15 c_15 A_23 n_23 c_23 O ne_3 e_5 ne_15 ne_23
  subst ne_3
  subst ne_15
  subst ne_23
  refine f22.j0_in ?_
  unfold f22.j0T
  refine split_any_e e (fun c15 e => ?_) (fun c15 e => ?_)
  · refine O.new fun h1 x2 O3 => ?_
    obtain ⟨l5, g6, e⟩ := bind_e e
    have O13 := O3.rowE (l := ([s_7] : List ByteArray)) 4 rfl tell_str (show CsE _ _ _ _ _ from (CsE.cons (c1 := [(Value.string s_7)]) rfl rfl CsE.nil)) rfl
    refine O13.app 0 rfl rfl rfl ((O13.os 4 rfl).srcE rfl) (by decide) g6 fun A7 c8 h9 O10 => ?_
    refine ⟨_, _, _, rfl, ?_⟩
    have O14 := O10.nm
    exact (ih _ _ e) _ _ _ _ _ _ _ _ _ _ _ _ _ _ _ _ (O14.pick [0, 1, 2, 3]).nm rfl e_5 rfl rfl
  · exact (ih _ _ e) _ _ _ _ _ _ _ _ _ _ _ _ _ _ _ _ (O.pick [0, 1, 2, 3]).nm rfl e_5 rfl rfl
theorem roadref2_FreeOf_k.all {p : roadref2_FreeOf_k.Pt} {r : ((List ByteArray))} (e : roadref2_FreeOf_k.go p = some r) : roadref2_FreeOf_k.I p r := fixF_ind (β := fun _ => ((List ByteArray))) roadref2_FreeOf_k.mono (I := roadref2_FreeOf_k.I) (fun go ih p r e => match p with
  | .f y_0 => roadref2_FreeOf_k.step_f go ih y_0 r e
  | .l0 a_3 a_15 x_16 x_17 => roadref2_FreeOf_k.step_l0 go ih a_3 a_15 x_16 x_17 r e
  | .l1 a_3 y_5 a_15 x_16 x_17 a_23 x_24 x_25 => roadref2_FreeOf_k.step_l1 go ih a_3 y_5 a_15 x_16 x_17 a_23 x_24 x_25 r e
  | .j0 a_3 y_5 s_7 a_15 x_16 x_17 a_23 x_24 x_25 b_39 => roadref2_FreeOf_k.step_j0 go ih a_3 y_5 s_7 a_15 x_16 x_17 a_23 x_24 x_25 b_39 r e
  ) e
theorem roadref2_FreeOf.walk {W : Nat → Prop} {h m : Heap} {cs_0 : List Value} {y_0 : T_api_Expr} (O : Hold W h m h m []) (e_0 : T_api_Expr.E m y_0 cs_0) {r : (List ByteArray)} (e : roadref2_FreeOf y_0 = some r) : Run Tryd.prog 22 #[Value.agg cs_0.toArray] h (roadref2_FreeOf.post W h m r) := roadref2_FreeOf_k.all (p := .f y_0) e W h m cs_0 O e_0
def tree_ownTypes.post (W : Nat → Prop) (h0 m0 : Heap) (r : (List T_api_Type)) (v : Value) (h : Heap) : Prop := ∃ m A0 n0 c0, Hold W h0 m0 h m [rR (aE T_api_Type.T) A0 c0 r] ∧ v = .slice A0 n0 c0 ∧ n0 = List.length r
inductive tree_ownTypes_k.Pt where
  | f (a_0 : List T_api_Type)
  | l0 (a_3 : List T_api_Type) (a_6 : List T_api_Type) (x_7 : Int) (x_8 : Int)
noncomputable def tree_ownTypes_k.body (go : (p : tree_ownTypes_k.Pt) → Option ((List T_api_Type))) : (p : tree_ownTypes_k.Pt) → Option ((List T_api_Type))
  | .f a_0 => (go (.l0 ([] : List T_api_Type) a_0 (((List.length a_0) : Nat) : Int) (0 : Int)))
  | .l0 a_3 a_6 x_7 x_8 => if x_8 < x_7 then (Option.bind (gi a_6 x_8) fun y1 => Option.bind ((go (.f y1.Args))) fun y19 => Option.bind (ap 48 a_3 ([(T_api_Type.mk y1.Kind y1.Name y19)] : List T_api_Type)) fun l40 => (go (.l0 l40 a_6 x_7 (IntKind.wrap .i64 (x_8 + (1 : Int)))))) else (some (a_3))
theorem tree_ownTypes_k.mono : MonoF (β := fun _ => ((List T_api_Type))) tree_ownTypes_k.body := fun f g hfg p => match p with
  | .f a_0 => (hfg _)
  | .l0 a_3 a_6 x_7 x_8 => LeO.ite (LeO.bind (LeO.refl _) fun y1 => LeO.bind ((hfg _)) fun y19 => LeO.bind (LeO.refl _) fun l40 => (hfg _)) (LeO.refl _)
noncomputable def tree_ownTypes_k.go (p : tree_ownTypes_k.Pt) : Option ((List T_api_Type)) := fixF (β := fun _ => ((List T_api_Type))) tree_ownTypes_k.body p
noncomputable def tree_ownTypes (a_0 : List T_api_Type) : Option ((List T_api_Type)) := tree_ownTypes_k.go (.f a_0)
noncomputable def tree_ownTypes.l0 (a_3 : List T_api_Type) (a_6 : List T_api_Type) (x_7 : Int) (x_8 : Int) : Option ((List T_api_Type)) := tree_ownTypes_k.go (.l0 a_3 a_6 x_7 x_8)
theorem tree_ownTypes_eq (a_0 : List T_api_Type) : tree_ownTypes a_0 = (tree_ownTypes.l0 ([] : List T_api_Type) a_0 (((List.length a_0) : Nat) : Int) (0 : Int)) := fixF_eq tree_ownTypes_k.mono _
theorem tree_ownTypes.l0_eq (a_3 : List T_api_Type) (a_6 : List T_api_Type) (x_7 : Int) (x_8 : Int) : tree_ownTypes.l0 a_3 a_6 x_7 x_8 = if x_8 < x_7 then (Option.bind (gi a_6 x_8) fun y1 => Option.bind ((tree_ownTypes y1.Args)) fun y19 => Option.bind (ap 48 a_3 ([(T_api_Type.mk y1.Kind y1.Name y19)] : List T_api_Type)) fun l40 => (tree_ownTypes.l0 l40 a_6 x_7 (IntKind.wrap .i64 (x_8 + (1 : Int))))) else (some (a_3)) := fixF_eq tree_ownTypes_k.mono _
def tree_ownTypes_k.I : (p : tree_ownTypes_k.Pt) → ((List T_api_Type)) → Prop
  | .f a_0, r => ∀ (W : Nat → Prop) (h m : Heap) (A_0 : Option Addr) (n_0 c_0 : Nat) (O : Hold W h m h m []) (ne_0 : n_0 = List.length a_0) (k_0 : List.length a_0 ≤ c_0) (r_0 : Rd 3 T_api_Type.E m A_0 a_0), Run Tryd.prog 60 #[Value.slice A_0 n_0 c_0] h (tree_ownTypes.post W h m r)
  | .l0 a_3 a_6 x_7 x_8, r => ∀ (W : Nat → Prop) (h0 m0 h m : Heap) (A_3 : Option Addr) (n_3 c_3 : Nat) (A_6 : Option Addr) (n_6 c_6 : Nat) (O : Hold W h0 m0 h m [rR (aE T_api_Type.T) A_3 c_3 a_3]) (ne_3 : n_3 = List.length a_3) (ne_6 : n_6 = List.length a_6) (k_6 : List.length a_6 ≤ c_6) (r_6 : Rd 3 T_api_Type.E m A_6 a_6), f60.l0 (tree_ownTypes.post W h0 m0 r) A_3 n_3 c_3 A_6 n_6 c_6 x_7 x_8 h
set_option maxRecDepth 100000 in
theorem tree_ownTypes_k.step_f (go : (p : tree_ownTypes_k.Pt) → Option ((List T_api_Type))) (ih : ∀ p r, go p = some r → tree_ownTypes_k.I p r) (a_0 : List T_api_Type) (r : (List T_api_Type)) (e : tree_ownTypes_k.body go (.f a_0) = some r) : tree_ownTypes_k.I (.f a_0) r := by
  unfold tree_ownTypes_k.body at e
  intro W h m A_0 n_0 c_0 O ne_0 k_0 r_0
  subst ne_0
  refine f60.run ?_
  unfold f60.runT
  have O1 := O.nil (aE T_api_Type.T) none
  have O3 := O1.nm
  exact (ih _ _ e) _ _ _ _ _ _ _ _ _ _ _ (O3.pick [0]).nm rfl rfl k_0 r_0
set_option maxRecDepth 100000 in
theorem tree_ownTypes_k.step_l0 (go : (p : tree_ownTypes_k.Pt) → Option ((List T_api_Type))) (ih : ∀ p r, go p = some r → tree_ownTypes_k.I p r) (a_3 : List T_api_Type) (a_6 : List T_api_Type) (x_7 : Int) (x_8 : Int) (r : (List T_api_Type)) (e : tree_ownTypes_k.body go (.l0 a_3 a_6 x_7 x_8) = some r) : tree_ownTypes_k.I (.l0 a_3 a_6 x_7 x_8) r := by
  unfold tree_ownTypes_k.body at e
  intro W h0 m0 h m A_3 n_3 c_3 A_6 n_6 c_6 O ne_3 ne_6 k_6 r_6
  subst ne_3
  subst ne_6
  refine f60.l0_in ?_
  unfold f60.l0T
  refine split_dec_e e (fun c55 e => ?_) (fun c55 e => ?_)
  · obtain ⟨y1, g2, e⟩ := bind_e e
    refine r_6.addr rfl g2 fun a3 cs4 ha5 hc6 he7 => ?_
    refine ⟨_, ldAn O.s hc6 rfl, ?_⟩
    refine O.new fun h8 x9 O10 => ?_
    refine ⟨_, rfl, (T_api_Type.T.len _ _ _ he7), ?_⟩
    refine O10.stA 1 rfl (T_api_Type.T.len _ _ _ he7) (T_api_Type.T.flat _ _ _ he7) fun h12 O13 => ?_
    obtain ⟨A14, c15, q16, k17, r18⟩ := T_api_Type.g2 he7
    refine ⟨_, ldk (k := 2) (Sub.refl _) (O13.all 1 rfl) q16, _, _, _, rfl, ?_⟩
    obtain ⟨y19, g20, e⟩ := bind_e e
    refine ((ih _ _ g20) _ _ _ _ _ _ (Hold.start (W := No) O13.s) rfl k17 r18).mono ?_
    rintro _ h21 ⟨m22, A25, n26, c27, Q23, rfl, ne28⟩
    have O30 := Hold.nm (O13.ret Q23)
    subst ne28
    refine ⟨_, _, _, rfl, ?_⟩
    obtain ⟨Ae33_2, ce33_2, rfl, ke33_2, re33_2⟩ := T_api_Type.iff.1 he7
    refine O30.st 1 rfl 2 (Nat.le_of_ble_eq_true rfl) trivial fun h34 O35 => ?_
    refine ⟨_, ldAn (Sub.refl _) (O35.all 1 rfl) rfl, ?_⟩
    refine ⟨[(Value.int .i64 y1.Kind), (Value.string y1.Name), (Value.slice A25 (List.length y19) c27)], rfl, rfl, ?_⟩
    refine O35.new fun h36 x37 O38 => ?_
    obtain ⟨l40, g41, e⟩ := bind_e e
    obtain ⟨m48, u49, ⟨r50, k51⟩, O52⟩ := O38.frz 2 rfl
    replace r50 : Rd 3 T_api_Type.E m48 A25 y19 := r50
    have O53 := O52.rowE (l := ([(T_api_Type.mk y1.Kind y1.Name y19)] : List T_api_Type)) 3 rfl T_api_Type.T (show CsE _ _ _ _ _ from (CsE.cons (c1 := [(Value.int .i64 y1.Kind), (Value.string y1.Name), (Value.slice A25 (List.length y19) c27)]) (T_api_Type.iff.2 ⟨_, _, rfl, k51, r50⟩) rfl CsE.nil)) rfl
    refine O53.app 0 rfl rfl rfl ((O53.os 3 rfl).srcE rfl) (by decide) g41 fun A42 c43 h44 O45 => ?_
    refine ⟨_, _, _, rfl, ?_⟩
    have O54 := O45.nm
    exact (ih _ _ e) _ _ _ _ _ _ _ _ _ _ _ (O54.pick [0]).nm rfl rfl k_6 (r_6.sub T_api_Type.T (Q23.S.up.trans u49))
  · cases e
    exact ⟨_, _, _, _, O.pick [0], rfl, rfl⟩
theorem tree_ownTypes_k.all {p : tree_ownTypes_k.Pt} {r : ((List T_api_Type))} (e : tree_ownTypes_k.go p = some r) : tree_ownTypes_k.I p r := fixF_ind (β := fun _ => ((List T_api_Type))) tree_ownTypes_k.mono (I := tree_ownTypes_k.I) (fun go ih p r e => match p with
  | .f a_0 => tree_ownTypes_k.step_f go ih a_0 r e
  | .l0 a_3 a_6 x_7 x_8 => tree_ownTypes_k.step_l0 go ih a_3 a_6 x_7 x_8 r e
  ) e
theorem tree_ownTypes.walk {W : Nat → Prop} {h m : Heap} {A_0 : Option Addr} {n_0 c_0 : Nat} {a_0 : List T_api_Type} (O : Hold W h m h m []) (ne_0 : n_0 = List.length a_0) (k_0 : List.length a_0 ≤ c_0) (r_0 : Rd 3 T_api_Type.E m A_0 a_0) {r : (List T_api_Type)} (e : tree_ownTypes a_0 = some r) : Run Tryd.prog 60 #[Value.slice A_0 n_0 c_0] h (tree_ownTypes.post W h m r) := tree_ownTypes_k.all (p := .f a_0) e W h m A_0 n_0 c_0 O ne_0 k_0 r_0
def tree_ownPat.post (W : Nat → Prop) (h0 m0 : Heap) (r : T_api_Pat) (v : Value) (h : Heap) : Prop := ∃ m cs0, Hold W h0 m0 h m [] ∧ v = .agg cs0.toArray ∧ T_api_Pat.E m r cs0
inductive tree_ownPat_k.Pt where
  | f (y_0 : T_api_Pat)
  | l0 (y_1 : T_api_Pat) (y_2 : T_api_Pat) (a_3 : List T_api_Pat) (a_7 : List T_api_Pat) (x_8 : Int) (x_9 : Int)
noncomputable def tree_ownPat_k.body (go : (p : tree_ownPat_k.Pt) → Option (T_api_Pat)) : (p : tree_ownPat_k.Pt) → Option (T_api_Pat)
  | .f y_0 => (go (.l0 y_0 (T_api_Pat.mk (0 : Int) (0 : Int) (ByteArray.mk #[]) ([] : List T_api_Pat)) ([] : List T_api_Pat) y_0.Args (((List.length y_0.Args) : Nat) : Int) (0 : Int)))
  | .l0 y_1 y_2 a_3 a_7 x_8 x_9 => if x_9 < x_8 then (Option.bind (gi a_7 x_9) fun y1 => Option.bind ((go (.f y1))) fun y14 => Option.bind (ap 56 a_3 ([y14] : List T_api_Pat)) fun l29 => (go (.l0 y_1 y_2 l29 a_7 x_8 (IntKind.wrap .i64 (x_9 + (1 : Int)))))) else (some ((T_api_Pat.mk y_1.Kind y_1.Num y_1.Text a_3)))
theorem tree_ownPat_k.mono : MonoF (β := fun _ => (T_api_Pat)) tree_ownPat_k.body := fun f g hfg p => match p with
  | .f y_0 => (hfg _)
  | .l0 y_1 y_2 a_3 a_7 x_8 x_9 => LeO.ite (LeO.bind (LeO.refl _) fun y1 => LeO.bind ((hfg _)) fun y14 => LeO.bind (LeO.refl _) fun l29 => (hfg _)) (LeO.refl _)
noncomputable def tree_ownPat_k.go (p : tree_ownPat_k.Pt) : Option (T_api_Pat) := fixF (β := fun _ => (T_api_Pat)) tree_ownPat_k.body p
noncomputable def tree_ownPat (y_0 : T_api_Pat) : Option (T_api_Pat) := tree_ownPat_k.go (.f y_0)
noncomputable def tree_ownPat.l0 (y_1 : T_api_Pat) (y_2 : T_api_Pat) (a_3 : List T_api_Pat) (a_7 : List T_api_Pat) (x_8 : Int) (x_9 : Int) : Option (T_api_Pat) := tree_ownPat_k.go (.l0 y_1 y_2 a_3 a_7 x_8 x_9)
theorem tree_ownPat_eq (y_0 : T_api_Pat) : tree_ownPat y_0 = (tree_ownPat.l0 y_0 (T_api_Pat.mk (0 : Int) (0 : Int) (ByteArray.mk #[]) ([] : List T_api_Pat)) ([] : List T_api_Pat) y_0.Args (((List.length y_0.Args) : Nat) : Int) (0 : Int)) := fixF_eq tree_ownPat_k.mono _
theorem tree_ownPat.l0_eq (y_1 : T_api_Pat) (y_2 : T_api_Pat) (a_3 : List T_api_Pat) (a_7 : List T_api_Pat) (x_8 : Int) (x_9 : Int) : tree_ownPat.l0 y_1 y_2 a_3 a_7 x_8 x_9 = if x_9 < x_8 then (Option.bind (gi a_7 x_9) fun y1 => Option.bind ((tree_ownPat y1)) fun y14 => Option.bind (ap 56 a_3 ([y14] : List T_api_Pat)) fun l29 => (tree_ownPat.l0 y_1 y_2 l29 a_7 x_8 (IntKind.wrap .i64 (x_9 + (1 : Int))))) else (some ((T_api_Pat.mk y_1.Kind y_1.Num y_1.Text a_3))) := fixF_eq tree_ownPat_k.mono _
def tree_ownPat_k.I : (p : tree_ownPat_k.Pt) → (T_api_Pat) → Prop
  | .f y_0, r => ∀ (W : Nat → Prop) (h m : Heap) (cs_0 : List Value) (O : Hold W h m h m []) (e_0 : T_api_Pat.E m y_0 cs_0), Run Tryd.prog 61 #[Value.agg cs_0.toArray] h (tree_ownPat.post W h m r)
  | .l0 y_1 y_2 a_3 a_7 x_8 x_9, r => ∀ (W : Nat → Prop) (h0 m0 h m : Heap) (bk_1 : Nat) (cs_1 : List Value) (bk_2 : Nat) (cs_2 : List Value) (A_3 : Option Addr) (n_3 c_3 : Nat) (A_7 : Option Addr) (n_7 c_7 : Nat) (O : Hold W h0 m0 h m [rV bk_1 48 cs_1, rV bk_2 48 cs_2, rR (aE T_api_Pat.T) A_3 c_3 a_3]) (e_1 : T_api_Pat.E m y_1 cs_1) (e_2 : T_api_Pat.E m y_2 cs_2) (ne_3 : n_3 = List.length a_3) (ne_7 : n_7 = List.length a_7) (k_7 : List.length a_7 ≤ c_7) (r_7 : Rd 4 T_api_Pat.E m A_7 a_7), f61.l0 (tree_ownPat.post W h0 m0 r) (⟨bk_1, 0, none⟩ : Addr) (⟨bk_2, 0, none⟩ : Addr) A_3 n_3 c_3 A_7 n_7 c_7 x_8 x_9 h
set_option maxRecDepth 100000 in
theorem tree_ownPat_k.step_f (go : (p : tree_ownPat_k.Pt) → Option (T_api_Pat)) (ih : ∀ p r, go p = some r → tree_ownPat_k.I p r) (y_0 : T_api_Pat) (r : T_api_Pat) (e : tree_ownPat_k.body go (.f y_0) = some r) : tree_ownPat_k.I (.f y_0) r := by
  unfold tree_ownPat_k.body at e
  intro W h m cs_0 O e_0
  refine f61.run ?_
  unfold f61.runT
  refine O.new fun h1 x2 O3 => ?_
  refine O3.new fun h5 x6 O7 => ?_
  obtain ⟨A9, c10, q11, k12, r13⟩ := T_api_Pat.g3 e_0
  refine ⟨_, ldk (k := 3) (Sub.refl _) (O7.all 0 rfl) q11, _, _, _, rfl, ?_⟩
  have O14 := O7.nil (aE T_api_Pat.T) none
  have O16 := O14.nm
  exact (ih _ _ e) _ _ _ _ _ _ _ _ _ _ _ _ _ _ _ (O16.pick [0, 1, 2]).nm e_0 (T_api_Pat.iff.2 ⟨_, _, rfl, (by exact Nat.le_refl 0), Rd.nil⟩) rfl rfl k12 r13
set_option maxHeartbeats 4000000 in
set_option maxRecDepth 100000 in
theorem tree_ownPat_k.step_l0 (go : (p : tree_ownPat_k.Pt) → Option (T_api_Pat)) (ih : ∀ p r, go p = some r → tree_ownPat_k.I p r) (y_1 : T_api_Pat) (y_2 : T_api_Pat) (a_3 : List T_api_Pat) (a_7 : List T_api_Pat) (x_8 : Int) (x_9 : Int) (r : T_api_Pat) (e : tree_ownPat_k.body go (.l0 y_1 y_2 a_3 a_7 x_8 x_9) = some r) : tree_ownPat_k.I (.l0 y_1 y_2 a_3 a_7 x_8 x_9) r := by
  unfold tree_ownPat_k.body at e
  intro W h0 m0 h m bk_1 cs_1 bk_2 cs_2 A_3 n_3 c_3 A_7 n_7 c_7 O e_1 e_2 ne_3 ne_7 k_7 r_7
  subst ne_3
  subst ne_7
  refine f61.l0_in ?_
  unfold f61.l0T
  refine split_dec_e e (fun c52 e => ?_) (fun c52 e => ?_)
  · obtain ⟨y1, g2, e⟩ := bind_e e
    refine r_7.addr rfl g2 fun a3 cs4 ha5 hc6 he7 => ?_
    refine ⟨_, ldAn O.s hc6 rfl, ?_⟩
    refine O.new fun h8 x9 O10 => ?_
    refine ⟨_, rfl, (T_api_Pat.T.len _ _ _ he7), ?_⟩
    refine O10.stA 3 rfl (T_api_Pat.T.len _ _ _ he7) (T_api_Pat.T.flat _ _ _ he7) fun h12 O13 => ?_
    refine ⟨_, ldAn (Sub.refl _) (O13.all 3 rfl) (T_api_Pat.T.len _ _ _ he7), ?_⟩
    obtain ⟨y14, g15, e⟩ := bind_e e
    refine ((ih _ _ g15) _ _ _ _ (Hold.start (W := No) O13.s) he7).mono ?_
    rintro _ h16 ⟨m17, cs21, Q18, rfl, he22⟩
    have O23 := Hold.nm (O13.ret Q18)
    refine ⟨cs21, rfl, (T_api_Pat.T.len _ _ _ he22), ?_⟩
    refine O23.new fun h24 x25 O26 => ?_
    have O28 := O26.recell 4 rfl (cs' := cs21 ++ []) rfl
    obtain ⟨l29, g30, e⟩ := bind_e e
    have O37 := O28.rowE (l := ([y14] : List T_api_Pat)) 4 rfl T_api_Pat.T (show CsE _ _ _ _ _ from (CsE.cons he22 (T_api_Pat.T.len _ _ _ he22) CsE.nil)) rfl
    refine O37.app 2 rfl rfl rfl ((O37.os 4 rfl).srcE rfl) (by decide) g30 fun A31 c32 h33 O34 => ?_
    refine ⟨_, _, _, rfl, ?_⟩
    have O38 := O34.nm
    exact (ih _ _ e) _ _ _ _ _ _ _ _ _ _ _ _ _ _ _ (O38.pick [0, 1, 2]).nm (T_api_Pat.T.mono _ _ _ _ Q18.S.up e_1) (T_api_Pat.T.mono _ _ _ _ Q18.S.up e_2) rfl rfl k_7 (r_7.sub T_api_Pat.T Q18.S.up)
  · obtain ⟨Ae41_3, ce41_3, rfl, ke41_3, re41_3⟩ := T_api_Pat.iff.1 e_1
    refine O.st 0 rfl 3 (Nat.le_of_ble_eq_true rfl) trivial fun h42 O43 => ?_
    refine ⟨_, ldAn (Sub.refl _) (O43.all 0 rfl) rfl, ?_⟩
    refine ⟨_, rfl, rfl, ?_⟩
    refine O43.stA 1 rfl ((T_api_Pat.T.len _ _ _ e_2)).symm (Flats.cons trivial (Flats.cons trivial (Flats.cons trivial (Flats.cons trivial Flats.nil)))) fun h44 O45 => ?_
    refine ⟨_, ldAn (Sub.refl _) (O45.all 1 rfl) rfl, ?_⟩
    obtain ⟨m46, u47, ⟨r48, k49⟩, O50⟩ := O45.frz 2 rfl
    replace r48 : Rd 4 T_api_Pat.E m46 A_3 a_3 := r48
    have O51 := O50.nm
    cases e
    exact ⟨_, _, O51.pick [], rfl, (T_api_Pat.iff.2 ⟨_, _, rfl, k49, r48⟩)⟩
theorem tree_ownPat_k.all {p : tree_ownPat_k.Pt} {r : (T_api_Pat)} (e : tree_ownPat_k.go p = some r) : tree_ownPat_k.I p r := fixF_ind (β := fun _ => (T_api_Pat)) tree_ownPat_k.mono (I := tree_ownPat_k.I) (fun go ih p r e => match p with
  | .f y_0 => tree_ownPat_k.step_f go ih y_0 r e
  | .l0 y_1 y_2 a_3 a_7 x_8 x_9 => tree_ownPat_k.step_l0 go ih y_1 y_2 a_3 a_7 x_8 x_9 r e
  ) e
theorem tree_ownPat.walk {W : Nat → Prop} {h m : Heap} {cs_0 : List Value} {y_0 : T_api_Pat} (O : Hold W h m h m []) (e_0 : T_api_Pat.E m y_0 cs_0) {r : T_api_Pat} (e : tree_ownPat y_0 = some r) : Run Tryd.prog 61 #[Value.agg cs_0.toArray] h (tree_ownPat.post W h m r) := tree_ownPat_k.all (p := .f y_0) e W h m cs_0 O e_0
def tree_Clear.post (W : Nat → Prop) (h0 m0 : Heap) (r : T_api_Expr) (v : Value) (h : Heap) : Prop := ∃ m cs0, Hold W h0 m0 h m [] ∧ v = .agg cs0.toArray ∧ T_api_Expr.E m r cs0
inductive tree_Clear_k.Pt where
  | f (y_0 : T_api_Expr)
  | l0 (y_1 : T_api_Expr) (y_2 : T_api_Expr) (a_3 : List T_api_Expr) (a_19 : List T_api_Expr) (x_20 : Int) (x_21 : Int)
  | l1 (y_1 : T_api_Expr) (y_2 : T_api_Expr) (a_3 : List T_api_Expr) (a_6 : List T_api_Arm) (a_32 : List T_api_Arm) (x_33 : Int) (x_34 : Int)
noncomputable def tree_Clear_k.body (go : (p : tree_Clear_k.Pt) → Option (T_api_Expr)) : (p : tree_Clear_k.Pt) → Option (T_api_Expr)
  | .f y_0 => Option.bind (slices_Clone_59 (({ y_0 with At := (0 : Int) }).Names)) fun y23 => Option.bind (tree_ownTypes (({ y_0 with At := (0 : Int) }).Types)) fun y35 => (go (.l0 (T_api_Expr.mk (({ y_0 with At := (0 : Int) }).Kind) (({ y_0 with At := (0 : Int) }).Num) (({ y_0 with At := (0 : Int) }).Text) y23 y35 (({ y_0 with At := (0 : Int) }).Args) (({ y_0 with At := (0 : Int) }).Arms) (({ y_0 with At := (0 : Int) }).At)) (T_api_Expr.mk (0 : Int) (0 : Int) (ByteArray.mk #[]) ([] : List ByteArray) ([] : List T_api_Type) ([] : List T_api_Expr) ([] : List T_api_Arm) (0 : Int)) ([] : List T_api_Expr) (({ y_0 with At := (0 : Int) }).Args) (((List.length ({ y_0 with At := (0 : Int) }).Args) : Nat) : Int) (0 : Int)))
  | .l0 y_1 y_2 a_3 a_19 x_20 x_21 => if x_21 < x_20 then (Option.bind (gi a_19 x_21) fun y1 => Option.bind ((go (.f y1))) fun y14 => Option.bind (ap 136 a_3 ([y14] : List T_api_Expr)) fun l29 => (go (.l0 y_1 y_2 l29 a_19 x_20 (IntKind.wrap .i64 (x_21 + (1 : Int)))))) else ((go (.l1 y_1 y_2 a_3 ([] : List T_api_Arm) y_1.Arms (((List.length y_1.Arms) : Nat) : Int) (0 : Int))))
  | .l1 y_1 y_2 a_3 a_6 a_32 x_33 x_34 => if x_34 < x_33 then (Option.bind (gi a_32 x_34) fun y1 => Option.bind (tree_ownPat y1.Pat) fun y14 => Option.bind ((go (.f y1.Body))) fun y24 => Option.bind (ap 192 a_6 ([(T_api_Arm.mk y14 y24)] : List T_api_Arm)) fun l40 => (go (.l1 y_1 y_2 a_3 l40 a_32 x_33 (IntKind.wrap .i64 (x_34 + (1 : Int)))))) else (some ((T_api_Expr.mk y_1.Kind y_1.Num y_1.Text y_1.Names y_1.Types a_3 a_6 y_1.At)))
theorem tree_Clear_k.mono : MonoF (β := fun _ => (T_api_Expr)) tree_Clear_k.body := fun f g hfg p => match p with
  | .f y_0 => LeO.bind (LeO.refl _) fun y23 => LeO.bind (LeO.refl _) fun y35 => (hfg _)
  | .l0 y_1 y_2 a_3 a_19 x_20 x_21 => LeO.ite (LeO.bind (LeO.refl _) fun y1 => LeO.bind ((hfg _)) fun y14 => LeO.bind (LeO.refl _) fun l29 => (hfg _)) ((hfg _))
  | .l1 y_1 y_2 a_3 a_6 a_32 x_33 x_34 => LeO.ite (LeO.bind (LeO.refl _) fun y1 => LeO.bind (LeO.refl _) fun y14 => LeO.bind ((hfg _)) fun y24 => LeO.bind (LeO.refl _) fun l40 => (hfg _)) (LeO.refl _)
noncomputable def tree_Clear_k.go (p : tree_Clear_k.Pt) : Option (T_api_Expr) := fixF (β := fun _ => (T_api_Expr)) tree_Clear_k.body p
noncomputable def tree_Clear (y_0 : T_api_Expr) : Option (T_api_Expr) := tree_Clear_k.go (.f y_0)
noncomputable def tree_Clear.l0 (y_1 : T_api_Expr) (y_2 : T_api_Expr) (a_3 : List T_api_Expr) (a_19 : List T_api_Expr) (x_20 : Int) (x_21 : Int) : Option (T_api_Expr) := tree_Clear_k.go (.l0 y_1 y_2 a_3 a_19 x_20 x_21)
noncomputable def tree_Clear.l1 (y_1 : T_api_Expr) (y_2 : T_api_Expr) (a_3 : List T_api_Expr) (a_6 : List T_api_Arm) (a_32 : List T_api_Arm) (x_33 : Int) (x_34 : Int) : Option (T_api_Expr) := tree_Clear_k.go (.l1 y_1 y_2 a_3 a_6 a_32 x_33 x_34)
theorem tree_Clear_eq (y_0 : T_api_Expr) : tree_Clear y_0 = Option.bind (slices_Clone_59 (({ y_0 with At := (0 : Int) }).Names)) fun y23 => Option.bind (tree_ownTypes (({ y_0 with At := (0 : Int) }).Types)) fun y35 => (tree_Clear.l0 (T_api_Expr.mk (({ y_0 with At := (0 : Int) }).Kind) (({ y_0 with At := (0 : Int) }).Num) (({ y_0 with At := (0 : Int) }).Text) y23 y35 (({ y_0 with At := (0 : Int) }).Args) (({ y_0 with At := (0 : Int) }).Arms) (({ y_0 with At := (0 : Int) }).At)) (T_api_Expr.mk (0 : Int) (0 : Int) (ByteArray.mk #[]) ([] : List ByteArray) ([] : List T_api_Type) ([] : List T_api_Expr) ([] : List T_api_Arm) (0 : Int)) ([] : List T_api_Expr) (({ y_0 with At := (0 : Int) }).Args) (((List.length ({ y_0 with At := (0 : Int) }).Args) : Nat) : Int) (0 : Int)) := fixF_eq tree_Clear_k.mono _
theorem tree_Clear.l0_eq (y_1 : T_api_Expr) (y_2 : T_api_Expr) (a_3 : List T_api_Expr) (a_19 : List T_api_Expr) (x_20 : Int) (x_21 : Int) : tree_Clear.l0 y_1 y_2 a_3 a_19 x_20 x_21 = if x_21 < x_20 then (Option.bind (gi a_19 x_21) fun y1 => Option.bind ((tree_Clear y1)) fun y14 => Option.bind (ap 136 a_3 ([y14] : List T_api_Expr)) fun l29 => (tree_Clear.l0 y_1 y_2 l29 a_19 x_20 (IntKind.wrap .i64 (x_21 + (1 : Int))))) else ((tree_Clear.l1 y_1 y_2 a_3 ([] : List T_api_Arm) y_1.Arms (((List.length y_1.Arms) : Nat) : Int) (0 : Int))) := fixF_eq tree_Clear_k.mono _
theorem tree_Clear.l1_eq (y_1 : T_api_Expr) (y_2 : T_api_Expr) (a_3 : List T_api_Expr) (a_6 : List T_api_Arm) (a_32 : List T_api_Arm) (x_33 : Int) (x_34 : Int) : tree_Clear.l1 y_1 y_2 a_3 a_6 a_32 x_33 x_34 = if x_34 < x_33 then (Option.bind (gi a_32 x_34) fun y1 => Option.bind (tree_ownPat y1.Pat) fun y14 => Option.bind ((tree_Clear y1.Body)) fun y24 => Option.bind (ap 192 a_6 ([(T_api_Arm.mk y14 y24)] : List T_api_Arm)) fun l40 => (tree_Clear.l1 y_1 y_2 a_3 l40 a_32 x_33 (IntKind.wrap .i64 (x_34 + (1 : Int))))) else (some ((T_api_Expr.mk y_1.Kind y_1.Num y_1.Text y_1.Names y_1.Types a_3 a_6 y_1.At))) := fixF_eq tree_Clear_k.mono _
def tree_Clear_k.I : (p : tree_Clear_k.Pt) → (T_api_Expr) → Prop
  | .f y_0, r => ∀ (W : Nat → Prop) (h m : Heap) (cs_0 : List Value) (O : Hold W h m h m []) (e_0 : T_api_Expr.E m y_0 cs_0), Run Tryd.prog 25 #[Value.agg cs_0.toArray] h (tree_Clear.post W h m r)
  | .l0 y_1 y_2 a_3 a_19 x_20 x_21, r => ∀ (W : Nat → Prop) (h0 m0 h m : Heap) (bk_1 : Nat) (cs_1 : List Value) (bk_2 : Nat) (cs_2 : List Value) (A_3 : Option Addr) (n_3 c_3 : Nat) (A_19 : Option Addr) (n_19 c_19 : Nat) (O : Hold W h0 m0 h m [rV bk_1 40 cs_1, rV bk_2 40 cs_2, rR (aE T_api_Expr.T) A_3 c_3 a_3]) (e_1 : T_api_Expr.E m y_1 cs_1) (e_2 : T_api_Expr.E m y_2 cs_2) (ne_3 : n_3 = List.length a_3) (ne_19 : n_19 = List.length a_19) (k_19 : List.length a_19 ≤ c_19) (r_19 : Rd 8 T_api_Expr.E m A_19 a_19), f25.l0 (tree_Clear.post W h0 m0 r) (⟨bk_1, 0, none⟩ : Addr) (⟨bk_2, 0, none⟩ : Addr) A_3 n_3 c_3 A_19 n_19 c_19 x_20 x_21 h
  | .l1 y_1 y_2 a_3 a_6 a_32 x_33 x_34, r => ∀ (W : Nat → Prop) (h0 m0 h m : Heap) (bk_1 : Nat) (cs_1 : List Value) (bk_2 : Nat) (cs_2 : List Value) (A_3 : Option Addr) (n_3 c_3 : Nat) (A_6 : Option Addr) (n_6 c_6 : Nat) (A_32 : Option Addr) (n_32 c_32 : Nat) (O : Hold W h0 m0 h m [rV bk_1 40 cs_1, rV bk_2 40 cs_2, rR (aE T_api_Expr.T) A_3 c_3 a_3, rR (aE T_api_Arm.T) A_6 c_6 a_6]) (e_1 : T_api_Expr.E m y_1 cs_1) (e_2 : T_api_Expr.E m y_2 cs_2) (ne_3 : n_3 = List.length a_3) (ne_6 : n_6 = List.length a_6) (ne_32 : n_32 = List.length a_32) (k_32 : List.length a_32 ≤ c_32) (r_32 : Rd 12 T_api_Arm.E m A_32 a_32), f25.l1 (tree_Clear.post W h0 m0 r) (⟨bk_1, 0, none⟩ : Addr) (⟨bk_2, 0, none⟩ : Addr) A_3 n_3 c_3 A_6 n_6 c_6 A_32 n_32 c_32 x_33 x_34 h
set_option maxHeartbeats 4000000 in
set_option maxRecDepth 100000 in
theorem tree_Clear_k.step_f (go : (p : tree_Clear_k.Pt) → Option (T_api_Expr)) (ih : ∀ p r, go p = some r → tree_Clear_k.I p r) (y_0 : T_api_Expr) (r : T_api_Expr) (e : tree_Clear_k.body go (.f y_0) = some r) : tree_Clear_k.I (.f y_0) r := by
  unfold tree_Clear_k.body at e
  intro W h m cs_0 O e_0
  refine f25.run ?_
  unfold f25.runT
  refine O.new fun h1 x2 O3 => ?_
  refine O3.new fun h5 x6 O7 => ?_
  refine O7.stE 0 rfl 7 (lt_len (T_api_Expr.T.len _ _ _ e_0) (by decide)) trivial (T_api_Expr.s7 e_0 (0 : Int)) fun h9 cs11 e12 O10 => ?_
  obtain ⟨A13, c14, q15, k16, r17⟩ := T_api_Expr.g3 e12
  refine ⟨_, ldk (k := 3) (Sub.refl _) (O10.all 0 rfl) q15, _, _, _, rfl, ?_⟩
  obtain ⟨A18, c19, q20, k21, r22⟩ := T_api_Expr.g4 e12
  refine ⟨_, ldk (k := 4) (Sub.refl _) (O10.all 0 rfl) q20, _, _, _, rfl, ?_⟩
  obtain ⟨y23, g24, e⟩ := bind_e e
  refine (slices_Clone_59.walk (Hold.start (W := No) O10.s) rfl k16 r17 g24).mono ?_
  rintro _ h25 ⟨m26, A29, n30, c31, Q27, rfl, ne32⟩
  have O34 := Hold.nm (O10.retC Q27 (vfs_cons (rR_vf (aE_vf (fun _ _ _ _ h => h))) vfs_nil))
  subst ne32
  refine ⟨_, _, _, rfl, ?_⟩
  refine ⟨Q27.S.ext, ?_⟩
  obtain ⟨y35, g36, e⟩ := bind_e e
  refine (tree_ownTypes.walk (Hold.start (W := No) O34.s) rfl k21 r22 g36).mono ?_
  rintro _ h37 ⟨m38, A41, n42, c43, Q39, rfl, ne44⟩
  have O46 := Hold.nm (O34.ret Q39)
  subst ne44
  refine ⟨_, _, _, rfl, ?_⟩
  obtain ⟨Ae49_3, ce49_3, Ae49_4, ce49_4, Ae49_5, ce49_5, Ae49_6, ce49_6, rfl, ke49_3, re49_3, ke49_4, re49_4, ke49_5, re49_5, ke49_6, re49_6⟩ := T_api_Expr.iff.1 e12
  refine O46.st 0 rfl 3 (Nat.le_of_ble_eq_true rfl) trivial fun h50 O51 => ?_
  refine O51.st 0 rfl 4 (Nat.le_of_ble_eq_true rfl) trivial fun h52 O53 => ?_
  refine ⟨_, ldk (k := 5) (Sub.refl _) (O53.all 0 rfl) rfl, _, _, _, rfl, ?_⟩
  obtain ⟨m54, u55, ⟨r56, k57⟩, O58⟩ := O53.frz 2 rfl
  replace r56 : Rd 1 eStr m54 A29 y23 := r56
  obtain ⟨m59, u60, ⟨r61, k62⟩, O63⟩ := O58.frz 3 rfl
  replace r61 : Rd 3 T_api_Type.E m59 A41 y35 := r61
  have O64 := O63.nil (aE T_api_Expr.T) none
  have O66 := O64.nm
  exact (ih _ _ e) _ _ _ _ _ _ _ _ _ _ _ _ _ _ _ (O66.pick [0, 1, 4]).nm (T_api_Expr.iff.2 ⟨_, _, _, _, _, _, _, _, rfl, k57, (r56.sub tell_str u60), k62, r61, ke49_5, (re49_5.sub T_api_Expr.T (Q39.S.up.trans (u55.trans u60))), ke49_6, (re49_6.sub T_api_Arm.T (Q39.S.up.trans (u55.trans u60)))⟩) (T_api_Expr.iff.2 ⟨_, _, _, _, _, _, _, _, rfl, (by exact Nat.le_refl 0), Rd.nil, (by exact Nat.le_refl 0), Rd.nil, (by exact Nat.le_refl 0), Rd.nil, (by exact Nat.le_refl 0), Rd.nil⟩) rfl rfl ke49_5 (re49_5.sub T_api_Expr.T (Q39.S.up.trans (u55.trans u60)))
set_option maxRecDepth 100000 in
theorem tree_Clear_k.step_l0 (go : (p : tree_Clear_k.Pt) → Option (T_api_Expr)) (ih : ∀ p r, go p = some r → tree_Clear_k.I p r) (y_1 : T_api_Expr) (y_2 : T_api_Expr) (a_3 : List T_api_Expr) (a_19 : List T_api_Expr) (x_20 : Int) (x_21 : Int) (r : T_api_Expr) (e : tree_Clear_k.body go (.l0 y_1 y_2 a_3 a_19 x_20 x_21) = some r) : tree_Clear_k.I (.l0 y_1 y_2 a_3 a_19 x_20 x_21) r := by
  unfold tree_Clear_k.body at e
  intro W h0 m0 h m bk_1 cs_1 bk_2 cs_2 A_3 n_3 c_3 A_19 n_19 c_19 O e_1 e_2 ne_3 ne_19 k_19 r_19
  subst ne_3
  subst ne_19
  refine f25.l0_in ?_
  unfold f25.l0T
  refine split_dec_e e (fun c47 e => ?_) (fun c47 e => ?_)
  · obtain ⟨y1, g2, e⟩ := bind_e e
    refine r_19.addr rfl g2 fun a3 cs4 ha5 hc6 he7 => ?_
    refine ⟨_, ldAn O.s hc6 rfl, ?_⟩
    refine O.new fun h8 x9 O10 => ?_
    refine ⟨_, rfl, (T_api_Expr.T.len _ _ _ he7), ?_⟩
    refine O10.stA 3 rfl (T_api_Expr.T.len _ _ _ he7) (T_api_Expr.T.flat _ _ _ he7) fun h12 O13 => ?_
    refine ⟨_, ldAn (Sub.refl _) (O13.all 3 rfl) (T_api_Expr.T.len _ _ _ he7), ?_⟩
    obtain ⟨y14, g15, e⟩ := bind_e e
    refine ((ih _ _ g15) _ _ _ _ (Hold.start (W := No) O13.s) he7).mono ?_
    rintro _ h16 ⟨m17, cs21, Q18, rfl, he22⟩
    have O23 := Hold.nm (O13.ret Q18)
    refine ⟨cs21, rfl, (T_api_Expr.T.len _ _ _ he22), ?_⟩
    refine O23.new fun h24 x25 O26 => ?_
    have O28 := O26.recell 4 rfl (cs' := cs21 ++ []) rfl
    obtain ⟨l29, g30, e⟩ := bind_e e
    have O37 := O28.rowE (l := ([y14] : List T_api_Expr)) 4 rfl T_api_Expr.T (show CsE _ _ _ _ _ from (CsE.cons he22 (T_api_Expr.T.len _ _ _ he22) CsE.nil)) rfl
    refine O37.app 2 rfl rfl rfl ((O37.os 4 rfl).srcE rfl) (by decide) g30 fun A31 c32 h33 O34 => ?_
    refine ⟨_, _, _, rfl, ?_⟩
    have O38 := O34.nm
    exact (ih _ _ e) _ _ _ _ _ _ _ _ _ _ _ _ _ _ _ (O38.pick [0, 1, 2]).nm (T_api_Expr.T.mono _ _ _ _ Q18.S.up e_1) (T_api_Expr.T.mono _ _ _ _ Q18.S.up e_2) rfl rfl k_19 (r_19.sub T_api_Expr.T Q18.S.up)
  · obtain ⟨A39, c40, q41, k42, r43⟩ := T_api_Expr.g6 e_1
    refine ⟨_, ldk (k := 6) (Sub.refl _) (O.all 0 rfl) q41, _, _, _, rfl, ?_⟩
    have O44 := O.nil (aE T_api_Arm.T) none
    have O46 := O44.nm
    exact (ih _ _ e) _ _ _ _ _ _ _ _ _ _ _ _ _ _ _ _ _ _ (O46.pick [0, 1, 2, 3]).nm e_1 e_2 rfl rfl rfl k42 r43
set_option maxHeartbeats 4000000 in
set_option maxRecDepth 100000 in
theorem tree_Clear_k.step_l1 (go : (p : tree_Clear_k.Pt) → Option (T_api_Expr)) (ih : ∀ p r, go p = some r → tree_Clear_k.I p r) (y_1 : T_api_Expr) (y_2 : T_api_Expr) (a_3 : List T_api_Expr) (a_6 : List T_api_Arm) (a_32 : List T_api_Arm) (x_33 : Int) (x_34 : Int) (r : T_api_Expr) (e : tree_Clear_k.body go (.l1 y_1 y_2 a_3 a_6 a_32 x_33 x_34) = some r) : tree_Clear_k.I (.l1 y_1 y_2 a_3 a_6 a_32 x_33 x_34) r := by
  unfold tree_Clear_k.body at e
  intro W h0 m0 h m bk_1 cs_1 bk_2 cs_2 A_3 n_3 c_3 A_6 n_6 c_6 A_32 n_32 c_32 O e_1 e_2 ne_3 ne_6 ne_32 k_32 r_32
  subst ne_3
  subst ne_6
  subst ne_32
  refine f25.l1_in ?_
  unfold f25.l1T
  refine split_dec_e e (fun c70 e => ?_) (fun c70 e => ?_)
  · obtain ⟨y1, g2, e⟩ := bind_e e
    refine r_32.addr rfl g2 fun a3 cs4 ha5 hc6 he7 => ?_
    refine ⟨_, ldAn O.s hc6 rfl, ?_⟩
    refine O.new fun h8 x9 O10 => ?_
    refine ⟨_, rfl, (T_api_Arm.T.len _ _ _ he7), ?_⟩
    refine O10.stA 4 rfl (T_api_Arm.T.len _ _ _ he7) (T_api_Arm.T.flat _ _ _ he7) fun h12 O13 => ?_
    refine ⟨_, ldA0n (Sub.refl _) (O13.all 4 rfl) 4 (le_len (T_api_Arm.T.len _ _ _ he7) (by decide)), ?_⟩
    refine ⟨_, ldAkn (Sub.refl _) (O13.all 4 rfl) 4 8 (le_len (T_api_Arm.T.len _ _ _ he7) (by decide)), ?_⟩
    obtain ⟨y14, g15, e⟩ := bind_e e
    refine (tree_ownPat.walk (Hold.start (W := No) O13.s) (T_api_Arm.u0_48 he7) g15).mono ?_
    rintro _ h16 ⟨m17, cs21, Q18, rfl, he22⟩
    have O23 := Hold.nm (O13.ret Q18)
    refine ⟨Q18.S.ext, ?_⟩
    obtain ⟨y24, g25, e⟩ := bind_e e
    refine ((ih _ _ g25) _ _ _ _ (Hold.start (W := No) O23.s) (T_api_Expr.T.mono _ _ _ _ Q18.S.up (T_api_Arm.u4_40 he7))).mono ?_
    rintro _ h26 ⟨m27, cs31, Q28, rfl, he32⟩
    have O33 := Hold.nm (O23.ret Q28)
    obtain ⟨Ae34_3, ce34_3, rfl, ke34_3, re34_3⟩ := T_api_Pat.iff.1 he22
    obtain ⟨Ae35_3, ce35_3, Ae35_4, ce35_4, Ae35_5, ce35_5, Ae35_6, ce35_6, rfl, ke35_3, re35_3, ke35_4, re35_4, ke35_5, re35_5, ke35_6, re35_6⟩ := T_api_Expr.iff.1 he32
    refine ⟨[(Value.int .i64 y14.Kind), (Value.int .i64 y14.Num), (Value.string y14.Text), (Value.slice Ae34_3 (List.length y14.Args) ce34_3)], rfl, rfl, ?_⟩
    refine ⟨[(Value.int .i64 y24.Kind), (Value.int .i64 y24.Num), (Value.string y24.Text), (Value.slice Ae35_3 (List.length y24.Names) ce35_3), (Value.slice Ae35_4 (List.length y24.Types) ce35_4), (Value.slice Ae35_5 (List.length y24.Args) ce35_5), (Value.slice Ae35_6 (List.length y24.Arms) ce35_6), (Value.int .i64 y24.At)], rfl, rfl, ?_⟩
    refine ⟨[(Value.int .i64 y14.Kind), (Value.int .i64 y14.Num), (Value.string y14.Text), (Value.slice Ae34_3 (List.length y14.Args) ce34_3), (Value.int .i64 y24.Kind), (Value.int .i64 y24.Num), (Value.string y24.Text), (Value.slice Ae35_3 (List.length y24.Names) ce35_3), (Value.slice Ae35_4 (List.length y24.Types) ce35_4), (Value.slice Ae35_5 (List.length y24.Args) ce35_5), (Value.slice Ae35_6 (List.length y24.Arms) ce35_6), (Value.int .i64 y24.At)], rfl, rfl, ?_⟩
    refine O33.new fun h36 x37 O38 => ?_
    obtain ⟨l40, g41, e⟩ := bind_e e
    have O48 := O38.rowE (l := ([(T_api_Arm.mk y14 y24)] : List T_api_Arm)) 5 rfl T_api_Arm.T (show CsE _ _ _ _ _ from (CsE.cons (c1 := [(Value.int .i64 y14.Kind), (Value.int .i64 y14.Num), (Value.string y14.Text), (Value.slice Ae34_3 (List.length y14.Args) ce34_3), (Value.int .i64 y24.Kind), (Value.int .i64 y24.Num), (Value.string y24.Text), (Value.slice Ae35_3 (List.length y24.Names) ce35_3), (Value.slice Ae35_4 (List.length y24.Types) ce35_4), (Value.slice Ae35_5 (List.length y24.Args) ce35_5), (Value.slice Ae35_6 (List.length y24.Arms) ce35_6), (Value.int .i64 y24.At)]) (T_api_Arm.iff.2 ⟨_, _, _, _, _, _, _, _, _, _, rfl, ke34_3, (re34_3.sub T_api_Pat.T Q28.S.up), ke35_3, re35_3, ke35_4, re35_4, ke35_5, re35_5, ke35_6, re35_6⟩) rfl CsE.nil)) rfl
    refine O48.app 3 rfl rfl rfl ((O48.os 5 rfl).srcE rfl) (by decide) g41 fun A42 c43 h44 O45 => ?_
    refine ⟨_, _, _, rfl, ?_⟩
    have O49 := O45.nm
    exact (ih _ _ e) _ _ _ _ _ _ _ _ _ _ _ _ _ _ _ _ _ _ (O49.pick [0, 1, 2, 3]).nm (T_api_Expr.T.mono _ _ _ _ (Q18.S.up.trans Q28.S.up) e_1) (T_api_Expr.T.mono _ _ _ _ (Q18.S.up.trans Q28.S.up) e_2) rfl rfl rfl k_32 (r_32.sub T_api_Arm.T (Q18.S.up.trans Q28.S.up))
  · obtain ⟨Ae52_3, ce52_3, Ae52_4, ce52_4, Ae52_5, ce52_5, Ae52_6, ce52_6, rfl, ke52_3, re52_3, ke52_4, re52_4, ke52_5, re52_5, ke52_6, re52_6⟩ := T_api_Expr.iff.1 e_1
    refine O.st 0 rfl 5 (Nat.le_of_ble_eq_true rfl) trivial fun h53 O54 => ?_
    refine O54.st 0 rfl 6 (Nat.le_of_ble_eq_true rfl) trivial fun h55 O56 => ?_
    refine ⟨_, ldAn (Sub.refl _) (O56.all 0 rfl) rfl, ?_⟩
    refine ⟨_, rfl, rfl, ?_⟩
    refine O56.stA 1 rfl ((T_api_Expr.T.len _ _ _ e_2)).symm (Flats.cons trivial (Flats.cons trivial (Flats.cons trivial (Flats.cons trivial (Flats.cons trivial (Flats.cons trivial (Flats.cons trivial (Flats.cons trivial Flats.nil)))))))) fun h57 O58 => ?_
    refine ⟨_, ldAn (Sub.refl _) (O58.all 1 rfl) rfl, ?_⟩
    obtain ⟨m59, u60, ⟨r61, k62⟩, O63⟩ := O58.frz 2 rfl
    replace r61 : Rd 8 T_api_Expr.E m59 A_3 a_3 := r61
    obtain ⟨m64, u65, ⟨r66, k67⟩, O68⟩ := O63.frz 3 rfl
    replace r66 : Rd 12 T_api_Arm.E m64 A_6 a_6 := r66
    have O69 := O68.nm
    cases e
    exact ⟨_, _, O69.pick [], rfl, (T_api_Expr.iff.2 ⟨_, _, _, _, _, _, _, _, rfl, ke52_3, (re52_3.sub tell_str (u60.trans u65)), ke52_4, (re52_4.sub T_api_Type.T (u60.trans u65)), k62, (r61.sub T_api_Expr.T u65), k67, r66⟩)⟩
theorem tree_Clear_k.all {p : tree_Clear_k.Pt} {r : (T_api_Expr)} (e : tree_Clear_k.go p = some r) : tree_Clear_k.I p r := fixF_ind (β := fun _ => (T_api_Expr)) tree_Clear_k.mono (I := tree_Clear_k.I) (fun go ih p r e => match p with
  | .f y_0 => tree_Clear_k.step_f go ih y_0 r e
  | .l0 y_1 y_2 a_3 a_19 x_20 x_21 => tree_Clear_k.step_l0 go ih y_1 y_2 a_3 a_19 x_20 x_21 r e
  | .l1 y_1 y_2 a_3 a_6 a_32 x_33 x_34 => tree_Clear_k.step_l1 go ih y_1 y_2 a_3 a_6 a_32 x_33 x_34 r e
  ) e
theorem tree_Clear.walk {W : Nat → Prop} {h m : Heap} {cs_0 : List Value} {y_0 : T_api_Expr} (O : Hold W h m h m []) (e_0 : T_api_Expr.E m y_0 cs_0) {r : T_api_Expr} (e : tree_Clear y_0 = some r) : Run Tryd.prog 25 #[Value.agg cs_0.toArray] h (tree_Clear.post W h m r) := tree_Clear_k.all (p := .f y_0) e W h m cs_0 O e_0
def roadlaw2_TreeTells.post (W : Nat → Prop) (h0 m0 : Heap) (r : Bool) (v : Value) (h : Heap) : Prop := ∃ m , Hold W h0 m0 h m [] ∧ v = .bool r
inductive roadlaw2_TreeTells.l2_k.Pt where
  | l2 (y_1 : T_api_Expr) (a_6 : List T_api_Expr) (y_9 : T_api_Expr) (a_112 : List T_api_Expr) (x_113 : Int) (x_114 : Int)
noncomputable def roadlaw2_TreeTells.l2_k.body (go : (p : roadlaw2_TreeTells.l2_k.Pt) → Option (Bool)) : (p : roadlaw2_TreeTells.l2_k.Pt) → Option (Bool)
  | .l2 y_1 a_6 y_9 a_112 x_113 x_114 => if x_114 < x_113 then (Option.bind (gi a_112 x_114) fun y1 => if y1.At = (0 : Int) then ((go (.l2 y_1 a_6 y_9 a_112 x_113 (IntKind.wrap .i64 (x_114 + (1 : Int)))))) else (some (false))) else (Option.bind (tree_Parts y_1) fun y22 => Option.bind (slices_Clone_28 y_1.Args) fun y34 => Option.bind (ap 136 y34 a_6) fun l46 => Option.bind (slices_EqualFunc_26_s3 y22 l46) fun y54 => if y54 = true then (Option.bind (roadref2_ExprMark y_9) fun y71 => Option.bind (roadref2_ExprMark y_1) fun y78 => some ((decide (y71 = y78)))) else (some (false)))
theorem roadlaw2_TreeTells.l2_k.mono : MonoF (β := fun _ => (Bool)) roadlaw2_TreeTells.l2_k.body := fun f g hfg p => match p with
  | .l2 y_1 a_6 y_9 a_112 x_113 x_114 => LeO.ite (LeO.bind (LeO.refl _) fun y1 => LeO.ite ((hfg _)) (LeO.refl _)) (LeO.bind (LeO.refl _) fun y22 => LeO.bind (LeO.refl _) fun y34 => LeO.bind (LeO.refl _) fun l46 => LeO.bind (LeO.refl _) fun y54 => LeO.ite (LeO.bind (LeO.refl _) fun y71 => LeO.bind (LeO.refl _) fun y78 => LeO.refl _) (LeO.refl _))
noncomputable def roadlaw2_TreeTells.l2_k.go (p : roadlaw2_TreeTells.l2_k.Pt) : Option (Bool) := fixF (β := fun _ => (Bool)) roadlaw2_TreeTells.l2_k.body p
noncomputable def roadlaw2_TreeTells.l2 (y_1 : T_api_Expr) (a_6 : List T_api_Expr) (y_9 : T_api_Expr) (a_112 : List T_api_Expr) (x_113 : Int) (x_114 : Int) : Option (Bool) := roadlaw2_TreeTells.l2_k.go (.l2 y_1 a_6 y_9 a_112 x_113 x_114)
theorem roadlaw2_TreeTells.l2_eq (y_1 : T_api_Expr) (a_6 : List T_api_Expr) (y_9 : T_api_Expr) (a_112 : List T_api_Expr) (x_113 : Int) (x_114 : Int) : roadlaw2_TreeTells.l2 y_1 a_6 y_9 a_112 x_113 x_114 = if x_114 < x_113 then (Option.bind (gi a_112 x_114) fun y1 => if y1.At = (0 : Int) then ((roadlaw2_TreeTells.l2 y_1 a_6 y_9 a_112 x_113 (IntKind.wrap .i64 (x_114 + (1 : Int))))) else (some (false))) else (Option.bind (tree_Parts y_1) fun y22 => Option.bind (slices_Clone_28 y_1.Args) fun y34 => Option.bind (ap 136 y34 a_6) fun l46 => Option.bind (slices_EqualFunc_26_s3 y22 l46) fun y54 => if y54 = true then (Option.bind (roadref2_ExprMark y_9) fun y71 => Option.bind (roadref2_ExprMark y_1) fun y78 => some ((decide (y71 = y78)))) else (some (false))) := fixF_eq roadlaw2_TreeTells.l2_k.mono _
def roadlaw2_TreeTells.l2_k.I : (p : roadlaw2_TreeTells.l2_k.Pt) → (Bool) → Prop
  | .l2 y_1 a_6 y_9 a_112 x_113 x_114, r => ∀ (W : Nat → Prop) (h0 m0 h m : Heap) (bk_1 : Nat) (cs_1 : List Value) (A_6 : Option Addr) (n_6 c_6 : Nat) (bk_9 : Nat) (cs_9 : List Value) (A_112 : Option Addr) (n_112 c_112 : Nat) (O : Hold W h0 m0 h m [rV bk_1 40 cs_1, rR (aE T_api_Expr.T) A_6 c_6 a_6, rV bk_9 40 cs_9, rR (aE T_api_Expr.T) A_112 c_112 a_112]) (e_1 : T_api_Expr.E m y_1 cs_1) (ne_6 : n_6 = List.length a_6) (e_9 : T_api_Expr.E m y_9 cs_9) (ne_112 : n_112 = List.length a_112) (tab : TB m), f4.l2 (roadlaw2_TreeTells.post W h0 m0 r) (⟨bk_1, 0, none⟩ : Addr) A_6 n_6 c_6 (⟨bk_9, 0, none⟩ : Addr) A_112 n_112 c_112 x_113 x_114 h
set_option maxHeartbeats 4000000 in
set_option maxRecDepth 100000 in
theorem roadlaw2_TreeTells.l2_k.step_l2 (go : (p : roadlaw2_TreeTells.l2_k.Pt) → Option (Bool)) (ih : ∀ p r, go p = some r → roadlaw2_TreeTells.l2_k.I p r) (y_1 : T_api_Expr) (a_6 : List T_api_Expr) (y_9 : T_api_Expr) (a_112 : List T_api_Expr) (x_113 : Int) (x_114 : Int) (r : Bool) (e : roadlaw2_TreeTells.l2_k.body go (.l2 y_1 a_6 y_9 a_112 x_113 x_114) = some r) : roadlaw2_TreeTells.l2_k.I (.l2 y_1 a_6 y_9 a_112 x_113 x_114) r := by
  unfold roadlaw2_TreeTells.l2_k.body at e
  intro W h0 m0 h m bk_1 cs_1 A_6 n_6 c_6 bk_9 cs_9 A_112 n_112 c_112 O e_1 ne_6 e_9 ne_112 tab
  subst ne_6
  subst ne_112
  refine f4.l2_in ?_
  unfold f4.l2T
  refine split_dec_e e (fun c206 e => ?_) (fun c206 e => ?_)
  · obtain ⟨y1, g2, e⟩ := bind_e e
    refine (O.os 3 rfl).addr rfl g2 fun a3 cs4 ha5 hc6 he7 => ?_
    refine ⟨_, ldAn (Sub.refl _) hc6 rfl, ?_⟩
    refine O.new fun h8 x9 O10 => ?_
    refine ⟨_, rfl, (T_api_Expr.T.len _ _ _ he7), ?_⟩
    refine O10.stA 4 rfl (T_api_Expr.T.len _ _ _ he7) (T_api_Expr.T.flat _ _ _ he7) fun h12 O13 => ?_
    refine ⟨_, ldk (k := 7) (Sub.refl _) (O13.all 4 rfl) (T_api_Expr.g7 he7), _, rfl, ?_⟩
    refine split_ne_e e (fun c16 e => ?_) (fun c16 e => ?_)
    · have O14 := O13.nm
      cases e
      exact ⟨_, O14.pick [], rfl⟩
    · have O15 := O13.nm
      exact (ih _ _ e) _ _ _ _ _ _ _ _ _ _ _ _ _ _ _ (O15.pick [0, 1, 2, 3]).nm e_1 rfl e_9 rfl tab
  · refine ⟨_, ldAn (Sub.refl _) (O.all 0 rfl) (T_api_Expr.T.len _ _ _ e_1), ?_⟩
    obtain ⟨A17, c18, q19, k20, r21⟩ := T_api_Expr.g5 e_1
    refine ⟨_, ldk (k := 5) (Sub.refl _) (O.all 0 rfl) q19, _, _, _, rfl, ?_⟩
    obtain ⟨y22, g23, e⟩ := bind_e e
    obtain ⟨y34, g35, e⟩ := bind_e e
    obtain ⟨l46, g47, e⟩ := bind_e e
    obtain ⟨y54, g55, e⟩ := bind_e e
    refine (tree_Parts.walk (Hold.start (W := No) O.s) e_1 g23).mono ?_
    rintro _ h116 ⟨m117, A120, n121, c122, Q118, rfl, ne123⟩
    have O125 := Hold.nm (O.ret Q118)
    subst ne123
    refine ⟨_, _, _, rfl, ?_⟩
    refine ⟨Q118.S.ext, ?_⟩
    refine (slices_Clone_28.walk (Hold.start (W := No) O125.s) rfl k20 (r21.sub T_api_Expr.T Q118.S.up) g35).mono ?_
    rintro _ h128 ⟨m129, A132, n133, c134, Q130, rfl, ne135⟩
    have O137 := Hold.nm (O125.ret Q130)
    subst ne135
    refine ⟨_, _, _, rfl, ?_⟩
    refine O137.app 5 rfl rfl rfl ((O137.os 1 rfl).srcE rfl) (by decide) g47 fun A140 c141 h142 O143 => ?_
    refine ⟨_, _, _, rfl, ?_⟩
    have O152 := O143.nm
    obtain ⟨m153, u154, s161, ⟨⟨r157, k158⟩, ⟨r159, k160⟩, _⟩, B155, C156⟩ := O152.lend0 [4, 5]
    replace r157 : Rd 8 T_api_Expr.E m153 A120 y22 := r157
    replace k158 : List.length y22 ≤ c122 := k158
    replace r159 : Rd 8 T_api_Expr.E m153 A140 l46 := r159
    replace k160 : List.length l46 ≤ c141 := k160
    refine (slices_EqualFunc_26_s3.walk (Hold.start (W := No) s161) rfl k158 r157 rfl k160 r159 g55).mono ?_
    rintro _ h148 ⟨m149, Q150, rfl⟩
    have O162 := Hold.nm (C156 Q150 vfs_nil)
    refine ⟨_, rfl, ?_⟩
    refine split_any_e e (fun c205 e => ?_) (fun c205 e => ?_)
    · refine ⟨_, ldAn (Sub.refl _) (O162.all 2 rfl) (T_api_Expr.T.len _ _ _ e_9), ?_⟩
      obtain ⟨y163, g164, e⟩ := bind_e e
      obtain ⟨y170, g171, e⟩ := bind_e e
      refine ⟨?_, ?_⟩
      · refine (roadref2_ExprMark.walk (Hold.start (W := No) O162.s) (T_api_Expr.T.mono _ _ _ _ (Q118.S.up.trans Q130.S.up) e_9) (TBg.sub tab (Q118.S.up.trans Q130.S.up)) g164).mono ?_
        rintro _ h179 ⟨m180, Q181, rfl⟩
        have O183 := Hold.nm (O162.retC Q181 vfs_nil)
        refine ⟨_, rfl, ?_⟩
        refine ⟨_, ldAn (Sub.refl _) (O183.all 0 rfl) (T_api_Expr.T.len _ _ _ e_1), ?_⟩
        refine ⟨Ext.refl _, ?_⟩
        refine (roadref2_ExprMark.walk (Hold.start (W := No) O183.s) (T_api_Expr.T.mono _ _ _ _ (Q118.S.up.trans Q130.S.up) e_1) (TBg.sub tab (Q118.S.up.trans Q130.S.up)) g171).mono ?_
        rintro _ h186 ⟨m187, Q188, rfl⟩
        have O190 := Hold.nm (O183.retC Q188 vfs_nil)
        refine ⟨_, rfl, ?_⟩
        try rw [ba_list y163 y170]
        cases e
        exact ⟨_, O190.pick [], rfl⟩
      · refine ⟨_, ldAn (Sub.refl _) (O162.all 0 rfl) (T_api_Expr.T.len _ _ _ e_1), ?_⟩
        refine ⟨Ext.refl _, ?_⟩
        refine (roadref2_ExprMark.walk (Hold.start (W := No) O162.s) (T_api_Expr.T.mono _ _ _ _ (Q118.S.up.trans Q130.S.up) e_9) (TBg.sub tab (Q118.S.up.trans Q130.S.up)) g164).mono ?_
        rintro _ h193 ⟨m194, Q195, rfl⟩
        have O197 := Hold.nm (O162.retC Q195 vfs_nil)
        refine ⟨_, rfl, ?_⟩
        refine (roadref2_ExprMark.walk (Hold.start (W := No) O197.s) (T_api_Expr.T.mono _ _ _ _ (Q118.S.up.trans Q130.S.up) e_1) (TBg.sub tab (Q118.S.up.trans Q130.S.up)) g171).mono ?_
        rintro _ h200 ⟨m201, Q202, rfl⟩
        have O204 := Hold.nm (O197.retC Q202 vfs_nil)
        refine ⟨_, rfl, ?_⟩
        try rw [ba_list y163 y170]
        cases e
        exact ⟨_, O204.pick [], rfl⟩
    · refine ⟨?_, ?_⟩
      · refine ⟨Ext.refl _, ?_⟩
        cases e
        exact ⟨_, O162.pick [], rfl⟩
      · refine ⟨Ext.refl _, ?_⟩
        cases e
        exact ⟨_, O162.pick [], rfl⟩
theorem roadlaw2_TreeTells.l2_k.all {p : roadlaw2_TreeTells.l2_k.Pt} {r : (Bool)} (e : roadlaw2_TreeTells.l2_k.go p = some r) : roadlaw2_TreeTells.l2_k.I p r := fixF_ind (β := fun _ => (Bool)) roadlaw2_TreeTells.l2_k.mono (I := roadlaw2_TreeTells.l2_k.I) (fun go ih p r e => match p with
  | .l2 y_1 a_6 y_9 a_112 x_113 x_114 => roadlaw2_TreeTells.l2_k.step_l2 go ih y_1 a_6 y_9 a_112 x_113 x_114 r e
  ) e
theorem roadlaw2_TreeTells.l2.walk {W : Nat → Prop} {h0 m0 h m : Heap} {bk_1 : Nat} {cs_1 : List Value} {A_6 : Option Addr} {n_6 c_6 : Nat} {bk_9 : Nat} {cs_9 : List Value} {A_112 : Option Addr} {n_112 c_112 : Nat} {y_1 : T_api_Expr} {a_6 : List T_api_Expr} {y_9 : T_api_Expr} {a_112 : List T_api_Expr} {x_113 : Int} {x_114 : Int} (O : Hold W h0 m0 h m [rV bk_1 40 cs_1, rR (aE T_api_Expr.T) A_6 c_6 a_6, rV bk_9 40 cs_9, rR (aE T_api_Expr.T) A_112 c_112 a_112]) (e_1 : T_api_Expr.E m y_1 cs_1) (ne_6 : n_6 = List.length a_6) (e_9 : T_api_Expr.E m y_9 cs_9) (ne_112 : n_112 = List.length a_112) (tab : TB m) {r : Bool} (e : roadlaw2_TreeTells.l2 y_1 a_6 y_9 a_112 x_113 x_114 = some r) : f4.l2 (roadlaw2_TreeTells.post W h0 m0 r) (⟨bk_1, 0, none⟩ : Addr) A_6 n_6 c_6 (⟨bk_9, 0, none⟩ : Addr) A_112 n_112 c_112 x_113 x_114 h := roadlaw2_TreeTells.l2_k.all (p := .l2 y_1 a_6 y_9 a_112 x_113 x_114) e W h0 m0 h m bk_1 cs_1 A_6 n_6 c_6 bk_9 cs_9 A_112 n_112 c_112 O e_1 ne_6 e_9 ne_112 tab
inductive roadlaw2_TreeTells.l1_k.Pt where
  | l1 (y_1 : T_api_Expr) (a_6 : List T_api_Expr) (a_89 : List T_api_Arm) (x_90 : Int) (x_91 : Int)
noncomputable def roadlaw2_TreeTells.l1_k.body (go : (p : roadlaw2_TreeTells.l1_k.Pt) → Option (Bool)) : (p : roadlaw2_TreeTells.l1_k.Pt) → Option (Bool)
  | .l1 y_1 a_6 a_89 x_90 x_91 => if x_91 < x_90 then (Option.bind (gi a_89 x_91) fun y1 => Option.bind (ap 136 a_6 ([y1.Body] : List T_api_Expr)) fun l19 => Option.bind (tree_Bound y1.Pat) fun y29 => Option.bind (roadref2_NamesOf y1.Pat) fun y41 => Option.bind (slices_Equal_20 y29 y41) fun y53 => if y53 = true then ((go (.l1 y_1 l19 a_89 x_90 (IntKind.wrap .i64 (x_91 + (1 : Int)))))) else (some (false))) else (Option.bind (tree_Clear y_1) fun y70 => Option.bind (roadref2_All y70) fun y86 => (roadlaw2_TreeTells.l2 y_1 a_6 y70 y86 (((List.length y86) : Nat) : Int) (0 : Int)))
theorem roadlaw2_TreeTells.l1_k.mono : MonoF (β := fun _ => (Bool)) roadlaw2_TreeTells.l1_k.body := fun f g hfg p => match p with
  | .l1 y_1 a_6 a_89 x_90 x_91 => LeO.ite (LeO.bind (LeO.refl _) fun y1 => LeO.bind (LeO.refl _) fun l19 => LeO.bind (LeO.refl _) fun y29 => LeO.bind (LeO.refl _) fun y41 => LeO.bind (LeO.refl _) fun y53 => LeO.ite ((hfg _)) (LeO.refl _)) (LeO.bind (LeO.refl _) fun y70 => LeO.bind (LeO.refl _) fun y86 => (LeO.refl _))
noncomputable def roadlaw2_TreeTells.l1_k.go (p : roadlaw2_TreeTells.l1_k.Pt) : Option (Bool) := fixF (β := fun _ => (Bool)) roadlaw2_TreeTells.l1_k.body p
noncomputable def roadlaw2_TreeTells.l1 (y_1 : T_api_Expr) (a_6 : List T_api_Expr) (a_89 : List T_api_Arm) (x_90 : Int) (x_91 : Int) : Option (Bool) := roadlaw2_TreeTells.l1_k.go (.l1 y_1 a_6 a_89 x_90 x_91)
theorem roadlaw2_TreeTells.l1_eq (y_1 : T_api_Expr) (a_6 : List T_api_Expr) (a_89 : List T_api_Arm) (x_90 : Int) (x_91 : Int) : roadlaw2_TreeTells.l1 y_1 a_6 a_89 x_90 x_91 = if x_91 < x_90 then (Option.bind (gi a_89 x_91) fun y1 => Option.bind (ap 136 a_6 ([y1.Body] : List T_api_Expr)) fun l19 => Option.bind (tree_Bound y1.Pat) fun y29 => Option.bind (roadref2_NamesOf y1.Pat) fun y41 => Option.bind (slices_Equal_20 y29 y41) fun y53 => if y53 = true then ((roadlaw2_TreeTells.l1 y_1 l19 a_89 x_90 (IntKind.wrap .i64 (x_91 + (1 : Int))))) else (some (false))) else (Option.bind (tree_Clear y_1) fun y70 => Option.bind (roadref2_All y70) fun y86 => (roadlaw2_TreeTells.l2 y_1 a_6 y70 y86 (((List.length y86) : Nat) : Int) (0 : Int))) := fixF_eq roadlaw2_TreeTells.l1_k.mono _
def roadlaw2_TreeTells.l1_k.I : (p : roadlaw2_TreeTells.l1_k.Pt) → (Bool) → Prop
  | .l1 y_1 a_6 a_89 x_90 x_91, r => ∀ (W : Nat → Prop) (h0 m0 h m : Heap) (bk_1 : Nat) (cs_1 : List Value) (A_6 : Option Addr) (n_6 c_6 : Nat) (A_89 : Option Addr) (n_89 c_89 : Nat) (O : Hold W h0 m0 h m [rV bk_1 40 cs_1, rR (aE T_api_Expr.T) A_6 c_6 a_6]) (e_1 : T_api_Expr.E m y_1 cs_1) (ne_6 : n_6 = List.length a_6) (ne_89 : n_89 = List.length a_89) (k_89 : List.length a_89 ≤ c_89) (r_89 : Rd 12 T_api_Arm.E m A_89 a_89) (tab : TB m), f4.l1 (roadlaw2_TreeTells.post W h0 m0 r) (⟨bk_1, 0, none⟩ : Addr) A_6 n_6 c_6 A_89 n_89 c_89 x_90 x_91 h
set_option maxHeartbeats 4000000 in
set_option maxRecDepth 100000 in
theorem roadlaw2_TreeTells.l1_k.step_l1 (go : (p : roadlaw2_TreeTells.l1_k.Pt) → Option (Bool)) (ih : ∀ p r, go p = some r → roadlaw2_TreeTells.l1_k.I p r) (y_1 : T_api_Expr) (a_6 : List T_api_Expr) (a_89 : List T_api_Arm) (x_90 : Int) (x_91 : Int) (r : Bool) (e : roadlaw2_TreeTells.l1_k.body go (.l1 y_1 a_6 a_89 x_90 x_91) = some r) : roadlaw2_TreeTells.l1_k.I (.l1 y_1 a_6 a_89 x_90 x_91) r := by
  unfold roadlaw2_TreeTells.l1_k.body at e
  intro W h0 m0 h m bk_1 cs_1 A_6 n_6 c_6 A_89 n_89 c_89 O e_1 ne_6 ne_89 k_89 r_89 tab
  subst ne_6
  subst ne_89
  refine f4.l1_in ?_
  unfold f4.l1T
  refine split_dec_e e (fun c98 e => ?_) (fun c98 e => ?_)
  · obtain ⟨y1, g2, e⟩ := bind_e e
    refine r_89.addr rfl g2 fun a3 cs4 ha5 hc6 he7 => ?_
    refine ⟨_, ldAn O.s hc6 rfl, ?_⟩
    refine O.new fun h8 x9 O10 => ?_
    refine ⟨_, rfl, (T_api_Arm.T.len _ _ _ he7), ?_⟩
    refine O10.stA 2 rfl (T_api_Arm.T.len _ _ _ he7) (T_api_Arm.T.flat _ _ _ he7) fun h12 O13 => ?_
    refine ⟨_, ldAkn (Sub.refl _) (O13.all 2 rfl) 4 8 (le_len (T_api_Arm.T.len _ _ _ he7) (by decide)), ?_⟩
    refine ⟨(List.take 8 (List.drop 4 cs4)), rfl, (T_api_Expr.T.len _ _ _ (T_api_Arm.u4_40 he7)), ?_⟩
    refine O13.new fun h14 x15 O16 => ?_
    have O18 := O16.recell 3 rfl (cs' := (List.take 8 (List.drop 4 cs4)) ++ []) rfl
    obtain ⟨l19, g20, e⟩ := bind_e e
    have O27 := O18.rowE (l := ([y1.Body] : List T_api_Expr)) 3 rfl T_api_Expr.T (show CsE _ _ _ _ _ from (CsE.cons (T_api_Arm.u4_40 he7) (T_api_Expr.T.len _ _ _ (T_api_Arm.u4_40 he7)) CsE.nil)) rfl
    refine O27.app 1 rfl rfl rfl ((O27.os 3 rfl).srcE rfl) (by decide) g20 fun A21 c22 h23 O24 => ?_
    refine ⟨_, _, _, rfl, ?_⟩
    have O28 := O24.nm
    refine ⟨_, ldA0n (Sub.refl _) (O28.all 2 rfl) 4 (le_len (T_api_Arm.T.len _ _ _ he7) (by decide)), ?_⟩
    refine ⟨_, ldA0n (Sub.refl _) (O28.all 2 rfl) 4 (le_len (T_api_Arm.T.len _ _ _ he7) (by decide)), ?_⟩
    obtain ⟨y29, g30, e⟩ := bind_e e
    refine (tree_Bound.walk (Hold.start (W := No) O28.s) (T_api_Arm.u0_48 he7) g30).mono ?_
    rintro _ h31 ⟨m32, A35, n36, c37, Q33, rfl, ne38⟩
    have O40 := Hold.nm (O28.retC Q33 (vfs_cons (rR_vf (aE_vf (fun _ _ _ _ h => h))) vfs_nil))
    subst ne38
    refine ⟨_, _, _, rfl, ?_⟩
    refine ⟨Q33.S.ext, ?_⟩
    obtain ⟨y41, g42, e⟩ := bind_e e
    refine (roadref2_NamesOf.walk (Hold.start (W := No) O40.s) (T_api_Arm.u0_48 he7) g42).mono ?_
    rintro _ h43 ⟨m44, A47, n48, c49, Q45, rfl, ne50⟩
    have O52 := Hold.nm (O40.retC Q45 (vfs_cons (rR_vf (aE_vf (fun _ _ _ _ h => h))) vfs_nil))
    subst ne50
    refine ⟨_, _, _, rfl, ?_⟩
    obtain ⟨y53, g54, e⟩ := bind_e e
    obtain ⟨m59, u60, s67, ⟨⟨r63, k64⟩, ⟨r65, k66⟩, _⟩, B61, C62⟩ := O52.lend0 [4, 5]
    replace r63 : Rd 1 eStr m59 A35 y29 := r63
    replace k64 : List.length y29 ≤ c37 := k64
    replace r65 : Rd 1 eStr m59 A47 y41 := r65
    replace k66 : List.length y41 ≤ c49 := k66
    refine (slices_Equal_20.walk (Hold.start (W := No) s67) rfl k64 r63 rfl k66 r65 g54).mono ?_
    rintro _ h55 ⟨m56, Q57, rfl⟩
    have O68 := Hold.nm (C62 Q57 vfs_nil)
    refine ⟨_, rfl, ?_⟩
    refine split_not ?_
    refine split_any_e e (fun c69 e => ?_) (fun c69 e => ?_)
    · exact (ih _ _ e) _ _ _ _ _ _ _ _ _ _ _ _ _ (O68.pick [0, 1]).nm e_1 rfl rfl k_89 r_89 tab
    · cases e
      exact ⟨_, O68.pick [], rfl⟩
  · refine ⟨_, ldAn (Sub.refl _) (O.all 0 rfl) (T_api_Expr.T.len _ _ _ e_1), ?_⟩
    obtain ⟨y70, g71, e⟩ := bind_e e
    refine (tree_Clear.walk (Hold.start (W := No) O.s) e_1 g71).mono ?_
    rintro _ h72 ⟨m73, cs77, Q74, rfl, he78⟩
    have O79 := Hold.nm (O.ret Q74)
    refine O79.new fun h80 x81 O82 => ?_
    refine ⟨_, rfl, (T_api_Expr.T.len _ _ _ he78), ?_⟩
    refine O82.stA 2 rfl (T_api_Expr.T.len _ _ _ he78) (T_api_Expr.T.flat _ _ _ he78) fun h84 O85 => ?_
    refine ⟨_, ldAn (Sub.refl _) (O85.all 2 rfl) (T_api_Expr.T.len _ _ _ he78), ?_⟩
    obtain ⟨y86, g87, e⟩ := bind_e e
    refine (roadref2_All.walk (Hold.start (W := No) O85.s) he78 g87).mono ?_
    rintro _ h88 ⟨m89, A92, n93, c94, Q90, rfl, ne95⟩
    have O97 := Hold.nm (O85.ret Q90)
    subst ne95
    refine ⟨_, _, _, rfl, ?_⟩
    exact roadlaw2_TreeTells.l2.walk (O97.pick [0, 1, 2, 3]).nm (T_api_Expr.T.mono _ _ _ _ (Q74.S.up.trans Q90.S.up) e_1) rfl (T_api_Expr.T.mono _ _ _ _ Q90.S.up he78) rfl (TBg.sub tab (Q74.S.up.trans Q90.S.up)) e
theorem roadlaw2_TreeTells.l1_k.all {p : roadlaw2_TreeTells.l1_k.Pt} {r : (Bool)} (e : roadlaw2_TreeTells.l1_k.go p = some r) : roadlaw2_TreeTells.l1_k.I p r := fixF_ind (β := fun _ => (Bool)) roadlaw2_TreeTells.l1_k.mono (I := roadlaw2_TreeTells.l1_k.I) (fun go ih p r e => match p with
  | .l1 y_1 a_6 a_89 x_90 x_91 => roadlaw2_TreeTells.l1_k.step_l1 go ih y_1 a_6 a_89 x_90 x_91 r e
  ) e
theorem roadlaw2_TreeTells.l1.walk {W : Nat → Prop} {h0 m0 h m : Heap} {bk_1 : Nat} {cs_1 : List Value} {A_6 : Option Addr} {n_6 c_6 : Nat} {A_89 : Option Addr} {n_89 c_89 : Nat} {y_1 : T_api_Expr} {a_6 : List T_api_Expr} {a_89 : List T_api_Arm} {x_90 : Int} {x_91 : Int} (O : Hold W h0 m0 h m [rV bk_1 40 cs_1, rR (aE T_api_Expr.T) A_6 c_6 a_6]) (e_1 : T_api_Expr.E m y_1 cs_1) (ne_6 : n_6 = List.length a_6) (ne_89 : n_89 = List.length a_89) (k_89 : List.length a_89 ≤ c_89) (r_89 : Rd 12 T_api_Arm.E m A_89 a_89) (tab : TB m) {r : Bool} (e : roadlaw2_TreeTells.l1 y_1 a_6 a_89 x_90 x_91 = some r) : f4.l1 (roadlaw2_TreeTells.post W h0 m0 r) (⟨bk_1, 0, none⟩ : Addr) A_6 n_6 c_6 A_89 n_89 c_89 x_90 x_91 h := roadlaw2_TreeTells.l1_k.all (p := .l1 y_1 a_6 a_89 x_90 x_91) e W h0 m0 h m bk_1 cs_1 A_6 n_6 c_6 A_89 n_89 c_89 O e_1 ne_6 ne_89 k_89 r_89 tab
inductive roadlaw2_TreeTells.l0_k.Pt where
  | l0 (y_1 : T_api_Expr) (a_3 : List T_api_Expr) (a_4 : List T_api_Expr) (x_59 : Int) (x_60 : Int)
noncomputable def roadlaw2_TreeTells.l0_k.body (go : (p : roadlaw2_TreeTells.l0_k.Pt) → Option (Bool)) : (p : roadlaw2_TreeTells.l0_k.Pt) → Option (Bool)
  | .l0 y_1 a_3 a_4 x_59 x_60 => if x_60 < x_59 then (Option.bind (gi a_3 x_60) fun y1 => Option.bind (gi a_4 x_60) fun y8 => Option.bind (roadref2_ExprMark y1) fun y15 => Option.bind (roadref2_ExprMark y8) fun y27 => if y15 = y27 then (Option.bind (gi a_3 x_60) fun y34 => Option.bind (gi a_4 x_60) fun y41 => if y34.At = y41.At then ((go (.l0 y_1 a_3 a_4 x_59 (IntKind.wrap .i64 (x_60 + (1 : Int)))))) else (some (false))) else (some (false))) else ((roadlaw2_TreeTells.l1 y_1 ([] : List T_api_Expr) y_1.Arms (((List.length y_1.Arms) : Nat) : Int) (0 : Int)))
theorem roadlaw2_TreeTells.l0_k.mono : MonoF (β := fun _ => (Bool)) roadlaw2_TreeTells.l0_k.body := fun f g hfg p => match p with
  | .l0 y_1 a_3 a_4 x_59 x_60 => LeO.ite (LeO.bind (LeO.refl _) fun y1 => LeO.bind (LeO.refl _) fun y8 => LeO.bind (LeO.refl _) fun y15 => LeO.bind (LeO.refl _) fun y27 => LeO.ite (LeO.bind (LeO.refl _) fun y34 => LeO.bind (LeO.refl _) fun y41 => LeO.ite ((hfg _)) (LeO.refl _)) (LeO.refl _)) ((LeO.refl _))
noncomputable def roadlaw2_TreeTells.l0_k.go (p : roadlaw2_TreeTells.l0_k.Pt) : Option (Bool) := fixF (β := fun _ => (Bool)) roadlaw2_TreeTells.l0_k.body p
noncomputable def roadlaw2_TreeTells.l0 (y_1 : T_api_Expr) (a_3 : List T_api_Expr) (a_4 : List T_api_Expr) (x_59 : Int) (x_60 : Int) : Option (Bool) := roadlaw2_TreeTells.l0_k.go (.l0 y_1 a_3 a_4 x_59 x_60)
theorem roadlaw2_TreeTells.l0_eq (y_1 : T_api_Expr) (a_3 : List T_api_Expr) (a_4 : List T_api_Expr) (x_59 : Int) (x_60 : Int) : roadlaw2_TreeTells.l0 y_1 a_3 a_4 x_59 x_60 = if x_60 < x_59 then (Option.bind (gi a_3 x_60) fun y1 => Option.bind (gi a_4 x_60) fun y8 => Option.bind (roadref2_ExprMark y1) fun y15 => Option.bind (roadref2_ExprMark y8) fun y27 => if y15 = y27 then (Option.bind (gi a_3 x_60) fun y34 => Option.bind (gi a_4 x_60) fun y41 => if y34.At = y41.At then ((roadlaw2_TreeTells.l0 y_1 a_3 a_4 x_59 (IntKind.wrap .i64 (x_60 + (1 : Int))))) else (some (false))) else (some (false))) else ((roadlaw2_TreeTells.l1 y_1 ([] : List T_api_Expr) y_1.Arms (((List.length y_1.Arms) : Nat) : Int) (0 : Int))) := fixF_eq roadlaw2_TreeTells.l0_k.mono _
def roadlaw2_TreeTells.l0_k.I : (p : roadlaw2_TreeTells.l0_k.Pt) → (Bool) → Prop
  | .l0 y_1 a_3 a_4 x_59 x_60, r => ∀ (W : Nat → Prop) (h0 m0 h m : Heap) (bk_1 : Nat) (cs_1 : List Value) (A_3 : Option Addr) (n_3 c_3 : Nat) (A_4 : Option Addr) (n_4 c_4 : Nat) (O : Hold W h0 m0 h m [rV bk_1 40 cs_1, rR (aE T_api_Expr.T) A_3 c_3 a_3, rR (aE T_api_Expr.T) A_4 c_4 a_4]) (e_1 : T_api_Expr.E m y_1 cs_1) (ne_3 : n_3 = List.length a_3) (ne_4 : n_4 = List.length a_4) (tab : TB m), f4.l0 (roadlaw2_TreeTells.post W h0 m0 r) (⟨bk_1, 0, none⟩ : Addr) A_3 n_3 c_3 A_4 n_4 c_4 x_59 x_60 h
set_option maxHeartbeats 4000000 in
set_option maxRecDepth 100000 in
theorem roadlaw2_TreeTells.l0_k.step_l0 (go : (p : roadlaw2_TreeTells.l0_k.Pt) → Option (Bool)) (ih : ∀ p r, go p = some r → roadlaw2_TreeTells.l0_k.I p r) (y_1 : T_api_Expr) (a_3 : List T_api_Expr) (a_4 : List T_api_Expr) (x_59 : Int) (x_60 : Int) (r : Bool) (e : roadlaw2_TreeTells.l0_k.body go (.l0 y_1 a_3 a_4 x_59 x_60) = some r) : roadlaw2_TreeTells.l0_k.I (.l0 y_1 a_3 a_4 x_59 x_60) r := by
  unfold roadlaw2_TreeTells.l0_k.body at e
  intro W h0 m0 h m bk_1 cs_1 A_3 n_3 c_3 A_4 n_4 c_4 O e_1 ne_3 ne_4 tab
  subst ne_3
  subst ne_4
  refine f4.l0_in ?_
  unfold f4.l0T
  refine split_dec_e e (fun c123 e => ?_) (fun c123 e => ?_)
  · obtain ⟨y1, g2, e⟩ := bind_e e
    refine (O.os 1 rfl).addr rfl g2 fun a3 cs4 ha5 hc6 he7 => ?_
    obtain ⟨y8, g9, e⟩ := bind_e e
    refine (O.os 2 rfl).addr rfl g9 fun a10 cs11 ha12 hc13 he14 => ?_
    refine ⟨_, ldAn (Sub.refl _) hc6 rfl, ?_⟩
    obtain ⟨y15, g16, e⟩ := bind_e e
    obtain ⟨y27, g28, e⟩ := bind_e e
    refine ⟨?_, ?_⟩
    · refine (roadref2_ExprMark.walk (Hold.start (W := No) O.s) he7 tab g16).mono ?_
      rintro _ h52 ⟨m53, Q54, rfl⟩
      have O56 := Hold.nm (O.retC Q54 vfs_nil)
      refine ⟨_, rfl, ?_⟩
      obtain ⟨a57, cs58, ha61, hc59, he60⟩ := (O56.os 2 rfl).cellsAt g9
      cases ha12.symm.trans ha61
      refine ⟨_, ldAn (Sub.refl _) hc59 rfl, ?_⟩
      refine ⟨Ext.refl _, ?_⟩
      refine (roadref2_ExprMark.walk (Hold.start (W := No) O56.s) he60 tab g28).mono ?_
      rintro _ h64 ⟨m65, Q66, rfl⟩
      have O68 := Hold.nm (O56.retC Q66 vfs_nil)
      refine ⟨_, rfl, ?_⟩
      try rw [ba_list y15 y27]
      refine split_not ?_
      refine split_dec_e e (fun c84 e => ?_) (fun c84 e => ?_)
      · obtain ⟨y69, g70, e⟩ := bind_e e
        refine (O68.os 1 rfl).addr rfl g70 fun a71 cs72 ha73 hc74 he75 => ?_
        obtain ⟨y76, g77, e⟩ := bind_e e
        refine (O68.os 2 rfl).addr rfl g77 fun a78 cs79 ha80 hc81 he82 => ?_
        refine ⟨_, ldk (k := 7) (Sub.refl _) hc74 (T_api_Expr.g7 he75), _, rfl, ?_⟩
        refine ⟨_, ldk (k := 7) (Sub.refl _) hc81 (T_api_Expr.g7 he82), _, rfl, ?_⟩
        refine split_ne_e e (fun c83 e => ?_) (fun c83 e => ?_)
        · cases e
          exact ⟨_, O68.pick [], rfl⟩
        · exact (ih _ _ e) _ _ _ _ _ _ _ _ _ _ _ _ _ (O68.pick [0, 1, 2]).nm e_1 rfl rfl tab
      · cases e
        exact ⟨_, O68.pick [], rfl⟩
    · refine ⟨_, ldAn (Sub.refl _) hc13 rfl, ?_⟩
      refine ⟨Ext.refl _, ?_⟩
      refine (roadref2_ExprMark.walk (Hold.start (W := No) O.s) he7 tab g16).mono ?_
      rintro _ h87 ⟨m88, Q89, rfl⟩
      have O91 := Hold.nm (O.retC Q89 vfs_nil)
      refine ⟨_, rfl, ?_⟩
      refine (roadref2_ExprMark.walk (Hold.start (W := No) O91.s) he14 tab g28).mono ?_
      rintro _ h94 ⟨m95, Q96, rfl⟩
      have O98 := Hold.nm (O91.retC Q96 vfs_nil)
      refine ⟨_, rfl, ?_⟩
      try rw [ba_list y15 y27]
      refine split_not ?_
      refine split_dec_e e (fun c114 e => ?_) (fun c114 e => ?_)
      · obtain ⟨y99, g100, e⟩ := bind_e e
        refine (O98.os 1 rfl).addr rfl g100 fun a101 cs102 ha103 hc104 he105 => ?_
        obtain ⟨y106, g107, e⟩ := bind_e e
        refine (O98.os 2 rfl).addr rfl g107 fun a108 cs109 ha110 hc111 he112 => ?_
        refine ⟨_, ldk (k := 7) (Sub.refl _) hc104 (T_api_Expr.g7 he105), _, rfl, ?_⟩
        refine ⟨_, ldk (k := 7) (Sub.refl _) hc111 (T_api_Expr.g7 he112), _, rfl, ?_⟩
        refine split_ne_e e (fun c113 e => ?_) (fun c113 e => ?_)
        · cases e
          exact ⟨_, O98.pick [], rfl⟩
        · exact (ih _ _ e) _ _ _ _ _ _ _ _ _ _ _ _ _ (O98.pick [0, 1, 2]).nm e_1 rfl rfl tab
      · cases e
        exact ⟨_, O98.pick [], rfl⟩
  · obtain ⟨A115, c116, q117, k118, r119⟩ := T_api_Expr.g6 e_1
    refine ⟨_, ldk (k := 6) (Sub.refl _) (O.all 0 rfl) q117, _, _, _, rfl, ?_⟩
    have O120 := O.nil (aE T_api_Expr.T) none
    have O122 := O120.nm
    exact roadlaw2_TreeTells.l1.walk (O122.pick [0, 3]).nm e_1 rfl rfl k118 r119 tab e
theorem roadlaw2_TreeTells.l0_k.all {p : roadlaw2_TreeTells.l0_k.Pt} {r : (Bool)} (e : roadlaw2_TreeTells.l0_k.go p = some r) : roadlaw2_TreeTells.l0_k.I p r := fixF_ind (β := fun _ => (Bool)) roadlaw2_TreeTells.l0_k.mono (I := roadlaw2_TreeTells.l0_k.I) (fun go ih p r e => match p with
  | .l0 y_1 a_3 a_4 x_59 x_60 => roadlaw2_TreeTells.l0_k.step_l0 go ih y_1 a_3 a_4 x_59 x_60 r e
  ) e
theorem roadlaw2_TreeTells.l0.walk {W : Nat → Prop} {h0 m0 h m : Heap} {bk_1 : Nat} {cs_1 : List Value} {A_3 : Option Addr} {n_3 c_3 : Nat} {A_4 : Option Addr} {n_4 c_4 : Nat} {y_1 : T_api_Expr} {a_3 : List T_api_Expr} {a_4 : List T_api_Expr} {x_59 : Int} {x_60 : Int} (O : Hold W h0 m0 h m [rV bk_1 40 cs_1, rR (aE T_api_Expr.T) A_3 c_3 a_3, rR (aE T_api_Expr.T) A_4 c_4 a_4]) (e_1 : T_api_Expr.E m y_1 cs_1) (ne_3 : n_3 = List.length a_3) (ne_4 : n_4 = List.length a_4) (tab : TB m) {r : Bool} (e : roadlaw2_TreeTells.l0 y_1 a_3 a_4 x_59 x_60 = some r) : f4.l0 (roadlaw2_TreeTells.post W h0 m0 r) (⟨bk_1, 0, none⟩ : Addr) A_3 n_3 c_3 A_4 n_4 c_4 x_59 x_60 h := roadlaw2_TreeTells.l0_k.all (p := .l0 y_1 a_3 a_4 x_59 x_60) e W h0 m0 h m bk_1 cs_1 A_3 n_3 c_3 A_4 n_4 c_4 O e_1 ne_3 ne_4 tab
noncomputable def roadlaw2_TreeTells.j0 (y_1 : T_api_Expr) (a_3 : List T_api_Expr) (a_4 : List T_api_Expr) : Option (Bool) :=
  (roadlaw2_TreeTells.l0 y_1 a_3 a_4 (((List.length a_3) : Nat) : Int) (0 : Int))
set_option maxRecDepth 100000 in
theorem roadlaw2_TreeTells.j0.walk {W : Nat → Prop} {h0 m0 h m : Heap} {bk_1 : Nat} {cs_1 : List Value} {A_3 : Option Addr} {n_3 c_3 : Nat} {A_4 : Option Addr} {n_4 c_4 : Nat} {y_1 : T_api_Expr} {a_3 : List T_api_Expr} {a_4 : List T_api_Expr} (O : Hold W h0 m0 h m [rV bk_1 40 cs_1, rR (aE T_api_Expr.T) A_3 c_3 a_3, rR (aE T_api_Expr.T) A_4 c_4 a_4]) (e_1 : T_api_Expr.E m y_1 cs_1) (ne_3 : n_3 = List.length a_3) (ne_4 : n_4 = List.length a_4) (tab : TB m) {r : Bool} (e : roadlaw2_TreeTells.j0 y_1 a_3 a_4 = some r) : f4.j0 (roadlaw2_TreeTells.post W h0 m0 r) (⟨bk_1, 0, none⟩ : Addr) A_3 n_3 c_3 A_4 n_4 c_4 h := by
  unfold roadlaw2_TreeTells.j0 at e
  subst ne_3
  subst ne_4
  refine f4.j0_in ?_
  unfold f4.j0T
  exact roadlaw2_TreeTells.l0.walk (O.pick [0, 1, 2]).nm e_1 rfl rfl tab e
noncomputable def roadlaw2_TreeTells (y_0 : T_api_Expr) : Option (Bool) :=
  Option.bind (roadref2_SizeOf y_0) fun y5 => if y5 > (400 : Int) then (some (true)) else (Option.bind (tree_Walk y_0) fun y12 => Option.bind (roadref2_All y_0) fun y24 => if (((List.length y12) : Nat) : Int) = (((List.length y24) : Nat) : Int) then (if (((List.length y12) : Nat) : Int) = (0 : Int) then (some (false)) else (Option.bind (tree_Size y_0) fun y36 => Option.bind (roadref2_SizeOf y_0) fun y43 => if y36 = y43 then (Option.bind (tree_Deep y_0) fun y50 => Option.bind (roadref2_DeepOf y_0) fun y57 => if y50 = y57 then (Option.bind (tree_Needs y_0) fun y64 => Option.bind (roadref2_NeedsOf y_0) fun y71 => if y64 = y71 then (Option.bind (tree_Free y_0) fun y78 => Option.bind (roadref2_FreeOf y_0) fun y90 => Option.bind (slices_Equal_20 y78 y90) fun y102 => if y102 = true then ((roadlaw2_TreeTells.j0 y_0 y12 y24)) else (some (false))) else (some (false))) else (some (false))) else (some (false)))) else (some (false)))
set_option maxHeartbeats 4000000 in
set_option maxRecDepth 100000 in
theorem roadlaw2_TreeTells.walk {W : Nat → Prop} {h m : Heap} {cs_0 : List Value} {y_0 : T_api_Expr} (O : Hold W h m h m []) (e_0 : T_api_Expr.E m y_0 cs_0) (tab : TB m) {r : Bool} (e : roadlaw2_TreeTells y_0 = some r) : Run Tryd.prog 4 #[Value.agg cs_0.toArray] h (roadlaw2_TreeTells.post W h m r) := by
  unfold roadlaw2_TreeTells at e
  refine f4.run ?_
  unfold f4.runT
  refine O.new fun h1 x2 O3 => ?_
  refine ⟨_, ldAn (Sub.refl _) (O3.all 0 rfl) (T_api_Expr.T.len _ _ _ e_0), ?_⟩
  obtain ⟨y5, g6, e⟩ := bind_e e
  refine (roadref2_SizeOf.walk (Hold.start (W := No) O3.s) e_0 g6).mono ?_
  rintro _ h7 ⟨m8, Q9, rfl⟩
  have O11 := Hold.nm (O3.retC Q9 vfs_nil)
  refine ⟨_, rfl, ?_⟩
  refine split_dec_e e (fun c124 e => ?_) (fun c124 e => ?_)
  · cases e
    exact ⟨_, O11.pick [], rfl⟩
  · refine ⟨_, ldAn (Sub.refl _) (O11.all 0 rfl) (T_api_Expr.T.len _ _ _ e_0), ?_⟩
    obtain ⟨y12, g13, e⟩ := bind_e e
    refine (tree_Walk.walk (Hold.start (W := No) O11.s) e_0 g13).mono ?_
    rintro _ h14 ⟨m15, A18, n19, c20, Q16, rfl, ne21⟩
    have O23 := Hold.nm (O11.ret Q16)
    subst ne21
    refine ⟨_, _, _, rfl, ?_⟩
    refine ⟨_, ldAn (Sub.refl _) (O23.all 0 rfl) (T_api_Expr.T.len _ _ _ e_0), ?_⟩
    obtain ⟨y24, g25, e⟩ := bind_e e
    refine (roadref2_All.walk (Hold.start (W := No) O23.s) (T_api_Expr.T.mono _ _ _ _ Q16.S.up e_0) g25).mono ?_
    rintro _ h26 ⟨m27, A30, n31, c32, Q28, rfl, ne33⟩
    have O35 := Hold.nm (O23.ret Q28)
    subst ne33
    refine ⟨_, _, _, rfl, ?_⟩
    refine split_ne_e e (fun c123 e => ?_) (fun c123 e => ?_)
    · refine ⟨Ext.refl _, ?_⟩
      refine ⟨Ext.refl _, ?_⟩
      refine ⟨Ext.refl _, ?_⟩
      refine ⟨Ext.refl _, ?_⟩
      cases e
      exact ⟨_, O35.pick [], rfl⟩
    · refine split_eq_e e (fun c122 e => ?_) (fun c122 e => ?_)
      · refine ⟨Ext.refl _, ?_⟩
        refine ⟨Ext.refl _, ?_⟩
        refine ⟨Ext.refl _, ?_⟩
        refine ⟨Ext.refl _, ?_⟩
        cases e
        exact ⟨_, O35.pick [], rfl⟩
      · refine ⟨_, ldAn (Sub.refl _) (O35.all 0 rfl) (T_api_Expr.T.len _ _ _ e_0), ?_⟩
        refine ⟨_, ldAn (Sub.refl _) (O35.all 0 rfl) (T_api_Expr.T.len _ _ _ e_0), ?_⟩
        obtain ⟨y36, g37, e⟩ := bind_e e
        refine (tree_Size.walk (Hold.start (W := No) O35.s) (T_api_Expr.T.mono _ _ _ _ (Q16.S.up.trans Q28.S.up) e_0) g37).mono ?_
        rintro _ h38 ⟨m39, Q40, rfl⟩
        have O42 := Hold.nm (O35.retC Q40 vfs_nil)
        refine ⟨_, rfl, ?_⟩
        refine ⟨Q40.S.ext, ?_⟩
        obtain ⟨y43, g44, e⟩ := bind_e e
        refine (roadref2_SizeOf.walk (Hold.start (W := No) O42.s) (T_api_Expr.T.mono _ _ _ _ (Q16.S.up.trans Q28.S.up) e_0) g44).mono ?_
        rintro _ h45 ⟨m46, Q47, rfl⟩
        have O49 := Hold.nm (O42.retC Q47 vfs_nil)
        refine ⟨_, rfl, ?_⟩
        refine split_ne_e e (fun c121 e => ?_) (fun c121 e => ?_)
        · refine ⟨Ext.refl _, ?_⟩
          refine ⟨Ext.refl _, ?_⟩
          refine ⟨Ext.refl _, ?_⟩
          cases e
          exact ⟨_, O49.pick [], rfl⟩
        · refine ⟨_, ldAn (Sub.refl _) (O49.all 0 rfl) (T_api_Expr.T.len _ _ _ e_0), ?_⟩
          refine ⟨_, ldAn (Sub.refl _) (O49.all 0 rfl) (T_api_Expr.T.len _ _ _ e_0), ?_⟩
          obtain ⟨y50, g51, e⟩ := bind_e e
          refine (tree_Deep.walk (Hold.start (W := No) O49.s) (T_api_Expr.T.mono _ _ _ _ (Q16.S.up.trans Q28.S.up) e_0) g51).mono ?_
          rintro _ h52 ⟨m53, Q54, rfl⟩
          have O56 := Hold.nm (O49.retC Q54 vfs_nil)
          refine ⟨_, rfl, ?_⟩
          refine ⟨Q54.S.ext, ?_⟩
          obtain ⟨y57, g58, e⟩ := bind_e e
          refine (roadref2_DeepOf.walk (Hold.start (W := No) O56.s) (T_api_Expr.T.mono _ _ _ _ (Q16.S.up.trans Q28.S.up) e_0) g58).mono ?_
          rintro _ h59 ⟨m60, Q61, rfl⟩
          have O63 := Hold.nm (O56.retC Q61 vfs_nil)
          refine ⟨_, rfl, ?_⟩
          refine split_ne_e e (fun c120 e => ?_) (fun c120 e => ?_)
          · refine ⟨Ext.refl _, ?_⟩
            refine ⟨Ext.refl _, ?_⟩
            cases e
            exact ⟨_, O63.pick [], rfl⟩
          · refine ⟨_, ldAn (Sub.refl _) (O63.all 0 rfl) (T_api_Expr.T.len _ _ _ e_0), ?_⟩
            refine ⟨_, ldAn (Sub.refl _) (O63.all 0 rfl) (T_api_Expr.T.len _ _ _ e_0), ?_⟩
            obtain ⟨y64, g65, e⟩ := bind_e e
            refine (tree_Needs.walk (Hold.start (W := No) O63.s) (T_api_Expr.T.mono _ _ _ _ (Q16.S.up.trans Q28.S.up) e_0) g65).mono ?_
            rintro _ h66 ⟨m67, Q68, rfl⟩
            have O70 := Hold.nm (O63.retC Q68 vfs_nil)
            refine ⟨_, rfl, ?_⟩
            refine ⟨Q68.S.ext, ?_⟩
            obtain ⟨y71, g72, e⟩ := bind_e e
            refine (roadref2_NeedsOf.walk (Hold.start (W := No) O70.s) (T_api_Expr.T.mono _ _ _ _ (Q16.S.up.trans Q28.S.up) e_0) g72).mono ?_
            rintro _ h73 ⟨m74, Q75, rfl⟩
            have O77 := Hold.nm (O70.retC Q75 vfs_nil)
            refine ⟨_, rfl, ?_⟩
            refine split_ne_e e (fun c119 e => ?_) (fun c119 e => ?_)
            · refine ⟨Ext.refl _, ?_⟩
              cases e
              exact ⟨_, O77.pick [], rfl⟩
            · refine ⟨_, ldAn (Sub.refl _) (O77.all 0 rfl) (T_api_Expr.T.len _ _ _ e_0), ?_⟩
              refine ⟨_, ldAn (Sub.refl _) (O77.all 0 rfl) (T_api_Expr.T.len _ _ _ e_0), ?_⟩
              obtain ⟨y78, g79, e⟩ := bind_e e
              refine (tree_Free.walk (Hold.start (W := No) O77.s) (T_api_Expr.T.mono _ _ _ _ (Q16.S.up.trans Q28.S.up) e_0) g79).mono ?_
              rintro _ h80 ⟨m81, A84, n85, c86, Q82, rfl, ne87⟩
              have O89 := Hold.nm (O77.retC Q82 (vfs_cons (rR_vf (aE_vf (fun _ _ _ _ h => h))) vfs_nil))
              subst ne87
              refine ⟨_, _, _, rfl, ?_⟩
              refine ⟨Q82.S.ext, ?_⟩
              obtain ⟨y90, g91, e⟩ := bind_e e
              refine (roadref2_FreeOf.walk (Hold.start (W := No) O89.s) (T_api_Expr.T.mono _ _ _ _ (Q16.S.up.trans Q28.S.up) e_0) g91).mono ?_
              rintro _ h92 ⟨m93, A96, n97, c98, Q94, rfl, ne99⟩
              have O101 := Hold.nm (O89.retC Q94 (vfs_cons (rR_vf (aE_vf (fun _ _ _ _ h => h))) vfs_nil))
              subst ne99
              refine ⟨_, _, _, rfl, ?_⟩
              obtain ⟨y102, g103, e⟩ := bind_e e
              obtain ⟨m108, u109, s116, ⟨⟨r112, k113⟩, ⟨r114, k115⟩, _⟩, B110, C111⟩ := O101.lend0 [3, 4]
              replace r112 : Rd 1 eStr m108 A84 y78 := r112
              replace k113 : List.length y78 ≤ c86 := k113
              replace r114 : Rd 1 eStr m108 A96 y90 := r114
              replace k115 : List.length y90 ≤ c98 := k115
              refine (slices_Equal_20.walk (Hold.start (W := No) s116) rfl k113 r112 rfl k115 r114 g103).mono ?_
              rintro _ h104 ⟨m105, Q106, rfl⟩
              have O117 := Hold.nm (C111 Q106 vfs_nil)
              refine ⟨_, rfl, ?_⟩
              refine split_not ?_
              refine split_any_e e (fun c118 e => ?_) (fun c118 e => ?_)
              · exact roadlaw2_TreeTells.j0.walk (O117.pick [0, 1, 2]).nm (T_api_Expr.T.mono _ _ _ _ (Q16.S.up.trans Q28.S.up) e_0) rfl rfl (TBg.sub tab (Q16.S.up.trans Q28.S.up)) e
              · cases e
                exact ⟨_, O117.pick [], rfl⟩
end Go.Proofs.YtnlocljmalhddabDoor.Fw

end
