/- Part 5: what the law WardTells needs, put together out of texts of this session. -/
import Derived.Test.YthnlhffpmlgmfabZWardTellsd
section
namespace Go.Proofs.Ythnlhffpmlgmfab.Fw
open Go Go.Hw Go.Proofs
set_option linter.unusedVariables false
set_option synthInstance.maxHeartbeats 400000
set_option synthInstance.maxSize 1000
def roadref3_WardFault.post (W : Nat → Prop) (h0 m0 : Heap) (r : Int) (v : Value) (h : Heap) : Prop := ∃ m , Hold W h0 m0 h m [] ∧ v = .int .i64 r
inductive roadref3_WardFault.l1_k.Pt where
  | l1 (x_7 : Int) (a_65 : List Int) (x_66 : Int) (x_67 : Int)
noncomputable def roadref3_WardFault.l1_k.body (go : (p : roadref3_WardFault.l1_k.Pt) → Option (Int)) : (p : roadref3_WardFault.l1_k.Pt) → Option (Int)
  | .l1 x_7 a_65 x_66 x_67 => if x_67 < x_66 then (Option.bind (gi a_65 x_67) fun y1 => Option.bind (roadref3_In y1 x_7 (1099511627776 : Int)) fun y8 => if y8 = true then ((go (.l1 y1 a_65 x_66 (IntKind.wrap .i64 (x_67 + (1 : Int)))))) else (some ((21 : Int)))) else (some ((0 : Int)))
theorem roadref3_WardFault.l1_k.mono : MonoF (β := fun _ => (Int)) roadref3_WardFault.l1_k.body := fun f g hfg p => match p with
  | .l1 x_7 a_65 x_66 x_67 => LeO.ite (LeO.bind (LeO.refl _) fun y1 => LeO.bind (LeO.refl _) fun y8 => LeO.ite ((hfg _)) (LeO.refl _)) (LeO.refl _)
noncomputable def roadref3_WardFault.l1_k.go (p : roadref3_WardFault.l1_k.Pt) : Option (Int) := fixF (β := fun _ => (Int)) roadref3_WardFault.l1_k.body p
noncomputable def roadref3_WardFault.l1 (x_7 : Int) (a_65 : List Int) (x_66 : Int) (x_67 : Int) : Option (Int) := roadref3_WardFault.l1_k.go (.l1 x_7 a_65 x_66 x_67)
theorem roadref3_WardFault.l1_eq (x_7 : Int) (a_65 : List Int) (x_66 : Int) (x_67 : Int) : roadref3_WardFault.l1 x_7 a_65 x_66 x_67 = if x_67 < x_66 then (Option.bind (gi a_65 x_67) fun y1 => Option.bind (roadref3_In y1 x_7 (1099511627776 : Int)) fun y8 => if y8 = true then ((roadref3_WardFault.l1 y1 a_65 x_66 (IntKind.wrap .i64 (x_67 + (1 : Int))))) else (some ((21 : Int)))) else (some ((0 : Int))) := fixF_eq roadref3_WardFault.l1_k.mono _
def roadref3_WardFault.l1_k.I : (p : roadref3_WardFault.l1_k.Pt) → (Int) → Prop
  | .l1 x_7 a_65 x_66 x_67, r => ∀ (W : Nat → Prop) (h0 m0 h m : Heap) (A_65 : Option Addr) (n_65 c_65 : Nat) (O : Hold W h0 m0 h m []) (ne_65 : n_65 = List.length a_65) (k_65 : List.length a_65 ≤ c_65) (r_65 : Rd 1 (eInt .i64) m A_65 a_65), f10.l1 (roadref3_WardFault.post W h0 m0 r) x_7 A_65 n_65 c_65 x_66 x_67 h
set_option maxRecDepth 100000 in
theorem roadref3_WardFault.l1_k.step_l1 (go : (p : roadref3_WardFault.l1_k.Pt) → Option (Int)) (ih : ∀ p r, go p = some r → roadref3_WardFault.l1_k.I p r) (x_7 : Int) (a_65 : List Int) (x_66 : Int) (x_67 : Int) (r : Int) (e : roadref3_WardFault.l1_k.body go (.l1 x_7 a_65 x_66 x_67) = some r) : roadref3_WardFault.l1_k.I (.l1 x_7 a_65 x_66 x_67) r := by
  unfold roadref3_WardFault.l1_k.body at e
  intro W h0 m0 h m A_65 n_65 c_65 O ne_65 k_65 r_65
  subst ne_65
  refine f10.l1_in ?_
  unfold f10.l1T
  refine split_dec_e e (fun c16 e => ?_) (fun c16 e => ?_)
  · obtain ⟨y1, g2, e⟩ := bind_e e
    refine r_65.addr rfl g2 fun a3 cs4 ha5 hc6 he7 => ?_
    obtain rfl : cs4 = [(Value.int .i64 y1)] := he7
    refine ⟨_, ld0 O.s hc6 rfl, _, rfl, ?_⟩
    obtain ⟨y8, g9, e⟩ := bind_e e
    refine (roadref3_In.walk (Hold.start (W := No) O.s)  g9).mono ?_
    rintro _ h10 ⟨m11, Q12, rfl⟩
    have O14 := Hold.nm (O.retC Q12 vfs_nil)
    refine ⟨_, rfl, ?_⟩
    refine split_not ?_
    refine split_any_e e (fun c15 e => ?_) (fun c15 e => ?_)
    · exact (ih _ _ e) _ _ _ _ _ _ _ _ (O14.pick []).nm rfl k_65 r_65
    · cases e
      exact ⟨_, O14.pick [], rfl⟩
  · cases e
    exact ⟨_, O.pick [], rfl⟩
theorem roadref3_WardFault.l1_k.all {p : roadref3_WardFault.l1_k.Pt} {r : (Int)} (e : roadref3_WardFault.l1_k.go p = some r) : roadref3_WardFault.l1_k.I p r := fixF_ind (β := fun _ => (Int)) roadref3_WardFault.l1_k.mono (I := roadref3_WardFault.l1_k.I) (fun go ih p r e => match p with
  | .l1 x_7 a_65 x_66 x_67 => roadref3_WardFault.l1_k.step_l1 go ih x_7 a_65 x_66 x_67 r e
  ) e
theorem roadref3_WardFault.l1.walk {W : Nat → Prop} {h0 m0 h m : Heap} {A_65 : Option Addr} {n_65 c_65 : Nat} {x_7 : Int} {a_65 : List Int} {x_66 : Int} {x_67 : Int} (O : Hold W h0 m0 h m []) (ne_65 : n_65 = List.length a_65) (k_65 : List.length a_65 ≤ c_65) (r_65 : Rd 1 (eInt .i64) m A_65 a_65) {r : Int} (e : roadref3_WardFault.l1 x_7 a_65 x_66 x_67 = some r) : f10.l1 (roadref3_WardFault.post W h0 m0 r) x_7 A_65 n_65 c_65 x_66 x_67 h := roadref3_WardFault.l1_k.all (p := .l1 x_7 a_65 x_66 x_67) e W h0 m0 h m A_65 n_65 c_65 O ne_65 k_65 r_65
inductive roadref3_WardFault.l0_k.Pt where
  | l0 (y_1 : T_ward_Ward) (a_37 : List T_ward_Child) (x_38 : Int) (x_39 : Int)
  | l2 (y_1 : T_ward_Ward) (y_4 : T_ward_Child) (a_37 : List T_ward_Child) (x_38 : Int) (x_39 : Int) (a_51 : List T_ward_Child) (x_52 : Int) (x_53 : Int)
noncomputable def roadref3_WardFault.l0_k.body (go : (p : roadref3_WardFault.l0_k.Pt) → Option (Int)) : (p : roadref3_WardFault.l0_k.Pt) → Option (Int)
  | .l0 y_1 a_37 x_38 x_39 => if x_39 < x_38 then (Option.bind (gi a_37 x_39) fun y1 => Option.bind (roadref3_In y1.When (1 : Int) (3 : Int)) fun y14 => if y14 = true then (Option.bind (sls y_1.Children (0 : Int) x_39) fun l26 => (go (.l2 y_1 y1 a_37 x_38 x_39 l26 (((List.length l26) : Nat) : Int) (0 : Int)))) else (some ((1 : Int)))) else ((roadref3_WardFault.l1 (0 : Int) y_1.Times (((List.length y_1.Times) : Nat) : Int) (0 : Int)))
  | .l2 y_1 y_4 a_37 x_38 x_39 a_51 x_52 x_53 => if x_53 < x_52 then (Option.bind (gi a_51 x_53) fun y1 => if y1.Id = y_4.Id then (some ((5 : Int))) else ((go (.l2 y_1 y_4 a_37 x_38 x_39 a_51 x_52 (IntKind.wrap .i64 (x_53 + (1 : Int))))))) else ((go (.l0 y_1 a_37 x_38 (IntKind.wrap .i64 (x_39 + (1 : Int))))))
theorem roadref3_WardFault.l0_k.mono : MonoF (β := fun _ => (Int)) roadref3_WardFault.l0_k.body := fun f g hfg p => match p with
  | .l0 y_1 a_37 x_38 x_39 => LeO.ite (LeO.bind (LeO.refl _) fun y1 => LeO.bind (LeO.refl _) fun y14 => LeO.ite (LeO.bind (LeO.refl _) fun l26 => (hfg _)) (LeO.refl _)) ((LeO.refl _))
  | .l2 y_1 y_4 a_37 x_38 x_39 a_51 x_52 x_53 => LeO.ite (LeO.bind (LeO.refl _) fun y1 => LeO.ite (LeO.refl _) ((hfg _))) ((hfg _))
noncomputable def roadref3_WardFault.l0_k.go (p : roadref3_WardFault.l0_k.Pt) : Option (Int) := fixF (β := fun _ => (Int)) roadref3_WardFault.l0_k.body p
noncomputable def roadref3_WardFault.l0 (y_1 : T_ward_Ward) (a_37 : List T_ward_Child) (x_38 : Int) (x_39 : Int) : Option (Int) := roadref3_WardFault.l0_k.go (.l0 y_1 a_37 x_38 x_39)
noncomputable def roadref3_WardFault.l2 (y_1 : T_ward_Ward) (y_4 : T_ward_Child) (a_37 : List T_ward_Child) (x_38 : Int) (x_39 : Int) (a_51 : List T_ward_Child) (x_52 : Int) (x_53 : Int) : Option (Int) := roadref3_WardFault.l0_k.go (.l2 y_1 y_4 a_37 x_38 x_39 a_51 x_52 x_53)
theorem roadref3_WardFault.l0_eq (y_1 : T_ward_Ward) (a_37 : List T_ward_Child) (x_38 : Int) (x_39 : Int) : roadref3_WardFault.l0 y_1 a_37 x_38 x_39 = if x_39 < x_38 then (Option.bind (gi a_37 x_39) fun y1 => Option.bind (roadref3_In y1.When (1 : Int) (3 : Int)) fun y14 => if y14 = true then (Option.bind (sls y_1.Children (0 : Int) x_39) fun l26 => (roadref3_WardFault.l2 y_1 y1 a_37 x_38 x_39 l26 (((List.length l26) : Nat) : Int) (0 : Int))) else (some ((1 : Int)))) else ((roadref3_WardFault.l1 (0 : Int) y_1.Times (((List.length y_1.Times) : Nat) : Int) (0 : Int))) := fixF_eq roadref3_WardFault.l0_k.mono _
theorem roadref3_WardFault.l2_eq (y_1 : T_ward_Ward) (y_4 : T_ward_Child) (a_37 : List T_ward_Child) (x_38 : Int) (x_39 : Int) (a_51 : List T_ward_Child) (x_52 : Int) (x_53 : Int) : roadref3_WardFault.l2 y_1 y_4 a_37 x_38 x_39 a_51 x_52 x_53 = if x_53 < x_52 then (Option.bind (gi a_51 x_53) fun y1 => if y1.Id = y_4.Id then (some ((5 : Int))) else ((roadref3_WardFault.l2 y_1 y_4 a_37 x_38 x_39 a_51 x_52 (IntKind.wrap .i64 (x_53 + (1 : Int)))))) else ((roadref3_WardFault.l0 y_1 a_37 x_38 (IntKind.wrap .i64 (x_39 + (1 : Int))))) := fixF_eq roadref3_WardFault.l0_k.mono _
def roadref3_WardFault.l0_k.I : (p : roadref3_WardFault.l0_k.Pt) → (Int) → Prop
  | .l0 y_1 a_37 x_38 x_39, r => ∀ (W : Nat → Prop) (h0 m0 h m : Heap) (bk_1 : Nat) (cs_1 : List Value) (A_37 : Option Addr) (n_37 c_37 : Nat) (O : Hold W h0 m0 h m [rV bk_1 25 cs_1]) (e_1 : T_ward_Ward.E m y_1 cs_1) (ne_37 : n_37 = List.length a_37) (k_37 : List.length a_37 ≤ c_37) (r_37 : Rd 3 T_ward_Child.E m A_37 a_37), f10.l0 (roadref3_WardFault.post W h0 m0 r) (⟨bk_1, 0, none⟩ : Addr) A_37 n_37 c_37 x_38 x_39 h
  | .l2 y_1 y_4 a_37 x_38 x_39 a_51 x_52 x_53, r => ∀ (W : Nat → Prop) (h0 m0 h m : Heap) (bk_1 : Nat) (cs_1 : List Value) (bk_4 : Nat) (cs_4 : List Value) (A_37 : Option Addr) (n_37 c_37 : Nat) (A_51 : Option Addr) (n_51 c_51 : Nat) (O : Hold W h0 m0 h m [rV bk_1 25 cs_1, rV bk_4 41 cs_4]) (e_1 : T_ward_Ward.E m y_1 cs_1) (e_4 : T_ward_Child.E m y_4 cs_4) (ne_37 : n_37 = List.length a_37) (k_37 : List.length a_37 ≤ c_37) (r_37 : Rd 3 T_ward_Child.E m A_37 a_37) (ne_51 : n_51 = List.length a_51) (k_51 : List.length a_51 ≤ c_51) (r_51 : Rd 3 T_ward_Child.E m A_51 a_51), f10.l2 (roadref3_WardFault.post W h0 m0 r) (⟨bk_1, 0, none⟩ : Addr) (⟨bk_4, 0, none⟩ : Addr) A_37 n_37 c_37 x_38 x_39 A_51 n_51 c_51 x_52 x_53 h
set_option maxRecDepth 100000 in
theorem roadref3_WardFault.l0_k.step_l0 (go : (p : roadref3_WardFault.l0_k.Pt) → Option (Int)) (ih : ∀ p r, go p = some r → roadref3_WardFault.l0_k.I p r) (y_1 : T_ward_Ward) (a_37 : List T_ward_Child) (x_38 : Int) (x_39 : Int) (r : Int) (e : roadref3_WardFault.l0_k.body go (.l0 y_1 a_37 x_38 x_39) = some r) : roadref3_WardFault.l0_k.I (.l0 y_1 a_37 x_38 x_39) r := by
  unfold roadref3_WardFault.l0_k.body at e
  intro W h0 m0 h m bk_1 cs_1 A_37 n_37 c_37 O e_1 ne_37 k_37 r_37
  subst ne_37
  refine f10.l0_in ?_
  unfold f10.l0T
  refine split_dec_e e (fun c37 e => ?_) (fun c37 e => ?_)
  · obtain ⟨y1, g2, e⟩ := bind_e e
    refine r_37.addr rfl g2 fun a3 cs4 ha5 hc6 he7 => ?_
    refine ⟨_, ldAn O.s hc6 rfl, ?_⟩
    refine O.new fun h8 x9 O10 => ?_
    refine ⟨_, rfl, (T_ward_Child.T.len _ _ _ he7), ?_⟩
    refine O10.stA 1 rfl (T_ward_Child.T.len _ _ _ he7) (T_ward_Child.T.flat _ _ _ he7) fun h12 O13 => ?_
    refine ⟨_, ldk (k := 1) (Sub.refl _) (O13.all 1 rfl) (T_ward_Child.g1 he7), _, rfl, ?_⟩
    obtain ⟨y14, g15, e⟩ := bind_e e
    refine (roadref3_In.walk (Hold.start (W := No) O13.s)  g15).mono ?_
    rintro _ h16 ⟨m17, Q18, rfl⟩
    have O20 := Hold.nm (O13.retC Q18 vfs_nil)
    refine ⟨_, rfl, ?_⟩
    refine split_not ?_
    refine split_any_e e (fun c31 e => ?_) (fun c31 e => ?_)
    · obtain ⟨A21, c22, q23, k24, r25⟩ := T_ward_Ward.g3 e_1
      refine ⟨_, ldk (k := 3) (Sub.refl _) (O20.all 0 rfl) q23, _, _, _, rfl, ?_⟩
      obtain ⟨l26, g27, e⟩ := bind_e e
      have q28 := sls_e g27
      refine ⟨q28.1, q28.2.1, cap_in q28.2.2.1 k24, ?_⟩
      try rw [q28.2.2.2.1]
      have k29 : List.length l26 ≤ (c22 - Int.toNat (0 : Int)) := sls_cap g27 k24
      have r30 := r25.sls g27 (le_mx q28.2.2.1 k24)
      exact (ih _ _ e) _ _ _ _ _ _ _ _ _ _ _ _ _ _ _ (O20.pick [0, 1]).nm e_1 he7 rfl k_37 r_37 rfl k29 r30
    · cases e
      exact ⟨_, O20.pick [], rfl⟩
  · obtain ⟨A32, c33, q34, k35, r36⟩ := T_ward_Ward.g4 e_1
    refine ⟨_, ldk (k := 4) (Sub.refl _) (O.all 0 rfl) q34, _, _, _, rfl, ?_⟩
    exact roadref3_WardFault.l1.walk (O.pick []).nm rfl k35 r36 e
set_option maxRecDepth 100000 in
theorem roadref3_WardFault.l0_k.step_l2 (go : (p : roadref3_WardFault.l0_k.Pt) → Option (Int)) (ih : ∀ p r, go p = some r → roadref3_WardFault.l0_k.I p r) (y_1 : T_ward_Ward) (y_4 : T_ward_Child) (a_37 : List T_ward_Child) (x_38 : Int) (x_39 : Int) (a_51 : List T_ward_Child) (x_52 : Int) (x_53 : Int) (r : Int) (e : roadref3_WardFault.l0_k.body go (.l2 y_1 y_4 a_37 x_38 x_39 a_51 x_52 x_53) = some r) : roadref3_WardFault.l0_k.I (.l2 y_1 y_4 a_37 x_38 x_39 a_51 x_52 x_53) r := by
  unfold roadref3_WardFault.l0_k.body at e
  intro W h0 m0 h m bk_1 cs_1 bk_4 cs_4 A_37 n_37 c_37 A_51 n_51 c_51 O e_1 e_4 ne_37 k_37 r_37 ne_51 k_51 r_51
  subst ne_37
  subst ne_51
  refine f10.l2_in ?_
  unfold f10.l2T
  refine split_dec_e e (fun c17 e => ?_) (fun c17 e => ?_)
  · obtain ⟨y1, g2, e⟩ := bind_e e
    refine r_51.addr rfl g2 fun a3 cs4 ha5 hc6 he7 => ?_
    refine ⟨_, ldAn O.s hc6 rfl, ?_⟩
    refine O.new fun h8 x9 O10 => ?_
    refine ⟨_, rfl, (T_ward_Child.T.len _ _ _ he7), ?_⟩
    refine O10.stA 2 rfl (T_ward_Child.T.len _ _ _ he7) (T_ward_Child.T.flat _ _ _ he7) fun h12 O13 => ?_
    refine ⟨_, ld0 (Sub.refl _) (O13.all 2 rfl) (T_ward_Child.g0 he7), _, rfl, ?_⟩
    refine ⟨_, ld0 (Sub.refl _) (O13.all 1 rfl) (T_ward_Child.g0 e_4), _, rfl, ?_⟩
    refine split_eq_e e (fun c16 e => ?_) (fun c16 e => ?_)
    · have O14 := O13.nm
      cases e
      exact ⟨_, O14.pick [], rfl⟩
    · have O15 := O13.nm
      exact (ih _ _ e) _ _ _ _ _ _ _ _ _ _ _ _ _ _ _ (O15.pick [0, 1]).nm e_1 e_4 rfl k_37 r_37 rfl k_51 r_51
  · exact (ih _ _ e) _ _ _ _ _ _ _ _ _ _ (O.pick [0]).nm e_1 rfl k_37 r_37
theorem roadref3_WardFault.l0_k.all {p : roadref3_WardFault.l0_k.Pt} {r : (Int)} (e : roadref3_WardFault.l0_k.go p = some r) : roadref3_WardFault.l0_k.I p r := fixF_ind (β := fun _ => (Int)) roadref3_WardFault.l0_k.mono (I := roadref3_WardFault.l0_k.I) (fun go ih p r e => match p with
  | .l0 y_1 a_37 x_38 x_39 => roadref3_WardFault.l0_k.step_l0 go ih y_1 a_37 x_38 x_39 r e
  | .l2 y_1 y_4 a_37 x_38 x_39 a_51 x_52 x_53 => roadref3_WardFault.l0_k.step_l2 go ih y_1 y_4 a_37 x_38 x_39 a_51 x_52 x_53 r e
  ) e
theorem roadref3_WardFault.l0.walk {W : Nat → Prop} {h0 m0 h m : Heap} {bk_1 : Nat} {cs_1 : List Value} {A_37 : Option Addr} {n_37 c_37 : Nat} {y_1 : T_ward_Ward} {a_37 : List T_ward_Child} {x_38 : Int} {x_39 : Int} (O : Hold W h0 m0 h m [rV bk_1 25 cs_1]) (e_1 : T_ward_Ward.E m y_1 cs_1) (ne_37 : n_37 = List.length a_37) (k_37 : List.length a_37 ≤ c_37) (r_37 : Rd 3 T_ward_Child.E m A_37 a_37) {r : Int} (e : roadref3_WardFault.l0 y_1 a_37 x_38 x_39 = some r) : f10.l0 (roadref3_WardFault.post W h0 m0 r) (⟨bk_1, 0, none⟩ : Addr) A_37 n_37 c_37 x_38 x_39 h := roadref3_WardFault.l0_k.all (p := .l0 y_1 a_37 x_38 x_39) e W h0 m0 h m bk_1 cs_1 A_37 n_37 c_37 O e_1 ne_37 k_37 r_37
noncomputable def roadref3_WardFault.j1 (y_1 : T_ward_Ward) : Option (Int) :=
  (roadref3_WardFault.l0 y_1 y_1.Children (((List.length y_1.Children) : Nat) : Int) (0 : Int))
set_option maxRecDepth 100000 in
theorem roadref3_WardFault.j1.walk {W : Nat → Prop} {h0 m0 h m : Heap} {bk_1 : Nat} {cs_1 : List Value} {y_1 : T_ward_Ward} (O : Hold W h0 m0 h m [rV bk_1 25 cs_1]) (e_1 : T_ward_Ward.E m y_1 cs_1) {r : Int} (e : roadref3_WardFault.j1 y_1 = some r) : f10.j1 (roadref3_WardFault.post W h0 m0 r) (⟨bk_1, 0, none⟩ : Addr) h := by
  unfold roadref3_WardFault.j1 at e
  refine f10.j1_in ?_
  unfold f10.j1T
  obtain ⟨A1, c2, q3, k4, r5⟩ := T_ward_Ward.g3 e_1
  refine ⟨_, ldk (k := 3) (Sub.refl _) (O.all 0 rfl) q3, _, _, _, rfl, ?_⟩
  exact roadref3_WardFault.l0.walk (O.pick [0]).nm e_1 rfl k4 r5 e
noncomputable def roadref3_WardFault.j0 (y_1 : T_ward_Ward) : Option (Int) :=
  if (((List.length y_1.Children) : Nat) : Int) > (20 : Int) then (some ((2 : Int))) else (if (((List.length y_1.Times) : Nat) : Int) > (50 : Int) then (some ((2 : Int))) else ((roadref3_WardFault.j1 y_1)))
set_option maxRecDepth 100000 in
theorem roadref3_WardFault.j0.walk {W : Nat → Prop} {h0 m0 h m : Heap} {bk_1 : Nat} {cs_1 : List Value} {y_1 : T_ward_Ward} (O : Hold W h0 m0 h m [rV bk_1 25 cs_1]) (e_1 : T_ward_Ward.E m y_1 cs_1) {r : Int} (e : roadref3_WardFault.j0 y_1 = some r) : f10.j0 (roadref3_WardFault.post W h0 m0 r) (⟨bk_1, 0, none⟩ : Addr) h := by
  unfold roadref3_WardFault.j0 at e
  refine f10.j0_in ?_
  unfold f10.j0T
  obtain ⟨A1, c2, q3, k4, r5⟩ := T_ward_Ward.g3 e_1
  refine ⟨_, ldk (k := 3) (Sub.refl _) (O.all 0 rfl) q3, _, _, _, rfl, ?_⟩
  refine split_dec_e e (fun c12 e => ?_) (fun c12 e => ?_)
  · cases e
    exact ⟨_, O.pick [], rfl⟩
  · obtain ⟨A6, c7, q8, k9, r10⟩ := T_ward_Ward.g4 e_1
    refine ⟨_, ldk (k := 4) (Sub.refl _) (O.all 0 rfl) q8, _, _, _, rfl, ?_⟩
    refine split_dec_e e (fun c11 e => ?_) (fun c11 e => ?_)
    · cases e
      exact ⟨_, O.pick [], rfl⟩
    · exact roadref3_WardFault.j1.walk (O.pick [0]).nm e_1 e
noncomputable def roadref3_WardFault (y_0 : T_ward_Ward) : Option (Int) :=
  Option.bind (roadref3_In y_0.How (1 : Int) (3 : Int)) fun y5 => if y5 = true then (Option.bind (roadref3_In y_0.Most (0 : Int) (50 : Int)) fun y12 => if y12 = true then (Option.bind (roadref3_In y_0.Window (1 : Int) (1099511627776 : Int)) fun y19 => if y19 = true then ((roadref3_WardFault.j0 y_0)) else (some ((1 : Int)))) else (some ((1 : Int)))) else (some ((1 : Int)))
set_option maxHeartbeats 4000000 in
set_option maxRecDepth 100000 in
theorem roadref3_WardFault.walk {W : Nat → Prop} {h m : Heap} {cs_0 : List Value} {y_0 : T_ward_Ward} (O : Hold W h m h m []) (e_0 : T_ward_Ward.E m y_0 cs_0) {r : Int} (e : roadref3_WardFault y_0 = some r) : Run Try.prog 10 #[Value.agg cs_0.toArray] h (roadref3_WardFault.post W h m r) := by
  unfold roadref3_WardFault at e
  refine f10.run ?_
  unfold f10.runT
  refine O.new fun h1 x2 O3 => ?_
  refine ⟨_, ld0 (Sub.refl _) (O3.all 0 rfl) (T_ward_Ward.g0 e_0), _, rfl, ?_⟩
  obtain ⟨y5, g6, e⟩ := bind_e e
  refine (roadref3_In.walk (Hold.start (W := No) O3.s)  g6).mono ?_
  rintro _ h7 ⟨m8, Q9, rfl⟩
  have O11 := Hold.nm (O3.retC Q9 vfs_nil)
  refine ⟨_, rfl, ?_⟩
  refine split_not ?_
  refine split_any_e e (fun c28 e => ?_) (fun c28 e => ?_)
  · refine ⟨_, ldk (k := 1) (Sub.refl _) (O11.all 0 rfl) (T_ward_Ward.g1 e_0), _, rfl, ?_⟩
    obtain ⟨y12, g13, e⟩ := bind_e e
    refine (roadref3_In.walk (Hold.start (W := No) O11.s)  g13).mono ?_
    rintro _ h14 ⟨m15, Q16, rfl⟩
    have O18 := Hold.nm (O11.retC Q16 vfs_nil)
    refine ⟨_, rfl, ?_⟩
    refine split_not ?_
    refine split_any_e e (fun c27 e => ?_) (fun c27 e => ?_)
    · refine ⟨_, ldk (k := 2) (Sub.refl _) (O18.all 0 rfl) (T_ward_Ward.g2 e_0), _, rfl, ?_⟩
      obtain ⟨y19, g20, e⟩ := bind_e e
      refine (roadref3_In.walk (Hold.start (W := No) O18.s)  g20).mono ?_
      rintro _ h21 ⟨m22, Q23, rfl⟩
      have O25 := Hold.nm (O18.retC Q23 vfs_nil)
      refine ⟨_, rfl, ?_⟩
      refine split_not ?_
      refine split_any_e e (fun c26 e => ?_) (fun c26 e => ?_)
      · exact roadref3_WardFault.j0.walk (O25.pick [0]).nm e_0 e
      · cases e
        exact ⟨_, O25.pick [], rfl⟩
    · cases e
      exact ⟨_, O18.pick [], rfl⟩
  · cases e
    exact ⟨_, O11.pick [], rfl⟩
def roadref3_SameInts.post (W : Nat → Prop) (h0 m0 : Heap) (r : Bool) (v : Value) (h : Heap) : Prop := ∃ m , Hold W h0 m0 h m [] ∧ v = .bool r
inductive roadref3_SameInts.l0_k.Pt where
  | l0 (a_0 : List Int) (a_1 : List Int) (x_12 : Int) (x_13 : Int)
noncomputable def roadref3_SameInts.l0_k.body (go : (p : roadref3_SameInts.l0_k.Pt) → Option (Bool)) : (p : roadref3_SameInts.l0_k.Pt) → Option (Bool)
  | .l0 a_0 a_1 x_12 x_13 => if x_13 < x_12 then (Option.bind (gi a_0 x_13) fun y1 => Option.bind (gi a_1 x_13) fun y8 => if y1 = y8 then ((go (.l0 a_0 a_1 x_12 (IntKind.wrap .i64 (x_13 + (1 : Int)))))) else (some (false))) else (some (true))
theorem roadref3_SameInts.l0_k.mono : MonoF (β := fun _ => (Bool)) roadref3_SameInts.l0_k.body := fun f g hfg p => match p with
  | .l0 a_0 a_1 x_12 x_13 => LeO.ite (LeO.bind (LeO.refl _) fun y1 => LeO.bind (LeO.refl _) fun y8 => LeO.ite ((hfg _)) (LeO.refl _)) (LeO.refl _)
noncomputable def roadref3_SameInts.l0_k.go (p : roadref3_SameInts.l0_k.Pt) : Option (Bool) := fixF (β := fun _ => (Bool)) roadref3_SameInts.l0_k.body p
noncomputable def roadref3_SameInts.l0 (a_0 : List Int) (a_1 : List Int) (x_12 : Int) (x_13 : Int) : Option (Bool) := roadref3_SameInts.l0_k.go (.l0 a_0 a_1 x_12 x_13)
theorem roadref3_SameInts.l0_eq (a_0 : List Int) (a_1 : List Int) (x_12 : Int) (x_13 : Int) : roadref3_SameInts.l0 a_0 a_1 x_12 x_13 = if x_13 < x_12 then (Option.bind (gi a_0 x_13) fun y1 => Option.bind (gi a_1 x_13) fun y8 => if y1 = y8 then ((roadref3_SameInts.l0 a_0 a_1 x_12 (IntKind.wrap .i64 (x_13 + (1 : Int))))) else (some (false))) else (some (true)) := fixF_eq roadref3_SameInts.l0_k.mono _
def roadref3_SameInts.l0_k.I : (p : roadref3_SameInts.l0_k.Pt) → (Bool) → Prop
  | .l0 a_0 a_1 x_12 x_13, r => ∀ (W : Nat → Prop) (h0 m0 h m : Heap) (A_0 : Option Addr) (n_0 c_0 : Nat) (A_1 : Option Addr) (n_1 c_1 : Nat) (O : Hold W h0 m0 h m []) (ne_0 : n_0 = List.length a_0) (k_0 : List.length a_0 ≤ c_0) (r_0 : Rd 1 (eInt .i64) m A_0 a_0) (ne_1 : n_1 = List.length a_1) (k_1 : List.length a_1 ≤ c_1) (r_1 : Rd 1 (eInt .i64) m A_1 a_1), f53.l0 (roadref3_SameInts.post W h0 m0 r) A_0 n_0 c_0 A_1 n_1 c_1 x_12 x_13 h
set_option maxRecDepth 100000 in
theorem roadref3_SameInts.l0_k.step_l0 (go : (p : roadref3_SameInts.l0_k.Pt) → Option (Bool)) (ih : ∀ p r, go p = some r → roadref3_SameInts.l0_k.I p r) (a_0 : List Int) (a_1 : List Int) (x_12 : Int) (x_13 : Int) (r : Bool) (e : roadref3_SameInts.l0_k.body go (.l0 a_0 a_1 x_12 x_13) = some r) : roadref3_SameInts.l0_k.I (.l0 a_0 a_1 x_12 x_13) r := by
  unfold roadref3_SameInts.l0_k.body at e
  intro W h0 m0 h m A_0 n_0 c_0 A_1 n_1 c_1 O ne_0 k_0 r_0 ne_1 k_1 r_1
  subst ne_0
  subst ne_1
  refine f53.l0_in ?_
  unfold f53.l0T
  refine split_dec_e e (fun c16 e => ?_) (fun c16 e => ?_)
  · obtain ⟨y1, g2, e⟩ := bind_e e
    refine r_0.addr rfl g2 fun a3 cs4 ha5 hc6 he7 => ?_
    obtain rfl : cs4 = [(Value.int .i64 y1)] := he7
    obtain ⟨y8, g9, e⟩ := bind_e e
    refine r_1.addr rfl g9 fun a10 cs11 ha12 hc13 he14 => ?_
    obtain rfl : cs11 = [(Value.int .i64 y8)] := he14
    refine ⟨_, ld0 O.s hc6 rfl, _, rfl, ?_⟩
    refine ⟨_, ld0 O.s hc13 rfl, _, rfl, ?_⟩
    refine split_ne_e e (fun c15 e => ?_) (fun c15 e => ?_)
    · cases e
      exact ⟨_, O.pick [], rfl⟩
    · exact (ih _ _ e) _ _ _ _ _ _ _ _ _ _ _ (O.pick []).nm rfl k_0 r_0 rfl k_1 r_1
  · cases e
    exact ⟨_, O.pick [], rfl⟩
theorem roadref3_SameInts.l0_k.all {p : roadref3_SameInts.l0_k.Pt} {r : (Bool)} (e : roadref3_SameInts.l0_k.go p = some r) : roadref3_SameInts.l0_k.I p r := fixF_ind (β := fun _ => (Bool)) roadref3_SameInts.l0_k.mono (I := roadref3_SameInts.l0_k.I) (fun go ih p r e => match p with
  | .l0 a_0 a_1 x_12 x_13 => roadref3_SameInts.l0_k.step_l0 go ih a_0 a_1 x_12 x_13 r e
  ) e
theorem roadref3_SameInts.l0.walk {W : Nat → Prop} {h0 m0 h m : Heap} {A_0 : Option Addr} {n_0 c_0 : Nat} {A_1 : Option Addr} {n_1 c_1 : Nat} {a_0 : List Int} {a_1 : List Int} {x_12 : Int} {x_13 : Int} (O : Hold W h0 m0 h m []) (ne_0 : n_0 = List.length a_0) (k_0 : List.length a_0 ≤ c_0) (r_0 : Rd 1 (eInt .i64) m A_0 a_0) (ne_1 : n_1 = List.length a_1) (k_1 : List.length a_1 ≤ c_1) (r_1 : Rd 1 (eInt .i64) m A_1 a_1) {r : Bool} (e : roadref3_SameInts.l0 a_0 a_1 x_12 x_13 = some r) : f53.l0 (roadref3_SameInts.post W h0 m0 r) A_0 n_0 c_0 A_1 n_1 c_1 x_12 x_13 h := roadref3_SameInts.l0_k.all (p := .l0 a_0 a_1 x_12 x_13) e W h0 m0 h m A_0 n_0 c_0 A_1 n_1 c_1 O ne_0 k_0 r_0 ne_1 k_1 r_1
noncomputable def roadref3_SameInts (a_0 : List Int) (a_1 : List Int) : Option (Bool) :=
  if (((List.length a_0) : Nat) : Int) = (((List.length a_1) : Nat) : Int) then ((roadref3_SameInts.l0 a_0 a_1 (((List.length a_0) : Nat) : Int) (0 : Int))) else (some (false))
set_option maxRecDepth 100000 in
theorem roadref3_SameInts.walk {W : Nat → Prop} {h m : Heap} {A_0 : Option Addr} {n_0 c_0 : Nat} {A_1 : Option Addr} {n_1 c_1 : Nat} {a_0 : List Int} {a_1 : List Int} (O : Hold W h m h m []) (ne_0 : n_0 = List.length a_0) (k_0 : List.length a_0 ≤ c_0) (r_0 : Rd 1 (eInt .i64) m A_0 a_0) (ne_1 : n_1 = List.length a_1) (k_1 : List.length a_1 ≤ c_1) (r_1 : Rd 1 (eInt .i64) m A_1 a_1) {r : Bool} (e : roadref3_SameInts a_0 a_1 = some r) : Run Try.prog 53 #[Value.slice A_0 n_0 c_0, Value.slice A_1 n_1 c_1] h (roadref3_SameInts.post W h m r) := by
  unfold roadref3_SameInts at e
  subst ne_0
  subst ne_1
  refine f53.run ?_
  unfold f53.runT
  refine split_ne_e e (fun c1 e => ?_) (fun c1 e => ?_)
  · cases e
    exact ⟨_, O.pick [], rfl⟩
  · exact roadref3_SameInts.l0.walk (O.pick []).nm rfl k_0 r_0 rfl k_1 r_1 e
def roadref3_SameWard.post (W : Nat → Prop) (h0 m0 : Heap) (r : Bool) (v : Value) (h : Heap) : Prop := ∃ m , Hold W h0 m0 h m [] ∧ v = .bool r
inductive roadref3_SameWard.l0_k.Pt where
  | l0 (y_2 : T_ward_Ward) (y_3 : T_ward_Ward) (x_44 : Int) (x_45 : Int)
noncomputable def roadref3_SameWard.l0_k.body (go : (p : roadref3_SameWard.l0_k.Pt) → Option (Bool)) : (p : roadref3_SameWard.l0_k.Pt) → Option (Bool)
  | .l0 y_2 y_3 x_44 x_45 => if x_45 < x_44 then (Option.bind (gi y_2.Children x_45) fun y6 => Option.bind (gi y_3.Children x_45) fun y18 => if ((y6.Id == y18.Id) && ((y6.When == y18.When) && ((y6.Lives == y18.Lives) && true))) = true then ((go (.l0 y_2 y_3 x_44 (IntKind.wrap .i64 (x_45 + (1 : Int)))))) else (some (false))) else (some (true))
theorem roadref3_SameWard.l0_k.mono : MonoF (β := fun _ => (Bool)) roadref3_SameWard.l0_k.body := fun f g hfg p => match p with
  | .l0 y_2 y_3 x_44 x_45 => LeO.ite (LeO.bind (LeO.refl _) fun y6 => LeO.bind (LeO.refl _) fun y18 => LeO.ite ((hfg _)) (LeO.refl _)) (LeO.refl _)
noncomputable def roadref3_SameWard.l0_k.go (p : roadref3_SameWard.l0_k.Pt) : Option (Bool) := fixF (β := fun _ => (Bool)) roadref3_SameWard.l0_k.body p
noncomputable def roadref3_SameWard.l0 (y_2 : T_ward_Ward) (y_3 : T_ward_Ward) (x_44 : Int) (x_45 : Int) : Option (Bool) := roadref3_SameWard.l0_k.go (.l0 y_2 y_3 x_44 x_45)
theorem roadref3_SameWard.l0_eq (y_2 : T_ward_Ward) (y_3 : T_ward_Ward) (x_44 : Int) (x_45 : Int) : roadref3_SameWard.l0 y_2 y_3 x_44 x_45 = if x_45 < x_44 then (Option.bind (gi y_2.Children x_45) fun y6 => Option.bind (gi y_3.Children x_45) fun y18 => if ((y6.Id == y18.Id) && ((y6.When == y18.When) && ((y6.Lives == y18.Lives) && true))) = true then ((roadref3_SameWard.l0 y_2 y_3 x_44 (IntKind.wrap .i64 (x_45 + (1 : Int))))) else (some (false))) else (some (true)) := fixF_eq roadref3_SameWard.l0_k.mono _
def roadref3_SameWard.l0_k.I : (p : roadref3_SameWard.l0_k.Pt) → (Bool) → Prop
  | .l0 y_2 y_3 x_44 x_45, r => ∀ (W : Nat → Prop) (h0 m0 h m : Heap) (bk_2 : Nat) (cs_2 : List Value) (bk_3 : Nat) (cs_3 : List Value) (O : Hold W h0 m0 h m [rV bk_2 25 cs_2, rV bk_3 25 cs_3]) (e_2 : T_ward_Ward.E m y_2 cs_2) (e_3 : T_ward_Ward.E m y_3 cs_3), f12.l0 (roadref3_SameWard.post W h0 m0 r) (⟨bk_2, 0, none⟩ : Addr) (⟨bk_3, 0, none⟩ : Addr) x_44 x_45 h
set_option maxRecDepth 100000 in
theorem roadref3_SameWard.l0_k.step_l0 (go : (p : roadref3_SameWard.l0_k.Pt) → Option (Bool)) (ih : ∀ p r, go p = some r → roadref3_SameWard.l0_k.I p r) (y_2 : T_ward_Ward) (y_3 : T_ward_Ward) (x_44 : Int) (x_45 : Int) (r : Bool) (e : roadref3_SameWard.l0_k.body go (.l0 y_2 y_3 x_44 x_45) = some r) : roadref3_SameWard.l0_k.I (.l0 y_2 y_3 x_44 x_45) r := by
  unfold roadref3_SameWard.l0_k.body at e
  intro W h0 m0 h m bk_2 cs_2 bk_3 cs_3 O e_2 e_3
  refine f12.l0_in ?_
  unfold f12.l0T
  refine split_dec_e e (fun c28 e => ?_) (fun c28 e => ?_)
  · obtain ⟨A1, c2, q3, k4, r5⟩ := T_ward_Ward.g3 e_2
    refine ⟨_, ldk (k := 3) (Sub.refl _) (O.all 0 rfl) q3, _, _, _, rfl, ?_⟩
    obtain ⟨y6, g7, e⟩ := bind_e e
    refine r5.addr rfl g7 fun a8 cs9 ha10 hc11 he12 => ?_
    refine ⟨_, ldAn O.s hc11 rfl, ?_⟩
    obtain ⟨A13, c14, q15, k16, r17⟩ := T_ward_Ward.g3 e_3
    refine ⟨_, ldk (k := 3) (Sub.refl _) (O.all 1 rfl) q15, _, _, _, rfl, ?_⟩
    obtain ⟨y18, g19, e⟩ := bind_e e
    refine r17.addr rfl g19 fun a20 cs21 ha22 hc23 he24 => ?_
    refine ⟨_, ldAn O.s hc23 rfl, ?_⟩
    obtain rfl : cs9 = [(Value.int .i64 y6.Id), (Value.int .i64 y6.When), (Value.bool y6.Lives)] := he12
    obtain rfl : cs21 = [(Value.int .i64 y18.Id), (Value.int .i64 y18.When), (Value.bool y18.Lives)] := he24
    refine gen_neq (b := ((y6.Id == y18.Id) && ((y6.When == y18.When) && ((y6.Lives == y18.Lives) && true)))) (by kernel_rfl) ?_
    refine ⟨_, rfl, ?_⟩
    refine split_not ?_
    refine split_any_e e (fun c27 e => ?_) (fun c27 e => ?_)
    · exact (ih _ _ e) _ _ _ _ _ _ _ _ _ (O.pick [0, 1]).nm e_2 e_3
    · cases e
      exact ⟨_, O.pick [], rfl⟩
  · cases e
    exact ⟨_, O.pick [], rfl⟩
theorem roadref3_SameWard.l0_k.all {p : roadref3_SameWard.l0_k.Pt} {r : (Bool)} (e : roadref3_SameWard.l0_k.go p = some r) : roadref3_SameWard.l0_k.I p r := fixF_ind (β := fun _ => (Bool)) roadref3_SameWard.l0_k.mono (I := roadref3_SameWard.l0_k.I) (fun go ih p r e => match p with
  | .l0 y_2 y_3 x_44 x_45 => roadref3_SameWard.l0_k.step_l0 go ih y_2 y_3 x_44 x_45 r e
  ) e
theorem roadref3_SameWard.l0.walk {W : Nat → Prop} {h0 m0 h m : Heap} {bk_2 : Nat} {cs_2 : List Value} {bk_3 : Nat} {cs_3 : List Value} {y_2 : T_ward_Ward} {y_3 : T_ward_Ward} {x_44 : Int} {x_45 : Int} (O : Hold W h0 m0 h m [rV bk_2 25 cs_2, rV bk_3 25 cs_3]) (e_2 : T_ward_Ward.E m y_2 cs_2) (e_3 : T_ward_Ward.E m y_3 cs_3) {r : Bool} (e : roadref3_SameWard.l0 y_2 y_3 x_44 x_45 = some r) : f12.l0 (roadref3_SameWard.post W h0 m0 r) (⟨bk_2, 0, none⟩ : Addr) (⟨bk_3, 0, none⟩ : Addr) x_44 x_45 h := roadref3_SameWard.l0_k.all (p := .l0 y_2 y_3 x_44 x_45) e W h0 m0 h m bk_2 cs_2 bk_3 cs_3 O e_2 e_3
noncomputable def roadref3_SameWard.j0 (y_2 : T_ward_Ward) (y_3 : T_ward_Ward) : Option (Bool) :=
  (roadref3_SameWard.l0 y_2 y_3 (((List.length y_2.Children) : Nat) : Int) (0 : Int))
set_option maxRecDepth 100000 in
theorem roadref3_SameWard.j0.walk {W : Nat → Prop} {h0 m0 h m : Heap} {bk_2 : Nat} {cs_2 : List Value} {bk_3 : Nat} {cs_3 : List Value} {y_2 : T_ward_Ward} {y_3 : T_ward_Ward} (O : Hold W h0 m0 h m [rV bk_2 25 cs_2, rV bk_3 25 cs_3]) (e_2 : T_ward_Ward.E m y_2 cs_2) (e_3 : T_ward_Ward.E m y_3 cs_3) {r : Bool} (e : roadref3_SameWard.j0 y_2 y_3 = some r) : f12.j0 (roadref3_SameWard.post W h0 m0 r) (⟨bk_2, 0, none⟩ : Addr) (⟨bk_3, 0, none⟩ : Addr) h := by
  unfold roadref3_SameWard.j0 at e
  refine f12.j0_in ?_
  unfold f12.j0T
  obtain ⟨A1, c2, q3, k4, r5⟩ := T_ward_Ward.g3 e_2
  refine ⟨_, ldk (k := 3) (Sub.refl _) (O.all 0 rfl) q3, _, _, _, rfl, ?_⟩
  exact roadref3_SameWard.l0.walk (O.pick [0, 1]).nm e_2 e_3 e
noncomputable def roadref3_SameWard (y_0 : T_ward_Ward) (y_1 : T_ward_Ward) : Option (Bool) :=
  if y_0.How = y_1.How then (if y_0.Most = y_1.Most then (if y_0.Window = y_1.Window then (if (((List.length y_0.Children) : Nat) : Int) = (((List.length y_1.Children) : Nat) : Int) then (Option.bind (roadref3_SameInts y_0.Times y_1.Times) fun y33 => if y33 = true then ((roadref3_SameWard.j0 y_0 y_1)) else (some (false))) else (some (false))) else (some (false))) else (some (false))) else (some (false))
set_option maxHeartbeats 4000000 in
set_option maxRecDepth 100000 in
theorem roadref3_SameWard.walk {W : Nat → Prop} {h m : Heap} {cs_0 : List Value} {cs_1 : List Value} {y_0 : T_ward_Ward} {y_1 : T_ward_Ward} (O : Hold W h m h m []) (e_0 : T_ward_Ward.E m y_0 cs_0) (e_1 : T_ward_Ward.E m y_1 cs_1) {r : Bool} (e : roadref3_SameWard y_0 y_1 = some r) : Run Try.prog 12 #[Value.agg cs_0.toArray, Value.agg cs_1.toArray] h (roadref3_SameWard.post W h m r) := by
  unfold roadref3_SameWard at e
  refine f12.run ?_
  unfold f12.runT
  refine O.new fun h1 x2 O3 => ?_
  refine O3.new fun h5 x6 O7 => ?_
  refine ⟨_, ld0 (Sub.refl _) (O7.all 0 rfl) (T_ward_Ward.g0 e_0), _, rfl, ?_⟩
  refine ⟨_, ld0 (Sub.refl _) (O7.all 1 rfl) (T_ward_Ward.g0 e_1), _, rfl, ?_⟩
  refine split_ne_e e (fun c44 e => ?_) (fun c44 e => ?_)
  · have O9 := O7.nm
    cases e
    exact ⟨_, O9.pick [], rfl⟩
  · refine ⟨_, ldk (k := 1) (Sub.refl _) (O7.all 0 rfl) (T_ward_Ward.g1 e_0), _, rfl, ?_⟩
    refine ⟨_, ldk (k := 1) (Sub.refl _) (O7.all 1 rfl) (T_ward_Ward.g1 e_1), _, rfl, ?_⟩
    refine split_ne_e e (fun c43 e => ?_) (fun c43 e => ?_)
    · have O10 := O7.nm
      cases e
      exact ⟨_, O10.pick [], rfl⟩
    · refine ⟨_, ldk (k := 2) (Sub.refl _) (O7.all 0 rfl) (T_ward_Ward.g2 e_0), _, rfl, ?_⟩
      refine ⟨_, ldk (k := 2) (Sub.refl _) (O7.all 1 rfl) (T_ward_Ward.g2 e_1), _, rfl, ?_⟩
      refine split_ne_e e (fun c42 e => ?_) (fun c42 e => ?_)
      · have O11 := O7.nm
        cases e
        exact ⟨_, O11.pick [], rfl⟩
      · obtain ⟨A12, c13, q14, k15, r16⟩ := T_ward_Ward.g3 e_0
        refine ⟨_, ldk (k := 3) (Sub.refl _) (O7.all 0 rfl) q14, _, _, _, rfl, ?_⟩
        obtain ⟨A17, c18, q19, k20, r21⟩ := T_ward_Ward.g3 e_1
        refine ⟨_, ldk (k := 3) (Sub.refl _) (O7.all 1 rfl) q19, _, _, _, rfl, ?_⟩
        refine split_ne_e e (fun c41 e => ?_) (fun c41 e => ?_)
        · have O22 := O7.nm
          cases e
          exact ⟨_, O22.pick [], rfl⟩
        · obtain ⟨A23, c24, q25, k26, r27⟩ := T_ward_Ward.g4 e_0
          refine ⟨_, ldk (k := 4) (Sub.refl _) (O7.all 0 rfl) q25, _, _, _, rfl, ?_⟩
          obtain ⟨A28, c29, q30, k31, r32⟩ := T_ward_Ward.g4 e_1
          refine ⟨_, ldk (k := 4) (Sub.refl _) (O7.all 1 rfl) q30, _, _, _, rfl, ?_⟩
          obtain ⟨y33, g34, e⟩ := bind_e e
          refine (roadref3_SameInts.walk (Hold.start (W := No) O7.s) rfl k26 r27 rfl k31 r32 g34).mono ?_
          rintro _ h35 ⟨m36, Q37, rfl⟩
          have O39 := Hold.nm (O7.retC Q37 vfs_nil)
          refine ⟨_, rfl, ?_⟩
          refine split_not ?_
          refine split_any_e e (fun c40 e => ?_) (fun c40 e => ?_)
          · exact roadref3_SameWard.j0.walk (O39.pick [0, 1]).nm e_0 e_1 e
          · cases e
            exact ⟨_, O39.pick [], rfl⟩
def roadref3_SamePlan.post (W : Nat → Prop) (h0 m0 : Heap) (r : Bool) (v : Value) (h : Heap) : Prop := ∃ m , Hold W h0 m0 h m [] ∧ v = .bool r
noncomputable def roadref3_SamePlan (y_0 : T_ward_Plan) (y_1 : T_ward_Plan) : Option (Bool) :=
  if (y_0.GaveUp == y_1.GaveUp) = true then (Option.bind (roadref3_SameInts y_0.Stop y_1.Stop) fun y19 => if y19 = true then (Option.bind (roadref3_SameInts y_0.Start y_1.Start) fun y36 => some (y36)) else (some (false))) else (some (false))
set_option maxHeartbeats 4000000 in
set_option maxRecDepth 100000 in
theorem roadref3_SamePlan.walk {W : Nat → Prop} {h m : Heap} {cs_0 : List Value} {cs_1 : List Value} {y_0 : T_ward_Plan} {y_1 : T_ward_Plan} (O : Hold W h m h m []) (e_0 : T_ward_Plan.E m y_0 cs_0) (e_1 : T_ward_Plan.E m y_1 cs_1) {r : Bool} (e : roadref3_SamePlan y_0 y_1 = some r) : Run Try.prog 13 #[Value.agg cs_0.toArray, Value.agg cs_1.toArray] h (roadref3_SamePlan.post W h m r) := by
  unfold roadref3_SamePlan at e
  refine f13.run ?_
  unfold f13.runT
  refine O.new fun h1 x2 O3 => ?_
  refine O3.new fun h5 x6 O7 => ?_
  refine ⟨_, ldk (k := 2) (Sub.refl _) (O7.all 0 rfl) (T_ward_Plan.g2 e_0), _, rfl, ?_⟩
  refine ⟨_, ldk (k := 2) (Sub.refl _) (O7.all 1 rfl) (T_ward_Plan.g2 e_1), _, rfl, ?_⟩
  refine split_any_e e (fun c45 e => ?_) (fun c45 e => ?_)
  · obtain ⟨A9, c10, q11, k12, r13⟩ := T_ward_Plan.g0 e_0
    refine ⟨_, ld0 (Sub.refl _) (O7.all 0 rfl) q11, _, _, _, rfl, ?_⟩
    obtain ⟨A14, c15, q16, k17, r18⟩ := T_ward_Plan.g0 e_1
    refine ⟨_, ld0 (Sub.refl _) (O7.all 1 rfl) q16, _, _, _, rfl, ?_⟩
    obtain ⟨y19, g20, e⟩ := bind_e e
    refine (roadref3_SameInts.walk (Hold.start (W := No) O7.s) rfl k12 r13 rfl k17 r18 g20).mono ?_
    rintro _ h21 ⟨m22, Q23, rfl⟩
    have O25 := Hold.nm (O7.retC Q23 vfs_nil)
    refine ⟨_, rfl, ?_⟩
    refine split_any_e e (fun c43 e => ?_) (fun c43 e => ?_)
    · obtain ⟨A26, c27, q28, k29, r30⟩ := T_ward_Plan.g1 e_0
      refine ⟨_, ldk (k := 1) (Sub.refl _) (O25.all 0 rfl) q28, _, _, _, rfl, ?_⟩
      obtain ⟨A31, c32, q33, k34, r35⟩ := T_ward_Plan.g1 e_1
      refine ⟨_, ldk (k := 1) (Sub.refl _) (O25.all 1 rfl) q33, _, _, _, rfl, ?_⟩
      obtain ⟨y36, g37, e⟩ := bind_e e
      refine (roadref3_SameInts.walk (Hold.start (W := No) O25.s) rfl k29 r30 rfl k34 r35 g37).mono ?_
      rintro _ h38 ⟨m39, Q40, rfl⟩
      have O42 := Hold.nm (O25.retC Q40 vfs_nil)
      refine ⟨_, rfl, ?_⟩
      cases e
      exact ⟨_, O42.pick [], rfl⟩
    · cases e
      exact ⟨_, O25.pick [], rfl⟩
  · have O44 := O7.nm
    cases e
    exact ⟨_, O44.pick [], rfl⟩
def slices_Equal_14.post (W : Nat → Prop) (h0 m0 : Heap) (r : Bool) (v : Value) (h : Heap) : Prop := ∃ m , Hold W h0 m0 h m [] ∧ v = .bool r
inductive slices_Equal_14.l0_k.Pt where
  | l0 (a_0 : List Int) (a_1 : List Int) (x_12 : Int) (x_13 : Int)
noncomputable def slices_Equal_14.l0_k.body (go : (p : slices_Equal_14.l0_k.Pt) → Option (Bool)) : (p : slices_Equal_14.l0_k.Pt) → Option (Bool)
  | .l0 a_0 a_1 x_12 x_13 => if x_13 < x_12 then (Option.bind (gi a_0 x_13) fun y1 => Option.bind (gi a_1 x_13) fun y8 => if y1 = y8 then ((go (.l0 a_0 a_1 x_12 (IntKind.wrap .i64 (x_13 + (1 : Int)))))) else (some (false))) else (some (true))
theorem slices_Equal_14.l0_k.mono : MonoF (β := fun _ => (Bool)) slices_Equal_14.l0_k.body := fun f g hfg p => match p with
  | .l0 a_0 a_1 x_12 x_13 => LeO.ite (LeO.bind (LeO.refl _) fun y1 => LeO.bind (LeO.refl _) fun y8 => LeO.ite ((hfg _)) (LeO.refl _)) (LeO.refl _)
noncomputable def slices_Equal_14.l0_k.go (p : slices_Equal_14.l0_k.Pt) : Option (Bool) := fixF (β := fun _ => (Bool)) slices_Equal_14.l0_k.body p
noncomputable def slices_Equal_14.l0 (a_0 : List Int) (a_1 : List Int) (x_12 : Int) (x_13 : Int) : Option (Bool) := slices_Equal_14.l0_k.go (.l0 a_0 a_1 x_12 x_13)
theorem slices_Equal_14.l0_eq (a_0 : List Int) (a_1 : List Int) (x_12 : Int) (x_13 : Int) : slices_Equal_14.l0 a_0 a_1 x_12 x_13 = if x_13 < x_12 then (Option.bind (gi a_0 x_13) fun y1 => Option.bind (gi a_1 x_13) fun y8 => if y1 = y8 then ((slices_Equal_14.l0 a_0 a_1 x_12 (IntKind.wrap .i64 (x_13 + (1 : Int))))) else (some (false))) else (some (true)) := fixF_eq slices_Equal_14.l0_k.mono _
def slices_Equal_14.l0_k.I : (p : slices_Equal_14.l0_k.Pt) → (Bool) → Prop
  | .l0 a_0 a_1 x_12 x_13, r => ∀ (W : Nat → Prop) (h0 m0 h m : Heap) (A_0 : Option Addr) (n_0 c_0 : Nat) (A_1 : Option Addr) (n_1 c_1 : Nat) (O : Hold W h0 m0 h m []) (ne_0 : n_0 = List.length a_0) (k_0 : List.length a_0 ≤ c_0) (r_0 : Rd 1 (eInt .i64) m A_0 a_0) (ne_1 : n_1 = List.length a_1) (k_1 : List.length a_1 ≤ c_1) (r_1 : Rd 1 (eInt .i64) m A_1 a_1), f14.l0 (slices_Equal_14.post W h0 m0 r) A_0 n_0 c_0 A_1 n_1 c_1 x_12 x_13 h
set_option maxRecDepth 100000 in
theorem slices_Equal_14.l0_k.step_l0 (go : (p : slices_Equal_14.l0_k.Pt) → Option (Bool)) (ih : ∀ p r, go p = some r → slices_Equal_14.l0_k.I p r) (a_0 : List Int) (a_1 : List Int) (x_12 : Int) (x_13 : Int) (r : Bool) (e : slices_Equal_14.l0_k.body go (.l0 a_0 a_1 x_12 x_13) = some r) : slices_Equal_14.l0_k.I (.l0 a_0 a_1 x_12 x_13) r := by
  unfold slices_Equal_14.l0_k.body at e
  intro W h0 m0 h m A_0 n_0 c_0 A_1 n_1 c_1 O ne_0 k_0 r_0 ne_1 k_1 r_1
  subst ne_0
  subst ne_1
  refine f14.l0_in ?_
  unfold f14.l0T
  refine split_dec_e e (fun c16 e => ?_) (fun c16 e => ?_)
  · obtain ⟨y1, g2, e⟩ := bind_e e
    refine r_0.addr rfl g2 fun a3 cs4 ha5 hc6 he7 => ?_
    obtain rfl : cs4 = [(Value.int .i64 y1)] := he7
    obtain ⟨y8, g9, e⟩ := bind_e e
    refine r_1.addr rfl g9 fun a10 cs11 ha12 hc13 he14 => ?_
    obtain rfl : cs11 = [(Value.int .i64 y8)] := he14
    refine ⟨_, ld0 O.s hc6 rfl, _, rfl, ?_⟩
    refine ⟨_, ld0 O.s hc13 rfl, _, rfl, ?_⟩
    refine split_ne_e e (fun c15 e => ?_) (fun c15 e => ?_)
    · cases e
      exact ⟨_, O.pick [], rfl⟩
    · exact (ih _ _ e) _ _ _ _ _ _ _ _ _ _ _ (O.pick []).nm rfl k_0 r_0 rfl k_1 r_1
  · cases e
    exact ⟨_, O.pick [], rfl⟩
theorem slices_Equal_14.l0_k.all {p : slices_Equal_14.l0_k.Pt} {r : (Bool)} (e : slices_Equal_14.l0_k.go p = some r) : slices_Equal_14.l0_k.I p r := fixF_ind (β := fun _ => (Bool)) slices_Equal_14.l0_k.mono (I := slices_Equal_14.l0_k.I) (fun go ih p r e => match p with
  | .l0 a_0 a_1 x_12 x_13 => slices_Equal_14.l0_k.step_l0 go ih a_0 a_1 x_12 x_13 r e
  ) e
theorem slices_Equal_14.l0.walk {W : Nat → Prop} {h0 m0 h m : Heap} {A_0 : Option Addr} {n_0 c_0 : Nat} {A_1 : Option Addr} {n_1 c_1 : Nat} {a_0 : List Int} {a_1 : List Int} {x_12 : Int} {x_13 : Int} (O : Hold W h0 m0 h m []) (ne_0 : n_0 = List.length a_0) (k_0 : List.length a_0 ≤ c_0) (r_0 : Rd 1 (eInt .i64) m A_0 a_0) (ne_1 : n_1 = List.length a_1) (k_1 : List.length a_1 ≤ c_1) (r_1 : Rd 1 (eInt .i64) m A_1 a_1) {r : Bool} (e : slices_Equal_14.l0 a_0 a_1 x_12 x_13 = some r) : f14.l0 (slices_Equal_14.post W h0 m0 r) A_0 n_0 c_0 A_1 n_1 c_1 x_12 x_13 h := slices_Equal_14.l0_k.all (p := .l0 a_0 a_1 x_12 x_13) e W h0 m0 h m A_0 n_0 c_0 A_1 n_1 c_1 O ne_0 k_0 r_0 ne_1 k_1 r_1
noncomputable def slices_Equal_14 (a_0 : List Int) (a_1 : List Int) : Option (Bool) :=
  if (((List.length a_0) : Nat) : Int) = (((List.length a_1) : Nat) : Int) then ((slices_Equal_14.l0 a_0 a_1 (((List.length a_0) : Nat) : Int) (0 : Int))) else (some (false))
set_option maxRecDepth 100000 in
theorem slices_Equal_14.walk {W : Nat → Prop} {h m : Heap} {A_0 : Option Addr} {n_0 c_0 : Nat} {A_1 : Option Addr} {n_1 c_1 : Nat} {a_0 : List Int} {a_1 : List Int} (O : Hold W h m h m []) (ne_0 : n_0 = List.length a_0) (k_0 : List.length a_0 ≤ c_0) (r_0 : Rd 1 (eInt .i64) m A_0 a_0) (ne_1 : n_1 = List.length a_1) (k_1 : List.length a_1 ≤ c_1) (r_1 : Rd 1 (eInt .i64) m A_1 a_1) {r : Bool} (e : slices_Equal_14 a_0 a_1 = some r) : Run Try.prog 14 #[Value.slice A_0 n_0 c_0, Value.slice A_1 n_1 c_1] h (slices_Equal_14.post W h m r) := by
  unfold slices_Equal_14 at e
  subst ne_0
  subst ne_1
  refine f14.run ?_
  unfold f14.runT
  refine split_ne_e e (fun c1 e => ?_) (fun c1 e => ?_)
  · cases e
    exact ⟨_, O.pick [], rfl⟩
  · exact slices_Equal_14.l0.walk (O.pick []).nm rfl k_0 r_0 rfl k_1 r_1 e
theorem slices_Equal_14.val (l m : List Int) (hl : l.length ≤ 4611686018427387904) : ∃ b, slices_Equal_14 l m = some b ∧ (b = true ↔ l = m) := equal_val (R := fun x y => x = y) (fun a b n i => slices_Equal_14.l0_eq a b n i) (fun _ _ => rfl) (fun _ _ => Iff.rfl) l m hl
def roadlaw3_fallen_1.post (W : Nat → Prop) (h0 m0 : Heap) (r : Bool) (v : Value) (h : Heap) : Prop := ∃ m , Hold W h0 m0 h m [] ∧ v = .bool r
noncomputable def roadlaw3_fallen_1 (y_0 : T_ward_Child) (y_1 : T_ward_Fall) : Option (Bool) :=
  some ((y_0.Id == y_1.Id))
set_option maxRecDepth 100000 in
theorem roadlaw3_fallen_1.walk {W : Nat → Prop} {h m : Heap} {cs_0 : List Value} {bk_1 : Nat} {y_0 : T_ward_Child} {y_1 : T_ward_Fall} (O : Hold W h m h m []) (e_0 : T_ward_Child.E m y_0 cs_0) (v_1 : VB T_ward_Fall.E m bk_1 y_1) {r : Bool} (e : roadlaw3_fallen_1 y_0 y_1 = some r) : Run Try.prog 55 #[Value.agg cs_0.toArray, Value.pointer (some ⟨bk_1, 0, none⟩)] h (roadlaw3_fallen_1.post W h m r) := by
  unfold roadlaw3_fallen_1 at e
  obtain ⟨cs_1, t_1, hb_1, nn_1, e_1⟩ := id v_1
  refine f55.run ?_
  unfold f55.runT
  refine O.new fun h1 x2 O3 => ?_
  refine ⟨_, ld0 (Sub.refl _) (O3.all 0 rfl) (T_ward_Child.g0 e_0), _, rfl, ?_⟩
  refine ⟨_, ld0 O3.s (Blk.all' hb_1) (T_ward_Fall.g0 e_1), _, rfl, ?_⟩
  have O5 := O3.nm
  cases e
  exact ⟨_, O5.pick [], rfl⟩
def roadref3_Fallen_1.post (W : Nat → Prop) (h0 m0 : Heap) (r : Bool) (v : Value) (h : Heap) : Prop := ∃ m , Hold W h0 m0 h m [] ∧ v = .bool r
noncomputable def roadref3_Fallen_1 (x_0 : Int) (y_1 : Int) (y_2 : T_ward_Ward) : Option (Bool) :=
  if x_0 = y_1 then (some (true)) else (if y_2.How = (2 : Int) then (some (true)) else (if y_2.How = (3 : Int) then (some ((decide (x_0 > y_1)))) else (some (false))))
set_option maxRecDepth 100000 in
theorem roadref3_Fallen_1.walk {W : Nat → Prop} {h m : Heap} {bk_1 : Nat} {bk_2 : Nat} {x_0 : Int} {y_1 : Int} {y_2 : T_ward_Ward} (O : Hold W h m h m []) (v_1 : VB (eInt .i64) m bk_1 y_1) (v_2 : VB T_ward_Ward.E m bk_2 y_2) {r : Bool} (e : roadref3_Fallen_1 x_0 y_1 y_2 = some r) : Run Try.prog 88 #[Value.int .i64 x_0, Value.pointer (some ⟨bk_1, 0, none⟩), Value.pointer (some ⟨bk_2, 0, none⟩)] h (roadref3_Fallen_1.post W h m r) := by
  unfold roadref3_Fallen_1 at e
  obtain ⟨cs_1, t_1, hb_1, nn_1, e_1⟩ := id v_1
  obtain rfl : cs_1 = [(Value.int .i64 y_1)] := e_1
  obtain ⟨cs_2, t_2, hb_2, nn_2, e_2⟩ := id v_2
  refine f88.run ?_
  unfold f88.runT
  refine ⟨_, ld0 O.s (Blk.all' hb_1) rfl, _, rfl, ?_⟩
  refine split_eq_e e (fun c3 e => ?_) (fun c3 e => ?_)
  · cases e
    exact ⟨_, O.pick [], rfl⟩
  · refine ⟨_, ld0 O.s (Blk.all' hb_2) (T_ward_Ward.g0 e_2), _, rfl, ?_⟩
    refine split_eq_e e (fun c2 e => ?_) (fun c2 e => ?_)
    · cases e
      exact ⟨_, O.pick [], rfl⟩
    · refine ⟨_, ld0 O.s (Blk.all' hb_2) (T_ward_Ward.g0 e_2), _, rfl, ?_⟩
      refine split_eq_e e (fun c1 e => ?_) (fun c1 e => ?_)
      · refine ⟨_, ld0 O.s (Blk.all' hb_1) rfl, _, rfl, ?_⟩
        cases e
        exact ⟨_, O.pick [], rfl⟩
      · cases e
        exact ⟨_, O.pick [], rfl⟩
end Go.Proofs.Ythnlhffpmlgmfab.Fw

end
