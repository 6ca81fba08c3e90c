/- Part 5: what the law PartSays needs, put together out of texts of this session. -/
import Derived.Test.YthnlhffpmlgmfadZPartSaysd
section
namespace Go.Proofs.Ythnlhffpmlgmfad.Fw
open Go Go.Hw Go.Proofs
set_option linter.unusedVariables false
set_option synthInstance.maxHeartbeats 400000
set_option synthInstance.maxSize 1000
def slices_partitionCmpFunc_172.post (W : Nat → Prop) (Asl0 : Option Addr) (nsl0 csl0 : Nat) (h0 m0 : Heap) (r : Int × Bool × (List T_part_Step)) (v : Value) (h : Heap) : Prop := ∃ m , Hold W h0 m0 h m [rR (aE T_part_Step.T) Asl0 csl0 r.2.2] ∧ v = .tuple #[.int .i64 r.1, .bool r.2.1] ∧ nsl0 = List.length r.2.2
noncomputable def slices_partitionCmpFunc_172.j4 (a_0 : List T_part_Step) (x_1 : Int) (x_13 : Int) : Option (Int × Bool × (List T_part_Step)) :=
  Option.bind (gi a_0 x_1) fun y1 => Option.bind (gi a_0 x_13) fun y8 => Option.bind (gi a_0 x_13) fun y15 => Option.bind (some (List.set a_0 (Int.toNat x_13) y1)) fun l24 => Option.bind (gi l24 x_1) fun y26 => Option.bind (some (List.set l24 (Int.toNat x_1) y8)) fun l35 => some (x_13, false, l35)
set_option maxRecDepth 100000 in
theorem slices_partitionCmpFunc_172.j4.walk {W : Nat → Prop} {h0 m0 h m : Heap} {A_0 : Option Addr} {n_0 c_0 : Nat} {a_0 : List T_part_Step} {x_1 : Int} {x_13 : Int} (O : Hold W h0 m0 h m [rR (aE T_part_Step.T) A_0 c_0 a_0]) (ne_0 : n_0 = List.length a_0) {r : Int × Bool × (List T_part_Step)} (e : slices_partitionCmpFunc_172.j4 a_0 x_1 x_13 = some r) : f172.j4 (slices_partitionCmpFunc_172.post W A_0 n_0 c_0 h0 m0 r) A_0 n_0 c_0 x_1 x_13 h := by
  unfold slices_partitionCmpFunc_172.j4 at e
  subst ne_0
  refine f172.j4_in ?_
  unfold f172.j4T
  obtain ⟨y1, g2, e⟩ := bind_e e
  refine (O.os 0 rfl).addr rfl g2 fun a3 cs4 ha5 hc6 he7 => ?_
  obtain ⟨y8, g9, e⟩ := bind_e e
  refine (O.os 0 rfl).addr rfl g9 fun a10 cs11 ha12 hc13 he14 => ?_
  refine ⟨_, ldAn (Sub.refl _) hc6 rfl, ?_⟩
  refine ⟨_, ldAn (Sub.refl _) hc13 rfl, ?_⟩
  obtain ⟨y15, g16, e⟩ := bind_e e
  refine (O.os 0 rfl).addr rfl g16 fun a17 cs18 ha19 hc20 he21 => ?_
  obtain ⟨l24, g25, e⟩ := bind_e e
  replace g25 := Option.some.inj g25
  refine ⟨_, rfl, (T_part_Step.T.len _ _ _ he7), ?_⟩
  refine O.elstA 0 rfl g16 ha19 hc20 (y' := y1) he7 (T_part_Step.T.flat _ _ _ he7) g25 fun h22 O23 => ?_
  obtain ⟨y26, g27, e⟩ := bind_e e
  refine (O23.os 0 rfl).addr (lset' g25) g27 fun a28 cs29 ha30 hc31 he32 => ?_
  obtain ⟨l35, g36, e⟩ := bind_e e
  replace g36 := Option.some.inj g36
  refine ⟨_, rfl, (T_part_Step.T.len _ _ _ he14), ?_⟩
  refine O23.elstA 0 rfl g27 ha30 hc31 (y' := y8) he14 (T_part_Step.T.flat _ _ _ he14) g36 fun h33 O34 => ?_
  have O37 := O34.nm
  cases e
  exact ⟨_, O37.pick [0], rfl, ((lset' g25).trans (lset' g36))⟩
inductive slices_partitionCmpFunc_172.l2_k.Pt where
  | l2 (a_0 : List T_part_Step) (x_1 : Int) (p_4 : T_part_Step → T_part_Step → Option Int) (x_12 : Int) (x_13 : Int)
  | l3 (a_0 : List T_part_Step) (x_1 : Int) (p_4 : T_part_Step → T_part_Step → Option Int) (x_12 : Int) (x_13 : Int)
  | j7 (a_0 : List T_part_Step) (x_1 : Int) (p_4 : T_part_Step → T_part_Step → Option Int) (x_12 : Int) (x_13 : Int)
  | j5 (a_0 : List T_part_Step) (x_1 : Int) (p_4 : T_part_Step → T_part_Step → Option Int) (x_12 : Int) (x_13 : Int)
  | l4 (a_0 : List T_part_Step) (x_1 : Int) (p_4 : T_part_Step → T_part_Step → Option Int) (x_12 : Int) (x_13 : Int)
  | j8 (a_0 : List T_part_Step) (x_1 : Int) (p_4 : T_part_Step → T_part_Step → Option Int) (x_12 : Int) (x_13 : Int)
  | j6 (a_0 : List T_part_Step) (x_1 : Int) (p_4 : T_part_Step → T_part_Step → Option Int) (x_12 : Int) (x_13 : Int)
noncomputable def slices_partitionCmpFunc_172.l2_k.body (go : (p : slices_partitionCmpFunc_172.l2_k.Pt) → Option (Int × Bool × (List T_part_Step))) : (p : slices_partitionCmpFunc_172.l2_k.Pt) → Option (Int × Bool × (List T_part_Step))
  | .l2 a_0 x_1 p_4 x_12 x_13 => (go (.l3 a_0 x_1 p_4 x_12 x_13))
  | .l3 a_0 x_1 p_4 x_12 x_13 => if x_12 ≤ x_13 then (Option.bind (gi a_0 x_12) fun y1 => Option.bind (gi a_0 x_1) fun y8 => Option.bind (p_4 y1 y8) fun y15 => if y15 < (0 : Int) then ((go (.j7 a_0 x_1 p_4 x_12 x_13))) else ((go (.j5 a_0 x_1 p_4 x_12 x_13)))) else ((go (.j5 a_0 x_1 p_4 x_12 x_13)))
  | .j7 a_0 x_1 p_4 x_12 x_13 => (go (.l3 a_0 x_1 p_4 (IntKind.wrap .i64 (x_12 + (1 : Int))) x_13))
  | .j5 a_0 x_1 p_4 x_12 x_13 => (go (.l4 a_0 x_1 p_4 x_12 x_13))
  | .l4 a_0 x_1 p_4 x_12 x_13 => if x_12 ≤ x_13 then (Option.bind (gi a_0 x_13) fun y1 => Option.bind (gi a_0 x_1) fun y8 => Option.bind (p_4 y1 y8) fun y15 => if y15 < (0 : Int) then ((go (.j6 a_0 x_1 p_4 x_12 x_13))) else ((go (.j8 a_0 x_1 p_4 x_12 x_13)))) else ((go (.j6 a_0 x_1 p_4 x_12 x_13)))
  | .j8 a_0 x_1 p_4 x_12 x_13 => (go (.l4 a_0 x_1 p_4 x_12 (IntKind.wrap .i64 (x_13 - (1 : Int)))))
  | .j6 a_0 x_1 p_4 x_12 x_13 => if x_12 > x_13 then ((slices_partitionCmpFunc_172.j4 a_0 x_1 x_13)) else (Option.bind (gi a_0 x_13) fun y1 => Option.bind (gi a_0 x_12) fun y8 => Option.bind (gi a_0 x_12) fun y15 => Option.bind (some (List.set a_0 (Int.toNat x_12) y1)) fun l24 => Option.bind (gi l24 x_13) fun y26 => Option.bind (some (List.set l24 (Int.toNat x_13) y8)) fun l35 => (go (.l2 l35 x_1 p_4 (IntKind.wrap .i64 (x_12 + (1 : Int))) (IntKind.wrap .i64 (x_13 - (1 : Int))))))
theorem slices_partitionCmpFunc_172.l2_k.mono : MonoF (β := fun _ => (Int × Bool × (List T_part_Step))) slices_partitionCmpFunc_172.l2_k.body := fun f g hfg p => match p with
  | .l2 a_0 x_1 p_4 x_12 x_13 => (hfg _)
  | .l3 a_0 x_1 p_4 x_12 x_13 => LeO.ite (LeO.bind (LeO.refl _) fun y1 => LeO.bind (LeO.refl _) fun y8 => LeO.bind (LeO.refl _) fun y15 => LeO.ite ((hfg _)) ((hfg _))) ((hfg _))
  | .j7 a_0 x_1 p_4 x_12 x_13 => (hfg _)
  | .j5 a_0 x_1 p_4 x_12 x_13 => (hfg _)
  | .l4 a_0 x_1 p_4 x_12 x_13 => LeO.ite (LeO.bind (LeO.refl _) fun y1 => LeO.bind (LeO.refl _) fun y8 => LeO.bind (LeO.refl _) fun y15 => LeO.ite ((hfg _)) ((hfg _))) ((hfg _))
  | .j8 a_0 x_1 p_4 x_12 x_13 => (hfg _)
  | .j6 a_0 x_1 p_4 x_12 x_13 => LeO.ite ((LeO.refl _)) (LeO.bind (LeO.refl _) fun y1 => LeO.bind (LeO.refl _) fun y8 => LeO.bind (LeO.refl _) fun y15 => LeO.bind (LeO.refl _) fun l24 => LeO.bind (LeO.refl _) fun y26 => LeO.bind (LeO.refl _) fun l35 => (hfg _))
noncomputable def slices_partitionCmpFunc_172.l2_k.go (p : slices_partitionCmpFunc_172.l2_k.Pt) : Option (Int × Bool × (List T_part_Step)) := fixF (β := fun _ => (Int × Bool × (List T_part_Step))) slices_partitionCmpFunc_172.l2_k.body p
noncomputable def slices_partitionCmpFunc_172.l2 (a_0 : List T_part_Step) (x_1 : Int) (p_4 : T_part_Step → T_part_Step → Option Int) (x_12 : Int) (x_13 : Int) : Option (Int × Bool × (List T_part_Step)) := slices_partitionCmpFunc_172.l2_k.go (.l2 a_0 x_1 p_4 x_12 x_13)
def slices_partitionCmpFunc_172.l2_k.I : (p : slices_partitionCmpFunc_172.l2_k.Pt) → (Int × Bool × (List T_part_Step)) → Prop
  | .l2 a_0 x_1 p_4 x_12 x_13, r => ∀ (W : Nat → Prop) (h0 m0 h m : Heap) (A_0 : Option Addr) (n_0 c_0 : Nat) (fv_4 : Value) (O : Hold W h0 m0 h m [rR (aE T_part_Step.T) A_0 c_0 a_0]) (ne_0 : n_0 = List.length a_0) (f_4 : ∀ h' m', Sub m0 m' → Sub m' h' → ∀ (y0 : T_part_Step) (cs0 : List Value) (_ : T_part_Step.E m' y0 cs0) (y1 : T_part_Step) (cs1 : List Value) (_ : T_part_Step.E m' y1 cs1) (r : Int), p_4 y0 y1 = some r → CallF Try.prog fv_4 [.agg cs0.toArray, .agg cs1.toArray] h' (fun v h'' => v = .int .i64 r ∧ Ext h' h'')), f172.l2 (slices_partitionCmpFunc_172.post W A_0 n_0 c_0 h0 m0 r) A_0 n_0 c_0 x_1 fv_4 x_12 x_13 h
  | .l3 a_0 x_1 p_4 x_12 x_13, r => ∀ (W : Nat → Prop) (h0 m0 h m : Heap) (A_0 : Option Addr) (n_0 c_0 : Nat) (fv_4 : Value) (O : Hold W h0 m0 h m [rR (aE T_part_Step.T) A_0 c_0 a_0]) (ne_0 : n_0 = List.length a_0) (f_4 : ∀ h' m', Sub m0 m' → Sub m' h' → ∀ (y0 : T_part_Step) (cs0 : List Value) (_ : T_part_Step.E m' y0 cs0) (y1 : T_part_Step) (cs1 : List Value) (_ : T_part_Step.E m' y1 cs1) (r : Int), p_4 y0 y1 = some r → CallF Try.prog fv_4 [.agg cs0.toArray, .agg cs1.toArray] h' (fun v h'' => v = .int .i64 r ∧ Ext h' h'')), f172.l3 (slices_partitionCmpFunc_172.post W A_0 n_0 c_0 h0 m0 r) A_0 n_0 c_0 x_1 fv_4 x_12 x_13 h
  | .j7 a_0 x_1 p_4 x_12 x_13, r => ∀ (W : Nat → Prop) (h0 m0 h m : Heap) (A_0 : Option Addr) (n_0 c_0 : Nat) (fv_4 : Value) (O : Hold W h0 m0 h m [rR (aE T_part_Step.T) A_0 c_0 a_0]) (ne_0 : n_0 = List.length a_0) (f_4 : ∀ h' m', Sub m0 m' → Sub m' h' → ∀ (y0 : T_part_Step) (cs0 : List Value) (_ : T_part_Step.E m' y0 cs0) (y1 : T_part_Step) (cs1 : List Value) (_ : T_part_Step.E m' y1 cs1) (r : Int), p_4 y0 y1 = some r → CallF Try.prog fv_4 [.agg cs0.toArray, .agg cs1.toArray] h' (fun v h'' => v = .int .i64 r ∧ Ext h' h'')), f172.j7 (slices_partitionCmpFunc_172.post W A_0 n_0 c_0 h0 m0 r) A_0 n_0 c_0 x_1 fv_4 x_12 x_13 h
  | .j5 a_0 x_1 p_4 x_12 x_13, r => ∀ (W : Nat → Prop) (h0 m0 h m : Heap) (A_0 : Option Addr) (n_0 c_0 : Nat) (fv_4 : Value) (O : Hold W h0 m0 h m [rR (aE T_part_Step.T) A_0 c_0 a_0]) (ne_0 : n_0 = List.length a_0) (f_4 : ∀ h' m', Sub m0 m' → Sub m' h' → ∀ (y0 : T_part_Step) (cs0 : List Value) (_ : T_part_Step.E m' y0 cs0) (y1 : T_part_Step) (cs1 : List Value) (_ : T_part_Step.E m' y1 cs1) (r : Int), p_4 y0 y1 = some r → CallF Try.prog fv_4 [.agg cs0.toArray, .agg cs1.toArray] h' (fun v h'' => v = .int .i64 r ∧ Ext h' h'')), f172.j5 (slices_partitionCmpFunc_172.post W A_0 n_0 c_0 h0 m0 r) A_0 n_0 c_0 x_1 fv_4 x_12 x_13 h
  | .l4 a_0 x_1 p_4 x_12 x_13, r => ∀ (W : Nat → Prop) (h0 m0 h m : Heap) (A_0 : Option Addr) (n_0 c_0 : Nat) (fv_4 : Value) (O : Hold W h0 m0 h m [rR (aE T_part_Step.T) A_0 c_0 a_0]) (ne_0 : n_0 = List.length a_0) (f_4 : ∀ h' m', Sub m0 m' → Sub m' h' → ∀ (y0 : T_part_Step) (cs0 : List Value) (_ : T_part_Step.E m' y0 cs0) (y1 : T_part_Step) (cs1 : List Value) (_ : T_part_Step.E m' y1 cs1) (r : Int), p_4 y0 y1 = some r → CallF Try.prog fv_4 [.agg cs0.toArray, .agg cs1.toArray] h' (fun v h'' => v = .int .i64 r ∧ Ext h' h'')), f172.l4 (slices_partitionCmpFunc_172.post W A_0 n_0 c_0 h0 m0 r) A_0 n_0 c_0 x_1 fv_4 x_12 x_13 h
  | .j8 a_0 x_1 p_4 x_12 x_13, r => ∀ (W : Nat → Prop) (h0 m0 h m : Heap) (A_0 : Option Addr) (n_0 c_0 : Nat) (fv_4 : Value) (O : Hold W h0 m0 h m [rR (aE T_part_Step.T) A_0 c_0 a_0]) (ne_0 : n_0 = List.length a_0) (f_4 : ∀ h' m', Sub m0 m' → Sub m' h' → ∀ (y0 : T_part_Step) (cs0 : List Value) (_ : T_part_Step.E m' y0 cs0) (y1 : T_part_Step) (cs1 : List Value) (_ : T_part_Step.E m' y1 cs1) (r : Int), p_4 y0 y1 = some r → CallF Try.prog fv_4 [.agg cs0.toArray, .agg cs1.toArray] h' (fun v h'' => v = .int .i64 r ∧ Ext h' h'')), f172.j8 (slices_partitionCmpFunc_172.post W A_0 n_0 c_0 h0 m0 r) A_0 n_0 c_0 x_1 fv_4 x_12 x_13 h
  | .j6 a_0 x_1 p_4 x_12 x_13, r => ∀ (W : Nat → Prop) (h0 m0 h m : Heap) (A_0 : Option Addr) (n_0 c_0 : Nat) (fv_4 : Value) (O : Hold W h0 m0 h m [rR (aE T_part_Step.T) A_0 c_0 a_0]) (ne_0 : n_0 = List.length a_0) (f_4 : ∀ h' m', Sub m0 m' → Sub m' h' → ∀ (y0 : T_part_Step) (cs0 : List Value) (_ : T_part_Step.E m' y0 cs0) (y1 : T_part_Step) (cs1 : List Value) (_ : T_part_Step.E m' y1 cs1) (r : Int), p_4 y0 y1 = some r → CallF Try.prog fv_4 [.agg cs0.toArray, .agg cs1.toArray] h' (fun v h'' => v = .int .i64 r ∧ Ext h' h'')), f172.j6 (slices_partitionCmpFunc_172.post W A_0 n_0 c_0 h0 m0 r) A_0 n_0 c_0 x_1 fv_4 x_12 x_13 h
set_option maxRecDepth 100000 in
theorem slices_partitionCmpFunc_172.l2_k.step_l2 (go : (p : slices_partitionCmpFunc_172.l2_k.Pt) → Option (Int × Bool × (List T_part_Step))) (ih : ∀ p r, go p = some r → slices_partitionCmpFunc_172.l2_k.I p r) (a_0 : List T_part_Step) (x_1 : Int) (p_4 : T_part_Step → T_part_Step → Option Int) (x_12 : Int) (x_13 : Int) (r : Int × Bool × (List T_part_Step)) (e : slices_partitionCmpFunc_172.l2_k.body go (.l2 a_0 x_1 p_4 x_12 x_13) = some r) : slices_partitionCmpFunc_172.l2_k.I (.l2 a_0 x_1 p_4 x_12 x_13) r := by
  unfold slices_partitionCmpFunc_172.l2_k.body at e
  intro W h0 m0 h m A_0 n_0 c_0 fv_4 O ne_0 f_4
  subst ne_0
  refine f172.l2_in ?_
  unfold f172.l2T
  exact (ih _ _ e) _ _ _ _ _ _ _ _ _ (O.pick [0]).nm rfl f_4
set_option maxRecDepth 100000 in
theorem slices_partitionCmpFunc_172.l2_k.step_l3 (go : (p : slices_partitionCmpFunc_172.l2_k.Pt) → Option (Int × Bool × (List T_part_Step))) (ih : ∀ p r, go p = some r → slices_partitionCmpFunc_172.l2_k.I p r) (a_0 : List T_part_Step) (x_1 : Int) (p_4 : T_part_Step → T_part_Step → Option Int) (x_12 : Int) (x_13 : Int) (r : Int × Bool × (List T_part_Step)) (e : slices_partitionCmpFunc_172.l2_k.body go (.l3 a_0 x_1 p_4 x_12 x_13) = some r) : slices_partitionCmpFunc_172.l2_k.I (.l3 a_0 x_1 p_4 x_12 x_13) r := by
  unfold slices_partitionCmpFunc_172.l2_k.body at e
  intro W h0 m0 h m A_0 n_0 c_0 fv_4 O ne_0 f_4
  subst ne_0
  refine f172.l3_in ?_
  unfold f172.l3T
  refine split_dec_e e (fun c21 e => ?_) (fun c21 e => ?_)
  · obtain ⟨y1, g2, e⟩ := bind_e e
    refine (O.os 0 rfl).addr rfl g2 fun a3 cs4 ha5 hc6 he7 => ?_
    obtain ⟨y8, g9, e⟩ := bind_e e
    refine (O.os 0 rfl).addr rfl g9 fun a10 cs11 ha12 hc13 he14 => ?_
    refine ⟨_, ldAn (Sub.refl _) hc6 rfl, ?_⟩
    refine ⟨_, ldAn (Sub.refl _) hc13 rfl, ?_⟩
    obtain ⟨y15, g16, e⟩ := bind_e e
    refine CallF.mono (f_4 _ _ O.up O.s _ _ he7 _ _ he14 _ g16) ?_
    rintro _ h17 ⟨rfl, x18⟩
    have O19 := O.ext x18
    refine ⟨_, rfl, ?_⟩
    refine split_dec_e e (fun c20 e => ?_) (fun c20 e => ?_)
    · exact (ih _ _ e) _ _ _ _ _ _ _ _ _ (O19.pick [0]).nm rfl f_4
    · exact (ih _ _ e) _ _ _ _ _ _ _ _ _ (O19.pick [0]).nm rfl f_4
  · exact (ih _ _ e) _ _ _ _ _ _ _ _ _ (O.pick [0]).nm rfl f_4
set_option maxRecDepth 100000 in
theorem slices_partitionCmpFunc_172.l2_k.step_j7 (go : (p : slices_partitionCmpFunc_172.l2_k.Pt) → Option (Int × Bool × (List T_part_Step))) (ih : ∀ p r, go p = some r → slices_partitionCmpFunc_172.l2_k.I p r) (a_0 : List T_part_Step) (x_1 : Int) (p_4 : T_part_Step → T_part_Step → Option Int) (x_12 : Int) (x_13 : Int) (r : Int × Bool × (List T_part_Step)) (e : slices_partitionCmpFunc_172.l2_k.body go (.j7 a_0 x_1 p_4 x_12 x_13) = some r) : slices_partitionCmpFunc_172.l2_k.I (.j7 a_0 x_1 p_4 x_12 x_13) r := by
  unfold slices_partitionCmpFunc_172.l2_k.body at e
  intro W h0 m0 h m A_0 n_0 c_0 fv_4 O ne_0 f_4
  subst ne_0
  refine f172.j7_in ?_
  unfold f172.j7T
  exact (ih _ _ e) _ _ _ _ _ _ _ _ _ (O.pick [0]).nm rfl f_4
set_option maxRecDepth 100000 in
theorem slices_partitionCmpFunc_172.l2_k.step_j5 (go : (p : slices_partitionCmpFunc_172.l2_k.Pt) → Option (Int × Bool × (List T_part_Step))) (ih : ∀ p r, go p = some r → slices_partitionCmpFunc_172.l2_k.I p r) (a_0 : List T_part_Step) (x_1 : Int) (p_4 : T_part_Step → T_part_Step → Option Int) (x_12 : Int) (x_13 : Int) (r : Int × Bool × (List T_part_Step)) (e : slices_partitionCmpFunc_172.l2_k.body go (.j5 a_0 x_1 p_4 x_12 x_13) = some r) : slices_partitionCmpFunc_172.l2_k.I (.j5 a_0 x_1 p_4 x_12 x_13) r := by
  unfold slices_partitionCmpFunc_172.l2_k.body at e
  intro W h0 m0 h m A_0 n_0 c_0 fv_4 O ne_0 f_4
  subst ne_0
  refine f172.j5_in ?_
  unfold f172.j5T
  exact (ih _ _ e) _ _ _ _ _ _ _ _ _ (O.pick [0]).nm rfl f_4
set_option maxRecDepth 100000 in
theorem slices_partitionCmpFunc_172.l2_k.step_l4 (go : (p : slices_partitionCmpFunc_172.l2_k.Pt) → Option (Int × Bool × (List T_part_Step))) (ih : ∀ p r, go p = some r → slices_partitionCmpFunc_172.l2_k.I p r) (a_0 : List T_part_Step) (x_1 : Int) (p_4 : T_part_Step → T_part_Step → Option Int) (x_12 : Int) (x_13 : Int) (r : Int × Bool × (List T_part_Step)) (e : slices_partitionCmpFunc_172.l2_k.body go (.l4 a_0 x_1 p_4 x_12 x_13) = some r) : slices_partitionCmpFunc_172.l2_k.I (.l4 a_0 x_1 p_4 x_12 x_13) r := by
  unfold slices_partitionCmpFunc_172.l2_k.body at e
  intro W h0 m0 h m A_0 n_0 c_0 fv_4 O ne_0 f_4
  subst ne_0
  refine f172.l4_in ?_
  unfold f172.l4T
  refine split_dec_e e (fun c21 e => ?_) (fun c21 e => ?_)
  · obtain ⟨y1, g2, e⟩ := bind_e e
    refine (O.os 0 rfl).addr rfl g2 fun a3 cs4 ha5 hc6 he7 => ?_
    obtain ⟨y8, g9, e⟩ := bind_e e
    refine (O.os 0 rfl).addr rfl g9 fun a10 cs11 ha12 hc13 he14 => ?_
    refine ⟨_, ldAn (Sub.refl _) hc6 rfl, ?_⟩
    refine ⟨_, ldAn (Sub.refl _) hc13 rfl, ?_⟩
    obtain ⟨y15, g16, e⟩ := bind_e e
    refine CallF.mono (f_4 _ _ O.up O.s _ _ he7 _ _ he14 _ g16) ?_
    rintro _ h17 ⟨rfl, x18⟩
    have O19 := O.ext x18
    refine ⟨_, rfl, ?_⟩
    refine split_not ?_
    refine split_dec_e e (fun c20 e => ?_) (fun c20 e => ?_)
    · exact (ih _ _ e) _ _ _ _ _ _ _ _ _ (O19.pick [0]).nm rfl f_4
    · exact (ih _ _ e) _ _ _ _ _ _ _ _ _ (O19.pick [0]).nm rfl f_4
  · exact (ih _ _ e) _ _ _ _ _ _ _ _ _ (O.pick [0]).nm rfl f_4
set_option maxRecDepth 100000 in
theorem slices_partitionCmpFunc_172.l2_k.step_j8 (go : (p : slices_partitionCmpFunc_172.l2_k.Pt) → Option (Int × Bool × (List T_part_Step))) (ih : ∀ p r, go p = some r → slices_partitionCmpFunc_172.l2_k.I p r) (a_0 : List T_part_Step) (x_1 : Int) (p_4 : T_part_Step → T_part_Step → Option Int) (x_12 : Int) (x_13 : Int) (r : Int × Bool × (List T_part_Step)) (e : slices_partitionCmpFunc_172.l2_k.body go (.j8 a_0 x_1 p_4 x_12 x_13) = some r) : slices_partitionCmpFunc_172.l2_k.I (.j8 a_0 x_1 p_4 x_12 x_13) r := by
  unfold slices_partitionCmpFunc_172.l2_k.body at e
  intro W h0 m0 h m A_0 n_0 c_0 fv_4 O ne_0 f_4
  subst ne_0
  refine f172.j8_in ?_
  unfold f172.j8T
  exact (ih _ _ e) _ _ _ _ _ _ _ _ _ (O.pick [0]).nm rfl f_4
set_option maxRecDepth 100000 in
theorem slices_partitionCmpFunc_172.l2_k.step_j6 (go : (p : slices_partitionCmpFunc_172.l2_k.Pt) → Option (Int × Bool × (List T_part_Step))) (ih : ∀ p r, go p = some r → slices_partitionCmpFunc_172.l2_k.I p r) (a_0 : List T_part_Step) (x_1 : Int) (p_4 : T_part_Step → T_part_Step → Option Int) (x_12 : Int) (x_13 : Int) (r : Int × Bool × (List T_part_Step)) (e : slices_partitionCmpFunc_172.l2_k.body go (.j6 a_0 x_1 p_4 x_12 x_13) = some r) : slices_partitionCmpFunc_172.l2_k.I (.j6 a_0 x_1 p_4 x_12 x_13) r := by
  unfold slices_partitionCmpFunc_172.l2_k.body at e
  intro W h0 m0 h m A_0 n_0 c_0 fv_4 O ne_0 f_4
  subst ne_0
  refine f172.j6_in ?_
  unfold f172.j6T
  refine split_dec_e e (fun c38 e => ?_) (fun c38 e => ?_)
  · exact slices_partitionCmpFunc_172.j4.walk (O.pick [0]).nm rfl e
  · obtain ⟨y1, g2, e⟩ := bind_e e
    refine (O.os 0 rfl).addr rfl g2 fun a3 cs4 ha5 hc6 he7 => ?_
    obtain ⟨y8, g9, e⟩ := bind_e e
    refine (O.os 0 rfl).addr rfl g9 fun a10 cs11 ha12 hc13 he14 => ?_
    refine ⟨_, ldAn (Sub.refl _) hc6 rfl, ?_⟩
    refine ⟨_, ldAn (Sub.refl _) hc13 rfl, ?_⟩
    obtain ⟨y15, g16, e⟩ := bind_e e
    refine (O.os 0 rfl).addr rfl g16 fun a17 cs18 ha19 hc20 he21 => ?_
    obtain ⟨l24, g25, e⟩ := bind_e e
    replace g25 := Option.some.inj g25
    refine ⟨_, rfl, (T_part_Step.T.len _ _ _ he7), ?_⟩
    refine O.elstA 0 rfl g16 ha19 hc20 (y' := y1) he7 (T_part_Step.T.flat _ _ _ he7) g25 fun h22 O23 => ?_
    obtain ⟨y26, g27, e⟩ := bind_e e
    refine (O23.os 0 rfl).addr (lset' g25) g27 fun a28 cs29 ha30 hc31 he32 => ?_
    obtain ⟨l35, g36, e⟩ := bind_e e
    replace g36 := Option.some.inj g36
    refine ⟨_, rfl, (T_part_Step.T.len _ _ _ he14), ?_⟩
    refine O23.elstA 0 rfl g27 ha30 hc31 (y' := y8) he14 (T_part_Step.T.flat _ _ _ he14) g36 fun h33 O34 => ?_
    have O37 := O34.nm
    exact (ih _ _ e) _ _ _ _ _ _ _ _ _ (O37.pick [0]).nm ((lset' g25).trans (lset' g36)) f_4
theorem slices_partitionCmpFunc_172.l2_k.all {p : slices_partitionCmpFunc_172.l2_k.Pt} {r : (Int × Bool × (List T_part_Step))} (e : slices_partitionCmpFunc_172.l2_k.go p = some r) : slices_partitionCmpFunc_172.l2_k.I p r := fixF_ind (β := fun _ => (Int × Bool × (List T_part_Step))) slices_partitionCmpFunc_172.l2_k.mono (I := slices_partitionCmpFunc_172.l2_k.I) (fun go ih p r e => match p with
  | .l2 a_0 x_1 p_4 x_12 x_13 => slices_partitionCmpFunc_172.l2_k.step_l2 go ih a_0 x_1 p_4 x_12 x_13 r e
  | .l3 a_0 x_1 p_4 x_12 x_13 => slices_partitionCmpFunc_172.l2_k.step_l3 go ih a_0 x_1 p_4 x_12 x_13 r e
  | .j7 a_0 x_1 p_4 x_12 x_13 => slices_partitionCmpFunc_172.l2_k.step_j7 go ih a_0 x_1 p_4 x_12 x_13 r e
  | .j5 a_0 x_1 p_4 x_12 x_13 => slices_partitionCmpFunc_172.l2_k.step_j5 go ih a_0 x_1 p_4 x_12 x_13 r e
  | .l4 a_0 x_1 p_4 x_12 x_13 => slices_partitionCmpFunc_172.l2_k.step_l4 go ih a_0 x_1 p_4 x_12 x_13 r e
  | .j8 a_0 x_1 p_4 x_12 x_13 => slices_partitionCmpFunc_172.l2_k.step_j8 go ih a_0 x_1 p_4 x_12 x_13 r e
  | .j6 a_0 x_1 p_4 x_12 x_13 => slices_partitionCmpFunc_172.l2_k.step_j6 go ih a_0 x_1 p_4 x_12 x_13 r e
  ) e
theorem slices_partitionCmpFunc_172.l2.walk {W : Nat → Prop} {h0 m0 h m : Heap} {A_0 : Option Addr} {n_0 c_0 : Nat} {fv_4 : Value} {a_0 : List T_part_Step} {x_1 : Int} {p_4 : T_part_Step → T_part_Step → Option Int} {x_12 : Int} {x_13 : Int} (O : Hold W h0 m0 h m [rR (aE T_part_Step.T) A_0 c_0 a_0]) (ne_0 : n_0 = List.length a_0) (f_4 : ∀ h' m', Sub m0 m' → Sub m' h' → ∀ (y0 : T_part_Step) (cs0 : List Value) (_ : T_part_Step.E m' y0 cs0) (y1 : T_part_Step) (cs1 : List Value) (_ : T_part_Step.E m' y1 cs1) (r : Int), p_4 y0 y1 = some r → CallF Try.prog fv_4 [.agg cs0.toArray, .agg cs1.toArray] h' (fun v h'' => v = .int .i64 r ∧ Ext h' h'')) {r : Int × Bool × (List T_part_Step)} (e : slices_partitionCmpFunc_172.l2 a_0 x_1 p_4 x_12 x_13 = some r) : f172.l2 (slices_partitionCmpFunc_172.post W A_0 n_0 c_0 h0 m0 r) A_0 n_0 c_0 x_1 fv_4 x_12 x_13 h := slices_partitionCmpFunc_172.l2_k.all (p := .l2 a_0 x_1 p_4 x_12 x_13) e W h0 m0 h m A_0 n_0 c_0 fv_4 O ne_0 f_4
noncomputable def slices_partitionCmpFunc_172.j1 (a_0 : List T_part_Step) (x_1 : Int) (p_4 : T_part_Step → T_part_Step → Option Int) (x_12 : Int) (x_13 : Int) : Option (Int × Bool × (List T_part_Step)) :=
  if x_12 > x_13 then (Option.bind (gi a_0 x_1) fun y1 => Option.bind (gi a_0 x_13) fun y8 => Option.bind (gi a_0 x_13) fun y15 => Option.bind (some (List.set a_0 (Int.toNat x_13) y1)) fun l24 => Option.bind (gi l24 x_1) fun y26 => Option.bind (some (List.set l24 (Int.toNat x_1) y8)) fun l35 => some (x_13, true, l35)) else (Option.bind (gi a_0 x_13) fun y38 => Option.bind (gi a_0 x_12) fun y45 => Option.bind (gi a_0 x_12) fun y52 => Option.bind (some (List.set a_0 (Int.toNat x_12) y38)) fun l61 => Option.bind (gi l61 x_13) fun y63 => Option.bind (some (List.set l61 (Int.toNat x_13) y45)) fun l72 => (slices_partitionCmpFunc_172.l2 l72 x_1 p_4 (IntKind.wrap .i64 (x_12 + (1 : Int))) (IntKind.wrap .i64 (x_13 - (1 : Int)))))
set_option maxHeartbeats 4000000 in
set_option maxRecDepth 100000 in
theorem slices_partitionCmpFunc_172.j1.walk {W : Nat → Prop} {h0 m0 h m : Heap} {A_0 : Option Addr} {n_0 c_0 : Nat} {fv_4 : Value} {a_0 : List T_part_Step} {x_1 : Int} {p_4 : T_part_Step → T_part_Step → Option Int} {x_12 : Int} {x_13 : Int} (O : Hold W h0 m0 h m [rR (aE T_part_Step.T) A_0 c_0 a_0]) (ne_0 : n_0 = List.length a_0) (f_4 : ∀ h' m', Sub m0 m' → Sub m' h' → ∀ (y0 : T_part_Step) (cs0 : List Value) (_ : T_part_Step.E m' y0 cs0) (y1 : T_part_Step) (cs1 : List Value) (_ : T_part_Step.E m' y1 cs1) (r : Int), p_4 y0 y1 = some r → CallF Try.prog fv_4 [.agg cs0.toArray, .agg cs1.toArray] h' (fun v h'' => v = .int .i64 r ∧ Ext h' h'')) {r : Int × Bool × (List T_part_Step)} (e : slices_partitionCmpFunc_172.j1 a_0 x_1 p_4 x_12 x_13 = some r) : f172.j1 (slices_partitionCmpFunc_172.post W A_0 n_0 c_0 h0 m0 r) A_0 n_0 c_0 x_1 fv_4 x_12 x_13 h := by
  unfold slices_partitionCmpFunc_172.j1 at e
  subst ne_0
  refine f172.j1_in ?_
  unfold f172.j1T
  refine split_dec_e e (fun c75 e => ?_) (fun c75 e => ?_)
  · obtain ⟨y1, g2, e⟩ := bind_e e
    refine (O.os 0 rfl).addr rfl g2 fun a3 cs4 ha5 hc6 he7 => ?_
    obtain ⟨y8, g9, e⟩ := bind_e e
    refine (O.os 0 rfl).addr rfl g9 fun a10 cs11 ha12 hc13 he14 => ?_
    refine ⟨_, ldAn (Sub.refl _) hc6 rfl, ?_⟩
    refine ⟨_, ldAn (Sub.refl _) hc13 rfl, ?_⟩
    obtain ⟨y15, g16, e⟩ := bind_e e
    refine (O.os 0 rfl).addr rfl g16 fun a17 cs18 ha19 hc20 he21 => ?_
    obtain ⟨l24, g25, e⟩ := bind_e e
    replace g25 := Option.some.inj g25
    refine ⟨_, rfl, (T_part_Step.T.len _ _ _ he7), ?_⟩
    refine O.elstA 0 rfl g16 ha19 hc20 (y' := y1) he7 (T_part_Step.T.flat _ _ _ he7) g25 fun h22 O23 => ?_
    obtain ⟨y26, g27, e⟩ := bind_e e
    refine (O23.os 0 rfl).addr (lset' g25) g27 fun a28 cs29 ha30 hc31 he32 => ?_
    obtain ⟨l35, g36, e⟩ := bind_e e
    replace g36 := Option.some.inj g36
    refine ⟨_, rfl, (T_part_Step.T.len _ _ _ he14), ?_⟩
    refine O23.elstA 0 rfl g27 ha30 hc31 (y' := y8) he14 (T_part_Step.T.flat _ _ _ he14) g36 fun h33 O34 => ?_
    have O37 := O34.nm
    cases e
    exact ⟨_, O37.pick [0], rfl, ((lset' g25).trans (lset' g36))⟩
  · obtain ⟨y38, g39, e⟩ := bind_e e
    refine (O.os 0 rfl).addr rfl g39 fun a40 cs41 ha42 hc43 he44 => ?_
    obtain ⟨y45, g46, e⟩ := bind_e e
    refine (O.os 0 rfl).addr rfl g46 fun a47 cs48 ha49 hc50 he51 => ?_
    refine ⟨_, ldAn (Sub.refl _) hc43 rfl, ?_⟩
    refine ⟨_, ldAn (Sub.refl _) hc50 rfl, ?_⟩
    obtain ⟨y52, g53, e⟩ := bind_e e
    refine (O.os 0 rfl).addr rfl g53 fun a54 cs55 ha56 hc57 he58 => ?_
    obtain ⟨l61, g62, e⟩ := bind_e e
    replace g62 := Option.some.inj g62
    refine ⟨_, rfl, (T_part_Step.T.len _ _ _ he44), ?_⟩
    refine O.elstA 0 rfl g53 ha56 hc57 (y' := y38) he44 (T_part_Step.T.flat _ _ _ he44) g62 fun h59 O60 => ?_
    obtain ⟨y63, g64, e⟩ := bind_e e
    refine (O60.os 0 rfl).addr (lset' g62) g64 fun a65 cs66 ha67 hc68 he69 => ?_
    obtain ⟨l72, g73, e⟩ := bind_e e
    replace g73 := Option.some.inj g73
    refine ⟨_, rfl, (T_part_Step.T.len _ _ _ he51), ?_⟩
    refine O60.elstA 0 rfl g64 ha67 hc68 (y' := y45) he51 (T_part_Step.T.flat _ _ _ he51) g73 fun h70 O71 => ?_
    have O74 := O71.nm
    exact slices_partitionCmpFunc_172.l2.walk (O74.pick [0]).nm ((lset' g62).trans (lset' g73)) f_4 e
inductive slices_partitionCmpFunc_172.l1_k.Pt where
  | l1 (a_0 : List T_part_Step) (x_1 : Int) (p_4 : T_part_Step → T_part_Step → Option Int) (x_12 : Int) (x_13 : Int)
  | j3 (a_0 : List T_part_Step) (x_1 : Int) (p_4 : T_part_Step → T_part_Step → Option Int) (x_12 : Int) (x_13 : Int)
noncomputable def slices_partitionCmpFunc_172.l1_k.body (go : (p : slices_partitionCmpFunc_172.l1_k.Pt) → Option (Int × Bool × (List T_part_Step))) : (p : slices_partitionCmpFunc_172.l1_k.Pt) → Option (Int × Bool × (List T_part_Step))
  | .l1 a_0 x_1 p_4 x_12 x_13 => if x_12 ≤ x_13 then (Option.bind (gi a_0 x_13) fun y1 => Option.bind (gi a_0 x_1) fun y8 => Option.bind (p_4 y1 y8) fun y15 => if y15 < (0 : Int) then ((slices_partitionCmpFunc_172.j1 a_0 x_1 p_4 x_12 x_13)) else ((go (.j3 a_0 x_1 p_4 x_12 x_13)))) else ((slices_partitionCmpFunc_172.j1 a_0 x_1 p_4 x_12 x_13))
  | .j3 a_0 x_1 p_4 x_12 x_13 => (go (.l1 a_0 x_1 p_4 x_12 (IntKind.wrap .i64 (x_13 - (1 : Int)))))
theorem slices_partitionCmpFunc_172.l1_k.mono : MonoF (β := fun _ => (Int × Bool × (List T_part_Step))) slices_partitionCmpFunc_172.l1_k.body := fun f g hfg p => match p with
  | .l1 a_0 x_1 p_4 x_12 x_13 => LeO.ite (LeO.bind (LeO.refl _) fun y1 => LeO.bind (LeO.refl _) fun y8 => LeO.bind (LeO.refl _) fun y15 => LeO.ite ((LeO.refl _)) ((hfg _))) ((LeO.refl _))
  | .j3 a_0 x_1 p_4 x_12 x_13 => (hfg _)
noncomputable def slices_partitionCmpFunc_172.l1_k.go (p : slices_partitionCmpFunc_172.l1_k.Pt) : Option (Int × Bool × (List T_part_Step)) := fixF (β := fun _ => (Int × Bool × (List T_part_Step))) slices_partitionCmpFunc_172.l1_k.body p
noncomputable def slices_partitionCmpFunc_172.l1 (a_0 : List T_part_Step) (x_1 : Int) (p_4 : T_part_Step → T_part_Step → Option Int) (x_12 : Int) (x_13 : Int) : Option (Int × Bool × (List T_part_Step)) := slices_partitionCmpFunc_172.l1_k.go (.l1 a_0 x_1 p_4 x_12 x_13)
def slices_partitionCmpFunc_172.l1_k.I : (p : slices_partitionCmpFunc_172.l1_k.Pt) → (Int × Bool × (List T_part_Step)) → Prop
  | .l1 a_0 x_1 p_4 x_12 x_13, r => ∀ (W : Nat → Prop) (h0 m0 h m : Heap) (A_0 : Option Addr) (n_0 c_0 : Nat) (fv_4 : Value) (O : Hold W h0 m0 h m [rR (aE T_part_Step.T) A_0 c_0 a_0]) (ne_0 : n_0 = List.length a_0) (f_4 : ∀ h' m', Sub m0 m' → Sub m' h' → ∀ (y0 : T_part_Step) (cs0 : List Value) (_ : T_part_Step.E m' y0 cs0) (y1 : T_part_Step) (cs1 : List Value) (_ : T_part_Step.E m' y1 cs1) (r : Int), p_4 y0 y1 = some r → CallF Try.prog fv_4 [.agg cs0.toArray, .agg cs1.toArray] h' (fun v h'' => v = .int .i64 r ∧ Ext h' h'')), f172.l1 (slices_partitionCmpFunc_172.post W A_0 n_0 c_0 h0 m0 r) A_0 n_0 c_0 x_1 fv_4 x_12 x_13 h
  | .j3 a_0 x_1 p_4 x_12 x_13, r => ∀ (W : Nat → Prop) (h0 m0 h m : Heap) (A_0 : Option Addr) (n_0 c_0 : Nat) (fv_4 : Value) (O : Hold W h0 m0 h m [rR (aE T_part_Step.T) A_0 c_0 a_0]) (ne_0 : n_0 = List.length a_0) (f_4 : ∀ h' m', Sub m0 m' → Sub m' h' → ∀ (y0 : T_part_Step) (cs0 : List Value) (_ : T_part_Step.E m' y0 cs0) (y1 : T_part_Step) (cs1 : List Value) (_ : T_part_Step.E m' y1 cs1) (r : Int), p_4 y0 y1 = some r → CallF Try.prog fv_4 [.agg cs0.toArray, .agg cs1.toArray] h' (fun v h'' => v = .int .i64 r ∧ Ext h' h'')), f172.j3 (slices_partitionCmpFunc_172.post W A_0 n_0 c_0 h0 m0 r) A_0 n_0 c_0 x_1 fv_4 x_12 x_13 h
set_option maxRecDepth 100000 in
theorem slices_partitionCmpFunc_172.l1_k.step_l1 (go : (p : slices_partitionCmpFunc_172.l1_k.Pt) → Option (Int × Bool × (List T_part_Step))) (ih : ∀ p r, go p = some r → slices_partitionCmpFunc_172.l1_k.I p r) (a_0 : List T_part_Step) (x_1 : Int) (p_4 : T_part_Step → T_part_Step → Option Int) (x_12 : Int) (x_13 : Int) (r : Int × Bool × (List T_part_Step)) (e : slices_partitionCmpFunc_172.l1_k.body go (.l1 a_0 x_1 p_4 x_12 x_13) = some r) : slices_partitionCmpFunc_172.l1_k.I (.l1 a_0 x_1 p_4 x_12 x_13) r := by
  unfold slices_partitionCmpFunc_172.l1_k.body at e
  intro W h0 m0 h m A_0 n_0 c_0 fv_4 O ne_0 f_4
  subst ne_0
  refine f172.l1_in ?_
  unfold f172.l1T
  refine split_dec_e e (fun c21 e => ?_) (fun c21 e => ?_)
  · obtain ⟨y1, g2, e⟩ := bind_e e
    refine (O.os 0 rfl).addr rfl g2 fun a3 cs4 ha5 hc6 he7 => ?_
    obtain ⟨y8, g9, e⟩ := bind_e e
    refine (O.os 0 rfl).addr rfl g9 fun a10 cs11 ha12 hc13 he14 => ?_
    refine ⟨_, ldAn (Sub.refl _) hc6 rfl, ?_⟩
    refine ⟨_, ldAn (Sub.refl _) hc13 rfl, ?_⟩
    obtain ⟨y15, g16, e⟩ := bind_e e
    refine CallF.mono (f_4 _ _ O.up O.s _ _ he7 _ _ he14 _ g16) ?_
    rintro _ h17 ⟨rfl, x18⟩
    have O19 := O.ext x18
    refine ⟨_, rfl, ?_⟩
    refine split_not ?_
    refine split_dec_e e (fun c20 e => ?_) (fun c20 e => ?_)
    · exact slices_partitionCmpFunc_172.j1.walk (O19.pick [0]).nm rfl f_4 e
    · exact (ih _ _ e) _ _ _ _ _ _ _ _ _ (O19.pick [0]).nm rfl f_4
  · exact slices_partitionCmpFunc_172.j1.walk (O.pick [0]).nm rfl f_4 e
set_option maxRecDepth 100000 in
theorem slices_partitionCmpFunc_172.l1_k.step_j3 (go : (p : slices_partitionCmpFunc_172.l1_k.Pt) → Option (Int × Bool × (List T_part_Step))) (ih : ∀ p r, go p = some r → slices_partitionCmpFunc_172.l1_k.I p r) (a_0 : List T_part_Step) (x_1 : Int) (p_4 : T_part_Step → T_part_Step → Option Int) (x_12 : Int) (x_13 : Int) (r : Int × Bool × (List T_part_Step)) (e : slices_partitionCmpFunc_172.l1_k.body go (.j3 a_0 x_1 p_4 x_12 x_13) = some r) : slices_partitionCmpFunc_172.l1_k.I (.j3 a_0 x_1 p_4 x_12 x_13) r := by
  unfold slices_partitionCmpFunc_172.l1_k.body at e
  intro W h0 m0 h m A_0 n_0 c_0 fv_4 O ne_0 f_4
  subst ne_0
  refine f172.j3_in ?_
  unfold f172.j3T
  exact (ih _ _ e) _ _ _ _ _ _ _ _ _ (O.pick [0]).nm rfl f_4
theorem slices_partitionCmpFunc_172.l1_k.all {p : slices_partitionCmpFunc_172.l1_k.Pt} {r : (Int × Bool × (List T_part_Step))} (e : slices_partitionCmpFunc_172.l1_k.go p = some r) : slices_partitionCmpFunc_172.l1_k.I p r := fixF_ind (β := fun _ => (Int × Bool × (List T_part_Step))) slices_partitionCmpFunc_172.l1_k.mono (I := slices_partitionCmpFunc_172.l1_k.I) (fun go ih p r e => match p with
  | .l1 a_0 x_1 p_4 x_12 x_13 => slices_partitionCmpFunc_172.l1_k.step_l1 go ih a_0 x_1 p_4 x_12 x_13 r e
  | .j3 a_0 x_1 p_4 x_12 x_13 => slices_partitionCmpFunc_172.l1_k.step_j3 go ih a_0 x_1 p_4 x_12 x_13 r e
  ) e
theorem slices_partitionCmpFunc_172.l1.walk {W : Nat → Prop} {h0 m0 h m : Heap} {A_0 : Option Addr} {n_0 c_0 : Nat} {fv_4 : Value} {a_0 : List T_part_Step} {x_1 : Int} {p_4 : T_part_Step → T_part_Step → Option Int} {x_12 : Int} {x_13 : Int} (O : Hold W h0 m0 h m [rR (aE T_part_Step.T) A_0 c_0 a_0]) (ne_0 : n_0 = List.length a_0) (f_4 : ∀ h' m', Sub m0 m' → Sub m' h' → ∀ (y0 : T_part_Step) (cs0 : List Value) (_ : T_part_Step.E m' y0 cs0) (y1 : T_part_Step) (cs1 : List Value) (_ : T_part_Step.E m' y1 cs1) (r : Int), p_4 y0 y1 = some r → CallF Try.prog fv_4 [.agg cs0.toArray, .agg cs1.toArray] h' (fun v h'' => v = .int .i64 r ∧ Ext h' h'')) {r : Int × Bool × (List T_part_Step)} (e : slices_partitionCmpFunc_172.l1 a_0 x_1 p_4 x_12 x_13 = some r) : f172.l1 (slices_partitionCmpFunc_172.post W A_0 n_0 c_0 h0 m0 r) A_0 n_0 c_0 x_1 fv_4 x_12 x_13 h := slices_partitionCmpFunc_172.l1_k.all (p := .l1 a_0 x_1 p_4 x_12 x_13) e W h0 m0 h m A_0 n_0 c_0 fv_4 O ne_0 f_4
noncomputable def slices_partitionCmpFunc_172.j0 (a_0 : List T_part_Step) (x_1 : Int) (p_4 : T_part_Step → T_part_Step → Option Int) (x_12 : Int) (x_13 : Int) : Option (Int × Bool × (List T_part_Step)) :=
  (slices_partitionCmpFunc_172.l1 a_0 x_1 p_4 x_12 x_13)
set_option maxRecDepth 100000 in
theorem slices_partitionCmpFunc_172.j0.walk {W : Nat → Prop} {h0 m0 h m : Heap} {A_0 : Option Addr} {n_0 c_0 : Nat} {fv_4 : Value} {a_0 : List T_part_Step} {x_1 : Int} {p_4 : T_part_Step → T_part_Step → Option Int} {x_12 : Int} {x_13 : Int} (O : Hold W h0 m0 h m [rR (aE T_part_Step.T) A_0 c_0 a_0]) (ne_0 : n_0 = List.length a_0) (f_4 : ∀ h' m', Sub m0 m' → Sub m' h' → ∀ (y0 : T_part_Step) (cs0 : List Value) (_ : T_part_Step.E m' y0 cs0) (y1 : T_part_Step) (cs1 : List Value) (_ : T_part_Step.E m' y1 cs1) (r : Int), p_4 y0 y1 = some r → CallF Try.prog fv_4 [.agg cs0.toArray, .agg cs1.toArray] h' (fun v h'' => v = .int .i64 r ∧ Ext h' h'')) {r : Int × Bool × (List T_part_Step)} (e : slices_partitionCmpFunc_172.j0 a_0 x_1 p_4 x_12 x_13 = some r) : f172.j0 (slices_partitionCmpFunc_172.post W A_0 n_0 c_0 h0 m0 r) A_0 n_0 c_0 x_1 fv_4 x_12 x_13 h := by
  unfold slices_partitionCmpFunc_172.j0 at e
  subst ne_0
  refine f172.j0_in ?_
  unfold f172.j0T
  exact slices_partitionCmpFunc_172.l1.walk (O.pick [0]).nm rfl f_4 e
inductive slices_partitionCmpFunc_172.l0_k.Pt where
  | l0 (a_0 : List T_part_Step) (x_1 : Int) (p_4 : T_part_Step → T_part_Step → Option Int) (x_12 : Int) (x_13 : Int)
  | j2 (a_0 : List T_part_Step) (x_1 : Int) (p_4 : T_part_Step → T_part_Step → Option Int) (x_12 : Int) (x_13 : Int)
noncomputable def slices_partitionCmpFunc_172.l0_k.body (go : (p : slices_partitionCmpFunc_172.l0_k.Pt) → Option (Int × Bool × (List T_part_Step))) : (p : slices_partitionCmpFunc_172.l0_k.Pt) → Option (Int × Bool × (List T_part_Step))
  | .l0 a_0 x_1 p_4 x_12 x_13 => if x_12 ≤ x_13 then (Option.bind (gi a_0 x_12) fun y1 => Option.bind (gi a_0 x_1) fun y8 => Option.bind (p_4 y1 y8) fun y15 => if y15 < (0 : Int) then ((go (.j2 a_0 x_1 p_4 x_12 x_13))) else ((slices_partitionCmpFunc_172.j0 a_0 x_1 p_4 x_12 x_13))) else ((slices_partitionCmpFunc_172.j0 a_0 x_1 p_4 x_12 x_13))
  | .j2 a_0 x_1 p_4 x_12 x_13 => (go (.l0 a_0 x_1 p_4 (IntKind.wrap .i64 (x_12 + (1 : Int))) x_13))
theorem slices_partitionCmpFunc_172.l0_k.mono : MonoF (β := fun _ => (Int × Bool × (List T_part_Step))) slices_partitionCmpFunc_172.l0_k.body := fun f g hfg p => match p with
  | .l0 a_0 x_1 p_4 x_12 x_13 => LeO.ite (LeO.bind (LeO.refl _) fun y1 => LeO.bind (LeO.refl _) fun y8 => LeO.bind (LeO.refl _) fun y15 => LeO.ite ((hfg _)) ((LeO.refl _))) ((LeO.refl _))
  | .j2 a_0 x_1 p_4 x_12 x_13 => (hfg _)
noncomputable def slices_partitionCmpFunc_172.l0_k.go (p : slices_partitionCmpFunc_172.l0_k.Pt) : Option (Int × Bool × (List T_part_Step)) := fixF (β := fun _ => (Int × Bool × (List T_part_Step))) slices_partitionCmpFunc_172.l0_k.body p
noncomputable def slices_partitionCmpFunc_172.l0 (a_0 : List T_part_Step) (x_1 : Int) (p_4 : T_part_Step → T_part_Step → Option Int) (x_12 : Int) (x_13 : Int) : Option (Int × Bool × (List T_part_Step)) := slices_partitionCmpFunc_172.l0_k.go (.l0 a_0 x_1 p_4 x_12 x_13)
def slices_partitionCmpFunc_172.l0_k.I : (p : slices_partitionCmpFunc_172.l0_k.Pt) → (Int × Bool × (List T_part_Step)) → Prop
  | .l0 a_0 x_1 p_4 x_12 x_13, r => ∀ (W : Nat → Prop) (h0 m0 h m : Heap) (A_0 : Option Addr) (n_0 c_0 : Nat) (fv_4 : Value) (O : Hold W h0 m0 h m [rR (aE T_part_Step.T) A_0 c_0 a_0]) (ne_0 : n_0 = List.length a_0) (f_4 : ∀ h' m', Sub m0 m' → Sub m' h' → ∀ (y0 : T_part_Step) (cs0 : List Value) (_ : T_part_Step.E m' y0 cs0) (y1 : T_part_Step) (cs1 : List Value) (_ : T_part_Step.E m' y1 cs1) (r : Int), p_4 y0 y1 = some r → CallF Try.prog fv_4 [.agg cs0.toArray, .agg cs1.toArray] h' (fun v h'' => v = .int .i64 r ∧ Ext h' h'')), f172.l0 (slices_partitionCmpFunc_172.post W A_0 n_0 c_0 h0 m0 r) A_0 n_0 c_0 x_1 fv_4 x_12 x_13 h
  | .j2 a_0 x_1 p_4 x_12 x_13, r => ∀ (W : Nat → Prop) (h0 m0 h m : Heap) (A_0 : Option Addr) (n_0 c_0 : Nat) (fv_4 : Value) (O : Hold W h0 m0 h m [rR (aE T_part_Step.T) A_0 c_0 a_0]) (ne_0 : n_0 = List.length a_0) (f_4 : ∀ h' m', Sub m0 m' → Sub m' h' → ∀ (y0 : T_part_Step) (cs0 : List Value) (_ : T_part_Step.E m' y0 cs0) (y1 : T_part_Step) (cs1 : List Value) (_ : T_part_Step.E m' y1 cs1) (r : Int), p_4 y0 y1 = some r → CallF Try.prog fv_4 [.agg cs0.toArray, .agg cs1.toArray] h' (fun v h'' => v = .int .i64 r ∧ Ext h' h'')), f172.j2 (slices_partitionCmpFunc_172.post W A_0 n_0 c_0 h0 m0 r) A_0 n_0 c_0 x_1 fv_4 x_12 x_13 h
set_option maxRecDepth 100000 in
theorem slices_partitionCmpFunc_172.l0_k.step_l0 (go : (p : slices_partitionCmpFunc_172.l0_k.Pt) → Option (Int × Bool × (List T_part_Step))) (ih : ∀ p r, go p = some r → slices_partitionCmpFunc_172.l0_k.I p r) (a_0 : List T_part_Step) (x_1 : Int) (p_4 : T_part_Step → T_part_Step → Option Int) (x_12 : Int) (x_13 : Int) (r : Int × Bool × (List T_part_Step)) (e : slices_partitionCmpFunc_172.l0_k.body go (.l0 a_0 x_1 p_4 x_12 x_13) = some r) : slices_partitionCmpFunc_172.l0_k.I (.l0 a_0 x_1 p_4 x_12 x_13) r := by
  unfold slices_partitionCmpFunc_172.l0_k.body at e
  intro W h0 m0 h m A_0 n_0 c_0 fv_4 O ne_0 f_4
  subst ne_0
  refine f172.l0_in ?_
  unfold f172.l0T
  refine split_dec_e e (fun c21 e => ?_) (fun c21 e => ?_)
  · obtain ⟨y1, g2, e⟩ := bind_e e
    refine (O.os 0 rfl).addr rfl g2 fun a3 cs4 ha5 hc6 he7 => ?_
    obtain ⟨y8, g9, e⟩ := bind_e e
    refine (O.os 0 rfl).addr rfl g9 fun a10 cs11 ha12 hc13 he14 => ?_
    refine ⟨_, ldAn (Sub.refl _) hc6 rfl, ?_⟩
    refine ⟨_, ldAn (Sub.refl _) hc13 rfl, ?_⟩
    obtain ⟨y15, g16, e⟩ := bind_e e
    refine CallF.mono (f_4 _ _ O.up O.s _ _ he7 _ _ he14 _ g16) ?_
    rintro _ h17 ⟨rfl, x18⟩
    have O19 := O.ext x18
    refine ⟨_, rfl, ?_⟩
    refine split_dec_e e (fun c20 e => ?_) (fun c20 e => ?_)
    · exact (ih _ _ e) _ _ _ _ _ _ _ _ _ (O19.pick [0]).nm rfl f_4
    · exact slices_partitionCmpFunc_172.j0.walk (O19.pick [0]).nm rfl f_4 e
  · exact slices_partitionCmpFunc_172.j0.walk (O.pick [0]).nm rfl f_4 e
set_option maxRecDepth 100000 in
theorem slices_partitionCmpFunc_172.l0_k.step_j2 (go : (p : slices_partitionCmpFunc_172.l0_k.Pt) → Option (Int × Bool × (List T_part_Step))) (ih : ∀ p r, go p = some r → slices_partitionCmpFunc_172.l0_k.I p r) (a_0 : List T_part_Step) (x_1 : Int) (p_4 : T_part_Step → T_part_Step → Option Int) (x_12 : Int) (x_13 : Int) (r : Int × Bool × (List T_part_Step)) (e : slices_partitionCmpFunc_172.l0_k.body go (.j2 a_0 x_1 p_4 x_12 x_13) = some r) : slices_partitionCmpFunc_172.l0_k.I (.j2 a_0 x_1 p_4 x_12 x_13) r := by
  unfold slices_partitionCmpFunc_172.l0_k.body at e
  intro W h0 m0 h m A_0 n_0 c_0 fv_4 O ne_0 f_4
  subst ne_0
  refine f172.j2_in ?_
  unfold f172.j2T
  exact (ih _ _ e) _ _ _ _ _ _ _ _ _ (O.pick [0]).nm rfl f_4
theorem slices_partitionCmpFunc_172.l0_k.all {p : slices_partitionCmpFunc_172.l0_k.Pt} {r : (Int × Bool × (List T_part_Step))} (e : slices_partitionCmpFunc_172.l0_k.go p = some r) : slices_partitionCmpFunc_172.l0_k.I p r := fixF_ind (β := fun _ => (Int × Bool × (List T_part_Step))) slices_partitionCmpFunc_172.l0_k.mono (I := slices_partitionCmpFunc_172.l0_k.I) (fun go ih p r e => match p with
  | .l0 a_0 x_1 p_4 x_12 x_13 => slices_partitionCmpFunc_172.l0_k.step_l0 go ih a_0 x_1 p_4 x_12 x_13 r e
  | .j2 a_0 x_1 p_4 x_12 x_13 => slices_partitionCmpFunc_172.l0_k.step_j2 go ih a_0 x_1 p_4 x_12 x_13 r e
  ) e
theorem slices_partitionCmpFunc_172.l0.walk {W : Nat → Prop} {h0 m0 h m : Heap} {A_0 : Option Addr} {n_0 c_0 : Nat} {fv_4 : Value} {a_0 : List T_part_Step} {x_1 : Int} {p_4 : T_part_Step → T_part_Step → Option Int} {x_12 : Int} {x_13 : Int} (O : Hold W h0 m0 h m [rR (aE T_part_Step.T) A_0 c_0 a_0]) (ne_0 : n_0 = List.length a_0) (f_4 : ∀ h' m', Sub m0 m' → Sub m' h' → ∀ (y0 : T_part_Step) (cs0 : List Value) (_ : T_part_Step.E m' y0 cs0) (y1 : T_part_Step) (cs1 : List Value) (_ : T_part_Step.E m' y1 cs1) (r : Int), p_4 y0 y1 = some r → CallF Try.prog fv_4 [.agg cs0.toArray, .agg cs1.toArray] h' (fun v h'' => v = .int .i64 r ∧ Ext h' h'')) {r : Int × Bool × (List T_part_Step)} (e : slices_partitionCmpFunc_172.l0 a_0 x_1 p_4 x_12 x_13 = some r) : f172.l0 (slices_partitionCmpFunc_172.post W A_0 n_0 c_0 h0 m0 r) A_0 n_0 c_0 x_1 fv_4 x_12 x_13 h := slices_partitionCmpFunc_172.l0_k.all (p := .l0 a_0 x_1 p_4 x_12 x_13) e W h0 m0 h m A_0 n_0 c_0 fv_4 O ne_0 f_4
noncomputable def slices_partitionCmpFunc_172 (a_0 : List T_part_Step) (x_1 : Int) (x_2 : Int) (x_3 : Int) (p_4 : T_part_Step → T_part_Step → Option Int) : Option (Int × Bool × (List T_part_Step)) :=
  Option.bind (gi a_0 x_3) fun y1 => Option.bind (gi a_0 x_1) fun y8 => Option.bind (gi a_0 x_1) fun y15 => Option.bind (some (List.set a_0 (Int.toNat x_1) y1)) fun l24 => Option.bind (gi l24 x_3) fun y26 => Option.bind (some (List.set l24 (Int.toNat x_3) y8)) fun l35 => (slices_partitionCmpFunc_172.l0 l35 x_1 p_4 (IntKind.wrap .i64 (x_1 + (1 : Int))) (IntKind.wrap .i64 (x_2 - (1 : Int))))
set_option maxRecDepth 100000 in
theorem slices_partitionCmpFunc_172.walk {W : Nat → Prop} {h m : Heap} {A_0 : Option Addr} {n_0 c_0 : Nat} {fv_4 : Value} {a_0 : List T_part_Step} {x_1 : Int} {x_2 : Int} {x_3 : Int} {p_4 : T_part_Step → T_part_Step → Option Int} (O : Hold W h m h m [rR (aE T_part_Step.T) A_0 c_0 a_0]) (ne_0 : n_0 = List.length a_0) (f_4 : ∀ h' m', Sub m m' → Sub m' h' → ∀ (y0 : T_part_Step) (cs0 : List Value) (_ : T_part_Step.E m' y0 cs0) (y1 : T_part_Step) (cs1 : List Value) (_ : T_part_Step.E m' y1 cs1) (r : Int), p_4 y0 y1 = some r → CallF Try.prog fv_4 [.agg cs0.toArray, .agg cs1.toArray] h' (fun v h'' => v = .int .i64 r ∧ Ext h' h'')) {r : Int × Bool × (List T_part_Step)} (e : slices_partitionCmpFunc_172 a_0 x_1 x_2 x_3 p_4 = some r) : Run Try.prog 172 #[Value.slice A_0 n_0 c_0, Value.int .i64 x_1, Value.int .i64 x_2, Value.int .i64 x_3, fv_4] h (slices_partitionCmpFunc_172.post W A_0 n_0 c_0 h m r) := by
  unfold slices_partitionCmpFunc_172 at e
  subst ne_0
  refine f172.run ?_
  unfold f172.runT
  obtain ⟨y1, g2, e⟩ := bind_e e
  refine (O.os 0 rfl).addr rfl g2 fun a3 cs4 ha5 hc6 he7 => ?_
  obtain ⟨y8, g9, e⟩ := bind_e e
  refine (O.os 0 rfl).addr rfl g9 fun a10 cs11 ha12 hc13 he14 => ?_
  refine ⟨_, ldAn (Sub.refl _) hc6 rfl, ?_⟩
  refine ⟨_, ldAn (Sub.refl _) hc13 rfl, ?_⟩
  obtain ⟨y15, g16, e⟩ := bind_e e
  refine (O.os 0 rfl).addr rfl g16 fun a17 cs18 ha19 hc20 he21 => ?_
  obtain ⟨l24, g25, e⟩ := bind_e e
  replace g25 := Option.some.inj g25
  refine ⟨_, rfl, (T_part_Step.T.len _ _ _ he7), ?_⟩
  refine O.elstA 0 rfl g16 ha19 hc20 (y' := y1) he7 (T_part_Step.T.flat _ _ _ he7) g25 fun h22 O23 => ?_
  obtain ⟨y26, g27, e⟩ := bind_e e
  refine (O23.os 0 rfl).addr (lset' g25) g27 fun a28 cs29 ha30 hc31 he32 => ?_
  obtain ⟨l35, g36, e⟩ := bind_e e
  replace g36 := Option.some.inj g36
  refine ⟨_, rfl, (T_part_Step.T.len _ _ _ he14), ?_⟩
  refine O23.elstA 0 rfl g27 ha30 hc31 (y' := y8) he14 (T_part_Step.T.flat _ _ _ he14) g36 fun h33 O34 => ?_
  have O37 := O34.nm
  exact slices_partitionCmpFunc_172.l0.walk (O37.pick [0]).nm ((lset' g25).trans (lset' g36)) f_4 e
def slices_pdqsortCmpFunc_136.post (W : Nat → Prop) (Asl0 : Option Addr) (nsl0 csl0 : Nat) (h0 m0 : Heap) (r : (List T_part_Step)) (v : Value) (h : Heap) : Prop := ∃ m , Hold W h0 m0 h m [rR (aE T_part_Step.T) Asl0 csl0 r] ∧ v = .tuple #[] ∧ nsl0 = List.length r
inductive slices_pdqsortCmpFunc_136_k.Pt where
  | f (a_0 : List T_part_Step) (x_1 : Int) (x_2 : Int) (x_3 : Int) (p_4 : T_part_Step → T_part_Step → Option Int)
  | l0 (a_0 : List T_part_Step) (x_1 : Int) (x_2 : Int) (x_3 : Int) (p_4 : T_part_Step → T_part_Step → Option Int) (b_10 : Bool) (b_11 : Bool)
  | j0 (a_0 : List T_part_Step) (x_1 : Int) (x_2 : Int) (x_3 : Int) (p_4 : T_part_Step → T_part_Step → Option Int) (b_10 : Bool) (b_11 : Bool) (x_12 : Int)
  | j1 (a_0 : List T_part_Step) (x_1 : Int) (x_2 : Int) (x_3 : Int) (p_4 : T_part_Step → T_part_Step → Option Int) (b_10 : Bool) (b_11 : Bool) (x_12 : Int) (x_13 : Int) (x_14 : Int)
  | j3 (a_0 : List T_part_Step) (x_1 : Int) (x_2 : Int) (x_3 : Int) (p_4 : T_part_Step → T_part_Step → Option Int) (b_10 : Bool) (b_11 : Bool) (x_12 : Int) (x_13 : Int) (b_75 : Bool)
  | j2 (a_0 : List T_part_Step) (x_1 : Int) (x_2 : Int) (x_3 : Int) (p_4 : T_part_Step → T_part_Step → Option Int) (b_10 : Bool) (b_11 : Bool) (x_12 : Int) (x_13 : Int)
  | j5 (a_0 : List T_part_Step) (x_1 : Int) (x_2 : Int) (x_3 : Int) (p_4 : T_part_Step → T_part_Step → Option Int) (b_10 : Bool) (b_11 : Bool) (x_12 : Int) (x_13 : Int) (b_97 : Bool)
  | j4 (a_0 : List T_part_Step) (x_1 : Int) (x_2 : Int) (x_3 : Int) (p_4 : T_part_Step → T_part_Step → Option Int) (x_12 : Int) (x_13 : Int)
noncomputable def slices_pdqsortCmpFunc_136_k.body (go : (p : slices_pdqsortCmpFunc_136_k.Pt) → Option ((List T_part_Step))) : (p : slices_pdqsortCmpFunc_136_k.Pt) → Option ((List T_part_Step))
  | .f a_0 x_1 x_2 x_3 p_4 => (go (.l0 a_0 x_1 x_2 x_3 p_4 true true))
  | .l0 a_0 x_1 x_2 x_3 p_4 b_10 b_11 => if (IntKind.wrap .i64 (x_2 - x_1)) ≤ (12 : Int) then (Option.bind (slices_insertionSortCmpFunc_165 a_0 x_1 x_2 p_4) fun y1 => some (y1)) else (if x_3 = (0 : Int) then (Option.bind (slices_heapSortCmpFunc_166 a_0 x_1 x_2 p_4) fun y13 => some (y13)) else (if b_10 = true then ((go (.j0 a_0 x_1 x_2 x_3 p_4 b_10 b_11 (IntKind.wrap .i64 (x_2 - x_1))))) else (Option.bind (slices_breakPatternsCmpFunc_167 a_0 x_1 x_2 p_4) fun y25 => (go (.j0 y25 x_1 x_2 (IntKind.wrap .i64 (x_3 - (1 : Int))) p_4 b_10 b_11 (IntKind.wrap .i64 (x_2 - x_1)))))))
  | .j0 a_0 x_1 x_2 x_3 p_4 b_10 b_11 x_12 => Option.bind (slices_choosePivotCmpFunc_168 a_0 x_1 x_2 p_4) fun y1 => if y1.2 = (2 : Int) then (Option.bind (slices_reverseRangeCmpFunc_169 a_0 x_1 x_2 p_4) fun y15 => (go (.j1 y15 x_1 x_2 x_3 p_4 b_10 b_11 x_12 (IntKind.wrap .i64 ((IntKind.wrap .i64 (x_2 - (1 : Int))) - (IntKind.wrap .i64 (y1.1 - x_1)))) (1 : Int)))) else ((go (.j1 a_0 x_1 x_2 x_3 p_4 b_10 b_11 x_12 y1.1 y1.2)))
  | .j1 a_0 x_1 x_2 x_3 p_4 b_10 b_11 x_12 x_13 x_14 => if b_10 = true then (if b_11 = true then ((go (.j3 a_0 x_1 x_2 x_3 p_4 b_10 b_11 x_12 x_13 (x_14 == (1 : Int))))) else ((go (.j3 a_0 x_1 x_2 x_3 p_4 b_10 b_11 x_12 x_13 false)))) else ((go (.j3 a_0 x_1 x_2 x_3 p_4 b_10 b_11 x_12 x_13 false)))
  | .j3 a_0 x_1 x_2 x_3 p_4 b_10 b_11 x_12 x_13 b_75 => if b_75 = true then (Option.bind (slices_partialInsertionSortCmpFunc_170 a_0 x_1 x_2 p_4) fun y1 => if y1.1 = true then (some (y1.2)) else ((go (.j2 y1.2 x_1 x_2 x_3 p_4 b_10 b_11 x_12 x_13)))) else ((go (.j2 a_0 x_1 x_2 x_3 p_4 b_10 b_11 x_12 x_13)))
  | .j2 a_0 x_1 x_2 x_3 p_4 b_10 b_11 x_12 x_13 => if x_1 > (0 : Int) then (Option.bind (gi a_0 (IntKind.wrap .i64 (x_1 - (1 : Int)))) fun y1 => Option.bind (gi a_0 x_13) fun y8 => Option.bind (p_4 y1 y8) fun y15 => (go (.j5 a_0 x_1 x_2 x_3 p_4 b_10 b_11 x_12 x_13 (!(decide (y15 < (0 : Int))))))) else ((go (.j5 a_0 x_1 x_2 x_3 p_4 b_10 b_11 x_12 x_13 false)))
  | .j5 a_0 x_1 x_2 x_3 p_4 b_10 b_11 x_12 x_13 b_97 => if b_97 = true then (Option.bind (slices_partitionEqualCmpFunc_171 a_0 x_1 x_2 x_13 p_4) fun y1 => (go (.l0 y1.2 y1.1 x_2 x_3 p_4 b_10 b_11))) else ((go (.j4 a_0 x_1 x_2 x_3 p_4 x_12 x_13)))
  | .j4 a_0 x_1 x_2 x_3 p_4 x_12 x_13 => Option.bind (slices_partitionCmpFunc_172 a_0 x_1 x_2 x_13 p_4) fun y1 => if (IntKind.wrap .i64 (y1.1 - x_1)) < (IntKind.wrap .i64 (x_2 - y1.1)) then (Option.bind ((go (.f y1.2.2 x_1 y1.1 x_3 p_4))) fun y13 => (go (.l0 y13 (IntKind.wrap .i64 (y1.1 + (1 : Int))) x_2 x_3 p_4 (decide ((IntKind.wrap .i64 (y1.1 - x_1)) ≥ (IntKind.wrap .i64 (Int.tdiv x_12 (8 : Int))))) y1.2.1))) else (Option.bind ((go (.f y1.2.2 (IntKind.wrap .i64 (y1.1 + (1 : Int))) x_2 x_3 p_4))) fun y25 => (go (.l0 y25 x_1 y1.1 x_3 p_4 (decide ((IntKind.wrap .i64 (x_2 - y1.1)) ≥ (IntKind.wrap .i64 (Int.tdiv x_12 (8 : Int))))) y1.2.1)))
theorem slices_pdqsortCmpFunc_136_k.mono : MonoF (β := fun _ => ((List T_part_Step))) slices_pdqsortCmpFunc_136_k.body := fun f g hfg p => match p with
  | .f a_0 x_1 x_2 x_3 p_4 => (hfg _)
  | .l0 a_0 x_1 x_2 x_3 p_4 b_10 b_11 => LeO.ite (LeO.bind (LeO.refl _) fun y1 => LeO.refl _) (LeO.ite (LeO.bind (LeO.refl _) fun y13 => LeO.refl _) (LeO.ite ((hfg _)) (LeO.bind (LeO.refl _) fun y25 => (hfg _))))
  | .j0 a_0 x_1 x_2 x_3 p_4 b_10 b_11 x_12 => LeO.bind (LeO.refl _) fun y1 => LeO.ite (LeO.bind (LeO.refl _) fun y15 => (hfg _)) ((hfg _))
  | .j1 a_0 x_1 x_2 x_3 p_4 b_10 b_11 x_12 x_13 x_14 => LeO.ite (LeO.ite ((hfg _)) ((hfg _))) ((hfg _))
  | .j3 a_0 x_1 x_2 x_3 p_4 b_10 b_11 x_12 x_13 b_75 => LeO.ite (LeO.bind (LeO.refl _) fun y1 => LeO.ite (LeO.refl _) ((hfg _))) ((hfg _))
  | .j2 a_0 x_1 x_2 x_3 p_4 b_10 b_11 x_12 x_13 => LeO.ite (LeO.bind (LeO.refl _) fun y1 => LeO.bind (LeO.refl _) fun y8 => LeO.bind (LeO.refl _) fun y15 => (hfg _)) ((hfg _))
  | .j5 a_0 x_1 x_2 x_3 p_4 b_10 b_11 x_12 x_13 b_97 => LeO.ite (LeO.bind (LeO.refl _) fun y1 => (hfg _)) ((hfg _))
  | .j4 a_0 x_1 x_2 x_3 p_4 x_12 x_13 => LeO.bind (LeO.refl _) fun y1 => LeO.ite (LeO.bind ((hfg _)) fun y13 => (hfg _)) (LeO.bind ((hfg _)) fun y25 => (hfg _))
noncomputable def slices_pdqsortCmpFunc_136_k.go (p : slices_pdqsortCmpFunc_136_k.Pt) : Option ((List T_part_Step)) := fixF (β := fun _ => ((List T_part_Step))) slices_pdqsortCmpFunc_136_k.body p
noncomputable def slices_pdqsortCmpFunc_136 (a_0 : List T_part_Step) (x_1 : Int) (x_2 : Int) (x_3 : Int) (p_4 : T_part_Step → T_part_Step → Option Int) : Option ((List T_part_Step)) := slices_pdqsortCmpFunc_136_k.go (.f a_0 x_1 x_2 x_3 p_4)
noncomputable def slices_pdqsortCmpFunc_136.l0 (a_0 : List T_part_Step) (x_1 : Int) (x_2 : Int) (x_3 : Int) (p_4 : T_part_Step → T_part_Step → Option Int) (b_10 : Bool) (b_11 : Bool) : Option ((List T_part_Step)) := slices_pdqsortCmpFunc_136_k.go (.l0 a_0 x_1 x_2 x_3 p_4 b_10 b_11)
noncomputable def slices_pdqsortCmpFunc_136.j0 (a_0 : List T_part_Step) (x_1 : Int) (x_2 : Int) (x_3 : Int) (p_4 : T_part_Step → T_part_Step → Option Int) (b_10 : Bool) (b_11 : Bool) (x_12 : Int) : Option ((List T_part_Step)) := slices_pdqsortCmpFunc_136_k.go (.j0 a_0 x_1 x_2 x_3 p_4 b_10 b_11 x_12)
theorem slices_pdqsortCmpFunc_136_eq (a_0 : List T_part_Step) (x_1 : Int) (x_2 : Int) (x_3 : Int) (p_4 : T_part_Step → T_part_Step → Option Int) : slices_pdqsortCmpFunc_136 a_0 x_1 x_2 x_3 p_4 = (slices_pdqsortCmpFunc_136.l0 a_0 x_1 x_2 x_3 p_4 true true) := fixF_eq slices_pdqsortCmpFunc_136_k.mono _
theorem slices_pdqsortCmpFunc_136.l0_eq (a_0 : List T_part_Step) (x_1 : Int) (x_2 : Int) (x_3 : Int) (p_4 : T_part_Step → T_part_Step → Option Int) (b_10 : Bool) (b_11 : Bool) : slices_pdqsortCmpFunc_136.l0 a_0 x_1 x_2 x_3 p_4 b_10 b_11 = if (IntKind.wrap .i64 (x_2 - x_1)) ≤ (12 : Int) then (Option.bind (slices_insertionSortCmpFunc_165 a_0 x_1 x_2 p_4) fun y1 => some (y1)) else (if x_3 = (0 : Int) then (Option.bind (slices_heapSortCmpFunc_166 a_0 x_1 x_2 p_4) fun y13 => some (y13)) else (if b_10 = true then ((slices_pdqsortCmpFunc_136.j0 a_0 x_1 x_2 x_3 p_4 b_10 b_11 (IntKind.wrap .i64 (x_2 - x_1)))) else (Option.bind (slices_breakPatternsCmpFunc_167 a_0 x_1 x_2 p_4) fun y25 => (slices_pdqsortCmpFunc_136.j0 y25 x_1 x_2 (IntKind.wrap .i64 (x_3 - (1 : Int))) p_4 b_10 b_11 (IntKind.wrap .i64 (x_2 - x_1)))))) := fixF_eq slices_pdqsortCmpFunc_136_k.mono _
def slices_pdqsortCmpFunc_136_k.I : (p : slices_pdqsortCmpFunc_136_k.Pt) → ((List T_part_Step)) → Prop
  | .f a_0 x_1 x_2 x_3 p_4, r => ∀ (W : Nat → Prop) (h m : Heap) (A_0 : Option Addr) (n_0 c_0 : Nat) (fv_4 : Value) (O : Hold W h m h m [rR (aE T_part_Step.T) A_0 c_0 a_0]) (ne_0 : n_0 = List.length a_0) (f_4 : ∀ h' m', Sub m m' → Sub m' h' → ∀ (y0 : T_part_Step) (cs0 : List Value) (_ : T_part_Step.E m' y0 cs0) (y1 : T_part_Step) (cs1 : List Value) (_ : T_part_Step.E m' y1 cs1) (r : Int), p_4 y0 y1 = some r → CallF Try.prog fv_4 [.agg cs0.toArray, .agg cs1.toArray] h' (fun v h'' => v = .int .i64 r ∧ Ext h' h'')), Run Try.prog 136 #[Value.slice A_0 n_0 c_0, Value.int .i64 x_1, Value.int .i64 x_2, Value.int .i64 x_3, fv_4] h (slices_pdqsortCmpFunc_136.post W A_0 n_0 c_0 h m r)
  | .l0 a_0 x_1 x_2 x_3 p_4 b_10 b_11, r => ∀ (W : Nat → Prop) (h0 m0 h m : Heap) (A_0 : Option Addr) (n_0 c_0 : Nat) (fv_4 : Value) (O : Hold W h0 m0 h m [rR (aE T_part_Step.T) A_0 c_0 a_0]) (ne_0 : n_0 = List.length a_0) (f_4 : ∀ h' m', Sub m0 m' → Sub m' h' → ∀ (y0 : T_part_Step) (cs0 : List Value) (_ : T_part_Step.E m' y0 cs0) (y1 : T_part_Step) (cs1 : List Value) (_ : T_part_Step.E m' y1 cs1) (r : Int), p_4 y0 y1 = some r → CallF Try.prog fv_4 [.agg cs0.toArray, .agg cs1.toArray] h' (fun v h'' => v = .int .i64 r ∧ Ext h' h'')), f136.l0 (slices_pdqsortCmpFunc_136.post W A_0 n_0 c_0 h0 m0 r) A_0 n_0 c_0 x_1 x_2 x_3 fv_4 b_10 b_11 h
  | .j0 a_0 x_1 x_2 x_3 p_4 b_10 b_11 x_12, r => ∀ (W : Nat → Prop) (h0 m0 h m : Heap) (A_0 : Option Addr) (n_0 c_0 : Nat) (fv_4 : Value) (O : Hold W h0 m0 h m [rR (aE T_part_Step.T) A_0 c_0 a_0]) (ne_0 : n_0 = List.length a_0) (f_4 : ∀ h' m', Sub m0 m' → Sub m' h' → ∀ (y0 : T_part_Step) (cs0 : List Value) (_ : T_part_Step.E m' y0 cs0) (y1 : T_part_Step) (cs1 : List Value) (_ : T_part_Step.E m' y1 cs1) (r : Int), p_4 y0 y1 = some r → CallF Try.prog fv_4 [.agg cs0.toArray, .agg cs1.toArray] h' (fun v h'' => v = .int .i64 r ∧ Ext h' h'')), f136.j0 (slices_pdqsortCmpFunc_136.post W A_0 n_0 c_0 h0 m0 r) A_0 n_0 c_0 x_1 x_2 x_3 fv_4 b_10 b_11 x_12 h
  | .j1 a_0 x_1 x_2 x_3 p_4 b_10 b_11 x_12 x_13 x_14, r => ∀ (W : Nat → Prop) (h0 m0 h m : Heap) (A_0 : Option Addr) (n_0 c_0 : Nat) (fv_4 : Value) (O : Hold W h0 m0 h m [rR (aE T_part_Step.T) A_0 c_0 a_0]) (ne_0 : n_0 = List.length a_0) (f_4 : ∀ h' m', Sub m0 m' → Sub m' h' → ∀ (y0 : T_part_Step) (cs0 : List Value) (_ : T_part_Step.E m' y0 cs0) (y1 : T_part_Step) (cs1 : List Value) (_ : T_part_Step.E m' y1 cs1) (r : Int), p_4 y0 y1 = some r → CallF Try.prog fv_4 [.agg cs0.toArray, .agg cs1.toArray] h' (fun v h'' => v = .int .i64 r ∧ Ext h' h'')), f136.j1 (slices_pdqsortCmpFunc_136.post W A_0 n_0 c_0 h0 m0 r) A_0 n_0 c_0 x_1 x_2 x_3 fv_4 b_10 b_11 x_12 x_13 x_14 h
  | .j3 a_0 x_1 x_2 x_3 p_4 b_10 b_11 x_12 x_13 b_75, r => ∀ (W : Nat → Prop) (h0 m0 h m : Heap) (A_0 : Option Addr) (n_0 c_0 : Nat) (fv_4 : Value) (O : Hold W h0 m0 h m [rR (aE T_part_Step.T) A_0 c_0 a_0]) (ne_0 : n_0 = List.length a_0) (f_4 : ∀ h' m', Sub m0 m' → Sub m' h' → ∀ (y0 : T_part_Step) (cs0 : List Value) (_ : T_part_Step.E m' y0 cs0) (y1 : T_part_Step) (cs1 : List Value) (_ : T_part_Step.E m' y1 cs1) (r : Int), p_4 y0 y1 = some r → CallF Try.prog fv_4 [.agg cs0.toArray, .agg cs1.toArray] h' (fun v h'' => v = .int .i64 r ∧ Ext h' h'')), f136.j3 (slices_pdqsortCmpFunc_136.post W A_0 n_0 c_0 h0 m0 r) A_0 n_0 c_0 x_1 x_2 x_3 fv_4 b_10 b_11 x_12 x_13 b_75 h
  | .j2 a_0 x_1 x_2 x_3 p_4 b_10 b_11 x_12 x_13, r => ∀ (W : Nat → Prop) (h0 m0 h m : Heap) (A_0 : Option Addr) (n_0 c_0 : Nat) (fv_4 : Value) (O : Hold W h0 m0 h m [rR (aE T_part_Step.T) A_0 c_0 a_0]) (ne_0 : n_0 = List.length a_0) (f_4 : ∀ h' m', Sub m0 m' → Sub m' h' → ∀ (y0 : T_part_Step) (cs0 : List Value) (_ : T_part_Step.E m' y0 cs0) (y1 : T_part_Step) (cs1 : List Value) (_ : T_part_Step.E m' y1 cs1) (r : Int), p_4 y0 y1 = some r → CallF Try.prog fv_4 [.agg cs0.toArray, .agg cs1.toArray] h' (fun v h'' => v = .int .i64 r ∧ Ext h' h'')), f136.j2 (slices_pdqsortCmpFunc_136.post W A_0 n_0 c_0 h0 m0 r) A_0 n_0 c_0 x_1 x_2 x_3 fv_4 b_10 b_11 x_12 x_13 h
  | .j5 a_0 x_1 x_2 x_3 p_4 b_10 b_11 x_12 x_13 b_97, r => ∀ (W : Nat → Prop) (h0 m0 h m : Heap) (A_0 : Option Addr) (n_0 c_0 : Nat) (fv_4 : Value) (O : Hold W h0 m0 h m [rR (aE T_part_Step.T) A_0 c_0 a_0]) (ne_0 : n_0 = List.length a_0) (f_4 : ∀ h' m', Sub m0 m' → Sub m' h' → ∀ (y0 : T_part_Step) (cs0 : List Value) (_ : T_part_Step.E m' y0 cs0) (y1 : T_part_Step) (cs1 : List Value) (_ : T_part_Step.E m' y1 cs1) (r : Int), p_4 y0 y1 = some r → CallF Try.prog fv_4 [.agg cs0.toArray, .agg cs1.toArray] h' (fun v h'' => v = .int .i64 r ∧ Ext h' h'')), f136.j5 (slices_pdqsortCmpFunc_136.post W A_0 n_0 c_0 h0 m0 r) A_0 n_0 c_0 x_1 x_2 x_3 fv_4 b_10 b_11 x_12 x_13 b_97 h
  | .j4 a_0 x_1 x_2 x_3 p_4 x_12 x_13, r => ∀ (W : Nat → Prop) (h0 m0 h m : Heap) (A_0 : Option Addr) (n_0 c_0 : Nat) (fv_4 : Value) (O : Hold W h0 m0 h m [rR (aE T_part_Step.T) A_0 c_0 a_0]) (ne_0 : n_0 = List.length a_0) (f_4 : ∀ h' m', Sub m0 m' → Sub m' h' → ∀ (y0 : T_part_Step) (cs0 : List Value) (_ : T_part_Step.E m' y0 cs0) (y1 : T_part_Step) (cs1 : List Value) (_ : T_part_Step.E m' y1 cs1) (r : Int), p_4 y0 y1 = some r → CallF Try.prog fv_4 [.agg cs0.toArray, .agg cs1.toArray] h' (fun v h'' => v = .int .i64 r ∧ Ext h' h'')), f136.j4 (slices_pdqsortCmpFunc_136.post W A_0 n_0 c_0 h0 m0 r) A_0 n_0 c_0 x_1 x_2 x_3 fv_4 x_12 x_13 h
set_option maxRecDepth 100000 in
theorem slices_pdqsortCmpFunc_136_k.step_f (go : (p : slices_pdqsortCmpFunc_136_k.Pt) → Option ((List T_part_Step))) (ih : ∀ p r, go p = some r → slices_pdqsortCmpFunc_136_k.I p r) (a_0 : List T_part_Step) (x_1 : Int) (x_2 : Int) (x_3 : Int) (p_4 : T_part_Step → T_part_Step → Option Int) (r : (List T_part_Step)) (e : slices_pdqsortCmpFunc_136_k.body go (.f a_0 x_1 x_2 x_3 p_4) = some r) : slices_pdqsortCmpFunc_136_k.I (.f a_0 x_1 x_2 x_3 p_4) r := by
  unfold slices_pdqsortCmpFunc_136_k.body at e
  intro W h m A_0 n_0 c_0 fv_4 O ne_0 f_4
  subst ne_0
  refine f136.run ?_
  unfold f136.runT
  exact (ih _ _ e) _ _ _ _ _ _ _ _ _ (O.pick [0]).nm rfl f_4
set_option maxRecDepth 100000 in
theorem slices_pdqsortCmpFunc_136_k.step_l0 (go : (p : slices_pdqsortCmpFunc_136_k.Pt) → Option ((List T_part_Step))) (ih : ∀ p r, go p = some r → slices_pdqsortCmpFunc_136_k.I p r) (a_0 : List T_part_Step) (x_1 : Int) (x_2 : Int) (x_3 : Int) (p_4 : T_part_Step → T_part_Step → Option Int) (b_10 : Bool) (b_11 : Bool) (r : (List T_part_Step)) (e : slices_pdqsortCmpFunc_136_k.body go (.l0 a_0 x_1 x_2 x_3 p_4 b_10 b_11) = some r) : slices_pdqsortCmpFunc_136_k.I (.l0 a_0 x_1 x_2 x_3 p_4 b_10 b_11) r := by
  unfold slices_pdqsortCmpFunc_136_k.body at e
  intro W h0 m0 h m A_0 n_0 c_0 fv_4 O ne_0 f_4
  subst ne_0
  refine f136.l0_in ?_
  unfold f136.l0T
  refine split_dec_e e (fun c39 e => ?_) (fun c39 e => ?_)
  · obtain ⟨y1, g2, e⟩ := bind_e e
    obtain ⟨W7, P8, B9, C10⟩ := O.callC [0]
    refine (slices_insertionSortCmpFunc_165.walk P8 rfl (fun h' m' u s => f_4 h' m' (O.up.trans u) s) g2).mono ?_
    rintro _ h3 ⟨m4, Q5, rfl, hl11⟩
    have O12 := Hold.nm (C10 Q5 (vfs_cons (rR_vf (aE_vf (fun _ _ _ _ h => T_part_Step.keep h))) vfs_nil))
    refine ⟨rfl, ?_⟩
    cases e
    exact ⟨_, O12.pick [1], rfl, hl11⟩
  · refine split_eq_e e (fun c38 e => ?_) (fun c38 e => ?_)
    · obtain ⟨y13, g14, e⟩ := bind_e e
      obtain ⟨W19, P20, B21, C22⟩ := O.callC [0]
      refine (slices_heapSortCmpFunc_166.walk P20 rfl (fun h' m' u s => f_4 h' m' (O.up.trans u) s) g14).mono ?_
      rintro _ h15 ⟨m16, Q17, rfl, hl23⟩
      have O24 := Hold.nm (C22 Q17 (vfs_cons (rR_vf (aE_vf (fun _ _ _ _ h => T_part_Step.keep h))) vfs_nil))
      refine ⟨rfl, ?_⟩
      cases e
      exact ⟨_, O24.pick [1], rfl, hl23⟩
    · refine split_not ?_
      refine split_any_e e (fun c37 e => ?_) (fun c37 e => ?_)
      · exact (ih _ _ e) _ _ _ _ _ _ _ _ _ (O.pick [0]).nm rfl f_4
      · obtain ⟨y25, g26, e⟩ := bind_e e
        obtain ⟨W31, P32, B33, C34⟩ := O.callC [0]
        refine (slices_breakPatternsCmpFunc_167.walk P32 rfl (fun h' m' u s => f_4 h' m' (O.up.trans u) s) g26).mono ?_
        rintro _ h27 ⟨m28, Q29, rfl, hl35⟩
        have O36 := Hold.nm (C34 Q29 (vfs_cons (rR_vf (aE_vf (fun _ _ _ _ h => T_part_Step.keep h))) vfs_nil))
        refine ⟨rfl, ?_⟩
        exact (ih _ _ e) _ _ _ _ _ _ _ _ _ (O36.pick [1]).nm hl35 f_4
set_option maxRecDepth 100000 in
theorem slices_pdqsortCmpFunc_136_k.step_j0 (go : (p : slices_pdqsortCmpFunc_136_k.Pt) → Option ((List T_part_Step))) (ih : ∀ p r, go p = some r → slices_pdqsortCmpFunc_136_k.I p r) (a_0 : List T_part_Step) (x_1 : Int) (x_2 : Int) (x_3 : Int) (p_4 : T_part_Step → T_part_Step → Option Int) (b_10 : Bool) (b_11 : Bool) (x_12 : Int) (r : (List T_part_Step)) (e : slices_pdqsortCmpFunc_136_k.body go (.j0 a_0 x_1 x_2 x_3 p_4 b_10 b_11 x_12) = some r) : slices_pdqsortCmpFunc_136_k.I (.j0 a_0 x_1 x_2 x_3 p_4 b_10 b_11 x_12) r := by
  unfold slices_pdqsortCmpFunc_136_k.body at e
  intro W h0 m0 h m A_0 n_0 c_0 fv_4 O ne_0 f_4
  subst ne_0
  refine f136.j0_in ?_
  unfold f136.j0T
  obtain ⟨y1, g2, e⟩ := bind_e e
  obtain ⟨m7, u8, s13, ⟨⟨r11, k12⟩, _⟩, B9, C10⟩ := O.lend0 [0]
  replace r11 : Rd 3 T_part_Step.E m7 A_0 a_0 := r11
  replace k12 : List.length a_0 ≤ c_0 := k12
  refine (slices_choosePivotCmpFunc_168.walk (Hold.start (W := No) s13) rfl k12 r11 (fun h' m' u s => f_4 h' m' ((O.up.trans u8).trans u) s) g2).mono ?_
  rintro _ h3 ⟨m4, Q5, rfl⟩
  have O14 := Hold.nm (C10 Q5 vfs_nil)
  refine ⟨_, _, rfl, ?_⟩
  refine split_eq_e e (fun c27 e => ?_) (fun c27 e => ?_)
  · obtain ⟨y15, g16, e⟩ := bind_e e
    obtain ⟨W21, P22, B23, C24⟩ := O14.callC [0]
    refine (slices_reverseRangeCmpFunc_169.walk P22 rfl (fun h' m' u s => f_4 h' m' (O.up.trans u) s) g16).mono ?_
    rintro _ h17 ⟨m18, Q19, rfl, hl25⟩
    have O26 := Hold.nm (C24 Q19 (vfs_cons (rR_vf (aE_vf (fun _ _ _ _ h => T_part_Step.keep h))) vfs_nil))
    refine ⟨rfl, ?_⟩
    exact (ih _ _ e) _ _ _ _ _ _ _ _ _ (O26.pick [1]).nm hl25 f_4
  · exact (ih _ _ e) _ _ _ _ _ _ _ _ _ (O14.pick [0]).nm rfl f_4
set_option maxRecDepth 100000 in
theorem slices_pdqsortCmpFunc_136_k.step_j1 (go : (p : slices_pdqsortCmpFunc_136_k.Pt) → Option ((List T_part_Step))) (ih : ∀ p r, go p = some r → slices_pdqsortCmpFunc_136_k.I p r) (a_0 : List T_part_Step) (x_1 : Int) (x_2 : Int) (x_3 : Int) (p_4 : T_part_Step → T_part_Step → Option Int) (b_10 : Bool) (b_11 : Bool) (x_12 : Int) (x_13 : Int) (x_14 : Int) (r : (List T_part_Step)) (e : slices_pdqsortCmpFunc_136_k.body go (.j1 a_0 x_1 x_2 x_3 p_4 b_10 b_11 x_12 x_13 x_14) = some r) : slices_pdqsortCmpFunc_136_k.I (.j1 a_0 x_1 x_2 x_3 p_4 b_10 b_11 x_12 x_13 x_14) r := by
  unfold slices_pdqsortCmpFunc_136_k.body at e
  intro W h0 m0 h m A_0 n_0 c_0 fv_4 O ne_0 f_4
  subst ne_0
  refine f136.j1_in ?_
  unfold f136.j1T
  refine split_any_e e (fun c2 e => ?_) (fun c2 e => ?_)
  · refine split_any_e e (fun c1 e => ?_) (fun c1 e => ?_)
    · exact (ih _ _ e) _ _ _ _ _ _ _ _ _ (O.pick [0]).nm rfl f_4
    · exact (ih _ _ e) _ _ _ _ _ _ _ _ _ (O.pick [0]).nm rfl f_4
  · exact (ih _ _ e) _ _ _ _ _ _ _ _ _ (O.pick [0]).nm rfl f_4
set_option maxRecDepth 100000 in
theorem slices_pdqsortCmpFunc_136_k.step_j3 (go : (p : slices_pdqsortCmpFunc_136_k.Pt) → Option ((List T_part_Step))) (ih : ∀ p r, go p = some r → slices_pdqsortCmpFunc_136_k.I p r) (a_0 : List T_part_Step) (x_1 : Int) (x_2 : Int) (x_3 : Int) (p_4 : T_part_Step → T_part_Step → Option Int) (b_10 : Bool) (b_11 : Bool) (x_12 : Int) (x_13 : Int) (b_75 : Bool) (r : (List T_part_Step)) (e : slices_pdqsortCmpFunc_136_k.body go (.j3 a_0 x_1 x_2 x_3 p_4 b_10 b_11 x_12 x_13 b_75) = some r) : slices_pdqsortCmpFunc_136_k.I (.j3 a_0 x_1 x_2 x_3 p_4 b_10 b_11 x_12 x_13 b_75) r := by
  unfold slices_pdqsortCmpFunc_136_k.body at e
  intro W h0 m0 h m A_0 n_0 c_0 fv_4 O ne_0 f_4
  subst ne_0
  refine f136.j3_in ?_
  unfold f136.j3T
  refine split_any_e e (fun c14 e => ?_) (fun c14 e => ?_)
  · obtain ⟨y1, g2, e⟩ := bind_e e
    obtain ⟨W7, P8, B9, C10⟩ := O.callC [0]
    refine (slices_partialInsertionSortCmpFunc_170.walk P8 rfl (fun h' m' u s => f_4 h' m' (O.up.trans u) s) g2).mono ?_
    rintro _ h3 ⟨m4, Q5, rfl, hl11⟩
    have O12 := Hold.nm (C10 Q5 (vfs_cons (rR_vf (aE_vf (fun _ _ _ _ h => T_part_Step.keep h))) vfs_nil))
    refine ⟨_, rfl, ?_⟩
    refine split_any_e e (fun c13 e => ?_) (fun c13 e => ?_)
    · cases e
      exact ⟨_, O12.pick [1], rfl, hl11⟩
    · exact (ih _ _ e) _ _ _ _ _ _ _ _ _ (O12.pick [1]).nm hl11 f_4
  · exact (ih _ _ e) _ _ _ _ _ _ _ _ _ (O.pick [0]).nm rfl f_4
set_option maxRecDepth 100000 in
theorem slices_pdqsortCmpFunc_136_k.step_j2 (go : (p : slices_pdqsortCmpFunc_136_k.Pt) → Option ((List T_part_Step))) (ih : ∀ p r, go p = some r → slices_pdqsortCmpFunc_136_k.I p r) (a_0 : List T_part_Step) (x_1 : Int) (x_2 : Int) (x_3 : Int) (p_4 : T_part_Step → T_part_Step → Option Int) (b_10 : Bool) (b_11 : Bool) (x_12 : Int) (x_13 : Int) (r : (List T_part_Step)) (e : slices_pdqsortCmpFunc_136_k.body go (.j2 a_0 x_1 x_2 x_3 p_4 b_10 b_11 x_12 x_13) = some r) : slices_pdqsortCmpFunc_136_k.I (.j2 a_0 x_1 x_2 x_3 p_4 b_10 b_11 x_12 x_13) r := by
  unfold slices_pdqsortCmpFunc_136_k.body at e
  intro W h0 m0 h m A_0 n_0 c_0 fv_4 O ne_0 f_4
  subst ne_0
  refine f136.j2_in ?_
  unfold f136.j2T
  refine split_dec_e e (fun c20 e => ?_) (fun c20 e => ?_)
  · obtain ⟨y1, g2, e⟩ := bind_e e
    refine (O.os 0 rfl).addr rfl g2 fun a3 cs4 ha5 hc6 he7 => ?_
    obtain ⟨y8, g9, e⟩ := bind_e e
    refine (O.os 0 rfl).addr rfl g9 fun a10 cs11 ha12 hc13 he14 => ?_
    refine ⟨_, ldAn (Sub.refl _) hc6 rfl, ?_⟩
    refine ⟨_, ldAn (Sub.refl _) hc13 rfl, ?_⟩
    obtain ⟨y15, g16, e⟩ := bind_e e
    refine CallF.mono (f_4 _ _ O.up O.s _ _ he7 _ _ he14 _ g16) ?_
    rintro _ h17 ⟨rfl, x18⟩
    have O19 := O.ext x18
    refine ⟨_, rfl, ?_⟩
    exact (ih _ _ e) _ _ _ _ _ _ _ _ _ (O19.pick [0]).nm rfl f_4
  · exact (ih _ _ e) _ _ _ _ _ _ _ _ _ (O.pick [0]).nm rfl f_4
set_option maxRecDepth 100000 in
theorem slices_pdqsortCmpFunc_136_k.step_j5 (go : (p : slices_pdqsortCmpFunc_136_k.Pt) → Option ((List T_part_Step))) (ih : ∀ p r, go p = some r → slices_pdqsortCmpFunc_136_k.I p r) (a_0 : List T_part_Step) (x_1 : Int) (x_2 : Int) (x_3 : Int) (p_4 : T_part_Step → T_part_Step → Option Int) (b_10 : Bool) (b_11 : Bool) (x_12 : Int) (x_13 : Int) (b_97 : Bool) (r : (List T_part_Step)) (e : slices_pdqsortCmpFunc_136_k.body go (.j5 a_0 x_1 x_2 x_3 p_4 b_10 b_11 x_12 x_13 b_97) = some r) : slices_pdqsortCmpFunc_136_k.I (.j5 a_0 x_1 x_2 x_3 p_4 b_10 b_11 x_12 x_13 b_97) r := by
  unfold slices_pdqsortCmpFunc_136_k.body at e
  intro W h0 m0 h m A_0 n_0 c_0 fv_4 O ne_0 f_4
  subst ne_0
  refine f136.j5_in ?_
  unfold f136.j5T
  refine split_any_e e (fun c13 e => ?_) (fun c13 e => ?_)
  · obtain ⟨y1, g2, e⟩ := bind_e e
    obtain ⟨W7, P8, B9, C10⟩ := O.callC [0]
    refine (slices_partitionEqualCmpFunc_171.walk P8 rfl (fun h' m' u s => f_4 h' m' (O.up.trans u) s) g2).mono ?_
    rintro _ h3 ⟨m4, Q5, rfl, hl11⟩
    have O12 := Hold.nm (C10 Q5 (vfs_cons (rR_vf (aE_vf (fun _ _ _ _ h => T_part_Step.keep h))) vfs_nil))
    refine ⟨_, rfl, ?_⟩
    exact (ih _ _ e) _ _ _ _ _ _ _ _ _ (O12.pick [1]).nm hl11 f_4
  · exact (ih _ _ e) _ _ _ _ _ _ _ _ _ (O.pick [0]).nm rfl f_4
set_option maxRecDepth 100000 in
theorem slices_pdqsortCmpFunc_136_k.step_j4 (go : (p : slices_pdqsortCmpFunc_136_k.Pt) → Option ((List T_part_Step))) (ih : ∀ p r, go p = some r → slices_pdqsortCmpFunc_136_k.I p r) (a_0 : List T_part_Step) (x_1 : Int) (x_2 : Int) (x_3 : Int) (p_4 : T_part_Step → T_part_Step → Option Int) (x_12 : Int) (x_13 : Int) (r : (List T_part_Step)) (e : slices_pdqsortCmpFunc_136_k.body go (.j4 a_0 x_1 x_2 x_3 p_4 x_12 x_13) = some r) : slices_pdqsortCmpFunc_136_k.I (.j4 a_0 x_1 x_2 x_3 p_4 x_12 x_13) r := by
  unfold slices_pdqsortCmpFunc_136_k.body at e
  intro W h0 m0 h m A_0 n_0 c_0 fv_4 O ne_0 f_4
  subst ne_0
  refine f136.j4_in ?_
  unfold f136.j4T
  obtain ⟨y1, g2, e⟩ := bind_e e
  obtain ⟨W7, P8, B9, C10⟩ := O.callC [0]
  refine (slices_partitionCmpFunc_172.walk P8 rfl (fun h' m' u s => f_4 h' m' (O.up.trans u) s) g2).mono ?_
  rintro _ h3 ⟨m4, Q5, rfl, hl11⟩
  have O12 := Hold.nm (C10 Q5 (vfs_cons (rR_vf (aE_vf (fun _ _ _ _ h => T_part_Step.keep h))) vfs_nil))
  refine ⟨_, _, rfl, ?_⟩
  refine ⟨by decide, ?_⟩
  refine split_dec_e e (fun c37 e => ?_) (fun c37 e => ?_)
  · obtain ⟨y13, g14, e⟩ := bind_e e
    obtain ⟨W19, P20, B21, C22⟩ := O12.callC [1]
    refine ((ih _ _ g14) _ _ _ _ _ _ _ P20 hl11 (fun h' m' u s => f_4 h' m' (O.up.trans u) s)).mono ?_
    rintro _ h15 ⟨m16, Q17, rfl, hl23⟩
    have O24 := Hold.nm (C22 Q17 (vfs_cons (rR_vf (aE_vf (fun _ _ _ _ h => T_part_Step.keep h))) vfs_nil))
    refine ⟨rfl, ?_⟩
    exact (ih _ _ e) _ _ _ _ _ _ _ _ _ (O24.pick [2]).nm hl23 f_4
  · obtain ⟨y25, g26, e⟩ := bind_e e
    obtain ⟨W31, P32, B33, C34⟩ := O12.callC [1]
    refine ((ih _ _ g26) _ _ _ _ _ _ _ P32 hl11 (fun h' m' u s => f_4 h' m' (O.up.trans u) s)).mono ?_
    rintro _ h27 ⟨m28, Q29, rfl, hl35⟩
    have O36 := Hold.nm (C34 Q29 (vfs_cons (rR_vf (aE_vf (fun _ _ _ _ h => T_part_Step.keep h))) vfs_nil))
    refine ⟨rfl, ?_⟩
    exact (ih _ _ e) _ _ _ _ _ _ _ _ _ (O36.pick [2]).nm hl35 f_4
theorem slices_pdqsortCmpFunc_136_k.all {p : slices_pdqsortCmpFunc_136_k.Pt} {r : ((List T_part_Step))} (e : slices_pdqsortCmpFunc_136_k.go p = some r) : slices_pdqsortCmpFunc_136_k.I p r := fixF_ind (β := fun _ => ((List T_part_Step))) slices_pdqsortCmpFunc_136_k.mono (I := slices_pdqsortCmpFunc_136_k.I) (fun go ih p r e => match p with
  | .f a_0 x_1 x_2 x_3 p_4 => slices_pdqsortCmpFunc_136_k.step_f go ih a_0 x_1 x_2 x_3 p_4 r e
  | .l0 a_0 x_1 x_2 x_3 p_4 b_10 b_11 => slices_pdqsortCmpFunc_136_k.step_l0 go ih a_0 x_1 x_2 x_3 p_4 b_10 b_11 r e
  | .j0 a_0 x_1 x_2 x_3 p_4 b_10 b_11 x_12 => slices_pdqsortCmpFunc_136_k.step_j0 go ih a_0 x_1 x_2 x_3 p_4 b_10 b_11 x_12 r e
  | .j1 a_0 x_1 x_2 x_3 p_4 b_10 b_11 x_12 x_13 x_14 => slices_pdqsortCmpFunc_136_k.step_j1 go ih a_0 x_1 x_2 x_3 p_4 b_10 b_11 x_12 x_13 x_14 r e
  | .j3 a_0 x_1 x_2 x_3 p_4 b_10 b_11 x_12 x_13 b_75 => slices_pdqsortCmpFunc_136_k.step_j3 go ih a_0 x_1 x_2 x_3 p_4 b_10 b_11 x_12 x_13 b_75 r e
  | .j2 a_0 x_1 x_2 x_3 p_4 b_10 b_11 x_12 x_13 => slices_pdqsortCmpFunc_136_k.step_j2 go ih a_0 x_1 x_2 x_3 p_4 b_10 b_11 x_12 x_13 r e
  | .j5 a_0 x_1 x_2 x_3 p_4 b_10 b_11 x_12 x_13 b_97 => slices_pdqsortCmpFunc_136_k.step_j5 go ih a_0 x_1 x_2 x_3 p_4 b_10 b_11 x_12 x_13 b_97 r e
  | .j4 a_0 x_1 x_2 x_3 p_4 x_12 x_13 => slices_pdqsortCmpFunc_136_k.step_j4 go ih a_0 x_1 x_2 x_3 p_4 x_12 x_13 r e
  ) e
theorem slices_pdqsortCmpFunc_136.walk {W : Nat → Prop} {h m : Heap} {A_0 : Option Addr} {n_0 c_0 : Nat} {fv_4 : Value} {a_0 : List T_part_Step} {x_1 : Int} {x_2 : Int} {x_3 : Int} {p_4 : T_part_Step → T_part_Step → Option Int} (O : Hold W h m h m [rR (aE T_part_Step.T) A_0 c_0 a_0]) (ne_0 : n_0 = List.length a_0) (f_4 : ∀ h' m', Sub m m' → Sub m' h' → ∀ (y0 : T_part_Step) (cs0 : List Value) (_ : T_part_Step.E m' y0 cs0) (y1 : T_part_Step) (cs1 : List Value) (_ : T_part_Step.E m' y1 cs1) (r : Int), p_4 y0 y1 = some r → CallF Try.prog fv_4 [.agg cs0.toArray, .agg cs1.toArray] h' (fun v h'' => v = .int .i64 r ∧ Ext h' h'')) {r : (List T_part_Step)} (e : slices_pdqsortCmpFunc_136 a_0 x_1 x_2 x_3 p_4 = some r) : Run Try.prog 136 #[Value.slice A_0 n_0 c_0, Value.int .i64 x_1, Value.int .i64 x_2, Value.int .i64 x_3, fv_4] h (slices_pdqsortCmpFunc_136.post W A_0 n_0 c_0 h m r) := slices_pdqsortCmpFunc_136_k.all (p := .f a_0 x_1 x_2 x_3 p_4) e W h m A_0 n_0 c_0 fv_4 O ne_0 f_4
def slices_SortFunc_92.post (W : Nat → Prop) (Asl0 : Option Addr) (nsl0 csl0 : Nat) (h0 m0 : Heap) (r : (List T_part_Step)) (v : Value) (h : Heap) : Prop := ∃ m , Hold W h0 m0 h m [rR (aE T_part_Step.T) Asl0 csl0 r] ∧ v = .tuple #[] ∧ nsl0 = List.length r
noncomputable def slices_SortFunc_92 (a_0 : List T_part_Step) (p_1 : T_part_Step → T_part_Step → Option Int) : Option ((List T_part_Step)) :=
  Option.bind (math_bits_Len (IntKind.wrap .u64 (((List.length a_0) : Nat) : Int))) fun y1 => Option.bind (slices_pdqsortCmpFunc_136 a_0 (0 : Int) (((List.length a_0) : Nat) : Int) y1 p_1) fun y8 => some (y8)
set_option maxRecDepth 100000 in
theorem slices_SortFunc_92.walk {W : Nat → Prop} {h m : Heap} {A_0 : Option Addr} {n_0 c_0 : Nat} {fv_1 : Value} {a_0 : List T_part_Step} {p_1 : T_part_Step → T_part_Step → Option Int} (O : Hold W h m h m [rR (aE T_part_Step.T) A_0 c_0 a_0]) (ne_0 : n_0 = List.length a_0) (f_1 : ∀ h' m', Sub m m' → Sub m' h' → ∀ (y0 : T_part_Step) (cs0 : List Value) (_ : T_part_Step.E m' y0 cs0) (y1 : T_part_Step) (cs1 : List Value) (_ : T_part_Step.E m' y1 cs1) (r : Int), p_1 y0 y1 = some r → CallF Try.prog fv_1 [.agg cs0.toArray, .agg cs1.toArray] h' (fun v h'' => v = .int .i64 r ∧ Ext h' h'')) {r : (List T_part_Step)} (e : slices_SortFunc_92 a_0 p_1 = some r) : Run Try.prog 92 #[Value.slice A_0 n_0 c_0, fv_1] h (slices_SortFunc_92.post W A_0 n_0 c_0 h m r) := by
  unfold slices_SortFunc_92 at e
  subst ne_0
  refine f92.run ?_
  unfold f92.runT
  obtain ⟨y1, g2, e⟩ := bind_e e
  refine (math_bits_Len.walk (Hold.start (W := No) O.s)  g2).mono ?_
  rintro _ h3 ⟨m4, Q5, rfl⟩
  have O7 := Hold.nm (O.retC Q5 vfs_nil)
  refine ⟨_, rfl, ?_⟩
  obtain ⟨y8, g9, e⟩ := bind_e e
  obtain ⟨W14, P15, B16, C17⟩ := O7.callC [0]
  refine (slices_pdqsortCmpFunc_136.walk P15 rfl f_1 g9).mono ?_
  rintro _ h10 ⟨m11, Q12, rfl, hl18⟩
  have O19 := Hold.nm (C17 Q12 (vfs_cons (rR_vf (aE_vf (fun _ _ _ _ h => T_part_Step.keep h))) vfs_nil))
  refine ⟨rfl, ?_⟩
  cases e
  exact ⟨_, O19.pick [1], rfl, hl18⟩
def part_Rounds_1.post (W : Nat → Prop) (h0 m0 : Heap) (r : Int) (v : Value) (h : Heap) : Prop := ∃ m , Hold W h0 m0 h m [] ∧ v = .int .i64 r
noncomputable def part_Rounds_1 (y_0 : T_part_Step) (y_1 : T_part_Step) : Option (Int) :=
  some ((IntKind.wrap .i64 (y_0.Who - y_1.Who)))
set_option maxRecDepth 100000 in
theorem part_Rounds_1.walk {W : Nat → Prop} {h m : Heap} {cs_0 : List Value} {cs_1 : List Value} {y_0 : T_part_Step} {y_1 : T_part_Step} (O : Hold W h m h m []) (e_0 : T_part_Step.E m y_0 cs_0) (e_1 : T_part_Step.E m y_1 cs_1) {r : Int} (e : part_Rounds_1 y_0 y_1 = some r) : Run Try.prog 93 #[Value.agg cs_0.toArray, Value.agg cs_1.toArray] h (part_Rounds_1.post W h m r) := by
  unfold part_Rounds_1 at e
  refine f93.run ?_
  unfold f93.runT
  refine O.new fun h1 x2 O3 => ?_
  refine O3.new fun h5 x6 O7 => ?_
  refine ⟨_, ld0 (Sub.refl _) (O7.all 0 rfl) (T_part_Step.g0 e_0), _, rfl, ?_⟩
  refine ⟨_, ld0 (Sub.refl _) (O7.all 1 rfl) (T_part_Step.g0 e_1), _, rfl, ?_⟩
  have O9 := O7.nm
  cases e
  exact ⟨_, O9.pick [], rfl⟩
def part_Rounds.post (W : Nat → Prop) (h0 m0 : Heap) (r : (List (List T_part_Step)) × Int) (v : Value) (h : Heap) : Prop := ∃ m A0 n0 c0, Hold W h0 m0 h m [rR (aRow (aE T_part_Step.T)) A0 c0 r.1] ∧ v = .tuple #[.slice A0 n0 c0, .int .i64 r.2] ∧ n0 = List.length r.1
inductive part_Rounds.l1_k.Pt where
  | l1 (a_6 : List (List T_part_Step)) (x_79 : Int) (x_80 : Int)
noncomputable def part_Rounds.l1_k.body (go : (p : part_Rounds.l1_k.Pt) → Option ((List (List T_part_Step)) × Int)) : (p : part_Rounds.l1_k.Pt) → Option ((List (List T_part_Step)) × Int)
  | .l1 a_6 x_79 x_80 => if x_80 < x_79 then (Option.bind (gi a_6 x_80) fun y3 => Option.bind (slices_SortFunc_92 y3 (fun z25 z26 => part_Rounds_1 z25 z26)) fun y14 => (go (.l1 (List.set a_6 (Int.toNat x_80) y14) x_79 (IntKind.wrap .i64 (x_80 + (1 : Int)))))) else (some (a_6, (0 : Int)))
attribute [local irreducible] part_Rounds_1 in
theorem part_Rounds.l1_k.mono : MonoF (β := fun _ => ((List (List T_part_Step)) × Int)) part_Rounds.l1_k.body := fun f g hfg p => match p with
  | .l1 a_6 x_79 x_80 => LeO.ite (LeO.bind (LeO.refl _) fun y3 => LeO.bind (LeO.refl _) fun y14 => (hfg _)) (LeO.refl _)
noncomputable def part_Rounds.l1_k.go (p : part_Rounds.l1_k.Pt) : Option ((List (List T_part_Step)) × Int) := fixF (β := fun _ => ((List (List T_part_Step)) × Int)) part_Rounds.l1_k.body p
noncomputable def part_Rounds.l1 (a_6 : List (List T_part_Step)) (x_79 : Int) (x_80 : Int) : Option ((List (List T_part_Step)) × Int) := part_Rounds.l1_k.go (.l1 a_6 x_79 x_80)
theorem part_Rounds.l1_eq (a_6 : List (List T_part_Step)) (x_79 : Int) (x_80 : Int) : part_Rounds.l1 a_6 x_79 x_80 = if x_80 < x_79 then (Option.bind (gi a_6 x_80) fun y3 => Option.bind (slices_SortFunc_92 y3 (fun z25 z26 => part_Rounds_1 z25 z26)) fun y14 => (part_Rounds.l1 (List.set a_6 (Int.toNat x_80) y14) x_79 (IntKind.wrap .i64 (x_80 + (1 : Int))))) else (some (a_6, (0 : Int))) := fixF_eq part_Rounds.l1_k.mono _
def part_Rounds.l1_k.I : (p : part_Rounds.l1_k.Pt) → ((List (List T_part_Step)) × Int) → Prop
  | .l1 a_6 x_79 x_80, r => ∀ (W : Nat → Prop) (h0 m0 h m : Heap) (A_6 : Option Addr) (n_6 c_6 : Nat) (O : Hold W h0 m0 h m [rR (aRow (aE T_part_Step.T)) A_6 c_6 a_6]) (ne_6 : n_6 = List.length a_6), f35.l1 (part_Rounds.post W h0 m0 r) A_6 n_6 c_6 A_6 n_6 c_6 x_79 x_80 h
set_option maxRecDepth 100000 in
theorem part_Rounds.l1_k.step_l1 (go : (p : part_Rounds.l1_k.Pt) → Option ((List (List T_part_Step)) × Int)) (ih : ∀ p r, go p = some r → part_Rounds.l1_k.I p r) (a_6 : List (List T_part_Step)) (x_79 : Int) (x_80 : Int) (r : (List (List T_part_Step)) × Int) (e : part_Rounds.l1_k.body go (.l1 a_6 x_79 x_80) = some r) : part_Rounds.l1_k.I (.l1 a_6 x_79 x_80) r := by
  unfold part_Rounds.l1_k.body at e
  intro W h0 m0 h m A_6 n_6 c_6 O ne_6
  subst ne_6
  refine f35.l1_in ?_
  unfold f35.l1T
  refine split_dec_e e (fun c41 e => ?_) (fun c41 e => ?_)
  · obtain ⟨y3, g4, e⟩ := bind_e e
    refine O.adr 0 rfl rfl g4 fun a1 ha2 => ?_
    obtain ⟨hs5, O6⟩ := O.openX 0 rfl g4
    obtain ⟨A7, c8, hx9, hc10, k11⟩ := O6.hdX 0 rfl ha2 g4
    refine ⟨_, ld0 (Sub.refl _) hc10 rfl, _, _, _, rfl, ?_⟩
    obtain ⟨y14, g15, e⟩ := bind_e e
    have O13 := O6.takeX 0 rfl hx9 g4
    have O20 := O13.nm
    obtain ⟨W21, P22, B23, C24⟩ := O20.callC [1]
    refine (slices_SortFunc_92.walk P22 rfl (fun h27 m28 u29 s30 y33 cs33 he33 y34 cs34 he34 r31 e32 => CallF.of [Value.agg cs33.toArray, Value.agg cs34.toArray] f93.ok rfl ((part_Rounds_1.walk (Hold.start (W := No) s30) he33 he34 e32).mono (fun _ _ h => let ⟨_, t, e⟩ := h; ⟨e, t.S.ext⟩))) g15).mono ?_
    rintro _ h16 ⟨m17, Q18, rfl, hl35⟩
    have O36 := Hold.nm (C24 Q18 (vfs_cons (rR_vf (aE_vf (fun _ _ _ _ h => T_part_Step.keep h))) vfs_nil))
    refine ⟨rfl, ?_⟩
    have O37 := O36.putX 0 2 rfl rfl hx9 hl35 rfl
    have hx38 := hx_len hx9 hl35
    have O39 := O37.closeX 0 rfl
    have O40 := O39.nm
    exact (ih _ _ e) _ _ _ _ _ _ _ _ (O40.pick [0]).nm lset
  · cases e
    exact ⟨_, _, _, _, O.pick [0], rfl, rfl⟩
theorem part_Rounds.l1_k.all {p : part_Rounds.l1_k.Pt} {r : ((List (List T_part_Step)) × Int)} (e : part_Rounds.l1_k.go p = some r) : part_Rounds.l1_k.I p r := fixF_ind (β := fun _ => ((List (List T_part_Step)) × Int)) part_Rounds.l1_k.mono (I := part_Rounds.l1_k.I) (fun go ih p r e => match p with
  | .l1 a_6 x_79 x_80 => part_Rounds.l1_k.step_l1 go ih a_6 x_79 x_80 r e
  ) e
theorem part_Rounds.l1.walk {W : Nat → Prop} {h0 m0 h m : Heap} {A_6 : Option Addr} {n_6 c_6 : Nat} {a_6 : List (List T_part_Step)} {x_79 : Int} {x_80 : Int} (O : Hold W h0 m0 h m [rR (aRow (aE T_part_Step.T)) A_6 c_6 a_6]) (ne_6 : n_6 = List.length a_6) {r : (List (List T_part_Step)) × Int} (e : part_Rounds.l1 a_6 x_79 x_80 = some r) : f35.l1 (part_Rounds.post W h0 m0 r) A_6 n_6 c_6 A_6 n_6 c_6 x_79 x_80 h := part_Rounds.l1_k.all (p := .l1 a_6 x_79 x_80) e W h0 m0 h m A_6 n_6 c_6 O ne_6
inductive part_Rounds.l0_k.Pt where
  | l0 (a_0 : List T_part_Step) (a_5 : List Int) (a_6 : List (List T_part_Step)) (a_20 : List T_part_Step) (x_21 : Int) (x_22 : Int)
  | l2 (a_0 : List T_part_Step) (a_5 : List Int) (a_6 : List (List T_part_Step)) (x_7 : Int) (y_8 : T_part_Step) (a_20 : List T_part_Step) (x_21 : Int) (x_22 : Int) (x_27 : Int) (x_28 : Int)
  | l3 (a_0 : List T_part_Step) (a_5 : List Int) (a_6 : List (List T_part_Step)) (x_7 : Int) (y_8 : T_part_Step) (a_20 : List T_part_Step) (x_21 : Int) (x_22 : Int)
noncomputable def part_Rounds.l0_k.body (go : (p : part_Rounds.l0_k.Pt) → Option ((List (List T_part_Step)) × Int)) : (p : part_Rounds.l0_k.Pt) → Option ((List (List T_part_Step)) × Int)
  | .l0 a_0 a_5 a_6 a_20 x_21 x_22 => if x_22 < x_21 then (Option.bind (gi a_20 x_22) fun y1 => (go (.l2 a_0 a_5 a_6 x_22 y1 a_20 x_21 x_22 x_22 (0 : Int)))) else ((part_Rounds.l1 a_6 (((List.length a_6) : Nat) : Int) (0 : Int)))
  | .l2 a_0 a_5 a_6 x_7 y_8 a_20 x_21 x_22 x_27 x_28 => if x_28 < x_27 then (Option.bind (gi a_0 x_28) fun y1 => Option.bind (part_depend y1 y_8) fun y8 => if y8 = true then (Option.bind (gi a_5 x_7) fun y15 => Option.bind (gi a_5 x_28) fun y22 => Option.bind (gi a_5 x_7) fun y29 => Option.bind (some (List.set a_5 (Int.toNat x_7) (if (IntKind.wrap .i64 (y22 + (1 : Int))) > y15 then (IntKind.wrap .i64 (y22 + (1 : Int))) else y15))) fun l38 => (go (.l2 a_0 l38 a_6 x_7 y_8 a_20 x_21 x_22 x_27 (IntKind.wrap .i64 (x_28 + (1 : Int)))))) else ((go (.l2 a_0 a_5 a_6 x_7 y_8 a_20 x_21 x_22 x_27 (IntKind.wrap .i64 (x_28 + (1 : Int))))))) else ((go (.l3 a_0 a_5 a_6 x_7 y_8 a_20 x_21 x_22)))
  | .l3 a_0 a_5 a_6 x_7 y_8 a_20 x_21 x_22 => Option.bind (gi a_5 x_7) fun y1 => if (((List.length a_6) : Nat) : Int) ≤ y1 then (Option.bind (ap 24 a_6 [([] : List T_part_Step)]) fun l12 => (go (.l3 a_0 a_5 l12 x_7 y_8 a_20 x_21 x_22))) else (Option.bind (gi a_5 x_7) fun y23 => Option.bind (gi a_5 x_7) fun y30 => Option.bind (gi a_6 y30) fun y39 => Option.bind (ap 24 y39 ([y_8] : List T_part_Step)) fun l55 => if y23 = y30 then (Option.bind (some (List.set a_6 (Int.toNat y30) l55)) fun l71 => (go (.l0 a_0 a_5 l71 a_20 x_21 (IntKind.wrap .i64 (x_22 + (1 : Int)))))) else none)
theorem part_Rounds.l0_k.mono : MonoF (β := fun _ => ((List (List T_part_Step)) × Int)) part_Rounds.l0_k.body := fun f g hfg p => match p with
  | .l0 a_0 a_5 a_6 a_20 x_21 x_22 => LeO.ite (LeO.bind (LeO.refl _) fun y1 => (hfg _)) ((LeO.refl _))
  | .l2 a_0 a_5 a_6 x_7 y_8 a_20 x_21 x_22 x_27 x_28 => LeO.ite (LeO.bind (LeO.refl _) fun y1 => LeO.bind (LeO.refl _) fun y8 => LeO.ite (LeO.bind (LeO.refl _) fun y15 => LeO.bind (LeO.refl _) fun y22 => LeO.bind (LeO.refl _) fun y29 => LeO.bind (LeO.refl _) fun l38 => (hfg _)) ((hfg _))) ((hfg _))
  | .l3 a_0 a_5 a_6 x_7 y_8 a_20 x_21 x_22 => LeO.bind (LeO.refl _) fun y1 => LeO.ite (LeO.bind (LeO.refl _) fun l12 => (hfg _)) (LeO.bind (LeO.refl _) fun y23 => LeO.bind (LeO.refl _) fun y30 => LeO.bind (LeO.refl _) fun y39 => LeO.bind (LeO.refl _) fun l55 => LeO.ite (LeO.bind (LeO.refl _) fun l71 => (hfg _)) (LeO.refl _))
noncomputable def part_Rounds.l0_k.go (p : part_Rounds.l0_k.Pt) : Option ((List (List T_part_Step)) × Int) := fixF (β := fun _ => ((List (List T_part_Step)) × Int)) part_Rounds.l0_k.body p
noncomputable def part_Rounds.l0 (a_0 : List T_part_Step) (a_5 : List Int) (a_6 : List (List T_part_Step)) (a_20 : List T_part_Step) (x_21 : Int) (x_22 : Int) : Option ((List (List T_part_Step)) × Int) := part_Rounds.l0_k.go (.l0 a_0 a_5 a_6 a_20 x_21 x_22)
noncomputable def part_Rounds.l2 (a_0 : List T_part_Step) (a_5 : List Int) (a_6 : List (List T_part_Step)) (x_7 : Int) (y_8 : T_part_Step) (a_20 : List T_part_Step) (x_21 : Int) (x_22 : Int) (x_27 : Int) (x_28 : Int) : Option ((List (List T_part_Step)) × Int) := part_Rounds.l0_k.go (.l2 a_0 a_5 a_6 x_7 y_8 a_20 x_21 x_22 x_27 x_28)
noncomputable def part_Rounds.l3 (a_0 : List T_part_Step) (a_5 : List Int) (a_6 : List (List T_part_Step)) (x_7 : Int) (y_8 : T_part_Step) (a_20 : List T_part_Step) (x_21 : Int) (x_22 : Int) : Option ((List (List T_part_Step)) × Int) := part_Rounds.l0_k.go (.l3 a_0 a_5 a_6 x_7 y_8 a_20 x_21 x_22)
theorem part_Rounds.l0_eq (a_0 : List T_part_Step) (a_5 : List Int) (a_6 : List (List T_part_Step)) (a_20 : List T_part_Step) (x_21 : Int) (x_22 : Int) : part_Rounds.l0 a_0 a_5 a_6 a_20 x_21 x_22 = if x_22 < x_21 then (Option.bind (gi a_20 x_22) fun y1 => (part_Rounds.l2 a_0 a_5 a_6 x_22 y1 a_20 x_21 x_22 x_22 (0 : Int))) else ((part_Rounds.l1 a_6 (((List.length a_6) : Nat) : Int) (0 : Int))) := fixF_eq part_Rounds.l0_k.mono _
theorem part_Rounds.l2_eq (a_0 : List T_part_Step) (a_5 : List Int) (a_6 : List (List T_part_Step)) (x_7 : Int) (y_8 : T_part_Step) (a_20 : List T_part_Step) (x_21 : Int) (x_22 : Int) (x_27 : Int) (x_28 : Int) : part_Rounds.l2 a_0 a_5 a_6 x_7 y_8 a_20 x_21 x_22 x_27 x_28 = if x_28 < x_27 then (Option.bind (gi a_0 x_28) fun y1 => Option.bind (part_depend y1 y_8) fun y8 => if y8 = true then (Option.bind (gi a_5 x_7) fun y15 => Option.bind (gi a_5 x_28) fun y22 => Option.bind (gi a_5 x_7) fun y29 => Option.bind (some (List.set a_5 (Int.toNat x_7) (if (IntKind.wrap .i64 (y22 + (1 : Int))) > y15 then (IntKind.wrap .i64 (y22 + (1 : Int))) else y15))) fun l38 => (part_Rounds.l2 a_0 l38 a_6 x_7 y_8 a_20 x_21 x_22 x_27 (IntKind.wrap .i64 (x_28 + (1 : Int))))) else ((part_Rounds.l2 a_0 a_5 a_6 x_7 y_8 a_20 x_21 x_22 x_27 (IntKind.wrap .i64 (x_28 + (1 : Int)))))) else ((part_Rounds.l3 a_0 a_5 a_6 x_7 y_8 a_20 x_21 x_22)) := fixF_eq part_Rounds.l0_k.mono _
theorem part_Rounds.l3_eq (a_0 : List T_part_Step) (a_5 : List Int) (a_6 : List (List T_part_Step)) (x_7 : Int) (y_8 : T_part_Step) (a_20 : List T_part_Step) (x_21 : Int) (x_22 : Int) : part_Rounds.l3 a_0 a_5 a_6 x_7 y_8 a_20 x_21 x_22 = Option.bind (gi a_5 x_7) fun y1 => if (((List.length a_6) : Nat) : Int) ≤ y1 then (Option.bind (ap 24 a_6 [([] : List T_part_Step)]) fun l12 => (part_Rounds.l3 a_0 a_5 l12 x_7 y_8 a_20 x_21 x_22)) else (Option.bind (gi a_5 x_7) fun y23 => Option.bind (gi a_5 x_7) fun y30 => Option.bind (gi a_6 y30) fun y39 => Option.bind (ap 24 y39 ([y_8] : List T_part_Step)) fun l55 => if y23 = y30 then (Option.bind (some (List.set a_6 (Int.toNat y30) l55)) fun l71 => (part_Rounds.l0 a_0 a_5 l71 a_20 x_21 (IntKind.wrap .i64 (x_22 + (1 : Int))))) else none) := fixF_eq part_Rounds.l0_k.mono _
def part_Rounds.l0_k.I : (p : part_Rounds.l0_k.Pt) → ((List (List T_part_Step)) × Int) → Prop
  | .l0 a_0 a_5 a_6 a_20 x_21 x_22, r => ∀ (W : Nat → Prop) (h0 m0 h m : Heap) (A_0 : Option Addr) (n_0 c_0 : Nat) (A_5 : Option Addr) (n_5 c_5 : Nat) (A_6 : Option Addr) (n_6 c_6 : Nat) (A_20 : Option Addr) (n_20 c_20 : Nat) (O : Hold W h0 m0 h m [rR (aE (tell_int .i64)) A_5 c_5 a_5, rR (aRow (aE T_part_Step.T)) A_6 c_6 a_6]) (ne_0 : n_0 = List.length a_0) (k_0 : List.length a_0 ≤ c_0) (r_0 : Rd 3 T_part_Step.E m A_0 a_0) (ne_5 : n_5 = List.length a_5) (ne_6 : n_6 = List.length a_6) (ne_20 : n_20 = List.length a_20) (k_20 : List.length a_20 ≤ c_20) (r_20 : Rd 3 T_part_Step.E m A_20 a_20), f35.l0 (part_Rounds.post W h0 m0 r) A_0 n_0 c_0 A_5 n_5 c_5 A_6 n_6 c_6 A_20 n_20 c_20 x_21 x_22 h
  | .l2 a_0 a_5 a_6 x_7 y_8 a_20 x_21 x_22 x_27 x_28, r => ∀ (W : Nat → Prop) (h0 m0 h m : Heap) (A_0 : Option Addr) (n_0 c_0 : Nat) (A_5 : Option Addr) (n_5 c_5 : Nat) (A_6 : Option Addr) (n_6 c_6 : Nat) (bk_8 : Nat) (cs_8 : List Value) (A_20 : Option Addr) (n_20 c_20 : Nat) (O : Hold W h0 m0 h m [rR (aE (tell_int .i64)) A_5 c_5 a_5, rR (aRow (aE T_part_Step.T)) A_6 c_6 a_6, rV bk_8 71 cs_8]) (ne_0 : n_0 = List.length a_0) (k_0 : List.length a_0 ≤ c_0) (r_0 : Rd 3 T_part_Step.E m A_0 a_0) (ne_5 : n_5 = List.length a_5) (ne_6 : n_6 = List.length a_6) (e_8 : T_part_Step.E m y_8 cs_8) (ne_20 : n_20 = List.length a_20) (k_20 : List.length a_20 ≤ c_20) (r_20 : Rd 3 T_part_Step.E m A_20 a_20), f35.l2 (part_Rounds.post W h0 m0 r) A_0 n_0 c_0 A_5 n_5 c_5 A_6 n_6 c_6 x_7 (⟨bk_8, 0, none⟩ : Addr) A_20 n_20 c_20 x_21 x_22 x_27 x_28 h
  | .l3 a_0 a_5 a_6 x_7 y_8 a_20 x_21 x_22, r => ∀ (W : Nat → Prop) (h0 m0 h m : Heap) (A_0 : Option Addr) (n_0 c_0 : Nat) (A_5 : Option Addr) (n_5 c_5 : Nat) (A_6 : Option Addr) (n_6 c_6 : Nat) (bk_8 : Nat) (cs_8 : List Value) (A_20 : Option Addr) (n_20 c_20 : Nat) (O : Hold W h0 m0 h m [rR (aE (tell_int .i64)) A_5 c_5 a_5, rR (aRow (aE T_part_Step.T)) A_6 c_6 a_6, rV bk_8 71 cs_8]) (ne_0 : n_0 = List.length a_0) (k_0 : List.length a_0 ≤ c_0) (r_0 : Rd 3 T_part_Step.E m A_0 a_0) (ne_5 : n_5 = List.length a_5) (ne_6 : n_6 = List.length a_6) (e_8 : T_part_Step.E m y_8 cs_8) (ne_20 : n_20 = List.length a_20) (k_20 : List.length a_20 ≤ c_20) (r_20 : Rd 3 T_part_Step.E m A_20 a_20), f35.l3 (part_Rounds.post W h0 m0 r) A_0 n_0 c_0 A_5 n_5 c_5 A_6 n_6 c_6 x_7 (⟨bk_8, 0, none⟩ : Addr) A_20 n_20 c_20 x_21 x_22 h
set_option maxRecDepth 100000 in
theorem part_Rounds.l0_k.step_l0 (go : (p : part_Rounds.l0_k.Pt) → Option ((List (List T_part_Step)) × Int)) (ih : ∀ p r, go p = some r → part_Rounds.l0_k.I p r) (a_0 : List T_part_Step) (a_5 : List Int) (a_6 : List (List T_part_Step)) (a_20 : List T_part_Step) (x_21 : Int) (x_22 : Int) (r : (List (List T_part_Step)) × Int) (e : part_Rounds.l0_k.body go (.l0 a_0 a_5 a_6 a_20 x_21 x_22) = some r) : part_Rounds.l0_k.I (.l0 a_0 a_5 a_6 a_20 x_21 x_22) r := by
  unfold part_Rounds.l0_k.body at e
  intro W h0 m0 h m A_0 n_0 c_0 A_5 n_5 c_5 A_6 n_6 c_6 A_20 n_20 c_20 O ne_0 k_0 r_0 ne_5 ne_6 ne_20 k_20 r_20
  subst ne_0
  subst ne_5
  subst ne_6
  subst ne_20
  refine f35.l0_in ?_
  unfold f35.l0T
  refine split_dec_e e (fun c15 e => ?_) (fun c15 e => ?_)
  · obtain ⟨y1, g2, e⟩ := bind_e e
    refine r_20.addr rfl g2 fun a3 cs4 ha5 hc6 he7 => ?_
    refine ⟨_, ldAn O.s hc6 rfl, ?_⟩
    refine O.new fun h8 x9 O10 => ?_
    refine ⟨_, rfl, (T_part_Step.T.len _ _ _ he7), ?_⟩
    refine O10.stA 2 rfl (T_part_Step.T.len _ _ _ he7) (T_part_Step.T.flat _ _ _ he7) fun h12 O13 => ?_
    have O14 := O13.nm
    exact (ih _ _ e) _ _ _ _ _ _ _ _ _ _ _ _ _ _ _ _ _ _ _ (O14.pick [0, 1, 2]).nm rfl k_0 r_0 rfl rfl he7 rfl k_20 r_20
  · exact part_Rounds.l1.walk (O.pick [1]).nm rfl e
set_option maxRecDepth 100000 in
theorem part_Rounds.l0_k.step_l2 (go : (p : part_Rounds.l0_k.Pt) → Option ((List (List T_part_Step)) × Int)) (ih : ∀ p r, go p = some r → part_Rounds.l0_k.I p r) (a_0 : List T_part_Step) (a_5 : List Int) (a_6 : List (List T_part_Step)) (x_7 : Int) (y_8 : T_part_Step) (a_20 : List T_part_Step) (x_21 : Int) (x_22 : Int) (x_27 : Int) (x_28 : Int) (r : (List (List T_part_Step)) × Int) (e : part_Rounds.l0_k.body go (.l2 a_0 a_5 a_6 x_7 y_8 a_20 x_21 x_22 x_27 x_28) = some r) : part_Rounds.l0_k.I (.l2 a_0 a_5 a_6 x_7 y_8 a_20 x_21 x_22 x_27 x_28) r := by
  unfold part_Rounds.l0_k.body at e
  intro W h0 m0 h m A_0 n_0 c_0 A_5 n_5 c_5 A_6 n_6 c_6 bk_8 cs_8 A_20 n_20 c_20 O ne_0 k_0 r_0 ne_5 ne_6 e_8 ne_20 k_20 r_20
  subst ne_0
  subst ne_5
  subst ne_6
  subst ne_20
  refine f35.l2_in ?_
  unfold f35.l2T
  refine split_dec_e e (fun c42 e => ?_) (fun c42 e => ?_)
  · obtain ⟨y1, g2, e⟩ := bind_e e
    refine r_0.addr rfl g2 fun a3 cs4 ha5 hc6 he7 => ?_
    refine ⟨_, ldAn O.s hc6 rfl, ?_⟩
    refine ⟨_, ldAn (Sub.refl _) (O.all 2 rfl) (T_part_Step.T.len _ _ _ e_8), ?_⟩
    obtain ⟨y8, g9, e⟩ := bind_e e
    refine (part_depend.walk (Hold.start (W := No) O.s) he7 e_8 g9).mono ?_
    rintro _ h10 ⟨m11, Q12, rfl⟩
    have O14 := Hold.nm (O.retC Q12 vfs_nil)
    refine ⟨_, rfl, ?_⟩
    refine split_any_e e (fun c41 e => ?_) (fun c41 e => ?_)
    · obtain ⟨y15, g16, e⟩ := bind_e e
      refine (O14.os 0 rfl).addr rfl g16 fun a17 cs18 ha19 hc20 he21 => ?_
      obtain rfl : cs18 = [(Value.int .i64 y15)] := he21
      obtain ⟨y22, g23, e⟩ := bind_e e
      refine (O14.os 0 rfl).addr rfl g23 fun a24 cs25 ha26 hc27 he28 => ?_
      obtain rfl : cs25 = [(Value.int .i64 y22)] := he28
      refine ⟨_, ld0 (Sub.refl _) hc20 rfl, _, rfl, ?_⟩
      refine ⟨_, ld0 (Sub.refl _) hc27 rfl, _, rfl, ?_⟩
      obtain ⟨y29, g30, e⟩ := bind_e e
      refine (O14.os 0 rfl).addr rfl g30 fun a31 cs32 ha33 hc34 he35 => ?_
      obtain rfl : cs32 = [(Value.int .i64 y29)] := he35
      obtain ⟨l38, g39, e⟩ := bind_e e
      replace g39 := Option.some.inj g39
      refine O14.elst0 0 rfl g30 ha33 hc34 (by decide) (y' := (if (IntKind.wrap .i64 (y22 + (1 : Int))) > y15 then (IntKind.wrap .i64 (y22 + (1 : Int))) else y15)) rfl trivial g39 fun h36 O37 => ?_
      have O40 := O37.nm
      exact (ih _ _ e) _ _ _ _ _ _ _ _ _ _ _ _ _ _ _ _ _ _ _ (O40.pick [0, 1, 2]).nm rfl k_0 r_0 (lset' g39) rfl e_8 rfl k_20 r_20
    · exact (ih _ _ e) _ _ _ _ _ _ _ _ _ _ _ _ _ _ _ _ _ _ _ (O14.pick [0, 1, 2]).nm rfl k_0 r_0 rfl rfl e_8 rfl k_20 r_20
  · exact (ih _ _ e) _ _ _ _ _ _ _ _ _ _ _ _ _ _ _ _ _ _ _ (O.pick [0, 1, 2]).nm rfl k_0 r_0 rfl rfl e_8 rfl k_20 r_20
set_option maxHeartbeats 4000000 in
set_option maxRecDepth 100000 in
theorem part_Rounds.l0_k.step_l3 (go : (p : part_Rounds.l0_k.Pt) → Option ((List (List T_part_Step)) × Int)) (ih : ∀ p r, go p = some r → part_Rounds.l0_k.I p r) (a_0 : List T_part_Step) (a_5 : List Int) (a_6 : List (List T_part_Step)) (x_7 : Int) (y_8 : T_part_Step) (a_20 : List T_part_Step) (x_21 : Int) (x_22 : Int) (r : (List (List T_part_Step)) × Int) (e : part_Rounds.l0_k.body go (.l3 a_0 a_5 a_6 x_7 y_8 a_20 x_21 x_22) = some r) : part_Rounds.l0_k.I (.l3 a_0 a_5 a_6 x_7 y_8 a_20 x_21 x_22) r := by
  unfold part_Rounds.l0_k.body at e
  intro W h0 m0 h m A_0 n_0 c_0 A_5 n_5 c_5 A_6 n_6 c_6 bk_8 cs_8 A_20 n_20 c_20 O ne_0 k_0 r_0 ne_5 ne_6 e_8 ne_20 k_20 r_20
  subst ne_0
  subst ne_5
  subst ne_6
  subst ne_20
  refine f35.l3_in ?_
  unfold f35.l3T
  obtain ⟨y1, g2, e⟩ := bind_e e
  refine (O.os 0 rfl).addr rfl g2 fun a3 cs4 ha5 hc6 he7 => ?_
  obtain rfl : cs4 = [(Value.int .i64 y1)] := he7
  refine ⟨_, ld0 (Sub.refl _) hc6 rfl, _, rfl, ?_⟩
  refine split_dec_e e (fun c192 e => ?_) (fun c192 e => ?_)
  · refine O.new fun h8 x9 O10 => ?_
    obtain ⟨l12, g13, e⟩ := bind_e e
    have O20 := O10.nil (aE T_part_Step.T) none
    refine O20.appR 1 4 rfl rfl rfl rfl (srcV O20 3 rfl rfl) (by decide) g13 fun A14 c15 h16 O17 => ?_
    refine ⟨_, _, _, rfl, ?_⟩
    have O22 := O17.nm
    exact (ih _ _ e) _ _ _ _ _ _ _ _ _ _ _ _ _ _ _ _ _ _ _ (O22.pick [0, 1, 2]).nm rfl k_0 r_0 rfl rfl e_8 rfl k_20 r_20
  · obtain ⟨y23, g24, e⟩ := bind_e e
    obtain ⟨y30, g31, e⟩ := bind_e e
    obtain ⟨y39, g40, e⟩ := bind_e e
    obtain ⟨l55, g56, e⟩ := bind_e e
    obtain ⟨g65, e⟩ := guard_e e
    obtain ⟨l71, g72, e⟩ := bind_e e
    refine (O.os 0 rfl).addr rfl g24 fun a79 cs80 ha81 hc82 he83 => ?_
    obtain rfl : cs80 = [(Value.int .i64 y23)] := he83
    refine (O.os 0 rfl).addr rfl g31 fun a86 cs87 ha88 hc89 he90 => ?_
    obtain rfl : cs87 = [(Value.int .i64 y30)] := he90
    refine ⟨_, ld0 (Sub.refl _) hc89 rfl, _, rfl, ?_⟩
    refine O.adr 1 rfl rfl g40 fun a91 ha92 => ?_
    obtain ⟨hs95, O96⟩ := O.openX 1 rfl g40
    obtain ⟨A97, c98, hx99, hc100, k101⟩ := O96.hdX 1 rfl ha92 g40
    refine ⟨_, ld0 (Sub.refl _) hc100 rfl, _, _, _, rfl, ?_⟩
    refine ⟨_, ldAn (Sub.refl _) (O96.all 2 rfl) (T_part_Step.T.len _ _ _ e_8), ?_⟩
    refine ⟨?_, ?_⟩
    · refine ⟨_, ld0 (Sub.refl _) hc82 rfl, _, rfl, ?_⟩
      refine ⟨Ext.refl _, ?_⟩
      refine ⟨cs_8, rfl, (T_part_Step.T.len _ _ _ e_8), ?_⟩
      refine O96.new fun h103 x104 O105 => ?_
      have O107 := O105.recell 3 rfl (cs' := cs_8 ++ []) rfl
      refine ⟨x104, ?_⟩
      have O108 := O107.takeX 1 rfl hx99 g40
      have O117 := O108.rowE (l := ([y_8] : List T_part_Step)) 3 rfl T_part_Step.T (show CsE _ _ _ _ _ from (CsE.cons e_8 (T_part_Step.T.len _ _ _ e_8) CsE.nil)) rfl
      refine O117.app 4 rfl rfl rfl ((O117.os 3 rfl).srcE rfl) (by decide) g56 fun A111 c112 h113 O114 => ?_
      refine ⟨_, _, _, rfl, ?_⟩
      have O118 := O114.nm
      rw [g65]
      refine O118.adrX 1 rfl rfl g40 fun a120 ha121 => ?_
      replace g72 := Option.some.inj g72
      refine O118.hdSt 1 rfl ha121 (v := (Value.slice A111 (List.length l55) c112)) trivial fun h122 O123 => ?_
      have hx127 := hs_set (v := (Value.slice A111 (List.length l55) c112)) hx99
      have O124 := O123.putX 1 4 rfl rfl hx127 rfl g72
      have O129 := O124.closeX 1 rfl
      have O130 := O129.nm
      exact (ih _ _ e) _ _ _ _ _ _ _ _ _ _ _ _ _ _ _ _ _ (O130.pick [0, 1]).nm rfl k_0 r_0 rfl (lset' g72) rfl k_20 r_20
    · refine ⟨cs_8, rfl, (T_part_Step.T.len _ _ _ e_8), ?_⟩
      refine O96.new fun h131 x132 O133 => ?_
      have O135 := O133.recell 3 rfl (cs' := cs_8 ++ []) rfl
      refine ⟨x132, ?_⟩
      refine ⟨?_, ?_⟩
      · obtain ⟨a136, cs137, ha140, hc138, he139⟩ := (O135.os 0 rfl).cellsAt g24
        cases ha81.symm.trans ha140
        obtain rfl : cs137 = [(Value.int .i64 y23)] := he139
        refine ⟨_, ld0 (Sub.refl _) hc138 rfl, _, rfl, ?_⟩
        refine ⟨Ext.refl _, ?_⟩
        have O141 := O135.takeX 1 rfl hx99 g40
        have O150 := O141.rowE (l := ([y_8] : List T_part_Step)) 3 rfl T_part_Step.T (show CsE _ _ _ _ _ from (CsE.cons e_8 (T_part_Step.T.len _ _ _ e_8) CsE.nil)) rfl
        refine O150.app 4 rfl rfl rfl ((O150.os 3 rfl).srcE rfl) (by decide) g56 fun A144 c145 h146 O147 => ?_
        refine ⟨_, _, _, rfl, ?_⟩
        have O151 := O147.nm
        rw [g65]
        refine O151.adrX 1 rfl rfl g40 fun a153 ha154 => ?_
        replace g72 := Option.some.inj g72
        refine O151.hdSt 1 rfl ha154 (v := (Value.slice A144 (List.length l55) c145)) trivial fun h155 O156 => ?_
        have hx160 := hs_set (v := (Value.slice A144 (List.length l55) c145)) hx99
        have O157 := O156.putX 1 4 rfl rfl hx160 rfl g72
        have O162 := O157.closeX 1 rfl
        have O163 := O162.nm
        exact (ih _ _ e) _ _ _ _ _ _ _ _ _ _ _ _ _ _ _ _ _ (O163.pick [0, 1]).nm rfl k_0 r_0 rfl (lset' g72) rfl k_20 r_20
      · have O164 := O135.takeX 1 rfl hx99 g40
        have O173 := O164.rowE (l := ([y_8] : List T_part_Step)) 3 rfl T_part_Step.T (show CsE _ _ _ _ _ from (CsE.cons e_8 (T_part_Step.T.len _ _ _ e_8) CsE.nil)) rfl
        refine O173.app 4 rfl rfl rfl ((O173.os 3 rfl).srcE rfl) (by decide) g56 fun A167 c168 h169 O170 => ?_
        refine ⟨_, _, _, rfl, ?_⟩
        have O174 := O170.nm
        obtain ⟨a175, cs176, ha179, hc177, he178⟩ := (O174.os 0 rfl).cellsAt g24
        cases ha81.symm.trans ha179
        obtain rfl : cs176 = [(Value.int .i64 y23)] := he178
        refine ⟨_, ld0 (Sub.refl _) hc177 rfl, _, rfl, ?_⟩
        refine ⟨Ext.refl _, ?_⟩
        rw [g65]
        refine O174.adrX 1 rfl rfl g40 fun a181 ha182 => ?_
        replace g72 := Option.some.inj g72
        refine O174.hdSt 1 rfl ha182 (v := (Value.slice A167 (List.length l55) c168)) trivial fun h183 O184 => ?_
        have hx188 := hs_set (v := (Value.slice A167 (List.length l55) c168)) hx99
        have O185 := O184.putX 1 4 rfl rfl hx188 rfl g72
        have O190 := O185.closeX 1 rfl
        have O191 := O190.nm
        exact (ih _ _ e) _ _ _ _ _ _ _ _ _ _ _ _ _ _ _ _ _ (O191.pick [0, 1]).nm rfl k_0 r_0 rfl (lset' g72) rfl k_20 r_20
theorem part_Rounds.l0_k.all {p : part_Rounds.l0_k.Pt} {r : ((List (List T_part_Step)) × Int)} (e : part_Rounds.l0_k.go p = some r) : part_Rounds.l0_k.I p r := fixF_ind (β := fun _ => ((List (List T_part_Step)) × Int)) part_Rounds.l0_k.mono (I := part_Rounds.l0_k.I) (fun go ih p r e => match p with
  | .l0 a_0 a_5 a_6 a_20 x_21 x_22 => part_Rounds.l0_k.step_l0 go ih a_0 a_5 a_6 a_20 x_21 x_22 r e
  | .l2 a_0 a_5 a_6 x_7 y_8 a_20 x_21 x_22 x_27 x_28 => part_Rounds.l0_k.step_l2 go ih a_0 a_5 a_6 x_7 y_8 a_20 x_21 x_22 x_27 x_28 r e
  | .l3 a_0 a_5 a_6 x_7 y_8 a_20 x_21 x_22 => part_Rounds.l0_k.step_l3 go ih a_0 a_5 a_6 x_7 y_8 a_20 x_21 x_22 r e
  ) e
theorem part_Rounds.l0.walk {W : Nat → Prop} {h0 m0 h m : Heap} {A_0 : Option Addr} {n_0 c_0 : Nat} {A_5 : Option Addr} {n_5 c_5 : Nat} {A_6 : Option Addr} {n_6 c_6 : Nat} {A_20 : Option Addr} {n_20 c_20 : Nat} {a_0 : List T_part_Step} {a_5 : List Int} {a_6 : List (List T_part_Step)} {a_20 : List T_part_Step} {x_21 : Int} {x_22 : Int} (O : Hold W h0 m0 h m [rR (aE (tell_int .i64)) A_5 c_5 a_5, rR (aRow (aE T_part_Step.T)) A_6 c_6 a_6]) (ne_0 : n_0 = List.length a_0) (k_0 : List.length a_0 ≤ c_0) (r_0 : Rd 3 T_part_Step.E m A_0 a_0) (ne_5 : n_5 = List.length a_5) (ne_6 : n_6 = List.length a_6) (ne_20 : n_20 = List.length a_20) (k_20 : List.length a_20 ≤ c_20) (r_20 : Rd 3 T_part_Step.E m A_20 a_20) {r : (List (List T_part_Step)) × Int} (e : part_Rounds.l0 a_0 a_5 a_6 a_20 x_21 x_22 = some r) : f35.l0 (part_Rounds.post W h0 m0 r) A_0 n_0 c_0 A_5 n_5 c_5 A_6 n_6 c_6 A_20 n_20 c_20 x_21 x_22 h := part_Rounds.l0_k.all (p := .l0 a_0 a_5 a_6 a_20 x_21 x_22) e W h0 m0 h m A_0 n_0 c_0 A_5 n_5 c_5 A_6 n_6 c_6 A_20 n_20 c_20 O ne_0 k_0 r_0 ne_5 ne_6 ne_20 k_20 r_20
noncomputable def part_Rounds (a_0 : List T_part_Step) : Option ((List (List T_part_Step)) × Int) :=
  Option.bind (part_Check a_0) fun y1 => if y1 = (0 : Int) then (Option.bind (mks 8 (((List.length a_0) : Nat) : Int) (0 : Int)) fun l11 => (part_Rounds.l0 a_0 l11 ([] : List (List T_part_Step)) a_0 (((List.length a_0) : Nat) : Int) (0 : Int))) else (some (([] : List (List T_part_Step)), y1))
set_option maxRecDepth 100000 in
theorem part_Rounds.walk {W : Nat → Prop} {h m : Heap} {A_0 : Option Addr} {n_0 c_0 : Nat} {a_0 : List T_part_Step} (O : Hold W h m h m []) (ne_0 : n_0 = List.length a_0) (k_0 : List.length a_0 ≤ c_0) (r_0 : Rd 3 T_part_Step.E m A_0 a_0) {r : (List (List T_part_Step)) × Int} (e : part_Rounds a_0 = some r) : Run Try.prog 35 #[Value.slice A_0 n_0 c_0] h (part_Rounds.post W h m r) := by
  unfold part_Rounds at e
  subst ne_0
  refine f35.run ?_
  unfold f35.runT
  obtain ⟨y1, g2, e⟩ := bind_e e
  refine (part_Check.walk (Hold.start (W := No) O.s) rfl k_0 r_0 g2).mono ?_
  rintro _ h3 ⟨m4, Q5, rfl⟩
  have O7 := Hold.nm (O.retC Q5 vfs_nil)
  refine ⟨_, rfl, ?_⟩
  refine split_ne_e e (fun c22 e => ?_) (fun c22 e => ?_)
  · have O8 := O7.nil (aRow (aE T_part_Step.T)) none
    have O10 := O8.nm
    cases e
    exact ⟨_, _, _, _, O10.pick [0], rfl, rfl⟩
  · obtain ⟨l11, g12, e⟩ := bind_e e
    have q13 := mks_e g12
    refine ⟨q13.1, Int.le_refl _, q13.2.1, q13.2.2.1, ?_⟩
    refine O7.new fun h14 x15 O16 => ?_
    have O17 := O16.made 0 rfl (aE (tell_int .i64)) g12 ⟨rfl, rfl⟩
    try rw [q13.2.2.2.1]
    have O19 := O17.nil (aRow (aE T_part_Step.T)) none
    have O21 := O19.nm
    exact part_Rounds.l0.walk (O21.pick [0, 1]).nm rfl k_0 r_0 rfl rfl rfl k_0 r_0 e
def slices_EqualFunc_41.post (W : Nat → Prop) (h0 m0 : Heap) (r : Bool) (v : Value) (h : Heap) : Prop := ∃ m , Hold W h0 m0 h m [] ∧ v = .bool r
inductive slices_EqualFunc_41.l0_k.Pt where
  | l0 (a_1 : List (List T_part_Step)) (p_2 : (List T_part_Step) → (List T_part_Step) → Option Bool) (a_15 : List (List T_part_Step)) (x_16 : Int) (x_17 : Int)
noncomputable def slices_EqualFunc_41.l0_k.body (go : (p : slices_EqualFunc_41.l0_k.Pt) → Option (Bool)) : (p : slices_EqualFunc_41.l0_k.Pt) → Option (Bool)
  | .l0 a_1 p_2 a_15 x_16 x_17 => if x_17 < x_16 then (Option.bind (gi a_15 x_17) fun y1 => Option.bind (gi a_1 x_17) fun y8 => Option.bind (p_2 y1 y8) fun y15 => if y15 = true then ((go (.l0 a_1 p_2 a_15 x_16 (IntKind.wrap .i64 (x_17 + (1 : Int)))))) else (some (false))) else (some (true))
theorem slices_EqualFunc_41.l0_k.mono : MonoF (β := fun _ => (Bool)) slices_EqualFunc_41.l0_k.body := fun f g hfg p => match p with
  | .l0 a_1 p_2 a_15 x_16 x_17 => LeO.ite (LeO.bind (LeO.refl _) fun y1 => LeO.bind (LeO.refl _) fun y8 => LeO.bind (LeO.refl _) fun y15 => LeO.ite ((hfg _)) (LeO.refl _)) (LeO.refl _)
noncomputable def slices_EqualFunc_41.l0_k.go (p : slices_EqualFunc_41.l0_k.Pt) : Option (Bool) := fixF (β := fun _ => (Bool)) slices_EqualFunc_41.l0_k.body p
noncomputable def slices_EqualFunc_41.l0 (a_1 : List (List T_part_Step)) (p_2 : (List T_part_Step) → (List T_part_Step) → Option Bool) (a_15 : List (List T_part_Step)) (x_16 : Int) (x_17 : Int) : Option (Bool) := slices_EqualFunc_41.l0_k.go (.l0 a_1 p_2 a_15 x_16 x_17)
theorem slices_EqualFunc_41.l0_eq (a_1 : List (List T_part_Step)) (p_2 : (List T_part_Step) → (List T_part_Step) → Option Bool) (a_15 : List (List T_part_Step)) (x_16 : Int) (x_17 : Int) : slices_EqualFunc_41.l0 a_1 p_2 a_15 x_16 x_17 = if x_17 < x_16 then (Option.bind (gi a_15 x_17) fun y1 => Option.bind (gi a_1 x_17) fun y8 => Option.bind (p_2 y1 y8) fun y15 => if y15 = true then ((slices_EqualFunc_41.l0 a_1 p_2 a_15 x_16 (IntKind.wrap .i64 (x_17 + (1 : Int))))) else (some (false))) else (some (true)) := fixF_eq slices_EqualFunc_41.l0_k.mono _
def slices_EqualFunc_41.l0_k.I : (p : slices_EqualFunc_41.l0_k.Pt) → (Bool) → Prop
  | .l0 a_1 p_2 a_15 x_16 x_17, r => ∀ (W : Nat → Prop) (h0 m0 h m : Heap) (A_1 : Option Addr) (n_1 c_1 : Nat) (fv_2 : Value) (A_15 : Option Addr) (n_15 c_15 : Nat) (O : Hold W h0 m0 h m []) (ne_1 : n_1 = List.length a_1) (k_1 : List.length a_1 ≤ c_1) (r_1 : Rd 1 (eRow 3 T_part_Step.E) m A_1 a_1) (f_2 : ∀ h' m', Sub m0 m' → Sub m' h' → ∀ (A0 : Option Addr) (n0 c0 : Nat) (l0 : List T_part_Step) (_ : n0 = l0.length) (_ : l0.length ≤ c0) (_ : Rd 3 T_part_Step.E m' A0 l0) (A1 : Option Addr) (n1 c1 : Nat) (l1 : List T_part_Step) (_ : n1 = l1.length) (_ : l1.length ≤ c1) (_ : Rd 3 T_part_Step.E m' A1 l1) (r : Bool), p_2 l0 l1 = some r → CallF Try.prog fv_2 [.slice A0 n0 c0, .slice A1 n1 c1] h' (fun v h'' => v = .bool r ∧ Ext h' h'')) (ne_15 : n_15 = List.length a_15) (k_15 : List.length a_15 ≤ c_15) (r_15 : Rd 1 (eRow 3 T_part_Step.E) m A_15 a_15), f41.l0 (slices_EqualFunc_41.post W h0 m0 r) A_1 n_1 c_1 fv_2 A_15 n_15 c_15 x_16 x_17 h
set_option maxRecDepth 100000 in
theorem slices_EqualFunc_41.l0_k.step_l0 (go : (p : slices_EqualFunc_41.l0_k.Pt) → Option (Bool)) (ih : ∀ p r, go p = some r → slices_EqualFunc_41.l0_k.I p r) (a_1 : List (List T_part_Step)) (p_2 : (List T_part_Step) → (List T_part_Step) → Option Bool) (a_15 : List (List T_part_Step)) (x_16 : Int) (x_17 : Int) (r : Bool) (e : slices_EqualFunc_41.l0_k.body go (.l0 a_1 p_2 a_15 x_16 x_17) = some r) : slices_EqualFunc_41.l0_k.I (.l0 a_1 p_2 a_15 x_16 x_17) r := by
  unfold slices_EqualFunc_41.l0_k.body at e
  intro W h0 m0 h m A_1 n_1 c_1 fv_2 A_15 n_15 c_15 O ne_1 k_1 r_1 f_2 ne_15 k_15 r_15
  subst ne_1
  subst ne_15
  refine f41.l0_in ?_
  unfold f41.l0T
  refine split_dec_e e (fun c21 e => ?_) (fun c21 e => ?_)
  · obtain ⟨y1, g2, e⟩ := bind_e e
    refine r_15.addr rfl g2 fun a3 cs4 ha5 hc6 he7 => ?_
    obtain ⟨Acs4_0, ccs4_0, rfl, kcs4_0, rcs4_0⟩ := id he7
    refine ⟨_, ld0 O.s hc6 rfl, _, _, _, rfl, ?_⟩
    obtain ⟨y8, g9, e⟩ := bind_e e
    refine r_1.addr rfl g9 fun a10 cs11 ha12 hc13 he14 => ?_
    obtain ⟨Acs11_0, ccs11_0, rfl, kcs11_0, rcs11_0⟩ := id he14
    refine ⟨_, ld0 O.s hc13 rfl, _, _, _, rfl, ?_⟩
    obtain ⟨y15, g16, e⟩ := bind_e e
    refine CallF.mono (f_2 _ _ O.up O.s _ _ _ _ rfl kcs4_0 rcs4_0 _ _ _ _ rfl kcs11_0 rcs11_0 _ g16) ?_
    rintro _ h17 ⟨rfl, x18⟩
    have O19 := O.ext x18
    refine ⟨_, rfl, ?_⟩
    refine split_not ?_
    refine split_any_e e (fun c20 e => ?_) (fun c20 e => ?_)
    · exact (ih _ _ e) _ _ _ _ _ _ _ _ _ _ _ _ (O19.pick []).nm rfl k_1 r_1 f_2 rfl k_15 r_15
    · cases e
      exact ⟨_, O19.pick [], rfl⟩
  · cases e
    exact ⟨_, O.pick [], rfl⟩
theorem slices_EqualFunc_41.l0_k.all {p : slices_EqualFunc_41.l0_k.Pt} {r : (Bool)} (e : slices_EqualFunc_41.l0_k.go p = some r) : slices_EqualFunc_41.l0_k.I p r := fixF_ind (β := fun _ => (Bool)) slices_EqualFunc_41.l0_k.mono (I := slices_EqualFunc_41.l0_k.I) (fun go ih p r e => match p with
  | .l0 a_1 p_2 a_15 x_16 x_17 => slices_EqualFunc_41.l0_k.step_l0 go ih a_1 p_2 a_15 x_16 x_17 r e
  ) e
theorem slices_EqualFunc_41.l0.walk {W : Nat → Prop} {h0 m0 h m : Heap} {A_1 : Option Addr} {n_1 c_1 : Nat} {fv_2 : Value} {A_15 : Option Addr} {n_15 c_15 : Nat} {a_1 : List (List T_part_Step)} {p_2 : (List T_part_Step) → (List T_part_Step) → Option Bool} {a_15 : List (List T_part_Step)} {x_16 : Int} {x_17 : Int} (O : Hold W h0 m0 h m []) (ne_1 : n_1 = List.length a_1) (k_1 : List.length a_1 ≤ c_1) (r_1 : Rd 1 (eRow 3 T_part_Step.E) m A_1 a_1) (f_2 : ∀ h' m', Sub m0 m' → Sub m' h' → ∀ (A0 : Option Addr) (n0 c0 : Nat) (l0 : List T_part_Step) (_ : n0 = l0.length) (_ : l0.length ≤ c0) (_ : Rd 3 T_part_Step.E m' A0 l0) (A1 : Option Addr) (n1 c1 : Nat) (l1 : List T_part_Step) (_ : n1 = l1.length) (_ : l1.length ≤ c1) (_ : Rd 3 T_part_Step.E m' A1 l1) (r : Bool), p_2 l0 l1 = some r → CallF Try.prog fv_2 [.slice A0 n0 c0, .slice A1 n1 c1] h' (fun v h'' => v = .bool r ∧ Ext h' h'')) (ne_15 : n_15 = List.length a_15) (k_15 : List.length a_15 ≤ c_15) (r_15 : Rd 1 (eRow 3 T_part_Step.E) m A_15 a_15) {r : Bool} (e : slices_EqualFunc_41.l0 a_1 p_2 a_15 x_16 x_17 = some r) : f41.l0 (slices_EqualFunc_41.post W h0 m0 r) A_1 n_1 c_1 fv_2 A_15 n_15 c_15 x_16 x_17 h := slices_EqualFunc_41.l0_k.all (p := .l0 a_1 p_2 a_15 x_16 x_17) e W h0 m0 h m A_1 n_1 c_1 fv_2 A_15 n_15 c_15 O ne_1 k_1 r_1 f_2 ne_15 k_15 r_15
noncomputable def slices_EqualFunc_41 (a_0 : List (List T_part_Step)) (a_1 : List (List T_part_Step)) (p_2 : (List T_part_Step) → (List T_part_Step) → Option Bool) : Option (Bool) :=
  if (((List.length a_0) : Nat) : Int) = (((List.length a_1) : Nat) : Int) then ((slices_EqualFunc_41.l0 a_1 p_2 a_0 (((List.length a_0) : Nat) : Int) (0 : Int))) else (some (false))
set_option maxRecDepth 100000 in
theorem slices_EqualFunc_41.walk {W : Nat → Prop} {h m : Heap} {A_0 : Option Addr} {n_0 c_0 : Nat} {A_1 : Option Addr} {n_1 c_1 : Nat} {fv_2 : Value} {a_0 : List (List T_part_Step)} {a_1 : List (List T_part_Step)} {p_2 : (List T_part_Step) → (List T_part_Step) → Option Bool} (O : Hold W h m h m []) (ne_0 : n_0 = List.length a_0) (k_0 : List.length a_0 ≤ c_0) (r_0 : Rd 1 (eRow 3 T_part_Step.E) m A_0 a_0) (ne_1 : n_1 = List.length a_1) (k_1 : List.length a_1 ≤ c_1) (r_1 : Rd 1 (eRow 3 T_part_Step.E) m A_1 a_1) (f_2 : ∀ h' m', Sub m m' → Sub m' h' → ∀ (A0 : Option Addr) (n0 c0 : Nat) (l0 : List T_part_Step) (_ : n0 = l0.length) (_ : l0.length ≤ c0) (_ : Rd 3 T_part_Step.E m' A0 l0) (A1 : Option Addr) (n1 c1 : Nat) (l1 : List T_part_Step) (_ : n1 = l1.length) (_ : l1.length ≤ c1) (_ : Rd 3 T_part_Step.E m' A1 l1) (r : Bool), p_2 l0 l1 = some r → CallF Try.prog fv_2 [.slice A0 n0 c0, .slice A1 n1 c1] h' (fun v h'' => v = .bool r ∧ Ext h' h'')) {r : Bool} (e : slices_EqualFunc_41 a_0 a_1 p_2 = some r) : Run Try.prog 41 #[Value.slice A_0 n_0 c_0, Value.slice A_1 n_1 c_1, fv_2] h (slices_EqualFunc_41.post W h m r) := by
  unfold slices_EqualFunc_41 at e
  subst ne_0
  subst ne_1
  refine f41.run ?_
  unfold f41.runT
  refine split_ne_e e (fun c1 e => ?_) (fun c1 e => ?_)
  · cases e
    exact ⟨_, O.pick [], rfl⟩
  · exact slices_EqualFunc_41.l0.walk (O.pick []).nm rfl k_1 r_1 f_2 rfl k_0 r_0 e
theorem slices_EqualFunc_41.val {l : List (List T_part_Step)} {m : List (List T_part_Step)} {p : (List T_part_Step) → (List T_part_Step) → Option Bool} (q : (List T_part_Step) → (List T_part_Step) → Bool) (hp : ∀ x ∈ l, ∀ y ∈ m, p x y = some (q x y)) (hl : l.length ≤ 4611686018427387904) : slices_EqualFunc_41 l m p = some (decide (l.length = m.length) && (l.zip m).all fun x => q x.1 x.2) := equalFunc_val (fun a b p n i => slices_EqualFunc_41.l0_eq b p a n i) (fun _ _ _ => rfl) q hp hl
def slices_Equal_44.post (W : Nat → Prop) (h0 m0 : Heap) (r : Bool) (v : Value) (h : Heap) : Prop := ∃ m , Hold W h0 m0 h m [] ∧ v = .bool r
inductive slices_Equal_44.l0_k.Pt where
  | l0 (a_0 : List T_part_Step) (a_1 : List T_part_Step) (x_12 : Int) (x_13 : Int)
noncomputable def slices_Equal_44.l0_k.body (go : (p : slices_Equal_44.l0_k.Pt) → Option (Bool)) : (p : slices_Equal_44.l0_k.Pt) → Option (Bool)
  | .l0 a_0 a_1 x_12 x_13 => if x_13 < x_12 then (Option.bind (gi a_0 x_13) fun y1 => Option.bind (gi a_1 x_13) fun y8 => if ((y1.Who == y8.Who) && ((y1.Reads == y8.Reads) && ((y1.Writes == y8.Writes) && true))) = true then ((go (.l0 a_0 a_1 x_12 (IntKind.wrap .i64 (x_13 + (1 : Int)))))) else (some (false))) else (some (true))
theorem slices_Equal_44.l0_k.mono : MonoF (β := fun _ => (Bool)) slices_Equal_44.l0_k.body := fun f g hfg p => match p with
  | .l0 a_0 a_1 x_12 x_13 => LeO.ite (LeO.bind (LeO.refl _) fun y1 => LeO.bind (LeO.refl _) fun y8 => LeO.ite ((hfg _)) (LeO.refl _)) (LeO.refl _)
noncomputable def slices_Equal_44.l0_k.go (p : slices_Equal_44.l0_k.Pt) : Option (Bool) := fixF (β := fun _ => (Bool)) slices_Equal_44.l0_k.body p
noncomputable def slices_Equal_44.l0 (a_0 : List T_part_Step) (a_1 : List T_part_Step) (x_12 : Int) (x_13 : Int) : Option (Bool) := slices_Equal_44.l0_k.go (.l0 a_0 a_1 x_12 x_13)
theorem slices_Equal_44.l0_eq (a_0 : List T_part_Step) (a_1 : List T_part_Step) (x_12 : Int) (x_13 : Int) : slices_Equal_44.l0 a_0 a_1 x_12 x_13 = if x_13 < x_12 then (Option.bind (gi a_0 x_13) fun y1 => Option.bind (gi a_1 x_13) fun y8 => if ((y1.Who == y8.Who) && ((y1.Reads == y8.Reads) && ((y1.Writes == y8.Writes) && true))) = true then ((slices_Equal_44.l0 a_0 a_1 x_12 (IntKind.wrap .i64 (x_13 + (1 : Int))))) else (some (false))) else (some (true)) := fixF_eq slices_Equal_44.l0_k.mono _
def slices_Equal_44.l0_k.I : (p : slices_Equal_44.l0_k.Pt) → (Bool) → Prop
  | .l0 a_0 a_1 x_12 x_13, r => ∀ (W : Nat → Prop) (h0 m0 h m : Heap) (A_0 : Option Addr) (n_0 c_0 : Nat) (A_1 : Option Addr) (n_1 c_1 : Nat) (O : Hold W h0 m0 h m []) (ne_0 : n_0 = List.length a_0) (k_0 : List.length a_0 ≤ c_0) (r_0 : Rd 3 T_part_Step.E m A_0 a_0) (ne_1 : n_1 = List.length a_1) (k_1 : List.length a_1 ≤ c_1) (r_1 : Rd 3 T_part_Step.E m A_1 a_1), f44.l0 (slices_Equal_44.post W h0 m0 r) A_0 n_0 c_0 A_1 n_1 c_1 x_12 x_13 h
set_option maxRecDepth 100000 in
theorem slices_Equal_44.l0_k.step_l0 (go : (p : slices_Equal_44.l0_k.Pt) → Option (Bool)) (ih : ∀ p r, go p = some r → slices_Equal_44.l0_k.I p r) (a_0 : List T_part_Step) (a_1 : List T_part_Step) (x_12 : Int) (x_13 : Int) (r : Bool) (e : slices_Equal_44.l0_k.body go (.l0 a_0 a_1 x_12 x_13) = some r) : slices_Equal_44.l0_k.I (.l0 a_0 a_1 x_12 x_13) r := by
  unfold slices_Equal_44.l0_k.body at e
  intro W h0 m0 h m A_0 n_0 c_0 A_1 n_1 c_1 O ne_0 k_0 r_0 ne_1 k_1 r_1
  subst ne_0
  subst ne_1
  refine f44.l0_in ?_
  unfold f44.l0T
  refine split_dec_e e (fun c18 e => ?_) (fun c18 e => ?_)
  · obtain ⟨y1, g2, e⟩ := bind_e e
    refine r_0.addr rfl g2 fun a3 cs4 ha5 hc6 he7 => ?_
    obtain ⟨y8, g9, e⟩ := bind_e e
    refine r_1.addr rfl g9 fun a10 cs11 ha12 hc13 he14 => ?_
    refine ⟨_, ldAn O.s hc6 rfl, ?_⟩
    refine ⟨_, ldAn O.s hc13 rfl, ?_⟩
    obtain rfl : cs4 = [(Value.int .i64 y1.Who), (Value.int .i64 y1.Reads), (Value.int .i64 y1.Writes)] := he7
    obtain rfl : cs11 = [(Value.int .i64 y8.Who), (Value.int .i64 y8.Reads), (Value.int .i64 y8.Writes)] := he14
    refine gen_neq (b := ((y1.Who == y8.Who) && ((y1.Reads == y8.Reads) && ((y1.Writes == y8.Writes) && true)))) (by kernel_rfl) ?_
    refine ⟨_, rfl, ?_⟩
    refine split_not ?_
    refine split_any_e e (fun c17 e => ?_) (fun c17 e => ?_)
    · exact (ih _ _ e) _ _ _ _ _ _ _ _ _ _ _ (O.pick []).nm rfl k_0 r_0 rfl k_1 r_1
    · cases e
      exact ⟨_, O.pick [], rfl⟩
  · cases e
    exact ⟨_, O.pick [], rfl⟩
theorem slices_Equal_44.l0_k.all {p : slices_Equal_44.l0_k.Pt} {r : (Bool)} (e : slices_Equal_44.l0_k.go p = some r) : slices_Equal_44.l0_k.I p r := fixF_ind (β := fun _ => (Bool)) slices_Equal_44.l0_k.mono (I := slices_Equal_44.l0_k.I) (fun go ih p r e => match p with
  | .l0 a_0 a_1 x_12 x_13 => slices_Equal_44.l0_k.step_l0 go ih a_0 a_1 x_12 x_13 r e
  ) e
theorem slices_Equal_44.l0.walk {W : Nat → Prop} {h0 m0 h m : Heap} {A_0 : Option Addr} {n_0 c_0 : Nat} {A_1 : Option Addr} {n_1 c_1 : Nat} {a_0 : List T_part_Step} {a_1 : List T_part_Step} {x_12 : Int} {x_13 : Int} (O : Hold W h0 m0 h m []) (ne_0 : n_0 = List.length a_0) (k_0 : List.length a_0 ≤ c_0) (r_0 : Rd 3 T_part_Step.E m A_0 a_0) (ne_1 : n_1 = List.length a_1) (k_1 : List.length a_1 ≤ c_1) (r_1 : Rd 3 T_part_Step.E m A_1 a_1) {r : Bool} (e : slices_Equal_44.l0 a_0 a_1 x_12 x_13 = some r) : f44.l0 (slices_Equal_44.post W h0 m0 r) A_0 n_0 c_0 A_1 n_1 c_1 x_12 x_13 h := slices_Equal_44.l0_k.all (p := .l0 a_0 a_1 x_12 x_13) e W h0 m0 h m A_0 n_0 c_0 A_1 n_1 c_1 O ne_0 k_0 r_0 ne_1 k_1 r_1
noncomputable def slices_Equal_44 (a_0 : List T_part_Step) (a_1 : List T_part_Step) : Option (Bool) :=
  if (((List.length a_0) : Nat) : Int) = (((List.length a_1) : Nat) : Int) then ((slices_Equal_44.l0 a_0 a_1 (((List.length a_0) : Nat) : Int) (0 : Int))) else (some (false))
set_option maxRecDepth 100000 in
theorem slices_Equal_44.walk {W : Nat → Prop} {h m : Heap} {A_0 : Option Addr} {n_0 c_0 : Nat} {A_1 : Option Addr} {n_1 c_1 : Nat} {a_0 : List T_part_Step} {a_1 : List T_part_Step} (O : Hold W h m h m []) (ne_0 : n_0 = List.length a_0) (k_0 : List.length a_0 ≤ c_0) (r_0 : Rd 3 T_part_Step.E m A_0 a_0) (ne_1 : n_1 = List.length a_1) (k_1 : List.length a_1 ≤ c_1) (r_1 : Rd 3 T_part_Step.E m A_1 a_1) {r : Bool} (e : slices_Equal_44 a_0 a_1 = some r) : Run Try.prog 44 #[Value.slice A_0 n_0 c_0, Value.slice A_1 n_1 c_1] h (slices_Equal_44.post W h m r) := by
  unfold slices_Equal_44 at e
  subst ne_0
  subst ne_1
  refine f44.run ?_
  unfold f44.runT
  refine split_ne_e e (fun c1 e => ?_) (fun c1 e => ?_)
  · cases e
    exact ⟨_, O.pick [], rfl⟩
  · exact slices_Equal_44.l0.walk (O.pick []).nm rfl k_0 r_0 rfl k_1 r_1 e
theorem slices_Equal_44.val (l m : List T_part_Step) (hl : l.length ≤ 4611686018427387904) : ∃ b, slices_Equal_44 l m = some b ∧ (b = true ↔ l = m) := equal_val (R := fun x y => (x.Who == y.Who && (x.Reads == y.Reads && (x.Writes == y.Writes && true))) = true) (fun a b n i => slices_Equal_44.l0_eq a b n i) (fun _ _ => rfl) (fun x y => by cases x; cases y; simp) l m hl
def part_Same_1.post (W : Nat → Prop) (h0 m0 : Heap) (r : Bool) (v : Value) (h : Heap) : Prop := ∃ m , Hold W h0 m0 h m [] ∧ v = .bool r
noncomputable def part_Same_1 (a_0 : List T_part_Step) (a_1 : List T_part_Step) : Option (Bool) :=
  Option.bind (slices_Equal_44 a_0 a_1) fun y1 => some (y1)
set_option maxRecDepth 100000 in
theorem part_Same_1.walk {W : Nat → Prop} {h m : Heap} {A_0 : Option Addr} {n_0 c_0 : Nat} {A_1 : Option Addr} {n_1 c_1 : Nat} {a_0 : List T_part_Step} {a_1 : List T_part_Step} (O : Hold W h m h m []) (ne_0 : n_0 = List.length a_0) (k_0 : List.length a_0 ≤ c_0) (r_0 : Rd 3 T_part_Step.E m A_0 a_0) (ne_1 : n_1 = List.length a_1) (k_1 : List.length a_1 ≤ c_1) (r_1 : Rd 3 T_part_Step.E m A_1 a_1) {r : Bool} (e : part_Same_1 a_0 a_1 = some r) : Run Try.prog 94 #[Value.slice A_0 n_0 c_0, Value.slice A_1 n_1 c_1] h (part_Same_1.post W h m r) := by
  unfold part_Same_1 at e
  subst ne_0
  subst ne_1
  refine f94.run ?_
  unfold f94.runT
  obtain ⟨y1, g2, e⟩ := bind_e e
  refine (slices_Equal_44.walk (Hold.start (W := No) O.s) rfl k_0 r_0 rfl k_1 r_1 g2).mono ?_
  rintro _ h3 ⟨m4, Q5, rfl⟩
  have O7 := Hold.nm (O.retC Q5 vfs_nil)
  refine ⟨_, rfl, ?_⟩
  cases e
  exact ⟨_, O7.pick [], rfl⟩
def part_Same.post (W : Nat → Prop) (h0 m0 : Heap) (r : Bool × Int) (v : Value) (h : Heap) : Prop := ∃ m , Hold W h0 m0 h m [] ∧ v = .tuple #[.bool r.1, .int .i64 r.2]
noncomputable def part_Same (a_0 : List T_part_Step) (a_1 : List T_part_Step) : Option (Bool × Int) :=
  Option.bind (part_Rounds a_0) fun y1 => if y1.2 = (0 : Int) then (Option.bind (part_Rounds a_1) fun y13 => if y13.2 = (0 : Int) then (Option.bind (slices_EqualFunc_41 y1.1 y13.1 (fun z40 z41 => part_Same_1 z40 z41)) fun y25 => some (y25, (0 : Int))) else (some (false, y13.2))) else (some (false, y1.2))
set_option maxRecDepth 100000 in
theorem part_Same.walk {W : Nat → Prop} {h m : Heap} {A_0 : Option Addr} {n_0 c_0 : Nat} {A_1 : Option Addr} {n_1 c_1 : Nat} {a_0 : List T_part_Step} {a_1 : List T_part_Step} (O : Hold W h m h m []) (ne_0 : n_0 = List.length a_0) (k_0 : List.length a_0 ≤ c_0) (r_0 : Rd 3 T_part_Step.E m A_0 a_0) (ne_1 : n_1 = List.length a_1) (k_1 : List.length a_1 ≤ c_1) (r_1 : Rd 3 T_part_Step.E m A_1 a_1) {r : Bool × Int} (e : part_Same a_0 a_1 = some r) : Run Try.prog 36 #[Value.slice A_0 n_0 c_0, Value.slice A_1 n_1 c_1] h (part_Same.post W h m r) := by
  unfold part_Same at e
  subst ne_0
  subst ne_1
  refine f36.run ?_
  unfold f36.runT
  obtain ⟨y1, g2, e⟩ := bind_e e
  refine (part_Rounds.walk (Hold.start (W := No) O.s) rfl k_0 r_0 g2).mono ?_
  rintro _ h3 ⟨m4, A7, n8, c9, Q5, rfl, ne10⟩
  have O12 := Hold.nm (O.ret Q5)
  subst ne10
  refine ⟨_, _, _, _, rfl, ?_⟩
  refine split_ne_e e (fun c52 e => ?_) (fun c52 e => ?_)
  · cases e
    exact ⟨_, O12.pick [], rfl⟩
  · obtain ⟨y13, g14, e⟩ := bind_e e
    refine (part_Rounds.walk (Hold.start (W := No) O12.s) rfl k_1 (r_1.sub T_part_Step.T Q5.S.up) g14).mono ?_
    rintro _ h15 ⟨m16, A19, n20, c21, Q17, rfl, ne22⟩
    have O24 := Hold.nm (O12.ret Q17)
    subst ne22
    refine ⟨_, _, _, _, rfl, ?_⟩
    refine split_ne_e e (fun c51 e => ?_) (fun c51 e => ?_)
    · cases e
      exact ⟨_, O24.pick [], rfl⟩
    · obtain ⟨y25, g26, e⟩ := bind_e e
      obtain ⟨m31, u32, s39, ⟨⟨r35, k36⟩, ⟨r37, k38⟩, _⟩, B33, C34⟩ := O24.lend0 [0, 1]
      replace r35 : Rd 1 (eRow 3 T_part_Step.E) m31 A7 y1.1 := r35
      replace k36 : List.length y1.1 ≤ c9 := k36
      replace r37 : Rd 1 (eRow 3 T_part_Step.E) m31 A19 y13.1 := r37
      replace k38 : List.length y13.1 ≤ c21 := k38
      refine (slices_EqualFunc_41.walk (Hold.start (W := No) s39) rfl k36 r35 rfl k38 r37 (fun h42 m43 u44 s45 A48 n48 c48 l48 hn48 k48 r48 A49 n49 c49 l49 hn49 k49 r49 r46 e47 => CallF.of [Value.slice A48 n48 c48, Value.slice A49 n49 c49] f94.ok rfl ((part_Same_1.walk (Hold.start (W := No) s45) hn48 k48 r48 hn49 k49 r49 e47).mono (fun _ _ h => let ⟨_, t, e⟩ := h; ⟨e, t.S.ext⟩))) g26).mono ?_
      rintro _ h27 ⟨m28, Q29, rfl⟩
      have O50 := Hold.nm (C34 Q29 vfs_nil)
      refine ⟨_, rfl, ?_⟩
      cases e
      exact ⟨_, O50.pick [], rfl⟩
def slices_Clone_95.post (W : Nat → Prop) (h0 m0 : Heap) (r : (List T_part_Step)) (v : Value) (h : Heap) : Prop := ∃ m A0 n0 c0, Hold W h0 m0 h m [rR (aE T_part_Step.T) A0 c0 r] ∧ v = .slice A0 n0 c0 ∧ n0 = List.length r
noncomputable def slices_Clone_95 (a0 : List T_part_Step) : Option (List T_part_Step) := ap 24 ([] : List T_part_Step) a0
set_option maxRecDepth 100000 in
theorem slices_Clone_95.walk {W : Nat → Prop} {h m : Heap} {A0 : Option Addr} {n0 c0 : Nat} {a0 : List T_part_Step} (O : Hold W h m h m []) (ne0 : n0 = List.length a0) (k0 : List.length a0 ≤ c0) (r0 : Rd 3 T_part_Step.E m A0 a0) {r : List T_part_Step} (e : slices_Clone_95 a0 = some r) : Run Try.prog 95 #[Value.slice A0 n0 c0] h (slices_Clone_95.post W h m r) := by
  unfold slices_Clone_95 at e
  subst ne0
  refine f95.run ?_
  unfold f95.runT
  cases A0 with
  | none =>
    refine split_t ?_
    obtain rfl := Rd.void r0
    obtain rfl : [] = r := by have := (ap_e e).2; simpa using this
    exact ⟨m, none, 0, 0, O.nil (aE T_part_Step.T) none, rfl, rfl⟩
  | some a =>
    refine split_f ?_
    refine O.new fun h1 x1 O1 => ?_
    refine O1.appE0 T_part_Step.T rfl rfl (r0.srcE T_part_Step.T O1.s rfl) (by decide) e fun A4 c4 h4 x4 O4 => ?_
    refine ⟨_, _, _, rfl, ?_⟩
    exact ⟨m, _, _, _, O4.pick [1], rfl, rfl⟩
theorem slices_Clone_95.val (l : List T_part_Step) (h : l.length * 24 ≤ 140737488355328) : slices_Clone_95 l = some l := ap_nil h
def slices_IndexFunc_137.post (W : Nat → Prop) (h0 m0 : Heap) (r : Int) (v : Value) (h : Heap) : Prop := ∃ m , Hold W h0 m0 h m [] ∧ v = .int .i64 r
inductive slices_IndexFunc_137.l0_k.Pt where
  | l0 (a_0 : List T_part_Step) (p_1 : T_part_Step → Option Bool) (x_7 : Int) (x_8 : Int)
noncomputable def slices_IndexFunc_137.l0_k.body (go : (p : slices_IndexFunc_137.l0_k.Pt) → Option (Int)) : (p : slices_IndexFunc_137.l0_k.Pt) → Option (Int)
  | .l0 a_0 p_1 x_7 x_8 => if x_8 < x_7 then (Option.bind (gi a_0 x_8) fun y1 => Option.bind (p_1 y1) fun y8 => if y8 = true then (some (x_8)) else ((go (.l0 a_0 p_1 x_7 (IntKind.wrap .i64 (x_8 + (1 : Int))))))) else (some ((-1 : Int)))
theorem slices_IndexFunc_137.l0_k.mono : MonoF (β := fun _ => (Int)) slices_IndexFunc_137.l0_k.body := fun f g hfg p => match p with
  | .l0 a_0 p_1 x_7 x_8 => LeO.ite (LeO.bind (LeO.refl _) fun y1 => LeO.bind (LeO.refl _) fun y8 => LeO.ite (LeO.refl _) ((hfg _))) (LeO.refl _)
noncomputable def slices_IndexFunc_137.l0_k.go (p : slices_IndexFunc_137.l0_k.Pt) : Option (Int) := fixF (β := fun _ => (Int)) slices_IndexFunc_137.l0_k.body p
noncomputable def slices_IndexFunc_137.l0 (a_0 : List T_part_Step) (p_1 : T_part_Step → Option Bool) (x_7 : Int) (x_8 : Int) : Option (Int) := slices_IndexFunc_137.l0_k.go (.l0 a_0 p_1 x_7 x_8)
theorem slices_IndexFunc_137.l0_eq (a_0 : List T_part_Step) (p_1 : T_part_Step → Option Bool) (x_7 : Int) (x_8 : Int) : slices_IndexFunc_137.l0 a_0 p_1 x_7 x_8 = if x_8 < x_7 then (Option.bind (gi a_0 x_8) fun y1 => Option.bind (p_1 y1) fun y8 => if y8 = true then (some (x_8)) else ((slices_IndexFunc_137.l0 a_0 p_1 x_7 (IntKind.wrap .i64 (x_8 + (1 : Int)))))) else (some ((-1 : Int))) := fixF_eq slices_IndexFunc_137.l0_k.mono _
def slices_IndexFunc_137.l0_k.I : (p : slices_IndexFunc_137.l0_k.Pt) → (Int) → Prop
  | .l0 a_0 p_1 x_7 x_8, r => ∀ (W : Nat → Prop) (h0 m0 h m : Heap) (A_0 : Option Addr) (n_0 c_0 : Nat) (fv_1 : Value) (O : Hold W h0 m0 h m []) (ne_0 : n_0 = List.length a_0) (k_0 : List.length a_0 ≤ c_0) (r_0 : Rd 3 T_part_Step.E m A_0 a_0) (f_1 : ∀ h' m', Sub m0 m' → Sub m' h' → ∀ (y0 : T_part_Step) (cs0 : List Value) (_ : T_part_Step.E m' y0 cs0) (r : Bool), p_1 y0 = some r → CallF Try.prog fv_1 [.agg cs0.toArray] h' (fun v h'' => v = .bool r ∧ Ext h' h'')), f137.l0 (slices_IndexFunc_137.post W h0 m0 r) A_0 n_0 c_0 fv_1 x_7 x_8 h
set_option maxRecDepth 100000 in
theorem slices_IndexFunc_137.l0_k.step_l0 (go : (p : slices_IndexFunc_137.l0_k.Pt) → Option (Int)) (ih : ∀ p r, go p = some r → slices_IndexFunc_137.l0_k.I p r) (a_0 : List T_part_Step) (p_1 : T_part_Step → Option Bool) (x_7 : Int) (x_8 : Int) (r : Int) (e : slices_IndexFunc_137.l0_k.body go (.l0 a_0 p_1 x_7 x_8) = some r) : slices_IndexFunc_137.l0_k.I (.l0 a_0 p_1 x_7 x_8) r := by
  unfold slices_IndexFunc_137.l0_k.body at e
  intro W h0 m0 h m A_0 n_0 c_0 fv_1 O ne_0 k_0 r_0 f_1
  subst ne_0
  refine f137.l0_in ?_
  unfold f137.l0T
  refine split_dec_e e (fun c14 e => ?_) (fun c14 e => ?_)
  · obtain ⟨y1, g2, e⟩ := bind_e e
    refine r_0.addr rfl g2 fun a3 cs4 ha5 hc6 he7 => ?_
    refine ⟨_, ldAn O.s hc6 rfl, ?_⟩
    obtain ⟨y8, g9, e⟩ := bind_e e
    refine CallF.mono (f_1 _ _ O.up O.s _ _ he7 _ g9) ?_
    rintro _ h10 ⟨rfl, x11⟩
    have O12 := O.ext x11
    refine ⟨_, rfl, ?_⟩
    refine split_any_e e (fun c13 e => ?_) (fun c13 e => ?_)
    · cases e
      exact ⟨_, O12.pick [], rfl⟩
    · exact (ih _ _ e) _ _ _ _ _ _ _ _ _ (O12.pick []).nm rfl k_0 r_0 f_1
  · cases e
    exact ⟨_, O.pick [], rfl⟩
theorem slices_IndexFunc_137.l0_k.all {p : slices_IndexFunc_137.l0_k.Pt} {r : (Int)} (e : slices_IndexFunc_137.l0_k.go p = some r) : slices_IndexFunc_137.l0_k.I p r := fixF_ind (β := fun _ => (Int)) slices_IndexFunc_137.l0_k.mono (I := slices_IndexFunc_137.l0_k.I) (fun go ih p r e => match p with
  | .l0 a_0 p_1 x_7 x_8 => slices_IndexFunc_137.l0_k.step_l0 go ih a_0 p_1 x_7 x_8 r e
  ) e
theorem slices_IndexFunc_137.l0.walk {W : Nat → Prop} {h0 m0 h m : Heap} {A_0 : Option Addr} {n_0 c_0 : Nat} {fv_1 : Value} {a_0 : List T_part_Step} {p_1 : T_part_Step → Option Bool} {x_7 : Int} {x_8 : Int} (O : Hold W h0 m0 h m []) (ne_0 : n_0 = List.length a_0) (k_0 : List.length a_0 ≤ c_0) (r_0 : Rd 3 T_part_Step.E m A_0 a_0) (f_1 : ∀ h' m', Sub m0 m' → Sub m' h' → ∀ (y0 : T_part_Step) (cs0 : List Value) (_ : T_part_Step.E m' y0 cs0) (r : Bool), p_1 y0 = some r → CallF Try.prog fv_1 [.agg cs0.toArray] h' (fun v h'' => v = .bool r ∧ Ext h' h'')) {r : Int} (e : slices_IndexFunc_137.l0 a_0 p_1 x_7 x_8 = some r) : f137.l0 (slices_IndexFunc_137.post W h0 m0 r) A_0 n_0 c_0 fv_1 x_7 x_8 h := slices_IndexFunc_137.l0_k.all (p := .l0 a_0 p_1 x_7 x_8) e W h0 m0 h m A_0 n_0 c_0 fv_1 O ne_0 k_0 r_0 f_1
noncomputable def slices_IndexFunc_137 (a_0 : List T_part_Step) (p_1 : T_part_Step → Option Bool) : Option (Int) :=
  (slices_IndexFunc_137.l0 a_0 p_1 (((List.length a_0) : Nat) : Int) (0 : Int))
set_option maxRecDepth 100000 in
theorem slices_IndexFunc_137.walk {W : Nat → Prop} {h m : Heap} {A_0 : Option Addr} {n_0 c_0 : Nat} {fv_1 : Value} {a_0 : List T_part_Step} {p_1 : T_part_Step → Option Bool} (O : Hold W h m h m []) (ne_0 : n_0 = List.length a_0) (k_0 : List.length a_0 ≤ c_0) (r_0 : Rd 3 T_part_Step.E m A_0 a_0) (f_1 : ∀ h' m', Sub m m' → Sub m' h' → ∀ (y0 : T_part_Step) (cs0 : List Value) (_ : T_part_Step.E m' y0 cs0) (r : Bool), p_1 y0 = some r → CallF Try.prog fv_1 [.agg cs0.toArray] h' (fun v h'' => v = .bool r ∧ Ext h' h'')) {r : Int} (e : slices_IndexFunc_137 a_0 p_1 = some r) : Run Try.prog 137 #[Value.slice A_0 n_0 c_0, fv_1] h (slices_IndexFunc_137.post W h m r) := by
  unfold slices_IndexFunc_137 at e
  subst ne_0
  refine f137.run ?_
  unfold f137.runT
  exact slices_IndexFunc_137.l0.walk (O.pick []).nm rfl k_0 r_0 f_1 e
def slices_ContainsFunc_96.post (W : Nat → Prop) (h0 m0 : Heap) (r : Bool) (v : Value) (h : Heap) : Prop := ∃ m , Hold W h0 m0 h m [] ∧ v = .bool r
noncomputable def slices_ContainsFunc_96 (a_0 : List T_part_Step) (p_1 : T_part_Step → Option Bool) : Option (Bool) :=
  Option.bind (slices_IndexFunc_137 a_0 p_1) fun y1 => some ((decide (y1 ≥ (0 : Int))))
set_option maxRecDepth 100000 in
theorem slices_ContainsFunc_96.walk {W : Nat → Prop} {h m : Heap} {A_0 : Option Addr} {n_0 c_0 : Nat} {fv_1 : Value} {a_0 : List T_part_Step} {p_1 : T_part_Step → Option Bool} (O : Hold W h m h m []) (ne_0 : n_0 = List.length a_0) (k_0 : List.length a_0 ≤ c_0) (r_0 : Rd 3 T_part_Step.E m A_0 a_0) (f_1 : ∀ h' m', Sub m m' → Sub m' h' → ∀ (y0 : T_part_Step) (cs0 : List Value) (_ : T_part_Step.E m' y0 cs0) (r : Bool), p_1 y0 = some r → CallF Try.prog fv_1 [.agg cs0.toArray] h' (fun v h'' => v = .bool r ∧ Ext h' h'')) {r : Bool} (e : slices_ContainsFunc_96 a_0 p_1 = some r) : Run Try.prog 96 #[Value.slice A_0 n_0 c_0, fv_1] h (slices_ContainsFunc_96.post W h m r) := by
  unfold slices_ContainsFunc_96 at e
  subst ne_0
  refine f96.run ?_
  unfold f96.runT
  obtain ⟨y1, g2, e⟩ := bind_e e
  refine (slices_IndexFunc_137.walk (Hold.start (W := No) O.s) rfl k_0 r_0 f_1 g2).mono ?_
  rintro _ h3 ⟨m4, Q5, rfl⟩
  have O7 := Hold.nm (O.retC Q5 vfs_nil)
  refine ⟨_, rfl, ?_⟩
  cases e
  exact ⟨_, O7.pick [], rfl⟩
theorem slices_ContainsFunc_96.val {l : List T_part_Step} {p : T_part_Step → Option Bool} (q : T_part_Step → Bool) (hp : ∀ x ∈ l, p x = some (q x)) (hl : l.length ≤ 4611686018427387904) : slices_ContainsFunc_96 l p = some (l.any q) := findB_val (fun a p n i => slices_IndexFunc_137.l0_eq a p n i) (fun _ _ => rfl) (fun _ _ => rfl) q hp hl
def part_Normal_1.post (W : Nat → Prop) (h0 m0 : Heap) (r : Bool) (v : Value) (h : Heap) : Prop := ∃ m , Hold W h0 m0 h m [] ∧ v = .bool r
noncomputable def part_Normal_1 (y_0 : T_part_Step) (y_1 : T_part_Step) : Option (Bool) :=
  Option.bind (part_depend y_0 y_1) fun y5 => some (y5)
set_option maxRecDepth 100000 in
theorem part_Normal_1.walk {W : Nat → Prop} {h m : Heap} {cs_0 : List Value} {bk_1 : Nat} {y_0 : T_part_Step} {y_1 : T_part_Step} (O : Hold W h m h m []) (e_0 : T_part_Step.E m y_0 cs_0) (v_1 : VB T_part_Step.E m bk_1 y_1) {r : Bool} (e : part_Normal_1 y_0 y_1 = some r) : Run Try.prog 97 #[Value.agg cs_0.toArray, Value.pointer (some ⟨bk_1, 0, none⟩)] h (part_Normal_1.post W h m r) := by
  unfold part_Normal_1 at e
  obtain ⟨cs_1, t_1, hb_1, nn_1, e_1⟩ := id v_1
  refine f97.run ?_
  unfold f97.runT
  refine O.new fun h1 x2 O3 => ?_
  refine ⟨_, ldAn (Sub.refl _) (O3.all 0 rfl) (T_part_Step.T.len _ _ _ e_0), ?_⟩
  refine ⟨_, ldAn O3.s (Blk.all' hb_1) (T_part_Step.T.len _ _ _ e_1), ?_⟩
  obtain ⟨y5, g6, e⟩ := bind_e e
  refine (part_depend.walk (Hold.start (W := No) O3.s) e_0 e_1 g6).mono ?_
  rintro _ h7 ⟨m8, Q9, rfl⟩
  have O11 := Hold.nm (O3.retC Q9 vfs_nil)
  refine ⟨_, rfl, ?_⟩
  cases e
  exact ⟨_, O11.pick [], rfl⟩
def slices_Delete_98.post (W : Nat → Prop) (h0 m0 : Heap) (r : (List T_part_Step)) (v : Value) (h : Heap) : Prop := ∃ m A0 n0 c0, Hold W h0 m0 h m [rR (aE T_part_Step.T) A0 c0 r] ∧ v = .slice A0 n0 c0 ∧ n0 = List.length r
noncomputable def slices_Delete_98 (a0 : List T_part_Step) (x1 x2 : Int) : Option (List T_part_Step) := if 0 ≤ x1 ∧ x1 ≤ x2 ∧ x2 ≤ ((List.length a0 : Nat) : Int) then some (List.take (Int.toNat x1) a0 ++ List.drop (Int.toNat x2) a0) else none
set_option maxRecDepth 100000 in
theorem slices_Delete_98.walk {W : Nat → Prop} {h m : Heap} {A0 : Option Addr} {n0 c0 : Nat} {a0 : List T_part_Step} {x1 x2 : Int} (O : Hold W h m h m [rR (aE T_part_Step.T) A0 c0 a0]) (ne0 : n0 = List.length a0) {r : List T_part_Step} (e : slices_Delete_98 a0 x1 x2 = some r) : Run Try.prog 98 #[Value.slice A0 n0 c0, Value.int .i64 x1, Value.int .i64 x2] h (slices_Delete_98.post W h m r) := by
  unfold slices_Delete_98 at e
  subst ne0
  obtain ⟨g, e⟩ := guard_e e
  cases e
  refine f98.run ?_
  unfold f98.runT
  exact delete_ok (e := 71) (zv := (Value.agg #[(Value.int .i64 (0 : Int)), (Value.int .i64 (0 : Int)), (Value.int .i64 (0 : Int))])) (zp := (T_part_Step.mk (0 : Int) (0 : Int) (0 : Int))) O 0 rfl (by kernel_rfl) (by kernel_rfl) (show T_part_Step.E m (T_part_Step.mk (0 : Int) (0 : Int) (0 : Int)) [(Value.int .i64 (0 : Int)), (Value.int .i64 (0 : Int)), (Value.int .i64 (0 : Int))] from (show T_part_Step.E _ (T_part_Step.mk (0 : Int) (0 : Int) (0 : Int)) [(Value.int .i64 (0 : Int)), (Value.int .i64 (0 : Int)), (Value.int .i64 (0 : Int))] from rfl)) g fun h' O' => ⟨m, _, _, _, O'.pick [0], rfl, rfl⟩
def part_Normal.post (W : Nat → Prop) (h0 m0 : Heap) (r : (List T_part_Step) × Int) (v : Value) (h : Heap) : Prop := ∃ m A0 n0 c0, Hold W h0 m0 h m [rR (aE T_part_Step.T) A0 c0 r.1] ∧ v = .tuple #[.slice A0 n0 c0, .int .i64 r.2] ∧ n0 = List.length r.1
inductive part_Normal.l0_k.Pt where
  | l0 (a_5 : List T_part_Step) (a_6 : List T_part_Step)
  | l1 (a_5 : List T_part_Step) (a_6 : List T_part_Step) (x_7 : Int) (x_22 : Int) (x_23 : Int)
  | j0 (a_5 : List T_part_Step) (a_6 : List T_part_Step) (x_7 : Int) (x_8 : Int) (x_22 : Int) (x_23 : Int) (b_48 : Bool)
noncomputable def part_Normal.l0_k.body (go : (p : part_Normal.l0_k.Pt) → Option ((List T_part_Step) × Int)) : (p : part_Normal.l0_k.Pt) → Option ((List T_part_Step) × Int)
  | .l0 a_5 a_6 => if (((List.length a_5) : Nat) : Int) > (0 : Int) then ((go (.l1 a_5 a_6 (-1 : Int) (((List.length a_5) : Nat) : Int) (0 : Int)))) else (some (a_6, (0 : Int)))
  | .l1 a_5 a_6 x_7 x_22 x_23 => if x_23 < x_22 then (Option.bind (gi a_5 x_23) fun y1 => Option.bind (sls a_5 (0 : Int) x_23) fun l14 => Option.bind (slices_ContainsFunc_96 l14 (fun z32 => part_Normal_1 z32 y1)) fun y17 => if y17 = true then ((go (.j0 a_5 a_6 x_7 x_23 x_22 x_23 false))) else (if x_7 < (0 : Int) then ((go (.j0 a_5 a_6 x_7 x_23 x_22 x_23 true))) else (Option.bind (gi a_5 x_7) fun y41 => (go (.j0 a_5 a_6 x_7 x_23 x_22 x_23 (decide (y1.Who < y41.Who))))))) else (Option.bind (gi a_5 x_7) fun y50 => Option.bind (ap 24 a_6 ([y50] : List T_part_Step)) fun l62 => Option.bind (slices_Delete_98 a_5 x_7 (IntKind.wrap .i64 (x_7 + (1 : Int)))) fun y71 => (go (.l0 y71 l62)))
  | .j0 a_5 a_6 x_7 x_8 x_22 x_23 b_48 => if b_48 = true then ((go (.l1 a_5 a_6 x_8 x_22 (IntKind.wrap .i64 (x_23 + (1 : Int)))))) else ((go (.l1 a_5 a_6 x_7 x_22 (IntKind.wrap .i64 (x_23 + (1 : Int))))))
theorem part_Normal.l0_k.mono : MonoF (β := fun _ => ((List T_part_Step) × Int)) part_Normal.l0_k.body := fun f g hfg p => match p with
  | .l0 a_5 a_6 => LeO.ite ((hfg _)) (LeO.refl _)
  | .l1 a_5 a_6 x_7 x_22 x_23 => LeO.ite (LeO.bind (LeO.refl _) fun y1 => LeO.bind (LeO.refl _) fun l14 => LeO.bind (LeO.refl _) fun y17 => LeO.ite ((hfg _)) (LeO.ite ((hfg _)) (LeO.bind (LeO.refl _) fun y41 => (hfg _)))) (LeO.bind (LeO.refl _) fun y50 => LeO.bind (LeO.refl _) fun l62 => LeO.bind (LeO.refl _) fun y71 => (hfg _))
  | .j0 a_5 a_6 x_7 x_8 x_22 x_23 b_48 => LeO.ite ((hfg _)) ((hfg _))
noncomputable def part_Normal.l0_k.go (p : part_Normal.l0_k.Pt) : Option ((List T_part_Step) × Int) := fixF (β := fun _ => ((List T_part_Step) × Int)) part_Normal.l0_k.body p
noncomputable def part_Normal.l0 (a_5 : List T_part_Step) (a_6 : List T_part_Step) : Option ((List T_part_Step) × Int) := part_Normal.l0_k.go (.l0 a_5 a_6)
noncomputable def part_Normal.l1 (a_5 : List T_part_Step) (a_6 : List T_part_Step) (x_7 : Int) (x_22 : Int) (x_23 : Int) : Option ((List T_part_Step) × Int) := part_Normal.l0_k.go (.l1 a_5 a_6 x_7 x_22 x_23)
noncomputable def part_Normal.j0 (a_5 : List T_part_Step) (a_6 : List T_part_Step) (x_7 : Int) (x_8 : Int) (x_22 : Int) (x_23 : Int) (b_48 : Bool) : Option ((List T_part_Step) × Int) := part_Normal.l0_k.go (.j0 a_5 a_6 x_7 x_8 x_22 x_23 b_48)
theorem part_Normal.l0_eq (a_5 : List T_part_Step) (a_6 : List T_part_Step) : part_Normal.l0 a_5 a_6 = if (((List.length a_5) : Nat) : Int) > (0 : Int) then ((part_Normal.l1 a_5 a_6 (-1 : Int) (((List.length a_5) : Nat) : Int) (0 : Int))) else (some (a_6, (0 : Int))) := fixF_eq part_Normal.l0_k.mono _
theorem part_Normal.l1_eq (a_5 : List T_part_Step) (a_6 : List T_part_Step) (x_7 : Int) (x_22 : Int) (x_23 : Int) : part_Normal.l1 a_5 a_6 x_7 x_22 x_23 = if x_23 < x_22 then (Option.bind (gi a_5 x_23) fun y1 => Option.bind (sls a_5 (0 : Int) x_23) fun l14 => Option.bind (slices_ContainsFunc_96 l14 (fun z32 => part_Normal_1 z32 y1)) fun y17 => if y17 = true then ((part_Normal.j0 a_5 a_6 x_7 x_23 x_22 x_23 false)) else (if x_7 < (0 : Int) then ((part_Normal.j0 a_5 a_6 x_7 x_23 x_22 x_23 true)) else (Option.bind (gi a_5 x_7) fun y41 => (part_Normal.j0 a_5 a_6 x_7 x_23 x_22 x_23 (decide (y1.Who < y41.Who)))))) else (Option.bind (gi a_5 x_7) fun y50 => Option.bind (ap 24 a_6 ([y50] : List T_part_Step)) fun l62 => Option.bind (slices_Delete_98 a_5 x_7 (IntKind.wrap .i64 (x_7 + (1 : Int)))) fun y71 => (part_Normal.l0 y71 l62)) := fixF_eq part_Normal.l0_k.mono _
theorem part_Normal.j0_eq (a_5 : List T_part_Step) (a_6 : List T_part_Step) (x_7 : Int) (x_8 : Int) (x_22 : Int) (x_23 : Int) (b_48 : Bool) : part_Normal.j0 a_5 a_6 x_7 x_8 x_22 x_23 b_48 = if b_48 = true then ((part_Normal.l1 a_5 a_6 x_8 x_22 (IntKind.wrap .i64 (x_23 + (1 : Int))))) else ((part_Normal.l1 a_5 a_6 x_7 x_22 (IntKind.wrap .i64 (x_23 + (1 : Int))))) := fixF_eq part_Normal.l0_k.mono _
def part_Normal.l0_k.I : (p : part_Normal.l0_k.Pt) → ((List T_part_Step) × Int) → Prop
  | .l0 a_5 a_6, r => ∀ (W : Nat → Prop) (h0 m0 h m : Heap) (A_5 : Option Addr) (n_5 c_5 : Nat) (A_6 : Option Addr) (n_6 c_6 : Nat) (O : Hold W h0 m0 h m [rR (aE T_part_Step.T) A_5 c_5 a_5, rR (aE T_part_Step.T) A_6 c_6 a_6]) (ne_5 : n_5 = List.length a_5) (ne_6 : n_6 = List.length a_6), f37.l0 (part_Normal.post W h0 m0 r) A_5 n_5 c_5 A_6 n_6 c_6 h
  | .l1 a_5 a_6 x_7 x_22 x_23, r => ∀ (W : Nat → Prop) (h0 m0 h m : Heap) (A_5 : Option Addr) (n_5 c_5 : Nat) (A_6 : Option Addr) (n_6 c_6 : Nat) (O : Hold W h0 m0 h m [rR (aE T_part_Step.T) A_5 c_5 a_5, rR (aE T_part_Step.T) A_6 c_6 a_6]) (ne_5 : n_5 = List.length a_5) (ne_6 : n_6 = List.length a_6), f37.l1 (part_Normal.post W h0 m0 r) A_5 n_5 c_5 A_6 n_6 c_6 x_7 A_5 n_5 c_5 x_22 x_23 h
  | .j0 a_5 a_6 x_7 x_8 x_22 x_23 b_48, r => ∀ (W : Nat → Prop) (h0 m0 h m : Heap) (A_5 : Option Addr) (n_5 c_5 : Nat) (A_6 : Option Addr) (n_6 c_6 : Nat) (O : Hold W h0 m0 h m [rR (aE T_part_Step.T) A_5 c_5 a_5, rR (aE T_part_Step.T) A_6 c_6 a_6]) (ne_5 : n_5 = List.length a_5) (ne_6 : n_6 = List.length a_6), f37.j0 (part_Normal.post W h0 m0 r) A_5 n_5 c_5 A_6 n_6 c_6 x_7 x_8 A_5 n_5 c_5 x_22 x_23 b_48 h
set_option maxRecDepth 100000 in
theorem part_Normal.l0_k.step_l0 (go : (p : part_Normal.l0_k.Pt) → Option ((List T_part_Step) × Int)) (ih : ∀ p r, go p = some r → part_Normal.l0_k.I p r) (a_5 : List T_part_Step) (a_6 : List T_part_Step) (r : (List T_part_Step) × Int) (e : part_Normal.l0_k.body go (.l0 a_5 a_6) = some r) : part_Normal.l0_k.I (.l0 a_5 a_6) r := by
  unfold part_Normal.l0_k.body at e
  intro W h0 m0 h m A_5 n_5 c_5 A_6 n_6 c_6 O ne_5 ne_6
  subst ne_5
  subst ne_6
  refine f37.l0_in ?_
  unfold f37.l0T
  refine split_dec_e e (fun c1 e => ?_) (fun c1 e => ?_)
  · exact (ih _ _ e) _ _ _ _ _ _ _ _ _ _ _ (O.pick [0, 1]).nm rfl rfl
  · cases e
    exact ⟨_, _, _, _, O.pick [1], rfl, rfl⟩
set_option maxHeartbeats 4000000 in
set_option maxRecDepth 100000 in
theorem part_Normal.l0_k.step_l1 (go : (p : part_Normal.l0_k.Pt) → Option ((List T_part_Step) × Int)) (ih : ∀ p r, go p = some r → part_Normal.l0_k.I p r) (a_5 : List T_part_Step) (a_6 : List T_part_Step) (x_7 : Int) (x_22 : Int) (x_23 : Int) (r : (List T_part_Step) × Int) (e : part_Normal.l0_k.body go (.l1 a_5 a_6 x_7 x_22 x_23) = some r) : part_Normal.l0_k.I (.l1 a_5 a_6 x_7 x_22 x_23) r := by
  unfold part_Normal.l0_k.body at e
  intro W h0 m0 h m A_5 n_5 c_5 A_6 n_6 c_6 O ne_5 ne_6
  subst ne_5
  subst ne_6
  refine f37.l1_in ?_
  unfold f37.l1T
  refine split_dec_e e (fun c88 e => ?_) (fun c88 e => ?_)
  · obtain ⟨y1, g2, e⟩ := bind_e e
    refine (O.os 0 rfl).addr rfl g2 fun a3 cs4 ha5 hc6 he7 => ?_
    refine ⟨_, ldAn (Sub.refl _) hc6 rfl, ?_⟩
    refine O.new fun h8 x9 O10 => ?_
    refine ⟨_, rfl, (T_part_Step.T.len _ _ _ he7), ?_⟩
    refine O10.stA 2 rfl (T_part_Step.T.len _ _ _ he7) (T_part_Step.T.flat _ _ _ he7) fun h12 O13 => ?_
    obtain ⟨l14, g15, e⟩ := bind_e e
    have q16 := sls_e g15
    refine ⟨q16.1, q16.2.1, cap_in q16.2.2.1 (O13.cap 0 rfl), ?_⟩
    try rw [q16.2.2.2.1]
    obtain ⟨y17, g18, e⟩ := bind_e e
    have O23 := O13.nm
    obtain ⟨m24, u25, s31, ⟨⟨r28, k29⟩, hb30, _⟩, B26, C27⟩ := O23.lend0 [0, 2]
    replace r28 : Rd 3 T_part_Step.E m24 A_5 a_5 := r28
    replace k29 : List.length a_5 ≤ c_5 := k29
    refine (slices_ContainsFunc_96.walk (Hold.start (W := No) s31) rfl (sls_cap g15 k29) (r28.sls g15 (le_mx q16.2.2.1 k29)) (fun h33 m34 u35 s36 y39 cs39 he39 r37 e38 => CallF.of [Value.agg cs39.toArray, Value.pointer (some ⟨(Array.size h), 0, none⟩)] f97.ok rfl ((part_Normal_1.walk (Hold.start (W := No) s36) he39 (VB.sub (show VB T_part_Step.E _ _ _ from ⟨_, _, hb30, nn_len (T_part_Step.T.len _ _ _ he7), (T_part_Step.T.mono _ _ _ _ u25 he7)⟩) T_part_Step.T u35) e38).mono (fun _ _ h => let ⟨_, t, e⟩ := h; ⟨e, t.S.ext⟩))) g18).mono ?_
    rintro _ h19 ⟨m20, Q21, rfl⟩
    have O40 := Hold.nm (C27 Q21 vfs_nil)
    refine ⟨_, rfl, ?_⟩
    refine split_not ?_
    refine split_any_e e (fun c49 e => ?_) (fun c49 e => ?_)
    · exact (ih _ _ e) _ _ _ _ _ _ _ _ _ _ _ (O40.pick [0, 1]).nm rfl rfl
    · refine split_dec_e e (fun c48 e => ?_) (fun c48 e => ?_)
      · exact (ih _ _ e) _ _ _ _ _ _ _ _ _ _ _ (O40.pick [0, 1]).nm rfl rfl
      · obtain ⟨y41, g42, e⟩ := bind_e e
        refine (O40.os 0 rfl).addr rfl g42 fun a43 cs44 ha45 hc46 he47 => ?_
        refine ⟨_, ld0 (Sub.refl _) (O40.all 2 rfl) (T_part_Step.g0 he7), _, rfl, ?_⟩
        refine ⟨_, ld0 (Sub.refl _) hc46 (T_part_Step.g0 he47), _, rfl, ?_⟩
        exact (ih _ _ e) _ _ _ _ _ _ _ _ _ _ _ (O40.pick [0, 1]).nm rfl rfl
  · obtain ⟨y50, g51, e⟩ := bind_e e
    refine (O.os 0 rfl).addr rfl g51 fun a52 cs53 ha54 hc55 he56 => ?_
    refine ⟨_, ldAn (Sub.refl _) hc55 rfl, ?_⟩
    refine ⟨cs53, rfl, (T_part_Step.T.len _ _ _ he56), ?_⟩
    refine O.new fun h57 x58 O59 => ?_
    have O61 := O59.recell 2 rfl (cs' := cs53 ++ []) rfl
    obtain ⟨l62, g63, e⟩ := bind_e e
    have O70 := O61.rowE (l := ([y50] : List T_part_Step)) 2 rfl T_part_Step.T (show CsE _ _ _ _ _ from (CsE.cons he56 (T_part_Step.T.len _ _ _ he56) CsE.nil)) rfl
    refine O70.app 1 rfl rfl rfl ((O70.os 2 rfl).srcE rfl) (by decide) g63 fun A64 c65 h66 O67 => ?_
    refine ⟨_, _, _, rfl, ?_⟩
    obtain ⟨y71, g72, e⟩ := bind_e e
    have O77 := O67.nm
    obtain ⟨W78, P79, B80, C81⟩ := O77.callC [0]
    refine (slices_Delete_98.walk P79 rfl g72).mono ?_
    rintro _ h73 ⟨m74, A82, n83, c84, Q75, rfl, ne85⟩
    have O87 := Hold.nm (C81 Q75 (vfs_cons (rR_vf (aE_vf (fun _ _ _ _ h => T_part_Step.keep h))) vfs_nil))
    subst ne85
    refine ⟨_, _, _, rfl, ?_⟩
    exact (ih _ _ e) _ _ _ _ _ _ _ _ _ _ _ (O87.pick [3, 1]).nm rfl rfl
set_option maxRecDepth 100000 in
theorem part_Normal.l0_k.step_j0 (go : (p : part_Normal.l0_k.Pt) → Option ((List T_part_Step) × Int)) (ih : ∀ p r, go p = some r → part_Normal.l0_k.I p r) (a_5 : List T_part_Step) (a_6 : List T_part_Step) (x_7 : Int) (x_8 : Int) (x_22 : Int) (x_23 : Int) (b_48 : Bool) (r : (List T_part_Step) × Int) (e : part_Normal.l0_k.body go (.j0 a_5 a_6 x_7 x_8 x_22 x_23 b_48) = some r) : part_Normal.l0_k.I (.j0 a_5 a_6 x_7 x_8 x_22 x_23 b_48) r := by
  unfold part_Normal.l0_k.body at e
  intro W h0 m0 h m A_5 n_5 c_5 A_6 n_6 c_6 O ne_5 ne_6
  subst ne_5
  subst ne_6
  refine f37.j0_in ?_
  unfold f37.j0T
  refine split_any_e e (fun c1 e => ?_) (fun c1 e => ?_)
  · exact (ih _ _ e) _ _ _ _ _ _ _ _ _ _ _ (O.pick [0, 1]).nm rfl rfl
  · exact (ih _ _ e) _ _ _ _ _ _ _ _ _ _ _ (O.pick [0, 1]).nm rfl rfl
theorem part_Normal.l0_k.all {p : part_Normal.l0_k.Pt} {r : ((List T_part_Step) × Int)} (e : part_Normal.l0_k.go p = some r) : part_Normal.l0_k.I p r := fixF_ind (β := fun _ => ((List T_part_Step) × Int)) part_Normal.l0_k.mono (I := part_Normal.l0_k.I) (fun go ih p r e => match p with
  | .l0 a_5 a_6 => part_Normal.l0_k.step_l0 go ih a_5 a_6 r e
  | .l1 a_5 a_6 x_7 x_22 x_23 => part_Normal.l0_k.step_l1 go ih a_5 a_6 x_7 x_22 x_23 r e
  | .j0 a_5 a_6 x_7 x_8 x_22 x_23 b_48 => part_Normal.l0_k.step_j0 go ih a_5 a_6 x_7 x_8 x_22 x_23 b_48 r e
  ) e
theorem part_Normal.l0.walk {W : Nat → Prop} {h0 m0 h m : Heap} {A_5 : Option Addr} {n_5 c_5 : Nat} {A_6 : Option Addr} {n_6 c_6 : Nat} {a_5 : List T_part_Step} {a_6 : List T_part_Step} (O : Hold W h0 m0 h m [rR (aE T_part_Step.T) A_5 c_5 a_5, rR (aE T_part_Step.T) A_6 c_6 a_6]) (ne_5 : n_5 = List.length a_5) (ne_6 : n_6 = List.length a_6) {r : (List T_part_Step) × Int} (e : part_Normal.l0 a_5 a_6 = some r) : f37.l0 (part_Normal.post W h0 m0 r) A_5 n_5 c_5 A_6 n_6 c_6 h := part_Normal.l0_k.all (p := .l0 a_5 a_6) e W h0 m0 h m A_5 n_5 c_5 A_6 n_6 c_6 O ne_5 ne_6
noncomputable def part_Normal (a_0 : List T_part_Step) : Option ((List T_part_Step) × Int) :=
  Option.bind (part_Check a_0) fun y1 => if y1 = (0 : Int) then (Option.bind (slices_Clone_95 a_0) fun y11 => (part_Normal.l0 y11 ([] : List T_part_Step))) else (some (([] : List T_part_Step), y1))
set_option maxRecDepth 100000 in
theorem part_Normal.walk {W : Nat → Prop} {h m : Heap} {A_0 : Option Addr} {n_0 c_0 : Nat} {a_0 : List T_part_Step} (O : Hold W h m h m []) (ne_0 : n_0 = List.length a_0) (k_0 : List.length a_0 ≤ c_0) (r_0 : Rd 3 T_part_Step.E m A_0 a_0) {r : (List T_part_Step) × Int} (e : part_Normal a_0 = some r) : Run Try.prog 37 #[Value.slice A_0 n_0 c_0] h (part_Normal.post W h m r) := by
  unfold part_Normal at e
  subst ne_0
  refine f37.run ?_
  unfold f37.runT
  obtain ⟨y1, g2, e⟩ := bind_e e
  refine (part_Check.walk (Hold.start (W := No) O.s) rfl k_0 r_0 g2).mono ?_
  rintro _ h3 ⟨m4, Q5, rfl⟩
  have O7 := Hold.nm (O.retC Q5 vfs_nil)
  refine ⟨_, rfl, ?_⟩
  refine split_ne_e e (fun c26 e => ?_) (fun c26 e => ?_)
  · have O8 := O7.nil (aE T_part_Step.T) none
    have O10 := O8.nm
    cases e
    exact ⟨_, _, _, _, O10.pick [0], rfl, rfl⟩
  · obtain ⟨y11, g12, e⟩ := bind_e e
    refine (slices_Clone_95.walk (Hold.start (W := No) O7.s) rfl k_0 r_0 g12).mono ?_
    rintro _ h13 ⟨m14, A17, n18, c19, Q15, rfl, ne20⟩
    have O22 := Hold.nm (O7.retC Q15 (vfs_cons (rR_vf (aE_vf (fun _ _ _ _ h => T_part_Step.keep h))) vfs_nil))
    subst ne20
    refine ⟨_, _, _, rfl, ?_⟩
    have O23 := O22.nil (aE T_part_Step.T) none
    have O25 := O23.nm
    exact part_Normal.l0.walk (O25.pick [0, 1]).nm rfl rfl e
def part_Swaps.post (W : Nat → Prop) (h0 m0 : Heap) (r : Int × Int) (v : Value) (h : Heap) : Prop := ∃ m , Hold W h0 m0 h m [] ∧ v = .tuple #[.int .i64 r.1, .int .i64 r.2]
inductive part_Swaps.l0_k.Pt where
  | l0 (a_0 : List T_part_Step) (x_5 : Int) (x_14 : Int) (x_15 : Int)
  | l1 (a_0 : List T_part_Step) (x_5 : Int) (x_6 : Int) (x_14 : Int) (x_15 : Int) (x_18 : Int) (x_19 : Int)
noncomputable def part_Swaps.l0_k.body (go : (p : part_Swaps.l0_k.Pt) → Option (Int × Int)) : (p : part_Swaps.l0_k.Pt) → Option (Int × Int)
  | .l0 a_0 x_5 x_14 x_15 => if x_15 < x_14 then ((go (.l1 a_0 x_5 x_15 x_14 x_15 x_15 (0 : Int)))) else (some (x_5, (0 : Int)))
  | .l1 a_0 x_5 x_6 x_14 x_15 x_18 x_19 => if x_19 < x_18 then (Option.bind (gi a_0 x_19) fun y1 => Option.bind (gi a_0 x_6) fun y8 => Option.bind (part_depend y1 y8) fun y15 => if y15 = true then ((go (.l1 a_0 x_5 x_6 x_14 x_15 x_18 (IntKind.wrap .i64 (x_19 + (1 : Int)))))) else ((go (.l1 a_0 (IntKind.wrap .i64 (x_5 + (1 : Int))) x_6 x_14 x_15 x_18 (IntKind.wrap .i64 (x_19 + (1 : Int))))))) else ((go (.l0 a_0 x_5 x_14 (IntKind.wrap .i64 (x_15 + (1 : Int))))))
theorem part_Swaps.l0_k.mono : MonoF (β := fun _ => (Int × Int)) part_Swaps.l0_k.body := fun f g hfg p => match p with
  | .l0 a_0 x_5 x_14 x_15 => LeO.ite ((hfg _)) (LeO.refl _)
  | .l1 a_0 x_5 x_6 x_14 x_15 x_18 x_19 => LeO.ite (LeO.bind (LeO.refl _) fun y1 => LeO.bind (LeO.refl _) fun y8 => LeO.bind (LeO.refl _) fun y15 => LeO.ite ((hfg _)) ((hfg _))) ((hfg _))
noncomputable def part_Swaps.l0_k.go (p : part_Swaps.l0_k.Pt) : Option (Int × Int) := fixF (β := fun _ => (Int × Int)) part_Swaps.l0_k.body p
noncomputable def part_Swaps.l0 (a_0 : List T_part_Step) (x_5 : Int) (x_14 : Int) (x_15 : Int) : Option (Int × Int) := part_Swaps.l0_k.go (.l0 a_0 x_5 x_14 x_15)
noncomputable def part_Swaps.l1 (a_0 : List T_part_Step) (x_5 : Int) (x_6 : Int) (x_14 : Int) (x_15 : Int) (x_18 : Int) (x_19 : Int) : Option (Int × Int) := part_Swaps.l0_k.go (.l1 a_0 x_5 x_6 x_14 x_15 x_18 x_19)
theorem part_Swaps.l0_eq (a_0 : List T_part_Step) (x_5 : Int) (x_14 : Int) (x_15 : Int) : part_Swaps.l0 a_0 x_5 x_14 x_15 = if x_15 < x_14 then ((part_Swaps.l1 a_0 x_5 x_15 x_14 x_15 x_15 (0 : Int))) else (some (x_5, (0 : Int))) := fixF_eq part_Swaps.l0_k.mono _
theorem part_Swaps.l1_eq (a_0 : List T_part_Step) (x_5 : Int) (x_6 : Int) (x_14 : Int) (x_15 : Int) (x_18 : Int) (x_19 : Int) : part_Swaps.l1 a_0 x_5 x_6 x_14 x_15 x_18 x_19 = if x_19 < x_18 then (Option.bind (gi a_0 x_19) fun y1 => Option.bind (gi a_0 x_6) fun y8 => Option.bind (part_depend y1 y8) fun y15 => if y15 = true then ((part_Swaps.l1 a_0 x_5 x_6 x_14 x_15 x_18 (IntKind.wrap .i64 (x_19 + (1 : Int))))) else ((part_Swaps.l1 a_0 (IntKind.wrap .i64 (x_5 + (1 : Int))) x_6 x_14 x_15 x_18 (IntKind.wrap .i64 (x_19 + (1 : Int)))))) else ((part_Swaps.l0 a_0 x_5 x_14 (IntKind.wrap .i64 (x_15 + (1 : Int))))) := fixF_eq part_Swaps.l0_k.mono _
def part_Swaps.l0_k.I : (p : part_Swaps.l0_k.Pt) → (Int × Int) → Prop
  | .l0 a_0 x_5 x_14 x_15, r => ∀ (W : Nat → Prop) (h0 m0 h m : Heap) (A_0 : Option Addr) (n_0 c_0 : Nat) (O : Hold W h0 m0 h m []) (ne_0 : n_0 = List.length a_0) (k_0 : List.length a_0 ≤ c_0) (r_0 : Rd 3 T_part_Step.E m A_0 a_0), f38.l0 (part_Swaps.post W h0 m0 r) A_0 n_0 c_0 x_5 x_14 x_15 h
  | .l1 a_0 x_5 x_6 x_14 x_15 x_18 x_19, r => ∀ (W : Nat → Prop) (h0 m0 h m : Heap) (A_0 : Option Addr) (n_0 c_0 : Nat) (O : Hold W h0 m0 h m []) (ne_0 : n_0 = List.length a_0) (k_0 : List.length a_0 ≤ c_0) (r_0 : Rd 3 T_part_Step.E m A_0 a_0), f38.l1 (part_Swaps.post W h0 m0 r) A_0 n_0 c_0 x_5 x_6 x_14 x_15 x_18 x_19 h
set_option maxRecDepth 100000 in
theorem part_Swaps.l0_k.step_l0 (go : (p : part_Swaps.l0_k.Pt) → Option (Int × Int)) (ih : ∀ p r, go p = some r → part_Swaps.l0_k.I p r) (a_0 : List T_part_Step) (x_5 : Int) (x_14 : Int) (x_15 : Int) (r : Int × Int) (e : part_Swaps.l0_k.body go (.l0 a_0 x_5 x_14 x_15) = some r) : part_Swaps.l0_k.I (.l0 a_0 x_5 x_14 x_15) r := by
  unfold part_Swaps.l0_k.body at e
  intro W h0 m0 h m A_0 n_0 c_0 O ne_0 k_0 r_0
  subst ne_0
  refine f38.l0_in ?_
  unfold f38.l0T
  refine split_dec_e e (fun c1 e => ?_) (fun c1 e => ?_)
  · exact (ih _ _ e) _ _ _ _ _ _ _ _ (O.pick []).nm rfl k_0 r_0
  · cases e
    exact ⟨_, O.pick [], rfl⟩
set_option maxRecDepth 100000 in
theorem part_Swaps.l0_k.step_l1 (go : (p : part_Swaps.l0_k.Pt) → Option (Int × Int)) (ih : ∀ p r, go p = some r → part_Swaps.l0_k.I p r) (a_0 : List T_part_Step) (x_5 : Int) (x_6 : Int) (x_14 : Int) (x_15 : Int) (x_18 : Int) (x_19 : Int) (r : Int × Int) (e : part_Swaps.l0_k.body go (.l1 a_0 x_5 x_6 x_14 x_15 x_18 x_19) = some r) : part_Swaps.l0_k.I (.l1 a_0 x_5 x_6 x_14 x_15 x_18 x_19) r := by
  unfold part_Swaps.l0_k.body at e
  intro W h0 m0 h m A_0 n_0 c_0 O ne_0 k_0 r_0
  subst ne_0
  refine f38.l1_in ?_
  unfold f38.l1T
  refine split_dec_e e (fun c23 e => ?_) (fun c23 e => ?_)
  · obtain ⟨y1, g2, e⟩ := bind_e e
    refine r_0.addr rfl g2 fun a3 cs4 ha5 hc6 he7 => ?_
    obtain ⟨y8, g9, e⟩ := bind_e e
    refine r_0.addr rfl g9 fun a10 cs11 ha12 hc13 he14 => ?_
    refine ⟨_, ldAn O.s hc6 rfl, ?_⟩
    refine ⟨_, ldAn O.s hc13 rfl, ?_⟩
    obtain ⟨y15, g16, e⟩ := bind_e e
    refine (part_depend.walk (Hold.start (W := No) O.s) he7 he14 g16).mono ?_
    rintro _ h17 ⟨m18, Q19, rfl⟩
    have O21 := Hold.nm (O.retC Q19 vfs_nil)
    refine ⟨_, rfl, ?_⟩
    refine split_not ?_
    refine split_any_e e (fun c22 e => ?_) (fun c22 e => ?_)
    · exact (ih _ _ e) _ _ _ _ _ _ _ _ (O21.pick []).nm rfl k_0 r_0
    · exact (ih _ _ e) _ _ _ _ _ _ _ _ (O21.pick []).nm rfl k_0 r_0
  · exact (ih _ _ e) _ _ _ _ _ _ _ _ (O.pick []).nm rfl k_0 r_0
theorem part_Swaps.l0_k.all {p : part_Swaps.l0_k.Pt} {r : (Int × Int)} (e : part_Swaps.l0_k.go p = some r) : part_Swaps.l0_k.I p r := fixF_ind (β := fun _ => (Int × Int)) part_Swaps.l0_k.mono (I := part_Swaps.l0_k.I) (fun go ih p r e => match p with
  | .l0 a_0 x_5 x_14 x_15 => part_Swaps.l0_k.step_l0 go ih a_0 x_5 x_14 x_15 r e
  | .l1 a_0 x_5 x_6 x_14 x_15 x_18 x_19 => part_Swaps.l0_k.step_l1 go ih a_0 x_5 x_6 x_14 x_15 x_18 x_19 r e
  ) e
theorem part_Swaps.l0.walk {W : Nat → Prop} {h0 m0 h m : Heap} {A_0 : Option Addr} {n_0 c_0 : Nat} {a_0 : List T_part_Step} {x_5 : Int} {x_14 : Int} {x_15 : Int} (O : Hold W h0 m0 h m []) (ne_0 : n_0 = List.length a_0) (k_0 : List.length a_0 ≤ c_0) (r_0 : Rd 3 T_part_Step.E m A_0 a_0) {r : Int × Int} (e : part_Swaps.l0 a_0 x_5 x_14 x_15 = some r) : f38.l0 (part_Swaps.post W h0 m0 r) A_0 n_0 c_0 x_5 x_14 x_15 h := part_Swaps.l0_k.all (p := .l0 a_0 x_5 x_14 x_15) e W h0 m0 h m A_0 n_0 c_0 O ne_0 k_0 r_0
noncomputable def part_Swaps (a_0 : List T_part_Step) : Option (Int × Int) :=
  Option.bind (part_Check a_0) fun y1 => if y1 = (0 : Int) then ((part_Swaps.l0 a_0 (0 : Int) (((List.length a_0) : Nat) : Int) (0 : Int))) else (some ((0 : Int), y1))
set_option maxRecDepth 100000 in
theorem part_Swaps.walk {W : Nat → Prop} {h m : Heap} {A_0 : Option Addr} {n_0 c_0 : Nat} {a_0 : List T_part_Step} (O : Hold W h m h m []) (ne_0 : n_0 = List.length a_0) (k_0 : List.length a_0 ≤ c_0) (r_0 : Rd 3 T_part_Step.E m A_0 a_0) {r : Int × Int} (e : part_Swaps a_0 = some r) : Run Try.prog 38 #[Value.slice A_0 n_0 c_0] h (part_Swaps.post W h m r) := by
  unfold part_Swaps at e
  subst ne_0
  refine f38.run ?_
  unfold f38.runT
  obtain ⟨y1, g2, e⟩ := bind_e e
  refine (part_Check.walk (Hold.start (W := No) O.s) rfl k_0 r_0 g2).mono ?_
  rintro _ h3 ⟨m4, Q5, rfl⟩
  have O7 := Hold.nm (O.retC Q5 vfs_nil)
  refine ⟨_, rfl, ?_⟩
  refine split_ne_e e (fun c8 e => ?_) (fun c8 e => ?_)
  · cases e
    exact ⟨_, O7.pick [], rfl⟩
  · exact part_Swaps.l0.walk (O7.pick []).nm rfl k_0 r_0 e
def roadref4_within.post (W : Nat → Prop) (h0 m0 : Heap) (r : Bool) (v : Value) (h : Heap) : Prop := ∃ m , Hold W h0 m0 h m [] ∧ v = .bool r
noncomputable def roadref4_within (x_0 : Int) (x_1 : Int) (x_2 : Int) : Option (Bool) :=
  if x_0 ≥ x_1 then (some ((decide (x_0 ≤ x_2)))) else (some (false))
set_option maxRecDepth 100000 in
theorem roadref4_within.walk {W : Nat → Prop} {h m : Heap} {x_0 : Int} {x_1 : Int} {x_2 : Int} (O : Hold W h m h m []) {r : Bool} (e : roadref4_within x_0 x_1 x_2 = some r) : Run Try.prog 99 #[Value.int .i64 x_0, Value.int .i64 x_1, Value.int .i64 x_2] h (roadref4_within.post W h m r) := by
  unfold roadref4_within at e
  refine f99.run ?_
  unfold f99.runT
  refine split_dec_e e (fun c1 e => ?_) (fun c1 e => ?_)
  · cases e
    exact ⟨_, O.pick [], rfl⟩
  · cases e
    exact ⟨_, O.pick [], rfl⟩
def roadref4_Steps.post (W : Nat → Prop) (h0 m0 : Heap) (r : Int) (v : Value) (h : Heap) : Prop := ∃ m , Hold W h0 m0 h m [] ∧ v = .int .i64 r
inductive roadref4_Steps.l0_k.Pt where
  | l0 (a_8 : List T_roadref4_Step) (x_9 : Int) (x_10 : Int)
noncomputable def roadref4_Steps.l0_k.body (go : (p : roadref4_Steps.l0_k.Pt) → Option (Int)) : (p : roadref4_Steps.l0_k.Pt) → Option (Int)
  | .l0 a_8 x_9 x_10 => if x_10 < x_9 then (Option.bind (gi a_8 x_10) fun y1 => Option.bind (roadref4_within y1.Who (0 : Int) (7 : Int)) fun y14 => if y14 = true then (Option.bind (roadref4_within y1.Reads (0 : Int) (255 : Int)) fun y21 => if y21 = true then (Option.bind (roadref4_within y1.Writes (0 : Int) (255 : Int)) fun y28 => if y28 = true then ((go (.l0 a_8 x_9 (IntKind.wrap .i64 (x_10 + (1 : Int)))))) else (some ((1 : Int)))) else (some ((1 : Int)))) else (some ((1 : Int)))) else (some ((0 : Int)))
theorem roadref4_Steps.l0_k.mono : MonoF (β := fun _ => (Int)) roadref4_Steps.l0_k.body := fun f g hfg p => match p with
  | .l0 a_8 x_9 x_10 => LeO.ite (LeO.bind (LeO.refl _) fun y1 => LeO.bind (LeO.refl _) fun y14 => LeO.ite (LeO.bind (LeO.refl _) fun y21 => LeO.ite (LeO.bind (LeO.refl _) fun y28 => LeO.ite ((hfg _)) (LeO.refl _)) (LeO.refl _)) (LeO.refl _)) (LeO.refl _)
noncomputable def roadref4_Steps.l0_k.go (p : roadref4_Steps.l0_k.Pt) : Option (Int) := fixF (β := fun _ => (Int)) roadref4_Steps.l0_k.body p
noncomputable def roadref4_Steps.l0 (a_8 : List T_roadref4_Step) (x_9 : Int) (x_10 : Int) : Option (Int) := roadref4_Steps.l0_k.go (.l0 a_8 x_9 x_10)
theorem roadref4_Steps.l0_eq (a_8 : List T_roadref4_Step) (x_9 : Int) (x_10 : Int) : roadref4_Steps.l0 a_8 x_9 x_10 = if x_10 < x_9 then (Option.bind (gi a_8 x_10) fun y1 => Option.bind (roadref4_within y1.Who (0 : Int) (7 : Int)) fun y14 => if y14 = true then (Option.bind (roadref4_within y1.Reads (0 : Int) (255 : Int)) fun y21 => if y21 = true then (Option.bind (roadref4_within y1.Writes (0 : Int) (255 : Int)) fun y28 => if y28 = true then ((roadref4_Steps.l0 a_8 x_9 (IntKind.wrap .i64 (x_10 + (1 : Int))))) else (some ((1 : Int)))) else (some ((1 : Int)))) else (some ((1 : Int)))) else (some ((0 : Int))) := fixF_eq roadref4_Steps.l0_k.mono _
def roadref4_Steps.l0_k.I : (p : roadref4_Steps.l0_k.Pt) → (Int) → Prop
  | .l0 a_8 x_9 x_10, r => ∀ (W : Nat → Prop) (h0 m0 h m : Heap) (A_8 : Option Addr) (n_8 c_8 : Nat) (O : Hold W h0 m0 h m []) (ne_8 : n_8 = List.length a_8) (k_8 : List.length a_8 ≤ c_8) (r_8 : Rd 3 T_roadref4_Step.E m A_8 a_8), f39.l0 (roadref4_Steps.post W h0 m0 r) A_8 n_8 c_8 x_9 x_10 h
set_option maxHeartbeats 4000000 in
set_option maxRecDepth 100000 in
theorem roadref4_Steps.l0_k.step_l0 (go : (p : roadref4_Steps.l0_k.Pt) → Option (Int)) (ih : ∀ p r, go p = some r → roadref4_Steps.l0_k.I p r) (a_8 : List T_roadref4_Step) (x_9 : Int) (x_10 : Int) (r : Int) (e : roadref4_Steps.l0_k.body go (.l0 a_8 x_9 x_10) = some r) : roadref4_Steps.l0_k.I (.l0 a_8 x_9 x_10) r := by
  unfold roadref4_Steps.l0_k.body at e
  intro W h0 m0 h m A_8 n_8 c_8 O ne_8 k_8 r_8
  subst ne_8
  refine f39.l0_in ?_
  unfold f39.l0T
  refine split_dec_e e (fun c38 e => ?_) (fun c38 e => ?_)
  · obtain ⟨y1, g2, e⟩ := bind_e e
    refine r_8.addr rfl g2 fun a3 cs4 ha5 hc6 he7 => ?_
    refine ⟨_, ldAn O.s hc6 rfl, ?_⟩
    refine O.new fun h8 x9 O10 => ?_
    refine ⟨_, rfl, (T_roadref4_Step.T.len _ _ _ he7), ?_⟩
    refine O10.stA 0 rfl (T_roadref4_Step.T.len _ _ _ he7) (T_roadref4_Step.T.flat _ _ _ he7) fun h12 O13 => ?_
    refine ⟨_, ld0 (Sub.refl _) (O13.all 0 rfl) (T_roadref4_Step.g0 he7), _, rfl, ?_⟩
    obtain ⟨y14, g15, e⟩ := bind_e e
    refine (roadref4_within.walk (Hold.start (W := No) O13.s)  g15).mono ?_
    rintro _ h16 ⟨m17, Q18, rfl⟩
    have O20 := Hold.nm (O13.retC Q18 vfs_nil)
    refine ⟨_, rfl, ?_⟩
    refine split_not ?_
    refine split_any_e e (fun c37 e => ?_) (fun c37 e => ?_)
    · refine ⟨_, ldk (k := 1) (Sub.refl _) (O20.all 0 rfl) (T_roadref4_Step.g1 he7), _, rfl, ?_⟩
      obtain ⟨y21, g22, e⟩ := bind_e e
      refine (roadref4_within.walk (Hold.start (W := No) O20.s)  g22).mono ?_
      rintro _ h23 ⟨m24, Q25, rfl⟩
      have O27 := Hold.nm (O20.retC Q25 vfs_nil)
      refine ⟨_, rfl, ?_⟩
      refine split_not ?_
      refine split_any_e e (fun c36 e => ?_) (fun c36 e => ?_)
      · refine ⟨_, ldk (k := 2) (Sub.refl _) (O27.all 0 rfl) (T_roadref4_Step.g2 he7), _, rfl, ?_⟩
        obtain ⟨y28, g29, e⟩ := bind_e e
        refine (roadref4_within.walk (Hold.start (W := No) O27.s)  g29).mono ?_
        rintro _ h30 ⟨m31, Q32, rfl⟩
        have O34 := Hold.nm (O27.retC Q32 vfs_nil)
        refine ⟨_, rfl, ?_⟩
        refine split_not ?_
        refine split_any_e e (fun c35 e => ?_) (fun c35 e => ?_)
        · exact (ih _ _ e) _ _ _ _ _ _ _ _ (O34.pick []).nm rfl k_8 r_8
        · cases e
          exact ⟨_, O34.pick [], rfl⟩
      · cases e
        exact ⟨_, O27.pick [], rfl⟩
    · cases e
      exact ⟨_, O20.pick [], rfl⟩
  · cases e
    exact ⟨_, O.pick [], rfl⟩
theorem roadref4_Steps.l0_k.all {p : roadref4_Steps.l0_k.Pt} {r : (Int)} (e : roadref4_Steps.l0_k.go p = some r) : roadref4_Steps.l0_k.I p r := fixF_ind (β := fun _ => (Int)) roadref4_Steps.l0_k.mono (I := roadref4_Steps.l0_k.I) (fun go ih p r e => match p with
  | .l0 a_8 x_9 x_10 => roadref4_Steps.l0_k.step_l0 go ih a_8 x_9 x_10 r e
  ) e
theorem roadref4_Steps.l0.walk {W : Nat → Prop} {h0 m0 h m : Heap} {A_8 : Option Addr} {n_8 c_8 : Nat} {a_8 : List T_roadref4_Step} {x_9 : Int} {x_10 : Int} (O : Hold W h0 m0 h m []) (ne_8 : n_8 = List.length a_8) (k_8 : List.length a_8 ≤ c_8) (r_8 : Rd 3 T_roadref4_Step.E m A_8 a_8) {r : Int} (e : roadref4_Steps.l0 a_8 x_9 x_10 = some r) : f39.l0 (roadref4_Steps.post W h0 m0 r) A_8 n_8 c_8 x_9 x_10 h := roadref4_Steps.l0_k.all (p := .l0 a_8 x_9 x_10) e W h0 m0 h m A_8 n_8 c_8 O ne_8 k_8 r_8
noncomputable def roadref4_Steps (a_0 : List T_roadref4_Step) : Option (Int) :=
  if (((List.length a_0) : Nat) : Int) > (40 : Int) then (some ((2 : Int))) else ((roadref4_Steps.l0 a_0 (((List.length a_0) : Nat) : Int) (0 : Int)))
set_option maxRecDepth 100000 in
theorem roadref4_Steps.walk {W : Nat → Prop} {h m : Heap} {A_0 : Option Addr} {n_0 c_0 : Nat} {a_0 : List T_roadref4_Step} (O : Hold W h m h m []) (ne_0 : n_0 = List.length a_0) (k_0 : List.length a_0 ≤ c_0) (r_0 : Rd 3 T_roadref4_Step.E m A_0 a_0) {r : Int} (e : roadref4_Steps a_0 = some r) : Run Try.prog 39 #[Value.slice A_0 n_0 c_0] h (roadref4_Steps.post W h m r) := by
  unfold roadref4_Steps at e
  subst ne_0
  refine f39.run ?_
  unfold f39.runT
  refine split_dec_e e (fun c1 e => ?_) (fun c1 e => ?_)
  · cases e
    exact ⟨_, O.pick [], rfl⟩
  · exact roadref4_Steps.l0.walk (O.pick []).nm rfl k_0 r_0 e
def roadref4_Step_Tied.post (W : Nat → Prop) (h0 m0 : Heap) (r : Bool) (v : Value) (h : Heap) : Prop := ∃ m , Hold W h0 m0 h m [] ∧ v = .bool r
inductive roadref4_Step_Tied.l0_k.Pt where
  | l0 (y_2 : T_roadref4_Step) (y_3 : T_roadref4_Step) (x_15 : Int)
noncomputable def roadref4_Step_Tied.l0_k.body (go : (p : roadref4_Step_Tied.l0_k.Pt) → Option (Bool)) : (p : roadref4_Step_Tied.l0_k.Pt) → Option (Bool)
  | .l0 y_2 y_3 x_15 => if x_15 < (8 : Int) then (if 0 ≤ x_15 then (if 0 ≤ x_15 then (if 0 ≤ x_15 then (if 0 ≤ x_15 then (if (Int.tmod (shrI .i64 y_2.Writes x_15) (2 : Int)) = (1 : Int) then (if (Int.tmod (shrI .i64 y_3.Reads x_15) (2 : Int)) = (1 : Int) then (some (true)) else (if (Int.tmod (shrI .i64 y_3.Writes x_15) (2 : Int)) = (1 : Int) then (some (true)) else (if (Int.tmod (shrI .i64 y_3.Writes x_15) (2 : Int)) = (1 : Int) then (if (Int.tmod (shrI .i64 y_2.Reads x_15) (2 : Int)) = (1 : Int) then (some (true)) else ((go (.l0 y_2 y_3 (IntKind.wrap .i64 (x_15 + (1 : Int))))))) else ((go (.l0 y_2 y_3 (IntKind.wrap .i64 (x_15 + (1 : Int))))))))) else (if (Int.tmod (shrI .i64 y_3.Writes x_15) (2 : Int)) = (1 : Int) then (if (Int.tmod (shrI .i64 y_2.Reads x_15) (2 : Int)) = (1 : Int) then (some (true)) else ((go (.l0 y_2 y_3 (IntKind.wrap .i64 (x_15 + (1 : Int))))))) else ((go (.l0 y_2 y_3 (IntKind.wrap .i64 (x_15 + (1 : Int)))))))) else none) else none) else none) else none) else (some (false))
theorem roadref4_Step_Tied.l0_k.mono : MonoF (β := fun _ => (Bool)) roadref4_Step_Tied.l0_k.body := fun f g hfg p => match p with
  | .l0 y_2 y_3 x_15 => LeO.ite (LeO.ite (LeO.ite (LeO.ite (LeO.ite (LeO.ite (LeO.ite (LeO.refl _) (LeO.ite (LeO.refl _) (LeO.ite (LeO.ite (LeO.refl _) ((hfg _))) ((hfg _))))) (LeO.ite (LeO.ite (LeO.refl _) ((hfg _))) ((hfg _)))) (LeO.refl _)) (LeO.refl _)) (LeO.refl _)) (LeO.refl _)) (LeO.refl _)
noncomputable def roadref4_Step_Tied.l0_k.go (p : roadref4_Step_Tied.l0_k.Pt) : Option (Bool) := fixF (β := fun _ => (Bool)) roadref4_Step_Tied.l0_k.body p
noncomputable def roadref4_Step_Tied.l0 (y_2 : T_roadref4_Step) (y_3 : T_roadref4_Step) (x_15 : Int) : Option (Bool) := roadref4_Step_Tied.l0_k.go (.l0 y_2 y_3 x_15)
theorem roadref4_Step_Tied.l0_eq (y_2 : T_roadref4_Step) (y_3 : T_roadref4_Step) (x_15 : Int) : roadref4_Step_Tied.l0 y_2 y_3 x_15 = if x_15 < (8 : Int) then (if 0 ≤ x_15 then (if 0 ≤ x_15 then (if 0 ≤ x_15 then (if 0 ≤ x_15 then (if (Int.tmod (shrI .i64 y_2.Writes x_15) (2 : Int)) = (1 : Int) then (if (Int.tmod (shrI .i64 y_3.Reads x_15) (2 : Int)) = (1 : Int) then (some (true)) else (if (Int.tmod (shrI .i64 y_3.Writes x_15) (2 : Int)) = (1 : Int) then (some (true)) else (if (Int.tmod (shrI .i64 y_3.Writes x_15) (2 : Int)) = (1 : Int) then (if (Int.tmod (shrI .i64 y_2.Reads x_15) (2 : Int)) = (1 : Int) then (some (true)) else ((roadref4_Step_Tied.l0 y_2 y_3 (IntKind.wrap .i64 (x_15 + (1 : Int)))))) else ((roadref4_Step_Tied.l0 y_2 y_3 (IntKind.wrap .i64 (x_15 + (1 : Int)))))))) else (if (Int.tmod (shrI .i64 y_3.Writes x_15) (2 : Int)) = (1 : Int) then (if (Int.tmod (shrI .i64 y_2.Reads x_15) (2 : Int)) = (1 : Int) then (some (true)) else ((roadref4_Step_Tied.l0 y_2 y_3 (IntKind.wrap .i64 (x_15 + (1 : Int)))))) else ((roadref4_Step_Tied.l0 y_2 y_3 (IntKind.wrap .i64 (x_15 + (1 : Int))))))) else none) else none) else none) else none) else (some (false)) := fixF_eq roadref4_Step_Tied.l0_k.mono _
def roadref4_Step_Tied.l0_k.I : (p : roadref4_Step_Tied.l0_k.Pt) → (Bool) → Prop
  | .l0 y_2 y_3 x_15, r => ∀ (W : Nat → Prop) (h0 m0 h m : Heap) (bk_2 : Nat) (cs_2 : List Value) (bk_3 : Nat) (cs_3 : List Value) (O : Hold W h0 m0 h m [rV bk_2 88 cs_2, rV bk_3 88 cs_3]) (e_2 : T_roadref4_Step.E m y_2 cs_2) (e_3 : T_roadref4_Step.E m y_3 cs_3), f46.l0 (roadref4_Step_Tied.post W h0 m0 r) (⟨bk_2, 0, none⟩ : Addr) (⟨bk_3, 0, none⟩ : Addr) x_15 h
set_option maxHeartbeats 4000000 in
set_option maxRecDepth 100000 in
theorem roadref4_Step_Tied.l0_k.step_l0 (go : (p : roadref4_Step_Tied.l0_k.Pt) → Option (Bool)) (ih : ∀ p r, go p = some r → roadref4_Step_Tied.l0_k.I p r) (y_2 : T_roadref4_Step) (y_3 : T_roadref4_Step) (x_15 : Int) (r : Bool) (e : roadref4_Step_Tied.l0_k.body go (.l0 y_2 y_3 x_15) = some r) : roadref4_Step_Tied.l0_k.I (.l0 y_2 y_3 x_15) r := by
  unfold roadref4_Step_Tied.l0_k.body at e
  intro W h0 m0 h m bk_2 cs_2 bk_3 cs_3 O e_2 e_3
  refine f46.l0_in ?_
  unfold f46.l0T
  refine split_dec_e e (fun c12 e => ?_) (fun c12 e => ?_)
  · refine ⟨_, ldk (k := 1) (Sub.refl _) (O.all 0 rfl) (T_roadref4_Step.g1 e_2), _, rfl, ?_⟩
    obtain ⟨g1, e⟩ := guard_e e
    refine ⟨g1, ?_⟩
    refine ⟨by decide, ?_⟩
    refine ⟨_, ldk (k := 2) (Sub.refl _) (O.all 0 rfl) (T_roadref4_Step.g2 e_2), _, rfl, ?_⟩
    obtain ⟨g2, e⟩ := guard_e e
    refine ⟨g2, ?_⟩
    refine ⟨by decide, ?_⟩
    refine ⟨_, ldk (k := 1) (Sub.refl _) (O.all 1 rfl) (T_roadref4_Step.g1 e_3), _, rfl, ?_⟩
    obtain ⟨g3, e⟩ := guard_e e
    refine ⟨g3, ?_⟩
    refine ⟨by decide, ?_⟩
    refine ⟨_, ldk (k := 2) (Sub.refl _) (O.all 1 rfl) (T_roadref4_Step.g2 e_3), _, rfl, ?_⟩
    obtain ⟨g4, e⟩ := guard_e e
    refine ⟨g4, ?_⟩
    refine ⟨by decide, ?_⟩
    refine split_eq_e e (fun c11 e => ?_) (fun c11 e => ?_)
    · refine split_eq_e e (fun c8 e => ?_) (fun c8 e => ?_)
      · cases e
        exact ⟨_, O.pick [], rfl⟩
      · refine split_eq_e e (fun c7 e => ?_) (fun c7 e => ?_)
        · cases e
          exact ⟨_, O.pick [], rfl⟩
        · refine split_eq_e e (fun c6 e => ?_) (fun c6 e => ?_)
          · refine split_eq_e e (fun c5 e => ?_) (fun c5 e => ?_)
            · cases e
              exact ⟨_, O.pick [], rfl⟩
            · exact (ih _ _ e) _ _ _ _ _ _ _ _ _ (O.pick [0, 1]).nm e_2 e_3
          · exact (ih _ _ e) _ _ _ _ _ _ _ _ _ (O.pick [0, 1]).nm e_2 e_3
    · refine split_eq_e e (fun c10 e => ?_) (fun c10 e => ?_)
      · refine split_eq_e e (fun c9 e => ?_) (fun c9 e => ?_)
        · cases e
          exact ⟨_, O.pick [], rfl⟩
        · exact (ih _ _ e) _ _ _ _ _ _ _ _ _ (O.pick [0, 1]).nm e_2 e_3
      · exact (ih _ _ e) _ _ _ _ _ _ _ _ _ (O.pick [0, 1]).nm e_2 e_3
  · cases e
    exact ⟨_, O.pick [], rfl⟩
theorem roadref4_Step_Tied.l0_k.all {p : roadref4_Step_Tied.l0_k.Pt} {r : (Bool)} (e : roadref4_Step_Tied.l0_k.go p = some r) : roadref4_Step_Tied.l0_k.I p r := fixF_ind (β := fun _ => (Bool)) roadref4_Step_Tied.l0_k.mono (I := roadref4_Step_Tied.l0_k.I) (fun go ih p r e => match p with
  | .l0 y_2 y_3 x_15 => roadref4_Step_Tied.l0_k.step_l0 go ih y_2 y_3 x_15 r e
  ) e
theorem roadref4_Step_Tied.l0.walk {W : Nat → Prop} {h0 m0 h m : Heap} {bk_2 : Nat} {cs_2 : List Value} {bk_3 : Nat} {cs_3 : List Value} {y_2 : T_roadref4_Step} {y_3 : T_roadref4_Step} {x_15 : Int} (O : Hold W h0 m0 h m [rV bk_2 88 cs_2, rV bk_3 88 cs_3]) (e_2 : T_roadref4_Step.E m y_2 cs_2) (e_3 : T_roadref4_Step.E m y_3 cs_3) {r : Bool} (e : roadref4_Step_Tied.l0 y_2 y_3 x_15 = some r) : f46.l0 (roadref4_Step_Tied.post W h0 m0 r) (⟨bk_2, 0, none⟩ : Addr) (⟨bk_3, 0, none⟩ : Addr) x_15 h := roadref4_Step_Tied.l0_k.all (p := .l0 y_2 y_3 x_15) e W h0 m0 h m bk_2 cs_2 bk_3 cs_3 O e_2 e_3
noncomputable def roadref4_Step_Tied (y_0 : T_roadref4_Step) (y_1 : T_roadref4_Step) : Option (Bool) :=
  if y_0.Who = y_1.Who then (some (true)) else ((roadref4_Step_Tied.l0 y_0 y_1 (0 : Int)))
set_option maxRecDepth 100000 in
theorem roadref4_Step_Tied.walk {W : Nat → Prop} {h m : Heap} {cs_0 : List Value} {cs_1 : List Value} {y_0 : T_roadref4_Step} {y_1 : T_roadref4_Step} (O : Hold W h m h m []) (e_0 : T_roadref4_Step.E m y_0 cs_0) (e_1 : T_roadref4_Step.E m y_1 cs_1) {r : Bool} (e : roadref4_Step_Tied y_0 y_1 = some r) : Run Try.prog 46 #[Value.agg cs_0.toArray, Value.agg cs_1.toArray] h (roadref4_Step_Tied.post W h m r) := by
  unfold roadref4_Step_Tied at e
  refine f46.run ?_
  unfold f46.runT
  refine O.new fun h1 x2 O3 => ?_
  refine O3.new fun h5 x6 O7 => ?_
  refine ⟨_, ld0 (Sub.refl _) (O7.all 0 rfl) (T_roadref4_Step.g0 e_0), _, rfl, ?_⟩
  refine ⟨_, ld0 (Sub.refl _) (O7.all 1 rfl) (T_roadref4_Step.g0 e_1), _, rfl, ?_⟩
  refine split_eq_e e (fun c11 e => ?_) (fun c11 e => ?_)
  · have O9 := O7.nm
    cases e
    exact ⟨_, O9.pick [], rfl⟩
  · have O10 := O7.nm
    exact roadref4_Step_Tied.l0.walk (O10.pick [0, 1]).nm e_0 e_1 e
def roadref4_Rounds.post (W : Nat → Prop) (h0 m0 : Heap) (r : (List Int)) (v : Value) (h : Heap) : Prop := ∃ m A0 n0 c0, Hold W h0 m0 h m [rR (aE (tell_int .i64)) A0 c0 r] ∧ v = .slice A0 n0 c0 ∧ n0 = List.length r
inductive roadref4_Rounds.l0_k.Pt where
  | l0 (a_0 : List T_roadref4_Step) (a_3 : List Int) (b_4 : Bool)
  | l1 (a_0 : List T_roadref4_Step) (a_3 : List Int) (b_4 : Bool) (x_12 : Int) (x_13 : Int)
  | l2 (a_0 : List T_roadref4_Step) (a_3 : List Int) (b_4 : Bool) (x_5 : Int) (x_12 : Int) (x_13 : Int) (x_16 : Int) (x_17 : Int)
  | j0 (a_0 : List T_roadref4_Step) (a_3 : List Int) (b_4 : Bool) (x_5 : Int) (x_6 : Int) (x_12 : Int) (x_13 : Int) (x_16 : Int) (x_17 : Int) (b_39 : Bool)
noncomputable def roadref4_Rounds.l0_k.body (go : (p : roadref4_Rounds.l0_k.Pt) → Option ((List Int))) : (p : roadref4_Rounds.l0_k.Pt) → Option ((List Int))
  | .l0 a_0 a_3 b_4 => if b_4 = true then ((go (.l1 a_0 a_3 false (((List.length a_0) : Nat) : Int) (0 : Int)))) else (some (a_3))
  | .l1 a_0 a_3 b_4 x_12 x_13 => if x_13 < x_12 then ((go (.l2 a_0 a_3 b_4 x_13 x_12 x_13 x_13 (0 : Int)))) else ((go (.l0 a_0 a_3 b_4)))
  | .l2 a_0 a_3 b_4 x_5 x_12 x_13 x_16 x_17 => if x_17 < x_16 then (Option.bind (gi a_0 x_17) fun y1 => Option.bind (gi a_0 x_5) fun y8 => Option.bind (roadref4_Step_Tied y1 y8) fun y15 => if y15 = true then (Option.bind (gi a_3 x_5) fun y22 => Option.bind (gi a_3 x_17) fun y29 => (go (.j0 a_0 a_3 b_4 x_5 x_17 x_12 x_13 x_16 x_17 (decide (y22 ≤ y29))))) else ((go (.j0 a_0 a_3 b_4 x_5 x_17 x_12 x_13 x_16 x_17 false)))) else ((go (.l1 a_0 a_3 b_4 x_12 (IntKind.wrap .i64 (x_13 + (1 : Int))))))
  | .j0 a_0 a_3 b_4 x_5 x_6 x_12 x_13 x_16 x_17 b_39 => if b_39 = true then (Option.bind (gi a_3 x_6) fun y1 => Option.bind (gi a_3 x_5) fun y8 => Option.bind (some (List.set a_3 (Int.toNat x_5) (IntKind.wrap .i64 (y1 + (1 : Int))))) fun l17 => (go (.l2 a_0 l17 true x_5 x_12 x_13 x_16 (IntKind.wrap .i64 (x_17 + (1 : Int)))))) else ((go (.l2 a_0 a_3 b_4 x_5 x_12 x_13 x_16 (IntKind.wrap .i64 (x_17 + (1 : Int))))))
theorem roadref4_Rounds.l0_k.mono : MonoF (β := fun _ => ((List Int))) roadref4_Rounds.l0_k.body := fun f g hfg p => match p with
  | .l0 a_0 a_3 b_4 => LeO.ite ((hfg _)) (LeO.refl _)
  | .l1 a_0 a_3 b_4 x_12 x_13 => LeO.ite ((hfg _)) ((hfg _))
  | .l2 a_0 a_3 b_4 x_5 x_12 x_13 x_16 x_17 => LeO.ite (LeO.bind (LeO.refl _) fun y1 => LeO.bind (LeO.refl _) fun y8 => LeO.bind (LeO.refl _) fun y15 => LeO.ite (LeO.bind (LeO.refl _) fun y22 => LeO.bind (LeO.refl _) fun y29 => (hfg _)) ((hfg _))) ((hfg _))
  | .j0 a_0 a_3 b_4 x_5 x_6 x_12 x_13 x_16 x_17 b_39 => LeO.ite (LeO.bind (LeO.refl _) fun y1 => LeO.bind (LeO.refl _) fun y8 => LeO.bind (LeO.refl _) fun l17 => (hfg _)) ((hfg _))
noncomputable def roadref4_Rounds.l0_k.go (p : roadref4_Rounds.l0_k.Pt) : Option ((List Int)) := fixF (β := fun _ => ((List Int))) roadref4_Rounds.l0_k.body p
noncomputable def roadref4_Rounds.l0 (a_0 : List T_roadref4_Step) (a_3 : List Int) (b_4 : Bool) : Option ((List Int)) := roadref4_Rounds.l0_k.go (.l0 a_0 a_3 b_4)
noncomputable def roadref4_Rounds.l1 (a_0 : List T_roadref4_Step) (a_3 : List Int) (b_4 : Bool) (x_12 : Int) (x_13 : Int) : Option ((List Int)) := roadref4_Rounds.l0_k.go (.l1 a_0 a_3 b_4 x_12 x_13)
noncomputable def roadref4_Rounds.l2 (a_0 : List T_roadref4_Step) (a_3 : List Int) (b_4 : Bool) (x_5 : Int) (x_12 : Int) (x_13 : Int) (x_16 : Int) (x_17 : Int) : Option ((List Int)) := roadref4_Rounds.l0_k.go (.l2 a_0 a_3 b_4 x_5 x_12 x_13 x_16 x_17)
noncomputable def roadref4_Rounds.j0 (a_0 : List T_roadref4_Step) (a_3 : List Int) (b_4 : Bool) (x_5 : Int) (x_6 : Int) (x_12 : Int) (x_13 : Int) (x_16 : Int) (x_17 : Int) (b_39 : Bool) : Option ((List Int)) := roadref4_Rounds.l0_k.go (.j0 a_0 a_3 b_4 x_5 x_6 x_12 x_13 x_16 x_17 b_39)
theorem roadref4_Rounds.l0_eq (a_0 : List T_roadref4_Step) (a_3 : List Int) (b_4 : Bool) : roadref4_Rounds.l0 a_0 a_3 b_4 = if b_4 = true then ((roadref4_Rounds.l1 a_0 a_3 false (((List.length a_0) : Nat) : Int) (0 : Int))) else (some (a_3)) := fixF_eq roadref4_Rounds.l0_k.mono _
theorem roadref4_Rounds.l1_eq (a_0 : List T_roadref4_Step) (a_3 : List Int) (b_4 : Bool) (x_12 : Int) (x_13 : Int) : roadref4_Rounds.l1 a_0 a_3 b_4 x_12 x_13 = if x_13 < x_12 then ((roadref4_Rounds.l2 a_0 a_3 b_4 x_13 x_12 x_13 x_13 (0 : Int))) else ((roadref4_Rounds.l0 a_0 a_3 b_4)) := fixF_eq roadref4_Rounds.l0_k.mono _
theorem roadref4_Rounds.l2_eq (a_0 : List T_roadref4_Step) (a_3 : List Int) (b_4 : Bool) (x_5 : Int) (x_12 : Int) (x_13 : Int) (x_16 : Int) (x_17 : Int) : roadref4_Rounds.l2 a_0 a_3 b_4 x_5 x_12 x_13 x_16 x_17 = if x_17 < x_16 then (Option.bind (gi a_0 x_17) fun y1 => Option.bind (gi a_0 x_5) fun y8 => Option.bind (roadref4_Step_Tied y1 y8) fun y15 => if y15 = true then (Option.bind (gi a_3 x_5) fun y22 => Option.bind (gi a_3 x_17) fun y29 => (roadref4_Rounds.j0 a_0 a_3 b_4 x_5 x_17 x_12 x_13 x_16 x_17 (decide (y22 ≤ y29)))) else ((roadref4_Rounds.j0 a_0 a_3 b_4 x_5 x_17 x_12 x_13 x_16 x_17 false))) else ((roadref4_Rounds.l1 a_0 a_3 b_4 x_12 (IntKind.wrap .i64 (x_13 + (1 : Int))))) := fixF_eq roadref4_Rounds.l0_k.mono _
theorem roadref4_Rounds.j0_eq (a_0 : List T_roadref4_Step) (a_3 : List Int) (b_4 : Bool) (x_5 : Int) (x_6 : Int) (x_12 : Int) (x_13 : Int) (x_16 : Int) (x_17 : Int) (b_39 : Bool) : roadref4_Rounds.j0 a_0 a_3 b_4 x_5 x_6 x_12 x_13 x_16 x_17 b_39 = if b_39 = true then (Option.bind (gi a_3 x_6) fun y1 => Option.bind (gi a_3 x_5) fun y8 => Option.bind (some (List.set a_3 (Int.toNat x_5) (IntKind.wrap .i64 (y1 + (1 : Int))))) fun l17 => (roadref4_Rounds.l2 a_0 l17 true x_5 x_12 x_13 x_16 (IntKind.wrap .i64 (x_17 + (1 : Int))))) else ((roadref4_Rounds.l2 a_0 a_3 b_4 x_5 x_12 x_13 x_16 (IntKind.wrap .i64 (x_17 + (1 : Int))))) := fixF_eq roadref4_Rounds.l0_k.mono _
def roadref4_Rounds.l0_k.I : (p : roadref4_Rounds.l0_k.Pt) → ((List Int)) → Prop
  | .l0 a_0 a_3 b_4, r => ∀ (W : Nat → Prop) (h0 m0 h m : Heap) (A_0 : Option Addr) (n_0 c_0 : Nat) (A_3 : Option Addr) (n_3 c_3 : Nat) (O : Hold W h0 m0 h m [rR (aE (tell_int .i64)) A_3 c_3 a_3]) (ne_0 : n_0 = List.length a_0) (k_0 : List.length a_0 ≤ c_0) (r_0 : Rd 3 T_roadref4_Step.E m A_0 a_0) (ne_3 : n_3 = List.length a_3), f100.l0 (roadref4_Rounds.post W h0 m0 r) A_0 n_0 c_0 A_3 n_3 c_3 b_4 h
  | .l1 a_0 a_3 b_4 x_12 x_13, r => ∀ (W : Nat → Prop) (h0 m0 h m : Heap) (A_0 : Option Addr) (n_0 c_0 : Nat) (A_3 : Option Addr) (n_3 c_3 : Nat) (O : Hold W h0 m0 h m [rR (aE (tell_int .i64)) A_3 c_3 a_3]) (ne_0 : n_0 = List.length a_0) (k_0 : List.length a_0 ≤ c_0) (r_0 : Rd 3 T_roadref4_Step.E m A_0 a_0) (ne_3 : n_3 = List.length a_3), f100.l1 (roadref4_Rounds.post W h0 m0 r) A_0 n_0 c_0 A_3 n_3 c_3 b_4 x_12 x_13 h
  | .l2 a_0 a_3 b_4 x_5 x_12 x_13 x_16 x_17, r => ∀ (W : Nat → Prop) (h0 m0 h m : Heap) (A_0 : Option Addr) (n_0 c_0 : Nat) (A_3 : Option Addr) (n_3 c_3 : Nat) (O : Hold W h0 m0 h m [rR (aE (tell_int .i64)) A_3 c_3 a_3]) (ne_0 : n_0 = List.length a_0) (k_0 : List.length a_0 ≤ c_0) (r_0 : Rd 3 T_roadref4_Step.E m A_0 a_0) (ne_3 : n_3 = List.length a_3), f100.l2 (roadref4_Rounds.post W h0 m0 r) A_0 n_0 c_0 A_3 n_3 c_3 b_4 x_5 x_12 x_13 x_16 x_17 h
  | .j0 a_0 a_3 b_4 x_5 x_6 x_12 x_13 x_16 x_17 b_39, r => ∀ (W : Nat → Prop) (h0 m0 h m : Heap) (A_0 : Option Addr) (n_0 c_0 : Nat) (A_3 : Option Addr) (n_3 c_3 : Nat) (O : Hold W h0 m0 h m [rR (aE (tell_int .i64)) A_3 c_3 a_3]) (ne_0 : n_0 = List.length a_0) (k_0 : List.length a_0 ≤ c_0) (r_0 : Rd 3 T_roadref4_Step.E m A_0 a_0) (ne_3 : n_3 = List.length a_3), f100.j0 (roadref4_Rounds.post W h0 m0 r) A_0 n_0 c_0 A_3 n_3 c_3 b_4 x_5 x_6 x_12 x_13 x_16 x_17 b_39 h
set_option maxRecDepth 100000 in
theorem roadref4_Rounds.l0_k.step_l0 (go : (p : roadref4_Rounds.l0_k.Pt) → Option ((List Int))) (ih : ∀ p r, go p = some r → roadref4_Rounds.l0_k.I p r) (a_0 : List T_roadref4_Step) (a_3 : List Int) (b_4 : Bool) (r : (List Int)) (e : roadref4_Rounds.l0_k.body go (.l0 a_0 a_3 b_4) = some r) : roadref4_Rounds.l0_k.I (.l0 a_0 a_3 b_4) r := by
  unfold roadref4_Rounds.l0_k.body at e
  intro W h0 m0 h m A_0 n_0 c_0 A_3 n_3 c_3 O ne_0 k_0 r_0 ne_3
  subst ne_0
  subst ne_3
  refine f100.l0_in ?_
  unfold f100.l0T
  refine split_any_e e (fun c1 e => ?_) (fun c1 e => ?_)
  · exact (ih _ _ e) _ _ _ _ _ _ _ _ _ _ _ (O.pick [0]).nm rfl k_0 r_0 rfl
  · cases e
    exact ⟨_, _, _, _, O.pick [0], rfl, rfl⟩
set_option maxRecDepth 100000 in
theorem roadref4_Rounds.l0_k.step_l1 (go : (p : roadref4_Rounds.l0_k.Pt) → Option ((List Int))) (ih : ∀ p r, go p = some r → roadref4_Rounds.l0_k.I p r) (a_0 : List T_roadref4_Step) (a_3 : List Int) (b_4 : Bool) (x_12 : Int) (x_13 : Int) (r : (List Int)) (e : roadref4_Rounds.l0_k.body go (.l1 a_0 a_3 b_4 x_12 x_13) = some r) : roadref4_Rounds.l0_k.I (.l1 a_0 a_3 b_4 x_12 x_13) r := by
  unfold roadref4_Rounds.l0_k.body at e
  intro W h0 m0 h m A_0 n_0 c_0 A_3 n_3 c_3 O ne_0 k_0 r_0 ne_3
  subst ne_0
  subst ne_3
  refine f100.l1_in ?_
  unfold f100.l1T
  refine split_dec_e e (fun c1 e => ?_) (fun c1 e => ?_)
  · exact (ih _ _ e) _ _ _ _ _ _ _ _ _ _ _ (O.pick [0]).nm rfl k_0 r_0 rfl
  · exact (ih _ _ e) _ _ _ _ _ _ _ _ _ _ _ (O.pick [0]).nm rfl k_0 r_0 rfl
set_option maxRecDepth 100000 in
theorem roadref4_Rounds.l0_k.step_l2 (go : (p : roadref4_Rounds.l0_k.Pt) → Option ((List Int))) (ih : ∀ p r, go p = some r → roadref4_Rounds.l0_k.I p r) (a_0 : List T_roadref4_Step) (a_3 : List Int) (b_4 : Bool) (x_5 : Int) (x_12 : Int) (x_13 : Int) (x_16 : Int) (x_17 : Int) (r : (List Int)) (e : roadref4_Rounds.l0_k.body go (.l2 a_0 a_3 b_4 x_5 x_12 x_13 x_16 x_17) = some r) : roadref4_Rounds.l0_k.I (.l2 a_0 a_3 b_4 x_5 x_12 x_13 x_16 x_17) r := by
  unfold roadref4_Rounds.l0_k.body at e
  intro W h0 m0 h m A_0 n_0 c_0 A_3 n_3 c_3 O ne_0 k_0 r_0 ne_3
  subst ne_0
  subst ne_3
  refine f100.l2_in ?_
  unfold f100.l2T
  refine split_dec_e e (fun c37 e => ?_) (fun c37 e => ?_)
  · obtain ⟨y1, g2, e⟩ := bind_e e
    refine r_0.addr rfl g2 fun a3 cs4 ha5 hc6 he7 => ?_
    obtain ⟨y8, g9, e⟩ := bind_e e
    refine r_0.addr rfl g9 fun a10 cs11 ha12 hc13 he14 => ?_
    refine ⟨_, ldAn O.s hc6 rfl, ?_⟩
    refine ⟨_, ldAn O.s hc13 rfl, ?_⟩
    obtain ⟨y15, g16, e⟩ := bind_e e
    refine (roadref4_Step_Tied.walk (Hold.start (W := No) O.s) he7 he14 g16).mono ?_
    rintro _ h17 ⟨m18, Q19, rfl⟩
    have O21 := Hold.nm (O.retC Q19 vfs_nil)
    refine ⟨_, rfl, ?_⟩
    refine ⟨Q19.S.ext, ?_⟩
    refine split_any_e e (fun c36 e => ?_) (fun c36 e => ?_)
    · obtain ⟨y22, g23, e⟩ := bind_e e
      refine (O21.os 0 rfl).addr rfl g23 fun a24 cs25 ha26 hc27 he28 => ?_
      obtain rfl : cs25 = [(Value.int .i64 y22)] := he28
      obtain ⟨y29, g30, e⟩ := bind_e e
      refine (O21.os 0 rfl).addr rfl g30 fun a31 cs32 ha33 hc34 he35 => ?_
      obtain rfl : cs32 = [(Value.int .i64 y29)] := he35
      refine ⟨_, ld0 (Sub.refl _) hc27 rfl, _, rfl, ?_⟩
      refine ⟨_, ld0 (Sub.refl _) hc34 rfl, _, rfl, ?_⟩
      exact (ih _ _ e) _ _ _ _ _ _ _ _ _ _ _ (O21.pick [0]).nm rfl k_0 r_0 rfl
    · exact (ih _ _ e) _ _ _ _ _ _ _ _ _ _ _ (O21.pick [0]).nm rfl k_0 r_0 rfl
  · exact (ih _ _ e) _ _ _ _ _ _ _ _ _ _ _ (O.pick [0]).nm rfl k_0 r_0 rfl
set_option maxRecDepth 100000 in
theorem roadref4_Rounds.l0_k.step_j0 (go : (p : roadref4_Rounds.l0_k.Pt) → Option ((List Int))) (ih : ∀ p r, go p = some r → roadref4_Rounds.l0_k.I p r) (a_0 : List T_roadref4_Step) (a_3 : List Int) (b_4 : Bool) (x_5 : Int) (x_6 : Int) (x_12 : Int) (x_13 : Int) (x_16 : Int) (x_17 : Int) (b_39 : Bool) (r : (List Int)) (e : roadref4_Rounds.l0_k.body go (.j0 a_0 a_3 b_4 x_5 x_6 x_12 x_13 x_16 x_17 b_39) = some r) : roadref4_Rounds.l0_k.I (.j0 a_0 a_3 b_4 x_5 x_6 x_12 x_13 x_16 x_17 b_39) r := by
  unfold roadref4_Rounds.l0_k.body at e
  intro W h0 m0 h m A_0 n_0 c_0 A_3 n_3 c_3 O ne_0 k_0 r_0 ne_3
  subst ne_0
  subst ne_3
  refine f100.j0_in ?_
  unfold f100.j0T
  refine split_any_e e (fun c20 e => ?_) (fun c20 e => ?_)
  · obtain ⟨y1, g2, e⟩ := bind_e e
    refine (O.os 0 rfl).addr rfl g2 fun a3 cs4 ha5 hc6 he7 => ?_
    obtain rfl : cs4 = [(Value.int .i64 y1)] := he7
    refine ⟨_, ld0 (Sub.refl _) hc6 rfl, _, rfl, ?_⟩
    obtain ⟨y8, g9, e⟩ := bind_e e
    refine (O.os 0 rfl).addr rfl g9 fun a10 cs11 ha12 hc13 he14 => ?_
    obtain rfl : cs11 = [(Value.int .i64 y8)] := he14
    obtain ⟨l17, g18, e⟩ := bind_e e
    replace g18 := Option.some.inj g18
    refine O.elst0 0 rfl g9 ha12 hc13 (by decide) (y' := (IntKind.wrap .i64 (y1 + (1 : Int)))) rfl trivial g18 fun h15 O16 => ?_
    have O19 := O16.nm
    exact (ih _ _ e) _ _ _ _ _ _ _ _ _ _ _ (O19.pick [0]).nm rfl k_0 r_0 (lset' g18)
  · exact (ih _ _ e) _ _ _ _ _ _ _ _ _ _ _ (O.pick [0]).nm rfl k_0 r_0 rfl
theorem roadref4_Rounds.l0_k.all {p : roadref4_Rounds.l0_k.Pt} {r : ((List Int))} (e : roadref4_Rounds.l0_k.go p = some r) : roadref4_Rounds.l0_k.I p r := fixF_ind (β := fun _ => ((List Int))) roadref4_Rounds.l0_k.mono (I := roadref4_Rounds.l0_k.I) (fun go ih p r e => match p with
  | .l0 a_0 a_3 b_4 => roadref4_Rounds.l0_k.step_l0 go ih a_0 a_3 b_4 r e
  | .l1 a_0 a_3 b_4 x_12 x_13 => roadref4_Rounds.l0_k.step_l1 go ih a_0 a_3 b_4 x_12 x_13 r e
  | .l2 a_0 a_3 b_4 x_5 x_12 x_13 x_16 x_17 => roadref4_Rounds.l0_k.step_l2 go ih a_0 a_3 b_4 x_5 x_12 x_13 x_16 x_17 r e
  | .j0 a_0 a_3 b_4 x_5 x_6 x_12 x_13 x_16 x_17 b_39 => roadref4_Rounds.l0_k.step_j0 go ih a_0 a_3 b_4 x_5 x_6 x_12 x_13 x_16 x_17 b_39 r e
  ) e
theorem roadref4_Rounds.l0.walk {W : Nat → Prop} {h0 m0 h m : Heap} {A_0 : Option Addr} {n_0 c_0 : Nat} {A_3 : Option Addr} {n_3 c_3 : Nat} {a_0 : List T_roadref4_Step} {a_3 : List Int} {b_4 : Bool} (O : Hold W h0 m0 h m [rR (aE (tell_int .i64)) A_3 c_3 a_3]) (ne_0 : n_0 = List.length a_0) (k_0 : List.length a_0 ≤ c_0) (r_0 : Rd 3 T_roadref4_Step.E m A_0 a_0) (ne_3 : n_3 = List.length a_3) {r : (List Int)} (e : roadref4_Rounds.l0 a_0 a_3 b_4 = some r) : f100.l0 (roadref4_Rounds.post W h0 m0 r) A_0 n_0 c_0 A_3 n_3 c_3 b_4 h := roadref4_Rounds.l0_k.all (p := .l0 a_0 a_3 b_4) e W h0 m0 h m A_0 n_0 c_0 A_3 n_3 c_3 O ne_0 k_0 r_0 ne_3
noncomputable def roadref4_Rounds (a_0 : List T_roadref4_Step) : Option ((List Int)) :=
  Option.bind (mks 8 (((List.length a_0) : Nat) : Int) (0 : Int)) fun l1 => (roadref4_Rounds.l0 a_0 l1 true)
set_option maxRecDepth 100000 in
theorem roadref4_Rounds.walk {W : Nat → Prop} {h m : Heap} {A_0 : Option Addr} {n_0 c_0 : Nat} {a_0 : List T_roadref4_Step} (O : Hold W h m h m []) (ne_0 : n_0 = List.length a_0) (k_0 : List.length a_0 ≤ c_0) (r_0 : Rd 3 T_roadref4_Step.E m A_0 a_0) {r : (List Int)} (e : roadref4_Rounds a_0 = some r) : Run Try.prog 100 #[Value.slice A_0 n_0 c_0] h (roadref4_Rounds.post W h m r) := by
  unfold roadref4_Rounds at e
  subst ne_0
  refine f100.run ?_
  unfold f100.runT
  obtain ⟨l1, g2, e⟩ := bind_e e
  have q3 := mks_e g2
  refine ⟨q3.1, Int.le_refl _, q3.2.1, q3.2.2.1, ?_⟩
  refine O.new fun h4 x5 O6 => ?_
  have O7 := O6.made 0 rfl (aE (tell_int .i64)) g2 ⟨rfl, rfl⟩
  try rw [q3.2.2.2.1]
  have O9 := O7.nm
  exact roadref4_Rounds.l0.walk (O9.pick [0]).nm rfl k_0 r_0 rfl e
end Go.Proofs.Ythnlhffpmlgmfad.Fw

end
section
namespace Go.Proofs.Ythnlhffpmlgmfad.Fw
open Go Go.Hw Go.Proofs
set_option linter.unusedVariables false
set_option synthInstance.maxHeartbeats 400000
set_option synthInstance.maxSize 1000
def roadlaw4_rounds.post (W : Nat → Prop) (h0 m0 : Heap) (r : (List (List T_part_Step))) (v : Value) (h : Heap) : Prop := ∃ m A0 n0 c0, Hold W h0 m0 h m [rR (aE (tell_row T_part_Step.T)) A0 c0 r] ∧ v = .slice A0 n0 c0 ∧ n0 = List.length r
inductive roadlaw4_rounds.l0_k.Pt where
  | l0 (a_0 : List T_roadref4_Step) (a_3 : List Int) (a_4 : List (List T_part_Step)) (x_13 : Int) (x_14 : Int)
  | l1 (a_0 : List T_roadref4_Step) (a_3 : List Int) (a_4 : List (List T_part_Step)) (x_5 : Int) (a_6 : List T_part_Step) (x_13 : Int) (x_14 : Int) (x_17 : Int)
  | l2 (a_0 : List T_roadref4_Step) (a_3 : List Int) (a_4 : List (List T_part_Step)) (x_5 : Int) (a_6 : List T_part_Step) (x_7 : Int) (x_13 : Int) (x_14 : Int) (x_17 : Int) (a_20 : List T_roadref4_Step) (x_21 : Int) (x_22 : Int)
  | j0 (a_0 : List T_roadref4_Step) (a_3 : List Int) (a_4 : List (List T_part_Step)) (x_5 : Int) (a_6 : List T_part_Step) (x_7 : Int) (y_9 : T_roadref4_Step) (x_13 : Int) (x_14 : Int) (x_17 : Int) (a_20 : List T_roadref4_Step) (x_21 : Int) (x_22 : Int) (b_38 : Bool)
noncomputable def roadlaw4_rounds.l0_k.body (go : (p : roadlaw4_rounds.l0_k.Pt) → Option ((List (List T_part_Step)))) : (p : roadlaw4_rounds.l0_k.Pt) → Option ((List (List T_part_Step)))
  | .l0 a_0 a_3 a_4 x_13 x_14 => if x_14 < x_13 then ((go (.l1 a_0 a_3 a_4 x_14 ([] : List T_part_Step) x_13 x_14 (0 : Int)))) else (some (a_4))
  | .l1 a_0 a_3 a_4 x_5 a_6 x_13 x_14 x_17 => if x_17 < (8 : Int) then ((go (.l2 a_0 a_3 a_4 x_5 a_6 x_17 x_13 x_14 x_17 a_0 (((List.length a_0) : Nat) : Int) (0 : Int)))) else (if (((List.length a_6) : Nat) : Int) > (0 : Int) then (Option.bind (ap 24 a_4 ([a_6] : List (List T_part_Step))) fun l5 => (go (.l0 a_0 a_3 l5 x_13 (IntKind.wrap .i64 (x_14 + (1 : Int)))))) else ((go (.l0 a_0 a_3 a_4 x_13 (IntKind.wrap .i64 (x_14 + (1 : Int)))))))
  | .l2 a_0 a_3 a_4 x_5 a_6 x_7 x_13 x_14 x_17 a_20 x_21 x_22 => if x_22 < x_21 then (Option.bind (gi a_20 x_22) fun y1 => Option.bind (gi a_3 x_22) fun y14 => if y14 = x_5 then ((go (.j0 a_0 a_3 a_4 x_5 a_6 x_7 y1 x_13 x_14 x_17 a_20 x_21 x_22 (y1.Who == x_7)))) else ((go (.j0 a_0 a_3 a_4 x_5 a_6 x_7 y1 x_13 x_14 x_17 a_20 x_21 x_22 false)))) else ((go (.l1 a_0 a_3 a_4 x_5 a_6 x_13 x_14 (IntKind.wrap .i64 (x_17 + (1 : Int))))))
  | .j0 a_0 a_3 a_4 x_5 a_6 x_7 y_9 x_13 x_14 x_17 a_20 x_21 x_22 b_38 => if b_38 = true then (Option.bind (ap 24 a_6 ([(T_part_Step.mk y_9.Who y_9.Reads y_9.Writes)] : List T_part_Step)) fun l5 => (go (.l2 a_0 a_3 a_4 x_5 l5 x_7 x_13 x_14 x_17 a_20 x_21 (IntKind.wrap .i64 (x_22 + (1 : Int)))))) else ((go (.l2 a_0 a_3 a_4 x_5 a_6 x_7 x_13 x_14 x_17 a_20 x_21 (IntKind.wrap .i64 (x_22 + (1 : Int))))))
theorem roadlaw4_rounds.l0_k.mono : MonoF (β := fun _ => ((List (List T_part_Step)))) roadlaw4_rounds.l0_k.body := fun f g hfg p => match p with
  | .l0 a_0 a_3 a_4 x_13 x_14 => LeO.ite ((hfg _)) (LeO.refl _)
  | .l1 a_0 a_3 a_4 x_5 a_6 x_13 x_14 x_17 => LeO.ite ((hfg _)) (LeO.ite (LeO.bind (LeO.refl _) fun l5 => (hfg _)) ((hfg _)))
  | .l2 a_0 a_3 a_4 x_5 a_6 x_7 x_13 x_14 x_17 a_20 x_21 x_22 => LeO.ite (LeO.bind (LeO.refl _) fun y1 => LeO.bind (LeO.refl _) fun y14 => LeO.ite ((hfg _)) ((hfg _))) ((hfg _))
  | .j0 a_0 a_3 a_4 x_5 a_6 x_7 y_9 x_13 x_14 x_17 a_20 x_21 x_22 b_38 => LeO.ite (LeO.bind (LeO.refl _) fun l5 => (hfg _)) ((hfg _))
noncomputable def roadlaw4_rounds.l0_k.go (p : roadlaw4_rounds.l0_k.Pt) : Option ((List (List T_part_Step))) := fixF (β := fun _ => ((List (List T_part_Step)))) roadlaw4_rounds.l0_k.body p
noncomputable def roadlaw4_rounds.l0 (a_0 : List T_roadref4_Step) (a_3 : List Int) (a_4 : List (List T_part_Step)) (x_13 : Int) (x_14 : Int) : Option ((List (List T_part_Step))) := roadlaw4_rounds.l0_k.go (.l0 a_0 a_3 a_4 x_13 x_14)
noncomputable def roadlaw4_rounds.l1 (a_0 : List T_roadref4_Step) (a_3 : List Int) (a_4 : List (List T_part_Step)) (x_5 : Int) (a_6 : List T_part_Step) (x_13 : Int) (x_14 : Int) (x_17 : Int) : Option ((List (List T_part_Step))) := roadlaw4_rounds.l0_k.go (.l1 a_0 a_3 a_4 x_5 a_6 x_13 x_14 x_17)
noncomputable def roadlaw4_rounds.l2 (a_0 : List T_roadref4_Step) (a_3 : List Int) (a_4 : List (List T_part_Step)) (x_5 : Int) (a_6 : List T_part_Step) (x_7 : Int) (x_13 : Int) (x_14 : Int) (x_17 : Int) (a_20 : List T_roadref4_Step) (x_21 : Int) (x_22 : Int) : Option ((List (List T_part_Step))) := roadlaw4_rounds.l0_k.go (.l2 a_0 a_3 a_4 x_5 a_6 x_7 x_13 x_14 x_17 a_20 x_21 x_22)
noncomputable def roadlaw4_rounds.j0 (a_0 : List T_roadref4_Step) (a_3 : List Int) (a_4 : List (List T_part_Step)) (x_5 : Int) (a_6 : List T_part_Step) (x_7 : Int) (y_9 : T_roadref4_Step) (x_13 : Int) (x_14 : Int) (x_17 : Int) (a_20 : List T_roadref4_Step) (x_21 : Int) (x_22 : Int) (b_38 : Bool) : Option ((List (List T_part_Step))) := roadlaw4_rounds.l0_k.go (.j0 a_0 a_3 a_4 x_5 a_6 x_7 y_9 x_13 x_14 x_17 a_20 x_21 x_22 b_38)
theorem roadlaw4_rounds.l0_eq (a_0 : List T_roadref4_Step) (a_3 : List Int) (a_4 : List (List T_part_Step)) (x_13 : Int) (x_14 : Int) : roadlaw4_rounds.l0 a_0 a_3 a_4 x_13 x_14 = if x_14 < x_13 then ((roadlaw4_rounds.l1 a_0 a_3 a_4 x_14 ([] : List T_part_Step) x_13 x_14 (0 : Int))) else (some (a_4)) := fixF_eq roadlaw4_rounds.l0_k.mono _
theorem roadlaw4_rounds.l1_eq (a_0 : List T_roadref4_Step) (a_3 : List Int) (a_4 : List (List T_part_Step)) (x_5 : Int) (a_6 : List T_part_Step) (x_13 : Int) (x_14 : Int) (x_17 : Int) : roadlaw4_rounds.l1 a_0 a_3 a_4 x_5 a_6 x_13 x_14 x_17 = if x_17 < (8 : Int) then ((roadlaw4_rounds.l2 a_0 a_3 a_4 x_5 a_6 x_17 x_13 x_14 x_17 a_0 (((List.length a_0) : Nat) : Int) (0 : Int))) else (if (((List.length a_6) : Nat) : Int) > (0 : Int) then (Option.bind (ap 24 a_4 ([a_6] : List (List T_part_Step))) fun l5 => (roadlaw4_rounds.l0 a_0 a_3 l5 x_13 (IntKind.wrap .i64 (x_14 + (1 : Int))))) else ((roadlaw4_rounds.l0 a_0 a_3 a_4 x_13 (IntKind.wrap .i64 (x_14 + (1 : Int)))))) := fixF_eq roadlaw4_rounds.l0_k.mono _
theorem roadlaw4_rounds.l2_eq (a_0 : List T_roadref4_Step) (a_3 : List Int) (a_4 : List (List T_part_Step)) (x_5 : Int) (a_6 : List T_part_Step) (x_7 : Int) (x_13 : Int) (x_14 : Int) (x_17 : Int) (a_20 : List T_roadref4_Step) (x_21 : Int) (x_22 : Int) : roadlaw4_rounds.l2 a_0 a_3 a_4 x_5 a_6 x_7 x_13 x_14 x_17 a_20 x_21 x_22 = if x_22 < x_21 then (Option.bind (gi a_20 x_22) fun y1 => Option.bind (gi a_3 x_22) fun y14 => if y14 = x_5 then ((roadlaw4_rounds.j0 a_0 a_3 a_4 x_5 a_6 x_7 y1 x_13 x_14 x_17 a_20 x_21 x_22 (y1.Who == x_7))) else ((roadlaw4_rounds.j0 a_0 a_3 a_4 x_5 a_6 x_7 y1 x_13 x_14 x_17 a_20 x_21 x_22 false))) else ((roadlaw4_rounds.l1 a_0 a_3 a_4 x_5 a_6 x_13 x_14 (IntKind.wrap .i64 (x_17 + (1 : Int))))) := fixF_eq roadlaw4_rounds.l0_k.mono _
theorem roadlaw4_rounds.j0_eq (a_0 : List T_roadref4_Step) (a_3 : List Int) (a_4 : List (List T_part_Step)) (x_5 : Int) (a_6 : List T_part_Step) (x_7 : Int) (y_9 : T_roadref4_Step) (x_13 : Int) (x_14 : Int) (x_17 : Int) (a_20 : List T_roadref4_Step) (x_21 : Int) (x_22 : Int) (b_38 : Bool) : roadlaw4_rounds.j0 a_0 a_3 a_4 x_5 a_6 x_7 y_9 x_13 x_14 x_17 a_20 x_21 x_22 b_38 = if b_38 = true then (Option.bind (ap 24 a_6 ([(T_part_Step.mk y_9.Who y_9.Reads y_9.Writes)] : List T_part_Step)) fun l5 => (roadlaw4_rounds.l2 a_0 a_3 a_4 x_5 l5 x_7 x_13 x_14 x_17 a_20 x_21 (IntKind.wrap .i64 (x_22 + (1 : Int))))) else ((roadlaw4_rounds.l2 a_0 a_3 a_4 x_5 a_6 x_7 x_13 x_14 x_17 a_20 x_21 (IntKind.wrap .i64 (x_22 + (1 : Int))))) := fixF_eq roadlaw4_rounds.l0_k.mono _
def roadlaw4_rounds.l0_k.I : (p : roadlaw4_rounds.l0_k.Pt) → ((List (List T_part_Step))) → Prop
  | .l0 a_0 a_3 a_4 x_13 x_14, r => ∀ (W : Nat → Prop) (h0 m0 h m : Heap) (A_0 : Option Addr) (n_0 c_0 : Nat) (A_3 : Option Addr) (n_3 c_3 : Nat) (A_4 : Option Addr) (n_4 c_4 : Nat) (O : Hold W h0 m0 h m [rR (aE (tell_int .i64)) A_3 c_3 a_3, rR (aE (tell_row T_part_Step.T)) A_4 c_4 a_4]) (ne_0 : n_0 = List.length a_0) (k_0 : List.length a_0 ≤ c_0) (r_0 : Rd 3 T_roadref4_Step.E m A_0 a_0) (ne_3 : n_3 = List.length a_3) (ne_4 : n_4 = List.length a_4), f42.l0 (roadlaw4_rounds.post W h0 m0 r) A_0 n_0 c_0 A_3 n_3 c_3 A_4 n_4 c_4 x_13 x_14 h
  | .l1 a_0 a_3 a_4 x_5 a_6 x_13 x_14 x_17, r => ∀ (W : Nat → Prop) (h0 m0 h m : Heap) (A_0 : Option Addr) (n_0 c_0 : Nat) (A_3 : Option Addr) (n_3 c_3 : Nat) (A_4 : Option Addr) (n_4 c_4 : Nat) (A_6 : Option Addr) (n_6 c_6 : Nat) (O : Hold W h0 m0 h m [rR (aE (tell_int .i64)) A_3 c_3 a_3, rR (aE (tell_row T_part_Step.T)) A_4 c_4 a_4, rR (aE T_part_Step.T) A_6 c_6 a_6]) (ne_0 : n_0 = List.length a_0) (k_0 : List.length a_0 ≤ c_0) (r_0 : Rd 3 T_roadref4_Step.E m A_0 a_0) (ne_3 : n_3 = List.length a_3) (ne_4 : n_4 = List.length a_4) (ne_6 : n_6 = List.length a_6), f42.l1 (roadlaw4_rounds.post W h0 m0 r) A_0 n_0 c_0 A_3 n_3 c_3 A_4 n_4 c_4 x_5 A_6 n_6 c_6 x_13 x_14 x_17 h
  | .l2 a_0 a_3 a_4 x_5 a_6 x_7 x_13 x_14 x_17 a_20 x_21 x_22, r => ∀ (W : Nat → Prop) (h0 m0 h m : Heap) (A_0 : Option Addr) (n_0 c_0 : Nat) (A_3 : Option Addr) (n_3 c_3 : Nat) (A_4 : Option Addr) (n_4 c_4 : Nat) (A_6 : Option Addr) (n_6 c_6 : Nat) (A_20 : Option Addr) (n_20 c_20 : Nat) (O : Hold W h0 m0 h m [rR (aE (tell_int .i64)) A_3 c_3 a_3, rR (aE (tell_row T_part_Step.T)) A_4 c_4 a_4, rR (aE T_part_Step.T) A_6 c_6 a_6]) (ne_0 : n_0 = List.length a_0) (k_0 : List.length a_0 ≤ c_0) (r_0 : Rd 3 T_roadref4_Step.E m A_0 a_0) (ne_3 : n_3 = List.length a_3) (ne_4 : n_4 = List.length a_4) (ne_6 : n_6 = List.length a_6) (ne_20 : n_20 = List.length a_20) (k_20 : List.length a_20 ≤ c_20) (r_20 : Rd 3 T_roadref4_Step.E m A_20 a_20), f42.l2 (roadlaw4_rounds.post W h0 m0 r) A_0 n_0 c_0 A_3 n_3 c_3 A_4 n_4 c_4 x_5 A_6 n_6 c_6 x_7 x_13 x_14 x_17 A_20 n_20 c_20 x_21 x_22 h
  | .j0 a_0 a_3 a_4 x_5 a_6 x_7 y_9 x_13 x_14 x_17 a_20 x_21 x_22 b_38, r => ∀ (W : Nat → Prop) (h0 m0 h m : Heap) (A_0 : Option Addr) (n_0 c_0 : Nat) (A_3 : Option Addr) (n_3 c_3 : Nat) (A_4 : Option Addr) (n_4 c_4 : Nat) (A_6 : Option Addr) (n_6 c_6 : Nat) (bk_9 : Nat) (cs_9 : List Value) (A_20 : Option Addr) (n_20 c_20 : Nat) (O : Hold W h0 m0 h m [rR (aE (tell_int .i64)) A_3 c_3 a_3, rR (aE (tell_row T_part_Step.T)) A_4 c_4 a_4, rR (aE T_part_Step.T) A_6 c_6 a_6, rV bk_9 88 cs_9]) (ne_0 : n_0 = List.length a_0) (k_0 : List.length a_0 ≤ c_0) (r_0 : Rd 3 T_roadref4_Step.E m A_0 a_0) (ne_3 : n_3 = List.length a_3) (ne_4 : n_4 = List.length a_4) (ne_6 : n_6 = List.length a_6) (e_9 : T_roadref4_Step.E m y_9 cs_9) (ne_20 : n_20 = List.length a_20) (k_20 : List.length a_20 ≤ c_20) (r_20 : Rd 3 T_roadref4_Step.E m A_20 a_20), f42.j0 (roadlaw4_rounds.post W h0 m0 r) A_0 n_0 c_0 A_3 n_3 c_3 A_4 n_4 c_4 x_5 A_6 n_6 c_6 x_7 (⟨bk_9, 0, none⟩ : Addr) x_13 x_14 x_17 A_20 n_20 c_20 x_21 x_22 b_38 h
set_option maxRecDepth 100000 in
theorem roadlaw4_rounds.l0_k.step_l0 (go : (p : roadlaw4_rounds.l0_k.Pt) → Option ((List (List T_part_Step)))) (ih : ∀ p r, go p = some r → roadlaw4_rounds.l0_k.I p r) (a_0 : List T_roadref4_Step) (a_3 : List Int) (a_4 : List (List T_part_Step)) (x_13 : Int) (x_14 : Int) (r : (List (List T_part_Step))) (e : roadlaw4_rounds.l0_k.body go (.l0 a_0 a_3 a_4 x_13 x_14) = some r) : roadlaw4_rounds.l0_k.I (.l0 a_0 a_3 a_4 x_13 x_14) r := by
  unfold roadlaw4_rounds.l0_k.body at e
  intro W h0 m0 h m A_0 n_0 c_0 A_3 n_3 c_3 A_4 n_4 c_4 O ne_0 k_0 r_0 ne_3 ne_4
  subst ne_0
  subst ne_3
  subst ne_4
  refine f42.l0_in ?_
  unfold f42.l0T
  refine split_dec_e e (fun c4 e => ?_) (fun c4 e => ?_)
  · have O1 := O.nil (aE T_part_Step.T) none
    have O3 := O1.nm
    exact (ih _ _ e) _ _ _ _ _ _ _ _ _ _ _ _ _ _ _ _ _ (O3.pick [0, 1, 2]).nm rfl k_0 r_0 rfl rfl rfl
  · cases e
    exact ⟨_, _, _, _, O.pick [1], rfl, rfl⟩
set_option maxRecDepth 100000 in
theorem roadlaw4_rounds.l0_k.step_l1 (go : (p : roadlaw4_rounds.l0_k.Pt) → Option ((List (List T_part_Step)))) (ih : ∀ p r, go p = some r → roadlaw4_rounds.l0_k.I p r) (a_0 : List T_roadref4_Step) (a_3 : List Int) (a_4 : List (List T_part_Step)) (x_5 : Int) (a_6 : List T_part_Step) (x_13 : Int) (x_14 : Int) (x_17 : Int) (r : (List (List T_part_Step))) (e : roadlaw4_rounds.l0_k.body go (.l1 a_0 a_3 a_4 x_5 a_6 x_13 x_14 x_17) = some r) : roadlaw4_rounds.l0_k.I (.l1 a_0 a_3 a_4 x_5 a_6 x_13 x_14 x_17) r := by
  unfold roadlaw4_rounds.l0_k.body at e
  intro W h0 m0 h m A_0 n_0 c_0 A_3 n_3 c_3 A_4 n_4 c_4 A_6 n_6 c_6 O ne_0 k_0 r_0 ne_3 ne_4 ne_6
  subst ne_0
  subst ne_3
  subst ne_4
  subst ne_6
  refine f42.l1_in ?_
  unfold f42.l1T
  refine split_dec_e e (fun c21 e => ?_) (fun c21 e => ?_)
  · exact (ih _ _ e) _ _ _ _ _ _ _ _ _ _ _ _ _ _ _ _ _ _ _ _ (O.pick [0, 1, 2]).nm rfl k_0 r_0 rfl rfl rfl rfl k_0 r_0
  · refine split_dec_e e (fun c20 e => ?_) (fun c20 e => ?_)
    · refine O.new fun h1 x2 O3 => ?_
      obtain ⟨l5, g6, e⟩ := bind_e e
      obtain ⟨m13, u14, ⟨r15, k16⟩, O17⟩ := O3.frz 2 rfl
      replace r15 : Rd 3 T_part_Step.E m13 A_6 a_6 := r15
      have O18 := O17.rowE (l := ([a_6] : List (List T_part_Step))) 3 rfl (tell_row T_part_Step.T) (show CsE _ _ _ _ _ from (CsE.cons (c1 := [(Value.slice A_6 (List.length a_6) c_6)]) ⟨_, _, rfl, k16, r15⟩ rfl CsE.nil)) rfl
      refine O18.app 1 rfl rfl rfl ((O18.os 3 rfl).srcE rfl) (by decide) g6 fun A7 c8 h9 O10 => ?_
      refine ⟨_, _, _, rfl, ?_⟩
      have O19 := O10.nm
      exact (ih _ _ e) _ _ _ _ _ _ _ _ _ _ _ _ _ _ (O19.pick [0, 1]).nm rfl k_0 (r_0.sub T_roadref4_Step.T u14) rfl rfl
    · exact (ih _ _ e) _ _ _ _ _ _ _ _ _ _ _ _ _ _ (O.pick [0, 1]).nm rfl k_0 r_0 rfl rfl
set_option maxRecDepth 100000 in
theorem roadlaw4_rounds.l0_k.step_l2 (go : (p : roadlaw4_rounds.l0_k.Pt) → Option ((List (List T_part_Step)))) (ih : ∀ p r, go p = some r → roadlaw4_rounds.l0_k.I p r) (a_0 : List T_roadref4_Step) (a_3 : List Int) (a_4 : List (List T_part_Step)) (x_5 : Int) (a_6 : List T_part_Step) (x_7 : Int) (x_13 : Int) (x_14 : Int) (x_17 : Int) (a_20 : List T_roadref4_Step) (x_21 : Int) (x_22 : Int) (r : (List (List T_part_Step))) (e : roadlaw4_rounds.l0_k.body go (.l2 a_0 a_3 a_4 x_5 a_6 x_7 x_13 x_14 x_17 a_20 x_21 x_22) = some r) : roadlaw4_rounds.l0_k.I (.l2 a_0 a_3 a_4 x_5 a_6 x_7 x_13 x_14 x_17 a_20 x_21 x_22) r := by
  unfold roadlaw4_rounds.l0_k.body at e
  intro W h0 m0 h m A_0 n_0 c_0 A_3 n_3 c_3 A_4 n_4 c_4 A_6 n_6 c_6 A_20 n_20 c_20 O ne_0 k_0 r_0 ne_3 ne_4 ne_6 ne_20 k_20 r_20
  subst ne_0
  subst ne_3
  subst ne_4
  subst ne_6
  subst ne_20
  refine f42.l2_in ?_
  unfold f42.l2T
  refine split_dec_e e (fun c24 e => ?_) (fun c24 e => ?_)
  · obtain ⟨y1, g2, e⟩ := bind_e e
    refine r_20.addr rfl g2 fun a3 cs4 ha5 hc6 he7 => ?_
    refine ⟨_, ldAn O.s hc6 rfl, ?_⟩
    refine O.new fun h8 x9 O10 => ?_
    refine ⟨_, rfl, (T_roadref4_Step.T.len _ _ _ he7), ?_⟩
    refine O10.stA 3 rfl (T_roadref4_Step.T.len _ _ _ he7) (T_roadref4_Step.T.flat _ _ _ he7) fun h12 O13 => ?_
    obtain ⟨y14, g15, e⟩ := bind_e e
    refine (O13.os 0 rfl).addr rfl g15 fun a16 cs17 ha18 hc19 he20 => ?_
    obtain rfl : cs17 = [(Value.int .i64 y14)] := he20
    refine ⟨_, ld0 (Sub.refl _) hc19 rfl, _, rfl, ?_⟩
    refine split_eq_e e (fun c23 e => ?_) (fun c23 e => ?_)
    · refine ⟨_, ld0 (Sub.refl _) (O13.all 3 rfl) (T_roadref4_Step.g0 he7), _, rfl, ?_⟩
      have O21 := O13.nm
      exact (ih _ _ e) _ _ _ _ _ _ _ _ _ _ _ _ _ _ _ _ _ _ _ _ _ _ (O21.pick [0, 1, 2, 3]).nm rfl k_0 r_0 rfl rfl rfl he7 rfl k_20 r_20
    · have O22 := O13.nm
      exact (ih _ _ e) _ _ _ _ _ _ _ _ _ _ _ _ _ _ _ _ _ _ _ _ _ _ (O22.pick [0, 1, 2, 3]).nm rfl k_0 r_0 rfl rfl rfl he7 rfl k_20 r_20
  · exact (ih _ _ e) _ _ _ _ _ _ _ _ _ _ _ _ _ _ _ _ _ (O.pick [0, 1, 2]).nm rfl k_0 r_0 rfl rfl rfl
set_option maxRecDepth 100000 in
theorem roadlaw4_rounds.l0_k.step_j0 (go : (p : roadlaw4_rounds.l0_k.Pt) → Option ((List (List T_part_Step)))) (ih : ∀ p r, go p = some r → roadlaw4_rounds.l0_k.I p r) (a_0 : List T_roadref4_Step) (a_3 : List Int) (a_4 : List (List T_part_Step)) (x_5 : Int) (a_6 : List T_part_Step) (x_7 : Int) (y_9 : T_roadref4_Step) (x_13 : Int) (x_14 : Int) (x_17 : Int) (a_20 : List T_roadref4_Step) (x_21 : Int) (x_22 : Int) (b_38 : Bool) (r : (List (List T_part_Step))) (e : roadlaw4_rounds.l0_k.body go (.j0 a_0 a_3 a_4 x_5 a_6 x_7 y_9 x_13 x_14 x_17 a_20 x_21 x_22 b_38) = some r) : roadlaw4_rounds.l0_k.I (.j0 a_0 a_3 a_4 x_5 a_6 x_7 y_9 x_13 x_14 x_17 a_20 x_21 x_22 b_38) r := by
  unfold roadlaw4_rounds.l0_k.body at e
  intro W h0 m0 h m A_0 n_0 c_0 A_3 n_3 c_3 A_4 n_4 c_4 A_6 n_6 c_6 bk_9 cs_9 A_20 n_20 c_20 O ne_0 k_0 r_0 ne_3 ne_4 ne_6 e_9 ne_20 k_20 r_20
  subst ne_0
  subst ne_3
  subst ne_4
  subst ne_6
  subst ne_20
  refine f42.j0_in ?_
  unfold f42.j0T
  refine split_any_e e (fun c15 e => ?_) (fun c15 e => ?_)
  · refine ⟨_, ld0 (Sub.refl _) (O.all 3 rfl) (T_roadref4_Step.g0 e_9), _, rfl, ?_⟩
    refine ⟨_, ldk (k := 1) (Sub.refl _) (O.all 3 rfl) (T_roadref4_Step.g1 e_9), _, rfl, ?_⟩
    refine ⟨_, ldk (k := 2) (Sub.refl _) (O.all 3 rfl) (T_roadref4_Step.g2 e_9), _, rfl, ?_⟩
    refine ⟨[(Value.int .i64 y_9.Who), (Value.int .i64 y_9.Reads), (Value.int .i64 y_9.Writes)], rfl, rfl, ?_⟩
    refine O.new fun h1 x2 O3 => ?_
    obtain ⟨l5, g6, e⟩ := bind_e e
    have O13 := O3.rowE (l := ([(T_part_Step.mk y_9.Who y_9.Reads y_9.Writes)] : List T_part_Step)) 4 rfl T_part_Step.T (show CsE _ _ _ _ _ from (CsE.cons (c1 := [(Value.int .i64 y_9.Who), (Value.int .i64 y_9.Reads), (Value.int .i64 y_9.Writes)]) (show T_part_Step.E _ (T_part_Step.mk y_9.Who y_9.Reads y_9.Writes) [(Value.int .i64 y_9.Who), (Value.int .i64 y_9.Reads), (Value.int .i64 y_9.Writes)] from rfl) rfl CsE.nil)) rfl
    refine O13.app 2 rfl rfl rfl ((O13.os 4 rfl).srcE rfl) (by decide) g6 fun A7 c8 h9 O10 => ?_
    refine ⟨_, _, _, rfl, ?_⟩
    have O14 := O10.nm
    exact (ih _ _ e) _ _ _ _ _ _ _ _ _ _ _ _ _ _ _ _ _ _ _ _ (O14.pick [0, 1, 2]).nm rfl k_0 r_0 rfl rfl rfl rfl k_20 r_20
  · exact (ih _ _ e) _ _ _ _ _ _ _ _ _ _ _ _ _ _ _ _ _ _ _ _ (O.pick [0, 1, 2]).nm rfl k_0 r_0 rfl rfl rfl rfl k_20 r_20
theorem roadlaw4_rounds.l0_k.all {p : roadlaw4_rounds.l0_k.Pt} {r : ((List (List T_part_Step)))} (e : roadlaw4_rounds.l0_k.go p = some r) : roadlaw4_rounds.l0_k.I p r := fixF_ind (β := fun _ => ((List (List T_part_Step)))) roadlaw4_rounds.l0_k.mono (I := roadlaw4_rounds.l0_k.I) (fun go ih p r e => match p with
  | .l0 a_0 a_3 a_4 x_13 x_14 => roadlaw4_rounds.l0_k.step_l0 go ih a_0 a_3 a_4 x_13 x_14 r e
  | .l1 a_0 a_3 a_4 x_5 a_6 x_13 x_14 x_17 => roadlaw4_rounds.l0_k.step_l1 go ih a_0 a_3 a_4 x_5 a_6 x_13 x_14 x_17 r e
  | .l2 a_0 a_3 a_4 x_5 a_6 x_7 x_13 x_14 x_17 a_20 x_21 x_22 => roadlaw4_rounds.l0_k.step_l2 go ih a_0 a_3 a_4 x_5 a_6 x_7 x_13 x_14 x_17 a_20 x_21 x_22 r e
  | .j0 a_0 a_3 a_4 x_5 a_6 x_7 y_9 x_13 x_14 x_17 a_20 x_21 x_22 b_38 => roadlaw4_rounds.l0_k.step_j0 go ih a_0 a_3 a_4 x_5 a_6 x_7 y_9 x_13 x_14 x_17 a_20 x_21 x_22 b_38 r e
  ) e
theorem roadlaw4_rounds.l0.walk {W : Nat → Prop} {h0 m0 h m : Heap} {A_0 : Option Addr} {n_0 c_0 : Nat} {A_3 : Option Addr} {n_3 c_3 : Nat} {A_4 : Option Addr} {n_4 c_4 : Nat} {a_0 : List T_roadref4_Step} {a_3 : List Int} {a_4 : List (List T_part_Step)} {x_13 : Int} {x_14 : Int} (O : Hold W h0 m0 h m [rR (aE (tell_int .i64)) A_3 c_3 a_3, rR (aE (tell_row T_part_Step.T)) A_4 c_4 a_4]) (ne_0 : n_0 = List.length a_0) (k_0 : List.length a_0 ≤ c_0) (r_0 : Rd 3 T_roadref4_Step.E m A_0 a_0) (ne_3 : n_3 = List.length a_3) (ne_4 : n_4 = List.length a_4) {r : (List (List T_part_Step))} (e : roadlaw4_rounds.l0 a_0 a_3 a_4 x_13 x_14 = some r) : f42.l0 (roadlaw4_rounds.post W h0 m0 r) A_0 n_0 c_0 A_3 n_3 c_3 A_4 n_4 c_4 x_13 x_14 h := roadlaw4_rounds.l0_k.all (p := .l0 a_0 a_3 a_4 x_13 x_14) e W h0 m0 h m A_0 n_0 c_0 A_3 n_3 c_3 A_4 n_4 c_4 O ne_0 k_0 r_0 ne_3 ne_4
noncomputable def roadlaw4_rounds (a_0 : List T_roadref4_Step) : Option ((List (List T_part_Step))) :=
  Option.bind (roadref4_Rounds a_0) fun y1 => (roadlaw4_rounds.l0 a_0 y1 ([] : List (List T_part_Step)) (((List.length a_0) : Nat) : Int) (0 : Int))
set_option maxRecDepth 100000 in
theorem roadlaw4_rounds.walk {W : Nat → Prop} {h m : Heap} {A_0 : Option Addr} {n_0 c_0 : Nat} {a_0 : List T_roadref4_Step} (O : Hold W h m h m []) (ne_0 : n_0 = List.length a_0) (k_0 : List.length a_0 ≤ c_0) (r_0 : Rd 3 T_roadref4_Step.E m A_0 a_0) {r : (List (List T_part_Step))} (e : roadlaw4_rounds a_0 = some r) : Run Try.prog 42 #[Value.slice A_0 n_0 c_0] h (roadlaw4_rounds.post W h m r) := by
  unfold roadlaw4_rounds at e
  subst ne_0
  refine f42.run ?_
  unfold f42.runT
  obtain ⟨y1, g2, e⟩ := bind_e e
  refine (roadref4_Rounds.walk (Hold.start (W := No) O.s) rfl k_0 r_0 g2).mono ?_
  rintro _ h3 ⟨m4, A7, n8, c9, Q5, rfl, ne10⟩
  have O12 := Hold.nm (O.retC Q5 (vfs_cons (rR_vf (aE_vf (fun _ _ _ _ h => h))) vfs_nil))
  subst ne10
  refine ⟨_, _, _, rfl, ?_⟩
  have O13 := O12.nil (aE (tell_row T_part_Step.T)) none
  have O15 := O13.nm
  exact roadlaw4_rounds.l0.walk (O15.pick [0, 1]).nm rfl k_0 r_0 rfl rfl e
def roadlaw4_PartSays_1.post (W : Nat → Prop) (h0 m0 : Heap) (r : Bool) (v : Value) (h : Heap) : Prop := ∃ m , Hold W h0 m0 h m [] ∧ v = .bool r
noncomputable def roadlaw4_PartSays_1 (a_0 : List T_part_Step) (a_1 : List T_part_Step) : Option (Bool) :=
  Option.bind (slices_Equal_44 a_0 a_1) fun y1 => some (y1)
set_option maxRecDepth 100000 in
theorem roadlaw4_PartSays_1.walk {W : Nat → Prop} {h m : Heap} {A_0 : Option Addr} {n_0 c_0 : Nat} {A_1 : Option Addr} {n_1 c_1 : Nat} {a_0 : List T_part_Step} {a_1 : List T_part_Step} (O : Hold W h m h m []) (ne_0 : n_0 = List.length a_0) (k_0 : List.length a_0 ≤ c_0) (r_0 : Rd 3 T_part_Step.E m A_0 a_0) (ne_1 : n_1 = List.length a_1) (k_1 : List.length a_1 ≤ c_1) (r_1 : Rd 3 T_part_Step.E m A_1 a_1) {r : Bool} (e : roadlaw4_PartSays_1 a_0 a_1 = some r) : Run Try.prog 43 #[Value.slice A_0 n_0 c_0, Value.slice A_1 n_1 c_1] h (roadlaw4_PartSays_1.post W h m r) := by
  unfold roadlaw4_PartSays_1 at e
  subst ne_0
  subst ne_1
  refine f43.run ?_
  unfold f43.runT
  obtain ⟨y1, g2, e⟩ := bind_e e
  refine (slices_Equal_44.walk (Hold.start (W := No) O.s) rfl k_0 r_0 rfl k_1 r_1 g2).mono ?_
  rintro _ h3 ⟨m4, Q5, rfl⟩
  have O7 := Hold.nm (O.retC Q5 vfs_nil)
  refine ⟨_, rfl, ?_⟩
  cases e
  exact ⟨_, O7.pick [], rfl⟩
def slices_Grow_138.post (W : Nat → Prop) (h0 m0 : Heap) (r : (List T_roadref4_Step)) (v : Value) (h : Heap) : Prop := ∃ m A0 n0 c0, Hold W h0 m0 h m [rR (aE T_roadref4_Step.T) A0 c0 r] ∧ v = .slice A0 n0 c0 ∧ n0 = List.length r
noncomputable def slices_Grow_138 (x1 : Int) : Option (List T_roadref4_Step) := if gro 24 x1 = true then some [] else none
set_option maxRecDepth 100000 in
theorem slices_Grow_138.walk {W : Nat → Prop} {h m : Heap} {x1 : Int} (O : Hold W h m h m []) {r : List T_roadref4_Step} (e : slices_Grow_138 x1 = some r) : Run Try.prog 138 #[Value.slice none 0 0, Value.int .i64 x1] h (slices_Grow_138.post W h m r) := by
  unfold slices_Grow_138 at e
  have S : St No h m h m := .refl O.s
  obtain ⟨g, e⟩ := guard_e e
  cases e
  refine f138.run ?_
  unfold f138.runT
  refine split_dec (fun c => absurd c (by have := of_decide_eq_true (show decide _ = true from g); omega)) (fun _ => ?_)
  refine f138.j0_in ?_
  unfold f138.j0T
  exact grow_nil S rfl (by decide) g (fun A' c' h' o' x' => ⟨m, _, _, _, O.add (R := rR (aE T_roadref4_Step.T) A' c' []) (St.of_ext O.s x') o'.rowP o'.newNo, rfl, rfl⟩)
def slices_Concat_101.post (W : Nat → Prop) (h0 m0 : Heap) (r : (List T_roadref4_Step)) (v : Value) (h : Heap) : Prop := ∃ m A0 n0 c0, Hold W h0 m0 h m [rR (aE T_roadref4_Step.T) A0 c0 r] ∧ v = .slice A0 n0 c0 ∧ n0 = List.length r
inductive slices_Concat_101.l1_k.Pt where
  | l1 (a_6 : List T_roadref4_Step) (a_25 : List (List T_roadref4_Step)) (x_26 : Int) (x_27 : Int)
noncomputable def slices_Concat_101.l1_k.body (go : (p : slices_Concat_101.l1_k.Pt) → Option ((List T_roadref4_Step))) : (p : slices_Concat_101.l1_k.Pt) → Option ((List T_roadref4_Step))
  | .l1 a_6 a_25 x_26 x_27 => if x_27 < x_26 then (Option.bind (gi a_25 x_27) fun y1 => Option.bind (ap 24 a_6 y1) fun l8 => (go (.l1 l8 a_25 x_26 (IntKind.wrap .i64 (x_27 + (1 : Int)))))) else (some (a_6))
theorem slices_Concat_101.l1_k.mono : MonoF (β := fun _ => ((List T_roadref4_Step))) slices_Concat_101.l1_k.body := fun f g hfg p => match p with
  | .l1 a_6 a_25 x_26 x_27 => LeO.ite (LeO.bind (LeO.refl _) fun y1 => LeO.bind (LeO.refl _) fun l8 => (hfg _)) (LeO.refl _)
noncomputable def slices_Concat_101.l1_k.go (p : slices_Concat_101.l1_k.Pt) : Option ((List T_roadref4_Step)) := fixF (β := fun _ => ((List T_roadref4_Step))) slices_Concat_101.l1_k.body p
noncomputable def slices_Concat_101.l1 (a_6 : List T_roadref4_Step) (a_25 : List (List T_roadref4_Step)) (x_26 : Int) (x_27 : Int) : Option ((List T_roadref4_Step)) := slices_Concat_101.l1_k.go (.l1 a_6 a_25 x_26 x_27)
theorem slices_Concat_101.l1_eq (a_6 : List T_roadref4_Step) (a_25 : List (List T_roadref4_Step)) (x_26 : Int) (x_27 : Int) : slices_Concat_101.l1 a_6 a_25 x_26 x_27 = if x_27 < x_26 then (Option.bind (gi a_25 x_27) fun y1 => Option.bind (ap 24 a_6 y1) fun l8 => (slices_Concat_101.l1 l8 a_25 x_26 (IntKind.wrap .i64 (x_27 + (1 : Int))))) else (some (a_6)) := fixF_eq slices_Concat_101.l1_k.mono _
def slices_Concat_101.l1_k.I : (p : slices_Concat_101.l1_k.Pt) → ((List T_roadref4_Step)) → Prop
  | .l1 a_6 a_25 x_26 x_27, r => ∀ (W : Nat → Prop) (h0 m0 h m : Heap) (A_6 : Option Addr) (n_6 c_6 : Nat) (A_25 : Option Addr) (n_25 c_25 : Nat) (O : Hold W h0 m0 h m [rR (aE T_roadref4_Step.T) A_6 c_6 a_6]) (ne_6 : n_6 = List.length a_6) (ne_25 : n_25 = List.length a_25) (k_25 : List.length a_25 ≤ c_25) (r_25 : Rd 1 (eRow 3 T_roadref4_Step.E) m A_25 a_25), f101.l1 (slices_Concat_101.post W h0 m0 r) A_6 n_6 c_6 A_25 n_25 c_25 x_26 x_27 h
set_option maxRecDepth 100000 in
theorem slices_Concat_101.l1_k.step_l1 (go : (p : slices_Concat_101.l1_k.Pt) → Option ((List T_roadref4_Step))) (ih : ∀ p r, go p = some r → slices_Concat_101.l1_k.I p r) (a_6 : List T_roadref4_Step) (a_25 : List (List T_roadref4_Step)) (x_26 : Int) (x_27 : Int) (r : (List T_roadref4_Step)) (e : slices_Concat_101.l1_k.body go (.l1 a_6 a_25 x_26 x_27) = some r) : slices_Concat_101.l1_k.I (.l1 a_6 a_25 x_26 x_27) r := by
  unfold slices_Concat_101.l1_k.body at e
  intro W h0 m0 h m A_6 n_6 c_6 A_25 n_25 c_25 O ne_6 ne_25 k_25 r_25
  subst ne_6
  subst ne_25
  refine f101.l1_in ?_
  unfold f101.l1T
  refine split_dec_e e (fun c17 e => ?_) (fun c17 e => ?_)
  · obtain ⟨y1, g2, e⟩ := bind_e e
    refine r_25.addr rfl g2 fun a3 cs4 ha5 hc6 he7 => ?_
    obtain ⟨Acs4_0, ccs4_0, rfl, kcs4_0, rcs4_0⟩ := id he7
    refine ⟨_, ld0 O.s hc6 rfl, _, _, _, rfl, ?_⟩
    obtain ⟨l8, g9, e⟩ := bind_e e
    refine O.app 0 rfl rfl rfl (Rd.srcE rcs4_0 T_roadref4_Step.T O.s rfl) (by decide) g9 fun A10 c11 h12 O13 => ?_
    refine ⟨_, _, _, rfl, ?_⟩
    have O16 := O13.nm
    exact (ih _ _ e) _ _ _ _ _ _ _ _ _ _ _ (O16.pick [0]).nm rfl rfl k_25 r_25
  · cases e
    exact ⟨_, _, _, _, O.pick [0], rfl, rfl⟩
theorem slices_Concat_101.l1_k.all {p : slices_Concat_101.l1_k.Pt} {r : ((List T_roadref4_Step))} (e : slices_Concat_101.l1_k.go p = some r) : slices_Concat_101.l1_k.I p r := fixF_ind (β := fun _ => ((List T_roadref4_Step))) slices_Concat_101.l1_k.mono (I := slices_Concat_101.l1_k.I) (fun go ih p r e => match p with
  | .l1 a_6 a_25 x_26 x_27 => slices_Concat_101.l1_k.step_l1 go ih a_6 a_25 x_26 x_27 r e
  ) e
theorem slices_Concat_101.l1.walk {W : Nat → Prop} {h0 m0 h m : Heap} {A_6 : Option Addr} {n_6 c_6 : Nat} {A_25 : Option Addr} {n_25 c_25 : Nat} {a_6 : List T_roadref4_Step} {a_25 : List (List T_roadref4_Step)} {x_26 : Int} {x_27 : Int} (O : Hold W h0 m0 h m [rR (aE T_roadref4_Step.T) A_6 c_6 a_6]) (ne_6 : n_6 = List.length a_6) (ne_25 : n_25 = List.length a_25) (k_25 : List.length a_25 ≤ c_25) (r_25 : Rd 1 (eRow 3 T_roadref4_Step.E) m A_25 a_25) {r : (List T_roadref4_Step)} (e : slices_Concat_101.l1 a_6 a_25 x_26 x_27 = some r) : f101.l1 (slices_Concat_101.post W h0 m0 r) A_6 n_6 c_6 A_25 n_25 c_25 x_26 x_27 h := slices_Concat_101.l1_k.all (p := .l1 a_6 a_25 x_26 x_27) e W h0 m0 h m A_6 n_6 c_6 A_25 n_25 c_25 O ne_6 ne_25 k_25 r_25
inductive slices_Concat_101.l0_k.Pt where
  | l0 (a_0 : List (List T_roadref4_Step)) (x_3 : Int) (a_9 : List (List T_roadref4_Step)) (x_10 : Int) (x_11 : Int)
noncomputable def slices_Concat_101.l0_k.body (go : (p : slices_Concat_101.l0_k.Pt) → Option ((List T_roadref4_Step))) : (p : slices_Concat_101.l0_k.Pt) → Option ((List T_roadref4_Step))
  | .l0 a_0 x_3 a_9 x_10 x_11 => if x_11 < x_10 then (Option.bind (gi a_9 x_11) fun y1 => if (IntKind.wrap .i64 (x_3 + (((List.length y1) : Nat) : Int))) < (0 : Int) then ((none : Option _)) else ((go (.l0 a_0 (IntKind.wrap .i64 (x_3 + (((List.length y1) : Nat) : Int))) a_9 x_10 (IntKind.wrap .i64 (x_11 + (1 : Int))))))) else (Option.bind (slices_Grow_138 x_3) fun y9 => (slices_Concat_101.l1 y9 a_0 (((List.length a_0) : Nat) : Int) (0 : Int)))
theorem slices_Concat_101.l0_k.mono : MonoF (β := fun _ => ((List T_roadref4_Step))) slices_Concat_101.l0_k.body := fun f g hfg p => match p with
  | .l0 a_0 x_3 a_9 x_10 x_11 => LeO.ite (LeO.bind (LeO.refl _) fun y1 => LeO.ite (LeO.refl _) ((hfg _))) (LeO.bind (LeO.refl _) fun y9 => (LeO.refl _))
noncomputable def slices_Concat_101.l0_k.go (p : slices_Concat_101.l0_k.Pt) : Option ((List T_roadref4_Step)) := fixF (β := fun _ => ((List T_roadref4_Step))) slices_Concat_101.l0_k.body p
noncomputable def slices_Concat_101.l0 (a_0 : List (List T_roadref4_Step)) (x_3 : Int) (a_9 : List (List T_roadref4_Step)) (x_10 : Int) (x_11 : Int) : Option ((List T_roadref4_Step)) := slices_Concat_101.l0_k.go (.l0 a_0 x_3 a_9 x_10 x_11)
theorem slices_Concat_101.l0_eq (a_0 : List (List T_roadref4_Step)) (x_3 : Int) (a_9 : List (List T_roadref4_Step)) (x_10 : Int) (x_11 : Int) : slices_Concat_101.l0 a_0 x_3 a_9 x_10 x_11 = if x_11 < x_10 then (Option.bind (gi a_9 x_11) fun y1 => if (IntKind.wrap .i64 (x_3 + (((List.length y1) : Nat) : Int))) < (0 : Int) then ((none : Option _)) else ((slices_Concat_101.l0 a_0 (IntKind.wrap .i64 (x_3 + (((List.length y1) : Nat) : Int))) a_9 x_10 (IntKind.wrap .i64 (x_11 + (1 : Int)))))) else (Option.bind (slices_Grow_138 x_3) fun y9 => (slices_Concat_101.l1 y9 a_0 (((List.length a_0) : Nat) : Int) (0 : Int))) := fixF_eq slices_Concat_101.l0_k.mono _
def slices_Concat_101.l0_k.I : (p : slices_Concat_101.l0_k.Pt) → ((List T_roadref4_Step)) → Prop
  | .l0 a_0 x_3 a_9 x_10 x_11, r => ∀ (W : Nat → Prop) (h0 m0 h m : Heap) (A_0 : Option Addr) (n_0 c_0 : Nat) (A_9 : Option Addr) (n_9 c_9 : Nat) (O : Hold W h0 m0 h m []) (ne_0 : n_0 = List.length a_0) (k_0 : List.length a_0 ≤ c_0) (r_0 : Rd 1 (eRow 3 T_roadref4_Step.E) m A_0 a_0) (ne_9 : n_9 = List.length a_9) (k_9 : List.length a_9 ≤ c_9) (r_9 : Rd 1 (eRow 3 T_roadref4_Step.E) m A_9 a_9), f101.l0 (slices_Concat_101.post W h0 m0 r) A_0 n_0 c_0 x_3 A_9 n_9 c_9 x_10 x_11 h
set_option maxRecDepth 100000 in
theorem slices_Concat_101.l0_k.step_l0 (go : (p : slices_Concat_101.l0_k.Pt) → Option ((List T_roadref4_Step))) (ih : ∀ p r, go p = some r → slices_Concat_101.l0_k.I p r) (a_0 : List (List T_roadref4_Step)) (x_3 : Int) (a_9 : List (List T_roadref4_Step)) (x_10 : Int) (x_11 : Int) (r : (List T_roadref4_Step)) (e : slices_Concat_101.l0_k.body go (.l0 a_0 x_3 a_9 x_10 x_11) = some r) : slices_Concat_101.l0_k.I (.l0 a_0 x_3 a_9 x_10 x_11) r := by
  unfold slices_Concat_101.l0_k.body at e
  intro W h0 m0 h m A_0 n_0 c_0 A_9 n_9 c_9 O ne_0 k_0 r_0 ne_9 k_9 r_9
  subst ne_0
  subst ne_9
  refine f101.l0_in ?_
  unfold f101.l0T
  refine split_dec_e e (fun c21 e => ?_) (fun c21 e => ?_)
  · obtain ⟨y1, g2, e⟩ := bind_e e
    refine r_9.addr rfl g2 fun a3 cs4 ha5 hc6 he7 => ?_
    obtain ⟨Acs4_0, ccs4_0, rfl, kcs4_0, rcs4_0⟩ := id he7
    refine ⟨_, ld0 O.s hc6 rfl, _, _, _, rfl, ?_⟩
    refine split_dec_e e (fun c8 e => ?_) (fun c8 e => ?_)
    · cases e
    · exact (ih _ _ e) _ _ _ _ _ _ _ _ _ _ _ (O.pick []).nm rfl k_0 r_0 rfl k_9 r_9
  · obtain ⟨y9, g10, e⟩ := bind_e e
    refine (slices_Grow_138.walk (Hold.start (W := No) O.s)  g10).mono ?_
    rintro _ h11 ⟨m12, A15, n16, c17, Q13, rfl, ne18⟩
    have O20 := Hold.nm (O.retC Q13 (vfs_cons (rR_vf (aE_vf (fun _ _ _ _ h => T_roadref4_Step.keep h))) vfs_nil))
    subst ne18
    refine ⟨_, _, _, rfl, ?_⟩
    exact slices_Concat_101.l1.walk (O20.pick [0]).nm rfl rfl k_0 r_0 e
theorem slices_Concat_101.l0_k.all {p : slices_Concat_101.l0_k.Pt} {r : ((List T_roadref4_Step))} (e : slices_Concat_101.l0_k.go p = some r) : slices_Concat_101.l0_k.I p r := fixF_ind (β := fun _ => ((List T_roadref4_Step))) slices_Concat_101.l0_k.mono (I := slices_Concat_101.l0_k.I) (fun go ih p r e => match p with
  | .l0 a_0 x_3 a_9 x_10 x_11 => slices_Concat_101.l0_k.step_l0 go ih a_0 x_3 a_9 x_10 x_11 r e
  ) e
theorem slices_Concat_101.l0.walk {W : Nat → Prop} {h0 m0 h m : Heap} {A_0 : Option Addr} {n_0 c_0 : Nat} {A_9 : Option Addr} {n_9 c_9 : Nat} {a_0 : List (List T_roadref4_Step)} {x_3 : Int} {a_9 : List (List T_roadref4_Step)} {x_10 : Int} {x_11 : Int} (O : Hold W h0 m0 h m []) (ne_0 : n_0 = List.length a_0) (k_0 : List.length a_0 ≤ c_0) (r_0 : Rd 1 (eRow 3 T_roadref4_Step.E) m A_0 a_0) (ne_9 : n_9 = List.length a_9) (k_9 : List.length a_9 ≤ c_9) (r_9 : Rd 1 (eRow 3 T_roadref4_Step.E) m A_9 a_9) {r : (List T_roadref4_Step)} (e : slices_Concat_101.l0 a_0 x_3 a_9 x_10 x_11 = some r) : f101.l0 (slices_Concat_101.post W h0 m0 r) A_0 n_0 c_0 x_3 A_9 n_9 c_9 x_10 x_11 h := slices_Concat_101.l0_k.all (p := .l0 a_0 x_3 a_9 x_10 x_11) e W h0 m0 h m A_0 n_0 c_0 A_9 n_9 c_9 O ne_0 k_0 r_0 ne_9 k_9 r_9
noncomputable def slices_Concat_101 (a_0 : List (List T_roadref4_Step)) : Option ((List T_roadref4_Step)) :=
  (slices_Concat_101.l0 a_0 (0 : Int) a_0 (((List.length a_0) : Nat) : Int) (0 : Int))
set_option maxRecDepth 100000 in
theorem slices_Concat_101.walk {W : Nat → Prop} {h m : Heap} {A_0 : Option Addr} {n_0 c_0 : Nat} {a_0 : List (List T_roadref4_Step)} (O : Hold W h m h m []) (ne_0 : n_0 = List.length a_0) (k_0 : List.length a_0 ≤ c_0) (r_0 : Rd 1 (eRow 3 T_roadref4_Step.E) m A_0 a_0) {r : (List T_roadref4_Step)} (e : slices_Concat_101 a_0 = some r) : Run Try.prog 101 #[Value.slice A_0 n_0 c_0] h (slices_Concat_101.post W h m r) := by
  unfold slices_Concat_101 at e
  subst ne_0
  refine f101.run ?_
  unfold f101.runT
  exact slices_Concat_101.l0.walk (O.pick []).nm rfl k_0 r_0 rfl k_0 r_0 e
theorem slices_Concat_101.val (ls : List (List T_roadref4_Step)) (hl : ls.length ≤ 4611686018427387904) (hs : ls.flatten.length * 24 ≤ 140737488355328) : slices_Concat_101 ls = some ls.flatten := concat_val (B := 24) (by decide) (fun r a n i => slices_Concat_101.l1_eq r a n i) (fun a s b n i => slices_Concat_101.l0_eq a s b n i) (gr := slices_Grow_138) (fun _ => rfl) (fun _ => rfl) ls hl hs
def roadref4_Normal.post (W : Nat → Prop) (h0 m0 : Heap) (r : (List T_roadref4_Step)) (v : Value) (h : Heap) : Prop := ∃ m A0 n0 c0, Hold W h0 m0 h m [rR (aE T_roadref4_Step.T) A0 c0 r] ∧ v = .slice A0 n0 c0 ∧ n0 = List.length r
inductive roadref4_Normal_k.Pt where
  | f (a_0 : List T_roadref4_Step)
  | l0 (a_0 : List T_roadref4_Step) (x_3 : Int) (x_11 : Int) (x_12 : Int)
  | l1 (a_0 : List T_roadref4_Step) (x_3 : Int) (x_4 : Int) (b_5 : Bool) (x_11 : Int) (x_12 : Int) (x_15 : Int) (x_16 : Int)
  | j0 (a_0 : List T_roadref4_Step) (x_3 : Int) (x_4 : Int) (x_11 : Int) (x_12 : Int) (b_46 : Bool)
noncomputable def roadref4_Normal_k.body (go : (p : roadref4_Normal_k.Pt) → Option ((List T_roadref4_Step))) : (p : roadref4_Normal_k.Pt) → Option ((List T_roadref4_Step))
  | .f a_0 => if (((List.length a_0) : Nat) : Int) = (0 : Int) then (some (([] : List T_roadref4_Step))) else ((go (.l0 a_0 (0 : Int) (((List.length a_0) : Nat) : Int) (0 : Int))))
  | .l0 a_0 x_3 x_11 x_12 => if x_12 < x_11 then ((go (.l1 a_0 x_3 x_12 true x_11 x_12 x_12 (0 : Int)))) else (Option.bind (gi a_0 x_3) fun y1 => Option.bind (sls a_0 (0 : Int) x_3) fun l8 => Option.bind (sls a_0 (IntKind.wrap .i64 (x_3 + (1 : Int))) (((List.length a_0) : Nat) : Int)) fun l13 => Option.bind (slices_Concat_101 ([l8, l13] : List (List T_roadref4_Step))) fun y28 => Option.bind ((go (.f y28))) fun y48 => Option.bind (ap 24 ([y1] : List T_roadref4_Step) y48) fun l68 => some (l68))
  | .l1 a_0 x_3 x_4 b_5 x_11 x_12 x_15 x_16 => if x_16 < x_15 then (if b_5 = true then (Option.bind (gi a_0 x_16) fun y1 => Option.bind (gi a_0 x_4) fun y8 => Option.bind (roadref4_Step_Tied y1 y8) fun y15 => (go (.l1 a_0 x_3 x_4 (!y15) x_11 x_12 x_15 (IntKind.wrap .i64 (x_16 + (1 : Int)))))) else ((go (.l1 a_0 x_3 x_4 false x_11 x_12 x_15 (IntKind.wrap .i64 (x_16 + (1 : Int))))))) else (if b_5 = true then (Option.bind (gi a_0 x_4) fun y23 => Option.bind (gi a_0 x_3) fun y30 => (go (.j0 a_0 x_3 x_4 x_11 x_12 (decide (y23.Who < y30.Who))))) else ((go (.j0 a_0 x_3 x_4 x_11 x_12 false))))
  | .j0 a_0 x_3 x_4 x_11 x_12 b_46 => if b_46 = true then ((go (.l0 a_0 x_4 x_11 (IntKind.wrap .i64 (x_12 + (1 : Int)))))) else ((go (.l0 a_0 x_3 x_11 (IntKind.wrap .i64 (x_12 + (1 : Int))))))
theorem roadref4_Normal_k.mono : MonoF (β := fun _ => ((List T_roadref4_Step))) roadref4_Normal_k.body := fun f g hfg p => match p with
  | .f a_0 => LeO.ite (LeO.refl _) ((hfg _))
  | .l0 a_0 x_3 x_11 x_12 => LeO.ite ((hfg _)) (LeO.bind (LeO.refl _) fun y1 => LeO.bind (LeO.refl _) fun l8 => LeO.bind (LeO.refl _) fun l13 => LeO.bind (LeO.refl _) fun y28 => LeO.bind ((hfg _)) fun y48 => LeO.bind (LeO.refl _) fun l68 => LeO.refl _)
  | .l1 a_0 x_3 x_4 b_5 x_11 x_12 x_15 x_16 => LeO.ite (LeO.ite (LeO.bind (LeO.refl _) fun y1 => LeO.bind (LeO.refl _) fun y8 => LeO.bind (LeO.refl _) fun y15 => (hfg _)) ((hfg _))) (LeO.ite (LeO.bind (LeO.refl _) fun y23 => LeO.bind (LeO.refl _) fun y30 => (hfg _)) ((hfg _)))
  | .j0 a_0 x_3 x_4 x_11 x_12 b_46 => LeO.ite ((hfg _)) ((hfg _))
noncomputable def roadref4_Normal_k.go (p : roadref4_Normal_k.Pt) : Option ((List T_roadref4_Step)) := fixF (β := fun _ => ((List T_roadref4_Step))) roadref4_Normal_k.body p
noncomputable def roadref4_Normal (a_0 : List T_roadref4_Step) : Option ((List T_roadref4_Step)) := roadref4_Normal_k.go (.f a_0)
noncomputable def roadref4_Normal.l0 (a_0 : List T_roadref4_Step) (x_3 : Int) (x_11 : Int) (x_12 : Int) : Option ((List T_roadref4_Step)) := roadref4_Normal_k.go (.l0 a_0 x_3 x_11 x_12)
noncomputable def roadref4_Normal.l1 (a_0 : List T_roadref4_Step) (x_3 : Int) (x_4 : Int) (b_5 : Bool) (x_11 : Int) (x_12 : Int) (x_15 : Int) (x_16 : Int) : Option ((List T_roadref4_Step)) := roadref4_Normal_k.go (.l1 a_0 x_3 x_4 b_5 x_11 x_12 x_15 x_16)
noncomputable def roadref4_Normal.j0 (a_0 : List T_roadref4_Step) (x_3 : Int) (x_4 : Int) (x_11 : Int) (x_12 : Int) (b_46 : Bool) : Option ((List T_roadref4_Step)) := roadref4_Normal_k.go (.j0 a_0 x_3 x_4 x_11 x_12 b_46)
theorem roadref4_Normal_eq (a_0 : List T_roadref4_Step) : roadref4_Normal a_0 = if (((List.length a_0) : Nat) : Int) = (0 : Int) then (some (([] : List T_roadref4_Step))) else ((roadref4_Normal.l0 a_0 (0 : Int) (((List.length a_0) : Nat) : Int) (0 : Int))) := fixF_eq roadref4_Normal_k.mono _
theorem roadref4_Normal.l0_eq (a_0 : List T_roadref4_Step) (x_3 : Int) (x_11 : Int) (x_12 : Int) : roadref4_Normal.l0 a_0 x_3 x_11 x_12 = if x_12 < x_11 then ((roadref4_Normal.l1 a_0 x_3 x_12 true x_11 x_12 x_12 (0 : Int))) else (Option.bind (gi a_0 x_3) fun y1 => Option.bind (sls a_0 (0 : Int) x_3) fun l8 => Option.bind (sls a_0 (IntKind.wrap .i64 (x_3 + (1 : Int))) (((List.length a_0) : Nat) : Int)) fun l13 => Option.bind (slices_Concat_101 ([l8, l13] : List (List T_roadref4_Step))) fun y28 => Option.bind ((roadref4_Normal y28)) fun y48 => Option.bind (ap 24 ([y1] : List T_roadref4_Step) y48) fun l68 => some (l68)) := fixF_eq roadref4_Normal_k.mono _
theorem roadref4_Normal.l1_eq (a_0 : List T_roadref4_Step) (x_3 : Int) (x_4 : Int) (b_5 : Bool) (x_11 : Int) (x_12 : Int) (x_15 : Int) (x_16 : Int) : roadref4_Normal.l1 a_0 x_3 x_4 b_5 x_11 x_12 x_15 x_16 = if x_16 < x_15 then (if b_5 = true then (Option.bind (gi a_0 x_16) fun y1 => Option.bind (gi a_0 x_4) fun y8 => Option.bind (roadref4_Step_Tied y1 y8) fun y15 => (roadref4_Normal.l1 a_0 x_3 x_4 (!y15) x_11 x_12 x_15 (IntKind.wrap .i64 (x_16 + (1 : Int))))) else ((roadref4_Normal.l1 a_0 x_3 x_4 false x_11 x_12 x_15 (IntKind.wrap .i64 (x_16 + (1 : Int)))))) else (if b_5 = true then (Option.bind (gi a_0 x_4) fun y23 => Option.bind (gi a_0 x_3) fun y30 => (roadref4_Normal.j0 a_0 x_3 x_4 x_11 x_12 (decide (y23.Who < y30.Who)))) else ((roadref4_Normal.j0 a_0 x_3 x_4 x_11 x_12 false))) := fixF_eq roadref4_Normal_k.mono _
theorem roadref4_Normal.j0_eq (a_0 : List T_roadref4_Step) (x_3 : Int) (x_4 : Int) (x_11 : Int) (x_12 : Int) (b_46 : Bool) : roadref4_Normal.j0 a_0 x_3 x_4 x_11 x_12 b_46 = if b_46 = true then ((roadref4_Normal.l0 a_0 x_4 x_11 (IntKind.wrap .i64 (x_12 + (1 : Int))))) else ((roadref4_Normal.l0 a_0 x_3 x_11 (IntKind.wrap .i64 (x_12 + (1 : Int))))) := fixF_eq roadref4_Normal_k.mono _
def roadref4_Normal_k.I : (p : roadref4_Normal_k.Pt) → ((List T_roadref4_Step)) → Prop
  | .f a_0, r => ∀ (W : Nat → Prop) (h m : Heap) (A_0 : Option Addr) (n_0 c_0 : Nat) (O : Hold W h m h m []) (ne_0 : n_0 = List.length a_0) (k_0 : List.length a_0 ≤ c_0) (r_0 : Rd 3 T_roadref4_Step.E m A_0 a_0), Run Try.prog 45 #[Value.slice A_0 n_0 c_0] h (roadref4_Normal.post W h m r)
  | .l0 a_0 x_3 x_11 x_12, r => ∀ (W : Nat → Prop) (h0 m0 h m : Heap) (A_0 : Option Addr) (n_0 c_0 : Nat) (O : Hold W h0 m0 h m []) (ne_0 : n_0 = List.length a_0) (k_0 : List.length a_0 ≤ c_0) (r_0 : Rd 3 T_roadref4_Step.E m A_0 a_0), f45.l0 (roadref4_Normal.post W h0 m0 r) A_0 n_0 c_0 x_3 x_11 x_12 h
  | .l1 a_0 x_3 x_4 b_5 x_11 x_12 x_15 x_16, r => ∀ (W : Nat → Prop) (h0 m0 h m : Heap) (A_0 : Option Addr) (n_0 c_0 : Nat) (O : Hold W h0 m0 h m []) (ne_0 : n_0 = List.length a_0) (k_0 : List.length a_0 ≤ c_0) (r_0 : Rd 3 T_roadref4_Step.E m A_0 a_0), f45.l1 (roadref4_Normal.post W h0 m0 r) A_0 n_0 c_0 x_3 x_4 b_5 x_11 x_12 x_15 x_16 h
  | .j0 a_0 x_3 x_4 x_11 x_12 b_46, r => ∀ (W : Nat → Prop) (h0 m0 h m : Heap) (A_0 : Option Addr) (n_0 c_0 : Nat) (O : Hold W h0 m0 h m []) (ne_0 : n_0 = List.length a_0) (k_0 : List.length a_0 ≤ c_0) (r_0 : Rd 3 T_roadref4_Step.E m A_0 a_0), f45.j0 (roadref4_Normal.post W h0 m0 r) A_0 n_0 c_0 x_3 x_4 x_11 x_12 b_46 h
set_option maxRecDepth 100000 in
theorem roadref4_Normal_k.step_f (go : (p : roadref4_Normal_k.Pt) → Option ((List T_roadref4_Step))) (ih : ∀ p r, go p = some r → roadref4_Normal_k.I p r) (a_0 : List T_roadref4_Step) (r : (List T_roadref4_Step)) (e : roadref4_Normal_k.body go (.f a_0) = some r) : roadref4_Normal_k.I (.f a_0) r := by
  unfold roadref4_Normal_k.body at e
  intro W h m A_0 n_0 c_0 O ne_0 k_0 r_0
  subst ne_0
  refine f45.run ?_
  unfold f45.runT
  refine split_eq_e e (fun c4 e => ?_) (fun c4 e => ?_)
  · have O1 := O.nil (aE T_roadref4_Step.T) none
    have O3 := O1.nm
    cases e
    exact ⟨_, _, _, _, O3.pick [0], rfl, rfl⟩
  · exact (ih _ _ e) _ _ _ _ _ _ _ _ (O.pick []).nm rfl k_0 r_0
set_option maxHeartbeats 4000000 in
set_option maxRecDepth 100000 in
theorem roadref4_Normal_k.step_l0 (go : (p : roadref4_Normal_k.Pt) → Option ((List T_roadref4_Step))) (ih : ∀ p r, go p = some r → roadref4_Normal_k.I p r) (a_0 : List T_roadref4_Step) (x_3 : Int) (x_11 : Int) (x_12 : Int) (r : (List T_roadref4_Step)) (e : roadref4_Normal_k.body go (.l0 a_0 x_3 x_11 x_12) = some r) : roadref4_Normal_k.I (.l0 a_0 x_3 x_11 x_12) r := by
  unfold roadref4_Normal_k.body at e
  intro W h0 m0 h m A_0 n_0 c_0 O ne_0 k_0 r_0
  subst ne_0
  refine f45.l0_in ?_
  unfold f45.l0T
  refine split_dec_e e (fun c302 e => ?_) (fun c302 e => ?_)
  · exact (ih _ _ e) _ _ _ _ _ _ _ _ (O.pick []).nm rfl k_0 r_0
  · obtain ⟨y1, g2, e⟩ := bind_e e
    obtain ⟨l8, g9, e⟩ := bind_e e
    obtain ⟨l13, g14, e⟩ := bind_e e
    obtain ⟨y28, g29, e⟩ := bind_e e
    obtain ⟨y48, g49, e⟩ := bind_e e
    obtain ⟨l68, g69, e⟩ := bind_e e
    refine r_0.addr rfl g2 fun a79 cs80 ha81 hc82 he83 => ?_
    have q86 := sls_e g9
    refine ⟨q86.1, q86.2.1, cap_in q86.2.2.1 k_0, ?_⟩
    try rw [q86.2.2.2.1]
    have k87 : List.length l8 ≤ (c_0 - Int.toNat (0 : Int)) := sls_cap g9 k_0
    have r88 := r_0.sls g9 (le_mx q86.2.2.1 k_0)
    have q91 := sls_e g14
    refine ⟨q91.1, q91.2.1, cap_in q91.2.2.1 k_0, ?_⟩
    try rw [q91.2.2.2.1]
    have k92 : List.length l13 ≤ (c_0 - Int.toNat (IntKind.wrap .i64 (x_3 + (1 : Int)))) := sls_cap g14 k_0
    have r93 := r_0.sls g14 (le_mx q91.2.2.1 k_0)
    refine ⟨_, ldAn O.s hc82 rfl, ?_⟩
    refine ⟨?_, ?_⟩
    · refine ⟨cs80, rfl, (T_roadref4_Step.T.len _ _ _ he83), ?_⟩
      refine O.new fun h94 x95 O96 => ?_
      have O98 := O96.recell 0 rfl (cs' := cs80 ++ []) rfl
      refine O98.new fun h99 x100 O101 => ?_
      refine ⟨x100, ?_⟩
      have O103 := O101.rowE (l := ([l8, l13] : List (List T_roadref4_Step))) 1 rfl (tell_row T_roadref4_Step.T) (show CsE _ _ _ _ _ from (CsE.cons (c1 := [(Value.slice (sliceA A_0 (Int.toNat (0 : Int)) c_0 3) (List.length l8) (c_0 - Int.toNat (0 : Int)))]) ⟨_, _, rfl, k87, r88⟩ rfl (CsE.cons (c1 := [(Value.slice (sliceA A_0 (Int.toNat (IntKind.wrap .i64 (x_3 + (1 : Int)))) c_0 3) (List.length l13) (c_0 - Int.toNat (IntKind.wrap .i64 (x_3 + (1 : Int)))))]) ⟨_, _, rfl, k92, r93⟩ rfl CsE.nil))) rfl
      have O110 := O103.nm
      obtain ⟨m111, u112, s117, ⟨⟨r115, k116⟩, _⟩, B113, C114⟩ := O110.lend0 [1]
      replace r115 : Rd 1 (eRow 3 T_roadref4_Step.E) m111 (some ⟨(Array.size h94), 0, none⟩) ([l8, l13] : List (List T_roadref4_Step)) := r115
      replace k116 : List.length ([l8, l13] : List (List T_roadref4_Step)) ≤ 2 := k116
      refine (slices_Concat_101.walk (Hold.start (W := No) s117) rfl k116 r115 g29).mono ?_
      rintro _ h106 ⟨m107, A118, n119, c120, Q108, rfl, ne121⟩
      have O123 := Hold.nm (C114 Q108 (vfs_cons (rR_vf (aE_vf (fun _ _ _ _ h => T_roadref4_Step.keep h))) vfs_nil))
      subst ne121
      refine ⟨_, _, _, rfl, ?_⟩
      refine ⟨Q108.S.ext, ?_⟩
      obtain ⟨m130, u131, s136, ⟨⟨r134, k135⟩, _⟩, B132, C133⟩ := O123.lend0 [2]
      replace r134 : Rd 3 T_roadref4_Step.E m130 A118 y28 := r134
      replace k135 : List.length y28 ≤ c120 := k135
      refine ((ih _ _ g49) _ _ _ _ _ _ (Hold.start (W := No) s136) rfl k135 r134).mono ?_
      rintro _ h126 ⟨m127, A137, n138, c139, Q128, rfl, ne140⟩
      have O142 := Hold.nm (C133 Q128 (vfs_cons (rR_vf (aE_vf (fun _ _ _ _ h => T_roadref4_Step.keep h))) vfs_nil))
      subst ne140
      refine ⟨_, _, _, rfl, ?_⟩
      refine ⟨Q128.S.ext, ?_⟩
      have O143 := O142.rowE (l := ([y1] : List T_roadref4_Step)) 0 rfl T_roadref4_Step.T (show CsE _ _ _ _ _ from (CsE.cons he83 (T_roadref4_Step.T.len _ _ _ he83) CsE.nil)) rfl
      refine O143.app 0 rfl rfl rfl ((O143.os 3 rfl).srcE rfl) (by decide) g69 fun A146 c147 h148 O149 => ?_
      refine ⟨_, _, _, rfl, ?_⟩
      have O152 := O149.nm
      cases e
      exact ⟨_, _, _, _, O152.pick [0], rfl, rfl⟩
    · refine O.new fun h153 x154 O155 => ?_
      refine ⟨x154, ?_⟩
      refine ⟨?_, ?_⟩
      · refine ⟨cs80, rfl, (T_roadref4_Step.T.len _ _ _ he83), ?_⟩
        refine O155.new fun h157 x158 O159 => ?_
        have O161 := O159.recell 1 rfl (cs' := cs80 ++ []) rfl
        have O162 := O161.rowE (l := ([l8, l13] : List (List T_roadref4_Step))) 0 rfl (tell_row T_roadref4_Step.T) (show CsE _ _ _ _ _ from (CsE.cons (c1 := [(Value.slice (sliceA A_0 (Int.toNat (0 : Int)) c_0 3) (List.length l8) (c_0 - Int.toNat (0 : Int)))]) ⟨_, _, rfl, k87, r88⟩ rfl (CsE.cons (c1 := [(Value.slice (sliceA A_0 (Int.toNat (IntKind.wrap .i64 (x_3 + (1 : Int)))) c_0 3) (List.length l13) (c_0 - Int.toNat (IntKind.wrap .i64 (x_3 + (1 : Int)))))]) ⟨_, _, rfl, k92, r93⟩ rfl CsE.nil))) rfl
        have O169 := O162.nm
        obtain ⟨m170, u171, s176, ⟨⟨r174, k175⟩, _⟩, B172, C173⟩ := O169.lend0 [0]
        replace r174 : Rd 1 (eRow 3 T_roadref4_Step.E) m170 (some ⟨(Array.size h), 0, none⟩) ([l8, l13] : List (List T_roadref4_Step)) := r174
        replace k175 : List.length ([l8, l13] : List (List T_roadref4_Step)) ≤ 2 := k175
        refine (slices_Concat_101.walk (Hold.start (W := No) s176) rfl k175 r174 g29).mono ?_
        rintro _ h165 ⟨m166, A177, n178, c179, Q167, rfl, ne180⟩
        have O182 := Hold.nm (C173 Q167 (vfs_cons (rR_vf (aE_vf (fun _ _ _ _ h => T_roadref4_Step.keep h))) vfs_nil))
        subst ne180
        refine ⟨_, _, _, rfl, ?_⟩
        refine ⟨Q167.S.ext, ?_⟩
        obtain ⟨m189, u190, s195, ⟨⟨r193, k194⟩, _⟩, B191, C192⟩ := O182.lend0 [2]
        replace r193 : Rd 3 T_roadref4_Step.E m189 A177 y28 := r193
        replace k194 : List.length y28 ≤ c179 := k194
        refine ((ih _ _ g49) _ _ _ _ _ _ (Hold.start (W := No) s195) rfl k194 r193).mono ?_
        rintro _ h185 ⟨m186, A196, n197, c198, Q187, rfl, ne199⟩
        have O201 := Hold.nm (C192 Q187 (vfs_cons (rR_vf (aE_vf (fun _ _ _ _ h => T_roadref4_Step.keep h))) vfs_nil))
        subst ne199
        refine ⟨_, _, _, rfl, ?_⟩
        refine ⟨Q187.S.ext, ?_⟩
        have O202 := O201.rowE (l := ([y1] : List T_roadref4_Step)) 1 rfl T_roadref4_Step.T (show CsE _ _ _ _ _ from (CsE.cons he83 (T_roadref4_Step.T.len _ _ _ he83) CsE.nil)) rfl
        refine O202.app 1 rfl rfl rfl ((O202.os 3 rfl).srcE rfl) (by decide) g69 fun A205 c206 h207 O208 => ?_
        refine ⟨_, _, _, rfl, ?_⟩
        have O211 := O208.nm
        cases e
        exact ⟨_, _, _, _, O211.pick [1], rfl, rfl⟩
      · have O212 := O155.rowE (l := ([l8, l13] : List (List T_roadref4_Step))) 0 rfl (tell_row T_roadref4_Step.T) (show CsE _ _ _ _ _ from (CsE.cons (c1 := [(Value.slice (sliceA A_0 (Int.toNat (0 : Int)) c_0 3) (List.length l8) (c_0 - Int.toNat (0 : Int)))]) ⟨_, _, rfl, k87, r88⟩ rfl (CsE.cons (c1 := [(Value.slice (sliceA A_0 (Int.toNat (IntKind.wrap .i64 (x_3 + (1 : Int)))) c_0 3) (List.length l13) (c_0 - Int.toNat (IntKind.wrap .i64 (x_3 + (1 : Int)))))]) ⟨_, _, rfl, k92, r93⟩ rfl CsE.nil))) rfl
        have O219 := O212.nm
        obtain ⟨m220, u221, s226, ⟨⟨r224, k225⟩, _⟩, B222, C223⟩ := O219.lend0 [0]
        replace r224 : Rd 1 (eRow 3 T_roadref4_Step.E) m220 (some ⟨(Array.size h), 0, none⟩) ([l8, l13] : List (List T_roadref4_Step)) := r224
        replace k225 : List.length ([l8, l13] : List (List T_roadref4_Step)) ≤ 2 := k225
        refine (slices_Concat_101.walk (Hold.start (W := No) s226) rfl k225 r224 g29).mono ?_
        rintro _ h215 ⟨m216, A227, n228, c229, Q217, rfl, ne230⟩
        have O232 := Hold.nm (C223 Q217 (vfs_cons (rR_vf (aE_vf (fun _ _ _ _ h => T_roadref4_Step.keep h))) vfs_nil))
        subst ne230
        refine ⟨_, _, _, rfl, ?_⟩
        refine ⟨Q217.S.ext, ?_⟩
        refine ⟨?_, ?_⟩
        · refine ⟨cs80, rfl, (T_roadref4_Step.T.len _ _ _ he83), ?_⟩
          refine O232.new fun h233 x234 O235 => ?_
          have O237 := O235.recell 2 rfl (cs' := cs80 ++ []) rfl
          have O244 := O237.nm
          obtain ⟨m245, u246, s251, ⟨⟨r249, k250⟩, _⟩, B247, C248⟩ := O244.lend0 [1]
          replace r249 : Rd 3 T_roadref4_Step.E m245 A227 y28 := r249
          replace k250 : List.length y28 ≤ c229 := k250
          refine ((ih _ _ g49) _ _ _ _ _ _ (Hold.start (W := No) s251) rfl k250 r249).mono ?_
          rintro _ h240 ⟨m241, A252, n253, c254, Q242, rfl, ne255⟩
          have O257 := Hold.nm (C248 Q242 (vfs_cons (rR_vf (aE_vf (fun _ _ _ _ h => T_roadref4_Step.keep h))) vfs_nil))
          subst ne255
          refine ⟨_, _, _, rfl, ?_⟩
          refine ⟨Q242.S.ext, ?_⟩
          have O258 := O257.rowE (l := ([y1] : List T_roadref4_Step)) 2 rfl T_roadref4_Step.T (show CsE _ _ _ _ _ from (CsE.cons he83 (T_roadref4_Step.T.len _ _ _ he83) CsE.nil)) rfl
          refine O258.app 2 rfl rfl rfl ((O258.os 3 rfl).srcE rfl) (by decide) g69 fun A261 c262 h263 O264 => ?_
          refine ⟨_, _, _, rfl, ?_⟩
          have O267 := O264.nm
          cases e
          exact ⟨_, _, _, _, O267.pick [2], rfl, rfl⟩
        · obtain ⟨m274, u275, s280, ⟨⟨r278, k279⟩, _⟩, B276, C277⟩ := O232.lend0 [1]
          replace r278 : Rd 3 T_roadref4_Step.E m274 A227 y28 := r278
          replace k279 : List.length y28 ≤ c229 := k279
          refine ((ih _ _ g49) _ _ _ _ _ _ (Hold.start (W := No) s280) rfl k279 r278).mono ?_
          rintro _ h270 ⟨m271, A281, n282, c283, Q272, rfl, ne284⟩
          have O286 := Hold.nm (C277 Q272 (vfs_cons (rR_vf (aE_vf (fun _ _ _ _ h => T_roadref4_Step.keep h))) vfs_nil))
          subst ne284
          refine ⟨_, _, _, rfl, ?_⟩
          refine ⟨Q272.S.ext, ?_⟩
          refine ⟨cs80, rfl, (T_roadref4_Step.T.len _ _ _ he83), ?_⟩
          refine O286.new fun h287 x288 O289 => ?_
          have O291 := O289.recell 3 rfl (cs' := cs80 ++ []) rfl
          have O292 := O291.rowE (l := ([y1] : List T_roadref4_Step)) 3 rfl T_roadref4_Step.T (show CsE _ _ _ _ _ from (CsE.cons he83 (T_roadref4_Step.T.len _ _ _ he83) CsE.nil)) rfl
          refine O292.app 3 rfl rfl rfl ((O292.os 2 rfl).srcE rfl) (by decide) g69 fun A295 c296 h297 O298 => ?_
          refine ⟨_, _, _, rfl, ?_⟩
          have O301 := O298.nm
          cases e
          exact ⟨_, _, _, _, O301.pick [3], rfl, rfl⟩
set_option maxRecDepth 100000 in
theorem roadref4_Normal_k.step_l1 (go : (p : roadref4_Normal_k.Pt) → Option ((List T_roadref4_Step))) (ih : ∀ p r, go p = some r → roadref4_Normal_k.I p r) (a_0 : List T_roadref4_Step) (x_3 : Int) (x_4 : Int) (b_5 : Bool) (x_11 : Int) (x_12 : Int) (x_15 : Int) (x_16 : Int) (r : (List T_roadref4_Step)) (e : roadref4_Normal_k.body go (.l1 a_0 x_3 x_4 b_5 x_11 x_12 x_15 x_16) = some r) : roadref4_Normal_k.I (.l1 a_0 x_3 x_4 b_5 x_11 x_12 x_15 x_16) r := by
  unfold roadref4_Normal_k.body at e
  intro W h0 m0 h m A_0 n_0 c_0 O ne_0 k_0 r_0
  subst ne_0
  refine f45.l1_in ?_
  unfold f45.l1T
  refine split_dec_e e (fun c38 e => ?_) (fun c38 e => ?_)
  · refine split_any_e e (fun c22 e => ?_) (fun c22 e => ?_)
    · obtain ⟨y1, g2, e⟩ := bind_e e
      refine r_0.addr rfl g2 fun a3 cs4 ha5 hc6 he7 => ?_
      obtain ⟨y8, g9, e⟩ := bind_e e
      refine r_0.addr rfl g9 fun a10 cs11 ha12 hc13 he14 => ?_
      refine ⟨_, ldAn O.s hc6 rfl, ?_⟩
      refine ⟨_, ldAn O.s hc13 rfl, ?_⟩
      obtain ⟨y15, g16, e⟩ := bind_e e
      refine (roadref4_Step_Tied.walk (Hold.start (W := No) O.s) he7 he14 g16).mono ?_
      rintro _ h17 ⟨m18, Q19, rfl⟩
      have O21 := Hold.nm (O.retC Q19 vfs_nil)
      refine ⟨_, rfl, ?_⟩
      exact (ih _ _ e) _ _ _ _ _ _ _ _ (O21.pick []).nm rfl k_0 r_0
    · exact (ih _ _ e) _ _ _ _ _ _ _ _ (O.pick []).nm rfl k_0 r_0
  · refine split_any_e e (fun c37 e => ?_) (fun c37 e => ?_)
    · obtain ⟨y23, g24, e⟩ := bind_e e
      refine r_0.addr rfl g24 fun a25 cs26 ha27 hc28 he29 => ?_
      obtain ⟨y30, g31, e⟩ := bind_e e
      refine r_0.addr rfl g31 fun a32 cs33 ha34 hc35 he36 => ?_
      refine ⟨_, ld0 O.s hc28 (T_roadref4_Step.g0 he29), _, rfl, ?_⟩
      refine ⟨_, ld0 O.s hc35 (T_roadref4_Step.g0 he36), _, rfl, ?_⟩
      exact (ih _ _ e) _ _ _ _ _ _ _ _ (O.pick []).nm rfl k_0 r_0
    · exact (ih _ _ e) _ _ _ _ _ _ _ _ (O.pick []).nm rfl k_0 r_0
set_option maxRecDepth 100000 in
theorem roadref4_Normal_k.step_j0 (go : (p : roadref4_Normal_k.Pt) → Option ((List T_roadref4_Step))) (ih : ∀ p r, go p = some r → roadref4_Normal_k.I p r) (a_0 : List T_roadref4_Step) (x_3 : Int) (x_4 : Int) (x_11 : Int) (x_12 : Int) (b_46 : Bool) (r : (List T_roadref4_Step)) (e : roadref4_Normal_k.body go (.j0 a_0 x_3 x_4 x_11 x_12 b_46) = some r) : roadref4_Normal_k.I (.j0 a_0 x_3 x_4 x_11 x_12 b_46) r := by
  unfold roadref4_Normal_k.body at e
  intro W h0 m0 h m A_0 n_0 c_0 O ne_0 k_0 r_0
  subst ne_0
  refine f45.j0_in ?_
  unfold f45.j0T
  refine split_any_e e (fun c1 e => ?_) (fun c1 e => ?_)
  · exact (ih _ _ e) _ _ _ _ _ _ _ _ (O.pick []).nm rfl k_0 r_0
  · exact (ih _ _ e) _ _ _ _ _ _ _ _ (O.pick []).nm rfl k_0 r_0
theorem roadref4_Normal_k.all {p : roadref4_Normal_k.Pt} {r : ((List T_roadref4_Step))} (e : roadref4_Normal_k.go p = some r) : roadref4_Normal_k.I p r := fixF_ind (β := fun _ => ((List T_roadref4_Step))) roadref4_Normal_k.mono (I := roadref4_Normal_k.I) (fun go ih p r e => match p with
  | .f a_0 => roadref4_Normal_k.step_f go ih a_0 r e
  | .l0 a_0 x_3 x_11 x_12 => roadref4_Normal_k.step_l0 go ih a_0 x_3 x_11 x_12 r e
  | .l1 a_0 x_3 x_4 b_5 x_11 x_12 x_15 x_16 => roadref4_Normal_k.step_l1 go ih a_0 x_3 x_4 b_5 x_11 x_12 x_15 x_16 r e
  | .j0 a_0 x_3 x_4 x_11 x_12 b_46 => roadref4_Normal_k.step_j0 go ih a_0 x_3 x_4 x_11 x_12 b_46 r e
  ) e
theorem roadref4_Normal.walk {W : Nat → Prop} {h m : Heap} {A_0 : Option Addr} {n_0 c_0 : Nat} {a_0 : List T_roadref4_Step} (O : Hold W h m h m []) (ne_0 : n_0 = List.length a_0) (k_0 : List.length a_0 ≤ c_0) (r_0 : Rd 3 T_roadref4_Step.E m A_0 a_0) {r : (List T_roadref4_Step)} (e : roadref4_Normal a_0 = some r) : Run Try.prog 45 #[Value.slice A_0 n_0 c_0] h (roadref4_Normal.post W h m r) := roadref4_Normal_k.all (p := .f a_0) e W h m A_0 n_0 c_0 O ne_0 k_0 r_0
def roadlaw4_PartSays_2.post (W : Nat → Prop) (h0 m0 : Heap) (r : Bool) (v : Value) (h : Heap) : Prop := ∃ m , Hold W h0 m0 h m [] ∧ v = .bool r
noncomputable def roadlaw4_PartSays_2 (a_0 : List T_part_Step) (a_1 : List T_part_Step) : Option (Bool) :=
  Option.bind (slices_Equal_44 a_0 a_1) fun y1 => some (y1)
set_option maxRecDepth 100000 in
theorem roadlaw4_PartSays_2.walk {W : Nat → Prop} {h m : Heap} {A_0 : Option Addr} {n_0 c_0 : Nat} {A_1 : Option Addr} {n_1 c_1 : Nat} {a_0 : List T_part_Step} {a_1 : List T_part_Step} (O : Hold W h m h m []) (ne_0 : n_0 = List.length a_0) (k_0 : List.length a_0 ≤ c_0) (r_0 : Rd 3 T_part_Step.E m A_0 a_0) (ne_1 : n_1 = List.length a_1) (k_1 : List.length a_1 ≤ c_1) (r_1 : Rd 3 T_part_Step.E m A_1 a_1) {r : Bool} (e : roadlaw4_PartSays_2 a_0 a_1 = some r) : Run Try.prog 47 #[Value.slice A_0 n_0 c_0, Value.slice A_1 n_1 c_1] h (roadlaw4_PartSays_2.post W h m r) := by
  unfold roadlaw4_PartSays_2 at e
  subst ne_0
  subst ne_1
  refine f47.run ?_
  unfold f47.runT
  obtain ⟨y1, g2, e⟩ := bind_e e
  refine (slices_Equal_44.walk (Hold.start (W := No) O.s) rfl k_0 r_0 rfl k_1 r_1 g2).mono ?_
  rintro _ h3 ⟨m4, Q5, rfl⟩
  have O7 := Hold.nm (O.retC Q5 vfs_nil)
  refine ⟨_, rfl, ?_⟩
  cases e
  exact ⟨_, O7.pick [], rfl⟩
def roadlaw4_PartSays.post (W : Nat → Prop) (h0 m0 : Heap) (r : Bool) (v : Value) (h : Heap) : Prop := ∃ m , Hold W h0 m0 h m [] ∧ v = .bool r
inductive roadlaw4_PartSays.l0_k.Pt where
  | l0 (a_0 : List T_roadref4_Step) (a_1 : List T_roadref4_Step) (a_7 : List T_part_Step) (b_11 : Bool) (x_12 : Int) (x_15 : Int) (x_18 : Int) (x_130 : Int) (x_131 : Int)
  | l1 (a_0 : List T_roadref4_Step) (a_1 : List T_roadref4_Step) (a_7 : List T_part_Step) (b_11 : Bool) (x_12 : Int) (x_15 : Int) (x_18 : Int) (x_19 : Int) (x_130 : Int) (x_131 : Int) (x_134 : Int) (x_135 : Int)
  | j2 (a_0 : List T_roadref4_Step) (a_1 : List T_roadref4_Step) (a_7 : List T_part_Step) (b_11 : Bool) (x_12 : Int) (x_15 : Int) (x_18 : Int) (x_19 : Int) (b_21 : Bool) (x_130 : Int) (x_131 : Int) (x_134 : Int) (x_135 : Int)
noncomputable def roadlaw4_PartSays.l0_k.body (go : (p : roadlaw4_PartSays.l0_k.Pt) → Option (Bool)) : (p : roadlaw4_PartSays.l0_k.Pt) → Option (Bool)
  | .l0 a_0 a_1 a_7 b_11 x_12 x_15 x_18 x_130 x_131 => if x_131 < x_130 then ((go (.l1 a_0 a_1 a_7 b_11 x_12 x_15 x_18 x_131 x_130 x_131 x_131 (0 : Int)))) else (if x_15 = x_18 then (Option.bind (roadref4_Steps a_1) fun y1 => if y1 = (0 : Int) then (if x_12 = (0 : Int) then (Option.bind (roadlaw4_rounds a_0) fun y9 => Option.bind (roadlaw4_rounds a_1) fun y21 => Option.bind (slices_EqualFunc_41 y9 y21 (fun z48 z49 => roadlaw4_PartSays_2 z48 z49)) fun y33 => some ((b_11 == y33))) else (some (false))) else (if x_12 = y1 then (some ((!b_11))) else (some (false)))) else (some (false)))
  | .l1 a_0 a_1 a_7 b_11 x_12 x_15 x_18 x_19 x_130 x_131 x_134 x_135 => if x_135 < x_134 then (Option.bind (gi a_7 x_135) fun y1 => Option.bind (gi a_7 x_19) fun y8 => Option.bind (part_Depend y1 y8) fun y15 => if y15.2 = (0 : Int) then (Option.bind (gi a_0 x_135) fun y22 => Option.bind (gi a_0 x_19) fun y29 => Option.bind (roadref4_Step_Tied y22 y29) fun y36 => if (y15.1 == y36) = true then ((go (.j2 a_0 a_1 a_7 b_11 x_12 x_15 x_18 x_19 y15.1 x_130 x_131 x_134 x_135))) else (some (false))) else (some (false))) else ((go (.l0 a_0 a_1 a_7 b_11 x_12 x_15 x_18 x_130 (IntKind.wrap .i64 (x_131 + (1 : Int))))))
  | .j2 a_0 a_1 a_7 b_11 x_12 x_15 x_18 x_19 b_21 x_130 x_131 x_134 x_135 => if b_21 = true then ((go (.l1 a_0 a_1 a_7 b_11 x_12 x_15 x_18 x_19 x_130 x_131 x_134 (IntKind.wrap .i64 (x_135 + (1 : Int)))))) else ((go (.l1 a_0 a_1 a_7 b_11 x_12 x_15 (IntKind.wrap .i64 (x_18 + (1 : Int))) x_19 x_130 x_131 x_134 (IntKind.wrap .i64 (x_135 + (1 : Int))))))
theorem roadlaw4_PartSays.l0_k.mono : MonoF (β := fun _ => (Bool)) roadlaw4_PartSays.l0_k.body := fun f g hfg p => match p with
  | .l0 a_0 a_1 a_7 b_11 x_12 x_15 x_18 x_130 x_131 => LeO.ite ((hfg _)) (LeO.ite (LeO.bind (LeO.refl _) fun y1 => LeO.ite (LeO.ite (LeO.bind (LeO.refl _) fun y9 => LeO.bind (LeO.refl _) fun y21 => LeO.bind (LeO.refl _) fun y33 => LeO.refl _) (LeO.refl _)) (LeO.ite (LeO.refl _) (LeO.refl _))) (LeO.refl _))
  | .l1 a_0 a_1 a_7 b_11 x_12 x_15 x_18 x_19 x_130 x_131 x_134 x_135 => LeO.ite (LeO.bind (LeO.refl _) fun y1 => LeO.bind (LeO.refl _) fun y8 => LeO.bind (LeO.refl _) fun y15 => LeO.ite (LeO.bind (LeO.refl _) fun y22 => LeO.bind (LeO.refl _) fun y29 => LeO.bind (LeO.refl _) fun y36 => LeO.ite ((hfg _)) (LeO.refl _)) (LeO.refl _)) ((hfg _))
  | .j2 a_0 a_1 a_7 b_11 x_12 x_15 x_18 x_19 b_21 x_130 x_131 x_134 x_135 => LeO.ite ((hfg _)) ((hfg _))
noncomputable def roadlaw4_PartSays.l0_k.go (p : roadlaw4_PartSays.l0_k.Pt) : Option (Bool) := fixF (β := fun _ => (Bool)) roadlaw4_PartSays.l0_k.body p
noncomputable def roadlaw4_PartSays.l0 (a_0 : List T_roadref4_Step) (a_1 : List T_roadref4_Step) (a_7 : List T_part_Step) (b_11 : Bool) (x_12 : Int) (x_15 : Int) (x_18 : Int) (x_130 : Int) (x_131 : Int) : Option (Bool) := roadlaw4_PartSays.l0_k.go (.l0 a_0 a_1 a_7 b_11 x_12 x_15 x_18 x_130 x_131)
noncomputable def roadlaw4_PartSays.l1 (a_0 : List T_roadref4_Step) (a_1 : List T_roadref4_Step) (a_7 : List T_part_Step) (b_11 : Bool) (x_12 : Int) (x_15 : Int) (x_18 : Int) (x_19 : Int) (x_130 : Int) (x_131 : Int) (x_134 : Int) (x_135 : Int) : Option (Bool) := roadlaw4_PartSays.l0_k.go (.l1 a_0 a_1 a_7 b_11 x_12 x_15 x_18 x_19 x_130 x_131 x_134 x_135)
noncomputable def roadlaw4_PartSays.j2 (a_0 : List T_roadref4_Step) (a_1 : List T_roadref4_Step) (a_7 : List T_part_Step) (b_11 : Bool) (x_12 : Int) (x_15 : Int) (x_18 : Int) (x_19 : Int) (b_21 : Bool) (x_130 : Int) (x_131 : Int) (x_134 : Int) (x_135 : Int) : Option (Bool) := roadlaw4_PartSays.l0_k.go (.j2 a_0 a_1 a_7 b_11 x_12 x_15 x_18 x_19 b_21 x_130 x_131 x_134 x_135)
theorem roadlaw4_PartSays.l0_eq (a_0 : List T_roadref4_Step) (a_1 : List T_roadref4_Step) (a_7 : List T_part_Step) (b_11 : Bool) (x_12 : Int) (x_15 : Int) (x_18 : Int) (x_130 : Int) (x_131 : Int) : roadlaw4_PartSays.l0 a_0 a_1 a_7 b_11 x_12 x_15 x_18 x_130 x_131 = if x_131 < x_130 then ((roadlaw4_PartSays.l1 a_0 a_1 a_7 b_11 x_12 x_15 x_18 x_131 x_130 x_131 x_131 (0 : Int))) else (if x_15 = x_18 then (Option.bind (roadref4_Steps a_1) fun y1 => if y1 = (0 : Int) then (if x_12 = (0 : Int) then (Option.bind (roadlaw4_rounds a_0) fun y9 => Option.bind (roadlaw4_rounds a_1) fun y21 => Option.bind (slices_EqualFunc_41 y9 y21 (fun z48 z49 => roadlaw4_PartSays_2 z48 z49)) fun y33 => some ((b_11 == y33))) else (some (false))) else (if x_12 = y1 then (some ((!b_11))) else (some (false)))) else (some (false))) := fixF_eq roadlaw4_PartSays.l0_k.mono _
theorem roadlaw4_PartSays.l1_eq (a_0 : List T_roadref4_Step) (a_1 : List T_roadref4_Step) (a_7 : List T_part_Step) (b_11 : Bool) (x_12 : Int) (x_15 : Int) (x_18 : Int) (x_19 : Int) (x_130 : Int) (x_131 : Int) (x_134 : Int) (x_135 : Int) : roadlaw4_PartSays.l1 a_0 a_1 a_7 b_11 x_12 x_15 x_18 x_19 x_130 x_131 x_134 x_135 = if x_135 < x_134 then (Option.bind (gi a_7 x_135) fun y1 => Option.bind (gi a_7 x_19) fun y8 => Option.bind (part_Depend y1 y8) fun y15 => if y15.2 = (0 : Int) then (Option.bind (gi a_0 x_135) fun y22 => Option.bind (gi a_0 x_19) fun y29 => Option.bind (roadref4_Step_Tied y22 y29) fun y36 => if (y15.1 == y36) = true then ((roadlaw4_PartSays.j2 a_0 a_1 a_7 b_11 x_12 x_15 x_18 x_19 y15.1 x_130 x_131 x_134 x_135)) else (some (false))) else (some (false))) else ((roadlaw4_PartSays.l0 a_0 a_1 a_7 b_11 x_12 x_15 x_18 x_130 (IntKind.wrap .i64 (x_131 + (1 : Int))))) := fixF_eq roadlaw4_PartSays.l0_k.mono _
theorem roadlaw4_PartSays.j2_eq (a_0 : List T_roadref4_Step) (a_1 : List T_roadref4_Step) (a_7 : List T_part_Step) (b_11 : Bool) (x_12 : Int) (x_15 : Int) (x_18 : Int) (x_19 : Int) (b_21 : Bool) (x_130 : Int) (x_131 : Int) (x_134 : Int) (x_135 : Int) : roadlaw4_PartSays.j2 a_0 a_1 a_7 b_11 x_12 x_15 x_18 x_19 b_21 x_130 x_131 x_134 x_135 = if b_21 = true then ((roadlaw4_PartSays.l1 a_0 a_1 a_7 b_11 x_12 x_15 x_18 x_19 x_130 x_131 x_134 (IntKind.wrap .i64 (x_135 + (1 : Int))))) else ((roadlaw4_PartSays.l1 a_0 a_1 a_7 b_11 x_12 x_15 (IntKind.wrap .i64 (x_18 + (1 : Int))) x_19 x_130 x_131 x_134 (IntKind.wrap .i64 (x_135 + (1 : Int))))) := fixF_eq roadlaw4_PartSays.l0_k.mono _
def roadlaw4_PartSays.l0_k.I : (p : roadlaw4_PartSays.l0_k.Pt) → (Bool) → Prop
  | .l0 a_0 a_1 a_7 b_11 x_12 x_15 x_18 x_130 x_131, r => ∀ (W : Nat → Prop) (h0 m0 h m : Heap) (A_0 : Option Addr) (n_0 c_0 : Nat) (A_1 : Option Addr) (n_1 c_1 : Nat) (A_7 : Option Addr) (n_7 c_7 : Nat) (O : Hold W h0 m0 h m []) (ne_0 : n_0 = List.length a_0) (k_0 : List.length a_0 ≤ c_0) (r_0 : Rd 3 T_roadref4_Step.E m A_0 a_0) (ne_1 : n_1 = List.length a_1) (k_1 : List.length a_1 ≤ c_1) (r_1 : Rd 3 T_roadref4_Step.E m A_1 a_1) (ne_7 : n_7 = List.length a_7) (k_7 : List.length a_7 ≤ c_7) (r_7 : Rd 3 T_part_Step.E m A_7 a_7), f6.l0 (roadlaw4_PartSays.post W h0 m0 r) A_0 n_0 c_0 A_1 n_1 c_1 A_7 n_7 c_7 b_11 x_12 x_15 x_18 x_130 x_131 h
  | .l1 a_0 a_1 a_7 b_11 x_12 x_15 x_18 x_19 x_130 x_131 x_134 x_135, r => ∀ (W : Nat → Prop) (h0 m0 h m : Heap) (A_0 : Option Addr) (n_0 c_0 : Nat) (A_1 : Option Addr) (n_1 c_1 : Nat) (A_7 : Option Addr) (n_7 c_7 : Nat) (O : Hold W h0 m0 h m []) (ne_0 : n_0 = List.length a_0) (k_0 : List.length a_0 ≤ c_0) (r_0 : Rd 3 T_roadref4_Step.E m A_0 a_0) (ne_1 : n_1 = List.length a_1) (k_1 : List.length a_1 ≤ c_1) (r_1 : Rd 3 T_roadref4_Step.E m A_1 a_1) (ne_7 : n_7 = List.length a_7) (k_7 : List.length a_7 ≤ c_7) (r_7 : Rd 3 T_part_Step.E m A_7 a_7), f6.l1 (roadlaw4_PartSays.post W h0 m0 r) A_0 n_0 c_0 A_1 n_1 c_1 A_7 n_7 c_7 b_11 x_12 x_15 x_18 x_19 x_130 x_131 x_134 x_135 h
  | .j2 a_0 a_1 a_7 b_11 x_12 x_15 x_18 x_19 b_21 x_130 x_131 x_134 x_135, r => ∀ (W : Nat → Prop) (h0 m0 h m : Heap) (A_0 : Option Addr) (n_0 c_0 : Nat) (A_1 : Option Addr) (n_1 c_1 : Nat) (A_7 : Option Addr) (n_7 c_7 : Nat) (O : Hold W h0 m0 h m []) (ne_0 : n_0 = List.length a_0) (k_0 : List.length a_0 ≤ c_0) (r_0 : Rd 3 T_roadref4_Step.E m A_0 a_0) (ne_1 : n_1 = List.length a_1) (k_1 : List.length a_1 ≤ c_1) (r_1 : Rd 3 T_roadref4_Step.E m A_1 a_1) (ne_7 : n_7 = List.length a_7) (k_7 : List.length a_7 ≤ c_7) (r_7 : Rd 3 T_part_Step.E m A_7 a_7), f6.j2 (roadlaw4_PartSays.post W h0 m0 r) A_0 n_0 c_0 A_1 n_1 c_1 A_7 n_7 c_7 b_11 x_12 x_15 x_18 x_19 b_21 x_130 x_131 x_134 x_135 h
set_option maxHeartbeats 4000000 in
set_option maxRecDepth 100000 in
theorem roadlaw4_PartSays.l0_k.step_l0 (go : (p : roadlaw4_PartSays.l0_k.Pt) → Option (Bool)) (ih : ∀ p r, go p = some r → roadlaw4_PartSays.l0_k.I p r) (a_0 : List T_roadref4_Step) (a_1 : List T_roadref4_Step) (a_7 : List T_part_Step) (b_11 : Bool) (x_12 : Int) (x_15 : Int) (x_18 : Int) (x_130 : Int) (x_131 : Int) (r : Bool) (e : roadlaw4_PartSays.l0_k.body go (.l0 a_0 a_1 a_7 b_11 x_12 x_15 x_18 x_130 x_131) = some r) : roadlaw4_PartSays.l0_k.I (.l0 a_0 a_1 a_7 b_11 x_12 x_15 x_18 x_130 x_131) r := by
  unfold roadlaw4_PartSays.l0_k.body at e
  intro W h0 m0 h m A_0 n_0 c_0 A_1 n_1 c_1 A_7 n_7 c_7 O ne_0 k_0 r_0 ne_1 k_1 r_1 ne_7 k_7 r_7
  subst ne_0
  subst ne_1
  subst ne_7
  refine f6.l0_in ?_
  unfold f6.l0T
  refine split_dec_e e (fun c62 e => ?_) (fun c62 e => ?_)
  · exact (ih _ _ e) _ _ _ _ _ _ _ _ _ _ _ _ _ _ (O.pick []).nm rfl k_0 r_0 rfl k_1 r_1 rfl k_7 r_7
  · refine split_ne_e e (fun c61 e => ?_) (fun c61 e => ?_)
    · cases e
      exact ⟨_, O.pick [], rfl⟩
    · obtain ⟨y1, g2, e⟩ := bind_e e
      refine (roadref4_Steps.walk (Hold.start (W := No) O.s) rfl k_1 r_1 g2).mono ?_
      rintro _ h3 ⟨m4, Q5, rfl⟩
      have O7 := Hold.nm (O.retC Q5 vfs_nil)
      refine ⟨_, rfl, ?_⟩
      refine split_ne_e e (fun c60 e => ?_) (fun c60 e => ?_)
      · refine split_eq_e e (fun c8 e => ?_) (fun c8 e => ?_)
        · cases e
          exact ⟨_, O7.pick [], rfl⟩
        · cases e
          exact ⟨_, O7.pick [], rfl⟩
      · refine split_eq_e e (fun c59 e => ?_) (fun c59 e => ?_)
        · obtain ⟨y9, g10, e⟩ := bind_e e
          refine (roadlaw4_rounds.walk (Hold.start (W := No) O7.s) rfl k_0 r_0 g10).mono ?_
          rintro _ h11 ⟨m12, A15, n16, c17, Q13, rfl, ne18⟩
          have O20 := Hold.nm (O7.ret Q13)
          subst ne18
          refine ⟨_, _, _, rfl, ?_⟩
          obtain ⟨y21, g22, e⟩ := bind_e e
          refine (roadlaw4_rounds.walk (Hold.start (W := No) O20.s) rfl k_1 (r_1.sub T_roadref4_Step.T Q13.S.up) g22).mono ?_
          rintro _ h23 ⟨m24, A27, n28, c29, Q25, rfl, ne30⟩
          have O32 := Hold.nm (O20.ret Q25)
          subst ne30
          refine ⟨_, _, _, rfl, ?_⟩
          obtain ⟨y33, g34, e⟩ := bind_e e
          obtain ⟨m39, u40, s47, ⟨⟨r43, k44⟩, ⟨r45, k46⟩, _⟩, B41, C42⟩ := O32.lend0 [0, 1]
          replace r43 : Rd 1 (eRow 3 T_part_Step.E) m39 A15 y9 := r43
          replace k44 : List.length y9 ≤ c17 := k44
          replace r45 : Rd 1 (eRow 3 T_part_Step.E) m39 A27 y21 := r45
          replace k46 : List.length y21 ≤ c29 := k46
          refine (slices_EqualFunc_41.walk (Hold.start (W := No) s47) rfl k44 r43 rfl k46 r45 (fun h50 m51 u52 s53 A56 n56 c56 l56 hn56 k56 r56 A57 n57 c57 l57 hn57 k57 r57 r54 e55 => CallF.of [Value.slice A56 n56 c56, Value.slice A57 n57 c57] f47.ok rfl ((roadlaw4_PartSays_2.walk (Hold.start (W := No) s53) hn56 k56 r56 hn57 k57 r57 e55).mono (fun _ _ h => let ⟨_, t, e⟩ := h; ⟨e, t.S.ext⟩))) g34).mono ?_
          rintro _ h35 ⟨m36, Q37, rfl⟩
          have O58 := Hold.nm (C42 Q37 vfs_nil)
          refine ⟨_, rfl, ?_⟩
          cases e
          exact ⟨_, O58.pick [], rfl⟩
        · cases e
          exact ⟨_, O7.pick [], rfl⟩
set_option maxHeartbeats 4000000 in
set_option maxRecDepth 100000 in
theorem roadlaw4_PartSays.l0_k.step_l1 (go : (p : roadlaw4_PartSays.l0_k.Pt) → Option (Bool)) (ih : ∀ p r, go p = some r → roadlaw4_PartSays.l0_k.I p r) (a_0 : List T_roadref4_Step) (a_1 : List T_roadref4_Step) (a_7 : List T_part_Step) (b_11 : Bool) (x_12 : Int) (x_15 : Int) (x_18 : Int) (x_19 : Int) (x_130 : Int) (x_131 : Int) (x_134 : Int) (x_135 : Int) (r : Bool) (e : roadlaw4_PartSays.l0_k.body go (.l1 a_0 a_1 a_7 b_11 x_12 x_15 x_18 x_19 x_130 x_131 x_134 x_135) = some r) : roadlaw4_PartSays.l0_k.I (.l1 a_0 a_1 a_7 b_11 x_12 x_15 x_18 x_19 x_130 x_131 x_134 x_135) r := by
  unfold roadlaw4_PartSays.l0_k.body at e
  intro W h0 m0 h m A_0 n_0 c_0 A_1 n_1 c_1 A_7 n_7 c_7 O ne_0 k_0 r_0 ne_1 k_1 r_1 ne_7 k_7 r_7
  subst ne_0
  subst ne_1
  subst ne_7
  refine f6.l1_in ?_
  unfold f6.l1T
  refine split_dec_e e (fun c45 e => ?_) (fun c45 e => ?_)
  · obtain ⟨y1, g2, e⟩ := bind_e e
    refine r_7.addr rfl g2 fun a3 cs4 ha5 hc6 he7 => ?_
    obtain ⟨y8, g9, e⟩ := bind_e e
    refine r_7.addr rfl g9 fun a10 cs11 ha12 hc13 he14 => ?_
    refine ⟨_, ldAn O.s hc6 rfl, ?_⟩
    refine ⟨_, ldAn O.s hc13 rfl, ?_⟩
    obtain ⟨y15, g16, e⟩ := bind_e e
    refine (part_Depend.walk (Hold.start (W := No) O.s) he7 he14 g16).mono ?_
    rintro _ h17 ⟨m18, Q19, rfl⟩
    have O21 := Hold.nm (O.retC Q19 vfs_nil)
    refine ⟨_, _, rfl, ?_⟩
    refine split_ne_e e (fun c44 e => ?_) (fun c44 e => ?_)
    · cases e
      exact ⟨_, O21.pick [], rfl⟩
    · obtain ⟨y22, g23, e⟩ := bind_e e
      refine r_0.addr rfl g23 fun a24 cs25 ha26 hc27 he28 => ?_
      obtain ⟨y29, g30, e⟩ := bind_e e
      refine r_0.addr rfl g30 fun a31 cs32 ha33 hc34 he35 => ?_
      refine ⟨_, ldAn O21.s hc27 rfl, ?_⟩
      refine ⟨_, ldAn O21.s hc34 rfl, ?_⟩
      obtain ⟨y36, g37, e⟩ := bind_e e
      refine (roadref4_Step_Tied.walk (Hold.start (W := No) O21.s) he28 he35 g37).mono ?_
      rintro _ h38 ⟨m39, Q40, rfl⟩
      have O42 := Hold.nm (O21.retC Q40 vfs_nil)
      refine ⟨_, rfl, ?_⟩
      refine split_not ?_
      refine split_any_e e (fun c43 e => ?_) (fun c43 e => ?_)
      · exact (ih _ _ e) _ _ _ _ _ _ _ _ _ _ _ _ _ _ (O42.pick []).nm rfl k_0 r_0 rfl k_1 r_1 rfl k_7 r_7
      · cases e
        exact ⟨_, O42.pick [], rfl⟩
  · exact (ih _ _ e) _ _ _ _ _ _ _ _ _ _ _ _ _ _ (O.pick []).nm rfl k_0 r_0 rfl k_1 r_1 rfl k_7 r_7
set_option maxRecDepth 100000 in
theorem roadlaw4_PartSays.l0_k.step_j2 (go : (p : roadlaw4_PartSays.l0_k.Pt) → Option (Bool)) (ih : ∀ p r, go p = some r → roadlaw4_PartSays.l0_k.I p r) (a_0 : List T_roadref4_Step) (a_1 : List T_roadref4_Step) (a_7 : List T_part_Step) (b_11 : Bool) (x_12 : Int) (x_15 : Int) (x_18 : Int) (x_19 : Int) (b_21 : Bool) (x_130 : Int) (x_131 : Int) (x_134 : Int) (x_135 : Int) (r : Bool) (e : roadlaw4_PartSays.l0_k.body go (.j2 a_0 a_1 a_7 b_11 x_12 x_15 x_18 x_19 b_21 x_130 x_131 x_134 x_135) = some r) : roadlaw4_PartSays.l0_k.I (.j2 a_0 a_1 a_7 b_11 x_12 x_15 x_18 x_19 b_21 x_130 x_131 x_134 x_135) r := by
  unfold roadlaw4_PartSays.l0_k.body at e
  intro W h0 m0 h m A_0 n_0 c_0 A_1 n_1 c_1 A_7 n_7 c_7 O ne_0 k_0 r_0 ne_1 k_1 r_1 ne_7 k_7 r_7
  subst ne_0
  subst ne_1
  subst ne_7
  refine f6.j2_in ?_
  unfold f6.j2T
  refine split_not ?_
  refine split_any_e e (fun c1 e => ?_) (fun c1 e => ?_)
  · exact (ih _ _ e) _ _ _ _ _ _ _ _ _ _ _ _ _ _ (O.pick []).nm rfl k_0 r_0 rfl k_1 r_1 rfl k_7 r_7
  · exact (ih _ _ e) _ _ _ _ _ _ _ _ _ _ _ _ _ _ (O.pick []).nm rfl k_0 r_0 rfl k_1 r_1 rfl k_7 r_7
theorem roadlaw4_PartSays.l0_k.all {p : roadlaw4_PartSays.l0_k.Pt} {r : (Bool)} (e : roadlaw4_PartSays.l0_k.go p = some r) : roadlaw4_PartSays.l0_k.I p r := fixF_ind (β := fun _ => (Bool)) roadlaw4_PartSays.l0_k.mono (I := roadlaw4_PartSays.l0_k.I) (fun go ih p r e => match p with
  | .l0 a_0 a_1 a_7 b_11 x_12 x_15 x_18 x_130 x_131 => roadlaw4_PartSays.l0_k.step_l0 go ih a_0 a_1 a_7 b_11 x_12 x_15 x_18 x_130 x_131 r e
  | .l1 a_0 a_1 a_7 b_11 x_12 x_15 x_18 x_19 x_130 x_131 x_134 x_135 => roadlaw4_PartSays.l0_k.step_l1 go ih a_0 a_1 a_7 b_11 x_12 x_15 x_18 x_19 x_130 x_131 x_134 x_135 r e
  | .j2 a_0 a_1 a_7 b_11 x_12 x_15 x_18 x_19 b_21 x_130 x_131 x_134 x_135 => roadlaw4_PartSays.l0_k.step_j2 go ih a_0 a_1 a_7 b_11 x_12 x_15 x_18 x_19 b_21 x_130 x_131 x_134 x_135 r e
  ) e
theorem roadlaw4_PartSays.l0.walk {W : Nat → Prop} {h0 m0 h m : Heap} {A_0 : Option Addr} {n_0 c_0 : Nat} {A_1 : Option Addr} {n_1 c_1 : Nat} {A_7 : Option Addr} {n_7 c_7 : Nat} {a_0 : List T_roadref4_Step} {a_1 : List T_roadref4_Step} {a_7 : List T_part_Step} {b_11 : Bool} {x_12 : Int} {x_15 : Int} {x_18 : Int} {x_130 : Int} {x_131 : Int} (O : Hold W h0 m0 h m []) (ne_0 : n_0 = List.length a_0) (k_0 : List.length a_0 ≤ c_0) (r_0 : Rd 3 T_roadref4_Step.E m A_0 a_0) (ne_1 : n_1 = List.length a_1) (k_1 : List.length a_1 ≤ c_1) (r_1 : Rd 3 T_roadref4_Step.E m A_1 a_1) (ne_7 : n_7 = List.length a_7) (k_7 : List.length a_7 ≤ c_7) (r_7 : Rd 3 T_part_Step.E m A_7 a_7) {r : Bool} (e : roadlaw4_PartSays.l0 a_0 a_1 a_7 b_11 x_12 x_15 x_18 x_130 x_131 = some r) : f6.l0 (roadlaw4_PartSays.post W h0 m0 r) A_0 n_0 c_0 A_1 n_1 c_1 A_7 n_7 c_7 b_11 x_12 x_15 x_18 x_130 x_131 h := roadlaw4_PartSays.l0_k.all (p := .l0 a_0 a_1 a_7 b_11 x_12 x_15 x_18 x_130 x_131) e W h0 m0 h m A_0 n_0 c_0 A_1 n_1 c_1 A_7 n_7 c_7 O ne_0 k_0 r_0 ne_1 k_1 r_1 ne_7 k_7 r_7
noncomputable def roadlaw4_PartSays.j1 (a_0 : List T_roadref4_Step) (a_1 : List T_roadref4_Step) (a_7 : List T_part_Step) (b_11 : Bool) (x_12 : Int) (x_15 : Int) : Option (Bool) :=
  (roadlaw4_PartSays.l0 a_0 a_1 a_7 b_11 x_12 x_15 (0 : Int) (((List.length a_0) : Nat) : Int) (0 : Int))
set_option maxRecDepth 100000 in
theorem roadlaw4_PartSays.j1.walk {W : Nat → Prop} {h0 m0 h m : Heap} {A_0 : Option Addr} {n_0 c_0 : Nat} {A_1 : Option Addr} {n_1 c_1 : Nat} {A_7 : Option Addr} {n_7 c_7 : Nat} {a_0 : List T_roadref4_Step} {a_1 : List T_roadref4_Step} {a_7 : List T_part_Step} {b_11 : Bool} {x_12 : Int} {x_15 : Int} (O : Hold W h0 m0 h m []) (ne_0 : n_0 = List.length a_0) (k_0 : List.length a_0 ≤ c_0) (r_0 : Rd 3 T_roadref4_Step.E m A_0 a_0) (ne_1 : n_1 = List.length a_1) (k_1 : List.length a_1 ≤ c_1) (r_1 : Rd 3 T_roadref4_Step.E m A_1 a_1) (ne_7 : n_7 = List.length a_7) (k_7 : List.length a_7 ≤ c_7) (r_7 : Rd 3 T_part_Step.E m A_7 a_7) {r : Bool} (e : roadlaw4_PartSays.j1 a_0 a_1 a_7 b_11 x_12 x_15 = some r) : f6.j1 (roadlaw4_PartSays.post W h0 m0 r) A_0 n_0 c_0 A_1 n_1 c_1 A_7 n_7 c_7 b_11 x_12 x_15 h := by
  unfold roadlaw4_PartSays.j1 at e
  subst ne_0
  subst ne_1
  subst ne_7
  refine f6.j1_in ?_
  unfold f6.j1T
  exact roadlaw4_PartSays.l0.walk (O.pick []).nm rfl k_0 r_0 rfl k_1 r_1 rfl k_7 r_7 e
noncomputable def roadlaw4_PartSays.j0 (a_0 : List T_roadref4_Step) (a_1 : List T_roadref4_Step) : Option (Bool) :=
  Option.bind (roadlaw4_steps a_0) fun y1 => Option.bind (roadlaw4_steps a_1) fun y13 => Option.bind (part_Rounds y1) fun y25 => Option.bind (part_Same y1 y13) fun y44 => Option.bind (part_Normal y1) fun y58 => Option.bind (part_Swaps y1) fun y70 => Option.bind (roadref4_Steps a_0) fun y77 => Option.bind (part_Check y1) fun y84 => if y84 = y77 then (if y77 = (0 : Int) then (if y25.2 = (0 : Int) then (if y58.2 = (0 : Int) then (if y70.2 = (0 : Int) then (Option.bind (roadlaw4_rounds a_0) fun y98 => Option.bind (slices_EqualFunc_41 y25.1 y98 (fun z125 z126 => roadlaw4_PartSays_1 z125 z126)) fun y110 => if y110 = true then (Option.bind (roadref4_Normal a_0) fun y136 => Option.bind (roadlaw4_steps y136) fun y148 => Option.bind (slices_Equal_44 y58.1 y148) fun y167 => if y167 = true then ((roadlaw4_PartSays.j1 a_0 a_1 y1 y44.1 y44.2 y70.1)) else (some (false))) else (some (false))) else (some (false))) else (some (false))) else (some (false))) else (if y25.2 = y77 then (if y44.2 = y77 then (if y58.2 = y77 then (if y70.2 = y77 then (if (((List.length y25.1) : Nat) : Int) = (0 : Int) then (if y44.1 = true then (some (false)) else (if (((List.length y58.1) : Nat) : Int) = (0 : Int) then (some ((y70.1 == (0 : Int)))) else (some (false)))) else (some (false))) else (some (false))) else (some (false))) else (some (false))) else (some (false)))) else (some (false))
set_option maxHeartbeats 4000000 in
set_option maxRecDepth 100000 in
theorem roadlaw4_PartSays.j0.walk {W : Nat → Prop} {h0 m0 h m : Heap} {A_0 : Option Addr} {n_0 c_0 : Nat} {A_1 : Option Addr} {n_1 c_1 : Nat} {a_0 : List T_roadref4_Step} {a_1 : List T_roadref4_Step} (O : Hold W h0 m0 h m []) (ne_0 : n_0 = List.length a_0) (k_0 : List.length a_0 ≤ c_0) (r_0 : Rd 3 T_roadref4_Step.E m A_0 a_0) (ne_1 : n_1 = List.length a_1) (k_1 : List.length a_1 ≤ c_1) (r_1 : Rd 3 T_roadref4_Step.E m A_1 a_1) {r : Bool} (e : roadlaw4_PartSays.j0 a_0 a_1 = some r) : f6.j0 (roadlaw4_PartSays.post W h0 m0 r) A_0 n_0 c_0 A_1 n_1 c_1 h := by
  unfold roadlaw4_PartSays.j0 at e
  subst ne_0
  subst ne_1
  refine f6.j0_in ?_
  unfold f6.j0T
  obtain ⟨y1, g2, e⟩ := bind_e e
  refine (roadlaw4_steps.walk (Hold.start (W := No) O.s) rfl k_0 r_0 g2).mono ?_
  rintro _ h3 ⟨m4, A7, n8, c9, Q5, rfl, ne10⟩
  have O12 := Hold.nm (O.retC Q5 (vfs_cons (rR_vf (aE_vf (fun _ _ _ _ h => T_part_Step.keep h))) vfs_nil))
  subst ne10
  refine ⟨_, _, _, rfl, ?_⟩
  obtain ⟨y13, g14, e⟩ := bind_e e
  refine (roadlaw4_steps.walk (Hold.start (W := No) O12.s) rfl k_1 r_1 g14).mono ?_
  rintro _ h15 ⟨m16, A19, n20, c21, Q17, rfl, ne22⟩
  have O24 := Hold.nm (O12.retC Q17 (vfs_cons (rR_vf (aE_vf (fun _ _ _ _ h => T_part_Step.keep h))) vfs_nil))
  subst ne22
  refine ⟨_, _, _, rfl, ?_⟩
  obtain ⟨y25, g26, e⟩ := bind_e e
  obtain ⟨m31, u32, s37, ⟨⟨r35, k36⟩, _⟩, B33, C34⟩ := O24.lend0 [0]
  replace r35 : Rd 3 T_part_Step.E m31 A7 y1 := r35
  replace k36 : List.length y1 ≤ c9 := k36
  refine (part_Rounds.walk (Hold.start (W := No) s37) rfl k36 r35 g26).mono ?_
  rintro _ h27 ⟨m28, A38, n39, c40, Q29, rfl, ne41⟩
  have O43 := Hold.nm (B33 Q29)
  subst ne41
  refine ⟨_, _, _, _, rfl, ?_⟩
  obtain ⟨y44, g45, e⟩ := bind_e e
  obtain ⟨m50, u51, s56, ⟨⟨r54, k55⟩, _⟩, B52, C53⟩ := O43.lend0 [1]
  replace r54 : Rd 3 T_part_Step.E m50 A19 y13 := r54
  replace k55 : List.length y13 ≤ c21 := k55
  refine (part_Same.walk (Hold.start (W := No) s56) rfl k36 (r35.sub T_part_Step.T (Q29.S.up.trans u51)) rfl k55 r54 g45).mono ?_
  rintro _ h46 ⟨m47, Q48, rfl⟩
  have O57 := Hold.nm (C53 Q48 vfs_nil)
  refine ⟨_, _, rfl, ?_⟩
  obtain ⟨y58, g59, e⟩ := bind_e e
  refine (part_Normal.walk (Hold.start (W := No) O57.s) rfl k36 (r35.sub T_part_Step.T Q29.S.up) g59).mono ?_
  rintro _ h60 ⟨m61, A64, n65, c66, Q62, rfl, ne67⟩
  have O69 := Hold.nm (O57.retC Q62 (vfs_cons (rR_vf (aE_vf (fun _ _ _ _ h => T_part_Step.keep h))) vfs_nil))
  subst ne67
  refine ⟨_, _, _, _, rfl, ?_⟩
  obtain ⟨y70, g71, e⟩ := bind_e e
  refine (part_Swaps.walk (Hold.start (W := No) O69.s) rfl k36 (r35.sub T_part_Step.T Q29.S.up) g71).mono ?_
  rintro _ h72 ⟨m73, Q74, rfl⟩
  have O76 := Hold.nm (O69.retC Q74 vfs_nil)
  refine ⟨_, _, rfl, ?_⟩
  obtain ⟨y77, g78, e⟩ := bind_e e
  refine (roadref4_Steps.walk (Hold.start (W := No) O76.s) rfl k_0 (r_0.sub T_roadref4_Step.T (u32.trans Q29.S.up)) g78).mono ?_
  rintro _ h79 ⟨m80, Q81, rfl⟩
  have O83 := Hold.nm (O76.retC Q81 vfs_nil)
  refine ⟨_, rfl, ?_⟩
  obtain ⟨y84, g85, e⟩ := bind_e e
  refine (part_Check.walk (Hold.start (W := No) O83.s) rfl k36 (r35.sub T_part_Step.T Q29.S.up) g85).mono ?_
  rintro _ h86 ⟨m87, Q88, rfl⟩
  have O90 := Hold.nm (O83.retC Q88 vfs_nil)
  refine ⟨_, rfl, ?_⟩
  refine split_ne_e e (fun c189 e => ?_) (fun c189 e => ?_)
  · cases e
    exact ⟨_, O90.pick [], rfl⟩
  · refine split_ne_e e (fun c188 e => ?_) (fun c188 e => ?_)
    · refine split_eq_e e (fun c97 e => ?_) (fun c97 e => ?_)
      · refine split_eq_e e (fun c96 e => ?_) (fun c96 e => ?_)
        · refine split_eq_e e (fun c95 e => ?_) (fun c95 e => ?_)
          · refine split_eq_e e (fun c94 e => ?_) (fun c94 e => ?_)
            · refine split_eq_e e (fun c93 e => ?_) (fun c93 e => ?_)
              · refine split_not ?_
                refine split_any_e e (fun c92 e => ?_) (fun c92 e => ?_)
                · cases e
                  exact ⟨_, O90.pick [], rfl⟩
                · refine split_eq_e e (fun c91 e => ?_) (fun c91 e => ?_)
                  · cases e
                    exact ⟨_, O90.pick [], rfl⟩
                  · cases e
                    exact ⟨_, O90.pick [], rfl⟩
              · cases e
                exact ⟨_, O90.pick [], rfl⟩
            · cases e
              exact ⟨_, O90.pick [], rfl⟩
          · cases e
            exact ⟨_, O90.pick [], rfl⟩
        · cases e
          exact ⟨_, O90.pick [], rfl⟩
      · cases e
        exact ⟨_, O90.pick [], rfl⟩
    · refine split_ne_e e (fun c187 e => ?_) (fun c187 e => ?_)
      · cases e
        exact ⟨_, O90.pick [], rfl⟩
      · refine split_ne_e e (fun c186 e => ?_) (fun c186 e => ?_)
        · cases e
          exact ⟨_, O90.pick [], rfl⟩
        · refine split_ne_e e (fun c185 e => ?_) (fun c185 e => ?_)
          · cases e
            exact ⟨_, O90.pick [], rfl⟩
          · obtain ⟨y98, g99, e⟩ := bind_e e
            refine (roadlaw4_rounds.walk (Hold.start (W := No) O90.s) rfl k_0 (r_0.sub T_roadref4_Step.T (u32.trans Q29.S.up)) g99).mono ?_
            rintro _ h100 ⟨m101, A104, n105, c106, Q102, rfl, ne107⟩
            have O109 := Hold.nm (O90.ret Q102)
            subst ne107
            refine ⟨_, _, _, rfl, ?_⟩
            obtain ⟨y110, g111, e⟩ := bind_e e
            obtain ⟨m116, u117, s124, ⟨⟨r120, k121⟩, ⟨r122, k123⟩, _⟩, B118, C119⟩ := O109.lend0 [2, 4]
            replace r120 : Rd 1 (eRow 3 T_part_Step.E) m116 A38 y25.1 := r120
            replace k121 : List.length y25.1 ≤ c40 := k121
            replace r122 : Rd 1 (eRow 3 T_part_Step.E) m116 A104 y98 := r122
            replace k123 : List.length y98 ≤ c106 := k123
            refine (slices_EqualFunc_41.walk (Hold.start (W := No) s124) rfl k121 r120 rfl k123 r122 (fun h127 m128 u129 s130 A133 n133 c133 l133 hn133 k133 r133 A134 n134 c134 l134 hn134 k134 r134 r131 e132 => CallF.of [Value.slice A133 n133 c133, Value.slice A134 n134 c134] f43.ok rfl ((roadlaw4_PartSays_1.walk (Hold.start (W := No) s130) hn133 k133 r133 hn134 k134 r134 e132).mono (fun _ _ h => let ⟨_, t, e⟩ := h; ⟨e, t.S.ext⟩))) g111).mono ?_
            rintro _ h112 ⟨m113, Q114, rfl⟩
            have O135 := Hold.nm (C119 Q114 vfs_nil)
            refine ⟨_, rfl, ?_⟩
            refine split_not ?_
            refine split_any_e e (fun c184 e => ?_) (fun c184 e => ?_)
            · obtain ⟨y136, g137, e⟩ := bind_e e
              refine (roadref4_Normal.walk (Hold.start (W := No) O135.s) rfl k_0 (r_0.sub T_roadref4_Step.T (u32.trans (Q29.S.up.trans Q102.S.up))) g137).mono ?_
              rintro _ h138 ⟨m139, A142, n143, c144, Q140, rfl, ne145⟩
              have O147 := Hold.nm (O135.retC Q140 (vfs_cons (rR_vf (aE_vf (fun _ _ _ _ h => T_roadref4_Step.keep h))) vfs_nil))
              subst ne145
              refine ⟨_, _, _, rfl, ?_⟩
              obtain ⟨y148, g149, e⟩ := bind_e e
              obtain ⟨m154, u155, s160, ⟨⟨r158, k159⟩, _⟩, B156, C157⟩ := O147.lend0 [5]
              replace r158 : Rd 3 T_roadref4_Step.E m154 A142 y136 := r158
              replace k159 : List.length y136 ≤ c144 := k159
              refine (roadlaw4_steps.walk (Hold.start (W := No) s160) rfl k159 r158 g149).mono ?_
              rintro _ h150 ⟨m151, A161, n162, c163, Q152, rfl, ne164⟩
              have O166 := Hold.nm (C157 Q152 (vfs_cons (rR_vf (aE_vf (fun _ _ _ _ h => T_part_Step.keep h))) vfs_nil))
              subst ne164
              refine ⟨_, _, _, rfl, ?_⟩
              obtain ⟨y167, g168, e⟩ := bind_e e
              obtain ⟨m173, u174, s181, ⟨⟨r177, k178⟩, ⟨r179, k180⟩, _⟩, B175, C176⟩ := O166.lend0 [3, 6]
              replace r177 : Rd 3 T_part_Step.E m173 A64 y58.1 := r177
              replace k178 : List.length y58.1 ≤ c66 := k178
              replace r179 : Rd 3 T_part_Step.E m173 A161 y148 := r179
              replace k180 : List.length y148 ≤ c163 := k180
              refine (slices_Equal_44.walk (Hold.start (W := No) s181) rfl k178 r177 rfl k180 r179 g168).mono ?_
              rintro _ h169 ⟨m170, Q171, rfl⟩
              have O182 := Hold.nm (C176 Q171 vfs_nil)
              refine ⟨_, rfl, ?_⟩
              refine split_not ?_
              refine split_any_e e (fun c183 e => ?_) (fun c183 e => ?_)
              · exact roadlaw4_PartSays.j1.walk (O182.pick []).nm rfl k_0 (r_0.sub T_roadref4_Step.T (u32.trans (Q29.S.up.trans Q102.S.up))) rfl k_1 (r_1.sub T_roadref4_Step.T (u32.trans (Q29.S.up.trans Q102.S.up))) rfl k36 (r35.sub T_part_Step.T (Q29.S.up.trans Q102.S.up)) e
              · cases e
                exact ⟨_, O182.pick [], rfl⟩
            · cases e
              exact ⟨_, O135.pick [], rfl⟩
noncomputable def roadlaw4_PartSays (a_0 : List T_roadref4_Step) (a_1 : List T_roadref4_Step) : Option (Bool) :=
  Option.bind (part_Depend (T_part_Step.mk (1 : Int) (0 : Int) (1 : Int)) (T_part_Step.mk (2 : Int) (1 : Int) (0 : Int))) fun y1 => if y1.2 = (0 : Int) then (if y1.1 = true then ((roadlaw4_PartSays.j0 a_0 a_1)) else (some (false))) else (some (false))
set_option maxRecDepth 100000 in
theorem roadlaw4_PartSays.walk {W : Nat → Prop} {h m : Heap} {A_0 : Option Addr} {n_0 c_0 : Nat} {A_1 : Option Addr} {n_1 c_1 : Nat} {a_0 : List T_roadref4_Step} {a_1 : List T_roadref4_Step} (O : Hold W h m h m []) (ne_0 : n_0 = List.length a_0) (k_0 : List.length a_0 ≤ c_0) (r_0 : Rd 3 T_roadref4_Step.E m A_0 a_0) (ne_1 : n_1 = List.length a_1) (k_1 : List.length a_1 ≤ c_1) (r_1 : Rd 3 T_roadref4_Step.E m A_1 a_1) {r : Bool} (e : roadlaw4_PartSays a_0 a_1 = some r) : Run Try.prog 6 #[Value.slice A_0 n_0 c_0, Value.slice A_1 n_1 c_1] h (roadlaw4_PartSays.post W h m r) := by
  unfold roadlaw4_PartSays at e
  subst ne_0
  subst ne_1
  refine f6.run ?_
  unfold f6.runT
  obtain ⟨y1, g2, e⟩ := bind_e e
  refine (part_Depend.walk (Hold.start (W := No) O.s) (show T_part_Step.E _ (T_part_Step.mk (1 : Int) (0 : Int) (1 : Int)) [(Value.int .i64 (1 : Int)), (Value.int .i64 (0 : Int)), (Value.int .i64 (1 : Int))] from rfl) (show T_part_Step.E _ (T_part_Step.mk (2 : Int) (1 : Int) (0 : Int)) [(Value.int .i64 (2 : Int)), (Value.int .i64 (1 : Int)), (Value.int .i64 (0 : Int))] from rfl) g2).mono ?_
  rintro _ h3 ⟨m4, Q5, rfl⟩
  have O7 := Hold.nm (O.retC Q5 vfs_nil)
  refine ⟨_, _, rfl, ?_⟩
  refine split_ne_e e (fun c9 e => ?_) (fun c9 e => ?_)
  · cases e
    exact ⟨_, O7.pick [], rfl⟩
  · refine split_not ?_
    refine split_any_e e (fun c8 e => ?_) (fun c8 e => ?_)
    · exact roadlaw4_PartSays.j0.walk (O7.pick []).nm rfl k_0 r_0 rfl k_1 r_1 e
    · cases e
      exact ⟨_, O7.pick [], rfl⟩
end Go.Proofs.Ythnlhffpmlgmfad.Fw

end
section
set_option linter.unusedVariables false
namespace Go.Hw
open Go
section
variable {α : Type} {l r s : List α} {a b : Nat}
def Tch (a b : Nat) (l r : List α) : Prop := r.Perm l ∧ ∀ i, (i < a ∨ b ≤ i) → r[i]? = l[i]?
theorem Tch.swap {i j : Nat} (hi : i < l.length) (hj : j < l.length) (i1 : a ≤ i) (i2 : i < b) (j1 : a ≤ j) (j2 : j < b) : Tch a b l ((l.set i l[j]).set j l[i]) := by
  refine ⟨List.set_set_perm hi hj, fun k hk => ?_⟩
  rw [List.getElem?_set, List.getElem?_set, if_neg (by omega), if_neg (by omega)]
end
section
variable {α : Type} [LE α]
omit [LE α] in
theorem swap_txt {β : Type} {l : List α} {i j : Nat} {K : List α → Option β} (hi : i < l.length) (hj : j < l.length) :
    ((gi l (j : Int)).bind fun y1 => (gi l (i : Int)).bind fun y8 => (gi l (i : Int)).bind fun _ => (some (l.set (Int.toNat (i : Int)) y1)).bind fun l24 => (gi l24 (j : Int)).bind fun _ => (some (l24.set (Int.toNat (j : Int)) y8)).bind K) = K ((l.set i l[j]).set j l[i]) := by
  rw [gi_at hj, Option.bind_some, gi_at hi, Option.bind_some, Option.bind_some, Option.bind_some, gi_at (by rw [List.length_set]; exact hj), Option.bind_some, Option.bind_some]
  rfl
end
end Go.Hw

end
