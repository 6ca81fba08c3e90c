/- Part 6: what the law CutSays needs, put together out of texts of this session. -/
import Derived.Test.YtnlocljmalhddacZCutSayse
section
namespace Go.Proofs.Ytnlocljmalhddac.Fw
open Go Go.Hw Go.Proofs
set_option linter.unusedVariables false
set_option synthInstance.maxHeartbeats 400000
set_option synthInstance.maxSize 1000
def sq77.post (W : Nat → Prop) (Asl0 : Option Addr) (nsl0 csl0 : Nat) (h0 m0 : Heap) (r : Int × (List Int)) (v : Value) (h : Heap) : Prop := ∃ m , Hold W h0 m0 h m [rR (aE (tell_int .i64)) Asl0 csl0 r.2] ∧ v = .int .i64 r.1 ∧ nsl0 = List.length r.2
inductive sq77.l0_k.Pt where
  | l0 (a_0 : List Int) (x_1 : Int) (x_9 : Int) (x_10 : Int)
  | l1 (a_0 : List Int) (x_1 : Int) (x_9 : Int) (x_10 : Int)
  | j2 (a_0 : List Int) (x_1 : Int) (x_9 : Int) (x_10 : Int)
  | j0 (a_0 : List Int) (x_1 : Int) (x_9 : Int) (x_10 : Int)
  | l2 (a_0 : List Int) (x_1 : Int) (x_9 : Int) (x_10 : Int)
  | j3 (a_0 : List Int) (x_1 : Int) (x_9 : Int) (x_10 : Int)
  | j1 (a_0 : List Int) (x_1 : Int) (x_9 : Int) (x_10 : Int)
noncomputable def sq77.l0_k.body (go : (p : sq77.l0_k.Pt) → Option (Int × (List Int))) : (p : sq77.l0_k.Pt) → Option (Int × (List Int))
  | .l0 a_0 x_1 x_9 x_10 => (go (.l1 a_0 x_1 x_9 x_10))
  | .l1 a_0 x_1 x_9 x_10 => if x_9 ≤ x_10 then (Option.bind (gi a_0 x_1) fun y1 => Option.bind (gi a_0 x_9) fun y8 => Option.bind (cmp_Less_76 y1 y8) fun y15 => if y15 = true then ((go (.j0 a_0 x_1 x_9 x_10))) else ((go (.j2 a_0 x_1 x_9 x_10)))) else ((go (.j0 a_0 x_1 x_9 x_10)))
  | .j2 a_0 x_1 x_9 x_10 => (go (.l1 a_0 x_1 (IntKind.wrap .i64 (x_9 + (1 : Int))) x_10))
  | .j0 a_0 x_1 x_9 x_10 => (go (.l2 a_0 x_1 x_9 x_10))
  | .l2 a_0 x_1 x_9 x_10 => if x_9 ≤ x_10 then (Option.bind (gi a_0 x_1) fun y1 => Option.bind (gi a_0 x_10) fun y8 => Option.bind (cmp_Less_76 y1 y8) fun y15 => if y15 = true then ((go (.j3 a_0 x_1 x_9 x_10))) else ((go (.j1 a_0 x_1 x_9 x_10)))) else ((go (.j1 a_0 x_1 x_9 x_10)))
  | .j3 a_0 x_1 x_9 x_10 => (go (.l2 a_0 x_1 x_9 (IntKind.wrap .i64 (x_10 - (1 : Int)))))
  | .j1 a_0 x_1 x_9 x_10 => if x_9 > x_10 then (some (x_9, a_0)) else (Option.bind (gi a_0 x_10) fun y1 => Option.bind (gi a_0 x_9) fun y8 => Option.bind (gi a_0 x_9) fun y15 => Option.bind (some (List.set a_0 (Int.toNat x_9) y1)) fun l24 => Option.bind (gi l24 x_10) fun y26 => Option.bind (some (List.set l24 (Int.toNat x_10) y8)) fun l35 => (go (.l0 l35 x_1 (IntKind.wrap .i64 (x_9 + (1 : Int))) (IntKind.wrap .i64 (x_10 - (1 : Int))))))
attribute [local irreducible] cmp_Less_76 in
theorem sq77.l0_k.mono : MonoF (β := fun _ => (Int × (List Int))) sq77.l0_k.body := fun f g hfg p => match p with
  | .l0 a_0 x_1 x_9 x_10 => (hfg _)
  | .l1 a_0 x_1 x_9 x_10 => LeO.ite (LeO.bind (LeO.refl _) fun y1 => LeO.bind (LeO.refl _) fun y8 => LeO.bind (LeO.refl _) fun y15 => LeO.ite ((hfg _)) ((hfg _))) ((hfg _))
  | .j2 a_0 x_1 x_9 x_10 => (hfg _)
  | .j0 a_0 x_1 x_9 x_10 => (hfg _)
  | .l2 a_0 x_1 x_9 x_10 => LeO.ite (LeO.bind (LeO.refl _) fun y1 => LeO.bind (LeO.refl _) fun y8 => LeO.bind (LeO.refl _) fun y15 => LeO.ite ((hfg _)) ((hfg _))) ((hfg _))
  | .j3 a_0 x_1 x_9 x_10 => (hfg _)
  | .j1 a_0 x_1 x_9 x_10 => LeO.ite (LeO.refl _) (LeO.bind (LeO.refl _) fun y1 => LeO.bind (LeO.refl _) fun y8 => LeO.bind (LeO.refl _) fun y15 => LeO.bind (LeO.refl _) fun l24 => LeO.bind (LeO.refl _) fun y26 => LeO.bind (LeO.refl _) fun l35 => (hfg _))
noncomputable def sq77.l0_k.go (p : sq77.l0_k.Pt) : Option (Int × (List Int)) := fixF (β := fun _ => (Int × (List Int))) sq77.l0_k.body p
noncomputable def sq77.l0 (a_0 : List Int) (x_1 : Int) (x_9 : Int) (x_10 : Int) : Option (Int × (List Int)) := sq77.l0_k.go (.l0 a_0 x_1 x_9 x_10)
noncomputable def sq77.l1 (a_0 : List Int) (x_1 : Int) (x_9 : Int) (x_10 : Int) : Option (Int × (List Int)) := sq77.l0_k.go (.l1 a_0 x_1 x_9 x_10)
noncomputable def sq77.j2 (a_0 : List Int) (x_1 : Int) (x_9 : Int) (x_10 : Int) : Option (Int × (List Int)) := sq77.l0_k.go (.j2 a_0 x_1 x_9 x_10)
noncomputable def sq77.j0 (a_0 : List Int) (x_1 : Int) (x_9 : Int) (x_10 : Int) : Option (Int × (List Int)) := sq77.l0_k.go (.j0 a_0 x_1 x_9 x_10)
noncomputable def sq77.l2 (a_0 : List Int) (x_1 : Int) (x_9 : Int) (x_10 : Int) : Option (Int × (List Int)) := sq77.l0_k.go (.l2 a_0 x_1 x_9 x_10)
noncomputable def sq77.j3 (a_0 : List Int) (x_1 : Int) (x_9 : Int) (x_10 : Int) : Option (Int × (List Int)) := sq77.l0_k.go (.j3 a_0 x_1 x_9 x_10)
noncomputable def sq77.j1 (a_0 : List Int) (x_1 : Int) (x_9 : Int) (x_10 : Int) : Option (Int × (List Int)) := sq77.l0_k.go (.j1 a_0 x_1 x_9 x_10)
theorem sq77.l0_eq (a_0 : List Int) (x_1 : Int) (x_9 : Int) (x_10 : Int) : sq77.l0 a_0 x_1 x_9 x_10 = (sq77.l1 a_0 x_1 x_9 x_10) := fixF_eq sq77.l0_k.mono _
theorem sq77.l1_eq (a_0 : List Int) (x_1 : Int) (x_9 : Int) (x_10 : Int) : sq77.l1 a_0 x_1 x_9 x_10 = if x_9 ≤ x_10 then (Option.bind (gi a_0 x_1) fun y1 => Option.bind (gi a_0 x_9) fun y8 => Option.bind (cmp_Less_76 y1 y8) fun y15 => if y15 = true then ((sq77.j0 a_0 x_1 x_9 x_10)) else ((sq77.j2 a_0 x_1 x_9 x_10))) else ((sq77.j0 a_0 x_1 x_9 x_10)) := fixF_eq sq77.l0_k.mono _
theorem sq77.j2_eq (a_0 : List Int) (x_1 : Int) (x_9 : Int) (x_10 : Int) : sq77.j2 a_0 x_1 x_9 x_10 = (sq77.l1 a_0 x_1 (IntKind.wrap .i64 (x_9 + (1 : Int))) x_10) := fixF_eq sq77.l0_k.mono _
theorem sq77.j0_eq (a_0 : List Int) (x_1 : Int) (x_9 : Int) (x_10 : Int) : sq77.j0 a_0 x_1 x_9 x_10 = (sq77.l2 a_0 x_1 x_9 x_10) := fixF_eq sq77.l0_k.mono _
theorem sq77.l2_eq (a_0 : List Int) (x_1 : Int) (x_9 : Int) (x_10 : Int) : sq77.l2 a_0 x_1 x_9 x_10 = if x_9 ≤ x_10 then (Option.bind (gi a_0 x_1) fun y1 => Option.bind (gi a_0 x_10) fun y8 => Option.bind (cmp_Less_76 y1 y8) fun y15 => if y15 = true then ((sq77.j3 a_0 x_1 x_9 x_10)) else ((sq77.j1 a_0 x_1 x_9 x_10))) else ((sq77.j1 a_0 x_1 x_9 x_10)) := fixF_eq sq77.l0_k.mono _
theorem sq77.j3_eq (a_0 : List Int) (x_1 : Int) (x_9 : Int) (x_10 : Int) : sq77.j3 a_0 x_1 x_9 x_10 = (sq77.l2 a_0 x_1 x_9 (IntKind.wrap .i64 (x_10 - (1 : Int)))) := fixF_eq sq77.l0_k.mono _
theorem sq77.j1_eq (a_0 : List Int) (x_1 : Int) (x_9 : Int) (x_10 : Int) : sq77.j1 a_0 x_1 x_9 x_10 = if x_9 > x_10 then (some (x_9, a_0)) else (Option.bind (gi a_0 x_10) fun y1 => Option.bind (gi a_0 x_9) fun y8 => Option.bind (gi a_0 x_9) fun y15 => Option.bind (some (List.set a_0 (Int.toNat x_9) y1)) fun l24 => Option.bind (gi l24 x_10) fun y26 => Option.bind (some (List.set l24 (Int.toNat x_10) y8)) fun l35 => (sq77.l0 l35 x_1 (IntKind.wrap .i64 (x_9 + (1 : Int))) (IntKind.wrap .i64 (x_10 - (1 : Int))))) := fixF_eq sq77.l0_k.mono _
def sq77.l0_k.I : (p : sq77.l0_k.Pt) → (Int × (List Int)) → Prop
  | .l0 a_0 x_1 x_9 x_10, r => ∀ (W : Nat → Prop) (h0 m0 h m : Heap) (A_0 : Option Addr) (n_0 c_0 : Nat) (O : Hold W h0 m0 h m [rR (aE (tell_int .i64)) A_0 c_0 a_0]) (ne_0 : n_0 = List.length a_0), f77.l0 (sq77.post W A_0 n_0 c_0 h0 m0 r) A_0 n_0 c_0 x_1 x_9 x_10 h
  | .l1 a_0 x_1 x_9 x_10, r => ∀ (W : Nat → Prop) (h0 m0 h m : Heap) (A_0 : Option Addr) (n_0 c_0 : Nat) (O : Hold W h0 m0 h m [rR (aE (tell_int .i64)) A_0 c_0 a_0]) (ne_0 : n_0 = List.length a_0), f77.l1 (sq77.post W A_0 n_0 c_0 h0 m0 r) A_0 n_0 c_0 x_1 x_9 x_10 h
  | .j2 a_0 x_1 x_9 x_10, r => ∀ (W : Nat → Prop) (h0 m0 h m : Heap) (A_0 : Option Addr) (n_0 c_0 : Nat) (O : Hold W h0 m0 h m [rR (aE (tell_int .i64)) A_0 c_0 a_0]) (ne_0 : n_0 = List.length a_0), f77.j2 (sq77.post W A_0 n_0 c_0 h0 m0 r) A_0 n_0 c_0 x_1 x_9 x_10 h
  | .j0 a_0 x_1 x_9 x_10, r => ∀ (W : Nat → Prop) (h0 m0 h m : Heap) (A_0 : Option Addr) (n_0 c_0 : Nat) (O : Hold W h0 m0 h m [rR (aE (tell_int .i64)) A_0 c_0 a_0]) (ne_0 : n_0 = List.length a_0), f77.j0 (sq77.post W A_0 n_0 c_0 h0 m0 r) A_0 n_0 c_0 x_1 x_9 x_10 h
  | .l2 a_0 x_1 x_9 x_10, r => ∀ (W : Nat → Prop) (h0 m0 h m : Heap) (A_0 : Option Addr) (n_0 c_0 : Nat) (O : Hold W h0 m0 h m [rR (aE (tell_int .i64)) A_0 c_0 a_0]) (ne_0 : n_0 = List.length a_0), f77.l2 (sq77.post W A_0 n_0 c_0 h0 m0 r) A_0 n_0 c_0 x_1 x_9 x_10 h
  | .j3 a_0 x_1 x_9 x_10, r => ∀ (W : Nat → Prop) (h0 m0 h m : Heap) (A_0 : Option Addr) (n_0 c_0 : Nat) (O : Hold W h0 m0 h m [rR (aE (tell_int .i64)) A_0 c_0 a_0]) (ne_0 : n_0 = List.length a_0), f77.j3 (sq77.post W A_0 n_0 c_0 h0 m0 r) A_0 n_0 c_0 x_1 x_9 x_10 h
  | .j1 a_0 x_1 x_9 x_10, r => ∀ (W : Nat → Prop) (h0 m0 h m : Heap) (A_0 : Option Addr) (n_0 c_0 : Nat) (O : Hold W h0 m0 h m [rR (aE (tell_int .i64)) A_0 c_0 a_0]) (ne_0 : n_0 = List.length a_0), f77.j1 (sq77.post W A_0 n_0 c_0 h0 m0 r) A_0 n_0 c_0 x_1 x_9 x_10 h
set_option maxRecDepth 100000 in
theorem sq77.l0_k.step_l0 (go : (p : sq77.l0_k.Pt) → Option (Int × (List Int))) (ih : ∀ p r, go p = some r → sq77.l0_k.I p r) (a_0 : List Int) (x_1 : Int) (x_9 : Int) (x_10 : Int) (r : Int × (List Int)) (e : sq77.l0_k.body go (.l0 a_0 x_1 x_9 x_10) = some r) : sq77.l0_k.I (.l0 a_0 x_1 x_9 x_10) r := by
  unfold sq77.l0_k.body at e
  intro W h0 m0 h m A_0 n_0 c_0 O ne_0
  subst ne_0
  refine f77.l0_in ?_
  unfold f77.l0T
  exact (ih _ _ e) _ _ _ _ _ _ _ _ (O.pick [0]).nm rfl
set_option maxRecDepth 100000 in
theorem sq77.l0_k.step_l1 (go : (p : sq77.l0_k.Pt) → Option (Int × (List Int))) (ih : ∀ p r, go p = some r → sq77.l0_k.I p r) (a_0 : List Int) (x_1 : Int) (x_9 : Int) (x_10 : Int) (r : Int × (List Int)) (e : sq77.l0_k.body go (.l1 a_0 x_1 x_9 x_10) = some r) : sq77.l0_k.I (.l1 a_0 x_1 x_9 x_10) r := by
  unfold sq77.l0_k.body at e
  intro W h0 m0 h m A_0 n_0 c_0 O ne_0
  subst ne_0
  refine f77.l1_in ?_
  unfold f77.l1T
  refine split_dec_e e (fun c23 e => ?_) (fun c23 e => ?_)
  · obtain ⟨y1, g2, e⟩ := bind_e e
    refine (O.os 0 rfl).addr rfl g2 fun a3 cs4 ha5 hc6 he7 => ?_
    obtain rfl : cs4 = [(Value.int .i64 y1)] := he7
    obtain ⟨y8, g9, e⟩ := bind_e e
    refine (O.os 0 rfl).addr rfl g9 fun a10 cs11 ha12 hc13 he14 => ?_
    obtain rfl : cs11 = [(Value.int .i64 y8)] := he14
    refine ⟨_, ld0 (Sub.refl _) hc6 rfl, _, rfl, ?_⟩
    refine ⟨_, ld0 (Sub.refl _) hc13 rfl, _, rfl, ?_⟩
    obtain ⟨y15, g16, e⟩ := bind_e e
    refine (cmp_Less_76.walk (Hold.start (W := No) O.s)  g16).mono ?_
    rintro _ h17 ⟨m18, Q19, rfl⟩
    have O21 := Hold.nm (O.retC Q19 vfs_nil)
    refine ⟨_, rfl, ?_⟩
    refine split_not ?_
    refine split_any_e e (fun c22 e => ?_) (fun c22 e => ?_)
    · exact (ih _ _ e) _ _ _ _ _ _ _ _ (O21.pick [0]).nm rfl
    · exact (ih _ _ e) _ _ _ _ _ _ _ _ (O21.pick [0]).nm rfl
  · exact (ih _ _ e) _ _ _ _ _ _ _ _ (O.pick [0]).nm rfl
set_option maxRecDepth 100000 in
theorem sq77.l0_k.step_j2 (go : (p : sq77.l0_k.Pt) → Option (Int × (List Int))) (ih : ∀ p r, go p = some r → sq77.l0_k.I p r) (a_0 : List Int) (x_1 : Int) (x_9 : Int) (x_10 : Int) (r : Int × (List Int)) (e : sq77.l0_k.body go (.j2 a_0 x_1 x_9 x_10) = some r) : sq77.l0_k.I (.j2 a_0 x_1 x_9 x_10) r := by
  unfold sq77.l0_k.body at e
  intro W h0 m0 h m A_0 n_0 c_0 O ne_0
  subst ne_0
  refine f77.j2_in ?_
  unfold f77.j2T
  exact (ih _ _ e) _ _ _ _ _ _ _ _ (O.pick [0]).nm rfl
set_option maxRecDepth 100000 in
theorem sq77.l0_k.step_j0 (go : (p : sq77.l0_k.Pt) → Option (Int × (List Int))) (ih : ∀ p r, go p = some r → sq77.l0_k.I p r) (a_0 : List Int) (x_1 : Int) (x_9 : Int) (x_10 : Int) (r : Int × (List Int)) (e : sq77.l0_k.body go (.j0 a_0 x_1 x_9 x_10) = some r) : sq77.l0_k.I (.j0 a_0 x_1 x_9 x_10) r := by
  unfold sq77.l0_k.body at e
  intro W h0 m0 h m A_0 n_0 c_0 O ne_0
  subst ne_0
  refine f77.j0_in ?_
  unfold f77.j0T
  exact (ih _ _ e) _ _ _ _ _ _ _ _ (O.pick [0]).nm rfl
set_option maxRecDepth 100000 in
theorem sq77.l0_k.step_l2 (go : (p : sq77.l0_k.Pt) → Option (Int × (List Int))) (ih : ∀ p r, go p = some r → sq77.l0_k.I p r) (a_0 : List Int) (x_1 : Int) (x_9 : Int) (x_10 : Int) (r : Int × (List Int)) (e : sq77.l0_k.body go (.l2 a_0 x_1 x_9 x_10) = some r) : sq77.l0_k.I (.l2 a_0 x_1 x_9 x_10) r := by
  unfold sq77.l0_k.body at e
  intro W h0 m0 h m A_0 n_0 c_0 O ne_0
  subst ne_0
  refine f77.l2_in ?_
  unfold f77.l2T
  refine split_dec_e e (fun c23 e => ?_) (fun c23 e => ?_)
  · obtain ⟨y1, g2, e⟩ := bind_e e
    refine (O.os 0 rfl).addr rfl g2 fun a3 cs4 ha5 hc6 he7 => ?_
    obtain rfl : cs4 = [(Value.int .i64 y1)] := he7
    obtain ⟨y8, g9, e⟩ := bind_e e
    refine (O.os 0 rfl).addr rfl g9 fun a10 cs11 ha12 hc13 he14 => ?_
    obtain rfl : cs11 = [(Value.int .i64 y8)] := he14
    refine ⟨_, ld0 (Sub.refl _) hc6 rfl, _, rfl, ?_⟩
    refine ⟨_, ld0 (Sub.refl _) hc13 rfl, _, rfl, ?_⟩
    obtain ⟨y15, g16, e⟩ := bind_e e
    refine (cmp_Less_76.walk (Hold.start (W := No) O.s)  g16).mono ?_
    rintro _ h17 ⟨m18, Q19, rfl⟩
    have O21 := Hold.nm (O.retC Q19 vfs_nil)
    refine ⟨_, rfl, ?_⟩
    refine split_any_e e (fun c22 e => ?_) (fun c22 e => ?_)
    · exact (ih _ _ e) _ _ _ _ _ _ _ _ (O21.pick [0]).nm rfl
    · exact (ih _ _ e) _ _ _ _ _ _ _ _ (O21.pick [0]).nm rfl
  · exact (ih _ _ e) _ _ _ _ _ _ _ _ (O.pick [0]).nm rfl
set_option maxRecDepth 100000 in
theorem sq77.l0_k.step_j3 (go : (p : sq77.l0_k.Pt) → Option (Int × (List Int))) (ih : ∀ p r, go p = some r → sq77.l0_k.I p r) (a_0 : List Int) (x_1 : Int) (x_9 : Int) (x_10 : Int) (r : Int × (List Int)) (e : sq77.l0_k.body go (.j3 a_0 x_1 x_9 x_10) = some r) : sq77.l0_k.I (.j3 a_0 x_1 x_9 x_10) r := by
  unfold sq77.l0_k.body at e
  intro W h0 m0 h m A_0 n_0 c_0 O ne_0
  subst ne_0
  refine f77.j3_in ?_
  unfold f77.j3T
  exact (ih _ _ e) _ _ _ _ _ _ _ _ (O.pick [0]).nm rfl
set_option maxRecDepth 100000 in
theorem sq77.l0_k.step_j1 (go : (p : sq77.l0_k.Pt) → Option (Int × (List Int))) (ih : ∀ p r, go p = some r → sq77.l0_k.I p r) (a_0 : List Int) (x_1 : Int) (x_9 : Int) (x_10 : Int) (r : Int × (List Int)) (e : sq77.l0_k.body go (.j1 a_0 x_1 x_9 x_10) = some r) : sq77.l0_k.I (.j1 a_0 x_1 x_9 x_10) r := by
  unfold sq77.l0_k.body at e
  intro W h0 m0 h m A_0 n_0 c_0 O ne_0
  subst ne_0
  refine f77.j1_in ?_
  unfold f77.j1T
  refine split_dec_e e (fun c38 e => ?_) (fun c38 e => ?_)
  · cases e
    exact ⟨_, O.pick [0], rfl, rfl⟩
  · obtain ⟨y1, g2, e⟩ := bind_e e
    refine (O.os 0 rfl).addr rfl g2 fun a3 cs4 ha5 hc6 he7 => ?_
    obtain rfl : cs4 = [(Value.int .i64 y1)] := he7
    obtain ⟨y8, g9, e⟩ := bind_e e
    refine (O.os 0 rfl).addr rfl g9 fun a10 cs11 ha12 hc13 he14 => ?_
    obtain rfl : cs11 = [(Value.int .i64 y8)] := he14
    refine ⟨_, ld0 (Sub.refl _) hc6 rfl, _, rfl, ?_⟩
    refine ⟨_, ld0 (Sub.refl _) hc13 rfl, _, rfl, ?_⟩
    obtain ⟨y15, g16, e⟩ := bind_e e
    refine (O.os 0 rfl).addr rfl g16 fun a17 cs18 ha19 hc20 he21 => ?_
    obtain rfl : cs18 = [(Value.int .i64 y15)] := he21
    obtain ⟨l24, g25, e⟩ := bind_e e
    replace g25 := Option.some.inj g25
    refine O.elst0 0 rfl g16 ha19 hc20 (by decide) (y' := y1) rfl trivial g25 fun h22 O23 => ?_
    obtain ⟨y26, g27, e⟩ := bind_e e
    refine (O23.os 0 rfl).addr (lset' g25) g27 fun a28 cs29 ha30 hc31 he32 => ?_
    obtain rfl : cs29 = [(Value.int .i64 y26)] := he32
    obtain ⟨l35, g36, e⟩ := bind_e e
    replace g36 := Option.some.inj g36
    refine O23.elst0 0 rfl g27 ha30 hc31 (by decide) (y' := y8) rfl trivial g36 fun h33 O34 => ?_
    have O37 := O34.nm
    exact (ih _ _ e) _ _ _ _ _ _ _ _ (O37.pick [0]).nm ((lset' g25).trans (lset' g36))
theorem sq77.l0_k.all {p : sq77.l0_k.Pt} {r : (Int × (List Int))} (e : sq77.l0_k.go p = some r) : sq77.l0_k.I p r := fixF_ind (β := fun _ => (Int × (List Int))) sq77.l0_k.mono (I := sq77.l0_k.I) (fun go ih p r e => match p with
  | .l0 a_0 x_1 x_9 x_10 => sq77.l0_k.step_l0 go ih a_0 x_1 x_9 x_10 r e
  | .l1 a_0 x_1 x_9 x_10 => sq77.l0_k.step_l1 go ih a_0 x_1 x_9 x_10 r e
  | .j2 a_0 x_1 x_9 x_10 => sq77.l0_k.step_j2 go ih a_0 x_1 x_9 x_10 r e
  | .j0 a_0 x_1 x_9 x_10 => sq77.l0_k.step_j0 go ih a_0 x_1 x_9 x_10 r e
  | .l2 a_0 x_1 x_9 x_10 => sq77.l0_k.step_l2 go ih a_0 x_1 x_9 x_10 r e
  | .j3 a_0 x_1 x_9 x_10 => sq77.l0_k.step_j3 go ih a_0 x_1 x_9 x_10 r e
  | .j1 a_0 x_1 x_9 x_10 => sq77.l0_k.step_j1 go ih a_0 x_1 x_9 x_10 r e
  ) e
theorem sq77.l0.walk {W : Nat → Prop} {h0 m0 h m : Heap} {A_0 : Option Addr} {n_0 c_0 : Nat} {a_0 : List Int} {x_1 : Int} {x_9 : Int} {x_10 : Int} (O : Hold W h0 m0 h m [rR (aE (tell_int .i64)) A_0 c_0 a_0]) (ne_0 : n_0 = List.length a_0) {r : Int × (List Int)} (e : sq77.l0 a_0 x_1 x_9 x_10 = some r) : f77.l0 (sq77.post W A_0 n_0 c_0 h0 m0 r) A_0 n_0 c_0 x_1 x_9 x_10 h := sq77.l0_k.all (p := .l0 a_0 x_1 x_9 x_10) e W h0 m0 h m A_0 n_0 c_0 O ne_0
noncomputable def sq77 (a_0 : List Int) (x_1 : Int) (x_2 : Int) (x_3 : Int) : Option (Int × (List Int)) :=
  Option.bind (gi a_0 x_3) fun y1 => Option.bind (gi a_0 x_1) fun y8 => Option.bind (gi a_0 x_1) fun y15 => Option.bind (some (List.set a_0 (Int.toNat x_1) y1)) fun l24 => Option.bind (gi l24 x_3) fun y26 => Option.bind (some (List.set l24 (Int.toNat x_3) y8)) fun l35 => (sq77.l0 l35 x_1 (IntKind.wrap .i64 (x_1 + (1 : Int))) (IntKind.wrap .i64 (x_2 - (1 : Int))))
set_option maxRecDepth 100000 in
theorem sq77.walk {W : Nat → Prop} {h m : Heap} {A_0 : Option Addr} {n_0 c_0 : Nat} {a_0 : List Int} {x_1 : Int} {x_2 : Int} {x_3 : Int} (O : Hold W h m h m [rR (aE (tell_int .i64)) A_0 c_0 a_0]) (ne_0 : n_0 = List.length a_0) {r : Int × (List Int)} (e : sq77 a_0 x_1 x_2 x_3 = some r) : Run Try.prog 77 #[Value.slice A_0 n_0 c_0, Value.int .i64 x_1, Value.int .i64 x_2, Value.int .i64 x_3] h (sq77.post W A_0 n_0 c_0 h m r) := by
  unfold sq77 at e
  subst ne_0
  refine f77.run ?_
  unfold f77.runT
  obtain ⟨y1, g2, e⟩ := bind_e e
  refine (O.os 0 rfl).addr rfl g2 fun a3 cs4 ha5 hc6 he7 => ?_
  obtain rfl : cs4 = [(Value.int .i64 y1)] := he7
  obtain ⟨y8, g9, e⟩ := bind_e e
  refine (O.os 0 rfl).addr rfl g9 fun a10 cs11 ha12 hc13 he14 => ?_
  obtain rfl : cs11 = [(Value.int .i64 y8)] := he14
  refine ⟨_, ld0 (Sub.refl _) hc6 rfl, _, rfl, ?_⟩
  refine ⟨_, ld0 (Sub.refl _) hc13 rfl, _, rfl, ?_⟩
  obtain ⟨y15, g16, e⟩ := bind_e e
  refine (O.os 0 rfl).addr rfl g16 fun a17 cs18 ha19 hc20 he21 => ?_
  obtain rfl : cs18 = [(Value.int .i64 y15)] := he21
  obtain ⟨l24, g25, e⟩ := bind_e e
  replace g25 := Option.some.inj g25
  refine O.elst0 0 rfl g16 ha19 hc20 (by decide) (y' := y1) rfl trivial g25 fun h22 O23 => ?_
  obtain ⟨y26, g27, e⟩ := bind_e e
  refine (O23.os 0 rfl).addr (lset' g25) g27 fun a28 cs29 ha30 hc31 he32 => ?_
  obtain rfl : cs29 = [(Value.int .i64 y26)] := he32
  obtain ⟨l35, g36, e⟩ := bind_e e
  replace g36 := Option.some.inj g36
  refine O23.elst0 0 rfl g27 ha30 hc31 (by decide) (y' := y8) rfl trivial g36 fun h33 O34 => ?_
  have O37 := O34.nm
  exact sq77.l0.walk (O37.pick [0]).nm ((lset' g25).trans (lset' g36)) e
def sq78.post (W : Nat → Prop) (Asl0 : Option Addr) (nsl0 csl0 : Nat) (h0 m0 : Heap) (r : Int × Bool × (List Int)) (v : Value) (h : Heap) : Prop := ∃ m , Hold W h0 m0 h m [rR (aE (tell_int .i64)) Asl0 csl0 r.2.2] ∧ v = .tuple #[.int .i64 r.1, .bool r.2.1] ∧ nsl0 = List.length r.2.2
noncomputable def sq78.j4 (a_0 : List Int) (x_1 : Int) (x_11 : Int) : Option (Int × Bool × (List Int)) :=
  Option.bind (gi a_0 x_1) fun y1 => Option.bind (gi a_0 x_11) fun y8 => Option.bind (gi a_0 x_11) fun y15 => Option.bind (some (List.set a_0 (Int.toNat x_11) y1)) fun l24 => Option.bind (gi l24 x_1) fun y26 => Option.bind (some (List.set l24 (Int.toNat x_1) y8)) fun l35 => some (x_11, false, l35)
set_option maxRecDepth 100000 in
theorem sq78.j4.walk {W : Nat → Prop} {h0 m0 h m : Heap} {A_0 : Option Addr} {n_0 c_0 : Nat} {a_0 : List Int} {x_1 : Int} {x_11 : Int} (O : Hold W h0 m0 h m [rR (aE (tell_int .i64)) A_0 c_0 a_0]) (ne_0 : n_0 = List.length a_0) {r : Int × Bool × (List Int)} (e : sq78.j4 a_0 x_1 x_11 = some r) : f78.j4 (sq78.post W A_0 n_0 c_0 h0 m0 r) A_0 n_0 c_0 x_1 x_11 h := by
  unfold sq78.j4 at e
  subst ne_0
  refine f78.j4_in ?_
  unfold f78.j4T
  obtain ⟨y1, g2, e⟩ := bind_e e
  refine (O.os 0 rfl).addr rfl g2 fun a3 cs4 ha5 hc6 he7 => ?_
  obtain rfl : cs4 = [(Value.int .i64 y1)] := he7
  obtain ⟨y8, g9, e⟩ := bind_e e
  refine (O.os 0 rfl).addr rfl g9 fun a10 cs11 ha12 hc13 he14 => ?_
  obtain rfl : cs11 = [(Value.int .i64 y8)] := he14
  refine ⟨_, ld0 (Sub.refl _) hc6 rfl, _, rfl, ?_⟩
  refine ⟨_, ld0 (Sub.refl _) hc13 rfl, _, rfl, ?_⟩
  obtain ⟨y15, g16, e⟩ := bind_e e
  refine (O.os 0 rfl).addr rfl g16 fun a17 cs18 ha19 hc20 he21 => ?_
  obtain rfl : cs18 = [(Value.int .i64 y15)] := he21
  obtain ⟨l24, g25, e⟩ := bind_e e
  replace g25 := Option.some.inj g25
  refine O.elst0 0 rfl g16 ha19 hc20 (by decide) (y' := y1) rfl trivial g25 fun h22 O23 => ?_
  obtain ⟨y26, g27, e⟩ := bind_e e
  refine (O23.os 0 rfl).addr (lset' g25) g27 fun a28 cs29 ha30 hc31 he32 => ?_
  obtain rfl : cs29 = [(Value.int .i64 y26)] := he32
  obtain ⟨l35, g36, e⟩ := bind_e e
  replace g36 := Option.some.inj g36
  refine O23.elst0 0 rfl g27 ha30 hc31 (by decide) (y' := y8) rfl trivial g36 fun h33 O34 => ?_
  have O37 := O34.nm
  cases e
  exact ⟨_, O37.pick [0], rfl, ((lset' g25).trans (lset' g36))⟩
inductive sq78.l2_k.Pt where
  | l2 (a_0 : List Int) (x_1 : Int) (x_10 : Int) (x_11 : Int)
  | l3 (a_0 : List Int) (x_1 : Int) (x_10 : Int) (x_11 : Int)
  | j7 (a_0 : List Int) (x_1 : Int) (x_10 : Int) (x_11 : Int)
  | j5 (a_0 : List Int) (x_1 : Int) (x_10 : Int) (x_11 : Int)
  | l4 (a_0 : List Int) (x_1 : Int) (x_10 : Int) (x_11 : Int)
  | j8 (a_0 : List Int) (x_1 : Int) (x_10 : Int) (x_11 : Int)
  | j6 (a_0 : List Int) (x_1 : Int) (x_10 : Int) (x_11 : Int)
noncomputable def sq78.l2_k.body (go : (p : sq78.l2_k.Pt) → Option (Int × Bool × (List Int))) : (p : sq78.l2_k.Pt) → Option (Int × Bool × (List Int))
  | .l2 a_0 x_1 x_10 x_11 => (go (.l3 a_0 x_1 x_10 x_11))
  | .l3 a_0 x_1 x_10 x_11 => if x_10 ≤ x_11 then (Option.bind (gi a_0 x_10) fun y1 => Option.bind (gi a_0 x_1) fun y8 => Option.bind (cmp_Less_76 y1 y8) fun y15 => if y15 = true then ((go (.j7 a_0 x_1 x_10 x_11))) else ((go (.j5 a_0 x_1 x_10 x_11)))) else ((go (.j5 a_0 x_1 x_10 x_11)))
  | .j7 a_0 x_1 x_10 x_11 => (go (.l3 a_0 x_1 (IntKind.wrap .i64 (x_10 + (1 : Int))) x_11))
  | .j5 a_0 x_1 x_10 x_11 => (go (.l4 a_0 x_1 x_10 x_11))
  | .l4 a_0 x_1 x_10 x_11 => if x_10 ≤ x_11 then (Option.bind (gi a_0 x_11) fun y1 => Option.bind (gi a_0 x_1) fun y8 => Option.bind (cmp_Less_76 y1 y8) fun y15 => if y15 = true then ((go (.j6 a_0 x_1 x_10 x_11))) else ((go (.j8 a_0 x_1 x_10 x_11)))) else ((go (.j6 a_0 x_1 x_10 x_11)))
  | .j8 a_0 x_1 x_10 x_11 => (go (.l4 a_0 x_1 x_10 (IntKind.wrap .i64 (x_11 - (1 : Int)))))
  | .j6 a_0 x_1 x_10 x_11 => if x_10 > x_11 then ((sq78.j4 a_0 x_1 x_11)) else (Option.bind (gi a_0 x_11) fun y1 => Option.bind (gi a_0 x_10) fun y8 => Option.bind (gi a_0 x_10) fun y15 => Option.bind (some (List.set a_0 (Int.toNat x_10) y1)) fun l24 => Option.bind (gi l24 x_11) fun y26 => Option.bind (some (List.set l24 (Int.toNat x_11) y8)) fun l35 => (go (.l2 l35 x_1 (IntKind.wrap .i64 (x_10 + (1 : Int))) (IntKind.wrap .i64 (x_11 - (1 : Int))))))
attribute [local irreducible] cmp_Less_76 in
theorem sq78.l2_k.mono : MonoF (β := fun _ => (Int × Bool × (List Int))) sq78.l2_k.body := fun f g hfg p => match p with
  | .l2 a_0 x_1 x_10 x_11 => (hfg _)
  | .l3 a_0 x_1 x_10 x_11 => LeO.ite (LeO.bind (LeO.refl _) fun y1 => LeO.bind (LeO.refl _) fun y8 => LeO.bind (LeO.refl _) fun y15 => LeO.ite ((hfg _)) ((hfg _))) ((hfg _))
  | .j7 a_0 x_1 x_10 x_11 => (hfg _)
  | .j5 a_0 x_1 x_10 x_11 => (hfg _)
  | .l4 a_0 x_1 x_10 x_11 => LeO.ite (LeO.bind (LeO.refl _) fun y1 => LeO.bind (LeO.refl _) fun y8 => LeO.bind (LeO.refl _) fun y15 => LeO.ite ((hfg _)) ((hfg _))) ((hfg _))
  | .j8 a_0 x_1 x_10 x_11 => (hfg _)
  | .j6 a_0 x_1 x_10 x_11 => LeO.ite ((LeO.refl _)) (LeO.bind (LeO.refl _) fun y1 => LeO.bind (LeO.refl _) fun y8 => LeO.bind (LeO.refl _) fun y15 => LeO.bind (LeO.refl _) fun l24 => LeO.bind (LeO.refl _) fun y26 => LeO.bind (LeO.refl _) fun l35 => (hfg _))
noncomputable def sq78.l2_k.go (p : sq78.l2_k.Pt) : Option (Int × Bool × (List Int)) := fixF (β := fun _ => (Int × Bool × (List Int))) sq78.l2_k.body p
noncomputable def sq78.l2 (a_0 : List Int) (x_1 : Int) (x_10 : Int) (x_11 : Int) : Option (Int × Bool × (List Int)) := sq78.l2_k.go (.l2 a_0 x_1 x_10 x_11)
noncomputable def sq78.l3 (a_0 : List Int) (x_1 : Int) (x_10 : Int) (x_11 : Int) : Option (Int × Bool × (List Int)) := sq78.l2_k.go (.l3 a_0 x_1 x_10 x_11)
noncomputable def sq78.j7 (a_0 : List Int) (x_1 : Int) (x_10 : Int) (x_11 : Int) : Option (Int × Bool × (List Int)) := sq78.l2_k.go (.j7 a_0 x_1 x_10 x_11)
noncomputable def sq78.j5 (a_0 : List Int) (x_1 : Int) (x_10 : Int) (x_11 : Int) : Option (Int × Bool × (List Int)) := sq78.l2_k.go (.j5 a_0 x_1 x_10 x_11)
noncomputable def sq78.l4 (a_0 : List Int) (x_1 : Int) (x_10 : Int) (x_11 : Int) : Option (Int × Bool × (List Int)) := sq78.l2_k.go (.l4 a_0 x_1 x_10 x_11)
noncomputable def sq78.j8 (a_0 : List Int) (x_1 : Int) (x_10 : Int) (x_11 : Int) : Option (Int × Bool × (List Int)) := sq78.l2_k.go (.j8 a_0 x_1 x_10 x_11)
noncomputable def sq78.j6 (a_0 : List Int) (x_1 : Int) (x_10 : Int) (x_11 : Int) : Option (Int × Bool × (List Int)) := sq78.l2_k.go (.j6 a_0 x_1 x_10 x_11)
theorem sq78.l2_eq (a_0 : List Int) (x_1 : Int) (x_10 : Int) (x_11 : Int) : sq78.l2 a_0 x_1 x_10 x_11 = (sq78.l3 a_0 x_1 x_10 x_11) := fixF_eq sq78.l2_k.mono _
theorem sq78.l3_eq (a_0 : List Int) (x_1 : Int) (x_10 : Int) (x_11 : Int) : sq78.l3 a_0 x_1 x_10 x_11 = if x_10 ≤ x_11 then (Option.bind (gi a_0 x_10) fun y1 => Option.bind (gi a_0 x_1) fun y8 => Option.bind (cmp_Less_76 y1 y8) fun y15 => if y15 = true then ((sq78.j7 a_0 x_1 x_10 x_11)) else ((sq78.j5 a_0 x_1 x_10 x_11))) else ((sq78.j5 a_0 x_1 x_10 x_11)) := fixF_eq sq78.l2_k.mono _
theorem sq78.j7_eq (a_0 : List Int) (x_1 : Int) (x_10 : Int) (x_11 : Int) : sq78.j7 a_0 x_1 x_10 x_11 = (sq78.l3 a_0 x_1 (IntKind.wrap .i64 (x_10 + (1 : Int))) x_11) := fixF_eq sq78.l2_k.mono _
theorem sq78.j5_eq (a_0 : List Int) (x_1 : Int) (x_10 : Int) (x_11 : Int) : sq78.j5 a_0 x_1 x_10 x_11 = (sq78.l4 a_0 x_1 x_10 x_11) := fixF_eq sq78.l2_k.mono _
theorem sq78.l4_eq (a_0 : List Int) (x_1 : Int) (x_10 : Int) (x_11 : Int) : sq78.l4 a_0 x_1 x_10 x_11 = if x_10 ≤ x_11 then (Option.bind (gi a_0 x_11) fun y1 => Option.bind (gi a_0 x_1) fun y8 => Option.bind (cmp_Less_76 y1 y8) fun y15 => if y15 = true then ((sq78.j6 a_0 x_1 x_10 x_11)) else ((sq78.j8 a_0 x_1 x_10 x_11))) else ((sq78.j6 a_0 x_1 x_10 x_11)) := fixF_eq sq78.l2_k.mono _
theorem sq78.j8_eq (a_0 : List Int) (x_1 : Int) (x_10 : Int) (x_11 : Int) : sq78.j8 a_0 x_1 x_10 x_11 = (sq78.l4 a_0 x_1 x_10 (IntKind.wrap .i64 (x_11 - (1 : Int)))) := fixF_eq sq78.l2_k.mono _
theorem sq78.j6_eq (a_0 : List Int) (x_1 : Int) (x_10 : Int) (x_11 : Int) : sq78.j6 a_0 x_1 x_10 x_11 = if x_10 > x_11 then ((sq78.j4 a_0 x_1 x_11)) else (Option.bind (gi a_0 x_11) fun y1 => Option.bind (gi a_0 x_10) fun y8 => Option.bind (gi a_0 x_10) fun y15 => Option.bind (some (List.set a_0 (Int.toNat x_10) y1)) fun l24 => Option.bind (gi l24 x_11) fun y26 => Option.bind (some (List.set l24 (Int.toNat x_11) y8)) fun l35 => (sq78.l2 l35 x_1 (IntKind.wrap .i64 (x_10 + (1 : Int))) (IntKind.wrap .i64 (x_11 - (1 : Int))))) := fixF_eq sq78.l2_k.mono _
def sq78.l2_k.I : (p : sq78.l2_k.Pt) → (Int × Bool × (List Int)) → Prop
  | .l2 a_0 x_1 x_10 x_11, r => ∀ (W : Nat → Prop) (h0 m0 h m : Heap) (A_0 : Option Addr) (n_0 c_0 : Nat) (O : Hold W h0 m0 h m [rR (aE (tell_int .i64)) A_0 c_0 a_0]) (ne_0 : n_0 = List.length a_0), f78.l2 (sq78.post W A_0 n_0 c_0 h0 m0 r) A_0 n_0 c_0 x_1 x_10 x_11 h
  | .l3 a_0 x_1 x_10 x_11, r => ∀ (W : Nat → Prop) (h0 m0 h m : Heap) (A_0 : Option Addr) (n_0 c_0 : Nat) (O : Hold W h0 m0 h m [rR (aE (tell_int .i64)) A_0 c_0 a_0]) (ne_0 : n_0 = List.length a_0), f78.l3 (sq78.post W A_0 n_0 c_0 h0 m0 r) A_0 n_0 c_0 x_1 x_10 x_11 h
  | .j7 a_0 x_1 x_10 x_11, r => ∀ (W : Nat → Prop) (h0 m0 h m : Heap) (A_0 : Option Addr) (n_0 c_0 : Nat) (O : Hold W h0 m0 h m [rR (aE (tell_int .i64)) A_0 c_0 a_0]) (ne_0 : n_0 = List.length a_0), f78.j7 (sq78.post W A_0 n_0 c_0 h0 m0 r) A_0 n_0 c_0 x_1 x_10 x_11 h
  | .j5 a_0 x_1 x_10 x_11, r => ∀ (W : Nat → Prop) (h0 m0 h m : Heap) (A_0 : Option Addr) (n_0 c_0 : Nat) (O : Hold W h0 m0 h m [rR (aE (tell_int .i64)) A_0 c_0 a_0]) (ne_0 : n_0 = List.length a_0), f78.j5 (sq78.post W A_0 n_0 c_0 h0 m0 r) A_0 n_0 c_0 x_1 x_10 x_11 h
  | .l4 a_0 x_1 x_10 x_11, r => ∀ (W : Nat → Prop) (h0 m0 h m : Heap) (A_0 : Option Addr) (n_0 c_0 : Nat) (O : Hold W h0 m0 h m [rR (aE (tell_int .i64)) A_0 c_0 a_0]) (ne_0 : n_0 = List.length a_0), f78.l4 (sq78.post W A_0 n_0 c_0 h0 m0 r) A_0 n_0 c_0 x_1 x_10 x_11 h
  | .j8 a_0 x_1 x_10 x_11, r => ∀ (W : Nat → Prop) (h0 m0 h m : Heap) (A_0 : Option Addr) (n_0 c_0 : Nat) (O : Hold W h0 m0 h m [rR (aE (tell_int .i64)) A_0 c_0 a_0]) (ne_0 : n_0 = List.length a_0), f78.j8 (sq78.post W A_0 n_0 c_0 h0 m0 r) A_0 n_0 c_0 x_1 x_10 x_11 h
  | .j6 a_0 x_1 x_10 x_11, r => ∀ (W : Nat → Prop) (h0 m0 h m : Heap) (A_0 : Option Addr) (n_0 c_0 : Nat) (O : Hold W h0 m0 h m [rR (aE (tell_int .i64)) A_0 c_0 a_0]) (ne_0 : n_0 = List.length a_0), f78.j6 (sq78.post W A_0 n_0 c_0 h0 m0 r) A_0 n_0 c_0 x_1 x_10 x_11 h
set_option maxRecDepth 100000 in
theorem sq78.l2_k.step_l2 (go : (p : sq78.l2_k.Pt) → Option (Int × Bool × (List Int))) (ih : ∀ p r, go p = some r → sq78.l2_k.I p r) (a_0 : List Int) (x_1 : Int) (x_10 : Int) (x_11 : Int) (r : Int × Bool × (List Int)) (e : sq78.l2_k.body go (.l2 a_0 x_1 x_10 x_11) = some r) : sq78.l2_k.I (.l2 a_0 x_1 x_10 x_11) r := by
  unfold sq78.l2_k.body at e
  intro W h0 m0 h m A_0 n_0 c_0 O ne_0
  subst ne_0
  refine f78.l2_in ?_
  unfold f78.l2T
  exact (ih _ _ e) _ _ _ _ _ _ _ _ (O.pick [0]).nm rfl
set_option maxRecDepth 100000 in
theorem sq78.l2_k.step_l3 (go : (p : sq78.l2_k.Pt) → Option (Int × Bool × (List Int))) (ih : ∀ p r, go p = some r → sq78.l2_k.I p r) (a_0 : List Int) (x_1 : Int) (x_10 : Int) (x_11 : Int) (r : Int × Bool × (List Int)) (e : sq78.l2_k.body go (.l3 a_0 x_1 x_10 x_11) = some r) : sq78.l2_k.I (.l3 a_0 x_1 x_10 x_11) r := by
  unfold sq78.l2_k.body at e
  intro W h0 m0 h m A_0 n_0 c_0 O ne_0
  subst ne_0
  refine f78.l3_in ?_
  unfold f78.l3T
  refine split_dec_e e (fun c23 e => ?_) (fun c23 e => ?_)
  · obtain ⟨y1, g2, e⟩ := bind_e e
    refine (O.os 0 rfl).addr rfl g2 fun a3 cs4 ha5 hc6 he7 => ?_
    obtain rfl : cs4 = [(Value.int .i64 y1)] := he7
    obtain ⟨y8, g9, e⟩ := bind_e e
    refine (O.os 0 rfl).addr rfl g9 fun a10 cs11 ha12 hc13 he14 => ?_
    obtain rfl : cs11 = [(Value.int .i64 y8)] := he14
    refine ⟨_, ld0 (Sub.refl _) hc6 rfl, _, rfl, ?_⟩
    refine ⟨_, ld0 (Sub.refl _) hc13 rfl, _, rfl, ?_⟩
    obtain ⟨y15, g16, e⟩ := bind_e e
    refine (cmp_Less_76.walk (Hold.start (W := No) O.s)  g16).mono ?_
    rintro _ h17 ⟨m18, Q19, rfl⟩
    have O21 := Hold.nm (O.retC Q19 vfs_nil)
    refine ⟨_, rfl, ?_⟩
    refine split_any_e e (fun c22 e => ?_) (fun c22 e => ?_)
    · exact (ih _ _ e) _ _ _ _ _ _ _ _ (O21.pick [0]).nm rfl
    · exact (ih _ _ e) _ _ _ _ _ _ _ _ (O21.pick [0]).nm rfl
  · exact (ih _ _ e) _ _ _ _ _ _ _ _ (O.pick [0]).nm rfl
set_option maxRecDepth 100000 in
theorem sq78.l2_k.step_j7 (go : (p : sq78.l2_k.Pt) → Option (Int × Bool × (List Int))) (ih : ∀ p r, go p = some r → sq78.l2_k.I p r) (a_0 : List Int) (x_1 : Int) (x_10 : Int) (x_11 : Int) (r : Int × Bool × (List Int)) (e : sq78.l2_k.body go (.j7 a_0 x_1 x_10 x_11) = some r) : sq78.l2_k.I (.j7 a_0 x_1 x_10 x_11) r := by
  unfold sq78.l2_k.body at e
  intro W h0 m0 h m A_0 n_0 c_0 O ne_0
  subst ne_0
  refine f78.j7_in ?_
  unfold f78.j7T
  exact (ih _ _ e) _ _ _ _ _ _ _ _ (O.pick [0]).nm rfl
set_option maxRecDepth 100000 in
theorem sq78.l2_k.step_j5 (go : (p : sq78.l2_k.Pt) → Option (Int × Bool × (List Int))) (ih : ∀ p r, go p = some r → sq78.l2_k.I p r) (a_0 : List Int) (x_1 : Int) (x_10 : Int) (x_11 : Int) (r : Int × Bool × (List Int)) (e : sq78.l2_k.body go (.j5 a_0 x_1 x_10 x_11) = some r) : sq78.l2_k.I (.j5 a_0 x_1 x_10 x_11) r := by
  unfold sq78.l2_k.body at e
  intro W h0 m0 h m A_0 n_0 c_0 O ne_0
  subst ne_0
  refine f78.j5_in ?_
  unfold f78.j5T
  exact (ih _ _ e) _ _ _ _ _ _ _ _ (O.pick [0]).nm rfl
set_option maxRecDepth 100000 in
theorem sq78.l2_k.step_l4 (go : (p : sq78.l2_k.Pt) → Option (Int × Bool × (List Int))) (ih : ∀ p r, go p = some r → sq78.l2_k.I p r) (a_0 : List Int) (x_1 : Int) (x_10 : Int) (x_11 : Int) (r : Int × Bool × (List Int)) (e : sq78.l2_k.body go (.l4 a_0 x_1 x_10 x_11) = some r) : sq78.l2_k.I (.l4 a_0 x_1 x_10 x_11) r := by
  unfold sq78.l2_k.body at e
  intro W h0 m0 h m A_0 n_0 c_0 O ne_0
  subst ne_0
  refine f78.l4_in ?_
  unfold f78.l4T
  refine split_dec_e e (fun c23 e => ?_) (fun c23 e => ?_)
  · obtain ⟨y1, g2, e⟩ := bind_e e
    refine (O.os 0 rfl).addr rfl g2 fun a3 cs4 ha5 hc6 he7 => ?_
    obtain rfl : cs4 = [(Value.int .i64 y1)] := he7
    obtain ⟨y8, g9, e⟩ := bind_e e
    refine (O.os 0 rfl).addr rfl g9 fun a10 cs11 ha12 hc13 he14 => ?_
    obtain rfl : cs11 = [(Value.int .i64 y8)] := he14
    refine ⟨_, ld0 (Sub.refl _) hc6 rfl, _, rfl, ?_⟩
    refine ⟨_, ld0 (Sub.refl _) hc13 rfl, _, rfl, ?_⟩
    obtain ⟨y15, g16, e⟩ := bind_e e
    refine (cmp_Less_76.walk (Hold.start (W := No) O.s)  g16).mono ?_
    rintro _ h17 ⟨m18, Q19, rfl⟩
    have O21 := Hold.nm (O.retC Q19 vfs_nil)
    refine ⟨_, rfl, ?_⟩
    refine split_not ?_
    refine split_any_e e (fun c22 e => ?_) (fun c22 e => ?_)
    · exact (ih _ _ e) _ _ _ _ _ _ _ _ (O21.pick [0]).nm rfl
    · exact (ih _ _ e) _ _ _ _ _ _ _ _ (O21.pick [0]).nm rfl
  · exact (ih _ _ e) _ _ _ _ _ _ _ _ (O.pick [0]).nm rfl
set_option maxRecDepth 100000 in
theorem sq78.l2_k.step_j8 (go : (p : sq78.l2_k.Pt) → Option (Int × Bool × (List Int))) (ih : ∀ p r, go p = some r → sq78.l2_k.I p r) (a_0 : List Int) (x_1 : Int) (x_10 : Int) (x_11 : Int) (r : Int × Bool × (List Int)) (e : sq78.l2_k.body go (.j8 a_0 x_1 x_10 x_11) = some r) : sq78.l2_k.I (.j8 a_0 x_1 x_10 x_11) r := by
  unfold sq78.l2_k.body at e
  intro W h0 m0 h m A_0 n_0 c_0 O ne_0
  subst ne_0
  refine f78.j8_in ?_
  unfold f78.j8T
  exact (ih _ _ e) _ _ _ _ _ _ _ _ (O.pick [0]).nm rfl
set_option maxRecDepth 100000 in
theorem sq78.l2_k.step_j6 (go : (p : sq78.l2_k.Pt) → Option (Int × Bool × (List Int))) (ih : ∀ p r, go p = some r → sq78.l2_k.I p r) (a_0 : List Int) (x_1 : Int) (x_10 : Int) (x_11 : Int) (r : Int × Bool × (List Int)) (e : sq78.l2_k.body go (.j6 a_0 x_1 x_10 x_11) = some r) : sq78.l2_k.I (.j6 a_0 x_1 x_10 x_11) r := by
  unfold sq78.l2_k.body at e
  intro W h0 m0 h m A_0 n_0 c_0 O ne_0
  subst ne_0
  refine f78.j6_in ?_
  unfold f78.j6T
  refine split_dec_e e (fun c38 e => ?_) (fun c38 e => ?_)
  · exact sq78.j4.walk (O.pick [0]).nm rfl e
  · obtain ⟨y1, g2, e⟩ := bind_e e
    refine (O.os 0 rfl).addr rfl g2 fun a3 cs4 ha5 hc6 he7 => ?_
    obtain rfl : cs4 = [(Value.int .i64 y1)] := he7
    obtain ⟨y8, g9, e⟩ := bind_e e
    refine (O.os 0 rfl).addr rfl g9 fun a10 cs11 ha12 hc13 he14 => ?_
    obtain rfl : cs11 = [(Value.int .i64 y8)] := he14
    refine ⟨_, ld0 (Sub.refl _) hc6 rfl, _, rfl, ?_⟩
    refine ⟨_, ld0 (Sub.refl _) hc13 rfl, _, rfl, ?_⟩
    obtain ⟨y15, g16, e⟩ := bind_e e
    refine (O.os 0 rfl).addr rfl g16 fun a17 cs18 ha19 hc20 he21 => ?_
    obtain rfl : cs18 = [(Value.int .i64 y15)] := he21
    obtain ⟨l24, g25, e⟩ := bind_e e
    replace g25 := Option.some.inj g25
    refine O.elst0 0 rfl g16 ha19 hc20 (by decide) (y' := y1) rfl trivial g25 fun h22 O23 => ?_
    obtain ⟨y26, g27, e⟩ := bind_e e
    refine (O23.os 0 rfl).addr (lset' g25) g27 fun a28 cs29 ha30 hc31 he32 => ?_
    obtain rfl : cs29 = [(Value.int .i64 y26)] := he32
    obtain ⟨l35, g36, e⟩ := bind_e e
    replace g36 := Option.some.inj g36
    refine O23.elst0 0 rfl g27 ha30 hc31 (by decide) (y' := y8) rfl trivial g36 fun h33 O34 => ?_
    have O37 := O34.nm
    exact (ih _ _ e) _ _ _ _ _ _ _ _ (O37.pick [0]).nm ((lset' g25).trans (lset' g36))
theorem sq78.l2_k.all {p : sq78.l2_k.Pt} {r : (Int × Bool × (List Int))} (e : sq78.l2_k.go p = some r) : sq78.l2_k.I p r := fixF_ind (β := fun _ => (Int × Bool × (List Int))) sq78.l2_k.mono (I := sq78.l2_k.I) (fun go ih p r e => match p with
  | .l2 a_0 x_1 x_10 x_11 => sq78.l2_k.step_l2 go ih a_0 x_1 x_10 x_11 r e
  | .l3 a_0 x_1 x_10 x_11 => sq78.l2_k.step_l3 go ih a_0 x_1 x_10 x_11 r e
  | .j7 a_0 x_1 x_10 x_11 => sq78.l2_k.step_j7 go ih a_0 x_1 x_10 x_11 r e
  | .j5 a_0 x_1 x_10 x_11 => sq78.l2_k.step_j5 go ih a_0 x_1 x_10 x_11 r e
  | .l4 a_0 x_1 x_10 x_11 => sq78.l2_k.step_l4 go ih a_0 x_1 x_10 x_11 r e
  | .j8 a_0 x_1 x_10 x_11 => sq78.l2_k.step_j8 go ih a_0 x_1 x_10 x_11 r e
  | .j6 a_0 x_1 x_10 x_11 => sq78.l2_k.step_j6 go ih a_0 x_1 x_10 x_11 r e
  ) e
theorem sq78.l2.walk {W : Nat → Prop} {h0 m0 h m : Heap} {A_0 : Option Addr} {n_0 c_0 : Nat} {a_0 : List Int} {x_1 : Int} {x_10 : Int} {x_11 : Int} (O : Hold W h0 m0 h m [rR (aE (tell_int .i64)) A_0 c_0 a_0]) (ne_0 : n_0 = List.length a_0) {r : Int × Bool × (List Int)} (e : sq78.l2 a_0 x_1 x_10 x_11 = some r) : f78.l2 (sq78.post W A_0 n_0 c_0 h0 m0 r) A_0 n_0 c_0 x_1 x_10 x_11 h := sq78.l2_k.all (p := .l2 a_0 x_1 x_10 x_11) e W h0 m0 h m A_0 n_0 c_0 O ne_0
noncomputable def sq78.j1 (a_0 : List Int) (x_1 : Int) (x_10 : Int) (x_11 : Int) : Option (Int × Bool × (List Int)) :=
  if x_10 > x_11 then (Option.bind (gi a_0 x_1) fun y1 => Option.bind (gi a_0 x_11) fun y8 => Option.bind (gi a_0 x_11) fun y15 => Option.bind (some (List.set a_0 (Int.toNat x_11) y1)) fun l24 => Option.bind (gi l24 x_1) fun y26 => Option.bind (some (List.set l24 (Int.toNat x_1) y8)) fun l35 => some (x_11, true, l35)) else (Option.bind (gi a_0 x_11) fun y38 => Option.bind (gi a_0 x_10) fun y45 => Option.bind (gi a_0 x_10) fun y52 => Option.bind (some (List.set a_0 (Int.toNat x_10) y38)) fun l61 => Option.bind (gi l61 x_11) fun y63 => Option.bind (some (List.set l61 (Int.toNat x_11) y45)) fun l72 => (sq78.l2 l72 x_1 (IntKind.wrap .i64 (x_10 + (1 : Int))) (IntKind.wrap .i64 (x_11 - (1 : Int)))))
set_option maxHeartbeats 4000000 in
set_option maxRecDepth 100000 in
theorem sq78.j1.walk {W : Nat → Prop} {h0 m0 h m : Heap} {A_0 : Option Addr} {n_0 c_0 : Nat} {a_0 : List Int} {x_1 : Int} {x_10 : Int} {x_11 : Int} (O : Hold W h0 m0 h m [rR (aE (tell_int .i64)) A_0 c_0 a_0]) (ne_0 : n_0 = List.length a_0) {r : Int × Bool × (List Int)} (e : sq78.j1 a_0 x_1 x_10 x_11 = some r) : f78.j1 (sq78.post W A_0 n_0 c_0 h0 m0 r) A_0 n_0 c_0 x_1 x_10 x_11 h := by
  unfold sq78.j1 at e
  subst ne_0
  refine f78.j1_in ?_
  unfold f78.j1T
  refine split_dec_e e (fun c75 e => ?_) (fun c75 e => ?_)
  · obtain ⟨y1, g2, e⟩ := bind_e e
    refine (O.os 0 rfl).addr rfl g2 fun a3 cs4 ha5 hc6 he7 => ?_
    obtain rfl : cs4 = [(Value.int .i64 y1)] := he7
    obtain ⟨y8, g9, e⟩ := bind_e e
    refine (O.os 0 rfl).addr rfl g9 fun a10 cs11 ha12 hc13 he14 => ?_
    obtain rfl : cs11 = [(Value.int .i64 y8)] := he14
    refine ⟨_, ld0 (Sub.refl _) hc6 rfl, _, rfl, ?_⟩
    refine ⟨_, ld0 (Sub.refl _) hc13 rfl, _, rfl, ?_⟩
    obtain ⟨y15, g16, e⟩ := bind_e e
    refine (O.os 0 rfl).addr rfl g16 fun a17 cs18 ha19 hc20 he21 => ?_
    obtain rfl : cs18 = [(Value.int .i64 y15)] := he21
    obtain ⟨l24, g25, e⟩ := bind_e e
    replace g25 := Option.some.inj g25
    refine O.elst0 0 rfl g16 ha19 hc20 (by decide) (y' := y1) rfl trivial g25 fun h22 O23 => ?_
    obtain ⟨y26, g27, e⟩ := bind_e e
    refine (O23.os 0 rfl).addr (lset' g25) g27 fun a28 cs29 ha30 hc31 he32 => ?_
    obtain rfl : cs29 = [(Value.int .i64 y26)] := he32
    obtain ⟨l35, g36, e⟩ := bind_e e
    replace g36 := Option.some.inj g36
    refine O23.elst0 0 rfl g27 ha30 hc31 (by decide) (y' := y8) rfl trivial g36 fun h33 O34 => ?_
    have O37 := O34.nm
    cases e
    exact ⟨_, O37.pick [0], rfl, ((lset' g25).trans (lset' g36))⟩
  · obtain ⟨y38, g39, e⟩ := bind_e e
    refine (O.os 0 rfl).addr rfl g39 fun a40 cs41 ha42 hc43 he44 => ?_
    obtain rfl : cs41 = [(Value.int .i64 y38)] := he44
    obtain ⟨y45, g46, e⟩ := bind_e e
    refine (O.os 0 rfl).addr rfl g46 fun a47 cs48 ha49 hc50 he51 => ?_
    obtain rfl : cs48 = [(Value.int .i64 y45)] := he51
    refine ⟨_, ld0 (Sub.refl _) hc43 rfl, _, rfl, ?_⟩
    refine ⟨_, ld0 (Sub.refl _) hc50 rfl, _, rfl, ?_⟩
    obtain ⟨y52, g53, e⟩ := bind_e e
    refine (O.os 0 rfl).addr rfl g53 fun a54 cs55 ha56 hc57 he58 => ?_
    obtain rfl : cs55 = [(Value.int .i64 y52)] := he58
    obtain ⟨l61, g62, e⟩ := bind_e e
    replace g62 := Option.some.inj g62
    refine O.elst0 0 rfl g53 ha56 hc57 (by decide) (y' := y38) rfl trivial g62 fun h59 O60 => ?_
    obtain ⟨y63, g64, e⟩ := bind_e e
    refine (O60.os 0 rfl).addr (lset' g62) g64 fun a65 cs66 ha67 hc68 he69 => ?_
    obtain rfl : cs66 = [(Value.int .i64 y63)] := he69
    obtain ⟨l72, g73, e⟩ := bind_e e
    replace g73 := Option.some.inj g73
    refine O60.elst0 0 rfl g64 ha67 hc68 (by decide) (y' := y45) rfl trivial g73 fun h70 O71 => ?_
    have O74 := O71.nm
    exact sq78.l2.walk (O74.pick [0]).nm ((lset' g62).trans (lset' g73)) e
inductive sq78.l1_k.Pt where
  | l1 (a_0 : List Int) (x_1 : Int) (x_10 : Int) (x_11 : Int)
  | j3 (a_0 : List Int) (x_1 : Int) (x_10 : Int) (x_11 : Int)
noncomputable def sq78.l1_k.body (go : (p : sq78.l1_k.Pt) → Option (Int × Bool × (List Int))) : (p : sq78.l1_k.Pt) → Option (Int × Bool × (List Int))
  | .l1 a_0 x_1 x_10 x_11 => if x_10 ≤ x_11 then (Option.bind (gi a_0 x_11) fun y1 => Option.bind (gi a_0 x_1) fun y8 => Option.bind (cmp_Less_76 y1 y8) fun y15 => if y15 = true then ((sq78.j1 a_0 x_1 x_10 x_11)) else ((go (.j3 a_0 x_1 x_10 x_11)))) else ((sq78.j1 a_0 x_1 x_10 x_11))
  | .j3 a_0 x_1 x_10 x_11 => (go (.l1 a_0 x_1 x_10 (IntKind.wrap .i64 (x_11 - (1 : Int)))))
attribute [local irreducible] cmp_Less_76 in
theorem sq78.l1_k.mono : MonoF (β := fun _ => (Int × Bool × (List Int))) sq78.l1_k.body := fun f g hfg p => match p with
  | .l1 a_0 x_1 x_10 x_11 => LeO.ite (LeO.bind (LeO.refl _) fun y1 => LeO.bind (LeO.refl _) fun y8 => LeO.bind (LeO.refl _) fun y15 => LeO.ite ((LeO.refl _)) ((hfg _))) ((LeO.refl _))
  | .j3 a_0 x_1 x_10 x_11 => (hfg _)
noncomputable def sq78.l1_k.go (p : sq78.l1_k.Pt) : Option (Int × Bool × (List Int)) := fixF (β := fun _ => (Int × Bool × (List Int))) sq78.l1_k.body p
noncomputable def sq78.l1 (a_0 : List Int) (x_1 : Int) (x_10 : Int) (x_11 : Int) : Option (Int × Bool × (List Int)) := sq78.l1_k.go (.l1 a_0 x_1 x_10 x_11)
noncomputable def sq78.j3 (a_0 : List Int) (x_1 : Int) (x_10 : Int) (x_11 : Int) : Option (Int × Bool × (List Int)) := sq78.l1_k.go (.j3 a_0 x_1 x_10 x_11)
theorem sq78.l1_eq (a_0 : List Int) (x_1 : Int) (x_10 : Int) (x_11 : Int) : sq78.l1 a_0 x_1 x_10 x_11 = if x_10 ≤ x_11 then (Option.bind (gi a_0 x_11) fun y1 => Option.bind (gi a_0 x_1) fun y8 => Option.bind (cmp_Less_76 y1 y8) fun y15 => if y15 = true then ((sq78.j1 a_0 x_1 x_10 x_11)) else ((sq78.j3 a_0 x_1 x_10 x_11))) else ((sq78.j1 a_0 x_1 x_10 x_11)) := fixF_eq sq78.l1_k.mono _
theorem sq78.j3_eq (a_0 : List Int) (x_1 : Int) (x_10 : Int) (x_11 : Int) : sq78.j3 a_0 x_1 x_10 x_11 = (sq78.l1 a_0 x_1 x_10 (IntKind.wrap .i64 (x_11 - (1 : Int)))) := fixF_eq sq78.l1_k.mono _
def sq78.l1_k.I : (p : sq78.l1_k.Pt) → (Int × Bool × (List Int)) → Prop
  | .l1 a_0 x_1 x_10 x_11, r => ∀ (W : Nat → Prop) (h0 m0 h m : Heap) (A_0 : Option Addr) (n_0 c_0 : Nat) (O : Hold W h0 m0 h m [rR (aE (tell_int .i64)) A_0 c_0 a_0]) (ne_0 : n_0 = List.length a_0), f78.l1 (sq78.post W A_0 n_0 c_0 h0 m0 r) A_0 n_0 c_0 x_1 x_10 x_11 h
  | .j3 a_0 x_1 x_10 x_11, r => ∀ (W : Nat → Prop) (h0 m0 h m : Heap) (A_0 : Option Addr) (n_0 c_0 : Nat) (O : Hold W h0 m0 h m [rR (aE (tell_int .i64)) A_0 c_0 a_0]) (ne_0 : n_0 = List.length a_0), f78.j3 (sq78.post W A_0 n_0 c_0 h0 m0 r) A_0 n_0 c_0 x_1 x_10 x_11 h
set_option maxRecDepth 100000 in
theorem sq78.l1_k.step_l1 (go : (p : sq78.l1_k.Pt) → Option (Int × Bool × (List Int))) (ih : ∀ p r, go p = some r → sq78.l1_k.I p r) (a_0 : List Int) (x_1 : Int) (x_10 : Int) (x_11 : Int) (r : Int × Bool × (List Int)) (e : sq78.l1_k.body go (.l1 a_0 x_1 x_10 x_11) = some r) : sq78.l1_k.I (.l1 a_0 x_1 x_10 x_11) r := by
  unfold sq78.l1_k.body at e
  intro W h0 m0 h m A_0 n_0 c_0 O ne_0
  subst ne_0
  refine f78.l1_in ?_
  unfold f78.l1T
  refine split_dec_e e (fun c23 e => ?_) (fun c23 e => ?_)
  · obtain ⟨y1, g2, e⟩ := bind_e e
    refine (O.os 0 rfl).addr rfl g2 fun a3 cs4 ha5 hc6 he7 => ?_
    obtain rfl : cs4 = [(Value.int .i64 y1)] := he7
    obtain ⟨y8, g9, e⟩ := bind_e e
    refine (O.os 0 rfl).addr rfl g9 fun a10 cs11 ha12 hc13 he14 => ?_
    obtain rfl : cs11 = [(Value.int .i64 y8)] := he14
    refine ⟨_, ld0 (Sub.refl _) hc6 rfl, _, rfl, ?_⟩
    refine ⟨_, ld0 (Sub.refl _) hc13 rfl, _, rfl, ?_⟩
    obtain ⟨y15, g16, e⟩ := bind_e e
    refine (cmp_Less_76.walk (Hold.start (W := No) O.s)  g16).mono ?_
    rintro _ h17 ⟨m18, Q19, rfl⟩
    have O21 := Hold.nm (O.retC Q19 vfs_nil)
    refine ⟨_, rfl, ?_⟩
    refine split_not ?_
    refine split_any_e e (fun c22 e => ?_) (fun c22 e => ?_)
    · exact sq78.j1.walk (O21.pick [0]).nm rfl e
    · exact (ih _ _ e) _ _ _ _ _ _ _ _ (O21.pick [0]).nm rfl
  · exact sq78.j1.walk (O.pick [0]).nm rfl e
set_option maxRecDepth 100000 in
theorem sq78.l1_k.step_j3 (go : (p : sq78.l1_k.Pt) → Option (Int × Bool × (List Int))) (ih : ∀ p r, go p = some r → sq78.l1_k.I p r) (a_0 : List Int) (x_1 : Int) (x_10 : Int) (x_11 : Int) (r : Int × Bool × (List Int)) (e : sq78.l1_k.body go (.j3 a_0 x_1 x_10 x_11) = some r) : sq78.l1_k.I (.j3 a_0 x_1 x_10 x_11) r := by
  unfold sq78.l1_k.body at e
  intro W h0 m0 h m A_0 n_0 c_0 O ne_0
  subst ne_0
  refine f78.j3_in ?_
  unfold f78.j3T
  exact (ih _ _ e) _ _ _ _ _ _ _ _ (O.pick [0]).nm rfl
theorem sq78.l1_k.all {p : sq78.l1_k.Pt} {r : (Int × Bool × (List Int))} (e : sq78.l1_k.go p = some r) : sq78.l1_k.I p r := fixF_ind (β := fun _ => (Int × Bool × (List Int))) sq78.l1_k.mono (I := sq78.l1_k.I) (fun go ih p r e => match p with
  | .l1 a_0 x_1 x_10 x_11 => sq78.l1_k.step_l1 go ih a_0 x_1 x_10 x_11 r e
  | .j3 a_0 x_1 x_10 x_11 => sq78.l1_k.step_j3 go ih a_0 x_1 x_10 x_11 r e
  ) e
theorem sq78.l1.walk {W : Nat → Prop} {h0 m0 h m : Heap} {A_0 : Option Addr} {n_0 c_0 : Nat} {a_0 : List Int} {x_1 : Int} {x_10 : Int} {x_11 : Int} (O : Hold W h0 m0 h m [rR (aE (tell_int .i64)) A_0 c_0 a_0]) (ne_0 : n_0 = List.length a_0) {r : Int × Bool × (List Int)} (e : sq78.l1 a_0 x_1 x_10 x_11 = some r) : f78.l1 (sq78.post W A_0 n_0 c_0 h0 m0 r) A_0 n_0 c_0 x_1 x_10 x_11 h := sq78.l1_k.all (p := .l1 a_0 x_1 x_10 x_11) e W h0 m0 h m A_0 n_0 c_0 O ne_0
noncomputable def sq78.j0 (a_0 : List Int) (x_1 : Int) (x_10 : Int) (x_11 : Int) : Option (Int × Bool × (List Int)) :=
  (sq78.l1 a_0 x_1 x_10 x_11)
set_option maxRecDepth 100000 in
theorem sq78.j0.walk {W : Nat → Prop} {h0 m0 h m : Heap} {A_0 : Option Addr} {n_0 c_0 : Nat} {a_0 : List Int} {x_1 : Int} {x_10 : Int} {x_11 : Int} (O : Hold W h0 m0 h m [rR (aE (tell_int .i64)) A_0 c_0 a_0]) (ne_0 : n_0 = List.length a_0) {r : Int × Bool × (List Int)} (e : sq78.j0 a_0 x_1 x_10 x_11 = some r) : f78.j0 (sq78.post W A_0 n_0 c_0 h0 m0 r) A_0 n_0 c_0 x_1 x_10 x_11 h := by
  unfold sq78.j0 at e
  subst ne_0
  refine f78.j0_in ?_
  unfold f78.j0T
  exact sq78.l1.walk (O.pick [0]).nm rfl e
inductive sq78.l0_k.Pt where
  | l0 (a_0 : List Int) (x_1 : Int) (x_10 : Int) (x_11 : Int)
  | j2 (a_0 : List Int) (x_1 : Int) (x_10 : Int) (x_11 : Int)
noncomputable def sq78.l0_k.body (go : (p : sq78.l0_k.Pt) → Option (Int × Bool × (List Int))) : (p : sq78.l0_k.Pt) → Option (Int × Bool × (List Int))
  | .l0 a_0 x_1 x_10 x_11 => if x_10 ≤ x_11 then (Option.bind (gi a_0 x_10) fun y1 => Option.bind (gi a_0 x_1) fun y8 => Option.bind (cmp_Less_76 y1 y8) fun y15 => if y15 = true then ((go (.j2 a_0 x_1 x_10 x_11))) else ((sq78.j0 a_0 x_1 x_10 x_11))) else ((sq78.j0 a_0 x_1 x_10 x_11))
  | .j2 a_0 x_1 x_10 x_11 => (go (.l0 a_0 x_1 (IntKind.wrap .i64 (x_10 + (1 : Int))) x_11))
attribute [local irreducible] cmp_Less_76 in
theorem sq78.l0_k.mono : MonoF (β := fun _ => (Int × Bool × (List Int))) sq78.l0_k.body := fun f g hfg p => match p with
  | .l0 a_0 x_1 x_10 x_11 => LeO.ite (LeO.bind (LeO.refl _) fun y1 => LeO.bind (LeO.refl _) fun y8 => LeO.bind (LeO.refl _) fun y15 => LeO.ite ((hfg _)) ((LeO.refl _))) ((LeO.refl _))
  | .j2 a_0 x_1 x_10 x_11 => (hfg _)
noncomputable def sq78.l0_k.go (p : sq78.l0_k.Pt) : Option (Int × Bool × (List Int)) := fixF (β := fun _ => (Int × Bool × (List Int))) sq78.l0_k.body p
noncomputable def sq78.l0 (a_0 : List Int) (x_1 : Int) (x_10 : Int) (x_11 : Int) : Option (Int × Bool × (List Int)) := sq78.l0_k.go (.l0 a_0 x_1 x_10 x_11)
noncomputable def sq78.j2 (a_0 : List Int) (x_1 : Int) (x_10 : Int) (x_11 : Int) : Option (Int × Bool × (List Int)) := sq78.l0_k.go (.j2 a_0 x_1 x_10 x_11)
theorem sq78.l0_eq (a_0 : List Int) (x_1 : Int) (x_10 : Int) (x_11 : Int) : sq78.l0 a_0 x_1 x_10 x_11 = if x_10 ≤ x_11 then (Option.bind (gi a_0 x_10) fun y1 => Option.bind (gi a_0 x_1) fun y8 => Option.bind (cmp_Less_76 y1 y8) fun y15 => if y15 = true then ((sq78.j2 a_0 x_1 x_10 x_11)) else ((sq78.j0 a_0 x_1 x_10 x_11))) else ((sq78.j0 a_0 x_1 x_10 x_11)) := fixF_eq sq78.l0_k.mono _
theorem sq78.j2_eq (a_0 : List Int) (x_1 : Int) (x_10 : Int) (x_11 : Int) : sq78.j2 a_0 x_1 x_10 x_11 = (sq78.l0 a_0 x_1 (IntKind.wrap .i64 (x_10 + (1 : Int))) x_11) := fixF_eq sq78.l0_k.mono _
def sq78.l0_k.I : (p : sq78.l0_k.Pt) → (Int × Bool × (List Int)) → Prop
  | .l0 a_0 x_1 x_10 x_11, r => ∀ (W : Nat → Prop) (h0 m0 h m : Heap) (A_0 : Option Addr) (n_0 c_0 : Nat) (O : Hold W h0 m0 h m [rR (aE (tell_int .i64)) A_0 c_0 a_0]) (ne_0 : n_0 = List.length a_0), f78.l0 (sq78.post W A_0 n_0 c_0 h0 m0 r) A_0 n_0 c_0 x_1 x_10 x_11 h
  | .j2 a_0 x_1 x_10 x_11, r => ∀ (W : Nat → Prop) (h0 m0 h m : Heap) (A_0 : Option Addr) (n_0 c_0 : Nat) (O : Hold W h0 m0 h m [rR (aE (tell_int .i64)) A_0 c_0 a_0]) (ne_0 : n_0 = List.length a_0), f78.j2 (sq78.post W A_0 n_0 c_0 h0 m0 r) A_0 n_0 c_0 x_1 x_10 x_11 h
set_option maxRecDepth 100000 in
theorem sq78.l0_k.step_l0 (go : (p : sq78.l0_k.Pt) → Option (Int × Bool × (List Int))) (ih : ∀ p r, go p = some r → sq78.l0_k.I p r) (a_0 : List Int) (x_1 : Int) (x_10 : Int) (x_11 : Int) (r : Int × Bool × (List Int)) (e : sq78.l0_k.body go (.l0 a_0 x_1 x_10 x_11) = some r) : sq78.l0_k.I (.l0 a_0 x_1 x_10 x_11) r := by
  unfold sq78.l0_k.body at e
  intro W h0 m0 h m A_0 n_0 c_0 O ne_0
  subst ne_0
  refine f78.l0_in ?_
  unfold f78.l0T
  refine split_dec_e e (fun c23 e => ?_) (fun c23 e => ?_)
  · obtain ⟨y1, g2, e⟩ := bind_e e
    refine (O.os 0 rfl).addr rfl g2 fun a3 cs4 ha5 hc6 he7 => ?_
    obtain rfl : cs4 = [(Value.int .i64 y1)] := he7
    obtain ⟨y8, g9, e⟩ := bind_e e
    refine (O.os 0 rfl).addr rfl g9 fun a10 cs11 ha12 hc13 he14 => ?_
    obtain rfl : cs11 = [(Value.int .i64 y8)] := he14
    refine ⟨_, ld0 (Sub.refl _) hc6 rfl, _, rfl, ?_⟩
    refine ⟨_, ld0 (Sub.refl _) hc13 rfl, _, rfl, ?_⟩
    obtain ⟨y15, g16, e⟩ := bind_e e
    refine (cmp_Less_76.walk (Hold.start (W := No) O.s)  g16).mono ?_
    rintro _ h17 ⟨m18, Q19, rfl⟩
    have O21 := Hold.nm (O.retC Q19 vfs_nil)
    refine ⟨_, rfl, ?_⟩
    refine split_any_e e (fun c22 e => ?_) (fun c22 e => ?_)
    · exact (ih _ _ e) _ _ _ _ _ _ _ _ (O21.pick [0]).nm rfl
    · exact sq78.j0.walk (O21.pick [0]).nm rfl e
  · exact sq78.j0.walk (O.pick [0]).nm rfl e
set_option maxRecDepth 100000 in
theorem sq78.l0_k.step_j2 (go : (p : sq78.l0_k.Pt) → Option (Int × Bool × (List Int))) (ih : ∀ p r, go p = some r → sq78.l0_k.I p r) (a_0 : List Int) (x_1 : Int) (x_10 : Int) (x_11 : Int) (r : Int × Bool × (List Int)) (e : sq78.l0_k.body go (.j2 a_0 x_1 x_10 x_11) = some r) : sq78.l0_k.I (.j2 a_0 x_1 x_10 x_11) r := by
  unfold sq78.l0_k.body at e
  intro W h0 m0 h m A_0 n_0 c_0 O ne_0
  subst ne_0
  refine f78.j2_in ?_
  unfold f78.j2T
  exact (ih _ _ e) _ _ _ _ _ _ _ _ (O.pick [0]).nm rfl
theorem sq78.l0_k.all {p : sq78.l0_k.Pt} {r : (Int × Bool × (List Int))} (e : sq78.l0_k.go p = some r) : sq78.l0_k.I p r := fixF_ind (β := fun _ => (Int × Bool × (List Int))) sq78.l0_k.mono (I := sq78.l0_k.I) (fun go ih p r e => match p with
  | .l0 a_0 x_1 x_10 x_11 => sq78.l0_k.step_l0 go ih a_0 x_1 x_10 x_11 r e
  | .j2 a_0 x_1 x_10 x_11 => sq78.l0_k.step_j2 go ih a_0 x_1 x_10 x_11 r e
  ) e
theorem sq78.l0.walk {W : Nat → Prop} {h0 m0 h m : Heap} {A_0 : Option Addr} {n_0 c_0 : Nat} {a_0 : List Int} {x_1 : Int} {x_10 : Int} {x_11 : Int} (O : Hold W h0 m0 h m [rR (aE (tell_int .i64)) A_0 c_0 a_0]) (ne_0 : n_0 = List.length a_0) {r : Int × Bool × (List Int)} (e : sq78.l0 a_0 x_1 x_10 x_11 = some r) : f78.l0 (sq78.post W A_0 n_0 c_0 h0 m0 r) A_0 n_0 c_0 x_1 x_10 x_11 h := sq78.l0_k.all (p := .l0 a_0 x_1 x_10 x_11) e W h0 m0 h m A_0 n_0 c_0 O ne_0
noncomputable def sq78 (a_0 : List Int) (x_1 : Int) (x_2 : Int) (x_3 : Int) : Option (Int × Bool × (List Int)) :=
  Option.bind (gi a_0 x_3) fun y1 => Option.bind (gi a_0 x_1) fun y8 => Option.bind (gi a_0 x_1) fun y15 => Option.bind (some (List.set a_0 (Int.toNat x_1) y1)) fun l24 => Option.bind (gi l24 x_3) fun y26 => Option.bind (some (List.set l24 (Int.toNat x_3) y8)) fun l35 => (sq78.l0 l35 x_1 (IntKind.wrap .i64 (x_1 + (1 : Int))) (IntKind.wrap .i64 (x_2 - (1 : Int))))
set_option maxRecDepth 100000 in
theorem sq78.walk {W : Nat → Prop} {h m : Heap} {A_0 : Option Addr} {n_0 c_0 : Nat} {a_0 : List Int} {x_1 : Int} {x_2 : Int} {x_3 : Int} (O : Hold W h m h m [rR (aE (tell_int .i64)) A_0 c_0 a_0]) (ne_0 : n_0 = List.length a_0) {r : Int × Bool × (List Int)} (e : sq78 a_0 x_1 x_2 x_3 = some r) : Run Try.prog 78 #[Value.slice A_0 n_0 c_0, Value.int .i64 x_1, Value.int .i64 x_2, Value.int .i64 x_3] h (sq78.post W A_0 n_0 c_0 h m r) := by
  unfold sq78 at e
  subst ne_0
  refine f78.run ?_
  unfold f78.runT
  obtain ⟨y1, g2, e⟩ := bind_e e
  refine (O.os 0 rfl).addr rfl g2 fun a3 cs4 ha5 hc6 he7 => ?_
  obtain rfl : cs4 = [(Value.int .i64 y1)] := he7
  obtain ⟨y8, g9, e⟩ := bind_e e
  refine (O.os 0 rfl).addr rfl g9 fun a10 cs11 ha12 hc13 he14 => ?_
  obtain rfl : cs11 = [(Value.int .i64 y8)] := he14
  refine ⟨_, ld0 (Sub.refl _) hc6 rfl, _, rfl, ?_⟩
  refine ⟨_, ld0 (Sub.refl _) hc13 rfl, _, rfl, ?_⟩
  obtain ⟨y15, g16, e⟩ := bind_e e
  refine (O.os 0 rfl).addr rfl g16 fun a17 cs18 ha19 hc20 he21 => ?_
  obtain rfl : cs18 = [(Value.int .i64 y15)] := he21
  obtain ⟨l24, g25, e⟩ := bind_e e
  replace g25 := Option.some.inj g25
  refine O.elst0 0 rfl g16 ha19 hc20 (by decide) (y' := y1) rfl trivial g25 fun h22 O23 => ?_
  obtain ⟨y26, g27, e⟩ := bind_e e
  refine (O23.os 0 rfl).addr (lset' g25) g27 fun a28 cs29 ha30 hc31 he32 => ?_
  obtain rfl : cs29 = [(Value.int .i64 y26)] := he32
  obtain ⟨l35, g36, e⟩ := bind_e e
  replace g36 := Option.some.inj g36
  refine O23.elst0 0 rfl g27 ha30 hc31 (by decide) (y' := y8) rfl trivial g36 fun h33 O34 => ?_
  have O37 := O34.nm
  exact sq78.l0.walk (O37.pick [0]).nm ((lset' g25).trans (lset' g36)) e
def sq47.post (W : Nat → Prop) (Asl0 : Option Addr) (nsl0 csl0 : Nat) (h0 m0 : Heap) (r : (List Int)) (v : Value) (h : Heap) : Prop := ∃ m , Hold W h0 m0 h m [rR (aE (tell_int .i64)) Asl0 csl0 r] ∧ v = .tuple #[] ∧ nsl0 = List.length r
inductive sq47_k.Pt where
  | f (a_0 : List Int) (x_1 : Int) (x_2 : Int) (x_3 : Int)
  | l0 (a_0 : List Int) (x_1 : Int) (x_2 : Int) (x_3 : Int) (b_8 : Bool) (b_9 : Bool)
  | j0 (a_0 : List Int) (x_1 : Int) (x_2 : Int) (x_3 : Int) (b_8 : Bool) (b_9 : Bool) (x_10 : Int)
  | j1 (a_0 : List Int) (x_1 : Int) (x_2 : Int) (x_3 : Int) (b_8 : Bool) (b_9 : Bool) (x_10 : Int) (x_11 : Int) (x_12 : Int)
  | j3 (a_0 : List Int) (x_1 : Int) (x_2 : Int) (x_3 : Int) (b_8 : Bool) (b_9 : Bool) (x_10 : Int) (x_11 : Int) (b_68 : Bool)
  | j2 (a_0 : List Int) (x_1 : Int) (x_2 : Int) (x_3 : Int) (b_8 : Bool) (b_9 : Bool) (x_10 : Int) (x_11 : Int)
  | j5 (a_0 : List Int) (x_1 : Int) (x_2 : Int) (x_3 : Int) (b_8 : Bool) (b_9 : Bool) (x_10 : Int) (x_11 : Int) (b_87 : Bool)
  | j4 (a_0 : List Int) (x_1 : Int) (x_2 : Int) (x_3 : Int) (x_10 : Int) (x_11 : Int)
noncomputable def sq47_k.body (go : (p : sq47_k.Pt) → Option ((List Int))) : (p : sq47_k.Pt) → Option ((List Int))
  | .f a_0 x_1 x_2 x_3 => (go (.l0 a_0 x_1 x_2 x_3 true true))
  | .l0 a_0 x_1 x_2 x_3 b_8 b_9 => if (IntKind.wrap .i64 (x_2 - x_1)) ≤ (12 : Int) then (Option.bind (sq70 a_0 x_1 x_2) fun y1 => some (y1)) else (if x_3 = (0 : Int) then (Option.bind (sq71 a_0 x_1 x_2) fun y13 => some (y13)) else (if b_8 = true then ((go (.j0 a_0 x_1 x_2 x_3 b_8 b_9 (IntKind.wrap .i64 (x_2 - x_1))))) else (Option.bind (sq72 a_0 x_1 x_2) fun y25 => (go (.j0 y25 x_1 x_2 (IntKind.wrap .i64 (x_3 - (1 : Int))) b_8 b_9 (IntKind.wrap .i64 (x_2 - x_1)))))))
  | .j0 a_0 x_1 x_2 x_3 b_8 b_9 x_10 => Option.bind (sq73 a_0 x_1 x_2) fun y1 => if y1.2 = (2 : Int) then (Option.bind (sq74 a_0 x_1 x_2) fun y15 => (go (.j1 y15 x_1 x_2 x_3 b_8 b_9 x_10 (IntKind.wrap .i64 ((IntKind.wrap .i64 (x_2 - (1 : Int))) - (IntKind.wrap .i64 (y1.1 - x_1)))) (1 : Int)))) else ((go (.j1 a_0 x_1 x_2 x_3 b_8 b_9 x_10 y1.1 y1.2)))
  | .j1 a_0 x_1 x_2 x_3 b_8 b_9 x_10 x_11 x_12 => if b_8 = true then (if b_9 = true then ((go (.j3 a_0 x_1 x_2 x_3 b_8 b_9 x_10 x_11 (x_12 == (1 : Int))))) else ((go (.j3 a_0 x_1 x_2 x_3 b_8 b_9 x_10 x_11 false)))) else ((go (.j3 a_0 x_1 x_2 x_3 b_8 b_9 x_10 x_11 false)))
  | .j3 a_0 x_1 x_2 x_3 b_8 b_9 x_10 x_11 b_68 => if b_68 = true then (Option.bind (sq75 a_0 x_1 x_2) fun y1 => if y1.1 = true then (some (y1.2)) else ((go (.j2 y1.2 x_1 x_2 x_3 b_8 b_9 x_10 x_11)))) else ((go (.j2 a_0 x_1 x_2 x_3 b_8 b_9 x_10 x_11)))
  | .j2 a_0 x_1 x_2 x_3 b_8 b_9 x_10 x_11 => if x_1 > (0 : Int) then (Option.bind (gi a_0 (IntKind.wrap .i64 (x_1 - (1 : Int)))) fun y1 => Option.bind (gi a_0 x_11) fun y8 => Option.bind (cmp_Less_76 y1 y8) fun y15 => (go (.j5 a_0 x_1 x_2 x_3 b_8 b_9 x_10 x_11 (!y15)))) else ((go (.j5 a_0 x_1 x_2 x_3 b_8 b_9 x_10 x_11 false)))
  | .j5 a_0 x_1 x_2 x_3 b_8 b_9 x_10 x_11 b_87 => if b_87 = true then (Option.bind (sq77 a_0 x_1 x_2 x_11) fun y1 => (go (.l0 y1.2 y1.1 x_2 x_3 b_8 b_9))) else ((go (.j4 a_0 x_1 x_2 x_3 x_10 x_11)))
  | .j4 a_0 x_1 x_2 x_3 x_10 x_11 => Option.bind (sq78 a_0 x_1 x_2 x_11) fun y1 => if (IntKind.wrap .i64 (y1.1 - x_1)) < (IntKind.wrap .i64 (x_2 - y1.1)) then (Option.bind ((go (.f y1.2.2 x_1 y1.1 x_3))) fun y13 => (go (.l0 y13 (IntKind.wrap .i64 (y1.1 + (1 : Int))) x_2 x_3 (decide ((IntKind.wrap .i64 (y1.1 - x_1)) ≥ (IntKind.wrap .i64 (Int.tdiv x_10 (8 : Int))))) y1.2.1))) else (Option.bind ((go (.f y1.2.2 (IntKind.wrap .i64 (y1.1 + (1 : Int))) x_2 x_3))) fun y25 => (go (.l0 y25 x_1 y1.1 x_3 (decide ((IntKind.wrap .i64 (x_2 - y1.1)) ≥ (IntKind.wrap .i64 (Int.tdiv x_10 (8 : Int))))) y1.2.1)))
attribute [local irreducible] cmp_Less_76 in
theorem sq47_k.mono : MonoF (β := fun _ => ((List Int))) sq47_k.body := fun f g hfg p => match p with
  | .f a_0 x_1 x_2 x_3 => (hfg _)
  | .l0 a_0 x_1 x_2 x_3 b_8 b_9 => LeO.ite (LeO.bind (LeO.refl _) fun y1 => LeO.refl _) (LeO.ite (LeO.bind (LeO.refl _) fun y13 => LeO.refl _) (LeO.ite ((hfg _)) (LeO.bind (LeO.refl _) fun y25 => (hfg _))))
  | .j0 a_0 x_1 x_2 x_3 b_8 b_9 x_10 => LeO.bind (LeO.refl _) fun y1 => LeO.ite (LeO.bind (LeO.refl _) fun y15 => (hfg _)) ((hfg _))
  | .j1 a_0 x_1 x_2 x_3 b_8 b_9 x_10 x_11 x_12 => LeO.ite (LeO.ite ((hfg _)) ((hfg _))) ((hfg _))
  | .j3 a_0 x_1 x_2 x_3 b_8 b_9 x_10 x_11 b_68 => LeO.ite (LeO.bind (LeO.refl _) fun y1 => LeO.ite (LeO.refl _) ((hfg _))) ((hfg _))
  | .j2 a_0 x_1 x_2 x_3 b_8 b_9 x_10 x_11 => LeO.ite (LeO.bind (LeO.refl _) fun y1 => LeO.bind (LeO.refl _) fun y8 => LeO.bind (LeO.refl _) fun y15 => (hfg _)) ((hfg _))
  | .j5 a_0 x_1 x_2 x_3 b_8 b_9 x_10 x_11 b_87 => LeO.ite (LeO.bind (LeO.refl _) fun y1 => (hfg _)) ((hfg _))
  | .j4 a_0 x_1 x_2 x_3 x_10 x_11 => LeO.bind (LeO.refl _) fun y1 => LeO.ite (LeO.bind ((hfg _)) fun y13 => (hfg _)) (LeO.bind ((hfg _)) fun y25 => (hfg _))
noncomputable def sq47_k.go (p : sq47_k.Pt) : Option ((List Int)) := fixF (β := fun _ => ((List Int))) sq47_k.body p
noncomputable def sq47 (a_0 : List Int) (x_1 : Int) (x_2 : Int) (x_3 : Int) : Option ((List Int)) := sq47_k.go (.f a_0 x_1 x_2 x_3)
noncomputable def sq47.l0 (a_0 : List Int) (x_1 : Int) (x_2 : Int) (x_3 : Int) (b_8 : Bool) (b_9 : Bool) : Option ((List Int)) := sq47_k.go (.l0 a_0 x_1 x_2 x_3 b_8 b_9)
noncomputable def sq47.j0 (a_0 : List Int) (x_1 : Int) (x_2 : Int) (x_3 : Int) (b_8 : Bool) (b_9 : Bool) (x_10 : Int) : Option ((List Int)) := sq47_k.go (.j0 a_0 x_1 x_2 x_3 b_8 b_9 x_10)
noncomputable def sq47.j1 (a_0 : List Int) (x_1 : Int) (x_2 : Int) (x_3 : Int) (b_8 : Bool) (b_9 : Bool) (x_10 : Int) (x_11 : Int) (x_12 : Int) : Option ((List Int)) := sq47_k.go (.j1 a_0 x_1 x_2 x_3 b_8 b_9 x_10 x_11 x_12)
noncomputable def sq47.j3 (a_0 : List Int) (x_1 : Int) (x_2 : Int) (x_3 : Int) (b_8 : Bool) (b_9 : Bool) (x_10 : Int) (x_11 : Int) (b_68 : Bool) : Option ((List Int)) := sq47_k.go (.j3 a_0 x_1 x_2 x_3 b_8 b_9 x_10 x_11 b_68)
noncomputable def sq47.j2 (a_0 : List Int) (x_1 : Int) (x_2 : Int) (x_3 : Int) (b_8 : Bool) (b_9 : Bool) (x_10 : Int) (x_11 : Int) : Option ((List Int)) := sq47_k.go (.j2 a_0 x_1 x_2 x_3 b_8 b_9 x_10 x_11)
noncomputable def sq47.j5 (a_0 : List Int) (x_1 : Int) (x_2 : Int) (x_3 : Int) (b_8 : Bool) (b_9 : Bool) (x_10 : Int) (x_11 : Int) (b_87 : Bool) : Option ((List Int)) := sq47_k.go (.j5 a_0 x_1 x_2 x_3 b_8 b_9 x_10 x_11 b_87)
noncomputable def sq47.j4 (a_0 : List Int) (x_1 : Int) (x_2 : Int) (x_3 : Int) (x_10 : Int) (x_11 : Int) : Option ((List Int)) := sq47_k.go (.j4 a_0 x_1 x_2 x_3 x_10 x_11)
theorem sq47_eq (a_0 : List Int) (x_1 : Int) (x_2 : Int) (x_3 : Int) : sq47 a_0 x_1 x_2 x_3 = (sq47.l0 a_0 x_1 x_2 x_3 true true) := fixF_eq sq47_k.mono _
theorem sq47.l0_eq (a_0 : List Int) (x_1 : Int) (x_2 : Int) (x_3 : Int) (b_8 : Bool) (b_9 : Bool) : sq47.l0 a_0 x_1 x_2 x_3 b_8 b_9 = if (IntKind.wrap .i64 (x_2 - x_1)) ≤ (12 : Int) then (Option.bind (sq70 a_0 x_1 x_2) fun y1 => some (y1)) else (if x_3 = (0 : Int) then (Option.bind (sq71 a_0 x_1 x_2) fun y13 => some (y13)) else (if b_8 = true then ((sq47.j0 a_0 x_1 x_2 x_3 b_8 b_9 (IntKind.wrap .i64 (x_2 - x_1)))) else (Option.bind (sq72 a_0 x_1 x_2) fun y25 => (sq47.j0 y25 x_1 x_2 (IntKind.wrap .i64 (x_3 - (1 : Int))) b_8 b_9 (IntKind.wrap .i64 (x_2 - x_1)))))) := fixF_eq sq47_k.mono _
theorem sq47.j0_eq (a_0 : List Int) (x_1 : Int) (x_2 : Int) (x_3 : Int) (b_8 : Bool) (b_9 : Bool) (x_10 : Int) : sq47.j0 a_0 x_1 x_2 x_3 b_8 b_9 x_10 = Option.bind (sq73 a_0 x_1 x_2) fun y1 => if y1.2 = (2 : Int) then (Option.bind (sq74 a_0 x_1 x_2) fun y15 => (sq47.j1 y15 x_1 x_2 x_3 b_8 b_9 x_10 (IntKind.wrap .i64 ((IntKind.wrap .i64 (x_2 - (1 : Int))) - (IntKind.wrap .i64 (y1.1 - x_1)))) (1 : Int))) else ((sq47.j1 a_0 x_1 x_2 x_3 b_8 b_9 x_10 y1.1 y1.2)) := fixF_eq sq47_k.mono _
theorem sq47.j1_eq (a_0 : List Int) (x_1 : Int) (x_2 : Int) (x_3 : Int) (b_8 : Bool) (b_9 : Bool) (x_10 : Int) (x_11 : Int) (x_12 : Int) : sq47.j1 a_0 x_1 x_2 x_3 b_8 b_9 x_10 x_11 x_12 = if b_8 = true then (if b_9 = true then ((sq47.j3 a_0 x_1 x_2 x_3 b_8 b_9 x_10 x_11 (x_12 == (1 : Int)))) else ((sq47.j3 a_0 x_1 x_2 x_3 b_8 b_9 x_10 x_11 false))) else ((sq47.j3 a_0 x_1 x_2 x_3 b_8 b_9 x_10 x_11 false)) := fixF_eq sq47_k.mono _
theorem sq47.j3_eq (a_0 : List Int) (x_1 : Int) (x_2 : Int) (x_3 : Int) (b_8 : Bool) (b_9 : Bool) (x_10 : Int) (x_11 : Int) (b_68 : Bool) : sq47.j3 a_0 x_1 x_2 x_3 b_8 b_9 x_10 x_11 b_68 = if b_68 = true then (Option.bind (sq75 a_0 x_1 x_2) fun y1 => if y1.1 = true then (some (y1.2)) else ((sq47.j2 y1.2 x_1 x_2 x_3 b_8 b_9 x_10 x_11))) else ((sq47.j2 a_0 x_1 x_2 x_3 b_8 b_9 x_10 x_11)) := fixF_eq sq47_k.mono _
theorem sq47.j2_eq (a_0 : List Int) (x_1 : Int) (x_2 : Int) (x_3 : Int) (b_8 : Bool) (b_9 : Bool) (x_10 : Int) (x_11 : Int) : sq47.j2 a_0 x_1 x_2 x_3 b_8 b_9 x_10 x_11 = if x_1 > (0 : Int) then (Option.bind (gi a_0 (IntKind.wrap .i64 (x_1 - (1 : Int)))) fun y1 => Option.bind (gi a_0 x_11) fun y8 => Option.bind (cmp_Less_76 y1 y8) fun y15 => (sq47.j5 a_0 x_1 x_2 x_3 b_8 b_9 x_10 x_11 (!y15))) else ((sq47.j5 a_0 x_1 x_2 x_3 b_8 b_9 x_10 x_11 false)) := fixF_eq sq47_k.mono _
theorem sq47.j5_eq (a_0 : List Int) (x_1 : Int) (x_2 : Int) (x_3 : Int) (b_8 : Bool) (b_9 : Bool) (x_10 : Int) (x_11 : Int) (b_87 : Bool) : sq47.j5 a_0 x_1 x_2 x_3 b_8 b_9 x_10 x_11 b_87 = if b_87 = true then (Option.bind (sq77 a_0 x_1 x_2 x_11) fun y1 => (sq47.l0 y1.2 y1.1 x_2 x_3 b_8 b_9)) else ((sq47.j4 a_0 x_1 x_2 x_3 x_10 x_11)) := fixF_eq sq47_k.mono _
theorem sq47.j4_eq (a_0 : List Int) (x_1 : Int) (x_2 : Int) (x_3 : Int) (x_10 : Int) (x_11 : Int) : sq47.j4 a_0 x_1 x_2 x_3 x_10 x_11 = Option.bind (sq78 a_0 x_1 x_2 x_11) fun y1 => if (IntKind.wrap .i64 (y1.1 - x_1)) < (IntKind.wrap .i64 (x_2 - y1.1)) then (Option.bind ((sq47 y1.2.2 x_1 y1.1 x_3)) fun y13 => (sq47.l0 y13 (IntKind.wrap .i64 (y1.1 + (1 : Int))) x_2 x_3 (decide ((IntKind.wrap .i64 (y1.1 - x_1)) ≥ (IntKind.wrap .i64 (Int.tdiv x_10 (8 : Int))))) y1.2.1)) else (Option.bind ((sq47 y1.2.2 (IntKind.wrap .i64 (y1.1 + (1 : Int))) x_2 x_3)) fun y25 => (sq47.l0 y25 x_1 y1.1 x_3 (decide ((IntKind.wrap .i64 (x_2 - y1.1)) ≥ (IntKind.wrap .i64 (Int.tdiv x_10 (8 : Int))))) y1.2.1)) := fixF_eq sq47_k.mono _
def sq47_k.I : (p : sq47_k.Pt) → ((List Int)) → Prop
  | .f a_0 x_1 x_2 x_3, r => ∀ (W : Nat → Prop) (h m : Heap) (A_0 : Option Addr) (n_0 c_0 : Nat) (O : Hold W h m h m [rR (aE (tell_int .i64)) A_0 c_0 a_0]) (ne_0 : n_0 = List.length a_0), Run Try.prog 47 #[Value.slice A_0 n_0 c_0, Value.int .i64 x_1, Value.int .i64 x_2, Value.int .i64 x_3] h (sq47.post W A_0 n_0 c_0 h m r)
  | .l0 a_0 x_1 x_2 x_3 b_8 b_9, r => ∀ (W : Nat → Prop) (h0 m0 h m : Heap) (A_0 : Option Addr) (n_0 c_0 : Nat) (O : Hold W h0 m0 h m [rR (aE (tell_int .i64)) A_0 c_0 a_0]) (ne_0 : n_0 = List.length a_0), f47.l0 (sq47.post W A_0 n_0 c_0 h0 m0 r) A_0 n_0 c_0 x_1 x_2 x_3 b_8 b_9 h
  | .j0 a_0 x_1 x_2 x_3 b_8 b_9 x_10, r => ∀ (W : Nat → Prop) (h0 m0 h m : Heap) (A_0 : Option Addr) (n_0 c_0 : Nat) (O : Hold W h0 m0 h m [rR (aE (tell_int .i64)) A_0 c_0 a_0]) (ne_0 : n_0 = List.length a_0), f47.j0 (sq47.post W A_0 n_0 c_0 h0 m0 r) A_0 n_0 c_0 x_1 x_2 x_3 b_8 b_9 x_10 h
  | .j1 a_0 x_1 x_2 x_3 b_8 b_9 x_10 x_11 x_12, r => ∀ (W : Nat → Prop) (h0 m0 h m : Heap) (A_0 : Option Addr) (n_0 c_0 : Nat) (O : Hold W h0 m0 h m [rR (aE (tell_int .i64)) A_0 c_0 a_0]) (ne_0 : n_0 = List.length a_0), f47.j1 (sq47.post W A_0 n_0 c_0 h0 m0 r) A_0 n_0 c_0 x_1 x_2 x_3 b_8 b_9 x_10 x_11 x_12 h
  | .j3 a_0 x_1 x_2 x_3 b_8 b_9 x_10 x_11 b_68, r => ∀ (W : Nat → Prop) (h0 m0 h m : Heap) (A_0 : Option Addr) (n_0 c_0 : Nat) (O : Hold W h0 m0 h m [rR (aE (tell_int .i64)) A_0 c_0 a_0]) (ne_0 : n_0 = List.length a_0), f47.j3 (sq47.post W A_0 n_0 c_0 h0 m0 r) A_0 n_0 c_0 x_1 x_2 x_3 b_8 b_9 x_10 x_11 b_68 h
  | .j2 a_0 x_1 x_2 x_3 b_8 b_9 x_10 x_11, r => ∀ (W : Nat → Prop) (h0 m0 h m : Heap) (A_0 : Option Addr) (n_0 c_0 : Nat) (O : Hold W h0 m0 h m [rR (aE (tell_int .i64)) A_0 c_0 a_0]) (ne_0 : n_0 = List.length a_0), f47.j2 (sq47.post W A_0 n_0 c_0 h0 m0 r) A_0 n_0 c_0 x_1 x_2 x_3 b_8 b_9 x_10 x_11 h
  | .j5 a_0 x_1 x_2 x_3 b_8 b_9 x_10 x_11 b_87, r => ∀ (W : Nat → Prop) (h0 m0 h m : Heap) (A_0 : Option Addr) (n_0 c_0 : Nat) (O : Hold W h0 m0 h m [rR (aE (tell_int .i64)) A_0 c_0 a_0]) (ne_0 : n_0 = List.length a_0), f47.j5 (sq47.post W A_0 n_0 c_0 h0 m0 r) A_0 n_0 c_0 x_1 x_2 x_3 b_8 b_9 x_10 x_11 b_87 h
  | .j4 a_0 x_1 x_2 x_3 x_10 x_11, r => ∀ (W : Nat → Prop) (h0 m0 h m : Heap) (A_0 : Option Addr) (n_0 c_0 : Nat) (O : Hold W h0 m0 h m [rR (aE (tell_int .i64)) A_0 c_0 a_0]) (ne_0 : n_0 = List.length a_0), f47.j4 (sq47.post W A_0 n_0 c_0 h0 m0 r) A_0 n_0 c_0 x_1 x_2 x_3 x_10 x_11 h
set_option maxRecDepth 100000 in
theorem sq47_k.step_f (go : (p : sq47_k.Pt) → Option ((List Int))) (ih : ∀ p r, go p = some r → sq47_k.I p r) (a_0 : List Int) (x_1 : Int) (x_2 : Int) (x_3 : Int) (r : (List Int)) (e : sq47_k.body go (.f a_0 x_1 x_2 x_3) = some r) : sq47_k.I (.f a_0 x_1 x_2 x_3) r := by
  unfold sq47_k.body at e
  intro W h m A_0 n_0 c_0 O ne_0
  subst ne_0
  refine f47.run ?_
  unfold f47.runT
  exact (ih _ _ e) _ _ _ _ _ _ _ _ (O.pick [0]).nm rfl
set_option maxRecDepth 100000 in
theorem sq47_k.step_l0 (go : (p : sq47_k.Pt) → Option ((List Int))) (ih : ∀ p r, go p = some r → sq47_k.I p r) (a_0 : List Int) (x_1 : Int) (x_2 : Int) (x_3 : Int) (b_8 : Bool) (b_9 : Bool) (r : (List Int)) (e : sq47_k.body go (.l0 a_0 x_1 x_2 x_3 b_8 b_9) = some r) : sq47_k.I (.l0 a_0 x_1 x_2 x_3 b_8 b_9) r := by
  unfold sq47_k.body at e
  intro W h0 m0 h m A_0 n_0 c_0 O ne_0
  subst ne_0
  refine f47.l0_in ?_
  unfold f47.l0T
  refine split_dec_e e (fun c39 e => ?_) (fun c39 e => ?_)
  · obtain ⟨y1, g2, e⟩ := bind_e e
    obtain ⟨W7, P8, B9, C10⟩ := O.callC [0]
    refine (sq70.walk P8 rfl g2).mono ?_
    rintro _ h3 ⟨m4, Q5, rfl, hl11⟩
    have O12 := Hold.nm (C10 Q5 (vfs_cons (rR_vf (aE_vf (fun _ _ _ _ h => h))) vfs_nil))
    refine ⟨rfl, ?_⟩
    cases e
    exact ⟨_, O12.pick [1], rfl, hl11⟩
  · refine split_eq_e e (fun c38 e => ?_) (fun c38 e => ?_)
    · obtain ⟨y13, g14, e⟩ := bind_e e
      obtain ⟨W19, P20, B21, C22⟩ := O.callC [0]
      refine (sq71.walk P20 rfl g14).mono ?_
      rintro _ h15 ⟨m16, Q17, rfl, hl23⟩
      have O24 := Hold.nm (C22 Q17 (vfs_cons (rR_vf (aE_vf (fun _ _ _ _ h => h))) vfs_nil))
      refine ⟨rfl, ?_⟩
      cases e
      exact ⟨_, O24.pick [1], rfl, hl23⟩
    · refine split_not ?_
      refine split_any_e e (fun c37 e => ?_) (fun c37 e => ?_)
      · exact (ih _ _ e) _ _ _ _ _ _ _ _ (O.pick [0]).nm rfl
      · obtain ⟨y25, g26, e⟩ := bind_e e
        obtain ⟨W31, P32, B33, C34⟩ := O.callC [0]
        refine (sq72.walk P32 rfl g26).mono ?_
        rintro _ h27 ⟨m28, Q29, rfl, hl35⟩
        have O36 := Hold.nm (C34 Q29 (vfs_cons (rR_vf (aE_vf (fun _ _ _ _ h => h))) vfs_nil))
        refine ⟨rfl, ?_⟩
        exact (ih _ _ e) _ _ _ _ _ _ _ _ (O36.pick [1]).nm hl35
set_option maxRecDepth 100000 in
theorem sq47_k.step_j0 (go : (p : sq47_k.Pt) → Option ((List Int))) (ih : ∀ p r, go p = some r → sq47_k.I p r) (a_0 : List Int) (x_1 : Int) (x_2 : Int) (x_3 : Int) (b_8 : Bool) (b_9 : Bool) (x_10 : Int) (r : (List Int)) (e : sq47_k.body go (.j0 a_0 x_1 x_2 x_3 b_8 b_9 x_10) = some r) : sq47_k.I (.j0 a_0 x_1 x_2 x_3 b_8 b_9 x_10) r := by
  unfold sq47_k.body at e
  intro W h0 m0 h m A_0 n_0 c_0 O ne_0
  subst ne_0
  refine f47.j0_in ?_
  unfold f47.j0T
  obtain ⟨y1, g2, e⟩ := bind_e e
  obtain ⟨m7, u8, s13, ⟨⟨r11, k12⟩, _⟩, B9, C10⟩ := O.lend0 [0]
  replace r11 : Rd 1 (eInt .i64) m7 A_0 a_0 := r11
  replace k12 : List.length a_0 ≤ c_0 := k12
  refine (sq73.walk (Hold.start (W := No) s13) rfl k12 r11 g2).mono ?_
  rintro _ h3 ⟨m4, Q5, rfl⟩
  have O14 := Hold.nm (C10 Q5 vfs_nil)
  refine ⟨_, _, rfl, ?_⟩
  refine split_eq_e e (fun c27 e => ?_) (fun c27 e => ?_)
  · obtain ⟨y15, g16, e⟩ := bind_e e
    obtain ⟨W21, P22, B23, C24⟩ := O14.callC [0]
    refine (sq74.walk P22 rfl g16).mono ?_
    rintro _ h17 ⟨m18, Q19, rfl, hl25⟩
    have O26 := Hold.nm (C24 Q19 (vfs_cons (rR_vf (aE_vf (fun _ _ _ _ h => h))) vfs_nil))
    refine ⟨rfl, ?_⟩
    exact (ih _ _ e) _ _ _ _ _ _ _ _ (O26.pick [1]).nm hl25
  · exact (ih _ _ e) _ _ _ _ _ _ _ _ (O14.pick [0]).nm rfl
set_option maxRecDepth 100000 in
theorem sq47_k.step_j1 (go : (p : sq47_k.Pt) → Option ((List Int))) (ih : ∀ p r, go p = some r → sq47_k.I p r) (a_0 : List Int) (x_1 : Int) (x_2 : Int) (x_3 : Int) (b_8 : Bool) (b_9 : Bool) (x_10 : Int) (x_11 : Int) (x_12 : Int) (r : (List Int)) (e : sq47_k.body go (.j1 a_0 x_1 x_2 x_3 b_8 b_9 x_10 x_11 x_12) = some r) : sq47_k.I (.j1 a_0 x_1 x_2 x_3 b_8 b_9 x_10 x_11 x_12) r := by
  unfold sq47_k.body at e
  intro W h0 m0 h m A_0 n_0 c_0 O ne_0
  subst ne_0
  refine f47.j1_in ?_
  unfold f47.j1T
  refine split_any_e e (fun c2 e => ?_) (fun c2 e => ?_)
  · refine split_any_e e (fun c1 e => ?_) (fun c1 e => ?_)
    · exact (ih _ _ e) _ _ _ _ _ _ _ _ (O.pick [0]).nm rfl
    · exact (ih _ _ e) _ _ _ _ _ _ _ _ (O.pick [0]).nm rfl
  · exact (ih _ _ e) _ _ _ _ _ _ _ _ (O.pick [0]).nm rfl
set_option maxRecDepth 100000 in
theorem sq47_k.step_j3 (go : (p : sq47_k.Pt) → Option ((List Int))) (ih : ∀ p r, go p = some r → sq47_k.I p r) (a_0 : List Int) (x_1 : Int) (x_2 : Int) (x_3 : Int) (b_8 : Bool) (b_9 : Bool) (x_10 : Int) (x_11 : Int) (b_68 : Bool) (r : (List Int)) (e : sq47_k.body go (.j3 a_0 x_1 x_2 x_3 b_8 b_9 x_10 x_11 b_68) = some r) : sq47_k.I (.j3 a_0 x_1 x_2 x_3 b_8 b_9 x_10 x_11 b_68) r := by
  unfold sq47_k.body at e
  intro W h0 m0 h m A_0 n_0 c_0 O ne_0
  subst ne_0
  refine f47.j3_in ?_
  unfold f47.j3T
  refine split_any_e e (fun c14 e => ?_) (fun c14 e => ?_)
  · obtain ⟨y1, g2, e⟩ := bind_e e
    obtain ⟨W7, P8, B9, C10⟩ := O.callC [0]
    refine (sq75.walk P8 rfl g2).mono ?_
    rintro _ h3 ⟨m4, Q5, rfl, hl11⟩
    have O12 := Hold.nm (C10 Q5 (vfs_cons (rR_vf (aE_vf (fun _ _ _ _ h => h))) vfs_nil))
    refine ⟨_, rfl, ?_⟩
    refine split_any_e e (fun c13 e => ?_) (fun c13 e => ?_)
    · cases e
      exact ⟨_, O12.pick [1], rfl, hl11⟩
    · exact (ih _ _ e) _ _ _ _ _ _ _ _ (O12.pick [1]).nm hl11
  · exact (ih _ _ e) _ _ _ _ _ _ _ _ (O.pick [0]).nm rfl
set_option maxRecDepth 100000 in
theorem sq47_k.step_j2 (go : (p : sq47_k.Pt) → Option ((List Int))) (ih : ∀ p r, go p = some r → sq47_k.I p r) (a_0 : List Int) (x_1 : Int) (x_2 : Int) (x_3 : Int) (b_8 : Bool) (b_9 : Bool) (x_10 : Int) (x_11 : Int) (r : (List Int)) (e : sq47_k.body go (.j2 a_0 x_1 x_2 x_3 b_8 b_9 x_10 x_11) = some r) : sq47_k.I (.j2 a_0 x_1 x_2 x_3 b_8 b_9 x_10 x_11) r := by
  unfold sq47_k.body at e
  intro W h0 m0 h m A_0 n_0 c_0 O ne_0
  subst ne_0
  refine f47.j2_in ?_
  unfold f47.j2T
  refine split_dec_e e (fun c22 e => ?_) (fun c22 e => ?_)
  · obtain ⟨y1, g2, e⟩ := bind_e e
    refine (O.os 0 rfl).addr rfl g2 fun a3 cs4 ha5 hc6 he7 => ?_
    obtain rfl : cs4 = [(Value.int .i64 y1)] := he7
    obtain ⟨y8, g9, e⟩ := bind_e e
    refine (O.os 0 rfl).addr rfl g9 fun a10 cs11 ha12 hc13 he14 => ?_
    obtain rfl : cs11 = [(Value.int .i64 y8)] := he14
    refine ⟨_, ld0 (Sub.refl _) hc6 rfl, _, rfl, ?_⟩
    refine ⟨_, ld0 (Sub.refl _) hc13 rfl, _, rfl, ?_⟩
    obtain ⟨y15, g16, e⟩ := bind_e e
    refine (cmp_Less_76.walk (Hold.start (W := No) O.s)  g16).mono ?_
    rintro _ h17 ⟨m18, Q19, rfl⟩
    have O21 := Hold.nm (O.retC Q19 vfs_nil)
    refine ⟨_, rfl, ?_⟩
    exact (ih _ _ e) _ _ _ _ _ _ _ _ (O21.pick [0]).nm rfl
  · exact (ih _ _ e) _ _ _ _ _ _ _ _ (O.pick [0]).nm rfl
set_option maxRecDepth 100000 in
theorem sq47_k.step_j5 (go : (p : sq47_k.Pt) → Option ((List Int))) (ih : ∀ p r, go p = some r → sq47_k.I p r) (a_0 : List Int) (x_1 : Int) (x_2 : Int) (x_3 : Int) (b_8 : Bool) (b_9 : Bool) (x_10 : Int) (x_11 : Int) (b_87 : Bool) (r : (List Int)) (e : sq47_k.body go (.j5 a_0 x_1 x_2 x_3 b_8 b_9 x_10 x_11 b_87) = some r) : sq47_k.I (.j5 a_0 x_1 x_2 x_3 b_8 b_9 x_10 x_11 b_87) r := by
  unfold sq47_k.body at e
  intro W h0 m0 h m A_0 n_0 c_0 O ne_0
  subst ne_0
  refine f47.j5_in ?_
  unfold f47.j5T
  refine split_any_e e (fun c13 e => ?_) (fun c13 e => ?_)
  · obtain ⟨y1, g2, e⟩ := bind_e e
    obtain ⟨W7, P8, B9, C10⟩ := O.callC [0]
    refine (sq77.walk P8 rfl g2).mono ?_
    rintro _ h3 ⟨m4, Q5, rfl, hl11⟩
    have O12 := Hold.nm (C10 Q5 (vfs_cons (rR_vf (aE_vf (fun _ _ _ _ h => h))) vfs_nil))
    refine ⟨_, rfl, ?_⟩
    exact (ih _ _ e) _ _ _ _ _ _ _ _ (O12.pick [1]).nm hl11
  · exact (ih _ _ e) _ _ _ _ _ _ _ _ (O.pick [0]).nm rfl
set_option maxRecDepth 100000 in
theorem sq47_k.step_j4 (go : (p : sq47_k.Pt) → Option ((List Int))) (ih : ∀ p r, go p = some r → sq47_k.I p r) (a_0 : List Int) (x_1 : Int) (x_2 : Int) (x_3 : Int) (x_10 : Int) (x_11 : Int) (r : (List Int)) (e : sq47_k.body go (.j4 a_0 x_1 x_2 x_3 x_10 x_11) = some r) : sq47_k.I (.j4 a_0 x_1 x_2 x_3 x_10 x_11) r := by
  unfold sq47_k.body at e
  intro W h0 m0 h m A_0 n_0 c_0 O ne_0
  subst ne_0
  refine f47.j4_in ?_
  unfold f47.j4T
  obtain ⟨y1, g2, e⟩ := bind_e e
  obtain ⟨W7, P8, B9, C10⟩ := O.callC [0]
  refine (sq78.walk P8 rfl g2).mono ?_
  rintro _ h3 ⟨m4, Q5, rfl, hl11⟩
  have O12 := Hold.nm (C10 Q5 (vfs_cons (rR_vf (aE_vf (fun _ _ _ _ h => h))) vfs_nil))
  refine ⟨_, _, rfl, ?_⟩
  refine ⟨by decide, ?_⟩
  refine split_dec_e e (fun c37 e => ?_) (fun c37 e => ?_)
  · obtain ⟨y13, g14, e⟩ := bind_e e
    obtain ⟨W19, P20, B21, C22⟩ := O12.callC [1]
    refine ((ih _ _ g14) _ _ _ _ _ _ P20 hl11).mono ?_
    rintro _ h15 ⟨m16, Q17, rfl, hl23⟩
    have O24 := Hold.nm (C22 Q17 (vfs_cons (rR_vf (aE_vf (fun _ _ _ _ h => h))) vfs_nil))
    refine ⟨rfl, ?_⟩
    exact (ih _ _ e) _ _ _ _ _ _ _ _ (O24.pick [2]).nm hl23
  · obtain ⟨y25, g26, e⟩ := bind_e e
    obtain ⟨W31, P32, B33, C34⟩ := O12.callC [1]
    refine ((ih _ _ g26) _ _ _ _ _ _ P32 hl11).mono ?_
    rintro _ h27 ⟨m28, Q29, rfl, hl35⟩
    have O36 := Hold.nm (C34 Q29 (vfs_cons (rR_vf (aE_vf (fun _ _ _ _ h => h))) vfs_nil))
    refine ⟨rfl, ?_⟩
    exact (ih _ _ e) _ _ _ _ _ _ _ _ (O36.pick [2]).nm hl35
theorem sq47_k.all {p : sq47_k.Pt} {r : ((List Int))} (e : sq47_k.go p = some r) : sq47_k.I p r := fixF_ind (β := fun _ => ((List Int))) sq47_k.mono (I := sq47_k.I) (fun go ih p r e => match p with
  | .f a_0 x_1 x_2 x_3 => sq47_k.step_f go ih a_0 x_1 x_2 x_3 r e
  | .l0 a_0 x_1 x_2 x_3 b_8 b_9 => sq47_k.step_l0 go ih a_0 x_1 x_2 x_3 b_8 b_9 r e
  | .j0 a_0 x_1 x_2 x_3 b_8 b_9 x_10 => sq47_k.step_j0 go ih a_0 x_1 x_2 x_3 b_8 b_9 x_10 r e
  | .j1 a_0 x_1 x_2 x_3 b_8 b_9 x_10 x_11 x_12 => sq47_k.step_j1 go ih a_0 x_1 x_2 x_3 b_8 b_9 x_10 x_11 x_12 r e
  | .j3 a_0 x_1 x_2 x_3 b_8 b_9 x_10 x_11 b_68 => sq47_k.step_j3 go ih a_0 x_1 x_2 x_3 b_8 b_9 x_10 x_11 b_68 r e
  | .j2 a_0 x_1 x_2 x_3 b_8 b_9 x_10 x_11 => sq47_k.step_j2 go ih a_0 x_1 x_2 x_3 b_8 b_9 x_10 x_11 r e
  | .j5 a_0 x_1 x_2 x_3 b_8 b_9 x_10 x_11 b_87 => sq47_k.step_j5 go ih a_0 x_1 x_2 x_3 b_8 b_9 x_10 x_11 b_87 r e
  | .j4 a_0 x_1 x_2 x_3 x_10 x_11 => sq47_k.step_j4 go ih a_0 x_1 x_2 x_3 x_10 x_11 r e
  ) e
theorem sq47.walk {W : Nat → Prop} {h m : Heap} {A_0 : Option Addr} {n_0 c_0 : Nat} {a_0 : List Int} {x_1 : Int} {x_2 : Int} {x_3 : Int} (O : Hold W h m h m [rR (aE (tell_int .i64)) A_0 c_0 a_0]) (ne_0 : n_0 = List.length a_0) {r : (List Int)} (e : sq47 a_0 x_1 x_2 x_3 = some r) : Run Try.prog 47 #[Value.slice A_0 n_0 c_0, Value.int .i64 x_1, Value.int .i64 x_2, Value.int .i64 x_3] h (sq47.post W A_0 n_0 c_0 h m r) := sq47_k.all (p := .f a_0 x_1 x_2 x_3) e W h m A_0 n_0 c_0 O ne_0
def slices_Sort_18.post (W : Nat → Prop) (Asl0 : Option Addr) (nsl0 csl0 : Nat) (h0 m0 : Heap) (r : (List Int)) (v : Value) (h : Heap) : Prop := ∃ m , Hold W h0 m0 h m [rR (aE (tell_int .i64)) Asl0 csl0 r] ∧ v = .tuple #[] ∧ nsl0 = List.length r
noncomputable def slices_Sort_18 (a_0 : List Int) : Option ((List Int)) :=
  Option.bind (math_bits_Len (IntKind.wrap .u64 (((List.length a_0) : Nat) : Int))) fun y1 => Option.bind (sq47 a_0 (0 : Int) (((List.length a_0) : Nat) : Int) y1) fun y8 => some (y8)
set_option maxRecDepth 100000 in
theorem slices_Sort_18.walk {W : Nat → Prop} {h m : Heap} {A_0 : Option Addr} {n_0 c_0 : Nat} {a_0 : List Int} (O : Hold W h m h m [rR (aE (tell_int .i64)) A_0 c_0 a_0]) (ne_0 : n_0 = List.length a_0) {r : (List Int)} (e : slices_Sort_18 a_0 = some r) : Run Try.prog 18 #[Value.slice A_0 n_0 c_0] h (slices_Sort_18.post W A_0 n_0 c_0 h m r) := by
  unfold slices_Sort_18 at e
  subst ne_0
  refine f18.run ?_
  unfold f18.runT
  obtain ⟨y1, g2, e⟩ := bind_e e
  refine (math_bits_Len.walk (Hold.start (W := No) O.s)  g2).mono ?_
  rintro _ h3 ⟨m4, Q5, rfl⟩
  have O7 := Hold.nm (O.retC Q5 vfs_nil)
  refine ⟨_, rfl, ?_⟩
  obtain ⟨y8, g9, e⟩ := bind_e e
  obtain ⟨W14, P15, B16, C17⟩ := O7.callC [0]
  refine (sq47.walk P15 rfl g9).mono ?_
  rintro _ h10 ⟨m11, Q12, rfl, hl18⟩
  have O19 := Hold.nm (C17 Q12 (vfs_cons (rR_vf (aE_vf (fun _ _ _ _ h => h))) vfs_nil))
  refine ⟨rfl, ?_⟩
  cases e
  exact ⟨_, O19.pick [1], rfl, hl18⟩
theorem slices_Sort_18.val (l : List Int) (hn : l.length ≤ 1000000000000000000) : ∃ r, slices_Sort_18 l = some r ∧ r.Perm l ∧ r.Pairwise (· ≤ ·) := by
  have hl : ∀ x y : Int, cmp_Less_76 x y = some (decide (x < y)) := fun x y => by unfold cmp_Less_76 cmp_isNaN_94; rw [Option.bind_some, if_neg (by simp)]
  have hlen : ∀ x : Nat, x < 18446744073709551616 → ∃ k : Nat, math_bits_Len (x : Int) = some (k : Int) ∧ k ≤ 64 ∧ (1 ≤ x → 2 ^ k ≤ 2 * x) := by
    intro x hx
    obtain ⟨k, k1, k2⟩ := len_val (F := math_bits_Len64) (j0 := math_bits_Len64.j0) (j1 := math_bits_Len64.j1) (j2 := math_bits_Len64.j2) (fun x => rfl) (fun x n => rfl) (fun x n => rfl) (fun x n => rfl) x hx
    exact ⟨k, by unfold math_bits_Len; rw [k1, Option.bind_some], k2⟩
  have hu : ∀ x : Nat, x ≤ 1000000000000000000 → IntKind.wrap .u64 (x : Int) = x := fun x h => u64_in' (by omega) (by omega)
  have P := pdq_val (lt := fun x y : Int => decide (x < y)) ord3_int hl (f := sq47) (l0 := sq47.l0) (j0 := sq47.j0) (j1 := sq47.j1) (j2 := sq47.j2) (j3 := sq47.j3) (j4 := sq47.j4) (j5 := sq47.j5)
    (ins := sq70) (heap := sq71) (brk := sq72) (rev := sq74) (cho := sq73) (pi := sq75) (pe := sq77) (pt := sq78)
    (fun {a b l} h1 h2 h3 => by
      unfold sq70
      by_cases c : a = b
      · subst c
        exact ⟨l, .refl, fun i j _ _ k1 k2 k3 => by omega, by rw [w_succ (by omega), sq70.l0_eq, if_neg (by omega)]⟩
      · rw [w_succ (by omega)]
        exact insertion_val ord3_int hl (f0 := sq70.l0) (f1 := sq70.l1) (fun l a b i => sq70.l0_eq l a b i) (fun l a b i j => by rw [sq70.l1_eq]; simp only [sq70.j1_eq, sq70.j0_eq]) (b - (a + 1)) (a + 1) l (by omega) (by omega) h1 (by omega) (fun i j _ _ k1 k2 k3 => by omega))
    (fun {a b l} h1 h2 h3 => heapSort_val ord3_int hl (f := sq89.l0) (J1 := sq89.j1) (J0 := sq89.j0) (fun l hi a x => sq89.l0_eq l hi a x) (fun l hi a x c b => sq89.j1_eq l hi a x c b) (fun l hi a x c => sq89.j0_eq l hi a x c) (G := sq89) (H := sq71) (f0 := sq71.l0) (f1 := sq71.l1) (fun l lo hi a => rfl) (fun l a lo hi i => sq71.l0_eq l a lo hi i) (fun l a lo i => sq71.l1_eq l a lo i) (fun l a b => rfl) h1 h2 h3)
    (fun {a b l} h1 h2 h3 => by
      obtain ⟨n, rfl⟩ : ∃ n, b = a + n := ⟨b - a, by omega⟩
      unfold sq72
      have w1 : IntKind.wrap .i64 (((a + n : Nat) : Int) - (a : Int)) = (n : Int) := by rw [wrap_in (by omega) (by omega)]; omega
      have w2 : Int.tdiv (n : Int) 4 = ((n / 4 : Nat) : Int) := by rw [Int.tdiv_eq_ediv_of_nonneg (by omega)]; omega
      rw [w1, if_pos (by omega)]
      unfold slices_nextPowerOfTwo
      obtain ⟨k, k1, k2, k3⟩ := hlen n (by omega)
      have k4 := k3 (by omega)
      rw [hu n (by omega), k1, Option.bind_some, if_pos (by omega), Option.bind_some, shl_one (by omega), w2, wrap_in (n := ((n / 4 : Nat) : Int)) (by omega) (by omega), wrap_in (n := ((n / 4 : Nat) : Int) * 2) (by omega) (by omega), wrap_in (n := (a : Int) + ((n / 4 : Nat) : Int) * 2) (by omega) (by omega), wrap_in (by omega) (by omega), show (a : Int) + ((n / 4 : Nat) : Int) * 2 - 1 = ((a + n / 4 * 2 - 1 : Nat) : Int) by omega]
      exact brk_val (F := sq72.l0) (J := sq72.j1) (nx := slices_xorshift_Next) (fun y => ⟨_, rfl⟩) (fun l a n y m i => sq72.l0_eq l a n y m i) (fun l a n y m i o => by rw [sq72.j1_eq]; simp only [sq72.j0_eq]) (Nat.one_le_two_pow) k4 (by omega) 3 (a + n / 4 * 2 - 1) l _ (by omega) (by omega) (by omega) (by omega))
    (fun {a b l} h1 h2 h3 => by
      unfold sq74
      rw [wrap_in (by omega) (by omega), show (b : Int) - 1 = ((b - 1 : Nat) : Int) by omega]
      exact rev_val (f := sq74.l0) (fun l x y => sq74.l0_eq l x y) b a (b - 1) l (by omega) (Nat.le_refl _) (by omega) h2 h3)
    (fun {a b l} h1 h2 h3 => choose_val hl (o := sq98) (fun l x1 x2 y3 => rfl) (md := sq93) (fun l x1 x2 x3 y4 => rfl) (ma := sq92) (fun l x y => rfl) (j0 := sq73.j0) (fun y x => rfl) (j1 := sq73.j1) (fun l y x1 x2 x3 => rfl) (ch := sq73) (fun l a b => rfl) h1 h2 h3)
    (fun {a b l} h1 h2 h3 h4 => pins_val ord3_int hl (l0 := sq75.l0) (l1 := sq75.l1) (l2 := sq75.l2) (l3 := sq75.l3) (j0 := sq75.j0) (j1 := sq75.j1) (j2 := sq75.j2) (j3 := sq75.j3) (P := sq75)
      (fun l a b i s => sq75.l0_eq l a b i s) (fun l a b i s => sq75.l1_eq l a b i s) (fun l a b i s => sq75.j2_eq l a b i s) (fun l a b i s => sq75.j1_eq l a b i s) (fun l a b i s j => sq75.l2_eq l a b i s j) (fun l a b i s => sq75.j3_eq l a b i s) (fun l a b i s j => sq75.l3_eq l a b i s j) (fun l a b i s => sq75.j0_eq l a b i s) (fun l a b => rfl) h1 h2 h3 h4)
    (fun {a b p l} h1 h2 h3 h4 => parte_val ord3_int hl (l0 := sq77.l0) (l1 := sq77.l1) (l2 := sq77.l2) (j0 := sq77.j0) (j1 := sq77.j1) (j2 := sq77.j2) (j3 := sq77.j3) (P := sq77)
      (fun l a b p => rfl) (fun l a i j => sq77.l0_eq l a i j) (fun l a i j => sq77.l1_eq l a i j) (fun l a i j => sq77.j2_eq l a i j) (fun l a i j => sq77.j0_eq l a i j) (fun l a i j => sq77.l2_eq l a i j) (fun l a i j => sq77.j3_eq l a i j) (fun l a i j => sq77.j1_eq l a i j) h1 h2 h3 h4)
    (fun {a b p l} h1 h2 h3 h4 => part_val ord3_int hl (k0 := sq78.l0) (kj2 := sq78.j2) (kj0 := sq78.j0) (k1 := sq78.l1) (kj3 := sq78.j3) (J1 := sq78.j1) (l2 := sq78.l2) (l3 := sq78.l3) (j7 := sq78.j7) (j5 := sq78.j5) (l4 := sq78.l4) (j8 := sq78.j8) (j6 := sq78.j6) (j4 := sq78.j4) (P := sq78)
      (fun l a b p => rfl) (fun l a i j => sq78.l0_eq l a i j) (fun l a i j => sq78.j2_eq l a i j) (fun l a i j => rfl) (fun l a i j => sq78.l1_eq l a i j) (fun l a i j => sq78.j3_eq l a i j) (fun l a i j => rfl) (fun l a i j => sq78.l2_eq l a i j) (fun l a i j => sq78.l3_eq l a i j) (fun l a i j => sq78.j7_eq l a i j) (fun l a i j => sq78.j5_eq l a i j) (fun l a i j => sq78.l4_eq l a i j) (fun l a i j => sq78.j8_eq l a i j) (fun l a i j => sq78.j6_eq l a i j) (fun l a j => rfl) h1 h2 h3 h4)
    (fun l a b lim => sq47_eq l a b lim) (fun l a b lim b8 b9 => sq47.l0_eq l a b lim b8 b9) (fun l a b lim b8 b9 n => sq47.j0_eq l a b lim b8 b9 n) (fun l a b lim b8 b9 n p h => sq47.j1_eq l a b lim b8 b9 n p h) (fun l a b lim b8 b9 n p c => sq47.j3_eq l a b lim b8 b9 n p c) (fun l a b lim b8 b9 n p => sq47.j2_eq l a b lim b8 b9 n p) (fun l a b lim b8 b9 n p c => sq47.j5_eq l a b lim b8 b9 n p c) (fun l a b lim n p => sq47.j4_eq l a b lim n p)
  obtain ⟨k, k1, _⟩ := hlen l.length (by omega)
  obtain ⟨r, t1, t2, t3⟩ := P l.length 0 l.length l (k : Int) true true (by omega) (by omega) (Nat.le_refl _) hn (fun i h0 hi h => by omega)
  refine ⟨r, ?_, t1.1, Srt.all (by rw [t1.len]; exact t2)⟩
  unfold slices_Sort_18
  rw [hu _ hn, k1, Option.bind_some, sq47_eq]
  rw [show (0 : Int) = ((0 : Nat) : Int) from rfl, t3, Option.bind_some]
def slices_IndexFunc_67.post (W : Nat → Prop) (h0 m0 : Heap) (r : Int) (v : Value) (h : Heap) : Prop := ∃ m , Hold W h0 m0 h m [] ∧ v = .int .i64 r
inductive slices_IndexFunc_67.l0_k.Pt where
  | l0 (a_0 : List Int) (p_1 : Int → Option Bool) (x_7 : Int) (x_8 : Int)
noncomputable def slices_IndexFunc_67.l0_k.body (go : (p : slices_IndexFunc_67.l0_k.Pt) → Option (Int)) : (p : slices_IndexFunc_67.l0_k.Pt) → Option (Int)
  | .l0 a_0 p_1 x_7 x_8 => if x_8 < x_7 then (Option.bind (gi a_0 x_8) fun y1 => Option.bind (p_1 y1) fun y8 => if y8 = true then (some (x_8)) else ((go (.l0 a_0 p_1 x_7 (IntKind.wrap .i64 (x_8 + (1 : Int))))))) else (some ((-1 : Int)))
theorem slices_IndexFunc_67.l0_k.mono : MonoF (β := fun _ => (Int)) slices_IndexFunc_67.l0_k.body := fun f g hfg p => match p with
  | .l0 a_0 p_1 x_7 x_8 => LeO.ite (LeO.bind (LeO.refl _) fun y1 => LeO.bind (LeO.refl _) fun y8 => LeO.ite (LeO.refl _) ((hfg _))) (LeO.refl _)
noncomputable def slices_IndexFunc_67.l0_k.go (p : slices_IndexFunc_67.l0_k.Pt) : Option (Int) := fixF (β := fun _ => (Int)) slices_IndexFunc_67.l0_k.body p
noncomputable def slices_IndexFunc_67.l0 (a_0 : List Int) (p_1 : Int → Option Bool) (x_7 : Int) (x_8 : Int) : Option (Int) := slices_IndexFunc_67.l0_k.go (.l0 a_0 p_1 x_7 x_8)
theorem slices_IndexFunc_67.l0_eq (a_0 : List Int) (p_1 : Int → Option Bool) (x_7 : Int) (x_8 : Int) : slices_IndexFunc_67.l0 a_0 p_1 x_7 x_8 = if x_8 < x_7 then (Option.bind (gi a_0 x_8) fun y1 => Option.bind (p_1 y1) fun y8 => if y8 = true then (some (x_8)) else ((slices_IndexFunc_67.l0 a_0 p_1 x_7 (IntKind.wrap .i64 (x_8 + (1 : Int)))))) else (some ((-1 : Int))) := fixF_eq slices_IndexFunc_67.l0_k.mono _
def slices_IndexFunc_67.l0_k.I : (p : slices_IndexFunc_67.l0_k.Pt) → (Int) → Prop
  | .l0 a_0 p_1 x_7 x_8, r => ∀ (W : Nat → Prop) (h0 m0 h m : Heap) (A_0 : Option Addr) (n_0 c_0 : Nat) (fv_1 : Value) (O : Hold W h0 m0 h m []) (ne_0 : n_0 = List.length a_0) (k_0 : List.length a_0 ≤ c_0) (r_0 : Rd 1 (eInt .i64) m A_0 a_0) (f_1 : ∀ h' m', Sub m0 m' → Sub m' h' → ∀ (x0 : Int) (r : Bool), p_1 x0 = some r → CallF Try.prog fv_1 [.int .i64 x0] h' (fun v h'' => v = .bool r ∧ Ext h' h'')), f67.l0 (slices_IndexFunc_67.post W h0 m0 r) A_0 n_0 c_0 fv_1 x_7 x_8 h
set_option maxRecDepth 100000 in
theorem slices_IndexFunc_67.l0_k.step_l0 (go : (p : slices_IndexFunc_67.l0_k.Pt) → Option (Int)) (ih : ∀ p r, go p = some r → slices_IndexFunc_67.l0_k.I p r) (a_0 : List Int) (p_1 : Int → Option Bool) (x_7 : Int) (x_8 : Int) (r : Int) (e : slices_IndexFunc_67.l0_k.body go (.l0 a_0 p_1 x_7 x_8) = some r) : slices_IndexFunc_67.l0_k.I (.l0 a_0 p_1 x_7 x_8) r := by
  unfold slices_IndexFunc_67.l0_k.body at e
  intro W h0 m0 h m A_0 n_0 c_0 fv_1 O ne_0 k_0 r_0 f_1
  subst ne_0
  refine f67.l0_in ?_
  unfold f67.l0T
  refine split_dec_e e (fun c14 e => ?_) (fun c14 e => ?_)
  · obtain ⟨y1, g2, e⟩ := bind_e e
    refine r_0.addr rfl g2 fun a3 cs4 ha5 hc6 he7 => ?_
    obtain rfl : cs4 = [(Value.int .i64 y1)] := he7
    refine ⟨_, ld0 O.s hc6 rfl, _, rfl, ?_⟩
    obtain ⟨y8, g9, e⟩ := bind_e e
    refine CallF.mono (f_1 _ _ O.up O.s _ _ g9) ?_
    rintro _ h10 ⟨rfl, x11⟩
    have O12 := O.ext x11
    refine ⟨_, rfl, ?_⟩
    refine split_any_e e (fun c13 e => ?_) (fun c13 e => ?_)
    · cases e
      exact ⟨_, O12.pick [], rfl⟩
    · exact (ih _ _ e) _ _ _ _ _ _ _ _ _ (O12.pick []).nm rfl k_0 r_0 f_1
  · cases e
    exact ⟨_, O.pick [], rfl⟩
theorem slices_IndexFunc_67.l0_k.all {p : slices_IndexFunc_67.l0_k.Pt} {r : (Int)} (e : slices_IndexFunc_67.l0_k.go p = some r) : slices_IndexFunc_67.l0_k.I p r := fixF_ind (β := fun _ => (Int)) slices_IndexFunc_67.l0_k.mono (I := slices_IndexFunc_67.l0_k.I) (fun go ih p r e => match p with
  | .l0 a_0 p_1 x_7 x_8 => slices_IndexFunc_67.l0_k.step_l0 go ih a_0 p_1 x_7 x_8 r e
  ) e
theorem slices_IndexFunc_67.l0.walk {W : Nat → Prop} {h0 m0 h m : Heap} {A_0 : Option Addr} {n_0 c_0 : Nat} {fv_1 : Value} {a_0 : List Int} {p_1 : Int → Option Bool} {x_7 : Int} {x_8 : Int} (O : Hold W h0 m0 h m []) (ne_0 : n_0 = List.length a_0) (k_0 : List.length a_0 ≤ c_0) (r_0 : Rd 1 (eInt .i64) m A_0 a_0) (f_1 : ∀ h' m', Sub m0 m' → Sub m' h' → ∀ (x0 : Int) (r : Bool), p_1 x0 = some r → CallF Try.prog fv_1 [.int .i64 x0] h' (fun v h'' => v = .bool r ∧ Ext h' h'')) {r : Int} (e : slices_IndexFunc_67.l0 a_0 p_1 x_7 x_8 = some r) : f67.l0 (slices_IndexFunc_67.post W h0 m0 r) A_0 n_0 c_0 fv_1 x_7 x_8 h := slices_IndexFunc_67.l0_k.all (p := .l0 a_0 p_1 x_7 x_8) e W h0 m0 h m A_0 n_0 c_0 fv_1 O ne_0 k_0 r_0 f_1
noncomputable def slices_IndexFunc_67 (a_0 : List Int) (p_1 : Int → Option Bool) : Option (Int) :=
  (slices_IndexFunc_67.l0 a_0 p_1 (((List.length a_0) : Nat) : Int) (0 : Int))
set_option maxRecDepth 100000 in
theorem slices_IndexFunc_67.walk {W : Nat → Prop} {h m : Heap} {A_0 : Option Addr} {n_0 c_0 : Nat} {fv_1 : Value} {a_0 : List Int} {p_1 : Int → Option Bool} (O : Hold W h m h m []) (ne_0 : n_0 = List.length a_0) (k_0 : List.length a_0 ≤ c_0) (r_0 : Rd 1 (eInt .i64) m A_0 a_0) (f_1 : ∀ h' m', Sub m m' → Sub m' h' → ∀ (x0 : Int) (r : Bool), p_1 x0 = some r → CallF Try.prog fv_1 [.int .i64 x0] h' (fun v h'' => v = .bool r ∧ Ext h' h'')) {r : Int} (e : slices_IndexFunc_67 a_0 p_1 = some r) : Run Try.prog 67 #[Value.slice A_0 n_0 c_0, fv_1] h (slices_IndexFunc_67.post W h m r) := by
  unfold slices_IndexFunc_67 at e
  subst ne_0
  refine f67.run ?_
  unfold f67.runT
  exact slices_IndexFunc_67.l0.walk (O.pick []).nm rfl k_0 r_0 f_1 e
theorem slices_IndexFunc_67.val {l : List Int} {p : Int → Option Bool} (q : Int → Bool) (hp : ∀ x ∈ l, p x = some (q x)) (hl : l.length ≤ 4611686018427387904) : slices_IndexFunc_67 l p = some (idxOf q l) := find_val (fun a p n i => slices_IndexFunc_67.l0_eq a p n i) q hp hl
def slices_DeleteFunc_40.post (W : Nat → Prop) (h0 m0 : Heap) (r : (List Int)) (v : Value) (h : Heap) : Prop := ∃ m A0 n0 c0, Hold W h0 m0 h m [rR (aE (tell_int .i64)) A0 c0 r] ∧ v = .slice A0 n0 c0 ∧ n0 = List.length r
inductive slices_DeleteFunc_40.l0_k.Pt where
  | l0 (a_0 : List Int) (p_1 : Int → Option Bool) (x_5 : Int) (x_6 : Int)
  | j0 (a_0 : List Int) (p_1 : Int → Option Bool) (x_5 : Int) (x_6 : Int)
noncomputable def slices_DeleteFunc_40.l0_k.body (go : (p : slices_DeleteFunc_40.l0_k.Pt) → Option ((List Int))) : (p : slices_DeleteFunc_40.l0_k.Pt) → Option ((List Int))
  | .l0 a_0 p_1 x_5 x_6 => if x_6 < (((List.length a_0) : Nat) : Int) then (Option.bind (gi a_0 x_6) fun y1 => Option.bind (p_1 y1) fun y8 => if y8 = true then ((go (.j0 a_0 p_1 x_5 x_6))) else (Option.bind (gi a_0 x_5) fun y13 => Option.bind (some (List.set a_0 (Int.toNat x_5) y1)) fun l22 => (go (.j0 l22 p_1 (IntKind.wrap .i64 (x_5 + (1 : Int))) x_6)))) else (Option.bind (sls a_0 x_5 (((List.length a_0) : Nat) : Int)) fun l26 => Option.bind (sls (clrL a_0 x_5 (((List.length a_0) : Nat) : Int) (0 : Int)) (0 : Int) x_5) fun l31 => some (l31))
  | .j0 a_0 p_1 x_5 x_6 => (go (.l0 a_0 p_1 x_5 (IntKind.wrap .i64 (x_6 + (1 : Int)))))
theorem slices_DeleteFunc_40.l0_k.mono : MonoF (β := fun _ => ((List Int))) slices_DeleteFunc_40.l0_k.body := fun f g hfg p => match p with
  | .l0 a_0 p_1 x_5 x_6 => LeO.ite (LeO.bind (LeO.refl _) fun y1 => LeO.bind (LeO.refl _) fun y8 => LeO.ite ((hfg _)) (LeO.bind (LeO.refl _) fun y13 => LeO.bind (LeO.refl _) fun l22 => (hfg _))) (LeO.bind (LeO.refl _) fun l26 => LeO.bind (LeO.refl _) fun l31 => LeO.refl _)
  | .j0 a_0 p_1 x_5 x_6 => (hfg _)
noncomputable def slices_DeleteFunc_40.l0_k.go (p : slices_DeleteFunc_40.l0_k.Pt) : Option ((List Int)) := fixF (β := fun _ => ((List Int))) slices_DeleteFunc_40.l0_k.body p
noncomputable def slices_DeleteFunc_40.l0 (a_0 : List Int) (p_1 : Int → Option Bool) (x_5 : Int) (x_6 : Int) : Option ((List Int)) := slices_DeleteFunc_40.l0_k.go (.l0 a_0 p_1 x_5 x_6)
noncomputable def slices_DeleteFunc_40.j0 (a_0 : List Int) (p_1 : Int → Option Bool) (x_5 : Int) (x_6 : Int) : Option ((List Int)) := slices_DeleteFunc_40.l0_k.go (.j0 a_0 p_1 x_5 x_6)
theorem slices_DeleteFunc_40.l0_eq (a_0 : List Int) (p_1 : Int → Option Bool) (x_5 : Int) (x_6 : Int) : slices_DeleteFunc_40.l0 a_0 p_1 x_5 x_6 = if x_6 < (((List.length a_0) : Nat) : Int) then (Option.bind (gi a_0 x_6) fun y1 => Option.bind (p_1 y1) fun y8 => if y8 = true then ((slices_DeleteFunc_40.j0 a_0 p_1 x_5 x_6)) else (Option.bind (gi a_0 x_5) fun y13 => Option.bind (some (List.set a_0 (Int.toNat x_5) y1)) fun l22 => (slices_DeleteFunc_40.j0 l22 p_1 (IntKind.wrap .i64 (x_5 + (1 : Int))) x_6))) else (Option.bind (sls a_0 x_5 (((List.length a_0) : Nat) : Int)) fun l26 => Option.bind (sls (clrL a_0 x_5 (((List.length a_0) : Nat) : Int) (0 : Int)) (0 : Int) x_5) fun l31 => some (l31)) := fixF_eq slices_DeleteFunc_40.l0_k.mono _
theorem slices_DeleteFunc_40.j0_eq (a_0 : List Int) (p_1 : Int → Option Bool) (x_5 : Int) (x_6 : Int) : slices_DeleteFunc_40.j0 a_0 p_1 x_5 x_6 = (slices_DeleteFunc_40.l0 a_0 p_1 x_5 (IntKind.wrap .i64 (x_6 + (1 : Int)))) := fixF_eq slices_DeleteFunc_40.l0_k.mono _
def slices_DeleteFunc_40.l0_k.I : (p : slices_DeleteFunc_40.l0_k.Pt) → ((List Int)) → Prop
  | .l0 a_0 p_1 x_5 x_6, r => ∀ (W : Nat → Prop) (h0 m0 h m : Heap) (A_0 : Option Addr) (n_0 c_0 : Nat) (fv_1 : Value) (O : Hold W h0 m0 h m [rR (aE (tell_int .i64)) A_0 c_0 a_0]) (ne_0 : n_0 = List.length a_0) (f_1 : ∀ h' m', Sub m0 m' → Sub m' h' → ∀ (x0 : Int) (r : Bool), p_1 x0 = some r → CallF Try.prog fv_1 [.int .i64 x0] h' (fun v h'' => v = .bool r ∧ Ext h' h'')), f40.l0 (slices_DeleteFunc_40.post W h0 m0 r) A_0 n_0 c_0 fv_1 x_5 x_6 h
  | .j0 a_0 p_1 x_5 x_6, r => ∀ (W : Nat → Prop) (h0 m0 h m : Heap) (A_0 : Option Addr) (n_0 c_0 : Nat) (fv_1 : Value) (O : Hold W h0 m0 h m [rR (aE (tell_int .i64)) A_0 c_0 a_0]) (ne_0 : n_0 = List.length a_0) (f_1 : ∀ h' m', Sub m0 m' → Sub m' h' → ∀ (x0 : Int) (r : Bool), p_1 x0 = some r → CallF Try.prog fv_1 [.int .i64 x0] h' (fun v h'' => v = .bool r ∧ Ext h' h'')), f40.j0 (slices_DeleteFunc_40.post W h0 m0 r) A_0 n_0 c_0 fv_1 x_5 x_6 h
set_option maxHeartbeats 4000000 in
set_option maxRecDepth 100000 in
theorem slices_DeleteFunc_40.l0_k.step_l0 (go : (p : slices_DeleteFunc_40.l0_k.Pt) → Option ((List Int))) (ih : ∀ p r, go p = some r → slices_DeleteFunc_40.l0_k.I p r) (a_0 : List Int) (p_1 : Int → Option Bool) (x_5 : Int) (x_6 : Int) (r : (List Int)) (e : slices_DeleteFunc_40.l0_k.body go (.l0 a_0 p_1 x_5 x_6) = some r) : slices_DeleteFunc_40.l0_k.I (.l0 a_0 p_1 x_5 x_6) r := by
  unfold slices_DeleteFunc_40.l0_k.body at e
  intro W h0 m0 h m A_0 n_0 c_0 fv_1 O ne_0 f_1
  subst ne_0
  refine f40.l0_in ?_
  unfold f40.l0T
  refine split_dec_e e (fun c37 e => ?_) (fun c37 e => ?_)
  · obtain ⟨y1, g2, e⟩ := bind_e e
    refine (O.os 0 rfl).addr rfl g2 fun a3 cs4 ha5 hc6 he7 => ?_
    obtain rfl : cs4 = [(Value.int .i64 y1)] := he7
    refine ⟨_, ld0 (Sub.refl _) hc6 rfl, _, rfl, ?_⟩
    obtain ⟨y8, g9, e⟩ := bind_e e
    refine CallF.mono (f_1 _ _ O.up O.s _ _ g9) ?_
    rintro _ h10 ⟨rfl, x11⟩
    have O12 := O.ext x11
    refine ⟨_, rfl, ?_⟩
    refine split_not ?_
    refine split_any_e e (fun c25 e => ?_) (fun c25 e => ?_)
    · exact (ih _ _ e) _ _ _ _ _ _ _ _ _ (O12.pick [0]).nm rfl f_1
    · obtain ⟨y13, g14, e⟩ := bind_e e
      refine (O12.os 0 rfl).addr rfl g14 fun a15 cs16 ha17 hc18 he19 => ?_
      obtain rfl : cs16 = [(Value.int .i64 y13)] := he19
      obtain ⟨l22, g23, e⟩ := bind_e e
      replace g23 := Option.some.inj g23
      refine O12.elst0 0 rfl g14 ha17 hc18 (by decide) (y' := y1) rfl trivial g23 fun h20 O21 => ?_
      have O24 := O21.nm
      exact (ih _ _ e) _ _ _ _ _ _ _ _ _ (O24.pick [0]).nm (lset' g23) f_1
  · obtain ⟨l26, g27, e⟩ := bind_e e
    have q28 := sls_e g27
    refine ⟨q28.1, q28.2.1, cap_in q28.2.2.1 (O.cap 0 rfl), ?_⟩
    try rw [q28.2.2.2.1]
    refine O.clr (e := 3) (zv := (Value.int .i64 (0 : Int))) (zp := (0 : Int)) 0 rfl g27 (by kernel_rfl) (by kernel_rfl) (show (eInt .i64) m (0 : Int) [(Value.int .i64 (0 : Int))] from rfl) fun h29 O30 => ?_
    refine ⟨rfl, ?_⟩
    obtain ⟨l31, g32, e⟩ := bind_e e
    have q33 := sls_e g32
    refine ⟨q33.1, q33.2.1, cap_in q33.2.2.1 (O30.cap 0 rfl), ?_⟩
    try rw [q33.2.2.2.1]
    have O34 := O30.sls 0 rfl g32
    have O36 := O34.nm
    cases e
    exact ⟨_, _, _, _, O36.pick [0], rfl, rfl⟩
set_option maxRecDepth 100000 in
theorem slices_DeleteFunc_40.l0_k.step_j0 (go : (p : slices_DeleteFunc_40.l0_k.Pt) → Option ((List Int))) (ih : ∀ p r, go p = some r → slices_DeleteFunc_40.l0_k.I p r) (a_0 : List Int) (p_1 : Int → Option Bool) (x_5 : Int) (x_6 : Int) (r : (List Int)) (e : slices_DeleteFunc_40.l0_k.body go (.j0 a_0 p_1 x_5 x_6) = some r) : slices_DeleteFunc_40.l0_k.I (.j0 a_0 p_1 x_5 x_6) r := by
  unfold slices_DeleteFunc_40.l0_k.body at e
  intro W h0 m0 h m A_0 n_0 c_0 fv_1 O ne_0 f_1
  subst ne_0
  refine f40.j0_in ?_
  unfold f40.j0T
  exact (ih _ _ e) _ _ _ _ _ _ _ _ _ (O.pick [0]).nm rfl f_1
theorem slices_DeleteFunc_40.l0_k.all {p : slices_DeleteFunc_40.l0_k.Pt} {r : ((List Int))} (e : slices_DeleteFunc_40.l0_k.go p = some r) : slices_DeleteFunc_40.l0_k.I p r := fixF_ind (β := fun _ => ((List Int))) slices_DeleteFunc_40.l0_k.mono (I := slices_DeleteFunc_40.l0_k.I) (fun go ih p r e => match p with
  | .l0 a_0 p_1 x_5 x_6 => slices_DeleteFunc_40.l0_k.step_l0 go ih a_0 p_1 x_5 x_6 r e
  | .j0 a_0 p_1 x_5 x_6 => slices_DeleteFunc_40.l0_k.step_j0 go ih a_0 p_1 x_5 x_6 r e
  ) e
theorem slices_DeleteFunc_40.l0.walk {W : Nat → Prop} {h0 m0 h m : Heap} {A_0 : Option Addr} {n_0 c_0 : Nat} {fv_1 : Value} {a_0 : List Int} {p_1 : Int → Option Bool} {x_5 : Int} {x_6 : Int} (O : Hold W h0 m0 h m [rR (aE (tell_int .i64)) A_0 c_0 a_0]) (ne_0 : n_0 = List.length a_0) (f_1 : ∀ h' m', Sub m0 m' → Sub m' h' → ∀ (x0 : Int) (r : Bool), p_1 x0 = some r → CallF Try.prog fv_1 [.int .i64 x0] h' (fun v h'' => v = .bool r ∧ Ext h' h'')) {r : (List Int)} (e : slices_DeleteFunc_40.l0 a_0 p_1 x_5 x_6 = some r) : f40.l0 (slices_DeleteFunc_40.post W h0 m0 r) A_0 n_0 c_0 fv_1 x_5 x_6 h := slices_DeleteFunc_40.l0_k.all (p := .l0 a_0 p_1 x_5 x_6) e W h0 m0 h m A_0 n_0 c_0 fv_1 O ne_0 f_1
noncomputable def slices_DeleteFunc_40 (a_0 : List Int) (p_1 : Int → Option Bool) : Option ((List Int)) :=
  Option.bind (slices_IndexFunc_67 a_0 p_1) fun y1 => if y1 = (-1 : Int) then (some (a_0)) else ((slices_DeleteFunc_40.l0 a_0 p_1 y1 (IntKind.wrap .i64 (y1 + (1 : Int)))))
set_option maxRecDepth 100000 in
theorem slices_DeleteFunc_40.walk {W : Nat → Prop} {h m : Heap} {A_0 : Option Addr} {n_0 c_0 : Nat} {fv_1 : Value} {a_0 : List Int} {p_1 : Int → Option Bool} (O : Hold W h m h m [rR (aE (tell_int .i64)) A_0 c_0 a_0]) (ne_0 : n_0 = List.length a_0) (f_1 : ∀ h' m', Sub m m' → Sub m' h' → ∀ (x0 : Int) (r : Bool), p_1 x0 = some r → CallF Try.prog fv_1 [.int .i64 x0] h' (fun v h'' => v = .bool r ∧ Ext h' h'')) {r : (List Int)} (e : slices_DeleteFunc_40 a_0 p_1 = some r) : Run Try.prog 40 #[Value.slice A_0 n_0 c_0, fv_1] h (slices_DeleteFunc_40.post W h m r) := by
  unfold slices_DeleteFunc_40 at e
  subst ne_0
  refine f40.run ?_
  unfold f40.runT
  obtain ⟨y1, g2, e⟩ := bind_e e
  obtain ⟨m7, u8, s13, ⟨⟨r11, k12⟩, _⟩, B9, C10⟩ := O.lend0 [0]
  replace r11 : Rd 1 (eInt .i64) m7 A_0 a_0 := r11
  replace k12 : List.length a_0 ≤ c_0 := k12
  refine (slices_IndexFunc_67.walk (Hold.start (W := No) s13) rfl k12 r11 (fun h' m' u s => f_1 h' m' (u8.trans u) s) g2).mono ?_
  rintro _ h3 ⟨m4, Q5, rfl⟩
  have O14 := Hold.nm (C10 Q5 vfs_nil)
  refine ⟨_, rfl, ?_⟩
  refine split_eq_e e (fun c15 e => ?_) (fun c15 e => ?_)
  · cases e
    exact ⟨_, _, _, _, O14.pick [0], rfl, rfl⟩
  · exact slices_DeleteFunc_40.l0.walk (O14.pick [0]).nm rfl f_1 e
theorem slices_DeleteFunc_40.val {l : List Int} {p : Int → Option Bool} (q : Int → Bool) (hp : ∀ x ∈ l, p x = some (q x)) (hl : l.length ≤ 4611686018427387904) : slices_DeleteFunc_40 l p = some (l.filter fun x => !q x) := deleteFunc_val (z := (0 : Int)) (fun a p i j => slices_DeleteFunc_40.l0_eq a p i j) (fun a p i j => slices_DeleteFunc_40.j0_eq a p i j) q hp hl (slices_IndexFunc_67.val q hp hl) (fun _ _ => rfl)
def cut_Way_1.post (W : Nat → Prop) (h0 m0 : Heap) (r : Bool) (v : Value) (h : Heap) : Prop := ∃ m , Hold W h0 m0 h m [] ∧ v = .bool r
noncomputable def cut_Way_1 (x_0 : Int) (y_1 : T_api_Event) : Option (Bool) :=
  some ((x_0 == y_1.Msg))
set_option maxRecDepth 100000 in
theorem cut_Way_1.walk {W : Nat → Prop} {h m : Heap} {bk_1 : Nat} {x_0 : Int} {y_1 : T_api_Event} (O : Hold W h m h m []) (v_1 : VB T_api_Event.E m bk_1 y_1) {r : Bool} (e : cut_Way_1 x_0 y_1 = some r) : Run Try.prog 41 #[Value.int .i64 x_0, Value.pointer (some ⟨bk_1, 0, none⟩)] h (cut_Way_1.post W h m r) := by
  unfold cut_Way_1 at e
  obtain ⟨cs_1, t_1, hb_1, nn_1, e_1⟩ := id v_1
  refine f41.run ?_
  unfold f41.runT
  refine ⟨_, ldk (k := 2) O.s (Blk.all' hb_1) (T_api_Event.g2 e_1), _, rfl, ?_⟩
  cases e
  exact ⟨_, O.pick [], rfl⟩
def cut_Way.post (W : Nat → Prop) (h0 m0 : Heap) (r : (List Int) × Int) (v : Value) (h : Heap) : Prop := ∃ m A0 n0 c0, Hold W h0 m0 h m [rR (aE (tell_int .i64)) A0 c0 r.1] ∧ v = .tuple #[.slice A0 n0 c0, .int .i64 r.2] ∧ n0 = List.length r.1
inductive cut_Way.l0_k.Pt where
  | l0 (a_7 : List Bool) (a_8 : List Int) (a_21 : List T_api_Event) (x_22 : Int) (x_23 : Int)
noncomputable def cut_Way.l0_k.body (go : (p : cut_Way.l0_k.Pt) → Option ((List Int) × Int)) : (p : cut_Way.l0_k.Pt) → Option ((List Int) × Int)
  | .l0 a_7 a_8 a_21 x_22 x_23 => if x_23 < x_22 then (Option.bind (gi a_21 x_23) fun y1 => Option.bind (gi a_7 x_23) fun y14 => if y14 = true then (if y1.Kind = (2 : Int) then (Option.bind (ap 8 a_8 ([y1.Msg] : List Int)) fun l25 => (go (.l0 a_7 l25 a_21 x_22 (IntKind.wrap .i64 (x_23 + (1 : Int)))))) else (if y1.Kind = (3 : Int) then (Option.bind (slices_DeleteFunc_40 a_8 (fun z49 => cut_Way_1 z49 y1)) fun y35 => (go (.l0 a_7 y35 a_21 x_22 (IntKind.wrap .i64 (x_23 + (1 : Int)))))) else ((go (.l0 a_7 a_8 a_21 x_22 (IntKind.wrap .i64 (x_23 + (1 : Int)))))))) else ((go (.l0 a_7 a_8 a_21 x_22 (IntKind.wrap .i64 (x_23 + (1 : Int))))))) else (Option.bind (slices_Sort_18 a_8) fun y68 => Option.bind (slices_Clone_42 y68) fun y80 => some (y80, (0 : Int)))
attribute [local irreducible] cut_Way_1 in
theorem cut_Way.l0_k.mono : MonoF (β := fun _ => ((List Int) × Int)) cut_Way.l0_k.body := fun f g hfg p => match p with
  | .l0 a_7 a_8 a_21 x_22 x_23 => LeO.ite (LeO.bind (LeO.refl _) fun y1 => LeO.bind (LeO.refl _) fun y14 => LeO.ite (LeO.ite (LeO.bind (LeO.refl _) fun l25 => (hfg _)) (LeO.ite (LeO.bind (LeO.refl _) fun y35 => (hfg _)) ((hfg _)))) ((hfg _))) (LeO.bind (LeO.refl _) fun y68 => LeO.bind (LeO.refl _) fun y80 => LeO.refl _)
noncomputable def cut_Way.l0_k.go (p : cut_Way.l0_k.Pt) : Option ((List Int) × Int) := fixF (β := fun _ => ((List Int) × Int)) cut_Way.l0_k.body p
noncomputable def cut_Way.l0 (a_7 : List Bool) (a_8 : List Int) (a_21 : List T_api_Event) (x_22 : Int) (x_23 : Int) : Option ((List Int) × Int) := cut_Way.l0_k.go (.l0 a_7 a_8 a_21 x_22 x_23)
theorem cut_Way.l0_eq (a_7 : List Bool) (a_8 : List Int) (a_21 : List T_api_Event) (x_22 : Int) (x_23 : Int) : cut_Way.l0 a_7 a_8 a_21 x_22 x_23 = if x_23 < x_22 then (Option.bind (gi a_21 x_23) fun y1 => Option.bind (gi a_7 x_23) fun y14 => if y14 = true then (if y1.Kind = (2 : Int) then (Option.bind (ap 8 a_8 ([y1.Msg] : List Int)) fun l25 => (cut_Way.l0 a_7 l25 a_21 x_22 (IntKind.wrap .i64 (x_23 + (1 : Int))))) else (if y1.Kind = (3 : Int) then (Option.bind (slices_DeleteFunc_40 a_8 (fun z49 => cut_Way_1 z49 y1)) fun y35 => (cut_Way.l0 a_7 y35 a_21 x_22 (IntKind.wrap .i64 (x_23 + (1 : Int))))) else ((cut_Way.l0 a_7 a_8 a_21 x_22 (IntKind.wrap .i64 (x_23 + (1 : Int))))))) else ((cut_Way.l0 a_7 a_8 a_21 x_22 (IntKind.wrap .i64 (x_23 + (1 : Int)))))) else (Option.bind (slices_Sort_18 a_8) fun y68 => Option.bind (slices_Clone_42 y68) fun y80 => some (y80, (0 : Int))) := fixF_eq cut_Way.l0_k.mono _
def cut_Way.l0_k.I : (p : cut_Way.l0_k.Pt) → ((List Int) × Int) → Prop
  | .l0 a_7 a_8 a_21 x_22 x_23, r => ∀ (W : Nat → Prop) (h0 m0 h m : Heap) (A_7 : Option Addr) (n_7 c_7 : Nat) (A_8 : Option Addr) (n_8 c_8 : Nat) (A_21 : Option Addr) (n_21 c_21 : Nat) (O : Hold W h0 m0 h m [rR (aE tell_bool) A_7 c_7 a_7, rR (aE (tell_int .i64)) A_8 c_8 a_8]) (ne_7 : n_7 = List.length a_7) (ne_8 : n_8 = List.length a_8) (ne_21 : n_21 = List.length a_21) (k_21 : List.length a_21 ≤ c_21) (r_21 : Rd 3 T_api_Event.E m A_21 a_21), f9.l0 (cut_Way.post W h0 m0 r) A_7 n_7 c_7 A_8 n_8 c_8 A_21 n_21 c_21 x_22 x_23 h
set_option maxHeartbeats 4000000 in
set_option maxRecDepth 100000 in
theorem cut_Way.l0_k.step_l0 (go : (p : cut_Way.l0_k.Pt) → Option ((List Int) × Int)) (ih : ∀ p r, go p = some r → cut_Way.l0_k.I p r) (a_7 : List Bool) (a_8 : List Int) (a_21 : List T_api_Event) (x_22 : Int) (x_23 : Int) (r : (List Int) × Int) (e : cut_Way.l0_k.body go (.l0 a_7 a_8 a_21 x_22 x_23) = some r) : cut_Way.l0_k.I (.l0 a_7 a_8 a_21 x_22 x_23) r := by
  unfold cut_Way.l0_k.body at e
  intro W h0 m0 h m A_7 n_7 c_7 A_8 n_8 c_8 A_21 n_21 c_21 O ne_7 ne_8 ne_21 k_21 r_21
  subst ne_7
  subst ne_8
  subst ne_21
  refine f9.l0_in ?_
  unfold f9.l0T
  refine split_dec_e e (fun c99 e => ?_) (fun c99 e => ?_)
  · obtain ⟨y1, g2, e⟩ := bind_e e
    refine r_21.addr rfl g2 fun a3 cs4 ha5 hc6 he7 => ?_
    refine ⟨_, ldAn O.s hc6 rfl, ?_⟩
    refine O.new fun h8 x9 O10 => ?_
    refine ⟨_, rfl, (T_api_Event.T.len _ _ _ he7), ?_⟩
    refine O10.stA 2 rfl (T_api_Event.T.len _ _ _ he7) (T_api_Event.T.flat _ _ _ he7) fun h12 O13 => ?_
    obtain ⟨y14, g15, e⟩ := bind_e e
    refine (O13.os 0 rfl).addr rfl g15 fun a16 cs17 ha18 hc19 he20 => ?_
    obtain rfl : cs17 = [(Value.bool y14)] := he20
    refine ⟨_, ld0 (Sub.refl _) hc19 rfl, _, rfl, ?_⟩
    refine split_not ?_
    refine split_any_e e (fun c67 e => ?_) (fun c67 e => ?_)
    · refine ⟨_, ldk (k := 1) (Sub.refl _) (O13.all 2 rfl) (T_api_Event.g1 he7), _, rfl, ?_⟩
      refine split_eq_e e (fun c65 e => ?_) (fun c65 e => ?_)
      · refine ⟨_, ldk (k := 2) (Sub.refl _) (O13.all 2 rfl) (T_api_Event.g2 he7), _, rfl, ?_⟩
        refine O13.new fun h21 x22 O23 => ?_
        obtain ⟨l25, g26, e⟩ := bind_e e
        have O33 := O23.rowE (l := ([y1.Msg] : List Int)) 3 rfl (tell_int .i64) (show CsE _ _ _ _ _ from (CsE.cons (c1 := [(Value.int .i64 y1.Msg)]) rfl rfl CsE.nil)) rfl
        refine O33.app 1 rfl rfl rfl ((O33.os 3 rfl).srcE rfl) (by decide) g26 fun A27 c28 h29 O30 => ?_
        refine ⟨_, _, _, rfl, ?_⟩
        have O34 := O30.nm
        exact (ih _ _ e) _ _ _ _ _ _ _ _ _ _ _ _ _ _ (O34.pick [0, 1]).nm rfl rfl rfl k_21 r_21
      · refine split_eq_e e (fun c64 e => ?_) (fun c64 e => ?_)
        · obtain ⟨y35, g36, e⟩ := bind_e e
          have O41 := O13.nm
          obtain ⟨m42, W47, u43, P48, ⟨hb46, _⟩, B44, C45⟩ := O41.lend [1] [2]
          refine (slices_DeleteFunc_40.walk P48 rfl (fun h50 m51 u52 s53 x56 r54 e55 => CallF.of [Value.int .i64 x56, Value.pointer (some ⟨(Array.size h), 0, none⟩)] f41.ok rfl ((cut_Way_1.walk (Hold.start (W := No) s53) (VB.sub (show VB T_api_Event.E _ _ _ from ⟨_, _, hb46, nn_len (T_api_Event.T.len _ _ _ he7), (T_api_Event.T.mono _ _ _ _ u43 he7)⟩) T_api_Event.T u52) e55).mono (fun _ _ h => let ⟨_, t, e⟩ := h; ⟨e, t.S.ext⟩))) g36).mono ?_
          rintro _ h37 ⟨m38, A57, n58, c59, Q39, rfl, ne60⟩
          have O62 := Hold.nm (C45 Q39 (vfs_cons (rR_vf (aE_vf (fun _ _ _ _ h => h))) vfs_nil))
          subst ne60
          refine ⟨_, _, _, rfl, ?_⟩
          exact (ih _ _ e) _ _ _ _ _ _ _ _ _ _ _ _ _ _ (O62.pick [0, 3]).nm rfl rfl rfl k_21 r_21
        · have O63 := O13.nm
          exact (ih _ _ e) _ _ _ _ _ _ _ _ _ _ _ _ _ _ (O63.pick [0, 1]).nm rfl rfl rfl k_21 r_21
    · have O66 := O13.nm
      exact (ih _ _ e) _ _ _ _ _ _ _ _ _ _ _ _ _ _ (O66.pick [0, 1]).nm rfl rfl rfl k_21 r_21
  · obtain ⟨y68, g69, e⟩ := bind_e e
    obtain ⟨W74, P75, B76, C77⟩ := O.callC [1]
    refine (slices_Sort_18.walk P75 rfl g69).mono ?_
    rintro _ h70 ⟨m71, Q72, rfl, hl78⟩
    have O79 := Hold.nm (C77 Q72 (vfs_cons (rR_vf (aE_vf (fun _ _ _ _ h => h))) vfs_nil))
    refine ⟨rfl, ?_⟩
    obtain ⟨y80, g81, e⟩ := bind_e e
    obtain ⟨m86, u87, s92, ⟨⟨r90, k91⟩, _⟩, B88, C89⟩ := O79.lend0 [2]
    replace r90 : Rd 1 (eInt .i64) m86 A_8 y68 := r90
    replace k91 : List.length y68 ≤ c_8 := k91
    refine (slices_Clone_42.walk (Hold.start (W := No) s92) hl78 k91 r90 g81).mono ?_
    rintro _ h82 ⟨m83, A93, n94, c95, Q84, rfl, ne96⟩
    have O98 := Hold.nm (C89 Q84 (vfs_cons (rR_vf (aE_vf (fun _ _ _ _ h => h))) vfs_nil))
    subst ne96
    refine ⟨_, _, _, rfl, ?_⟩
    cases e
    exact ⟨_, _, _, _, O98.pick [3], rfl, rfl⟩
theorem cut_Way.l0_k.all {p : cut_Way.l0_k.Pt} {r : ((List Int) × Int)} (e : cut_Way.l0_k.go p = some r) : cut_Way.l0_k.I p r := fixF_ind (β := fun _ => ((List Int) × Int)) cut_Way.l0_k.mono (I := cut_Way.l0_k.I) (fun go ih p r e => match p with
  | .l0 a_7 a_8 a_21 x_22 x_23 => cut_Way.l0_k.step_l0 go ih a_7 a_8 a_21 x_22 x_23 r e
  ) e
theorem cut_Way.l0.walk {W : Nat → Prop} {h0 m0 h m : Heap} {A_7 : Option Addr} {n_7 c_7 : Nat} {A_8 : Option Addr} {n_8 c_8 : Nat} {A_21 : Option Addr} {n_21 c_21 : Nat} {a_7 : List Bool} {a_8 : List Int} {a_21 : List T_api_Event} {x_22 : Int} {x_23 : Int} (O : Hold W h0 m0 h m [rR (aE tell_bool) A_7 c_7 a_7, rR (aE (tell_int .i64)) A_8 c_8 a_8]) (ne_7 : n_7 = List.length a_7) (ne_8 : n_8 = List.length a_8) (ne_21 : n_21 = List.length a_21) (k_21 : List.length a_21 ≤ c_21) (r_21 : Rd 3 T_api_Event.E m A_21 a_21) {r : (List Int) × Int} (e : cut_Way.l0 a_7 a_8 a_21 x_22 x_23 = some r) : f9.l0 (cut_Way.post W h0 m0 r) A_7 n_7 c_7 A_8 n_8 c_8 A_21 n_21 c_21 x_22 x_23 h := cut_Way.l0_k.all (p := .l0 a_7 a_8 a_21 x_22 x_23) e W h0 m0 h m A_7 n_7 c_7 A_8 n_8 c_8 A_21 n_21 c_21 O ne_7 ne_8 ne_21 k_21 r_21
noncomputable def cut_Way (a_0 : List T_api_Event) (a_1 : List Int) : Option ((List Int) × Int) :=
  Option.bind (cut_check a_0 ([a_1] : List (List Int))) fun y6 => if y6 = (0 : Int) then (Option.bind (cut_inside a_0 a_1) fun y24 => (cut_Way.l0 y24 ([] : List Int) a_0 (((List.length a_0) : Nat) : Int) (0 : Int))) else (some (([] : List Int), y6))
set_option maxRecDepth 100000 in
theorem cut_Way.walk {W : Nat → Prop} {h m : Heap} {A_0 : Option Addr} {n_0 c_0 : Nat} {A_1 : Option Addr} {n_1 c_1 : Nat} {a_0 : List T_api_Event} {a_1 : List Int} (O : Hold W h m h m []) (ne_0 : n_0 = List.length a_0) (k_0 : List.length a_0 ≤ c_0) (r_0 : Rd 3 T_api_Event.E m A_0 a_0) (ne_1 : n_1 = List.length a_1) (k_1 : List.length a_1 ≤ c_1) (r_1 : Rd 1 (eInt .i64) m A_1 a_1) {r : (List Int) × Int} (e : cut_Way a_0 a_1 = some r) : Run Try.prog 9 #[Value.slice A_0 n_0 c_0, Value.slice A_1 n_1 c_1] h (cut_Way.post W h m r) := by
  unfold cut_Way at e
  subst ne_0
  subst ne_1
  refine f9.run ?_
  unfold f9.runT
  refine O.new fun h1 x2 O3 => ?_
  obtain ⟨y6, g7, e⟩ := bind_e e
  have O5 := O3.rowE (l := ([a_1] : List (List Int))) 0 rfl (tell_row (tell_int .i64)) (show CsE _ _ _ _ _ from (CsE.cons (c1 := [(Value.slice A_1 (List.length a_1) c_1)]) ⟨_, _, rfl, k_1, r_1⟩ rfl CsE.nil)) rfl
  have O12 := O5.nm
  obtain ⟨m13, u14, s19, ⟨⟨r17, k18⟩, _⟩, B15, C16⟩ := O12.lend0 [0]
  replace r17 : Rd 1 (eRow 1 (eInt .i64)) m13 (some ⟨(Array.size h), 0, none⟩) ([a_1] : List (List Int)) := r17
  replace k18 : List.length ([a_1] : List (List Int)) ≤ 1 := k18
  refine (cut_check.walk (Hold.start (W := No) s19) rfl k_0 (r_0.sub T_api_Event.T u14) rfl k18 r17 g7).mono ?_
  rintro _ h8 ⟨m9, Q10, rfl⟩
  have O20 := Hold.nm (C16 Q10 vfs_nil)
  refine ⟨_, rfl, ?_⟩
  refine split_ne_e e (fun c39 e => ?_) (fun c39 e => ?_)
  · have O21 := O20.nil (aE (tell_int .i64)) none
    have O23 := O21.nm
    cases e
    exact ⟨_, _, _, _, O23.pick [1], rfl, rfl⟩
  · obtain ⟨y24, g25, e⟩ := bind_e e
    refine (cut_inside.walk (Hold.start (W := No) O20.s) rfl k_0 r_0 rfl k_1 r_1 g25).mono ?_
    rintro _ h26 ⟨m27, A30, n31, c32, Q28, rfl, ne33⟩
    have O35 := Hold.nm (O20.retC Q28 (vfs_cons (rR_vf (aE_vf (fun _ _ _ _ h => h))) vfs_nil))
    subst ne33
    refine ⟨_, _, _, rfl, ?_⟩
    have O36 := O35.nil (aE (tell_int .i64)) none
    have O38 := O36.nm
    exact cut_Way.l0.walk (O38.pick [1, 2]).nm rfl rfl rfl k_0 r_0 e
def cut_Most.post (W : Nat → Prop) (h0 m0 : Heap) (r : (List Int) × Int) (v : Value) (h : Heap) : Prop := ∃ m A0 n0 c0, Hold W h0 m0 h m [rR (aE (tell_int .i64)) A0 c0 r.1] ∧ v = .tuple #[.slice A0 n0 c0, .int .i64 r.2] ∧ n0 = List.length r.1
inductive cut_Most.l0_k.Pt where
  | l0 (a_0 : List T_api_Event) (a_7 : List Int)
  | l1 (a_0 : List T_api_Event) (a_7 : List Int) (a_8 : List Bool) (es_9 : (List (Int × Bool))) (y_10 : (List Int)) (a_30 : List T_api_Event) (x_31 : Int) (x_32 : Int)
  | j0 (a_0 : List T_api_Event) (a_7 : List Int) (a_8 : List Bool) (es_9 : (List (Int × Bool))) (y_10 : (List Int)) (x_11 : Int) (y_12 : T_api_Event) (a_30 : List T_api_Event) (x_31 : Int) (x_32 : Int)
  | j1 (a_0 : List T_api_Event) (a_7 : List Int) (a_8 : List Bool) (es_9 : (List (Int × Bool))) (y_10 : (List Int)) (y_12 : T_api_Event) (a_30 : List T_api_Event) (x_31 : Int) (x_32 : Int) (b_68 : Bool)
noncomputable def cut_Most.l0_k.body (go : (p : cut_Most.l0_k.Pt) → Option ((List Int) × Int)) : (p : cut_Most.l0_k.Pt) → Option ((List Int) × Int)
  | .l0 a_0 a_7 => Option.bind (cut_whole a_0 a_7) fun y1 => if y1 = true then (some (a_7, (0 : Int))) else (Option.bind (cut_inside a_0 a_7) fun y15 => (go (.l1 a_0 a_7 y15 ([] : (List (Int × Bool))) (List.replicate 8 (0 : Int)) a_0 (((List.length a_0) : Nat) : Int) (0 : Int))))
  | .l1 a_0 a_7 a_8 es_9 y_10 a_30 x_31 x_32 => if x_32 < x_31 then (Option.bind (gi a_30 x_32) fun y1 => Option.bind (gi y_10 y1.Place) fun y14 => Option.bind (gi y_10 y1.Place) fun y16 => Option.bind (some (List.set y_10 (Int.toNat y1.Place) (IntKind.wrap .i64 (y14 + (1 : Int))))) fun l18 => if y1.Kind = (2 : Int) then (Option.bind (gi a_8 x_32) fun y26 => Option.bind (some (pset es_9 y1.Msg y26)) fun l35 => (go (.j0 a_0 a_7 a_8 l35 l18 x_32 y1 a_30 x_31 x_32))) else ((go (.j0 a_0 a_7 a_8 es_9 l18 x_32 y1 a_30 x_31 x_32)))) else ((go (.l0 a_0 a_7)))
  | .j0 a_0 a_7 a_8 es_9 y_10 x_11 y_12 a_30 x_31 x_32 => if y_12.Kind = (3 : Int) then (Option.bind (gi a_8 x_11) fun y1 => if y1 = true then ((go (.j1 a_0 a_7 a_8 es_9 y_10 y_12 a_30 x_31 x_32 (!(pgd es_9 y_12.Msg false))))) else ((go (.j1 a_0 a_7 a_8 es_9 y_10 y_12 a_30 x_31 x_32 false)))) else ((go (.j1 a_0 a_7 a_8 es_9 y_10 y_12 a_30 x_31 x_32 false)))
  | .j1 a_0 a_7 a_8 es_9 y_10 y_12 a_30 x_31 x_32 b_68 => if b_68 = true then (Option.bind (gi a_7 y_12.Place) fun y1 => Option.bind (gi y_10 y_12.Place) fun y8 => Option.bind (gi a_7 y_12.Place) fun y10 => Option.bind (some (List.set a_7 (Int.toNat y_12.Place) (if (IntKind.wrap .i64 (y8 - (1 : Int))) < y1 then (IntKind.wrap .i64 (y8 - (1 : Int))) else y1))) fun l19 => (go (.l1 a_0 l19 a_8 es_9 y_10 a_30 x_31 (IntKind.wrap .i64 (x_32 + (1 : Int)))))) else ((go (.l1 a_0 a_7 a_8 es_9 y_10 a_30 x_31 (IntKind.wrap .i64 (x_32 + (1 : Int))))))
theorem cut_Most.l0_k.mono : MonoF (β := fun _ => ((List Int) × Int)) cut_Most.l0_k.body := fun f g hfg p => match p with
  | .l0 a_0 a_7 => LeO.bind (LeO.refl _) fun y1 => LeO.ite (LeO.refl _) (LeO.bind (LeO.refl _) fun y15 => (hfg _))
  | .l1 a_0 a_7 a_8 es_9 y_10 a_30 x_31 x_32 => LeO.ite (LeO.bind (LeO.refl _) fun y1 => LeO.bind (LeO.refl _) fun y14 => LeO.bind (LeO.refl _) fun y16 => LeO.bind (LeO.refl _) fun l18 => LeO.ite (LeO.bind (LeO.refl _) fun y26 => LeO.bind (LeO.refl _) fun l35 => (hfg _)) ((hfg _))) ((hfg _))
  | .j0 a_0 a_7 a_8 es_9 y_10 x_11 y_12 a_30 x_31 x_32 => LeO.ite (LeO.bind (LeO.refl _) fun y1 => LeO.ite ((hfg _)) ((hfg _))) ((hfg _))
  | .j1 a_0 a_7 a_8 es_9 y_10 y_12 a_30 x_31 x_32 b_68 => LeO.ite (LeO.bind (LeO.refl _) fun y1 => LeO.bind (LeO.refl _) fun y8 => LeO.bind (LeO.refl _) fun y10 => LeO.bind (LeO.refl _) fun l19 => (hfg _)) ((hfg _))
noncomputable def cut_Most.l0_k.go (p : cut_Most.l0_k.Pt) : Option ((List Int) × Int) := fixF (β := fun _ => ((List Int) × Int)) cut_Most.l0_k.body p
noncomputable def cut_Most.l0 (a_0 : List T_api_Event) (a_7 : List Int) : Option ((List Int) × Int) := cut_Most.l0_k.go (.l0 a_0 a_7)
noncomputable def cut_Most.l1 (a_0 : List T_api_Event) (a_7 : List Int) (a_8 : List Bool) (es_9 : (List (Int × Bool))) (y_10 : (List Int)) (a_30 : List T_api_Event) (x_31 : Int) (x_32 : Int) : Option ((List Int) × Int) := cut_Most.l0_k.go (.l1 a_0 a_7 a_8 es_9 y_10 a_30 x_31 x_32)
noncomputable def cut_Most.j0 (a_0 : List T_api_Event) (a_7 : List Int) (a_8 : List Bool) (es_9 : (List (Int × Bool))) (y_10 : (List Int)) (x_11 : Int) (y_12 : T_api_Event) (a_30 : List T_api_Event) (x_31 : Int) (x_32 : Int) : Option ((List Int) × Int) := cut_Most.l0_k.go (.j0 a_0 a_7 a_8 es_9 y_10 x_11 y_12 a_30 x_31 x_32)
noncomputable def cut_Most.j1 (a_0 : List T_api_Event) (a_7 : List Int) (a_8 : List Bool) (es_9 : (List (Int × Bool))) (y_10 : (List Int)) (y_12 : T_api_Event) (a_30 : List T_api_Event) (x_31 : Int) (x_32 : Int) (b_68 : Bool) : Option ((List Int) × Int) := cut_Most.l0_k.go (.j1 a_0 a_7 a_8 es_9 y_10 y_12 a_30 x_31 x_32 b_68)
theorem cut_Most.l0_eq (a_0 : List T_api_Event) (a_7 : List Int) : cut_Most.l0 a_0 a_7 = Option.bind (cut_whole a_0 a_7) fun y1 => if y1 = true then (some (a_7, (0 : Int))) else (Option.bind (cut_inside a_0 a_7) fun y15 => (cut_Most.l1 a_0 a_7 y15 ([] : (List (Int × Bool))) (List.replicate 8 (0 : Int)) a_0 (((List.length a_0) : Nat) : Int) (0 : Int))) := fixF_eq cut_Most.l0_k.mono _
theorem cut_Most.l1_eq (a_0 : List T_api_Event) (a_7 : List Int) (a_8 : List Bool) (es_9 : (List (Int × Bool))) (y_10 : (List Int)) (a_30 : List T_api_Event) (x_31 : Int) (x_32 : Int) : cut_Most.l1 a_0 a_7 a_8 es_9 y_10 a_30 x_31 x_32 = if x_32 < x_31 then (Option.bind (gi a_30 x_32) fun y1 => Option.bind (gi y_10 y1.Place) fun y14 => Option.bind (gi y_10 y1.Place) fun y16 => Option.bind (some (List.set y_10 (Int.toNat y1.Place) (IntKind.wrap .i64 (y14 + (1 : Int))))) fun l18 => if y1.Kind = (2 : Int) then (Option.bind (gi a_8 x_32) fun y26 => Option.bind (some (pset es_9 y1.Msg y26)) fun l35 => (cut_Most.j0 a_0 a_7 a_8 l35 l18 x_32 y1 a_30 x_31 x_32)) else ((cut_Most.j0 a_0 a_7 a_8 es_9 l18 x_32 y1 a_30 x_31 x_32))) else ((cut_Most.l0 a_0 a_7)) := fixF_eq cut_Most.l0_k.mono _
theorem cut_Most.j0_eq (a_0 : List T_api_Event) (a_7 : List Int) (a_8 : List Bool) (es_9 : (List (Int × Bool))) (y_10 : (List Int)) (x_11 : Int) (y_12 : T_api_Event) (a_30 : List T_api_Event) (x_31 : Int) (x_32 : Int) : cut_Most.j0 a_0 a_7 a_8 es_9 y_10 x_11 y_12 a_30 x_31 x_32 = if y_12.Kind = (3 : Int) then (Option.bind (gi a_8 x_11) fun y1 => if y1 = true then ((cut_Most.j1 a_0 a_7 a_8 es_9 y_10 y_12 a_30 x_31 x_32 (!(pgd es_9 y_12.Msg false)))) else ((cut_Most.j1 a_0 a_7 a_8 es_9 y_10 y_12 a_30 x_31 x_32 false))) else ((cut_Most.j1 a_0 a_7 a_8 es_9 y_10 y_12 a_30 x_31 x_32 false)) := fixF_eq cut_Most.l0_k.mono _
theorem cut_Most.j1_eq (a_0 : List T_api_Event) (a_7 : List Int) (a_8 : List Bool) (es_9 : (List (Int × Bool))) (y_10 : (List Int)) (y_12 : T_api_Event) (a_30 : List T_api_Event) (x_31 : Int) (x_32 : Int) (b_68 : Bool) : cut_Most.j1 a_0 a_7 a_8 es_9 y_10 y_12 a_30 x_31 x_32 b_68 = if b_68 = true then (Option.bind (gi a_7 y_12.Place) fun y1 => Option.bind (gi y_10 y_12.Place) fun y8 => Option.bind (gi a_7 y_12.Place) fun y10 => Option.bind (some (List.set a_7 (Int.toNat y_12.Place) (if (IntKind.wrap .i64 (y8 - (1 : Int))) < y1 then (IntKind.wrap .i64 (y8 - (1 : Int))) else y1))) fun l19 => (cut_Most.l1 a_0 l19 a_8 es_9 y_10 a_30 x_31 (IntKind.wrap .i64 (x_32 + (1 : Int))))) else ((cut_Most.l1 a_0 a_7 a_8 es_9 y_10 a_30 x_31 (IntKind.wrap .i64 (x_32 + (1 : Int))))) := fixF_eq cut_Most.l0_k.mono _
def cut_Most.l0_k.I : (p : cut_Most.l0_k.Pt) → ((List Int) × Int) → Prop
  | .l0 a_0 a_7, r => ∀ (W : Nat → Prop) (h0 m0 h m : Heap) (A_0 : Option Addr) (n_0 c_0 : Nat) (A_7 : Option Addr) (n_7 c_7 : Nat) (O : Hold W h0 m0 h m [rR (aE (tell_int .i64)) A_7 c_7 a_7]) (ne_0 : n_0 = List.length a_0) (k_0 : List.length a_0 ≤ c_0) (r_0 : Rd 3 T_api_Event.E m A_0 a_0) (ne_7 : n_7 = List.length a_7), f10.l0 (cut_Most.post W h0 m0 r) A_0 n_0 c_0 A_7 n_7 c_7 h
  | .l1 a_0 a_7 a_8 es_9 y_10 a_30 x_31 x_32, r => ∀ (W : Nat → Prop) (h0 m0 h m : Heap) (A_0 : Option Addr) (n_0 c_0 : Nat) (A_7 : Option Addr) (n_7 c_7 : Nat) (A_8 : Option Addr) (n_8 c_8 : Nat) (bk_9 : Nat) (bk_10 : Nat) (cs_10 : List Value) (A_30 : Option Addr) (n_30 c_30 : Nat) (O : Hold W h0 m0 h m [rR (aE (tell_int .i64)) A_7 c_7 a_7, rR (aE tell_bool) A_8 c_8 a_8, rM (monoV0 tell_bool) (fun n : Int => Value.int .i64 n) bk_9 es_9, rV bk_10 82 cs_10]) (ne_0 : n_0 = List.length a_0) (k_0 : List.length a_0 ≤ c_0) (r_0 : Rd 3 T_api_Event.E m A_0 a_0) (ne_7 : n_7 = List.length a_7) (ne_8 : n_8 = List.length a_8) (e_10 : (eArr 8 (fun n : Int => Value.int .i64 n) (0 : Int)) m y_10 cs_10) (ne_30 : n_30 = List.length a_30) (k_30 : List.length a_30 ≤ c_30) (r_30 : Rd 3 T_api_Event.E m A_30 a_30), f10.l1 (cut_Most.post W h0 m0 r) A_0 n_0 c_0 A_7 n_7 c_7 A_8 n_8 c_8 (Value.map (some bk_9)) (⟨bk_10, 0, none⟩ : Addr) A_30 n_30 c_30 x_31 x_32 h
  | .j0 a_0 a_7 a_8 es_9 y_10 x_11 y_12 a_30 x_31 x_32, r => ∀ (W : Nat → Prop) (h0 m0 h m : Heap) (A_0 : Option Addr) (n_0 c_0 : Nat) (A_7 : Option Addr) (n_7 c_7 : Nat) (A_8 : Option Addr) (n_8 c_8 : Nat) (bk_9 : Nat) (bk_10 : Nat) (cs_10 : List Value) (bk_12 : Nat) (cs_12 : List Value) (A_30 : Option Addr) (n_30 c_30 : Nat) (O : Hold W h0 m0 h m [rR (aE (tell_int .i64)) A_7 c_7 a_7, rR (aE tell_bool) A_8 c_8 a_8, rM (monoV0 tell_bool) (fun n : Int => Value.int .i64 n) bk_9 es_9, rV bk_10 82 cs_10, rV bk_12 36 cs_12]) (ne_0 : n_0 = List.length a_0) (k_0 : List.length a_0 ≤ c_0) (r_0 : Rd 3 T_api_Event.E m A_0 a_0) (ne_7 : n_7 = List.length a_7) (ne_8 : n_8 = List.length a_8) (e_10 : (eArr 8 (fun n : Int => Value.int .i64 n) (0 : Int)) m y_10 cs_10) (e_12 : T_api_Event.E m y_12 cs_12) (ne_30 : n_30 = List.length a_30) (k_30 : List.length a_30 ≤ c_30) (r_30 : Rd 3 T_api_Event.E m A_30 a_30), f10.j0 (cut_Most.post W h0 m0 r) A_0 n_0 c_0 A_7 n_7 c_7 A_8 n_8 c_8 (Value.map (some bk_9)) (⟨bk_10, 0, none⟩ : Addr) x_11 (⟨bk_12, 0, none⟩ : Addr) A_30 n_30 c_30 x_31 x_32 h
  | .j1 a_0 a_7 a_8 es_9 y_10 y_12 a_30 x_31 x_32 b_68, r => ∀ (W : Nat → Prop) (h0 m0 h m : Heap) (A_0 : Option Addr) (n_0 c_0 : Nat) (A_7 : Option Addr) (n_7 c_7 : Nat) (A_8 : Option Addr) (n_8 c_8 : Nat) (bk_9 : Nat) (bk_10 : Nat) (cs_10 : List Value) (bk_12 : Nat) (cs_12 : List Value) (A_30 : Option Addr) (n_30 c_30 : Nat) (O : Hold W h0 m0 h m [rR (aE (tell_int .i64)) A_7 c_7 a_7, rR (aE tell_bool) A_8 c_8 a_8, rM (monoV0 tell_bool) (fun n : Int => Value.int .i64 n) bk_9 es_9, rV bk_10 82 cs_10, rV bk_12 36 cs_12]) (ne_0 : n_0 = List.length a_0) (k_0 : List.length a_0 ≤ c_0) (r_0 : Rd 3 T_api_Event.E m A_0 a_0) (ne_7 : n_7 = List.length a_7) (ne_8 : n_8 = List.length a_8) (e_10 : (eArr 8 (fun n : Int => Value.int .i64 n) (0 : Int)) m y_10 cs_10) (e_12 : T_api_Event.E m y_12 cs_12) (ne_30 : n_30 = List.length a_30) (k_30 : List.length a_30 ≤ c_30) (r_30 : Rd 3 T_api_Event.E m A_30 a_30), f10.j1 (cut_Most.post W h0 m0 r) A_0 n_0 c_0 A_7 n_7 c_7 A_8 n_8 c_8 (Value.map (some bk_9)) (⟨bk_10, 0, none⟩ : Addr) (⟨bk_12, 0, none⟩ : Addr) A_30 n_30 c_30 x_31 x_32 b_68 h
set_option maxRecDepth 100000 in
theorem cut_Most.l0_k.step_l0 (go : (p : cut_Most.l0_k.Pt) → Option ((List Int) × Int)) (ih : ∀ p r, go p = some r → cut_Most.l0_k.I p r) (a_0 : List T_api_Event) (a_7 : List Int) (r : (List Int) × Int) (e : cut_Most.l0_k.body go (.l0 a_0 a_7) = some r) : cut_Most.l0_k.I (.l0 a_0 a_7) r := by
  unfold cut_Most.l0_k.body at e
  intro W h0 m0 h m A_0 n_0 c_0 A_7 n_7 c_7 O ne_0 k_0 r_0 ne_7
  subst ne_0
  subst ne_7
  refine f10.l0_in ?_
  unfold f10.l0T
  obtain ⟨y1, g2, e⟩ := bind_e e
  obtain ⟨m7, u8, s13, ⟨⟨r11, k12⟩, _⟩, B9, C10⟩ := O.lend0 [0]
  replace r11 : Rd 1 (eInt .i64) m7 A_7 a_7 := r11
  replace k12 : List.length a_7 ≤ c_7 := k12
  refine (cut_whole.walk (Hold.start (W := No) s13) rfl k_0 (r_0.sub T_api_Event.T u8) rfl k12 r11 g2).mono ?_
  rintro _ h3 ⟨m4, Q5, rfl⟩
  have O14 := Hold.nm (C10 Q5 vfs_nil)
  refine ⟨_, rfl, ?_⟩
  refine split_not ?_
  refine split_any_e e (fun c43 e => ?_) (fun c43 e => ?_)
  · cases e
    exact ⟨_, _, _, _, O14.pick [0], rfl, rfl⟩
  · obtain ⟨y15, g16, e⟩ := bind_e e
    obtain ⟨m21, u22, s27, ⟨⟨r25, k26⟩, _⟩, B23, C24⟩ := O14.lend0 [0]
    replace r25 : Rd 1 (eInt .i64) m21 A_7 a_7 := r25
    replace k26 : List.length a_7 ≤ c_7 := k26
    refine (cut_inside.walk (Hold.start (W := No) s27) rfl k_0 (r_0.sub T_api_Event.T u22) rfl k26 r25 g16).mono ?_
    rintro _ h17 ⟨m18, A28, n29, c30, Q19, rfl, ne31⟩
    have O33 := Hold.nm (C24 Q19 (vfs_cons (rR_vf (aE_vf (fun _ _ _ _ h => h))) vfs_nil))
    subst ne31
    refine ⟨_, _, _, rfl, ?_⟩
    refine O33.mkMap (ν := Bool) (monoV0 tell_bool) (fun n : Int => Value.int .i64 n) fun h34 x35 O36 => ?_
    refine O36.new fun h38 x39 O40 => ?_
    have O42 := O40.nm
    exact (ih _ _ e) _ _ _ _ _ _ _ _ _ _ _ _ _ _ _ _ _ _ _ _ (O42.pick [0, 1, 2, 3]).nm rfl k_0 r_0 rfl rfl ⟨rfl, rfl⟩ rfl k_0 r_0
set_option maxHeartbeats 4000000 in
set_option maxRecDepth 100000 in
theorem cut_Most.l0_k.step_l1 (go : (p : cut_Most.l0_k.Pt) → Option ((List Int) × Int)) (ih : ∀ p r, go p = some r → cut_Most.l0_k.I p r) (a_0 : List T_api_Event) (a_7 : List Int) (a_8 : List Bool) (es_9 : (List (Int × Bool))) (y_10 : (List Int)) (a_30 : List T_api_Event) (x_31 : Int) (x_32 : Int) (r : (List Int) × Int) (e : cut_Most.l0_k.body go (.l1 a_0 a_7 a_8 es_9 y_10 a_30 x_31 x_32) = some r) : cut_Most.l0_k.I (.l1 a_0 a_7 a_8 es_9 y_10 a_30 x_31 x_32) r := by
  unfold cut_Most.l0_k.body at e
  intro W h0 m0 h m A_0 n_0 c_0 A_7 n_7 c_7 A_8 n_8 c_8 bk_9 bk_10 cs_10 A_30 n_30 c_30 O ne_0 k_0 r_0 ne_7 ne_8 e_10 ne_30 k_30 r_30
  subst ne_0
  subst ne_7
  subst ne_8
  have qe_10_0 := e_10.1
  obtain rfl : cs_10 = [(Value.int .i64 (List.getD y_10 0 (0 : Int))), (Value.int .i64 (List.getD y_10 1 (0 : Int))), (Value.int .i64 (List.getD y_10 2 (0 : Int))), (Value.int .i64 (List.getD y_10 3 (0 : Int))), (Value.int .i64 (List.getD y_10 4 (0 : Int))), (Value.int .i64 (List.getD y_10 5 (0 : Int))), (Value.int .i64 (List.getD y_10 6 (0 : Int))), (Value.int .i64 (List.getD y_10 7 (0 : Int)))] := e_10.2
  subst ne_30
  refine f10.l1_in ?_
  unfold f10.l1T
  refine split_dec_e e (fun c40 e => ?_) (fun c40 e => ?_)
  · obtain ⟨y1, g2, e⟩ := bind_e e
    refine r_30.addr rfl g2 fun a3 cs4 ha5 hc6 he7 => ?_
    refine ⟨_, ldAn O.s hc6 rfl, ?_⟩
    refine O.new fun h8 x9 O10 => ?_
    refine ⟨_, rfl, (T_api_Event.T.len _ _ _ he7), ?_⟩
    refine O10.stA 4 rfl (T_api_Event.T.len _ _ _ he7) (T_api_Event.T.flat _ _ _ he7) fun h12 O13 => ?_
    refine ⟨_, ld0 (Sub.refl _) (O13.all 4 rfl) (T_api_Event.g0 he7), _, rfl, ?_⟩
    obtain ⟨y14, g15, e⟩ := bind_e e
    refine ⟨gi_le g15, gi_ltn g15 qe_10_0, ?_⟩
    refine ⟨_, ldArr0 (n := 8) (f := (fun n : Int => Value.int .i64 n)) (d := (0 : Int)) (Sub.refl _) (O13.all 3 rfl) rfl qe_10_0 g15, _, rfl, ?_⟩
    obtain ⟨y16, g17, e⟩ := bind_e e
    refine ⟨gi_le g17, gi_ltn g17 qe_10_0, ?_⟩
    obtain ⟨l18, g19, e⟩ := bind_e e
    replace g19 := Option.some.inj g19
    have q20 : List.length l18 = 8 := by rw [← g19, List.length_set]; exact qe_10_0
    obtain ⟨h21, w22, o23, t24⟩ := (O13.ob 3 rfl).stArr0 (n := 8) (f := (fun n : Int => Value.int .i64 n)) (d := (0 : Int)) (v := (IntKind.wrap .i64 (y14 + (1 : Int)))) O13.s rfl (Nat.le_of_ble_eq_true rfl) qe_10_0 g17 trivial
    rw [g19] at o23
    refine ⟨h21, w22, ?_⟩
    have O25 := O13.setV 3 rfl (cs' := [(Value.int .i64 (List.getD l18 0 (0 : Int))), (Value.int .i64 (List.getD l18 1 (0 : Int))), (Value.int .i64 (List.getD l18 2 (0 : Int))), (Value.int .i64 (List.getD l18 3 (0 : Int))), (Value.int .i64 (List.getD l18 4 (0 : Int))), (Value.int .i64 (List.getD l18 5 (0 : Int))), (Value.int .i64 (List.getD l18 6 (0 : Int))), (Value.int .i64 (List.getD l18 7 (0 : Int)))]) o23 t24
    refine ⟨_, ldk (k := 1) (Sub.refl _) (O25.all 4 rfl) (T_api_Event.g1 he7), _, rfl, ?_⟩
    refine split_eq_e e (fun c39 e => ?_) (fun c39 e => ?_)
    · obtain ⟨y26, g27, e⟩ := bind_e e
      refine (O25.os 1 rfl).addr rfl g27 fun a28 cs29 ha30 hc31 he32 => ?_
      obtain rfl : cs29 = [(Value.bool y26)] := he32
      refine ⟨_, ldk (k := 2) (Sub.refl _) (O25.all 4 rfl) (T_api_Event.g2 he7), _, rfl, ?_⟩
      refine ⟨_, ld0 (Sub.refl _) hc31 rfl, _, rfl, ?_⟩
      obtain ⟨l35, g36, e⟩ := bind_e e
      replace g36 := Option.some.inj g36
      refine O25.mapUpd (x := y26) (v := (Value.bool y26)) 2 rfl (keyOk_int (key := 3) (elem := 4) (by kernel_rfl) (by kernel_rfl)) y1.Msg (show (eV0 eBool) m y26 (Value.bool y26) from rfl) g36 fun h33 O34 => ?_
      have O37 := O34.nm
      exact (ih _ _ e) _ _ _ _ _ _ _ _ _ _ _ _ _ _ _ _ _ _ _ _ _ _ (O37.pick [0, 1, 2, 3, 4]).nm rfl k_0 r_0 rfl rfl ⟨q20, rfl⟩ he7 rfl k_30 r_30
    · have O38 := O25.nm
      exact (ih _ _ e) _ _ _ _ _ _ _ _ _ _ _ _ _ _ _ _ _ _ _ _ _ _ (O38.pick [0, 1, 2, 3, 4]).nm rfl k_0 r_0 rfl rfl ⟨q20, rfl⟩ he7 rfl k_30 r_30
  · exact (ih _ _ e) _ _ _ _ _ _ _ _ _ _ _ (O.pick [0]).nm rfl k_0 r_0 rfl
set_option maxRecDepth 100000 in
theorem cut_Most.l0_k.step_j0 (go : (p : cut_Most.l0_k.Pt) → Option ((List Int) × Int)) (ih : ∀ p r, go p = some r → cut_Most.l0_k.I p r) (a_0 : List T_api_Event) (a_7 : List Int) (a_8 : List Bool) (es_9 : (List (Int × Bool))) (y_10 : (List Int)) (x_11 : Int) (y_12 : T_api_Event) (a_30 : List T_api_Event) (x_31 : Int) (x_32 : Int) (r : (List Int) × Int) (e : cut_Most.l0_k.body go (.j0 a_0 a_7 a_8 es_9 y_10 x_11 y_12 a_30 x_31 x_32) = some r) : cut_Most.l0_k.I (.j0 a_0 a_7 a_8 es_9 y_10 x_11 y_12 a_30 x_31 x_32) r := by
  unfold cut_Most.l0_k.body at e
  intro W h0 m0 h m A_0 n_0 c_0 A_7 n_7 c_7 A_8 n_8 c_8 bk_9 bk_10 cs_10 bk_12 cs_12 A_30 n_30 c_30 O ne_0 k_0 r_0 ne_7 ne_8 e_10 e_12 ne_30 k_30 r_30
  subst ne_0
  subst ne_7
  subst ne_8
  have qe_10_0 := e_10.1
  obtain rfl : cs_10 = [(Value.int .i64 (List.getD y_10 0 (0 : Int))), (Value.int .i64 (List.getD y_10 1 (0 : Int))), (Value.int .i64 (List.getD y_10 2 (0 : Int))), (Value.int .i64 (List.getD y_10 3 (0 : Int))), (Value.int .i64 (List.getD y_10 4 (0 : Int))), (Value.int .i64 (List.getD y_10 5 (0 : Int))), (Value.int .i64 (List.getD y_10 6 (0 : Int))), (Value.int .i64 (List.getD y_10 7 (0 : Int)))] := e_10.2
  subst ne_30
  refine f10.j0_in ?_
  unfold f10.j0T
  refine ⟨_, ldk (k := 1) (Sub.refl _) (O.all 4 rfl) (T_api_Event.g1 e_12), _, rfl, ?_⟩
  refine split_eq_e e (fun c11 e => ?_) (fun c11 e => ?_)
  · obtain ⟨y1, g2, e⟩ := bind_e e
    refine (O.os 1 rfl).addr rfl g2 fun a3 cs4 ha5 hc6 he7 => ?_
    obtain rfl : cs4 = [(Value.bool y1)] := he7
    refine ⟨_, ld0 (Sub.refl _) hc6 rfl, _, rfl, ?_⟩
    refine split_any_e e (fun c10 e => ?_) (fun c10 e => ?_)
    · refine ⟨_, ldk (k := 2) (Sub.refl _) (O.all 4 rfl) (T_api_Event.g2 e_12), _, rfl, ?_⟩
      refine (O.om 2 rfl).look (zv := false) (z := (Value.bool false)) (keyOk_int (key := 3) (elem := 4) (by kernel_rfl) (by kernel_rfl)) y_12.Msg (by kernel_rfl) rfl (fun v8 hv9 => ?_)
      obtain rfl : v8 = (Value.bool (pgd es_9 y_12.Msg false)) := (List.cons.inj (show [v8] = [(Value.bool (pgd es_9 y_12.Msg false))] from hv9)).1
      refine ⟨_, rfl, ?_⟩
      exact (ih _ _ e) _ _ _ _ _ _ _ _ _ _ _ _ _ _ _ _ _ _ _ _ _ _ (O.pick [0, 1, 2, 3, 4]).nm rfl k_0 r_0 rfl rfl ⟨qe_10_0, rfl⟩ e_12 rfl k_30 r_30
    · exact (ih _ _ e) _ _ _ _ _ _ _ _ _ _ _ _ _ _ _ _ _ _ _ _ _ _ (O.pick [0, 1, 2, 3, 4]).nm rfl k_0 r_0 rfl rfl ⟨qe_10_0, rfl⟩ e_12 rfl k_30 r_30
  · exact (ih _ _ e) _ _ _ _ _ _ _ _ _ _ _ _ _ _ _ _ _ _ _ _ _ _ (O.pick [0, 1, 2, 3, 4]).nm rfl k_0 r_0 rfl rfl ⟨qe_10_0, rfl⟩ e_12 rfl k_30 r_30
set_option maxRecDepth 100000 in
theorem cut_Most.l0_k.step_j1 (go : (p : cut_Most.l0_k.Pt) → Option ((List Int) × Int)) (ih : ∀ p r, go p = some r → cut_Most.l0_k.I p r) (a_0 : List T_api_Event) (a_7 : List Int) (a_8 : List Bool) (es_9 : (List (Int × Bool))) (y_10 : (List Int)) (y_12 : T_api_Event) (a_30 : List T_api_Event) (x_31 : Int) (x_32 : Int) (b_68 : Bool) (r : (List Int) × Int) (e : cut_Most.l0_k.body go (.j1 a_0 a_7 a_8 es_9 y_10 y_12 a_30 x_31 x_32 b_68) = some r) : cut_Most.l0_k.I (.j1 a_0 a_7 a_8 es_9 y_10 y_12 a_30 x_31 x_32 b_68) r := by
  unfold cut_Most.l0_k.body at e
  intro W h0 m0 h m A_0 n_0 c_0 A_7 n_7 c_7 A_8 n_8 c_8 bk_9 bk_10 cs_10 bk_12 cs_12 A_30 n_30 c_30 O ne_0 k_0 r_0 ne_7 ne_8 e_10 e_12 ne_30 k_30 r_30
  subst ne_0
  subst ne_7
  subst ne_8
  have qe_10_0 := e_10.1
  obtain rfl : cs_10 = [(Value.int .i64 (List.getD y_10 0 (0 : Int))), (Value.int .i64 (List.getD y_10 1 (0 : Int))), (Value.int .i64 (List.getD y_10 2 (0 : Int))), (Value.int .i64 (List.getD y_10 3 (0 : Int))), (Value.int .i64 (List.getD y_10 4 (0 : Int))), (Value.int .i64 (List.getD y_10 5 (0 : Int))), (Value.int .i64 (List.getD y_10 6 (0 : Int))), (Value.int .i64 (List.getD y_10 7 (0 : Int)))] := e_10.2
  subst ne_30
  refine f10.j1_in ?_
  unfold f10.j1T
  refine split_any_e e (fun c22 e => ?_) (fun c22 e => ?_)
  · refine ⟨_, ld0 (Sub.refl _) (O.all 4 rfl) (T_api_Event.g0 e_12), _, rfl, ?_⟩
    refine ⟨_, ld0 (Sub.refl _) (O.all 4 rfl) (T_api_Event.g0 e_12), _, rfl, ?_⟩
    obtain ⟨y1, g2, e⟩ := bind_e e
    refine (O.os 0 rfl).addr rfl g2 fun a3 cs4 ha5 hc6 he7 => ?_
    obtain rfl : cs4 = [(Value.int .i64 y1)] := he7
    refine ⟨_, ld0 (Sub.refl _) hc6 rfl, _, rfl, ?_⟩
    refine ⟨_, ld0 (Sub.refl _) (O.all 4 rfl) (T_api_Event.g0 e_12), _, rfl, ?_⟩
    obtain ⟨y8, g9, e⟩ := bind_e e
    refine ⟨gi_le g9, gi_ltn g9 qe_10_0, ?_⟩
    refine ⟨_, ldArr0 (n := 8) (f := (fun n : Int => Value.int .i64 n)) (d := (0 : Int)) (Sub.refl _) (O.all 3 rfl) rfl qe_10_0 g9, _, rfl, ?_⟩
    obtain ⟨y10, g11, e⟩ := bind_e e
    refine (O.os 0 rfl).addr rfl g11 fun a12 cs13 ha14 hc15 he16 => ?_
    obtain rfl : cs13 = [(Value.int .i64 y10)] := he16
    obtain ⟨l19, g20, e⟩ := bind_e e
    replace g20 := Option.some.inj g20
    refine O.elst0 0 rfl g11 ha14 hc15 (by decide) (y' := (if (IntKind.wrap .i64 (y8 - (1 : Int))) < y1 then (IntKind.wrap .i64 (y8 - (1 : Int))) else y1)) rfl trivial g20 fun h17 O18 => ?_
    have O21 := O18.nm
    exact (ih _ _ e) _ _ _ _ _ _ _ _ _ _ _ _ _ _ _ _ _ _ _ _ (O21.pick [0, 1, 2, 3]).nm rfl k_0 r_0 (lset' g20) rfl ⟨qe_10_0, rfl⟩ rfl k_30 r_30
  · exact (ih _ _ e) _ _ _ _ _ _ _ _ _ _ _ _ _ _ _ _ _ _ _ _ (O.pick [0, 1, 2, 3]).nm rfl k_0 r_0 rfl rfl ⟨qe_10_0, rfl⟩ rfl k_30 r_30
theorem cut_Most.l0_k.all {p : cut_Most.l0_k.Pt} {r : ((List Int) × Int)} (e : cut_Most.l0_k.go p = some r) : cut_Most.l0_k.I p r := fixF_ind (β := fun _ => ((List Int) × Int)) cut_Most.l0_k.mono (I := cut_Most.l0_k.I) (fun go ih p r e => match p with
  | .l0 a_0 a_7 => cut_Most.l0_k.step_l0 go ih a_0 a_7 r e
  | .l1 a_0 a_7 a_8 es_9 y_10 a_30 x_31 x_32 => cut_Most.l0_k.step_l1 go ih a_0 a_7 a_8 es_9 y_10 a_30 x_31 x_32 r e
  | .j0 a_0 a_7 a_8 es_9 y_10 x_11 y_12 a_30 x_31 x_32 => cut_Most.l0_k.step_j0 go ih a_0 a_7 a_8 es_9 y_10 x_11 y_12 a_30 x_31 x_32 r e
  | .j1 a_0 a_7 a_8 es_9 y_10 y_12 a_30 x_31 x_32 b_68 => cut_Most.l0_k.step_j1 go ih a_0 a_7 a_8 es_9 y_10 y_12 a_30 x_31 x_32 b_68 r e
  ) e
theorem cut_Most.l0.walk {W : Nat → Prop} {h0 m0 h m : Heap} {A_0 : Option Addr} {n_0 c_0 : Nat} {A_7 : Option Addr} {n_7 c_7 : Nat} {a_0 : List T_api_Event} {a_7 : List Int} (O : Hold W h0 m0 h m [rR (aE (tell_int .i64)) A_7 c_7 a_7]) (ne_0 : n_0 = List.length a_0) (k_0 : List.length a_0 ≤ c_0) (r_0 : Rd 3 T_api_Event.E m A_0 a_0) (ne_7 : n_7 = List.length a_7) {r : (List Int) × Int} (e : cut_Most.l0 a_0 a_7 = some r) : f10.l0 (cut_Most.post W h0 m0 r) A_0 n_0 c_0 A_7 n_7 c_7 h := cut_Most.l0_k.all (p := .l0 a_0 a_7) e W h0 m0 h m A_0 n_0 c_0 A_7 n_7 c_7 O ne_0 k_0 r_0 ne_7
noncomputable def cut_Most (a_0 : List T_api_Event) (a_1 : List Int) : Option ((List Int) × Int) :=
  Option.bind (cut_check a_0 ([a_1] : List (List Int))) fun y6 => if y6 = (0 : Int) then (Option.bind (slices_Clone_42 a_1) fun y24 => (cut_Most.l0 a_0 y24)) else (some (([] : List Int), y6))
set_option maxRecDepth 100000 in
theorem cut_Most.walk {W : Nat → Prop} {h m : Heap} {A_0 : Option Addr} {n_0 c_0 : Nat} {A_1 : Option Addr} {n_1 c_1 : Nat} {a_0 : List T_api_Event} {a_1 : List Int} (O : Hold W h m h m []) (ne_0 : n_0 = List.length a_0) (k_0 : List.length a_0 ≤ c_0) (r_0 : Rd 3 T_api_Event.E m A_0 a_0) (ne_1 : n_1 = List.length a_1) (k_1 : List.length a_1 ≤ c_1) (r_1 : Rd 1 (eInt .i64) m A_1 a_1) {r : (List Int) × Int} (e : cut_Most a_0 a_1 = some r) : Run Try.prog 10 #[Value.slice A_0 n_0 c_0, Value.slice A_1 n_1 c_1] h (cut_Most.post W h m r) := by
  unfold cut_Most at e
  subst ne_0
  subst ne_1
  refine f10.run ?_
  unfold f10.runT
  refine O.new fun h1 x2 O3 => ?_
  obtain ⟨y6, g7, e⟩ := bind_e e
  have O5 := O3.rowE (l := ([a_1] : List (List Int))) 0 rfl (tell_row (tell_int .i64)) (show CsE _ _ _ _ _ from (CsE.cons (c1 := [(Value.slice A_1 (List.length a_1) c_1)]) ⟨_, _, rfl, k_1, r_1⟩ rfl CsE.nil)) rfl
  have O12 := O5.nm
  obtain ⟨m13, u14, s19, ⟨⟨r17, k18⟩, _⟩, B15, C16⟩ := O12.lend0 [0]
  replace r17 : Rd 1 (eRow 1 (eInt .i64)) m13 (some ⟨(Array.size h), 0, none⟩) ([a_1] : List (List Int)) := r17
  replace k18 : List.length ([a_1] : List (List Int)) ≤ 1 := k18
  refine (cut_check.walk (Hold.start (W := No) s19) rfl k_0 (r_0.sub T_api_Event.T u14) rfl k18 r17 g7).mono ?_
  rintro _ h8 ⟨m9, Q10, rfl⟩
  have O20 := Hold.nm (C16 Q10 vfs_nil)
  refine ⟨_, rfl, ?_⟩
  refine split_ne_e e (fun c36 e => ?_) (fun c36 e => ?_)
  · have O21 := O20.nil (aE (tell_int .i64)) none
    have O23 := O21.nm
    cases e
    exact ⟨_, _, _, _, O23.pick [1], rfl, rfl⟩
  · obtain ⟨y24, g25, e⟩ := bind_e e
    refine (slices_Clone_42.walk (Hold.start (W := No) O20.s) rfl k_1 r_1 g25).mono ?_
    rintro _ h26 ⟨m27, A30, n31, c32, Q28, rfl, ne33⟩
    have O35 := Hold.nm (O20.retC Q28 (vfs_cons (rR_vf (aE_vf (fun _ _ _ _ h => h))) vfs_nil))
    subst ne33
    refine ⟨_, _, _, rfl, ?_⟩
    exact cut_Most.l0.walk (O35.pick [1]).nm rfl k_0 r_0 rfl e
def cut_Join.post (W : Nat → Prop) (h0 m0 : Heap) (r : (List Int) × Int) (v : Value) (h : Heap) : Prop := ∃ m A0 n0 c0, Hold W h0 m0 h m [rR (aE (tell_int .i64)) A0 c0 r.1] ∧ v = .tuple #[.slice A0 n0 c0, .int .i64 r.2] ∧ n0 = List.length r.1
noncomputable def cut_Join (a_0 : List T_api_Event) (a_1 : List Int) (a_2 : List Int) : Option ((List Int) × Int) :=
  Option.bind (cut_check a_0 ([a_1, a_2] : List (List Int))) fun y6 => if y6 = (0 : Int) then (Option.bind (clock_Join a_1 a_2) fun y24 => some (y24, (0 : Int))) else (some (([] : List Int), y6))
set_option maxRecDepth 100000 in
theorem cut_Join.walk {W : Nat → Prop} {h m : Heap} {A_0 : Option Addr} {n_0 c_0 : Nat} {A_1 : Option Addr} {n_1 c_1 : Nat} {A_2 : Option Addr} {n_2 c_2 : Nat} {a_0 : List T_api_Event} {a_1 : List Int} {a_2 : List Int} (O : Hold W h m h m []) (ne_0 : n_0 = List.length a_0) (k_0 : List.length a_0 ≤ c_0) (r_0 : Rd 3 T_api_Event.E m A_0 a_0) (ne_1 : n_1 = List.length a_1) (k_1 : List.length a_1 ≤ c_1) (r_1 : Rd 1 (eInt .i64) m A_1 a_1) (ne_2 : n_2 = List.length a_2) (k_2 : List.length a_2 ≤ c_2) (r_2 : Rd 1 (eInt .i64) m A_2 a_2) {r : (List Int) × Int} (e : cut_Join a_0 a_1 a_2 = some r) : Run Try.prog 11 #[Value.slice A_0 n_0 c_0, Value.slice A_1 n_1 c_1, Value.slice A_2 n_2 c_2] h (cut_Join.post W h m r) := by
  unfold cut_Join at e
  subst ne_0
  subst ne_1
  subst ne_2
  refine f11.run ?_
  unfold f11.runT
  refine O.new fun h1 x2 O3 => ?_
  obtain ⟨y6, g7, e⟩ := bind_e e
  have O5 := O3.rowE (l := ([a_1, a_2] : List (List Int))) 0 rfl (tell_row (tell_int .i64)) (show CsE _ _ _ _ _ from (CsE.cons (c1 := [(Value.slice A_1 (List.length a_1) c_1)]) ⟨_, _, rfl, k_1, r_1⟩ rfl (CsE.cons (c1 := [(Value.slice A_2 (List.length a_2) c_2)]) ⟨_, _, rfl, k_2, r_2⟩ rfl CsE.nil))) rfl
  have O12 := O5.nm
  obtain ⟨m13, u14, s19, ⟨⟨r17, k18⟩, _⟩, B15, C16⟩ := O12.lend0 [0]
  replace r17 : Rd 1 (eRow 1 (eInt .i64)) m13 (some ⟨(Array.size h), 0, none⟩) ([a_1, a_2] : List (List Int)) := r17
  replace k18 : List.length ([a_1, a_2] : List (List Int)) ≤ 2 := k18
  refine (cut_check.walk (Hold.start (W := No) s19) rfl k_0 (r_0.sub T_api_Event.T u14) rfl k18 r17 g7).mono ?_
  rintro _ h8 ⟨m9, Q10, rfl⟩
  have O20 := Hold.nm (C16 Q10 vfs_nil)
  refine ⟨_, rfl, ?_⟩
  refine split_ne_e e (fun c36 e => ?_) (fun c36 e => ?_)
  · have O21 := O20.nil (aE (tell_int .i64)) none
    have O23 := O21.nm
    cases e
    exact ⟨_, _, _, _, O23.pick [1], rfl, rfl⟩
  · obtain ⟨y24, g25, e⟩ := bind_e e
    refine (clock_Join.walk (Hold.start (W := No) O20.s) rfl k_1 r_1 rfl k_2 r_2 g25).mono ?_
    rintro _ h26 ⟨m27, A30, n31, c32, Q28, rfl, ne33⟩
    have O35 := Hold.nm (O20.retC Q28 (vfs_cons (rR_vf (aE_vf (fun _ _ _ _ h => h))) vfs_nil))
    subst ne33
    refine ⟨_, _, _, rfl, ?_⟩
    cases e
    exact ⟨_, _, _, _, O35.pick [1], rfl, rfl⟩
def cut_Meet.post (W : Nat → Prop) (h0 m0 : Heap) (r : (List Int) × Int) (v : Value) (h : Heap) : Prop := ∃ m A0 n0 c0, Hold W h0 m0 h m [rR (aE (tell_int .i64)) A0 c0 r.1] ∧ v = .tuple #[.slice A0 n0 c0, .int .i64 r.2] ∧ n0 = List.length r.1
inductive cut_Meet.l0_k.Pt where
  | l0 (a_2 : List Int) (a_9 : List Int) (x_22 : Int) (x_23 : Int)
noncomputable def cut_Meet.l0_k.body (go : (p : cut_Meet.l0_k.Pt) → Option ((List Int) × Int)) : (p : cut_Meet.l0_k.Pt) → Option ((List Int) × Int)
  | .l0 a_2 a_9 x_22 x_23 => if x_23 < x_22 then (Option.bind (gi a_9 x_23) fun y1 => Option.bind (gi a_2 x_23) fun y8 => Option.bind (gi a_9 x_23) fun y15 => Option.bind (some (List.set a_9 (Int.toNat x_23) (if y8 < y1 then y8 else y1))) fun l24 => (go (.l0 a_2 l24 x_22 (IntKind.wrap .i64 (x_23 + (1 : Int)))))) else (some (a_9, (0 : Int)))
theorem cut_Meet.l0_k.mono : MonoF (β := fun _ => ((List Int) × Int)) cut_Meet.l0_k.body := fun f g hfg p => match p with
  | .l0 a_2 a_9 x_22 x_23 => LeO.ite (LeO.bind (LeO.refl _) fun y1 => LeO.bind (LeO.refl _) fun y8 => LeO.bind (LeO.refl _) fun y15 => LeO.bind (LeO.refl _) fun l24 => (hfg _)) (LeO.refl _)
noncomputable def cut_Meet.l0_k.go (p : cut_Meet.l0_k.Pt) : Option ((List Int) × Int) := fixF (β := fun _ => ((List Int) × Int)) cut_Meet.l0_k.body p
noncomputable def cut_Meet.l0 (a_2 : List Int) (a_9 : List Int) (x_22 : Int) (x_23 : Int) : Option ((List Int) × Int) := cut_Meet.l0_k.go (.l0 a_2 a_9 x_22 x_23)
theorem cut_Meet.l0_eq (a_2 : List Int) (a_9 : List Int) (x_22 : Int) (x_23 : Int) : cut_Meet.l0 a_2 a_9 x_22 x_23 = if x_23 < x_22 then (Option.bind (gi a_9 x_23) fun y1 => Option.bind (gi a_2 x_23) fun y8 => Option.bind (gi a_9 x_23) fun y15 => Option.bind (some (List.set a_9 (Int.toNat x_23) (if y8 < y1 then y8 else y1))) fun l24 => (cut_Meet.l0 a_2 l24 x_22 (IntKind.wrap .i64 (x_23 + (1 : Int))))) else (some (a_9, (0 : Int))) := fixF_eq cut_Meet.l0_k.mono _
def cut_Meet.l0_k.I : (p : cut_Meet.l0_k.Pt) → ((List Int) × Int) → Prop
  | .l0 a_2 a_9 x_22 x_23, r => ∀ (W : Nat → Prop) (h0 m0 h m : Heap) (A_2 : Option Addr) (n_2 c_2 : Nat) (A_9 : Option Addr) (n_9 c_9 : Nat) (O : Hold W h0 m0 h m [rR (aE (tell_int .i64)) A_9 c_9 a_9]) (ne_2 : n_2 = List.length a_2) (k_2 : List.length a_2 ≤ c_2) (r_2 : Rd 1 (eInt .i64) m A_2 a_2) (ne_9 : n_9 = List.length a_9), f12.l0 (cut_Meet.post W h0 m0 r) A_2 n_2 c_2 A_9 n_9 c_9 x_22 x_23 h
set_option maxRecDepth 100000 in
theorem cut_Meet.l0_k.step_l0 (go : (p : cut_Meet.l0_k.Pt) → Option ((List Int) × Int)) (ih : ∀ p r, go p = some r → cut_Meet.l0_k.I p r) (a_2 : List Int) (a_9 : List Int) (x_22 : Int) (x_23 : Int) (r : (List Int) × Int) (e : cut_Meet.l0_k.body go (.l0 a_2 a_9 x_22 x_23) = some r) : cut_Meet.l0_k.I (.l0 a_2 a_9 x_22 x_23) r := by
  unfold cut_Meet.l0_k.body at e
  intro W h0 m0 h m A_2 n_2 c_2 A_9 n_9 c_9 O ne_2 k_2 r_2 ne_9
  subst ne_2
  subst ne_9
  refine f12.l0_in ?_
  unfold f12.l0T
  refine split_dec_e e (fun c27 e => ?_) (fun c27 e => ?_)
  · obtain ⟨y1, g2, e⟩ := bind_e e
    refine (O.os 0 rfl).addr rfl g2 fun a3 cs4 ha5 hc6 he7 => ?_
    obtain rfl : cs4 = [(Value.int .i64 y1)] := he7
    obtain ⟨y8, g9, e⟩ := bind_e e
    refine r_2.addr rfl g9 fun a10 cs11 ha12 hc13 he14 => ?_
    obtain rfl : cs11 = [(Value.int .i64 y8)] := he14
    refine ⟨_, ld0 (Sub.refl _) hc6 rfl, _, rfl, ?_⟩
    refine ⟨_, ld0 O.s hc13 rfl, _, rfl, ?_⟩
    obtain ⟨y15, g16, e⟩ := bind_e e
    refine (O.os 0 rfl).addr rfl g16 fun a17 cs18 ha19 hc20 he21 => ?_
    obtain rfl : cs18 = [(Value.int .i64 y15)] := he21
    obtain ⟨l24, g25, e⟩ := bind_e e
    replace g25 := Option.some.inj g25
    refine O.elst0 0 rfl g16 ha19 hc20 (by decide) (y' := (if y8 < y1 then y8 else y1)) rfl trivial g25 fun h22 O23 => ?_
    have O26 := O23.nm
    exact (ih _ _ e) _ _ _ _ _ _ _ _ _ _ _ (O26.pick [0]).nm rfl k_2 r_2 (lset' g25)
  · cases e
    exact ⟨_, _, _, _, O.pick [0], rfl, rfl⟩
theorem cut_Meet.l0_k.all {p : cut_Meet.l0_k.Pt} {r : ((List Int) × Int)} (e : cut_Meet.l0_k.go p = some r) : cut_Meet.l0_k.I p r := fixF_ind (β := fun _ => ((List Int) × Int)) cut_Meet.l0_k.mono (I := cut_Meet.l0_k.I) (fun go ih p r e => match p with
  | .l0 a_2 a_9 x_22 x_23 => cut_Meet.l0_k.step_l0 go ih a_2 a_9 x_22 x_23 r e
  ) e
theorem cut_Meet.l0.walk {W : Nat → Prop} {h0 m0 h m : Heap} {A_2 : Option Addr} {n_2 c_2 : Nat} {A_9 : Option Addr} {n_9 c_9 : Nat} {a_2 : List Int} {a_9 : List Int} {x_22 : Int} {x_23 : Int} (O : Hold W h0 m0 h m [rR (aE (tell_int .i64)) A_9 c_9 a_9]) (ne_2 : n_2 = List.length a_2) (k_2 : List.length a_2 ≤ c_2) (r_2 : Rd 1 (eInt .i64) m A_2 a_2) (ne_9 : n_9 = List.length a_9) {r : (List Int) × Int} (e : cut_Meet.l0 a_2 a_9 x_22 x_23 = some r) : f12.l0 (cut_Meet.post W h0 m0 r) A_2 n_2 c_2 A_9 n_9 c_9 x_22 x_23 h := cut_Meet.l0_k.all (p := .l0 a_2 a_9 x_22 x_23) e W h0 m0 h m A_2 n_2 c_2 A_9 n_9 c_9 O ne_2 k_2 r_2 ne_9
noncomputable def cut_Meet (a_0 : List T_api_Event) (a_1 : List Int) (a_2 : List Int) : Option ((List Int) × Int) :=
  Option.bind (cut_check a_0 ([a_1, a_2] : List (List Int))) fun y6 => if y6 = (0 : Int) then (Option.bind (slices_Clone_42 a_1) fun y24 => (cut_Meet.l0 a_2 y24 (((List.length y24) : Nat) : Int) (0 : Int))) else (some (([] : List Int), y6))
set_option maxRecDepth 100000 in
theorem cut_Meet.walk {W : Nat → Prop} {h m : Heap} {A_0 : Option Addr} {n_0 c_0 : Nat} {A_1 : Option Addr} {n_1 c_1 : Nat} {A_2 : Option Addr} {n_2 c_2 : Nat} {a_0 : List T_api_Event} {a_1 : List Int} {a_2 : List Int} (O : Hold W h m h m []) (ne_0 : n_0 = List.length a_0) (k_0 : List.length a_0 ≤ c_0) (r_0 : Rd 3 T_api_Event.E m A_0 a_0) (ne_1 : n_1 = List.length a_1) (k_1 : List.length a_1 ≤ c_1) (r_1 : Rd 1 (eInt .i64) m A_1 a_1) (ne_2 : n_2 = List.length a_2) (k_2 : List.length a_2 ≤ c_2) (r_2 : Rd 1 (eInt .i64) m A_2 a_2) {r : (List Int) × Int} (e : cut_Meet a_0 a_1 a_2 = some r) : Run Try.prog 12 #[Value.slice A_0 n_0 c_0, Value.slice A_1 n_1 c_1, Value.slice A_2 n_2 c_2] h (cut_Meet.post W h m r) := by
  unfold cut_Meet at e
  subst ne_0
  subst ne_1
  subst ne_2
  refine f12.run ?_
  unfold f12.runT
  refine O.new fun h1 x2 O3 => ?_
  obtain ⟨y6, g7, e⟩ := bind_e e
  have O5 := O3.rowE (l := ([a_1, a_2] : List (List Int))) 0 rfl (tell_row (tell_int .i64)) (show CsE _ _ _ _ _ from (CsE.cons (c1 := [(Value.slice A_1 (List.length a_1) c_1)]) ⟨_, _, rfl, k_1, r_1⟩ rfl (CsE.cons (c1 := [(Value.slice A_2 (List.length a_2) c_2)]) ⟨_, _, rfl, k_2, r_2⟩ rfl CsE.nil))) rfl
  have O12 := O5.nm
  obtain ⟨m13, u14, s19, ⟨⟨r17, k18⟩, _⟩, B15, C16⟩ := O12.lend0 [0]
  replace r17 : Rd 1 (eRow 1 (eInt .i64)) m13 (some ⟨(Array.size h), 0, none⟩) ([a_1, a_2] : List (List Int)) := r17
  replace k18 : List.length ([a_1, a_2] : List (List Int)) ≤ 2 := k18
  refine (cut_check.walk (Hold.start (W := No) s19) rfl k_0 (r_0.sub T_api_Event.T u14) rfl k18 r17 g7).mono ?_
  rintro _ h8 ⟨m9, Q10, rfl⟩
  have O20 := Hold.nm (C16 Q10 vfs_nil)
  refine ⟨_, rfl, ?_⟩
  refine split_ne_e e (fun c36 e => ?_) (fun c36 e => ?_)
  · have O21 := O20.nil (aE (tell_int .i64)) none
    have O23 := O21.nm
    cases e
    exact ⟨_, _, _, _, O23.pick [1], rfl, rfl⟩
  · obtain ⟨y24, g25, e⟩ := bind_e e
    refine (slices_Clone_42.walk (Hold.start (W := No) O20.s) rfl k_1 r_1 g25).mono ?_
    rintro _ h26 ⟨m27, A30, n31, c32, Q28, rfl, ne33⟩
    have O35 := Hold.nm (O20.retC Q28 (vfs_cons (rR_vf (aE_vf (fun _ _ _ _ h => h))) vfs_nil))
    subst ne33
    refine ⟨_, _, _, rfl, ?_⟩
    exact cut_Meet.l0.walk (O35.pick [1]).nm rfl k_2 r_2 rfl e
def roadref4_within.post (W : Nat → Prop) (h0 m0 : Heap) (r : Bool) (v : Value) (h : Heap) : Prop := ∃ m , Hold W h0 m0 h m [] ∧ v = .bool r
noncomputable def roadref4_within (x_0 : Int) (x_1 : Int) (x_2 : Int) : Option (Bool) :=
  if x_0 ≥ x_1 then (some ((decide (x_0 ≤ x_2)))) else (some (false))
set_option maxRecDepth 100000 in
theorem roadref4_within.walk {W : Nat → Prop} {h m : Heap} {x_0 : Int} {x_1 : Int} {x_2 : Int} (O : Hold W h m h m []) {r : Bool} (e : roadref4_within x_0 x_1 x_2 = some r) : Run Try.prog 44 #[Value.int .i64 x_0, Value.int .i64 x_1, Value.int .i64 x_2] h (roadref4_within.post W h m r) := by
  unfold roadref4_within at e
  refine f44.run ?_
  unfold f44.runT
  refine split_dec_e e (fun c1 e => ?_) (fun c1 e => ?_)
  · cases e
    exact ⟨_, O.pick [], rfl⟩
  · cases e
    exact ⟨_, O.pick [], rfl⟩
def slices_IndexFunc_45.post (W : Nat → Prop) (h0 m0 : Heap) (r : Int) (v : Value) (h : Heap) : Prop := ∃ m , Hold W h0 m0 h m [] ∧ v = .int .i64 r
inductive slices_IndexFunc_45.l0_k.Pt where
  | l0 (a_0 : List T_api_Event) (p_1 : T_api_Event → Option Bool) (x_7 : Int) (x_8 : Int)
noncomputable def slices_IndexFunc_45.l0_k.body (go : (p : slices_IndexFunc_45.l0_k.Pt) → Option (Int)) : (p : slices_IndexFunc_45.l0_k.Pt) → Option (Int)
  | .l0 a_0 p_1 x_7 x_8 => if x_8 < x_7 then (Option.bind (gi a_0 x_8) fun y1 => Option.bind (p_1 y1) fun y8 => if y8 = true then (some (x_8)) else ((go (.l0 a_0 p_1 x_7 (IntKind.wrap .i64 (x_8 + (1 : Int))))))) else (some ((-1 : Int)))
theorem slices_IndexFunc_45.l0_k.mono : MonoF (β := fun _ => (Int)) slices_IndexFunc_45.l0_k.body := fun f g hfg p => match p with
  | .l0 a_0 p_1 x_7 x_8 => LeO.ite (LeO.bind (LeO.refl _) fun y1 => LeO.bind (LeO.refl _) fun y8 => LeO.ite (LeO.refl _) ((hfg _))) (LeO.refl _)
noncomputable def slices_IndexFunc_45.l0_k.go (p : slices_IndexFunc_45.l0_k.Pt) : Option (Int) := fixF (β := fun _ => (Int)) slices_IndexFunc_45.l0_k.body p
noncomputable def slices_IndexFunc_45.l0 (a_0 : List T_api_Event) (p_1 : T_api_Event → Option Bool) (x_7 : Int) (x_8 : Int) : Option (Int) := slices_IndexFunc_45.l0_k.go (.l0 a_0 p_1 x_7 x_8)
theorem slices_IndexFunc_45.l0_eq (a_0 : List T_api_Event) (p_1 : T_api_Event → Option Bool) (x_7 : Int) (x_8 : Int) : slices_IndexFunc_45.l0 a_0 p_1 x_7 x_8 = if x_8 < x_7 then (Option.bind (gi a_0 x_8) fun y1 => Option.bind (p_1 y1) fun y8 => if y8 = true then (some (x_8)) else ((slices_IndexFunc_45.l0 a_0 p_1 x_7 (IntKind.wrap .i64 (x_8 + (1 : Int)))))) else (some ((-1 : Int))) := fixF_eq slices_IndexFunc_45.l0_k.mono _
def slices_IndexFunc_45.l0_k.I : (p : slices_IndexFunc_45.l0_k.Pt) → (Int) → Prop
  | .l0 a_0 p_1 x_7 x_8, r => ∀ (W : Nat → Prop) (h0 m0 h m : Heap) (A_0 : Option Addr) (n_0 c_0 : Nat) (fv_1 : Value) (O : Hold W h0 m0 h m []) (ne_0 : n_0 = List.length a_0) (k_0 : List.length a_0 ≤ c_0) (r_0 : Rd 3 T_api_Event.E m A_0 a_0) (f_1 : ∀ h' m', Sub m0 m' → Sub m' h' → ∀ (y0 : T_api_Event) (cs0 : List Value) (_ : T_api_Event.E m' y0 cs0) (r : Bool), p_1 y0 = some r → CallF Try.prog fv_1 [.agg cs0.toArray] h' (fun v h'' => v = .bool r ∧ Ext h' h'')), f45.l0 (slices_IndexFunc_45.post W h0 m0 r) A_0 n_0 c_0 fv_1 x_7 x_8 h
set_option maxRecDepth 100000 in
theorem slices_IndexFunc_45.l0_k.step_l0 (go : (p : slices_IndexFunc_45.l0_k.Pt) → Option (Int)) (ih : ∀ p r, go p = some r → slices_IndexFunc_45.l0_k.I p r) (a_0 : List T_api_Event) (p_1 : T_api_Event → Option Bool) (x_7 : Int) (x_8 : Int) (r : Int) (e : slices_IndexFunc_45.l0_k.body go (.l0 a_0 p_1 x_7 x_8) = some r) : slices_IndexFunc_45.l0_k.I (.l0 a_0 p_1 x_7 x_8) r := by
  unfold slices_IndexFunc_45.l0_k.body at e
  intro W h0 m0 h m A_0 n_0 c_0 fv_1 O ne_0 k_0 r_0 f_1
  subst ne_0
  refine f45.l0_in ?_
  unfold f45.l0T
  refine split_dec_e e (fun c14 e => ?_) (fun c14 e => ?_)
  · obtain ⟨y1, g2, e⟩ := bind_e e
    refine r_0.addr rfl g2 fun a3 cs4 ha5 hc6 he7 => ?_
    refine ⟨_, ldAn O.s hc6 rfl, ?_⟩
    obtain ⟨y8, g9, e⟩ := bind_e e
    refine CallF.mono (f_1 _ _ O.up O.s _ _ he7 _ g9) ?_
    rintro _ h10 ⟨rfl, x11⟩
    have O12 := O.ext x11
    refine ⟨_, rfl, ?_⟩
    refine split_any_e e (fun c13 e => ?_) (fun c13 e => ?_)
    · cases e
      exact ⟨_, O12.pick [], rfl⟩
    · exact (ih _ _ e) _ _ _ _ _ _ _ _ _ (O12.pick []).nm rfl k_0 r_0 f_1
  · cases e
    exact ⟨_, O.pick [], rfl⟩
theorem slices_IndexFunc_45.l0_k.all {p : slices_IndexFunc_45.l0_k.Pt} {r : (Int)} (e : slices_IndexFunc_45.l0_k.go p = some r) : slices_IndexFunc_45.l0_k.I p r := fixF_ind (β := fun _ => (Int)) slices_IndexFunc_45.l0_k.mono (I := slices_IndexFunc_45.l0_k.I) (fun go ih p r e => match p with
  | .l0 a_0 p_1 x_7 x_8 => slices_IndexFunc_45.l0_k.step_l0 go ih a_0 p_1 x_7 x_8 r e
  ) e
theorem slices_IndexFunc_45.l0.walk {W : Nat → Prop} {h0 m0 h m : Heap} {A_0 : Option Addr} {n_0 c_0 : Nat} {fv_1 : Value} {a_0 : List T_api_Event} {p_1 : T_api_Event → Option Bool} {x_7 : Int} {x_8 : Int} (O : Hold W h0 m0 h m []) (ne_0 : n_0 = List.length a_0) (k_0 : List.length a_0 ≤ c_0) (r_0 : Rd 3 T_api_Event.E m A_0 a_0) (f_1 : ∀ h' m', Sub m0 m' → Sub m' h' → ∀ (y0 : T_api_Event) (cs0 : List Value) (_ : T_api_Event.E m' y0 cs0) (r : Bool), p_1 y0 = some r → CallF Try.prog fv_1 [.agg cs0.toArray] h' (fun v h'' => v = .bool r ∧ Ext h' h'')) {r : Int} (e : slices_IndexFunc_45.l0 a_0 p_1 x_7 x_8 = some r) : f45.l0 (slices_IndexFunc_45.post W h0 m0 r) A_0 n_0 c_0 fv_1 x_7 x_8 h := slices_IndexFunc_45.l0_k.all (p := .l0 a_0 p_1 x_7 x_8) e W h0 m0 h m A_0 n_0 c_0 fv_1 O ne_0 k_0 r_0 f_1
noncomputable def slices_IndexFunc_45 (a_0 : List T_api_Event) (p_1 : T_api_Event → Option Bool) : Option (Int) :=
  (slices_IndexFunc_45.l0 a_0 p_1 (((List.length a_0) : Nat) : Int) (0 : Int))
set_option maxRecDepth 100000 in
theorem slices_IndexFunc_45.walk {W : Nat → Prop} {h m : Heap} {A_0 : Option Addr} {n_0 c_0 : Nat} {fv_1 : Value} {a_0 : List T_api_Event} {p_1 : T_api_Event → Option Bool} (O : Hold W h m h m []) (ne_0 : n_0 = List.length a_0) (k_0 : List.length a_0 ≤ c_0) (r_0 : Rd 3 T_api_Event.E m A_0 a_0) (f_1 : ∀ h' m', Sub m m' → Sub m' h' → ∀ (y0 : T_api_Event) (cs0 : List Value) (_ : T_api_Event.E m' y0 cs0) (r : Bool), p_1 y0 = some r → CallF Try.prog fv_1 [.agg cs0.toArray] h' (fun v h'' => v = .bool r ∧ Ext h' h'')) {r : Int} (e : slices_IndexFunc_45 a_0 p_1 = some r) : Run Try.prog 45 #[Value.slice A_0 n_0 c_0, fv_1] h (slices_IndexFunc_45.post W h m r) := by
  unfold slices_IndexFunc_45 at e
  subst ne_0
  refine f45.run ?_
  unfold f45.runT
  exact slices_IndexFunc_45.l0.walk (O.pick []).nm rfl k_0 r_0 f_1 e
def slices_ContainsFunc_15.post (W : Nat → Prop) (h0 m0 : Heap) (r : Bool) (v : Value) (h : Heap) : Prop := ∃ m , Hold W h0 m0 h m [] ∧ v = .bool r
noncomputable def slices_ContainsFunc_15 (a_0 : List T_api_Event) (p_1 : T_api_Event → Option Bool) : Option (Bool) :=
  Option.bind (slices_IndexFunc_45 a_0 p_1) fun y1 => some ((decide (y1 ≥ (0 : Int))))
set_option maxRecDepth 100000 in
theorem slices_ContainsFunc_15.walk {W : Nat → Prop} {h m : Heap} {A_0 : Option Addr} {n_0 c_0 : Nat} {fv_1 : Value} {a_0 : List T_api_Event} {p_1 : T_api_Event → Option Bool} (O : Hold W h m h m []) (ne_0 : n_0 = List.length a_0) (k_0 : List.length a_0 ≤ c_0) (r_0 : Rd 3 T_api_Event.E m A_0 a_0) (f_1 : ∀ h' m', Sub m m' → Sub m' h' → ∀ (y0 : T_api_Event) (cs0 : List Value) (_ : T_api_Event.E m' y0 cs0) (r : Bool), p_1 y0 = some r → CallF Try.prog fv_1 [.agg cs0.toArray] h' (fun v h'' => v = .bool r ∧ Ext h' h'')) {r : Bool} (e : slices_ContainsFunc_15 a_0 p_1 = some r) : Run Try.prog 15 #[Value.slice A_0 n_0 c_0, fv_1] h (slices_ContainsFunc_15.post W h m r) := by
  unfold slices_ContainsFunc_15 at e
  subst ne_0
  refine f15.run ?_
  unfold f15.runT
  obtain ⟨y1, g2, e⟩ := bind_e e
  refine (slices_IndexFunc_45.walk (Hold.start (W := No) O.s) rfl k_0 r_0 f_1 g2).mono ?_
  rintro _ h3 ⟨m4, Q5, rfl⟩
  have O7 := Hold.nm (O.retC Q5 vfs_nil)
  refine ⟨_, rfl, ?_⟩
  cases e
  exact ⟨_, O7.pick [], rfl⟩
theorem slices_ContainsFunc_15.val {l : List T_api_Event} {p : T_api_Event → Option Bool} (q : T_api_Event → Bool) (hp : ∀ x ∈ l, p x = some (q x)) (hl : l.length ≤ 4611686018427387904) : slices_ContainsFunc_15 l p = some (l.any q) := findB_val (fun a p n i => slices_IndexFunc_45.l0_eq a p n i) (fun _ _ => rfl) (fun _ _ => rfl) q hp hl
def roadref4_History_1_1.post (W : Nat → Prop) (h0 m0 : Heap) (r : Bool) (v : Value) (h : Heap) : Prop := ∃ m , Hold W h0 m0 h m [] ∧ v = .bool r
noncomputable def roadref4_History_1_1 (y_0 : T_api_Event) (y_1 : Int) (y_2 : T_api_Event) : Option (Bool) :=
  if y_0.Kind = y_1 then (some ((y_0.Msg == y_2.Msg))) else (some (false))
set_option maxRecDepth 100000 in
theorem roadref4_History_1_1.walk {W : Nat → Prop} {h m : Heap} {cs_0 : List Value} {bk_1 : Nat} {bk_2 : Nat} {y_0 : T_api_Event} {y_1 : Int} {y_2 : T_api_Event} (O : Hold W h m h m []) (e_0 : T_api_Event.E m y_0 cs_0) (v_1 : VB (eInt .i64) m bk_1 y_1) (v_2 : VB T_api_Event.E m bk_2 y_2) {r : Bool} (e : roadref4_History_1_1 y_0 y_1 y_2 = some r) : Run Try.prog 69 #[Value.agg cs_0.toArray, Value.pointer (some ⟨bk_1, 0, none⟩), Value.pointer (some ⟨bk_2, 0, none⟩)] h (roadref4_History_1_1.post W h m r) := by
  unfold roadref4_History_1_1 at e
  obtain ⟨cs_1, t_1, hb_1, nn_1, e_1⟩ := id v_1
  obtain rfl : cs_1 = [(Value.int .i64 y_1)] := e_1
  obtain ⟨cs_2, t_2, hb_2, nn_2, e_2⟩ := id v_2
  refine f69.run ?_
  unfold f69.runT
  refine O.new fun h1 x2 O3 => ?_
  refine ⟨_, ldk (k := 1) (Sub.refl _) (O3.all 0 rfl) (T_api_Event.g1 e_0), _, rfl, ?_⟩
  refine ⟨_, ld0 O3.s (Blk.all' hb_1) rfl, _, rfl, ?_⟩
  refine split_eq_e e (fun c7 e => ?_) (fun c7 e => ?_)
  · refine ⟨_, ldk (k := 2) (Sub.refl _) (O3.all 0 rfl) (T_api_Event.g2 e_0), _, rfl, ?_⟩
    refine ⟨_, ldk (k := 2) O3.s (Blk.all' hb_2) (T_api_Event.g2 e_2), _, rfl, ?_⟩
    have O5 := O3.nm
    cases e
    exact ⟨_, O5.pick [], rfl⟩
  · have O6 := O3.nm
    cases e
    exact ⟨_, O6.pick [], rfl⟩
def roadref4_History_1.post (W : Nat → Prop) (h0 m0 : Heap) (r : Bool) (v : Value) (h : Heap) : Prop := ∃ m , Hold W h0 m0 h m [] ∧ v = .bool r
noncomputable def roadref4_History_1 (x_0 : Int) (y_1 : (List T_api_Event)) (y_2 : Int) (y_3 : T_api_Event) : Option (Bool) :=
  Option.bind (sls y_1 (0 : Int) y_2) fun l5 => Option.bind (slices_ContainsFunc_15 l5 (fun z23 => roadref4_History_1_1 z23 x_0 y_3)) fun y10 => some (y10)
set_option maxRecDepth 100000 in
theorem roadref4_History_1.walk {W : Nat → Prop} {h m : Heap} {bk_1 : Nat} {bk_2 : Nat} {bk_3 : Nat} {x_0 : Int} {y_1 : (List T_api_Event)} {y_2 : Int} {y_3 : T_api_Event} (O : Hold W h m h m []) (v_1 : VB (eRow 3 T_api_Event.E) m bk_1 y_1) (v_2 : VB (eInt .i64) m bk_2 y_2) (v_3 : VB T_api_Event.E m bk_3 y_3) {r : Bool} (e : roadref4_History_1 x_0 y_1 y_2 y_3 = some r) : Run Try.prog 68 #[Value.int .i64 x_0, Value.pointer (some ⟨bk_1, 0, none⟩), Value.pointer (some ⟨bk_2, 0, none⟩), Value.pointer (some ⟨bk_3, 0, none⟩)] h (roadref4_History_1.post W h m r) := by
  unfold roadref4_History_1 at e
  obtain ⟨cs_1, t_1, hb_1, nn_1, e_1⟩ := id v_1
  obtain ⟨Ae_1_0, ce_1_0, rfl, ke_1_0, re_1_0⟩ := id e_1
  obtain ⟨cs_2, t_2, hb_2, nn_2, e_2⟩ := id v_2
  obtain rfl : cs_2 = [(Value.int .i64 y_2)] := e_2
  obtain ⟨cs_3, t_3, hb_3, nn_3, e_3⟩ := id v_3
  refine f68.run ?_
  unfold f68.runT
  refine O.new fun h1 x2 O3 => ?_
  refine ⟨_, ld0 O3.s (Blk.all' hb_1) rfl, _, _, _, rfl, ?_⟩
  refine ⟨_, ld0 O3.s (Blk.all' hb_2) rfl, _, rfl, ?_⟩
  obtain ⟨l5, g6, e⟩ := bind_e e
  have q7 := sls_e g6
  refine ⟨q7.1, q7.2.1, cap_in q7.2.2.1 ke_1_0, ?_⟩
  try rw [q7.2.2.2.1]
  have k8 : List.length l5 ≤ (ce_1_0 - Int.toNat (0 : Int)) := sls_cap g6 ke_1_0
  have r9 := re_1_0.sls g6 (le_mx q7.2.2.1 ke_1_0)
  obtain ⟨y10, g11, e⟩ := bind_e e
  have O16 := O3.nm
  obtain ⟨m17, u18, s22, ⟨hb21, _⟩, B19, C20⟩ := O16.lend0 [0]
  refine (slices_ContainsFunc_15.walk (Hold.start (W := No) s22) rfl k8 (r9.sub T_api_Event.T u18) (fun h24 m25 u26 s27 y30 cs30 he30 r28 e29 => CallF.of [Value.agg cs30.toArray, Value.pointer (some ⟨(Array.size h), 0, none⟩), Value.pointer (some ⟨bk_3, 0, none⟩)] f69.ok rfl ((roadref4_History_1_1.walk (Hold.start (W := No) s27) he30 (VB.sub (show VB (eInt .i64) _ _ _ from ⟨_, _, hb21, nn, rfl⟩) (tell_int .i64) u26) (VB.sub (v_3.sub T_api_Event.T u18) T_api_Event.T u26) e29).mono (fun _ _ h => let ⟨_, t, e⟩ := h; ⟨e, t.S.ext⟩))) g11).mono ?_
  rintro _ h12 ⟨m13, Q14, rfl⟩
  have O31 := Hold.nm (C20 Q14 vfs_nil)
  refine ⟨_, rfl, ?_⟩
  cases e
  exact ⟨_, O31.pick [], rfl⟩
def roadref4_History.post (W : Nat → Prop) (h0 m0 : Heap) (r : Int) (v : Value) (h : Heap) : Prop := ∃ m , Hold W h0 m0 h m [] ∧ v = .int .i64 r
inductive roadref4_History.l0_k.Pt where
  | l0 (y_1 : (List T_api_Event)) (a_9 : List T_api_Event) (x_10 : Int) (x_11 : Int)
  | j0 (y_1 : (List T_api_Event)) (y_4 : T_api_Event) (y_5_c_1 : Int) (a_9 : List T_api_Event) (x_10 : Int) (x_11 : Int) (b_22 : Bool)
  | j1 (y_1 : (List T_api_Event)) (y_4 : T_api_Event) (y_5_c_1 : Int) (a_9 : List T_api_Event) (x_10 : Int) (x_11 : Int) (b_36 : Bool)
  | j2 (y_1 : (List T_api_Event)) (y_4 : T_api_Event) (y_5_c_1 : Int) (a_9 : List T_api_Event) (x_10 : Int) (x_11 : Int) (b_44 : Bool)
noncomputable def roadref4_History.l0_k.body (go : (p : roadref4_History.l0_k.Pt) → Option (Int)) : (p : roadref4_History.l0_k.Pt) → Option (Int)
  | .l0 y_1 a_9 x_10 x_11 => if x_11 < x_10 then (Option.bind (gi a_9 x_11) fun y1 => Option.bind (roadref4_within y1.Kind (1 : Int) (3 : Int)) fun y20 => if y20 = true then (Option.bind (roadref4_within y1.Place (0 : Int) (7 : Int)) fun y27 => if y27 = true then (if y1.Kind > (1 : Int) then (Option.bind (roadref4_within y1.Msg (0 : Int) (999 : Int)) fun y34 => (go (.j0 y_1 y1 x_11 a_9 x_10 x_11 (!y34)))) else ((go (.j0 y_1 y1 x_11 a_9 x_10 x_11 false)))) else ((go (.j0 y_1 y1 x_11 a_9 x_10 x_11 (!y27))))) else (some ((3 : Int)))) else (some ((0 : Int)))
  | .j0 y_1 y_4 y_5_c_1 a_9 x_10 x_11 b_22 => if b_22 = true then (some ((1 : Int))) else (if y_4.Kind = (2 : Int) then (Option.bind (roadref4_History_1 (2 : Int) y_1 y_5_c_1 y_4) fun y1 => (go (.j1 y_1 y_4 y_5_c_1 a_9 x_10 x_11 y1))) else ((go (.j1 y_1 y_4 y_5_c_1 a_9 x_10 x_11 false))))
  | .j1 y_1 y_4 y_5_c_1 a_9 x_10 x_11 b_36 => if b_36 = true then (some ((5 : Int))) else (if y_4.Kind = (3 : Int) then (Option.bind (roadref4_History_1 (2 : Int) y_1 y_5_c_1 y_4) fun y1 => (go (.j2 y_1 y_4 y_5_c_1 a_9 x_10 x_11 (!y1)))) else ((go (.j2 y_1 y_4 y_5_c_1 a_9 x_10 x_11 false))))
  | .j2 y_1 y_4 y_5_c_1 a_9 x_10 x_11 b_44 => if b_44 = true then (some ((4 : Int))) else (if y_4.Kind = (3 : Int) then (Option.bind (roadref4_History_1 (3 : Int) y_1 y_5_c_1 y_4) fun y1 => if y1 = true then (some ((5 : Int))) else ((go (.l0 y_1 a_9 x_10 (IntKind.wrap .i64 (x_11 + (1 : Int))))))) else ((go (.l0 y_1 a_9 x_10 (IntKind.wrap .i64 (x_11 + (1 : Int)))))))
theorem roadref4_History.l0_k.mono : MonoF (β := fun _ => (Int)) roadref4_History.l0_k.body := fun f g hfg p => match p with
  | .l0 y_1 a_9 x_10 x_11 => LeO.ite (LeO.bind (LeO.refl _) fun y1 => LeO.bind (LeO.refl _) fun y20 => LeO.ite (LeO.bind (LeO.refl _) fun y27 => LeO.ite (LeO.ite (LeO.bind (LeO.refl _) fun y34 => (hfg _)) ((hfg _))) ((hfg _))) (LeO.refl _)) (LeO.refl _)
  | .j0 y_1 y_4 y_5_c_1 a_9 x_10 x_11 b_22 => LeO.ite (LeO.refl _) (LeO.ite (LeO.bind (LeO.refl _) fun y1 => (hfg _)) ((hfg _)))
  | .j1 y_1 y_4 y_5_c_1 a_9 x_10 x_11 b_36 => LeO.ite (LeO.refl _) (LeO.ite (LeO.bind (LeO.refl _) fun y1 => (hfg _)) ((hfg _)))
  | .j2 y_1 y_4 y_5_c_1 a_9 x_10 x_11 b_44 => LeO.ite (LeO.refl _) (LeO.ite (LeO.bind (LeO.refl _) fun y1 => LeO.ite (LeO.refl _) ((hfg _))) ((hfg _)))
noncomputable def roadref4_History.l0_k.go (p : roadref4_History.l0_k.Pt) : Option (Int) := fixF (β := fun _ => (Int)) roadref4_History.l0_k.body p
noncomputable def roadref4_History.l0 (y_1 : (List T_api_Event)) (a_9 : List T_api_Event) (x_10 : Int) (x_11 : Int) : Option (Int) := roadref4_History.l0_k.go (.l0 y_1 a_9 x_10 x_11)
noncomputable def roadref4_History.j0 (y_1 : (List T_api_Event)) (y_4 : T_api_Event) (y_5_c_1 : Int) (a_9 : List T_api_Event) (x_10 : Int) (x_11 : Int) (b_22 : Bool) : Option (Int) := roadref4_History.l0_k.go (.j0 y_1 y_4 y_5_c_1 a_9 x_10 x_11 b_22)
noncomputable def roadref4_History.j1 (y_1 : (List T_api_Event)) (y_4 : T_api_Event) (y_5_c_1 : Int) (a_9 : List T_api_Event) (x_10 : Int) (x_11 : Int) (b_36 : Bool) : Option (Int) := roadref4_History.l0_k.go (.j1 y_1 y_4 y_5_c_1 a_9 x_10 x_11 b_36)
noncomputable def roadref4_History.j2 (y_1 : (List T_api_Event)) (y_4 : T_api_Event) (y_5_c_1 : Int) (a_9 : List T_api_Event) (x_10 : Int) (x_11 : Int) (b_44 : Bool) : Option (Int) := roadref4_History.l0_k.go (.j2 y_1 y_4 y_5_c_1 a_9 x_10 x_11 b_44)
theorem roadref4_History.l0_eq (y_1 : (List T_api_Event)) (a_9 : List T_api_Event) (x_10 : Int) (x_11 : Int) : roadref4_History.l0 y_1 a_9 x_10 x_11 = if x_11 < x_10 then (Option.bind (gi a_9 x_11) fun y1 => Option.bind (roadref4_within y1.Kind (1 : Int) (3 : Int)) fun y20 => if y20 = true then (Option.bind (roadref4_within y1.Place (0 : Int) (7 : Int)) fun y27 => if y27 = true then (if y1.Kind > (1 : Int) then (Option.bind (roadref4_within y1.Msg (0 : Int) (999 : Int)) fun y34 => (roadref4_History.j0 y_1 y1 x_11 a_9 x_10 x_11 (!y34))) else ((roadref4_History.j0 y_1 y1 x_11 a_9 x_10 x_11 false))) else ((roadref4_History.j0 y_1 y1 x_11 a_9 x_10 x_11 (!y27)))) else (some ((3 : Int)))) else (some ((0 : Int))) := fixF_eq roadref4_History.l0_k.mono _
theorem roadref4_History.j0_eq (y_1 : (List T_api_Event)) (y_4 : T_api_Event) (y_5_c_1 : Int) (a_9 : List T_api_Event) (x_10 : Int) (x_11 : Int) (b_22 : Bool) : roadref4_History.j0 y_1 y_4 y_5_c_1 a_9 x_10 x_11 b_22 = if b_22 = true then (some ((1 : Int))) else (if y_4.Kind = (2 : Int) then (Option.bind (roadref4_History_1 (2 : Int) y_1 y_5_c_1 y_4) fun y1 => (roadref4_History.j1 y_1 y_4 y_5_c_1 a_9 x_10 x_11 y1)) else ((roadref4_History.j1 y_1 y_4 y_5_c_1 a_9 x_10 x_11 false))) := fixF_eq roadref4_History.l0_k.mono _
theorem roadref4_History.j1_eq (y_1 : (List T_api_Event)) (y_4 : T_api_Event) (y_5_c_1 : Int) (a_9 : List T_api_Event) (x_10 : Int) (x_11 : Int) (b_36 : Bool) : roadref4_History.j1 y_1 y_4 y_5_c_1 a_9 x_10 x_11 b_36 = if b_36 = true then (some ((5 : Int))) else (if y_4.Kind = (3 : Int) then (Option.bind (roadref4_History_1 (2 : Int) y_1 y_5_c_1 y_4) fun y1 => (roadref4_History.j2 y_1 y_4 y_5_c_1 a_9 x_10 x_11 (!y1))) else ((roadref4_History.j2 y_1 y_4 y_5_c_1 a_9 x_10 x_11 false))) := fixF_eq roadref4_History.l0_k.mono _
theorem roadref4_History.j2_eq (y_1 : (List T_api_Event)) (y_4 : T_api_Event) (y_5_c_1 : Int) (a_9 : List T_api_Event) (x_10 : Int) (x_11 : Int) (b_44 : Bool) : roadref4_History.j2 y_1 y_4 y_5_c_1 a_9 x_10 x_11 b_44 = if b_44 = true then (some ((4 : Int))) else (if y_4.Kind = (3 : Int) then (Option.bind (roadref4_History_1 (3 : Int) y_1 y_5_c_1 y_4) fun y1 => if y1 = true then (some ((5 : Int))) else ((roadref4_History.l0 y_1 a_9 x_10 (IntKind.wrap .i64 (x_11 + (1 : Int)))))) else ((roadref4_History.l0 y_1 a_9 x_10 (IntKind.wrap .i64 (x_11 + (1 : Int)))))) := fixF_eq roadref4_History.l0_k.mono _
def roadref4_History.l0_k.I : (p : roadref4_History.l0_k.Pt) → (Int) → Prop
  | .l0 y_1 a_9 x_10 x_11, r => ∀ (W : Nat → Prop) (h0 m0 h m : Heap) (bk_1 : Nat) (cs_1 : List Value) (A_9 : Option Addr) (n_9 c_9 : Nat) (O : Hold W h0 m0 h m [rV bk_1 22 cs_1]) (e_1 : (eRow 3 T_api_Event.E) m y_1 cs_1) (ne_9 : n_9 = List.length a_9) (k_9 : List.length a_9 ≤ c_9) (r_9 : Rd 3 T_api_Event.E m A_9 a_9), f43.l0 (roadref4_History.post W h0 m0 r) (⟨bk_1, 0, none⟩ : Addr) A_9 n_9 c_9 x_10 x_11 h
  | .j0 y_1 y_4 y_5_c_1 a_9 x_10 x_11 b_22, r => ∀ (W : Nat → Prop) (h0 m0 h m : Heap) (bk_1 : Nat) (cs_1 : List Value) (bk_4 : Nat) (cs_4 : List Value) (bk_5_c_1 : Nat) (cs_5_c_1 : List Value) (A_9 : Option Addr) (n_9 c_9 : Nat) (O : Hold W h0 m0 h m [rV bk_1 22 cs_1, rV bk_4 36 cs_4, rV bk_5_c_1 3 cs_5_c_1]) (e_1 : (eRow 3 T_api_Event.E) m y_1 cs_1) (e_4 : T_api_Event.E m y_4 cs_4) (e_5_c_1 : (eInt .i64) m y_5_c_1 cs_5_c_1) (ne_9 : n_9 = List.length a_9) (k_9 : List.length a_9 ≤ c_9) (r_9 : Rd 3 T_api_Event.E m A_9 a_9), f43.j0 (roadref4_History.post W h0 m0 r) (⟨bk_1, 0, none⟩ : Addr) (⟨bk_4, 0, none⟩ : Addr) (⟨bk_1, 0, none⟩ : Addr) (⟨bk_5_c_1, 0, none⟩ : Addr) (⟨bk_4, 0, none⟩ : Addr) A_9 n_9 c_9 x_10 x_11 b_22 h
  | .j1 y_1 y_4 y_5_c_1 a_9 x_10 x_11 b_36, r => ∀ (W : Nat → Prop) (h0 m0 h m : Heap) (bk_1 : Nat) (cs_1 : List Value) (bk_4 : Nat) (cs_4 : List Value) (bk_5_c_1 : Nat) (cs_5_c_1 : List Value) (A_9 : Option Addr) (n_9 c_9 : Nat) (O : Hold W h0 m0 h m [rV bk_1 22 cs_1, rV bk_4 36 cs_4, rV bk_5_c_1 3 cs_5_c_1]) (e_1 : (eRow 3 T_api_Event.E) m y_1 cs_1) (e_4 : T_api_Event.E m y_4 cs_4) (e_5_c_1 : (eInt .i64) m y_5_c_1 cs_5_c_1) (ne_9 : n_9 = List.length a_9) (k_9 : List.length a_9 ≤ c_9) (r_9 : Rd 3 T_api_Event.E m A_9 a_9), f43.j1 (roadref4_History.post W h0 m0 r) (⟨bk_1, 0, none⟩ : Addr) (⟨bk_4, 0, none⟩ : Addr) (⟨bk_1, 0, none⟩ : Addr) (⟨bk_5_c_1, 0, none⟩ : Addr) (⟨bk_4, 0, none⟩ : Addr) A_9 n_9 c_9 x_10 x_11 b_36 h
  | .j2 y_1 y_4 y_5_c_1 a_9 x_10 x_11 b_44, r => ∀ (W : Nat → Prop) (h0 m0 h m : Heap) (bk_1 : Nat) (cs_1 : List Value) (bk_4 : Nat) (cs_4 : List Value) (bk_5_c_1 : Nat) (cs_5_c_1 : List Value) (A_9 : Option Addr) (n_9 c_9 : Nat) (O : Hold W h0 m0 h m [rV bk_1 22 cs_1, rV bk_4 36 cs_4, rV bk_5_c_1 3 cs_5_c_1]) (e_1 : (eRow 3 T_api_Event.E) m y_1 cs_1) (e_4 : T_api_Event.E m y_4 cs_4) (e_5_c_1 : (eInt .i64) m y_5_c_1 cs_5_c_1) (ne_9 : n_9 = List.length a_9) (k_9 : List.length a_9 ≤ c_9) (r_9 : Rd 3 T_api_Event.E m A_9 a_9), f43.j2 (roadref4_History.post W h0 m0 r) (⟨bk_1, 0, none⟩ : Addr) (⟨bk_4, 0, none⟩ : Addr) (⟨bk_1, 0, none⟩ : Addr) (⟨bk_5_c_1, 0, none⟩ : Addr) (⟨bk_4, 0, none⟩ : Addr) A_9 n_9 c_9 x_10 x_11 b_44 h
set_option maxHeartbeats 4000000 in
set_option maxRecDepth 100000 in
theorem roadref4_History.l0_k.step_l0 (go : (p : roadref4_History.l0_k.Pt) → Option (Int)) (ih : ∀ p r, go p = some r → roadref4_History.l0_k.I p r) (y_1 : (List T_api_Event)) (a_9 : List T_api_Event) (x_10 : Int) (x_11 : Int) (r : Int) (e : roadref4_History.l0_k.body go (.l0 y_1 a_9 x_10 x_11) = some r) : roadref4_History.l0_k.I (.l0 y_1 a_9 x_10 x_11) r := by
  unfold roadref4_History.l0_k.body at e
  intro W h0 m0 h m bk_1 cs_1 A_9 n_9 c_9 O e_1 ne_9 k_9 r_9
  obtain ⟨Ae_1_0, ce_1_0, rfl, ke_1_0, re_1_0⟩ := id e_1
  subst ne_9
  refine f43.l0_in ?_
  unfold f43.l0T
  refine split_dec_e e (fun c44 e => ?_) (fun c44 e => ?_)
  · obtain ⟨y1, g2, e⟩ := bind_e e
    refine r_9.addr rfl g2 fun a3 cs4 ha5 hc6 he7 => ?_
    refine ⟨_, ldAn O.s hc6 rfl, ?_⟩
    refine O.new fun h8 x9 O10 => ?_
    refine O10.new fun h12 x13 O14 => ?_
    refine O14.st0 1 rfl (Nat.le_of_ble_eq_true rfl) trivial fun h16 O17 => ?_
    refine ⟨_, rfl, (T_api_Event.T.len _ _ _ he7), ?_⟩
    refine O17.stA 2 rfl (T_api_Event.T.len _ _ _ he7) (T_api_Event.T.flat _ _ _ he7) fun h18 O19 => ?_
    refine ⟨_, ldk (k := 1) (Sub.refl _) (O19.all 2 rfl) (T_api_Event.g1 he7), _, rfl, ?_⟩
    obtain ⟨y20, g21, e⟩ := bind_e e
    refine (roadref4_within.walk (Hold.start (W := No) O19.s)  g21).mono ?_
    rintro _ h22 ⟨m23, Q24, rfl⟩
    have O26 := Hold.nm (O19.retC Q24 vfs_nil)
    refine ⟨_, rfl, ?_⟩
    refine split_not ?_
    refine split_any_e e (fun c43 e => ?_) (fun c43 e => ?_)
    · refine ⟨_, ld0 (Sub.refl _) (O26.all 2 rfl) (T_api_Event.g0 he7), _, rfl, ?_⟩
      obtain ⟨y27, g28, e⟩ := bind_e e
      refine (roadref4_within.walk (Hold.start (W := No) O26.s)  g28).mono ?_
      rintro _ h29 ⟨m30, Q31, rfl⟩
      have O33 := Hold.nm (O26.retC Q31 vfs_nil)
      refine ⟨_, rfl, ?_⟩
      refine split_not ?_
      refine split_any_e e (fun c42 e => ?_) (fun c42 e => ?_)
      · refine ⟨_, ldk (k := 1) (Sub.refl _) (O33.all 2 rfl) (T_api_Event.g1 he7), _, rfl, ?_⟩
        refine split_dec_e e (fun c41 e => ?_) (fun c41 e => ?_)
        · refine ⟨_, ldk (k := 2) (Sub.refl _) (O33.all 2 rfl) (T_api_Event.g2 he7), _, rfl, ?_⟩
          obtain ⟨y34, g35, e⟩ := bind_e e
          refine (roadref4_within.walk (Hold.start (W := No) O33.s)  g35).mono ?_
          rintro _ h36 ⟨m37, Q38, rfl⟩
          have O40 := Hold.nm (O33.retC Q38 vfs_nil)
          refine ⟨_, rfl, ?_⟩
          exact (ih _ _ e) _ _ _ _ _ _ _ _ _ _ _ _ _ _ (O40.pick [0, 2, 1]).nm ⟨_, _, rfl, ke_1_0, re_1_0⟩ he7 rfl rfl k_9 r_9
        · exact (ih _ _ e) _ _ _ _ _ _ _ _ _ _ _ _ _ _ (O33.pick [0, 2, 1]).nm ⟨_, _, rfl, ke_1_0, re_1_0⟩ he7 rfl rfl k_9 r_9
      · exact (ih _ _ e) _ _ _ _ _ _ _ _ _ _ _ _ _ _ (O33.pick [0, 2, 1]).nm ⟨_, _, rfl, ke_1_0, re_1_0⟩ he7 rfl rfl k_9 r_9
    · cases e
      exact ⟨_, O26.pick [], rfl⟩
  · cases e
    exact ⟨_, O.pick [], rfl⟩
set_option maxRecDepth 100000 in
theorem roadref4_History.l0_k.step_j0 (go : (p : roadref4_History.l0_k.Pt) → Option (Int)) (ih : ∀ p r, go p = some r → roadref4_History.l0_k.I p r) (y_1 : (List T_api_Event)) (y_4 : T_api_Event) (y_5_c_1 : Int) (a_9 : List T_api_Event) (x_10 : Int) (x_11 : Int) (b_22 : Bool) (r : Int) (e : roadref4_History.l0_k.body go (.j0 y_1 y_4 y_5_c_1 a_9 x_10 x_11 b_22) = some r) : roadref4_History.l0_k.I (.j0 y_1 y_4 y_5_c_1 a_9 x_10 x_11 b_22) r := by
  unfold roadref4_History.l0_k.body at e
  intro W h0 m0 h m bk_1 cs_1 bk_4 cs_4 bk_5_c_1 cs_5_c_1 A_9 n_9 c_9 O e_1 e_4 e_5_c_1 ne_9 k_9 r_9
  obtain ⟨Ae_1_0, ce_1_0, rfl, ke_1_0, re_1_0⟩ := id e_1
  obtain rfl : cs_5_c_1 = [(Value.int .i64 y_5_c_1)] := e_5_c_1
  subst ne_9
  refine f43.j0_in ?_
  unfold f43.j0T
  refine split_any_e e (fun c17 e => ?_) (fun c17 e => ?_)
  · cases e
    exact ⟨_, O.pick [], rfl⟩
  · refine ⟨_, ldk (k := 1) (Sub.refl _) (O.all 1 rfl) (T_api_Event.g1 e_4), _, rfl, ?_⟩
    refine split_eq_e e (fun c16 e => ?_) (fun c16 e => ?_)
    · obtain ⟨y1, g2, e⟩ := bind_e e
      obtain ⟨m7, u8, s14, ⟨hb11, hb12, hb13, _⟩, B9, C10⟩ := O.lend0 [0, 2, 1]
      refine (roadref4_History_1.walk (Hold.start (W := No) s14) ⟨_, _, hb11, nn, ⟨_, _, rfl, ke_1_0, (re_1_0.sub T_api_Event.T u8)⟩⟩ ⟨_, _, hb12, nn, rfl⟩ ⟨_, _, hb13, nn_len (T_api_Event.T.len _ _ _ e_4), (T_api_Event.T.mono _ _ _ _ u8 e_4)⟩ g2).mono ?_
      rintro _ h3 ⟨m4, Q5, rfl⟩
      have O15 := Hold.nm (C10 Q5 vfs_nil)
      refine ⟨_, rfl, ?_⟩
      exact (ih _ _ e) _ _ _ _ _ _ _ _ _ _ _ _ _ _ (O15.pick [0, 1, 2]).nm ⟨_, _, rfl, ke_1_0, re_1_0⟩ e_4 rfl rfl k_9 r_9
    · exact (ih _ _ e) _ _ _ _ _ _ _ _ _ _ _ _ _ _ (O.pick [0, 1, 2]).nm ⟨_, _, rfl, ke_1_0, re_1_0⟩ e_4 rfl rfl k_9 r_9
set_option maxRecDepth 100000 in
theorem roadref4_History.l0_k.step_j1 (go : (p : roadref4_History.l0_k.Pt) → Option (Int)) (ih : ∀ p r, go p = some r → roadref4_History.l0_k.I p r) (y_1 : (List T_api_Event)) (y_4 : T_api_Event) (y_5_c_1 : Int) (a_9 : List T_api_Event) (x_10 : Int) (x_11 : Int) (b_36 : Bool) (r : Int) (e : roadref4_History.l0_k.body go (.j1 y_1 y_4 y_5_c_1 a_9 x_10 x_11 b_36) = some r) : roadref4_History.l0_k.I (.j1 y_1 y_4 y_5_c_1 a_9 x_10 x_11 b_36) r := by
  unfold roadref4_History.l0_k.body at e
  intro W h0 m0 h m bk_1 cs_1 bk_4 cs_4 bk_5_c_1 cs_5_c_1 A_9 n_9 c_9 O e_1 e_4 e_5_c_1 ne_9 k_9 r_9
  obtain ⟨Ae_1_0, ce_1_0, rfl, ke_1_0, re_1_0⟩ := id e_1
  obtain rfl : cs_5_c_1 = [(Value.int .i64 y_5_c_1)] := e_5_c_1
  subst ne_9
  refine f43.j1_in ?_
  unfold f43.j1T
  refine split_any_e e (fun c17 e => ?_) (fun c17 e => ?_)
  · cases e
    exact ⟨_, O.pick [], rfl⟩
  · refine ⟨_, ldk (k := 1) (Sub.refl _) (O.all 1 rfl) (T_api_Event.g1 e_4), _, rfl, ?_⟩
    refine split_eq_e e (fun c16 e => ?_) (fun c16 e => ?_)
    · obtain ⟨y1, g2, e⟩ := bind_e e
      obtain ⟨m7, u8, s14, ⟨hb11, hb12, hb13, _⟩, B9, C10⟩ := O.lend0 [0, 2, 1]
      refine (roadref4_History_1.walk (Hold.start (W := No) s14) ⟨_, _, hb11, nn, ⟨_, _, rfl, ke_1_0, (re_1_0.sub T_api_Event.T u8)⟩⟩ ⟨_, _, hb12, nn, rfl⟩ ⟨_, _, hb13, nn_len (T_api_Event.T.len _ _ _ e_4), (T_api_Event.T.mono _ _ _ _ u8 e_4)⟩ g2).mono ?_
      rintro _ h3 ⟨m4, Q5, rfl⟩
      have O15 := Hold.nm (C10 Q5 vfs_nil)
      refine ⟨_, rfl, ?_⟩
      exact (ih _ _ e) _ _ _ _ _ _ _ _ _ _ _ _ _ _ (O15.pick [0, 1, 2]).nm ⟨_, _, rfl, ke_1_0, re_1_0⟩ e_4 rfl rfl k_9 r_9
    · exact (ih _ _ e) _ _ _ _ _ _ _ _ _ _ _ _ _ _ (O.pick [0, 1, 2]).nm ⟨_, _, rfl, ke_1_0, re_1_0⟩ e_4 rfl rfl k_9 r_9
set_option maxRecDepth 100000 in
theorem roadref4_History.l0_k.step_j2 (go : (p : roadref4_History.l0_k.Pt) → Option (Int)) (ih : ∀ p r, go p = some r → roadref4_History.l0_k.I p r) (y_1 : (List T_api_Event)) (y_4 : T_api_Event) (y_5_c_1 : Int) (a_9 : List T_api_Event) (x_10 : Int) (x_11 : Int) (b_44 : Bool) (r : Int) (e : roadref4_History.l0_k.body go (.j2 y_1 y_4 y_5_c_1 a_9 x_10 x_11 b_44) = some r) : roadref4_History.l0_k.I (.j2 y_1 y_4 y_5_c_1 a_9 x_10 x_11 b_44) r := by
  unfold roadref4_History.l0_k.body at e
  intro W h0 m0 h m bk_1 cs_1 bk_4 cs_4 bk_5_c_1 cs_5_c_1 A_9 n_9 c_9 O e_1 e_4 e_5_c_1 ne_9 k_9 r_9
  obtain ⟨Ae_1_0, ce_1_0, rfl, ke_1_0, re_1_0⟩ := id e_1
  obtain rfl : cs_5_c_1 = [(Value.int .i64 y_5_c_1)] := e_5_c_1
  subst ne_9
  refine f43.j2_in ?_
  unfold f43.j2T
  refine split_any_e e (fun c18 e => ?_) (fun c18 e => ?_)
  · cases e
    exact ⟨_, O.pick [], rfl⟩
  · refine ⟨_, ldk (k := 1) (Sub.refl _) (O.all 1 rfl) (T_api_Event.g1 e_4), _, rfl, ?_⟩
    refine split_eq_e e (fun c17 e => ?_) (fun c17 e => ?_)
    · obtain ⟨y1, g2, e⟩ := bind_e e
      obtain ⟨m7, u8, s14, ⟨hb11, hb12, hb13, _⟩, B9, C10⟩ := O.lend0 [0, 2, 1]
      refine (roadref4_History_1.walk (Hold.start (W := No) s14) ⟨_, _, hb11, nn, ⟨_, _, rfl, ke_1_0, (re_1_0.sub T_api_Event.T u8)⟩⟩ ⟨_, _, hb12, nn, rfl⟩ ⟨_, _, hb13, nn_len (T_api_Event.T.len _ _ _ e_4), (T_api_Event.T.mono _ _ _ _ u8 e_4)⟩ g2).mono ?_
      rintro _ h3 ⟨m4, Q5, rfl⟩
      have O15 := Hold.nm (C10 Q5 vfs_nil)
      refine ⟨_, rfl, ?_⟩
      refine split_any_e e (fun c16 e => ?_) (fun c16 e => ?_)
      · cases e
        exact ⟨_, O15.pick [], rfl⟩
      · exact (ih _ _ e) _ _ _ _ _ _ _ _ _ _ (O15.pick [0]).nm ⟨_, _, rfl, ke_1_0, re_1_0⟩ rfl k_9 r_9
    · exact (ih _ _ e) _ _ _ _ _ _ _ _ _ _ (O.pick [0]).nm ⟨_, _, rfl, ke_1_0, re_1_0⟩ rfl k_9 r_9
theorem roadref4_History.l0_k.all {p : roadref4_History.l0_k.Pt} {r : (Int)} (e : roadref4_History.l0_k.go p = some r) : roadref4_History.l0_k.I p r := fixF_ind (β := fun _ => (Int)) roadref4_History.l0_k.mono (I := roadref4_History.l0_k.I) (fun go ih p r e => match p with
  | .l0 y_1 a_9 x_10 x_11 => roadref4_History.l0_k.step_l0 go ih y_1 a_9 x_10 x_11 r e
  | .j0 y_1 y_4 y_5_c_1 a_9 x_10 x_11 b_22 => roadref4_History.l0_k.step_j0 go ih y_1 y_4 y_5_c_1 a_9 x_10 x_11 b_22 r e
  | .j1 y_1 y_4 y_5_c_1 a_9 x_10 x_11 b_36 => roadref4_History.l0_k.step_j1 go ih y_1 y_4 y_5_c_1 a_9 x_10 x_11 b_36 r e
  | .j2 y_1 y_4 y_5_c_1 a_9 x_10 x_11 b_44 => roadref4_History.l0_k.step_j2 go ih y_1 y_4 y_5_c_1 a_9 x_10 x_11 b_44 r e
  ) e
theorem roadref4_History.l0.walk {W : Nat → Prop} {h0 m0 h m : Heap} {bk_1 : Nat} {cs_1 : List Value} {A_9 : Option Addr} {n_9 c_9 : Nat} {y_1 : (List T_api_Event)} {a_9 : List T_api_Event} {x_10 : Int} {x_11 : Int} (O : Hold W h0 m0 h m [rV bk_1 22 cs_1]) (e_1 : (eRow 3 T_api_Event.E) m y_1 cs_1) (ne_9 : n_9 = List.length a_9) (k_9 : List.length a_9 ≤ c_9) (r_9 : Rd 3 T_api_Event.E m A_9 a_9) {r : Int} (e : roadref4_History.l0 y_1 a_9 x_10 x_11 = some r) : f43.l0 (roadref4_History.post W h0 m0 r) (⟨bk_1, 0, none⟩ : Addr) A_9 n_9 c_9 x_10 x_11 h := roadref4_History.l0_k.all (p := .l0 y_1 a_9 x_10 x_11) e W h0 m0 h m bk_1 cs_1 A_9 n_9 c_9 O e_1 ne_9 k_9 r_9
noncomputable def roadref4_History (a_0 : List T_api_Event) : Option (Int) :=
  if (((List.length a_0) : Nat) : Int) > (200 : Int) then (some ((2 : Int))) else ((roadref4_History.l0 a_0 a_0 (((List.length a_0) : Nat) : Int) (0 : Int)))
set_option maxRecDepth 100000 in
theorem roadref4_History.walk {W : Nat → Prop} {h m : Heap} {A_0 : Option Addr} {n_0 c_0 : Nat} {a_0 : List T_api_Event} (O : Hold W h m h m []) (ne_0 : n_0 = List.length a_0) (k_0 : List.length a_0 ≤ c_0) (r_0 : Rd 3 T_api_Event.E m A_0 a_0) {r : Int} (e : roadref4_History a_0 = some r) : Run Try.prog 43 #[Value.slice A_0 n_0 c_0] h (roadref4_History.post W h m r) := by
  unfold roadref4_History at e
  subst ne_0
  refine f43.run ?_
  unfold f43.runT
  refine O.new fun h1 x2 O3 => ?_
  refine ⟨_, ld0 (Sub.refl _) (O3.all 0 rfl) rfl, _, _, _, rfl, ?_⟩
  refine split_dec_e e (fun c7 e => ?_) (fun c7 e => ?_)
  · have O5 := O3.nm
    cases e
    exact ⟨_, O5.pick [], rfl⟩
  · refine ⟨_, ld0 (Sub.refl _) (O3.all 0 rfl) rfl, _, _, _, rfl, ?_⟩
    have O6 := O3.nm
    exact roadref4_History.l0.walk (O6.pick [0]).nm ⟨_, _, rfl, k_0, r_0⟩ rfl k_0 r_0 e
def roadref4_Cuts.post (W : Nat → Prop) (h0 m0 : Heap) (r : Int) (v : Value) (h : Heap) : Prop := ∃ m , Hold W h0 m0 h m [] ∧ v = .int .i64 r
inductive roadref4_Cuts.l0_k.Pt where
  | l0 (a_0 : List T_api_Event) (a_18 : List (List Int)) (x_19 : Int) (x_20 : Int)
  | l1 (a_0 : List T_api_Event) (a_18 : List (List Int)) (x_19 : Int) (x_20 : Int) (a_27 : List Int) (x_28 : Int) (x_29 : Int)
  | l2 (a_0 : List T_api_Event) (x_8 : Int) (x_9 : Int) (x_10 : Int) (a_18 : List (List Int)) (x_19 : Int) (x_20 : Int) (a_27 : List Int) (x_28 : Int) (x_29 : Int) (a_34 : List T_api_Event) (x_35 : Int) (x_36 : Int)
noncomputable def roadref4_Cuts.l0_k.body (go : (p : roadref4_Cuts.l0_k.Pt) → Option (Int)) : (p : roadref4_Cuts.l0_k.Pt) → Option (Int)
  | .l0 a_0 a_18 x_19 x_20 => if x_20 < x_19 then (Option.bind (gi a_18 x_20) fun y1 => if (((List.length y1) : Nat) : Int) = (8 : Int) then ((go (.l1 a_0 a_18 x_19 x_20 y1 (((List.length y1) : Nat) : Int) (0 : Int)))) else (some ((3 : Int)))) else (some ((0 : Int)))
  | .l1 a_0 a_18 x_19 x_20 a_27 x_28 x_29 => if x_29 < x_28 then (Option.bind (gi a_27 x_29) fun y1 => (go (.l2 a_0 x_29 y1 (0 : Int) a_18 x_19 x_20 a_27 x_28 x_29 a_0 (((List.length a_0) : Nat) : Int) (0 : Int)))) else ((go (.l0 a_0 a_18 x_19 (IntKind.wrap .i64 (x_20 + (1 : Int))))))
  | .l2 a_0 x_8 x_9 x_10 a_18 x_19 x_20 a_27 x_28 x_29 a_34 x_35 x_36 => if x_36 < x_35 then (Option.bind (gi a_34 x_36) fun y1 => if y1.Place = x_8 then ((go (.l2 a_0 x_8 x_9 (IntKind.wrap .i64 (x_10 + (1 : Int))) a_18 x_19 x_20 a_27 x_28 x_29 a_34 x_35 (IntKind.wrap .i64 (x_36 + (1 : Int)))))) else ((go (.l2 a_0 x_8 x_9 x_10 a_18 x_19 x_20 a_27 x_28 x_29 a_34 x_35 (IntKind.wrap .i64 (x_36 + (1 : Int))))))) else (Option.bind (roadref4_within x_9 (0 : Int) x_10) fun y17 => if y17 = true then ((go (.l1 a_0 a_18 x_19 x_20 a_27 x_28 (IntKind.wrap .i64 (x_29 + (1 : Int)))))) else (some ((1 : Int))))
theorem roadref4_Cuts.l0_k.mono : MonoF (β := fun _ => (Int)) roadref4_Cuts.l0_k.body := fun f g hfg p => match p with
  | .l0 a_0 a_18 x_19 x_20 => LeO.ite (LeO.bind (LeO.refl _) fun y1 => LeO.ite ((hfg _)) (LeO.refl _)) (LeO.refl _)
  | .l1 a_0 a_18 x_19 x_20 a_27 x_28 x_29 => LeO.ite (LeO.bind (LeO.refl _) fun y1 => (hfg _)) ((hfg _))
  | .l2 a_0 x_8 x_9 x_10 a_18 x_19 x_20 a_27 x_28 x_29 a_34 x_35 x_36 => LeO.ite (LeO.bind (LeO.refl _) fun y1 => LeO.ite ((hfg _)) ((hfg _))) (LeO.bind (LeO.refl _) fun y17 => LeO.ite ((hfg _)) (LeO.refl _))
noncomputable def roadref4_Cuts.l0_k.go (p : roadref4_Cuts.l0_k.Pt) : Option (Int) := fixF (β := fun _ => (Int)) roadref4_Cuts.l0_k.body p
noncomputable def roadref4_Cuts.l0 (a_0 : List T_api_Event) (a_18 : List (List Int)) (x_19 : Int) (x_20 : Int) : Option (Int) := roadref4_Cuts.l0_k.go (.l0 a_0 a_18 x_19 x_20)
noncomputable def roadref4_Cuts.l1 (a_0 : List T_api_Event) (a_18 : List (List Int)) (x_19 : Int) (x_20 : Int) (a_27 : List Int) (x_28 : Int) (x_29 : Int) : Option (Int) := roadref4_Cuts.l0_k.go (.l1 a_0 a_18 x_19 x_20 a_27 x_28 x_29)
noncomputable def roadref4_Cuts.l2 (a_0 : List T_api_Event) (x_8 : Int) (x_9 : Int) (x_10 : Int) (a_18 : List (List Int)) (x_19 : Int) (x_20 : Int) (a_27 : List Int) (x_28 : Int) (x_29 : Int) (a_34 : List T_api_Event) (x_35 : Int) (x_36 : Int) : Option (Int) := roadref4_Cuts.l0_k.go (.l2 a_0 x_8 x_9 x_10 a_18 x_19 x_20 a_27 x_28 x_29 a_34 x_35 x_36)
theorem roadref4_Cuts.l0_eq (a_0 : List T_api_Event) (a_18 : List (List Int)) (x_19 : Int) (x_20 : Int) : roadref4_Cuts.l0 a_0 a_18 x_19 x_20 = if x_20 < x_19 then (Option.bind (gi a_18 x_20) fun y1 => if (((List.length y1) : Nat) : Int) = (8 : Int) then ((roadref4_Cuts.l1 a_0 a_18 x_19 x_20 y1 (((List.length y1) : Nat) : Int) (0 : Int))) else (some ((3 : Int)))) else (some ((0 : Int))) := fixF_eq roadref4_Cuts.l0_k.mono _
theorem roadref4_Cuts.l1_eq (a_0 : List T_api_Event) (a_18 : List (List Int)) (x_19 : Int) (x_20 : Int) (a_27 : List Int) (x_28 : Int) (x_29 : Int) : roadref4_Cuts.l1 a_0 a_18 x_19 x_20 a_27 x_28 x_29 = if x_29 < x_28 then (Option.bind (gi a_27 x_29) fun y1 => (roadref4_Cuts.l2 a_0 x_29 y1 (0 : Int) a_18 x_19 x_20 a_27 x_28 x_29 a_0 (((List.length a_0) : Nat) : Int) (0 : Int))) else ((roadref4_Cuts.l0 a_0 a_18 x_19 (IntKind.wrap .i64 (x_20 + (1 : Int))))) := fixF_eq roadref4_Cuts.l0_k.mono _
theorem roadref4_Cuts.l2_eq (a_0 : List T_api_Event) (x_8 : Int) (x_9 : Int) (x_10 : Int) (a_18 : List (List Int)) (x_19 : Int) (x_20 : Int) (a_27 : List Int) (x_28 : Int) (x_29 : Int) (a_34 : List T_api_Event) (x_35 : Int) (x_36 : Int) : roadref4_Cuts.l2 a_0 x_8 x_9 x_10 a_18 x_19 x_20 a_27 x_28 x_29 a_34 x_35 x_36 = if x_36 < x_35 then (Option.bind (gi a_34 x_36) fun y1 => if y1.Place = x_8 then ((roadref4_Cuts.l2 a_0 x_8 x_9 (IntKind.wrap .i64 (x_10 + (1 : Int))) a_18 x_19 x_20 a_27 x_28 x_29 a_34 x_35 (IntKind.wrap .i64 (x_36 + (1 : Int))))) else ((roadref4_Cuts.l2 a_0 x_8 x_9 x_10 a_18 x_19 x_20 a_27 x_28 x_29 a_34 x_35 (IntKind.wrap .i64 (x_36 + (1 : Int)))))) else (Option.bind (roadref4_within x_9 (0 : Int) x_10) fun y17 => if y17 = true then ((roadref4_Cuts.l1 a_0 a_18 x_19 x_20 a_27 x_28 (IntKind.wrap .i64 (x_29 + (1 : Int))))) else (some ((1 : Int)))) := fixF_eq roadref4_Cuts.l0_k.mono _
def roadref4_Cuts.l0_k.I : (p : roadref4_Cuts.l0_k.Pt) → (Int) → Prop
  | .l0 a_0 a_18 x_19 x_20, r => ∀ (W : Nat → Prop) (h0 m0 h m : Heap) (A_0 : Option Addr) (n_0 c_0 : Nat) (A_18 : Option Addr) (n_18 c_18 : Nat) (O : Hold W h0 m0 h m []) (ne_0 : n_0 = List.length a_0) (k_0 : List.length a_0 ≤ c_0) (r_0 : Rd 3 T_api_Event.E m A_0 a_0) (ne_18 : n_18 = List.length a_18) (k_18 : List.length a_18 ≤ c_18) (r_18 : Rd 1 (eRow 1 (eInt .i64)) m A_18 a_18), f13.l0 (roadref4_Cuts.post W h0 m0 r) A_0 n_0 c_0 A_18 n_18 c_18 x_19 x_20 h
  | .l1 a_0 a_18 x_19 x_20 a_27 x_28 x_29, r => ∀ (W : Nat → Prop) (h0 m0 h m : Heap) (A_0 : Option Addr) (n_0 c_0 : Nat) (A_18 : Option Addr) (n_18 c_18 : Nat) (A_27 : Option Addr) (n_27 c_27 : Nat) (O : Hold W h0 m0 h m []) (ne_0 : n_0 = List.length a_0) (k_0 : List.length a_0 ≤ c_0) (r_0 : Rd 3 T_api_Event.E m A_0 a_0) (ne_18 : n_18 = List.length a_18) (k_18 : List.length a_18 ≤ c_18) (r_18 : Rd 1 (eRow 1 (eInt .i64)) m A_18 a_18) (ne_27 : n_27 = List.length a_27) (k_27 : List.length a_27 ≤ c_27) (r_27 : Rd 1 (eInt .i64) m A_27 a_27), f13.l1 (roadref4_Cuts.post W h0 m0 r) A_0 n_0 c_0 A_18 n_18 c_18 x_19 x_20 A_27 n_27 c_27 x_28 x_29 h
  | .l2 a_0 x_8 x_9 x_10 a_18 x_19 x_20 a_27 x_28 x_29 a_34 x_35 x_36, r => ∀ (W : Nat → Prop) (h0 m0 h m : Heap) (A_0 : Option Addr) (n_0 c_0 : Nat) (A_18 : Option Addr) (n_18 c_18 : Nat) (A_27 : Option Addr) (n_27 c_27 : Nat) (A_34 : Option Addr) (n_34 c_34 : Nat) (O : Hold W h0 m0 h m []) (ne_0 : n_0 = List.length a_0) (k_0 : List.length a_0 ≤ c_0) (r_0 : Rd 3 T_api_Event.E m A_0 a_0) (ne_18 : n_18 = List.length a_18) (k_18 : List.length a_18 ≤ c_18) (r_18 : Rd 1 (eRow 1 (eInt .i64)) m A_18 a_18) (ne_27 : n_27 = List.length a_27) (k_27 : List.length a_27 ≤ c_27) (r_27 : Rd 1 (eInt .i64) m A_27 a_27) (ne_34 : n_34 = List.length a_34) (k_34 : List.length a_34 ≤ c_34) (r_34 : Rd 3 T_api_Event.E m A_34 a_34), f13.l2 (roadref4_Cuts.post W h0 m0 r) A_0 n_0 c_0 x_8 x_9 x_10 A_18 n_18 c_18 x_19 x_20 A_27 n_27 c_27 x_28 x_29 A_34 n_34 c_34 x_35 x_36 h
set_option maxRecDepth 100000 in
theorem roadref4_Cuts.l0_k.step_l0 (go : (p : roadref4_Cuts.l0_k.Pt) → Option (Int)) (ih : ∀ p r, go p = some r → roadref4_Cuts.l0_k.I p r) (a_0 : List T_api_Event) (a_18 : List (List Int)) (x_19 : Int) (x_20 : Int) (r : Int) (e : roadref4_Cuts.l0_k.body go (.l0 a_0 a_18 x_19 x_20) = some r) : roadref4_Cuts.l0_k.I (.l0 a_0 a_18 x_19 x_20) r := by
  unfold roadref4_Cuts.l0_k.body at e
  intro W h0 m0 h m A_0 n_0 c_0 A_18 n_18 c_18 O ne_0 k_0 r_0 ne_18 k_18 r_18
  subst ne_0
  subst ne_18
  refine f13.l0_in ?_
  unfold f13.l0T
  refine split_dec_e e (fun c9 e => ?_) (fun c9 e => ?_)
  · obtain ⟨y1, g2, e⟩ := bind_e e
    refine r_18.addr rfl g2 fun a3 cs4 ha5 hc6 he7 => ?_
    obtain ⟨Acs4_0, ccs4_0, rfl, kcs4_0, rcs4_0⟩ := id he7
    refine ⟨_, ld0 O.s hc6 rfl, _, _, _, rfl, ?_⟩
    refine split_ne_e e (fun c8 e => ?_) (fun c8 e => ?_)
    · cases e
      exact ⟨_, O.pick [], rfl⟩
    · exact (ih _ _ e) _ _ _ _ _ _ _ _ _ _ _ _ _ _ (O.pick []).nm rfl k_0 r_0 rfl k_18 r_18 rfl kcs4_0 rcs4_0
  · cases e
    exact ⟨_, O.pick [], rfl⟩
set_option maxRecDepth 100000 in
theorem roadref4_Cuts.l0_k.step_l1 (go : (p : roadref4_Cuts.l0_k.Pt) → Option (Int)) (ih : ∀ p r, go p = some r → roadref4_Cuts.l0_k.I p r) (a_0 : List T_api_Event) (a_18 : List (List Int)) (x_19 : Int) (x_20 : Int) (a_27 : List Int) (x_28 : Int) (x_29 : Int) (r : Int) (e : roadref4_Cuts.l0_k.body go (.l1 a_0 a_18 x_19 x_20 a_27 x_28 x_29) = some r) : roadref4_Cuts.l0_k.I (.l1 a_0 a_18 x_19 x_20 a_27 x_28 x_29) r := by
  unfold roadref4_Cuts.l0_k.body at e
  intro W h0 m0 h m A_0 n_0 c_0 A_18 n_18 c_18 A_27 n_27 c_27 O ne_0 k_0 r_0 ne_18 k_18 r_18 ne_27 k_27 r_27
  subst ne_0
  subst ne_18
  subst ne_27
  refine f13.l1_in ?_
  unfold f13.l1T
  refine split_dec_e e (fun c8 e => ?_) (fun c8 e => ?_)
  · obtain ⟨y1, g2, e⟩ := bind_e e
    refine r_27.addr rfl g2 fun a3 cs4 ha5 hc6 he7 => ?_
    obtain rfl : cs4 = [(Value.int .i64 y1)] := he7
    refine ⟨_, ld0 O.s hc6 rfl, _, rfl, ?_⟩
    exact (ih _ _ e) _ _ _ _ _ _ _ _ _ _ _ _ _ _ _ _ _ (O.pick []).nm rfl k_0 r_0 rfl k_18 r_18 rfl k_27 r_27 rfl k_0 r_0
  · exact (ih _ _ e) _ _ _ _ _ _ _ _ _ _ _ (O.pick []).nm rfl k_0 r_0 rfl k_18 r_18
set_option maxRecDepth 100000 in
theorem roadref4_Cuts.l0_k.step_l2 (go : (p : roadref4_Cuts.l0_k.Pt) → Option (Int)) (ih : ∀ p r, go p = some r → roadref4_Cuts.l0_k.I p r) (a_0 : List T_api_Event) (x_8 : Int) (x_9 : Int) (x_10 : Int) (a_18 : List (List Int)) (x_19 : Int) (x_20 : Int) (a_27 : List Int) (x_28 : Int) (x_29 : Int) (a_34 : List T_api_Event) (x_35 : Int) (x_36 : Int) (r : Int) (e : roadref4_Cuts.l0_k.body go (.l2 a_0 x_8 x_9 x_10 a_18 x_19 x_20 a_27 x_28 x_29 a_34 x_35 x_36) = some r) : roadref4_Cuts.l0_k.I (.l2 a_0 x_8 x_9 x_10 a_18 x_19 x_20 a_27 x_28 x_29 a_34 x_35 x_36) r := by
  unfold roadref4_Cuts.l0_k.body at e
  intro W h0 m0 h m A_0 n_0 c_0 A_18 n_18 c_18 A_27 n_27 c_27 A_34 n_34 c_34 O ne_0 k_0 r_0 ne_18 k_18 r_18 ne_27 k_27 r_27 ne_34 k_34 r_34
  subst ne_0
  subst ne_18
  subst ne_27
  subst ne_34
  refine f13.l2_in ?_
  unfold f13.l2T
  refine split_dec_e e (fun c25 e => ?_) (fun c25 e => ?_)
  · obtain ⟨y1, g2, e⟩ := bind_e e
    refine r_34.addr rfl g2 fun a3 cs4 ha5 hc6 he7 => ?_
    refine ⟨_, ldAn O.s hc6 rfl, ?_⟩
    refine O.new fun h8 x9 O10 => ?_
    refine ⟨_, rfl, (T_api_Event.T.len _ _ _ he7), ?_⟩
    refine O10.stA 0 rfl (T_api_Event.T.len _ _ _ he7) (T_api_Event.T.flat _ _ _ he7) fun h12 O13 => ?_
    refine ⟨_, ld0 (Sub.refl _) (O13.all 0 rfl) (T_api_Event.g0 he7), _, rfl, ?_⟩
    refine split_eq_e e (fun c16 e => ?_) (fun c16 e => ?_)
    · have O14 := O13.nm
      exact (ih _ _ e) _ _ _ _ _ _ _ _ _ _ _ _ _ _ _ _ _ (O14.pick []).nm rfl k_0 r_0 rfl k_18 r_18 rfl k_27 r_27 rfl k_34 r_34
    · have O15 := O13.nm
      exact (ih _ _ e) _ _ _ _ _ _ _ _ _ _ _ _ _ _ _ _ _ (O15.pick []).nm rfl k_0 r_0 rfl k_18 r_18 rfl k_27 r_27 rfl k_34 r_34
  · obtain ⟨y17, g18, e⟩ := bind_e e
    refine (roadref4_within.walk (Hold.start (W := No) O.s)  g18).mono ?_
    rintro _ h19 ⟨m20, Q21, rfl⟩
    have O23 := Hold.nm (O.retC Q21 vfs_nil)
    refine ⟨_, rfl, ?_⟩
    refine split_not ?_
    refine split_any_e e (fun c24 e => ?_) (fun c24 e => ?_)
    · exact (ih _ _ e) _ _ _ _ _ _ _ _ _ _ _ _ _ _ (O23.pick []).nm rfl k_0 r_0 rfl k_18 r_18 rfl k_27 r_27
    · cases e
      exact ⟨_, O23.pick [], rfl⟩
theorem roadref4_Cuts.l0_k.all {p : roadref4_Cuts.l0_k.Pt} {r : (Int)} (e : roadref4_Cuts.l0_k.go p = some r) : roadref4_Cuts.l0_k.I p r := fixF_ind (β := fun _ => (Int)) roadref4_Cuts.l0_k.mono (I := roadref4_Cuts.l0_k.I) (fun go ih p r e => match p with
  | .l0 a_0 a_18 x_19 x_20 => roadref4_Cuts.l0_k.step_l0 go ih a_0 a_18 x_19 x_20 r e
  | .l1 a_0 a_18 x_19 x_20 a_27 x_28 x_29 => roadref4_Cuts.l0_k.step_l1 go ih a_0 a_18 x_19 x_20 a_27 x_28 x_29 r e
  | .l2 a_0 x_8 x_9 x_10 a_18 x_19 x_20 a_27 x_28 x_29 a_34 x_35 x_36 => roadref4_Cuts.l0_k.step_l2 go ih a_0 x_8 x_9 x_10 a_18 x_19 x_20 a_27 x_28 x_29 a_34 x_35 x_36 r e
  ) e
theorem roadref4_Cuts.l0.walk {W : Nat → Prop} {h0 m0 h m : Heap} {A_0 : Option Addr} {n_0 c_0 : Nat} {A_18 : Option Addr} {n_18 c_18 : Nat} {a_0 : List T_api_Event} {a_18 : List (List Int)} {x_19 : Int} {x_20 : Int} (O : Hold W h0 m0 h m []) (ne_0 : n_0 = List.length a_0) (k_0 : List.length a_0 ≤ c_0) (r_0 : Rd 3 T_api_Event.E m A_0 a_0) (ne_18 : n_18 = List.length a_18) (k_18 : List.length a_18 ≤ c_18) (r_18 : Rd 1 (eRow 1 (eInt .i64)) m A_18 a_18) {r : Int} (e : roadref4_Cuts.l0 a_0 a_18 x_19 x_20 = some r) : f13.l0 (roadref4_Cuts.post W h0 m0 r) A_0 n_0 c_0 A_18 n_18 c_18 x_19 x_20 h := roadref4_Cuts.l0_k.all (p := .l0 a_0 a_18 x_19 x_20) e W h0 m0 h m A_0 n_0 c_0 A_18 n_18 c_18 O ne_0 k_0 r_0 ne_18 k_18 r_18
noncomputable def roadref4_Cuts (a_0 : List T_api_Event) (a_1 : List (List Int)) : Option (Int) :=
  Option.bind (roadref4_History a_0) fun y1 => if y1 = (0 : Int) then ((roadref4_Cuts.l0 a_0 a_1 (((List.length a_1) : Nat) : Int) (0 : Int))) else (some (y1))
set_option maxRecDepth 100000 in
theorem roadref4_Cuts.walk {W : Nat → Prop} {h m : Heap} {A_0 : Option Addr} {n_0 c_0 : Nat} {A_1 : Option Addr} {n_1 c_1 : Nat} {a_0 : List T_api_Event} {a_1 : List (List Int)} (O : Hold W h m h m []) (ne_0 : n_0 = List.length a_0) (k_0 : List.length a_0 ≤ c_0) (r_0 : Rd 3 T_api_Event.E m A_0 a_0) (ne_1 : n_1 = List.length a_1) (k_1 : List.length a_1 ≤ c_1) (r_1 : Rd 1 (eRow 1 (eInt .i64)) m A_1 a_1) {r : Int} (e : roadref4_Cuts a_0 a_1 = some r) : Run Try.prog 13 #[Value.slice A_0 n_0 c_0, Value.slice A_1 n_1 c_1] h (roadref4_Cuts.post W h m r) := by
  unfold roadref4_Cuts at e
  subst ne_0
  subst ne_1
  refine f13.run ?_
  unfold f13.runT
  obtain ⟨y1, g2, e⟩ := bind_e e
  refine (roadref4_History.walk (Hold.start (W := No) O.s) rfl k_0 r_0 g2).mono ?_
  rintro _ h3 ⟨m4, Q5, rfl⟩
  have O7 := Hold.nm (O.retC Q5 vfs_nil)
  refine ⟨_, rfl, ?_⟩
  refine split_ne_e e (fun c8 e => ?_) (fun c8 e => ?_)
  · cases e
    exact ⟨_, O7.pick [], rfl⟩
  · exact roadref4_Cuts.l0.walk (O7.pick []).nm rfl k_0 r_0 rfl k_1 r_1 e
def roadref4_In.post (W : Nat → Prop) (h0 m0 : Heap) (r : (List Bool)) (v : Value) (h : Heap) : Prop := ∃ m A0 n0 c0, Hold W h0 m0 h m [rR (aE tell_bool) A0 c0 r] ∧ v = .slice A0 n0 c0 ∧ n0 = List.length r
inductive roadref4_In.l0_k.Pt where
  | l0 (a_5 : List Int) (a_6 : List Bool) (a_14 : List T_api_Event) (x_15 : Int) (x_16 : Int)
noncomputable def roadref4_In.l0_k.body (go : (p : roadref4_In.l0_k.Pt) → Option ((List Bool))) : (p : roadref4_In.l0_k.Pt) → Option ((List Bool))
  | .l0 a_5 a_6 a_14 x_15 x_16 => if x_16 < x_15 then (Option.bind (gi a_14 x_16) fun y1 => Option.bind (gi a_5 y1.Place) fun y14 => if y14 > (0 : Int) then (Option.bind (gi a_5 y1.Place) fun y21 => Option.bind (gi a_5 y1.Place) fun y28 => Option.bind (some (List.set a_5 (Int.toNat y1.Place) (IntKind.wrap .i64 (y21 - (1 : Int))))) fun l37 => Option.bind (gi a_6 x_16) fun y39 => Option.bind (some (List.set a_6 (Int.toNat x_16) true)) fun l48 => (go (.l0 l37 l48 a_14 x_15 (IntKind.wrap .i64 (x_16 + (1 : Int)))))) else ((go (.l0 a_5 a_6 a_14 x_15 (IntKind.wrap .i64 (x_16 + (1 : Int))))))) else (some (a_6))
theorem roadref4_In.l0_k.mono : MonoF (β := fun _ => ((List Bool))) roadref4_In.l0_k.body := fun f g hfg p => match p with
  | .l0 a_5 a_6 a_14 x_15 x_16 => LeO.ite (LeO.bind (LeO.refl _) fun y1 => LeO.bind (LeO.refl _) fun y14 => LeO.ite (LeO.bind (LeO.refl _) fun y21 => LeO.bind (LeO.refl _) fun y28 => LeO.bind (LeO.refl _) fun l37 => LeO.bind (LeO.refl _) fun y39 => LeO.bind (LeO.refl _) fun l48 => (hfg _)) ((hfg _))) (LeO.refl _)
noncomputable def roadref4_In.l0_k.go (p : roadref4_In.l0_k.Pt) : Option ((List Bool)) := fixF (β := fun _ => ((List Bool))) roadref4_In.l0_k.body p
noncomputable def roadref4_In.l0 (a_5 : List Int) (a_6 : List Bool) (a_14 : List T_api_Event) (x_15 : Int) (x_16 : Int) : Option ((List Bool)) := roadref4_In.l0_k.go (.l0 a_5 a_6 a_14 x_15 x_16)
theorem roadref4_In.l0_eq (a_5 : List Int) (a_6 : List Bool) (a_14 : List T_api_Event) (x_15 : Int) (x_16 : Int) : roadref4_In.l0 a_5 a_6 a_14 x_15 x_16 = if x_16 < x_15 then (Option.bind (gi a_14 x_16) fun y1 => Option.bind (gi a_5 y1.Place) fun y14 => if y14 > (0 : Int) then (Option.bind (gi a_5 y1.Place) fun y21 => Option.bind (gi a_5 y1.Place) fun y28 => Option.bind (some (List.set a_5 (Int.toNat y1.Place) (IntKind.wrap .i64 (y21 - (1 : Int))))) fun l37 => Option.bind (gi a_6 x_16) fun y39 => Option.bind (some (List.set a_6 (Int.toNat x_16) true)) fun l48 => (roadref4_In.l0 l37 l48 a_14 x_15 (IntKind.wrap .i64 (x_16 + (1 : Int))))) else ((roadref4_In.l0 a_5 a_6 a_14 x_15 (IntKind.wrap .i64 (x_16 + (1 : Int)))))) else (some (a_6)) := fixF_eq roadref4_In.l0_k.mono _
def roadref4_In.l0_k.I : (p : roadref4_In.l0_k.Pt) → ((List Bool)) → Prop
  | .l0 a_5 a_6 a_14 x_15 x_16, r => ∀ (W : Nat → Prop) (h0 m0 h m : Heap) (A_5 : Option Addr) (n_5 c_5 : Nat) (A_6 : Option Addr) (n_6 c_6 : Nat) (A_14 : Option Addr) (n_14 c_14 : Nat) (O : Hold W h0 m0 h m [rR (aE (tell_int .i64)) A_5 c_5 a_5, rR (aE tell_bool) A_6 c_6 a_6]) (ne_5 : n_5 = List.length a_5) (ne_6 : n_6 = List.length a_6) (ne_14 : n_14 = List.length a_14) (k_14 : List.length a_14 ≤ c_14) (r_14 : Rd 3 T_api_Event.E m A_14 a_14), f14.l0 (roadref4_In.post W h0 m0 r) A_5 n_5 c_5 A_6 n_6 c_6 A_14 n_14 c_14 x_15 x_16 h
set_option maxHeartbeats 4000000 in
set_option maxRecDepth 100000 in
theorem roadref4_In.l0_k.step_l0 (go : (p : roadref4_In.l0_k.Pt) → Option ((List Bool))) (ih : ∀ p r, go p = some r → roadref4_In.l0_k.I p r) (a_5 : List Int) (a_6 : List Bool) (a_14 : List T_api_Event) (x_15 : Int) (x_16 : Int) (r : (List Bool)) (e : roadref4_In.l0_k.body go (.l0 a_5 a_6 a_14 x_15 x_16) = some r) : roadref4_In.l0_k.I (.l0 a_5 a_6 a_14 x_15 x_16) r := by
  unfold roadref4_In.l0_k.body at e
  intro W h0 m0 h m A_5 n_5 c_5 A_6 n_6 c_6 A_14 n_14 c_14 O ne_5 ne_6 ne_14 k_14 r_14
  subst ne_5
  subst ne_6
  subst ne_14
  refine f14.l0_in ?_
  unfold f14.l0T
  refine split_dec_e e (fun c53 e => ?_) (fun c53 e => ?_)
  · obtain ⟨y1, g2, e⟩ := bind_e e
    refine r_14.addr rfl g2 fun a3 cs4 ha5 hc6 he7 => ?_
    refine ⟨_, ldAn O.s hc6 rfl, ?_⟩
    refine O.new fun h8 x9 O10 => ?_
    refine ⟨_, rfl, (T_api_Event.T.len _ _ _ he7), ?_⟩
    refine O10.stA 2 rfl (T_api_Event.T.len _ _ _ he7) (T_api_Event.T.flat _ _ _ he7) fun h12 O13 => ?_
    refine ⟨_, ld0 (Sub.refl _) (O13.all 2 rfl) (T_api_Event.g0 he7), _, rfl, ?_⟩
    obtain ⟨y14, g15, e⟩ := bind_e e
    refine (O13.os 0 rfl).addr rfl g15 fun a16 cs17 ha18 hc19 he20 => ?_
    obtain rfl : cs17 = [(Value.int .i64 y14)] := he20
    refine ⟨_, ld0 (Sub.refl _) hc19 rfl, _, rfl, ?_⟩
    refine split_dec_e e (fun c52 e => ?_) (fun c52 e => ?_)
    · refine ⟨_, ld0 (Sub.refl _) (O13.all 2 rfl) (T_api_Event.g0 he7), _, rfl, ?_⟩
      obtain ⟨y21, g22, e⟩ := bind_e e
      refine (O13.os 0 rfl).addr rfl g22 fun a23 cs24 ha25 hc26 he27 => ?_
      obtain rfl : cs24 = [(Value.int .i64 y21)] := he27
      refine ⟨_, ld0 (Sub.refl _) hc26 rfl, _, rfl, ?_⟩
      obtain ⟨y28, g29, e⟩ := bind_e e
      refine (O13.os 0 rfl).addr rfl g29 fun a30 cs31 ha32 hc33 he34 => ?_
      obtain rfl : cs31 = [(Value.int .i64 y28)] := he34
      obtain ⟨l37, g38, e⟩ := bind_e e
      replace g38 := Option.some.inj g38
      refine O13.elst0 0 rfl g29 ha32 hc33 (by decide) (y' := (IntKind.wrap .i64 (y21 - (1 : Int)))) rfl trivial g38 fun h35 O36 => ?_
      obtain ⟨y39, g40, e⟩ := bind_e e
      refine (O36.os 1 rfl).addr rfl g40 fun a41 cs42 ha43 hc44 he45 => ?_
      obtain rfl : cs42 = [(Value.bool y39)] := he45
      obtain ⟨l48, g49, e⟩ := bind_e e
      replace g49 := Option.some.inj g49
      refine O36.elst0 1 rfl g40 ha43 hc44 (by decide) (y' := true) rfl trivial g49 fun h46 O47 => ?_
      have O50 := O47.nm
      exact (ih _ _ e) _ _ _ _ _ _ _ _ _ _ _ _ _ _ (O50.pick [0, 1]).nm (lset' g38) (lset' g49) rfl k_14 r_14
    · have O51 := O13.nm
      exact (ih _ _ e) _ _ _ _ _ _ _ _ _ _ _ _ _ _ (O51.pick [0, 1]).nm rfl rfl rfl k_14 r_14
  · cases e
    exact ⟨_, _, _, _, O.pick [1], rfl, rfl⟩
theorem roadref4_In.l0_k.all {p : roadref4_In.l0_k.Pt} {r : ((List Bool))} (e : roadref4_In.l0_k.go p = some r) : roadref4_In.l0_k.I p r := fixF_ind (β := fun _ => ((List Bool))) roadref4_In.l0_k.mono (I := roadref4_In.l0_k.I) (fun go ih p r e => match p with
  | .l0 a_5 a_6 a_14 x_15 x_16 => roadref4_In.l0_k.step_l0 go ih a_5 a_6 a_14 x_15 x_16 r e
  ) e
theorem roadref4_In.l0.walk {W : Nat → Prop} {h0 m0 h m : Heap} {A_5 : Option Addr} {n_5 c_5 : Nat} {A_6 : Option Addr} {n_6 c_6 : Nat} {A_14 : Option Addr} {n_14 c_14 : Nat} {a_5 : List Int} {a_6 : List Bool} {a_14 : List T_api_Event} {x_15 : Int} {x_16 : Int} (O : Hold W h0 m0 h m [rR (aE (tell_int .i64)) A_5 c_5 a_5, rR (aE tell_bool) A_6 c_6 a_6]) (ne_5 : n_5 = List.length a_5) (ne_6 : n_6 = List.length a_6) (ne_14 : n_14 = List.length a_14) (k_14 : List.length a_14 ≤ c_14) (r_14 : Rd 3 T_api_Event.E m A_14 a_14) {r : (List Bool)} (e : roadref4_In.l0 a_5 a_6 a_14 x_15 x_16 = some r) : f14.l0 (roadref4_In.post W h0 m0 r) A_5 n_5 c_5 A_6 n_6 c_6 A_14 n_14 c_14 x_15 x_16 h := roadref4_In.l0_k.all (p := .l0 a_5 a_6 a_14 x_15 x_16) e W h0 m0 h m A_5 n_5 c_5 A_6 n_6 c_6 A_14 n_14 c_14 O ne_5 ne_6 ne_14 k_14 r_14
noncomputable def roadref4_In (a_0 : List T_api_Event) (a_1 : List Int) : Option ((List Bool)) :=
  Option.bind (slices_Clone_42 a_1) fun y1 => Option.bind (mks 1 (((List.length a_0) : Nat) : Int) false) fun l13 => (roadref4_In.l0 y1 l13 a_0 (((List.length a_0) : Nat) : Int) (0 : Int))
set_option maxRecDepth 100000 in
theorem roadref4_In.walk {W : Nat → Prop} {h m : Heap} {A_0 : Option Addr} {n_0 c_0 : Nat} {A_1 : Option Addr} {n_1 c_1 : Nat} {a_0 : List T_api_Event} {a_1 : List Int} (O : Hold W h m h m []) (ne_0 : n_0 = List.length a_0) (k_0 : List.length a_0 ≤ c_0) (r_0 : Rd 3 T_api_Event.E m A_0 a_0) (ne_1 : n_1 = List.length a_1) (k_1 : List.length a_1 ≤ c_1) (r_1 : Rd 1 (eInt .i64) m A_1 a_1) {r : (List Bool)} (e : roadref4_In a_0 a_1 = some r) : Run Try.prog 14 #[Value.slice A_0 n_0 c_0, Value.slice A_1 n_1 c_1] h (roadref4_In.post W h m r) := by
  unfold roadref4_In at e
  subst ne_0
  subst ne_1
  refine f14.run ?_
  unfold f14.runT
  obtain ⟨y1, g2, e⟩ := bind_e e
  refine (slices_Clone_42.walk (Hold.start (W := No) O.s) rfl k_1 r_1 g2).mono ?_
  rintro _ h3 ⟨m4, A7, n8, c9, Q5, rfl, ne10⟩
  have O12 := Hold.nm (O.retC Q5 (vfs_cons (rR_vf (aE_vf (fun _ _ _ _ h => h))) vfs_nil))
  subst ne10
  refine ⟨_, _, _, rfl, ?_⟩
  obtain ⟨l13, g14, e⟩ := bind_e e
  have q15 := mks_e g14
  refine ⟨q15.1, Int.le_refl _, q15.2.1, q15.2.2.1, ?_⟩
  refine O12.new fun h16 x17 O18 => ?_
  have O19 := O18.made 1 rfl (aE tell_bool) g14 ⟨rfl, rfl⟩
  try rw [q15.2.2.2.1]
  have O21 := O19.nm
  exact roadref4_In.l0.walk (O21.pick [0, 1]).nm rfl rfl rfl k_0 r_0 e
end Go.Proofs.Ytnlocljmalhddac.Fw

end
