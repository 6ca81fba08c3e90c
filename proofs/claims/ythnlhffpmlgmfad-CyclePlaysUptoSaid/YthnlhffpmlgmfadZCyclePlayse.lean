/- Part 5: what the law CyclePlays needs, put together out of texts of this session. -/
import Derived.Test.YthnlhffpmlgmfadZCyclePlaysd
section
namespace Go.Proofs.Ythnlhffpmlgmfad.Fw
open Go Go.Hw Go.Proofs
set_option linter.unusedVariables false
set_option synthInstance.maxHeartbeats 400000
set_option synthInstance.maxSize 1000
def slices_partitionOrdered_129.post (W : Nat → Prop) (Asl0 : Option Addr) (nsl0 csl0 : Nat) (h0 m0 : Heap) (r : Int × Bool × (List Int)) (v : Value) (h : Heap) : Prop := ∃ m , Hold W h0 m0 h m [rR (aE (tell_int .i64)) Asl0 csl0 r.2.2] ∧ v = .tuple #[.int .i64 r.1, .bool r.2.1] ∧ nsl0 = List.length r.2.2
noncomputable def slices_partitionOrdered_129.j4 (a_0 : List Int) (x_1 : Int) (x_11 : Int) : Option (Int × Bool × (List Int)) :=
  Option.bind (gi a_0 x_1) fun y1 => Option.bind (gi a_0 x_11) fun y8 => Option.bind (gi a_0 x_11) fun y15 => Option.bind (some (List.set a_0 (Int.toNat x_11) y1)) fun l24 => Option.bind (gi l24 x_1) fun y26 => Option.bind (some (List.set l24 (Int.toNat x_1) y8)) fun l35 => some (x_11, false, l35)
set_option maxRecDepth 100000 in
theorem slices_partitionOrdered_129.j4.walk {W : Nat → Prop} {h0 m0 h m : Heap} {A_0 : Option Addr} {n_0 c_0 : Nat} {a_0 : List Int} {x_1 : Int} {x_11 : Int} (O : Hold W h0 m0 h m [rR (aE (tell_int .i64)) A_0 c_0 a_0]) (ne_0 : n_0 = List.length a_0) {r : Int × Bool × (List Int)} (e : slices_partitionOrdered_129.j4 a_0 x_1 x_11 = some r) : f129.j4 (slices_partitionOrdered_129.post W A_0 n_0 c_0 h0 m0 r) A_0 n_0 c_0 x_1 x_11 h := by
  unfold slices_partitionOrdered_129.j4 at e
  subst ne_0
  refine f129.j4_in ?_
  unfold f129.j4T
  obtain ⟨y1, g2, e⟩ := bind_e e
  refine (O.os 0 rfl).addr rfl g2 fun a3 cs4 ha5 hc6 he7 => ?_
  obtain rfl : cs4 = [(Value.int .i64 y1)] := he7
  obtain ⟨y8, g9, e⟩ := bind_e e
  refine (O.os 0 rfl).addr rfl g9 fun a10 cs11 ha12 hc13 he14 => ?_
  obtain rfl : cs11 = [(Value.int .i64 y8)] := he14
  refine ⟨_, ld0 (Sub.refl _) hc6 rfl, _, rfl, ?_⟩
  refine ⟨_, ld0 (Sub.refl _) hc13 rfl, _, rfl, ?_⟩
  obtain ⟨y15, g16, e⟩ := bind_e e
  refine (O.os 0 rfl).addr rfl g16 fun a17 cs18 ha19 hc20 he21 => ?_
  obtain rfl : cs18 = [(Value.int .i64 y15)] := he21
  obtain ⟨l24, g25, e⟩ := bind_e e
  replace g25 := Option.some.inj g25
  refine O.elst0 0 rfl g16 ha19 hc20 (by decide) (y' := y1) rfl trivial g25 fun h22 O23 => ?_
  obtain ⟨y26, g27, e⟩ := bind_e e
  refine (O23.os 0 rfl).addr (lset' g25) g27 fun a28 cs29 ha30 hc31 he32 => ?_
  obtain rfl : cs29 = [(Value.int .i64 y26)] := he32
  obtain ⟨l35, g36, e⟩ := bind_e e
  replace g36 := Option.some.inj g36
  refine O23.elst0 0 rfl g27 ha30 hc31 (by decide) (y' := y8) rfl trivial g36 fun h33 O34 => ?_
  have O37 := O34.nm
  cases e
  exact ⟨_, O37.pick [0], rfl, ((lset' g25).trans (lset' g36))⟩
inductive slices_partitionOrdered_129.l2_k.Pt where
  | l2 (a_0 : List Int) (x_1 : Int) (x_10 : Int) (x_11 : Int)
  | l3 (a_0 : List Int) (x_1 : Int) (x_10 : Int) (x_11 : Int)
  | j7 (a_0 : List Int) (x_1 : Int) (x_10 : Int) (x_11 : Int)
  | j5 (a_0 : List Int) (x_1 : Int) (x_10 : Int) (x_11 : Int)
  | l4 (a_0 : List Int) (x_1 : Int) (x_10 : Int) (x_11 : Int)
  | j8 (a_0 : List Int) (x_1 : Int) (x_10 : Int) (x_11 : Int)
  | j6 (a_0 : List Int) (x_1 : Int) (x_10 : Int) (x_11 : Int)
noncomputable def slices_partitionOrdered_129.l2_k.body (go : (p : slices_partitionOrdered_129.l2_k.Pt) → Option (Int × Bool × (List Int))) : (p : slices_partitionOrdered_129.l2_k.Pt) → Option (Int × Bool × (List Int))
  | .l2 a_0 x_1 x_10 x_11 => (go (.l3 a_0 x_1 x_10 x_11))
  | .l3 a_0 x_1 x_10 x_11 => if x_10 ≤ x_11 then (Option.bind (gi a_0 x_10) fun y1 => Option.bind (gi a_0 x_1) fun y8 => Option.bind (cmp_Less_127 y1 y8) fun y15 => if y15 = true then ((go (.j7 a_0 x_1 x_10 x_11))) else ((go (.j5 a_0 x_1 x_10 x_11)))) else ((go (.j5 a_0 x_1 x_10 x_11)))
  | .j7 a_0 x_1 x_10 x_11 => (go (.l3 a_0 x_1 (IntKind.wrap .i64 (x_10 + (1 : Int))) x_11))
  | .j5 a_0 x_1 x_10 x_11 => (go (.l4 a_0 x_1 x_10 x_11))
  | .l4 a_0 x_1 x_10 x_11 => if x_10 ≤ x_11 then (Option.bind (gi a_0 x_11) fun y1 => Option.bind (gi a_0 x_1) fun y8 => Option.bind (cmp_Less_127 y1 y8) fun y15 => if y15 = true then ((go (.j6 a_0 x_1 x_10 x_11))) else ((go (.j8 a_0 x_1 x_10 x_11)))) else ((go (.j6 a_0 x_1 x_10 x_11)))
  | .j8 a_0 x_1 x_10 x_11 => (go (.l4 a_0 x_1 x_10 (IntKind.wrap .i64 (x_11 - (1 : Int)))))
  | .j6 a_0 x_1 x_10 x_11 => if x_10 > x_11 then ((slices_partitionOrdered_129.j4 a_0 x_1 x_11)) else (Option.bind (gi a_0 x_11) fun y1 => Option.bind (gi a_0 x_10) fun y8 => Option.bind (gi a_0 x_10) fun y15 => Option.bind (some (List.set a_0 (Int.toNat x_10) y1)) fun l24 => Option.bind (gi l24 x_11) fun y26 => Option.bind (some (List.set l24 (Int.toNat x_11) y8)) fun l35 => (go (.l2 l35 x_1 (IntKind.wrap .i64 (x_10 + (1 : Int))) (IntKind.wrap .i64 (x_11 - (1 : Int))))))
attribute [local irreducible] cmp_Less_127 in
theorem slices_partitionOrdered_129.l2_k.mono : MonoF (β := fun _ => (Int × Bool × (List Int))) slices_partitionOrdered_129.l2_k.body := fun f g hfg p => match p with
  | .l2 a_0 x_1 x_10 x_11 => (hfg _)
  | .l3 a_0 x_1 x_10 x_11 => LeO.ite (LeO.bind (LeO.refl _) fun y1 => LeO.bind (LeO.refl _) fun y8 => LeO.bind (LeO.refl _) fun y15 => LeO.ite ((hfg _)) ((hfg _))) ((hfg _))
  | .j7 a_0 x_1 x_10 x_11 => (hfg _)
  | .j5 a_0 x_1 x_10 x_11 => (hfg _)
  | .l4 a_0 x_1 x_10 x_11 => LeO.ite (LeO.bind (LeO.refl _) fun y1 => LeO.bind (LeO.refl _) fun y8 => LeO.bind (LeO.refl _) fun y15 => LeO.ite ((hfg _)) ((hfg _))) ((hfg _))
  | .j8 a_0 x_1 x_10 x_11 => (hfg _)
  | .j6 a_0 x_1 x_10 x_11 => LeO.ite ((LeO.refl _)) (LeO.bind (LeO.refl _) fun y1 => LeO.bind (LeO.refl _) fun y8 => LeO.bind (LeO.refl _) fun y15 => LeO.bind (LeO.refl _) fun l24 => LeO.bind (LeO.refl _) fun y26 => LeO.bind (LeO.refl _) fun l35 => (hfg _))
noncomputable def slices_partitionOrdered_129.l2_k.go (p : slices_partitionOrdered_129.l2_k.Pt) : Option (Int × Bool × (List Int)) := fixF (β := fun _ => (Int × Bool × (List Int))) slices_partitionOrdered_129.l2_k.body p
noncomputable def slices_partitionOrdered_129.l2 (a_0 : List Int) (x_1 : Int) (x_10 : Int) (x_11 : Int) : Option (Int × Bool × (List Int)) := slices_partitionOrdered_129.l2_k.go (.l2 a_0 x_1 x_10 x_11)
noncomputable def slices_partitionOrdered_129.l3 (a_0 : List Int) (x_1 : Int) (x_10 : Int) (x_11 : Int) : Option (Int × Bool × (List Int)) := slices_partitionOrdered_129.l2_k.go (.l3 a_0 x_1 x_10 x_11)
noncomputable def slices_partitionOrdered_129.j7 (a_0 : List Int) (x_1 : Int) (x_10 : Int) (x_11 : Int) : Option (Int × Bool × (List Int)) := slices_partitionOrdered_129.l2_k.go (.j7 a_0 x_1 x_10 x_11)
noncomputable def slices_partitionOrdered_129.j5 (a_0 : List Int) (x_1 : Int) (x_10 : Int) (x_11 : Int) : Option (Int × Bool × (List Int)) := slices_partitionOrdered_129.l2_k.go (.j5 a_0 x_1 x_10 x_11)
noncomputable def slices_partitionOrdered_129.l4 (a_0 : List Int) (x_1 : Int) (x_10 : Int) (x_11 : Int) : Option (Int × Bool × (List Int)) := slices_partitionOrdered_129.l2_k.go (.l4 a_0 x_1 x_10 x_11)
noncomputable def slices_partitionOrdered_129.j8 (a_0 : List Int) (x_1 : Int) (x_10 : Int) (x_11 : Int) : Option (Int × Bool × (List Int)) := slices_partitionOrdered_129.l2_k.go (.j8 a_0 x_1 x_10 x_11)
noncomputable def slices_partitionOrdered_129.j6 (a_0 : List Int) (x_1 : Int) (x_10 : Int) (x_11 : Int) : Option (Int × Bool × (List Int)) := slices_partitionOrdered_129.l2_k.go (.j6 a_0 x_1 x_10 x_11)
theorem slices_partitionOrdered_129.l2_eq (a_0 : List Int) (x_1 : Int) (x_10 : Int) (x_11 : Int) : slices_partitionOrdered_129.l2 a_0 x_1 x_10 x_11 = (slices_partitionOrdered_129.l3 a_0 x_1 x_10 x_11) := fixF_eq slices_partitionOrdered_129.l2_k.mono _
theorem slices_partitionOrdered_129.l3_eq (a_0 : List Int) (x_1 : Int) (x_10 : Int) (x_11 : Int) : slices_partitionOrdered_129.l3 a_0 x_1 x_10 x_11 = if x_10 ≤ x_11 then (Option.bind (gi a_0 x_10) fun y1 => Option.bind (gi a_0 x_1) fun y8 => Option.bind (cmp_Less_127 y1 y8) fun y15 => if y15 = true then ((slices_partitionOrdered_129.j7 a_0 x_1 x_10 x_11)) else ((slices_partitionOrdered_129.j5 a_0 x_1 x_10 x_11))) else ((slices_partitionOrdered_129.j5 a_0 x_1 x_10 x_11)) := fixF_eq slices_partitionOrdered_129.l2_k.mono _
theorem slices_partitionOrdered_129.j7_eq (a_0 : List Int) (x_1 : Int) (x_10 : Int) (x_11 : Int) : slices_partitionOrdered_129.j7 a_0 x_1 x_10 x_11 = (slices_partitionOrdered_129.l3 a_0 x_1 (IntKind.wrap .i64 (x_10 + (1 : Int))) x_11) := fixF_eq slices_partitionOrdered_129.l2_k.mono _
theorem slices_partitionOrdered_129.j5_eq (a_0 : List Int) (x_1 : Int) (x_10 : Int) (x_11 : Int) : slices_partitionOrdered_129.j5 a_0 x_1 x_10 x_11 = (slices_partitionOrdered_129.l4 a_0 x_1 x_10 x_11) := fixF_eq slices_partitionOrdered_129.l2_k.mono _
theorem slices_partitionOrdered_129.l4_eq (a_0 : List Int) (x_1 : Int) (x_10 : Int) (x_11 : Int) : slices_partitionOrdered_129.l4 a_0 x_1 x_10 x_11 = if x_10 ≤ x_11 then (Option.bind (gi a_0 x_11) fun y1 => Option.bind (gi a_0 x_1) fun y8 => Option.bind (cmp_Less_127 y1 y8) fun y15 => if y15 = true then ((slices_partitionOrdered_129.j6 a_0 x_1 x_10 x_11)) else ((slices_partitionOrdered_129.j8 a_0 x_1 x_10 x_11))) else ((slices_partitionOrdered_129.j6 a_0 x_1 x_10 x_11)) := fixF_eq slices_partitionOrdered_129.l2_k.mono _
theorem slices_partitionOrdered_129.j8_eq (a_0 : List Int) (x_1 : Int) (x_10 : Int) (x_11 : Int) : slices_partitionOrdered_129.j8 a_0 x_1 x_10 x_11 = (slices_partitionOrdered_129.l4 a_0 x_1 x_10 (IntKind.wrap .i64 (x_11 - (1 : Int)))) := fixF_eq slices_partitionOrdered_129.l2_k.mono _
theorem slices_partitionOrdered_129.j6_eq (a_0 : List Int) (x_1 : Int) (x_10 : Int) (x_11 : Int) : slices_partitionOrdered_129.j6 a_0 x_1 x_10 x_11 = if x_10 > x_11 then ((slices_partitionOrdered_129.j4 a_0 x_1 x_11)) else (Option.bind (gi a_0 x_11) fun y1 => Option.bind (gi a_0 x_10) fun y8 => Option.bind (gi a_0 x_10) fun y15 => Option.bind (some (List.set a_0 (Int.toNat x_10) y1)) fun l24 => Option.bind (gi l24 x_11) fun y26 => Option.bind (some (List.set l24 (Int.toNat x_11) y8)) fun l35 => (slices_partitionOrdered_129.l2 l35 x_1 (IntKind.wrap .i64 (x_10 + (1 : Int))) (IntKind.wrap .i64 (x_11 - (1 : Int))))) := fixF_eq slices_partitionOrdered_129.l2_k.mono _
def slices_partitionOrdered_129.l2_k.I : (p : slices_partitionOrdered_129.l2_k.Pt) → (Int × Bool × (List Int)) → Prop
  | .l2 a_0 x_1 x_10 x_11, r => ∀ (W : Nat → Prop) (h0 m0 h m : Heap) (A_0 : Option Addr) (n_0 c_0 : Nat) (O : Hold W h0 m0 h m [rR (aE (tell_int .i64)) A_0 c_0 a_0]) (ne_0 : n_0 = List.length a_0), f129.l2 (slices_partitionOrdered_129.post W A_0 n_0 c_0 h0 m0 r) A_0 n_0 c_0 x_1 x_10 x_11 h
  | .l3 a_0 x_1 x_10 x_11, r => ∀ (W : Nat → Prop) (h0 m0 h m : Heap) (A_0 : Option Addr) (n_0 c_0 : Nat) (O : Hold W h0 m0 h m [rR (aE (tell_int .i64)) A_0 c_0 a_0]) (ne_0 : n_0 = List.length a_0), f129.l3 (slices_partitionOrdered_129.post W A_0 n_0 c_0 h0 m0 r) A_0 n_0 c_0 x_1 x_10 x_11 h
  | .j7 a_0 x_1 x_10 x_11, r => ∀ (W : Nat → Prop) (h0 m0 h m : Heap) (A_0 : Option Addr) (n_0 c_0 : Nat) (O : Hold W h0 m0 h m [rR (aE (tell_int .i64)) A_0 c_0 a_0]) (ne_0 : n_0 = List.length a_0), f129.j7 (slices_partitionOrdered_129.post W A_0 n_0 c_0 h0 m0 r) A_0 n_0 c_0 x_1 x_10 x_11 h
  | .j5 a_0 x_1 x_10 x_11, r => ∀ (W : Nat → Prop) (h0 m0 h m : Heap) (A_0 : Option Addr) (n_0 c_0 : Nat) (O : Hold W h0 m0 h m [rR (aE (tell_int .i64)) A_0 c_0 a_0]) (ne_0 : n_0 = List.length a_0), f129.j5 (slices_partitionOrdered_129.post W A_0 n_0 c_0 h0 m0 r) A_0 n_0 c_0 x_1 x_10 x_11 h
  | .l4 a_0 x_1 x_10 x_11, r => ∀ (W : Nat → Prop) (h0 m0 h m : Heap) (A_0 : Option Addr) (n_0 c_0 : Nat) (O : Hold W h0 m0 h m [rR (aE (tell_int .i64)) A_0 c_0 a_0]) (ne_0 : n_0 = List.length a_0), f129.l4 (slices_partitionOrdered_129.post W A_0 n_0 c_0 h0 m0 r) A_0 n_0 c_0 x_1 x_10 x_11 h
  | .j8 a_0 x_1 x_10 x_11, r => ∀ (W : Nat → Prop) (h0 m0 h m : Heap) (A_0 : Option Addr) (n_0 c_0 : Nat) (O : Hold W h0 m0 h m [rR (aE (tell_int .i64)) A_0 c_0 a_0]) (ne_0 : n_0 = List.length a_0), f129.j8 (slices_partitionOrdered_129.post W A_0 n_0 c_0 h0 m0 r) A_0 n_0 c_0 x_1 x_10 x_11 h
  | .j6 a_0 x_1 x_10 x_11, r => ∀ (W : Nat → Prop) (h0 m0 h m : Heap) (A_0 : Option Addr) (n_0 c_0 : Nat) (O : Hold W h0 m0 h m [rR (aE (tell_int .i64)) A_0 c_0 a_0]) (ne_0 : n_0 = List.length a_0), f129.j6 (slices_partitionOrdered_129.post W A_0 n_0 c_0 h0 m0 r) A_0 n_0 c_0 x_1 x_10 x_11 h
set_option maxRecDepth 100000 in
theorem slices_partitionOrdered_129.l2_k.step_l2 (go : (p : slices_partitionOrdered_129.l2_k.Pt) → Option (Int × Bool × (List Int))) (ih : ∀ p r, go p = some r → slices_partitionOrdered_129.l2_k.I p r) (a_0 : List Int) (x_1 : Int) (x_10 : Int) (x_11 : Int) (r : Int × Bool × (List Int)) (e : slices_partitionOrdered_129.l2_k.body go (.l2 a_0 x_1 x_10 x_11) = some r) : slices_partitionOrdered_129.l2_k.I (.l2 a_0 x_1 x_10 x_11) r := by
  unfold slices_partitionOrdered_129.l2_k.body at e
  intro W h0 m0 h m A_0 n_0 c_0 O ne_0
  subst ne_0
  refine f129.l2_in ?_
  unfold f129.l2T
  exact (ih _ _ e) _ _ _ _ _ _ _ _ (O.pick [0]).nm rfl
set_option maxRecDepth 100000 in
theorem slices_partitionOrdered_129.l2_k.step_l3 (go : (p : slices_partitionOrdered_129.l2_k.Pt) → Option (Int × Bool × (List Int))) (ih : ∀ p r, go p = some r → slices_partitionOrdered_129.l2_k.I p r) (a_0 : List Int) (x_1 : Int) (x_10 : Int) (x_11 : Int) (r : Int × Bool × (List Int)) (e : slices_partitionOrdered_129.l2_k.body go (.l3 a_0 x_1 x_10 x_11) = some r) : slices_partitionOrdered_129.l2_k.I (.l3 a_0 x_1 x_10 x_11) r := by
  unfold slices_partitionOrdered_129.l2_k.body at e
  intro W h0 m0 h m A_0 n_0 c_0 O ne_0
  subst ne_0
  refine f129.l3_in ?_
  unfold f129.l3T
  refine split_dec_e e (fun c23 e => ?_) (fun c23 e => ?_)
  · obtain ⟨y1, g2, e⟩ := bind_e e
    refine (O.os 0 rfl).addr rfl g2 fun a3 cs4 ha5 hc6 he7 => ?_
    obtain rfl : cs4 = [(Value.int .i64 y1)] := he7
    obtain ⟨y8, g9, e⟩ := bind_e e
    refine (O.os 0 rfl).addr rfl g9 fun a10 cs11 ha12 hc13 he14 => ?_
    obtain rfl : cs11 = [(Value.int .i64 y8)] := he14
    refine ⟨_, ld0 (Sub.refl _) hc6 rfl, _, rfl, ?_⟩
    refine ⟨_, ld0 (Sub.refl _) hc13 rfl, _, rfl, ?_⟩
    obtain ⟨y15, g16, e⟩ := bind_e e
    refine (cmp_Less_127.walk (Hold.start (W := No) O.s)  g16).mono ?_
    rintro _ h17 ⟨m18, Q19, rfl⟩
    have O21 := Hold.nm (O.retC Q19 vfs_nil)
    refine ⟨_, rfl, ?_⟩
    refine split_any_e e (fun c22 e => ?_) (fun c22 e => ?_)
    · exact (ih _ _ e) _ _ _ _ _ _ _ _ (O21.pick [0]).nm rfl
    · exact (ih _ _ e) _ _ _ _ _ _ _ _ (O21.pick [0]).nm rfl
  · exact (ih _ _ e) _ _ _ _ _ _ _ _ (O.pick [0]).nm rfl
set_option maxRecDepth 100000 in
theorem slices_partitionOrdered_129.l2_k.step_j7 (go : (p : slices_partitionOrdered_129.l2_k.Pt) → Option (Int × Bool × (List Int))) (ih : ∀ p r, go p = some r → slices_partitionOrdered_129.l2_k.I p r) (a_0 : List Int) (x_1 : Int) (x_10 : Int) (x_11 : Int) (r : Int × Bool × (List Int)) (e : slices_partitionOrdered_129.l2_k.body go (.j7 a_0 x_1 x_10 x_11) = some r) : slices_partitionOrdered_129.l2_k.I (.j7 a_0 x_1 x_10 x_11) r := by
  unfold slices_partitionOrdered_129.l2_k.body at e
  intro W h0 m0 h m A_0 n_0 c_0 O ne_0
  subst ne_0
  refine f129.j7_in ?_
  unfold f129.j7T
  exact (ih _ _ e) _ _ _ _ _ _ _ _ (O.pick [0]).nm rfl
set_option maxRecDepth 100000 in
theorem slices_partitionOrdered_129.l2_k.step_j5 (go : (p : slices_partitionOrdered_129.l2_k.Pt) → Option (Int × Bool × (List Int))) (ih : ∀ p r, go p = some r → slices_partitionOrdered_129.l2_k.I p r) (a_0 : List Int) (x_1 : Int) (x_10 : Int) (x_11 : Int) (r : Int × Bool × (List Int)) (e : slices_partitionOrdered_129.l2_k.body go (.j5 a_0 x_1 x_10 x_11) = some r) : slices_partitionOrdered_129.l2_k.I (.j5 a_0 x_1 x_10 x_11) r := by
  unfold slices_partitionOrdered_129.l2_k.body at e
  intro W h0 m0 h m A_0 n_0 c_0 O ne_0
  subst ne_0
  refine f129.j5_in ?_
  unfold f129.j5T
  exact (ih _ _ e) _ _ _ _ _ _ _ _ (O.pick [0]).nm rfl
set_option maxRecDepth 100000 in
theorem slices_partitionOrdered_129.l2_k.step_l4 (go : (p : slices_partitionOrdered_129.l2_k.Pt) → Option (Int × Bool × (List Int))) (ih : ∀ p r, go p = some r → slices_partitionOrdered_129.l2_k.I p r) (a_0 : List Int) (x_1 : Int) (x_10 : Int) (x_11 : Int) (r : Int × Bool × (List Int)) (e : slices_partitionOrdered_129.l2_k.body go (.l4 a_0 x_1 x_10 x_11) = some r) : slices_partitionOrdered_129.l2_k.I (.l4 a_0 x_1 x_10 x_11) r := by
  unfold slices_partitionOrdered_129.l2_k.body at e
  intro W h0 m0 h m A_0 n_0 c_0 O ne_0
  subst ne_0
  refine f129.l4_in ?_
  unfold f129.l4T
  refine split_dec_e e (fun c23 e => ?_) (fun c23 e => ?_)
  · obtain ⟨y1, g2, e⟩ := bind_e e
    refine (O.os 0 rfl).addr rfl g2 fun a3 cs4 ha5 hc6 he7 => ?_
    obtain rfl : cs4 = [(Value.int .i64 y1)] := he7
    obtain ⟨y8, g9, e⟩ := bind_e e
    refine (O.os 0 rfl).addr rfl g9 fun a10 cs11 ha12 hc13 he14 => ?_
    obtain rfl : cs11 = [(Value.int .i64 y8)] := he14
    refine ⟨_, ld0 (Sub.refl _) hc6 rfl, _, rfl, ?_⟩
    refine ⟨_, ld0 (Sub.refl _) hc13 rfl, _, rfl, ?_⟩
    obtain ⟨y15, g16, e⟩ := bind_e e
    refine (cmp_Less_127.walk (Hold.start (W := No) O.s)  g16).mono ?_
    rintro _ h17 ⟨m18, Q19, rfl⟩
    have O21 := Hold.nm (O.retC Q19 vfs_nil)
    refine ⟨_, rfl, ?_⟩
    refine split_not ?_
    refine split_any_e e (fun c22 e => ?_) (fun c22 e => ?_)
    · exact (ih _ _ e) _ _ _ _ _ _ _ _ (O21.pick [0]).nm rfl
    · exact (ih _ _ e) _ _ _ _ _ _ _ _ (O21.pick [0]).nm rfl
  · exact (ih _ _ e) _ _ _ _ _ _ _ _ (O.pick [0]).nm rfl
set_option maxRecDepth 100000 in
theorem slices_partitionOrdered_129.l2_k.step_j8 (go : (p : slices_partitionOrdered_129.l2_k.Pt) → Option (Int × Bool × (List Int))) (ih : ∀ p r, go p = some r → slices_partitionOrdered_129.l2_k.I p r) (a_0 : List Int) (x_1 : Int) (x_10 : Int) (x_11 : Int) (r : Int × Bool × (List Int)) (e : slices_partitionOrdered_129.l2_k.body go (.j8 a_0 x_1 x_10 x_11) = some r) : slices_partitionOrdered_129.l2_k.I (.j8 a_0 x_1 x_10 x_11) r := by
  unfold slices_partitionOrdered_129.l2_k.body at e
  intro W h0 m0 h m A_0 n_0 c_0 O ne_0
  subst ne_0
  refine f129.j8_in ?_
  unfold f129.j8T
  exact (ih _ _ e) _ _ _ _ _ _ _ _ (O.pick [0]).nm rfl
set_option maxRecDepth 100000 in
theorem slices_partitionOrdered_129.l2_k.step_j6 (go : (p : slices_partitionOrdered_129.l2_k.Pt) → Option (Int × Bool × (List Int))) (ih : ∀ p r, go p = some r → slices_partitionOrdered_129.l2_k.I p r) (a_0 : List Int) (x_1 : Int) (x_10 : Int) (x_11 : Int) (r : Int × Bool × (List Int)) (e : slices_partitionOrdered_129.l2_k.body go (.j6 a_0 x_1 x_10 x_11) = some r) : slices_partitionOrdered_129.l2_k.I (.j6 a_0 x_1 x_10 x_11) r := by
  unfold slices_partitionOrdered_129.l2_k.body at e
  intro W h0 m0 h m A_0 n_0 c_0 O ne_0
  subst ne_0
  refine f129.j6_in ?_
  unfold f129.j6T
  refine split_dec_e e (fun c38 e => ?_) (fun c38 e => ?_)
  · exact slices_partitionOrdered_129.j4.walk (O.pick [0]).nm rfl e
  · obtain ⟨y1, g2, e⟩ := bind_e e
    refine (O.os 0 rfl).addr rfl g2 fun a3 cs4 ha5 hc6 he7 => ?_
    obtain rfl : cs4 = [(Value.int .i64 y1)] := he7
    obtain ⟨y8, g9, e⟩ := bind_e e
    refine (O.os 0 rfl).addr rfl g9 fun a10 cs11 ha12 hc13 he14 => ?_
    obtain rfl : cs11 = [(Value.int .i64 y8)] := he14
    refine ⟨_, ld0 (Sub.refl _) hc6 rfl, _, rfl, ?_⟩
    refine ⟨_, ld0 (Sub.refl _) hc13 rfl, _, rfl, ?_⟩
    obtain ⟨y15, g16, e⟩ := bind_e e
    refine (O.os 0 rfl).addr rfl g16 fun a17 cs18 ha19 hc20 he21 => ?_
    obtain rfl : cs18 = [(Value.int .i64 y15)] := he21
    obtain ⟨l24, g25, e⟩ := bind_e e
    replace g25 := Option.some.inj g25
    refine O.elst0 0 rfl g16 ha19 hc20 (by decide) (y' := y1) rfl trivial g25 fun h22 O23 => ?_
    obtain ⟨y26, g27, e⟩ := bind_e e
    refine (O23.os 0 rfl).addr (lset' g25) g27 fun a28 cs29 ha30 hc31 he32 => ?_
    obtain rfl : cs29 = [(Value.int .i64 y26)] := he32
    obtain ⟨l35, g36, e⟩ := bind_e e
    replace g36 := Option.some.inj g36
    refine O23.elst0 0 rfl g27 ha30 hc31 (by decide) (y' := y8) rfl trivial g36 fun h33 O34 => ?_
    have O37 := O34.nm
    exact (ih _ _ e) _ _ _ _ _ _ _ _ (O37.pick [0]).nm ((lset' g25).trans (lset' g36))
theorem slices_partitionOrdered_129.l2_k.all {p : slices_partitionOrdered_129.l2_k.Pt} {r : (Int × Bool × (List Int))} (e : slices_partitionOrdered_129.l2_k.go p = some r) : slices_partitionOrdered_129.l2_k.I p r := fixF_ind (β := fun _ => (Int × Bool × (List Int))) slices_partitionOrdered_129.l2_k.mono (I := slices_partitionOrdered_129.l2_k.I) (fun go ih p r e => match p with
  | .l2 a_0 x_1 x_10 x_11 => slices_partitionOrdered_129.l2_k.step_l2 go ih a_0 x_1 x_10 x_11 r e
  | .l3 a_0 x_1 x_10 x_11 => slices_partitionOrdered_129.l2_k.step_l3 go ih a_0 x_1 x_10 x_11 r e
  | .j7 a_0 x_1 x_10 x_11 => slices_partitionOrdered_129.l2_k.step_j7 go ih a_0 x_1 x_10 x_11 r e
  | .j5 a_0 x_1 x_10 x_11 => slices_partitionOrdered_129.l2_k.step_j5 go ih a_0 x_1 x_10 x_11 r e
  | .l4 a_0 x_1 x_10 x_11 => slices_partitionOrdered_129.l2_k.step_l4 go ih a_0 x_1 x_10 x_11 r e
  | .j8 a_0 x_1 x_10 x_11 => slices_partitionOrdered_129.l2_k.step_j8 go ih a_0 x_1 x_10 x_11 r e
  | .j6 a_0 x_1 x_10 x_11 => slices_partitionOrdered_129.l2_k.step_j6 go ih a_0 x_1 x_10 x_11 r e
  ) e
theorem slices_partitionOrdered_129.l2.walk {W : Nat → Prop} {h0 m0 h m : Heap} {A_0 : Option Addr} {n_0 c_0 : Nat} {a_0 : List Int} {x_1 : Int} {x_10 : Int} {x_11 : Int} (O : Hold W h0 m0 h m [rR (aE (tell_int .i64)) A_0 c_0 a_0]) (ne_0 : n_0 = List.length a_0) {r : Int × Bool × (List Int)} (e : slices_partitionOrdered_129.l2 a_0 x_1 x_10 x_11 = some r) : f129.l2 (slices_partitionOrdered_129.post W A_0 n_0 c_0 h0 m0 r) A_0 n_0 c_0 x_1 x_10 x_11 h := slices_partitionOrdered_129.l2_k.all (p := .l2 a_0 x_1 x_10 x_11) e W h0 m0 h m A_0 n_0 c_0 O ne_0
noncomputable def slices_partitionOrdered_129.j1 (a_0 : List Int) (x_1 : Int) (x_10 : Int) (x_11 : Int) : Option (Int × Bool × (List Int)) :=
  if x_10 > x_11 then (Option.bind (gi a_0 x_1) fun y1 => Option.bind (gi a_0 x_11) fun y8 => Option.bind (gi a_0 x_11) fun y15 => Option.bind (some (List.set a_0 (Int.toNat x_11) y1)) fun l24 => Option.bind (gi l24 x_1) fun y26 => Option.bind (some (List.set l24 (Int.toNat x_1) y8)) fun l35 => some (x_11, true, l35)) else (Option.bind (gi a_0 x_11) fun y38 => Option.bind (gi a_0 x_10) fun y45 => Option.bind (gi a_0 x_10) fun y52 => Option.bind (some (List.set a_0 (Int.toNat x_10) y38)) fun l61 => Option.bind (gi l61 x_11) fun y63 => Option.bind (some (List.set l61 (Int.toNat x_11) y45)) fun l72 => (slices_partitionOrdered_129.l2 l72 x_1 (IntKind.wrap .i64 (x_10 + (1 : Int))) (IntKind.wrap .i64 (x_11 - (1 : Int)))))
set_option maxHeartbeats 4000000 in
set_option maxRecDepth 100000 in
theorem slices_partitionOrdered_129.j1.walk {W : Nat → Prop} {h0 m0 h m : Heap} {A_0 : Option Addr} {n_0 c_0 : Nat} {a_0 : List Int} {x_1 : Int} {x_10 : Int} {x_11 : Int} (O : Hold W h0 m0 h m [rR (aE (tell_int .i64)) A_0 c_0 a_0]) (ne_0 : n_0 = List.length a_0) {r : Int × Bool × (List Int)} (e : slices_partitionOrdered_129.j1 a_0 x_1 x_10 x_11 = some r) : f129.j1 (slices_partitionOrdered_129.post W A_0 n_0 c_0 h0 m0 r) A_0 n_0 c_0 x_1 x_10 x_11 h := by
  unfold slices_partitionOrdered_129.j1 at e
  subst ne_0
  refine f129.j1_in ?_
  unfold f129.j1T
  refine split_dec_e e (fun c75 e => ?_) (fun c75 e => ?_)
  · obtain ⟨y1, g2, e⟩ := bind_e e
    refine (O.os 0 rfl).addr rfl g2 fun a3 cs4 ha5 hc6 he7 => ?_
    obtain rfl : cs4 = [(Value.int .i64 y1)] := he7
    obtain ⟨y8, g9, e⟩ := bind_e e
    refine (O.os 0 rfl).addr rfl g9 fun a10 cs11 ha12 hc13 he14 => ?_
    obtain rfl : cs11 = [(Value.int .i64 y8)] := he14
    refine ⟨_, ld0 (Sub.refl _) hc6 rfl, _, rfl, ?_⟩
    refine ⟨_, ld0 (Sub.refl _) hc13 rfl, _, rfl, ?_⟩
    obtain ⟨y15, g16, e⟩ := bind_e e
    refine (O.os 0 rfl).addr rfl g16 fun a17 cs18 ha19 hc20 he21 => ?_
    obtain rfl : cs18 = [(Value.int .i64 y15)] := he21
    obtain ⟨l24, g25, e⟩ := bind_e e
    replace g25 := Option.some.inj g25
    refine O.elst0 0 rfl g16 ha19 hc20 (by decide) (y' := y1) rfl trivial g25 fun h22 O23 => ?_
    obtain ⟨y26, g27, e⟩ := bind_e e
    refine (O23.os 0 rfl).addr (lset' g25) g27 fun a28 cs29 ha30 hc31 he32 => ?_
    obtain rfl : cs29 = [(Value.int .i64 y26)] := he32
    obtain ⟨l35, g36, e⟩ := bind_e e
    replace g36 := Option.some.inj g36
    refine O23.elst0 0 rfl g27 ha30 hc31 (by decide) (y' := y8) rfl trivial g36 fun h33 O34 => ?_
    have O37 := O34.nm
    cases e
    exact ⟨_, O37.pick [0], rfl, ((lset' g25).trans (lset' g36))⟩
  · obtain ⟨y38, g39, e⟩ := bind_e e
    refine (O.os 0 rfl).addr rfl g39 fun a40 cs41 ha42 hc43 he44 => ?_
    obtain rfl : cs41 = [(Value.int .i64 y38)] := he44
    obtain ⟨y45, g46, e⟩ := bind_e e
    refine (O.os 0 rfl).addr rfl g46 fun a47 cs48 ha49 hc50 he51 => ?_
    obtain rfl : cs48 = [(Value.int .i64 y45)] := he51
    refine ⟨_, ld0 (Sub.refl _) hc43 rfl, _, rfl, ?_⟩
    refine ⟨_, ld0 (Sub.refl _) hc50 rfl, _, rfl, ?_⟩
    obtain ⟨y52, g53, e⟩ := bind_e e
    refine (O.os 0 rfl).addr rfl g53 fun a54 cs55 ha56 hc57 he58 => ?_
    obtain rfl : cs55 = [(Value.int .i64 y52)] := he58
    obtain ⟨l61, g62, e⟩ := bind_e e
    replace g62 := Option.some.inj g62
    refine O.elst0 0 rfl g53 ha56 hc57 (by decide) (y' := y38) rfl trivial g62 fun h59 O60 => ?_
    obtain ⟨y63, g64, e⟩ := bind_e e
    refine (O60.os 0 rfl).addr (lset' g62) g64 fun a65 cs66 ha67 hc68 he69 => ?_
    obtain rfl : cs66 = [(Value.int .i64 y63)] := he69
    obtain ⟨l72, g73, e⟩ := bind_e e
    replace g73 := Option.some.inj g73
    refine O60.elst0 0 rfl g64 ha67 hc68 (by decide) (y' := y45) rfl trivial g73 fun h70 O71 => ?_
    have O74 := O71.nm
    exact slices_partitionOrdered_129.l2.walk (O74.pick [0]).nm ((lset' g62).trans (lset' g73)) e
inductive slices_partitionOrdered_129.l1_k.Pt where
  | l1 (a_0 : List Int) (x_1 : Int) (x_10 : Int) (x_11 : Int)
  | j3 (a_0 : List Int) (x_1 : Int) (x_10 : Int) (x_11 : Int)
noncomputable def slices_partitionOrdered_129.l1_k.body (go : (p : slices_partitionOrdered_129.l1_k.Pt) → Option (Int × Bool × (List Int))) : (p : slices_partitionOrdered_129.l1_k.Pt) → Option (Int × Bool × (List Int))
  | .l1 a_0 x_1 x_10 x_11 => if x_10 ≤ x_11 then (Option.bind (gi a_0 x_11) fun y1 => Option.bind (gi a_0 x_1) fun y8 => Option.bind (cmp_Less_127 y1 y8) fun y15 => if y15 = true then ((slices_partitionOrdered_129.j1 a_0 x_1 x_10 x_11)) else ((go (.j3 a_0 x_1 x_10 x_11)))) else ((slices_partitionOrdered_129.j1 a_0 x_1 x_10 x_11))
  | .j3 a_0 x_1 x_10 x_11 => (go (.l1 a_0 x_1 x_10 (IntKind.wrap .i64 (x_11 - (1 : Int)))))
attribute [local irreducible] cmp_Less_127 in
theorem slices_partitionOrdered_129.l1_k.mono : MonoF (β := fun _ => (Int × Bool × (List Int))) slices_partitionOrdered_129.l1_k.body := fun f g hfg p => match p with
  | .l1 a_0 x_1 x_10 x_11 => LeO.ite (LeO.bind (LeO.refl _) fun y1 => LeO.bind (LeO.refl _) fun y8 => LeO.bind (LeO.refl _) fun y15 => LeO.ite ((LeO.refl _)) ((hfg _))) ((LeO.refl _))
  | .j3 a_0 x_1 x_10 x_11 => (hfg _)
noncomputable def slices_partitionOrdered_129.l1_k.go (p : slices_partitionOrdered_129.l1_k.Pt) : Option (Int × Bool × (List Int)) := fixF (β := fun _ => (Int × Bool × (List Int))) slices_partitionOrdered_129.l1_k.body p
noncomputable def slices_partitionOrdered_129.l1 (a_0 : List Int) (x_1 : Int) (x_10 : Int) (x_11 : Int) : Option (Int × Bool × (List Int)) := slices_partitionOrdered_129.l1_k.go (.l1 a_0 x_1 x_10 x_11)
noncomputable def slices_partitionOrdered_129.j3 (a_0 : List Int) (x_1 : Int) (x_10 : Int) (x_11 : Int) : Option (Int × Bool × (List Int)) := slices_partitionOrdered_129.l1_k.go (.j3 a_0 x_1 x_10 x_11)
theorem slices_partitionOrdered_129.l1_eq (a_0 : List Int) (x_1 : Int) (x_10 : Int) (x_11 : Int) : slices_partitionOrdered_129.l1 a_0 x_1 x_10 x_11 = if x_10 ≤ x_11 then (Option.bind (gi a_0 x_11) fun y1 => Option.bind (gi a_0 x_1) fun y8 => Option.bind (cmp_Less_127 y1 y8) fun y15 => if y15 = true then ((slices_partitionOrdered_129.j1 a_0 x_1 x_10 x_11)) else ((slices_partitionOrdered_129.j3 a_0 x_1 x_10 x_11))) else ((slices_partitionOrdered_129.j1 a_0 x_1 x_10 x_11)) := fixF_eq slices_partitionOrdered_129.l1_k.mono _
theorem slices_partitionOrdered_129.j3_eq (a_0 : List Int) (x_1 : Int) (x_10 : Int) (x_11 : Int) : slices_partitionOrdered_129.j3 a_0 x_1 x_10 x_11 = (slices_partitionOrdered_129.l1 a_0 x_1 x_10 (IntKind.wrap .i64 (x_11 - (1 : Int)))) := fixF_eq slices_partitionOrdered_129.l1_k.mono _
def slices_partitionOrdered_129.l1_k.I : (p : slices_partitionOrdered_129.l1_k.Pt) → (Int × Bool × (List Int)) → Prop
  | .l1 a_0 x_1 x_10 x_11, r => ∀ (W : Nat → Prop) (h0 m0 h m : Heap) (A_0 : Option Addr) (n_0 c_0 : Nat) (O : Hold W h0 m0 h m [rR (aE (tell_int .i64)) A_0 c_0 a_0]) (ne_0 : n_0 = List.length a_0), f129.l1 (slices_partitionOrdered_129.post W A_0 n_0 c_0 h0 m0 r) A_0 n_0 c_0 x_1 x_10 x_11 h
  | .j3 a_0 x_1 x_10 x_11, r => ∀ (W : Nat → Prop) (h0 m0 h m : Heap) (A_0 : Option Addr) (n_0 c_0 : Nat) (O : Hold W h0 m0 h m [rR (aE (tell_int .i64)) A_0 c_0 a_0]) (ne_0 : n_0 = List.length a_0), f129.j3 (slices_partitionOrdered_129.post W A_0 n_0 c_0 h0 m0 r) A_0 n_0 c_0 x_1 x_10 x_11 h
set_option maxRecDepth 100000 in
theorem slices_partitionOrdered_129.l1_k.step_l1 (go : (p : slices_partitionOrdered_129.l1_k.Pt) → Option (Int × Bool × (List Int))) (ih : ∀ p r, go p = some r → slices_partitionOrdered_129.l1_k.I p r) (a_0 : List Int) (x_1 : Int) (x_10 : Int) (x_11 : Int) (r : Int × Bool × (List Int)) (e : slices_partitionOrdered_129.l1_k.body go (.l1 a_0 x_1 x_10 x_11) = some r) : slices_partitionOrdered_129.l1_k.I (.l1 a_0 x_1 x_10 x_11) r := by
  unfold slices_partitionOrdered_129.l1_k.body at e
  intro W h0 m0 h m A_0 n_0 c_0 O ne_0
  subst ne_0
  refine f129.l1_in ?_
  unfold f129.l1T
  refine split_dec_e e (fun c23 e => ?_) (fun c23 e => ?_)
  · obtain ⟨y1, g2, e⟩ := bind_e e
    refine (O.os 0 rfl).addr rfl g2 fun a3 cs4 ha5 hc6 he7 => ?_
    obtain rfl : cs4 = [(Value.int .i64 y1)] := he7
    obtain ⟨y8, g9, e⟩ := bind_e e
    refine (O.os 0 rfl).addr rfl g9 fun a10 cs11 ha12 hc13 he14 => ?_
    obtain rfl : cs11 = [(Value.int .i64 y8)] := he14
    refine ⟨_, ld0 (Sub.refl _) hc6 rfl, _, rfl, ?_⟩
    refine ⟨_, ld0 (Sub.refl _) hc13 rfl, _, rfl, ?_⟩
    obtain ⟨y15, g16, e⟩ := bind_e e
    refine (cmp_Less_127.walk (Hold.start (W := No) O.s)  g16).mono ?_
    rintro _ h17 ⟨m18, Q19, rfl⟩
    have O21 := Hold.nm (O.retC Q19 vfs_nil)
    refine ⟨_, rfl, ?_⟩
    refine split_not ?_
    refine split_any_e e (fun c22 e => ?_) (fun c22 e => ?_)
    · exact slices_partitionOrdered_129.j1.walk (O21.pick [0]).nm rfl e
    · exact (ih _ _ e) _ _ _ _ _ _ _ _ (O21.pick [0]).nm rfl
  · exact slices_partitionOrdered_129.j1.walk (O.pick [0]).nm rfl e
set_option maxRecDepth 100000 in
theorem slices_partitionOrdered_129.l1_k.step_j3 (go : (p : slices_partitionOrdered_129.l1_k.Pt) → Option (Int × Bool × (List Int))) (ih : ∀ p r, go p = some r → slices_partitionOrdered_129.l1_k.I p r) (a_0 : List Int) (x_1 : Int) (x_10 : Int) (x_11 : Int) (r : Int × Bool × (List Int)) (e : slices_partitionOrdered_129.l1_k.body go (.j3 a_0 x_1 x_10 x_11) = some r) : slices_partitionOrdered_129.l1_k.I (.j3 a_0 x_1 x_10 x_11) r := by
  unfold slices_partitionOrdered_129.l1_k.body at e
  intro W h0 m0 h m A_0 n_0 c_0 O ne_0
  subst ne_0
  refine f129.j3_in ?_
  unfold f129.j3T
  exact (ih _ _ e) _ _ _ _ _ _ _ _ (O.pick [0]).nm rfl
theorem slices_partitionOrdered_129.l1_k.all {p : slices_partitionOrdered_129.l1_k.Pt} {r : (Int × Bool × (List Int))} (e : slices_partitionOrdered_129.l1_k.go p = some r) : slices_partitionOrdered_129.l1_k.I p r := fixF_ind (β := fun _ => (Int × Bool × (List Int))) slices_partitionOrdered_129.l1_k.mono (I := slices_partitionOrdered_129.l1_k.I) (fun go ih p r e => match p with
  | .l1 a_0 x_1 x_10 x_11 => slices_partitionOrdered_129.l1_k.step_l1 go ih a_0 x_1 x_10 x_11 r e
  | .j3 a_0 x_1 x_10 x_11 => slices_partitionOrdered_129.l1_k.step_j3 go ih a_0 x_1 x_10 x_11 r e
  ) e
theorem slices_partitionOrdered_129.l1.walk {W : Nat → Prop} {h0 m0 h m : Heap} {A_0 : Option Addr} {n_0 c_0 : Nat} {a_0 : List Int} {x_1 : Int} {x_10 : Int} {x_11 : Int} (O : Hold W h0 m0 h m [rR (aE (tell_int .i64)) A_0 c_0 a_0]) (ne_0 : n_0 = List.length a_0) {r : Int × Bool × (List Int)} (e : slices_partitionOrdered_129.l1 a_0 x_1 x_10 x_11 = some r) : f129.l1 (slices_partitionOrdered_129.post W A_0 n_0 c_0 h0 m0 r) A_0 n_0 c_0 x_1 x_10 x_11 h := slices_partitionOrdered_129.l1_k.all (p := .l1 a_0 x_1 x_10 x_11) e W h0 m0 h m A_0 n_0 c_0 O ne_0
noncomputable def slices_partitionOrdered_129.j0 (a_0 : List Int) (x_1 : Int) (x_10 : Int) (x_11 : Int) : Option (Int × Bool × (List Int)) :=
  (slices_partitionOrdered_129.l1 a_0 x_1 x_10 x_11)
set_option maxRecDepth 100000 in
theorem slices_partitionOrdered_129.j0.walk {W : Nat → Prop} {h0 m0 h m : Heap} {A_0 : Option Addr} {n_0 c_0 : Nat} {a_0 : List Int} {x_1 : Int} {x_10 : Int} {x_11 : Int} (O : Hold W h0 m0 h m [rR (aE (tell_int .i64)) A_0 c_0 a_0]) (ne_0 : n_0 = List.length a_0) {r : Int × Bool × (List Int)} (e : slices_partitionOrdered_129.j0 a_0 x_1 x_10 x_11 = some r) : f129.j0 (slices_partitionOrdered_129.post W A_0 n_0 c_0 h0 m0 r) A_0 n_0 c_0 x_1 x_10 x_11 h := by
  unfold slices_partitionOrdered_129.j0 at e
  subst ne_0
  refine f129.j0_in ?_
  unfold f129.j0T
  exact slices_partitionOrdered_129.l1.walk (O.pick [0]).nm rfl e
inductive slices_partitionOrdered_129.l0_k.Pt where
  | l0 (a_0 : List Int) (x_1 : Int) (x_10 : Int) (x_11 : Int)
  | j2 (a_0 : List Int) (x_1 : Int) (x_10 : Int) (x_11 : Int)
noncomputable def slices_partitionOrdered_129.l0_k.body (go : (p : slices_partitionOrdered_129.l0_k.Pt) → Option (Int × Bool × (List Int))) : (p : slices_partitionOrdered_129.l0_k.Pt) → Option (Int × Bool × (List Int))
  | .l0 a_0 x_1 x_10 x_11 => if x_10 ≤ x_11 then (Option.bind (gi a_0 x_10) fun y1 => Option.bind (gi a_0 x_1) fun y8 => Option.bind (cmp_Less_127 y1 y8) fun y15 => if y15 = true then ((go (.j2 a_0 x_1 x_10 x_11))) else ((slices_partitionOrdered_129.j0 a_0 x_1 x_10 x_11))) else ((slices_partitionOrdered_129.j0 a_0 x_1 x_10 x_11))
  | .j2 a_0 x_1 x_10 x_11 => (go (.l0 a_0 x_1 (IntKind.wrap .i64 (x_10 + (1 : Int))) x_11))
attribute [local irreducible] cmp_Less_127 in
theorem slices_partitionOrdered_129.l0_k.mono : MonoF (β := fun _ => (Int × Bool × (List Int))) slices_partitionOrdered_129.l0_k.body := fun f g hfg p => match p with
  | .l0 a_0 x_1 x_10 x_11 => LeO.ite (LeO.bind (LeO.refl _) fun y1 => LeO.bind (LeO.refl _) fun y8 => LeO.bind (LeO.refl _) fun y15 => LeO.ite ((hfg _)) ((LeO.refl _))) ((LeO.refl _))
  | .j2 a_0 x_1 x_10 x_11 => (hfg _)
noncomputable def slices_partitionOrdered_129.l0_k.go (p : slices_partitionOrdered_129.l0_k.Pt) : Option (Int × Bool × (List Int)) := fixF (β := fun _ => (Int × Bool × (List Int))) slices_partitionOrdered_129.l0_k.body p
noncomputable def slices_partitionOrdered_129.l0 (a_0 : List Int) (x_1 : Int) (x_10 : Int) (x_11 : Int) : Option (Int × Bool × (List Int)) := slices_partitionOrdered_129.l0_k.go (.l0 a_0 x_1 x_10 x_11)
noncomputable def slices_partitionOrdered_129.j2 (a_0 : List Int) (x_1 : Int) (x_10 : Int) (x_11 : Int) : Option (Int × Bool × (List Int)) := slices_partitionOrdered_129.l0_k.go (.j2 a_0 x_1 x_10 x_11)
theorem slices_partitionOrdered_129.l0_eq (a_0 : List Int) (x_1 : Int) (x_10 : Int) (x_11 : Int) : slices_partitionOrdered_129.l0 a_0 x_1 x_10 x_11 = if x_10 ≤ x_11 then (Option.bind (gi a_0 x_10) fun y1 => Option.bind (gi a_0 x_1) fun y8 => Option.bind (cmp_Less_127 y1 y8) fun y15 => if y15 = true then ((slices_partitionOrdered_129.j2 a_0 x_1 x_10 x_11)) else ((slices_partitionOrdered_129.j0 a_0 x_1 x_10 x_11))) else ((slices_partitionOrdered_129.j0 a_0 x_1 x_10 x_11)) := fixF_eq slices_partitionOrdered_129.l0_k.mono _
theorem slices_partitionOrdered_129.j2_eq (a_0 : List Int) (x_1 : Int) (x_10 : Int) (x_11 : Int) : slices_partitionOrdered_129.j2 a_0 x_1 x_10 x_11 = (slices_partitionOrdered_129.l0 a_0 x_1 (IntKind.wrap .i64 (x_10 + (1 : Int))) x_11) := fixF_eq slices_partitionOrdered_129.l0_k.mono _
def slices_partitionOrdered_129.l0_k.I : (p : slices_partitionOrdered_129.l0_k.Pt) → (Int × Bool × (List Int)) → Prop
  | .l0 a_0 x_1 x_10 x_11, r => ∀ (W : Nat → Prop) (h0 m0 h m : Heap) (A_0 : Option Addr) (n_0 c_0 : Nat) (O : Hold W h0 m0 h m [rR (aE (tell_int .i64)) A_0 c_0 a_0]) (ne_0 : n_0 = List.length a_0), f129.l0 (slices_partitionOrdered_129.post W A_0 n_0 c_0 h0 m0 r) A_0 n_0 c_0 x_1 x_10 x_11 h
  | .j2 a_0 x_1 x_10 x_11, r => ∀ (W : Nat → Prop) (h0 m0 h m : Heap) (A_0 : Option Addr) (n_0 c_0 : Nat) (O : Hold W h0 m0 h m [rR (aE (tell_int .i64)) A_0 c_0 a_0]) (ne_0 : n_0 = List.length a_0), f129.j2 (slices_partitionOrdered_129.post W A_0 n_0 c_0 h0 m0 r) A_0 n_0 c_0 x_1 x_10 x_11 h
set_option maxRecDepth 100000 in
theorem slices_partitionOrdered_129.l0_k.step_l0 (go : (p : slices_partitionOrdered_129.l0_k.Pt) → Option (Int × Bool × (List Int))) (ih : ∀ p r, go p = some r → slices_partitionOrdered_129.l0_k.I p r) (a_0 : List Int) (x_1 : Int) (x_10 : Int) (x_11 : Int) (r : Int × Bool × (List Int)) (e : slices_partitionOrdered_129.l0_k.body go (.l0 a_0 x_1 x_10 x_11) = some r) : slices_partitionOrdered_129.l0_k.I (.l0 a_0 x_1 x_10 x_11) r := by
  unfold slices_partitionOrdered_129.l0_k.body at e
  intro W h0 m0 h m A_0 n_0 c_0 O ne_0
  subst ne_0
  refine f129.l0_in ?_
  unfold f129.l0T
  refine split_dec_e e (fun c23 e => ?_) (fun c23 e => ?_)
  · obtain ⟨y1, g2, e⟩ := bind_e e
    refine (O.os 0 rfl).addr rfl g2 fun a3 cs4 ha5 hc6 he7 => ?_
    obtain rfl : cs4 = [(Value.int .i64 y1)] := he7
    obtain ⟨y8, g9, e⟩ := bind_e e
    refine (O.os 0 rfl).addr rfl g9 fun a10 cs11 ha12 hc13 he14 => ?_
    obtain rfl : cs11 = [(Value.int .i64 y8)] := he14
    refine ⟨_, ld0 (Sub.refl _) hc6 rfl, _, rfl, ?_⟩
    refine ⟨_, ld0 (Sub.refl _) hc13 rfl, _, rfl, ?_⟩
    obtain ⟨y15, g16, e⟩ := bind_e e
    refine (cmp_Less_127.walk (Hold.start (W := No) O.s)  g16).mono ?_
    rintro _ h17 ⟨m18, Q19, rfl⟩
    have O21 := Hold.nm (O.retC Q19 vfs_nil)
    refine ⟨_, rfl, ?_⟩
    refine split_any_e e (fun c22 e => ?_) (fun c22 e => ?_)
    · exact (ih _ _ e) _ _ _ _ _ _ _ _ (O21.pick [0]).nm rfl
    · exact slices_partitionOrdered_129.j0.walk (O21.pick [0]).nm rfl e
  · exact slices_partitionOrdered_129.j0.walk (O.pick [0]).nm rfl e
set_option maxRecDepth 100000 in
theorem slices_partitionOrdered_129.l0_k.step_j2 (go : (p : slices_partitionOrdered_129.l0_k.Pt) → Option (Int × Bool × (List Int))) (ih : ∀ p r, go p = some r → slices_partitionOrdered_129.l0_k.I p r) (a_0 : List Int) (x_1 : Int) (x_10 : Int) (x_11 : Int) (r : Int × Bool × (List Int)) (e : slices_partitionOrdered_129.l0_k.body go (.j2 a_0 x_1 x_10 x_11) = some r) : slices_partitionOrdered_129.l0_k.I (.j2 a_0 x_1 x_10 x_11) r := by
  unfold slices_partitionOrdered_129.l0_k.body at e
  intro W h0 m0 h m A_0 n_0 c_0 O ne_0
  subst ne_0
  refine f129.j2_in ?_
  unfold f129.j2T
  exact (ih _ _ e) _ _ _ _ _ _ _ _ (O.pick [0]).nm rfl
theorem slices_partitionOrdered_129.l0_k.all {p : slices_partitionOrdered_129.l0_k.Pt} {r : (Int × Bool × (List Int))} (e : slices_partitionOrdered_129.l0_k.go p = some r) : slices_partitionOrdered_129.l0_k.I p r := fixF_ind (β := fun _ => (Int × Bool × (List Int))) slices_partitionOrdered_129.l0_k.mono (I := slices_partitionOrdered_129.l0_k.I) (fun go ih p r e => match p with
  | .l0 a_0 x_1 x_10 x_11 => slices_partitionOrdered_129.l0_k.step_l0 go ih a_0 x_1 x_10 x_11 r e
  | .j2 a_0 x_1 x_10 x_11 => slices_partitionOrdered_129.l0_k.step_j2 go ih a_0 x_1 x_10 x_11 r e
  ) e
theorem slices_partitionOrdered_129.l0.walk {W : Nat → Prop} {h0 m0 h m : Heap} {A_0 : Option Addr} {n_0 c_0 : Nat} {a_0 : List Int} {x_1 : Int} {x_10 : Int} {x_11 : Int} (O : Hold W h0 m0 h m [rR (aE (tell_int .i64)) A_0 c_0 a_0]) (ne_0 : n_0 = List.length a_0) {r : Int × Bool × (List Int)} (e : slices_partitionOrdered_129.l0 a_0 x_1 x_10 x_11 = some r) : f129.l0 (slices_partitionOrdered_129.post W A_0 n_0 c_0 h0 m0 r) A_0 n_0 c_0 x_1 x_10 x_11 h := slices_partitionOrdered_129.l0_k.all (p := .l0 a_0 x_1 x_10 x_11) e W h0 m0 h m A_0 n_0 c_0 O ne_0
noncomputable def slices_partitionOrdered_129 (a_0 : List Int) (x_1 : Int) (x_2 : Int) (x_3 : Int) : Option (Int × Bool × (List Int)) :=
  Option.bind (gi a_0 x_3) fun y1 => Option.bind (gi a_0 x_1) fun y8 => Option.bind (gi a_0 x_1) fun y15 => Option.bind (some (List.set a_0 (Int.toNat x_1) y1)) fun l24 => Option.bind (gi l24 x_3) fun y26 => Option.bind (some (List.set l24 (Int.toNat x_3) y8)) fun l35 => (slices_partitionOrdered_129.l0 l35 x_1 (IntKind.wrap .i64 (x_1 + (1 : Int))) (IntKind.wrap .i64 (x_2 - (1 : Int))))
set_option maxRecDepth 100000 in
theorem slices_partitionOrdered_129.walk {W : Nat → Prop} {h m : Heap} {A_0 : Option Addr} {n_0 c_0 : Nat} {a_0 : List Int} {x_1 : Int} {x_2 : Int} {x_3 : Int} (O : Hold W h m h m [rR (aE (tell_int .i64)) A_0 c_0 a_0]) (ne_0 : n_0 = List.length a_0) {r : Int × Bool × (List Int)} (e : slices_partitionOrdered_129 a_0 x_1 x_2 x_3 = some r) : Run Try.prog 129 #[Value.slice A_0 n_0 c_0, Value.int .i64 x_1, Value.int .i64 x_2, Value.int .i64 x_3] h (slices_partitionOrdered_129.post W A_0 n_0 c_0 h m r) := by
  unfold slices_partitionOrdered_129 at e
  subst ne_0
  refine f129.run ?_
  unfold f129.runT
  obtain ⟨y1, g2, e⟩ := bind_e e
  refine (O.os 0 rfl).addr rfl g2 fun a3 cs4 ha5 hc6 he7 => ?_
  obtain rfl : cs4 = [(Value.int .i64 y1)] := he7
  obtain ⟨y8, g9, e⟩ := bind_e e
  refine (O.os 0 rfl).addr rfl g9 fun a10 cs11 ha12 hc13 he14 => ?_
  obtain rfl : cs11 = [(Value.int .i64 y8)] := he14
  refine ⟨_, ld0 (Sub.refl _) hc6 rfl, _, rfl, ?_⟩
  refine ⟨_, ld0 (Sub.refl _) hc13 rfl, _, rfl, ?_⟩
  obtain ⟨y15, g16, e⟩ := bind_e e
  refine (O.os 0 rfl).addr rfl g16 fun a17 cs18 ha19 hc20 he21 => ?_
  obtain rfl : cs18 = [(Value.int .i64 y15)] := he21
  obtain ⟨l24, g25, e⟩ := bind_e e
  replace g25 := Option.some.inj g25
  refine O.elst0 0 rfl g16 ha19 hc20 (by decide) (y' := y1) rfl trivial g25 fun h22 O23 => ?_
  obtain ⟨y26, g27, e⟩ := bind_e e
  refine (O23.os 0 rfl).addr (lset' g25) g27 fun a28 cs29 ha30 hc31 he32 => ?_
  obtain rfl : cs29 = [(Value.int .i64 y26)] := he32
  obtain ⟨l35, g36, e⟩ := bind_e e
  replace g36 := Option.some.inj g36
  refine O23.elst0 0 rfl g27 ha30 hc31 (by decide) (y' := y8) rfl trivial g36 fun h33 O34 => ?_
  have O37 := O34.nm
  exact slices_partitionOrdered_129.l0.walk (O37.pick [0]).nm ((lset' g25).trans (lset' g36)) e
def slices_pdqsortOrdered_78.post (W : Nat → Prop) (Asl0 : Option Addr) (nsl0 csl0 : Nat) (h0 m0 : Heap) (r : (List Int)) (v : Value) (h : Heap) : Prop := ∃ m , Hold W h0 m0 h m [rR (aE (tell_int .i64)) Asl0 csl0 r] ∧ v = .tuple #[] ∧ nsl0 = List.length r
inductive slices_pdqsortOrdered_78_k.Pt where
  | f (a_0 : List Int) (x_1 : Int) (x_2 : Int) (x_3 : Int)
  | l0 (a_0 : List Int) (x_1 : Int) (x_2 : Int) (x_3 : Int) (b_8 : Bool) (b_9 : Bool)
  | j0 (a_0 : List Int) (x_1 : Int) (x_2 : Int) (x_3 : Int) (b_8 : Bool) (b_9 : Bool) (x_10 : Int)
  | j1 (a_0 : List Int) (x_1 : Int) (x_2 : Int) (x_3 : Int) (b_8 : Bool) (b_9 : Bool) (x_10 : Int) (x_11 : Int) (x_12 : Int)
  | j3 (a_0 : List Int) (x_1 : Int) (x_2 : Int) (x_3 : Int) (b_8 : Bool) (b_9 : Bool) (x_10 : Int) (x_11 : Int) (b_68 : Bool)
  | j2 (a_0 : List Int) (x_1 : Int) (x_2 : Int) (x_3 : Int) (b_8 : Bool) (b_9 : Bool) (x_10 : Int) (x_11 : Int)
  | j5 (a_0 : List Int) (x_1 : Int) (x_2 : Int) (x_3 : Int) (b_8 : Bool) (b_9 : Bool) (x_10 : Int) (x_11 : Int) (b_87 : Bool)
  | j4 (a_0 : List Int) (x_1 : Int) (x_2 : Int) (x_3 : Int) (x_10 : Int) (x_11 : Int)
noncomputable def slices_pdqsortOrdered_78_k.body (go : (p : slices_pdqsortOrdered_78_k.Pt) → Option ((List Int))) : (p : slices_pdqsortOrdered_78_k.Pt) → Option ((List Int))
  | .f a_0 x_1 x_2 x_3 => (go (.l0 a_0 x_1 x_2 x_3 true true))
  | .l0 a_0 x_1 x_2 x_3 b_8 b_9 => if (IntKind.wrap .i64 (x_2 - x_1)) ≤ (12 : Int) then (Option.bind (slices_insertionSortOrdered_121 a_0 x_1 x_2) fun y1 => some (y1)) else (if x_3 = (0 : Int) then (Option.bind (slices_heapSortOrdered_122 a_0 x_1 x_2) fun y13 => some (y13)) else (if b_8 = true then ((go (.j0 a_0 x_1 x_2 x_3 b_8 b_9 (IntKind.wrap .i64 (x_2 - x_1))))) else (Option.bind (slices_breakPatternsOrdered_123 a_0 x_1 x_2) fun y25 => (go (.j0 y25 x_1 x_2 (IntKind.wrap .i64 (x_3 - (1 : Int))) b_8 b_9 (IntKind.wrap .i64 (x_2 - x_1)))))))
  | .j0 a_0 x_1 x_2 x_3 b_8 b_9 x_10 => Option.bind (slices_choosePivotOrdered_124 a_0 x_1 x_2) fun y1 => if y1.2 = (2 : Int) then (Option.bind (slices_reverseRangeOrdered_125 a_0 x_1 x_2) fun y15 => (go (.j1 y15 x_1 x_2 x_3 b_8 b_9 x_10 (IntKind.wrap .i64 ((IntKind.wrap .i64 (x_2 - (1 : Int))) - (IntKind.wrap .i64 (y1.1 - x_1)))) (1 : Int)))) else ((go (.j1 a_0 x_1 x_2 x_3 b_8 b_9 x_10 y1.1 y1.2)))
  | .j1 a_0 x_1 x_2 x_3 b_8 b_9 x_10 x_11 x_12 => if b_8 = true then (if b_9 = true then ((go (.j3 a_0 x_1 x_2 x_3 b_8 b_9 x_10 x_11 (x_12 == (1 : Int))))) else ((go (.j3 a_0 x_1 x_2 x_3 b_8 b_9 x_10 x_11 false)))) else ((go (.j3 a_0 x_1 x_2 x_3 b_8 b_9 x_10 x_11 false)))
  | .j3 a_0 x_1 x_2 x_3 b_8 b_9 x_10 x_11 b_68 => if b_68 = true then (Option.bind (slices_partialInsertionSortOrdered_126 a_0 x_1 x_2) fun y1 => if y1.1 = true then (some (y1.2)) else ((go (.j2 y1.2 x_1 x_2 x_3 b_8 b_9 x_10 x_11)))) else ((go (.j2 a_0 x_1 x_2 x_3 b_8 b_9 x_10 x_11)))
  | .j2 a_0 x_1 x_2 x_3 b_8 b_9 x_10 x_11 => if x_1 > (0 : Int) then (Option.bind (gi a_0 (IntKind.wrap .i64 (x_1 - (1 : Int)))) fun y1 => Option.bind (gi a_0 x_11) fun y8 => Option.bind (cmp_Less_127 y1 y8) fun y15 => (go (.j5 a_0 x_1 x_2 x_3 b_8 b_9 x_10 x_11 (!y15)))) else ((go (.j5 a_0 x_1 x_2 x_3 b_8 b_9 x_10 x_11 false)))
  | .j5 a_0 x_1 x_2 x_3 b_8 b_9 x_10 x_11 b_87 => if b_87 = true then (Option.bind (slices_partitionEqualOrdered_128 a_0 x_1 x_2 x_11) fun y1 => (go (.l0 y1.2 y1.1 x_2 x_3 b_8 b_9))) else ((go (.j4 a_0 x_1 x_2 x_3 x_10 x_11)))
  | .j4 a_0 x_1 x_2 x_3 x_10 x_11 => Option.bind (slices_partitionOrdered_129 a_0 x_1 x_2 x_11) fun y1 => if (IntKind.wrap .i64 (y1.1 - x_1)) < (IntKind.wrap .i64 (x_2 - y1.1)) then (Option.bind ((go (.f y1.2.2 x_1 y1.1 x_3))) fun y13 => (go (.l0 y13 (IntKind.wrap .i64 (y1.1 + (1 : Int))) x_2 x_3 (decide ((IntKind.wrap .i64 (y1.1 - x_1)) ≥ (IntKind.wrap .i64 (Int.tdiv x_10 (8 : Int))))) y1.2.1))) else (Option.bind ((go (.f y1.2.2 (IntKind.wrap .i64 (y1.1 + (1 : Int))) x_2 x_3))) fun y25 => (go (.l0 y25 x_1 y1.1 x_3 (decide ((IntKind.wrap .i64 (x_2 - y1.1)) ≥ (IntKind.wrap .i64 (Int.tdiv x_10 (8 : Int))))) y1.2.1)))
attribute [local irreducible] cmp_Less_127 in
theorem slices_pdqsortOrdered_78_k.mono : MonoF (β := fun _ => ((List Int))) slices_pdqsortOrdered_78_k.body := fun f g hfg p => match p with
  | .f a_0 x_1 x_2 x_3 => (hfg _)
  | .l0 a_0 x_1 x_2 x_3 b_8 b_9 => LeO.ite (LeO.bind (LeO.refl _) fun y1 => LeO.refl _) (LeO.ite (LeO.bind (LeO.refl _) fun y13 => LeO.refl _) (LeO.ite ((hfg _)) (LeO.bind (LeO.refl _) fun y25 => (hfg _))))
  | .j0 a_0 x_1 x_2 x_3 b_8 b_9 x_10 => LeO.bind (LeO.refl _) fun y1 => LeO.ite (LeO.bind (LeO.refl _) fun y15 => (hfg _)) ((hfg _))
  | .j1 a_0 x_1 x_2 x_3 b_8 b_9 x_10 x_11 x_12 => LeO.ite (LeO.ite ((hfg _)) ((hfg _))) ((hfg _))
  | .j3 a_0 x_1 x_2 x_3 b_8 b_9 x_10 x_11 b_68 => LeO.ite (LeO.bind (LeO.refl _) fun y1 => LeO.ite (LeO.refl _) ((hfg _))) ((hfg _))
  | .j2 a_0 x_1 x_2 x_3 b_8 b_9 x_10 x_11 => LeO.ite (LeO.bind (LeO.refl _) fun y1 => LeO.bind (LeO.refl _) fun y8 => LeO.bind (LeO.refl _) fun y15 => (hfg _)) ((hfg _))
  | .j5 a_0 x_1 x_2 x_3 b_8 b_9 x_10 x_11 b_87 => LeO.ite (LeO.bind (LeO.refl _) fun y1 => (hfg _)) ((hfg _))
  | .j4 a_0 x_1 x_2 x_3 x_10 x_11 => LeO.bind (LeO.refl _) fun y1 => LeO.ite (LeO.bind ((hfg _)) fun y13 => (hfg _)) (LeO.bind ((hfg _)) fun y25 => (hfg _))
noncomputable def slices_pdqsortOrdered_78_k.go (p : slices_pdqsortOrdered_78_k.Pt) : Option ((List Int)) := fixF (β := fun _ => ((List Int))) slices_pdqsortOrdered_78_k.body p
noncomputable def slices_pdqsortOrdered_78 (a_0 : List Int) (x_1 : Int) (x_2 : Int) (x_3 : Int) : Option ((List Int)) := slices_pdqsortOrdered_78_k.go (.f a_0 x_1 x_2 x_3)
noncomputable def slices_pdqsortOrdered_78.l0 (a_0 : List Int) (x_1 : Int) (x_2 : Int) (x_3 : Int) (b_8 : Bool) (b_9 : Bool) : Option ((List Int)) := slices_pdqsortOrdered_78_k.go (.l0 a_0 x_1 x_2 x_3 b_8 b_9)
noncomputable def slices_pdqsortOrdered_78.j0 (a_0 : List Int) (x_1 : Int) (x_2 : Int) (x_3 : Int) (b_8 : Bool) (b_9 : Bool) (x_10 : Int) : Option ((List Int)) := slices_pdqsortOrdered_78_k.go (.j0 a_0 x_1 x_2 x_3 b_8 b_9 x_10)
noncomputable def slices_pdqsortOrdered_78.j1 (a_0 : List Int) (x_1 : Int) (x_2 : Int) (x_3 : Int) (b_8 : Bool) (b_9 : Bool) (x_10 : Int) (x_11 : Int) (x_12 : Int) : Option ((List Int)) := slices_pdqsortOrdered_78_k.go (.j1 a_0 x_1 x_2 x_3 b_8 b_9 x_10 x_11 x_12)
noncomputable def slices_pdqsortOrdered_78.j3 (a_0 : List Int) (x_1 : Int) (x_2 : Int) (x_3 : Int) (b_8 : Bool) (b_9 : Bool) (x_10 : Int) (x_11 : Int) (b_68 : Bool) : Option ((List Int)) := slices_pdqsortOrdered_78_k.go (.j3 a_0 x_1 x_2 x_3 b_8 b_9 x_10 x_11 b_68)
noncomputable def slices_pdqsortOrdered_78.j2 (a_0 : List Int) (x_1 : Int) (x_2 : Int) (x_3 : Int) (b_8 : Bool) (b_9 : Bool) (x_10 : Int) (x_11 : Int) : Option ((List Int)) := slices_pdqsortOrdered_78_k.go (.j2 a_0 x_1 x_2 x_3 b_8 b_9 x_10 x_11)
noncomputable def slices_pdqsortOrdered_78.j5 (a_0 : List Int) (x_1 : Int) (x_2 : Int) (x_3 : Int) (b_8 : Bool) (b_9 : Bool) (x_10 : Int) (x_11 : Int) (b_87 : Bool) : Option ((List Int)) := slices_pdqsortOrdered_78_k.go (.j5 a_0 x_1 x_2 x_3 b_8 b_9 x_10 x_11 b_87)
noncomputable def slices_pdqsortOrdered_78.j4 (a_0 : List Int) (x_1 : Int) (x_2 : Int) (x_3 : Int) (x_10 : Int) (x_11 : Int) : Option ((List Int)) := slices_pdqsortOrdered_78_k.go (.j4 a_0 x_1 x_2 x_3 x_10 x_11)
theorem slices_pdqsortOrdered_78_eq (a_0 : List Int) (x_1 : Int) (x_2 : Int) (x_3 : Int) : slices_pdqsortOrdered_78 a_0 x_1 x_2 x_3 = (slices_pdqsortOrdered_78.l0 a_0 x_1 x_2 x_3 true true) := fixF_eq slices_pdqsortOrdered_78_k.mono _
theorem slices_pdqsortOrdered_78.l0_eq (a_0 : List Int) (x_1 : Int) (x_2 : Int) (x_3 : Int) (b_8 : Bool) (b_9 : Bool) : slices_pdqsortOrdered_78.l0 a_0 x_1 x_2 x_3 b_8 b_9 = if (IntKind.wrap .i64 (x_2 - x_1)) ≤ (12 : Int) then (Option.bind (slices_insertionSortOrdered_121 a_0 x_1 x_2) fun y1 => some (y1)) else (if x_3 = (0 : Int) then (Option.bind (slices_heapSortOrdered_122 a_0 x_1 x_2) fun y13 => some (y13)) else (if b_8 = true then ((slices_pdqsortOrdered_78.j0 a_0 x_1 x_2 x_3 b_8 b_9 (IntKind.wrap .i64 (x_2 - x_1)))) else (Option.bind (slices_breakPatternsOrdered_123 a_0 x_1 x_2) fun y25 => (slices_pdqsortOrdered_78.j0 y25 x_1 x_2 (IntKind.wrap .i64 (x_3 - (1 : Int))) b_8 b_9 (IntKind.wrap .i64 (x_2 - x_1)))))) := fixF_eq slices_pdqsortOrdered_78_k.mono _
theorem slices_pdqsortOrdered_78.j0_eq (a_0 : List Int) (x_1 : Int) (x_2 : Int) (x_3 : Int) (b_8 : Bool) (b_9 : Bool) (x_10 : Int) : slices_pdqsortOrdered_78.j0 a_0 x_1 x_2 x_3 b_8 b_9 x_10 = Option.bind (slices_choosePivotOrdered_124 a_0 x_1 x_2) fun y1 => if y1.2 = (2 : Int) then (Option.bind (slices_reverseRangeOrdered_125 a_0 x_1 x_2) fun y15 => (slices_pdqsortOrdered_78.j1 y15 x_1 x_2 x_3 b_8 b_9 x_10 (IntKind.wrap .i64 ((IntKind.wrap .i64 (x_2 - (1 : Int))) - (IntKind.wrap .i64 (y1.1 - x_1)))) (1 : Int))) else ((slices_pdqsortOrdered_78.j1 a_0 x_1 x_2 x_3 b_8 b_9 x_10 y1.1 y1.2)) := fixF_eq slices_pdqsortOrdered_78_k.mono _
theorem slices_pdqsortOrdered_78.j1_eq (a_0 : List Int) (x_1 : Int) (x_2 : Int) (x_3 : Int) (b_8 : Bool) (b_9 : Bool) (x_10 : Int) (x_11 : Int) (x_12 : Int) : slices_pdqsortOrdered_78.j1 a_0 x_1 x_2 x_3 b_8 b_9 x_10 x_11 x_12 = if b_8 = true then (if b_9 = true then ((slices_pdqsortOrdered_78.j3 a_0 x_1 x_2 x_3 b_8 b_9 x_10 x_11 (x_12 == (1 : Int)))) else ((slices_pdqsortOrdered_78.j3 a_0 x_1 x_2 x_3 b_8 b_9 x_10 x_11 false))) else ((slices_pdqsortOrdered_78.j3 a_0 x_1 x_2 x_3 b_8 b_9 x_10 x_11 false)) := fixF_eq slices_pdqsortOrdered_78_k.mono _
theorem slices_pdqsortOrdered_78.j3_eq (a_0 : List Int) (x_1 : Int) (x_2 : Int) (x_3 : Int) (b_8 : Bool) (b_9 : Bool) (x_10 : Int) (x_11 : Int) (b_68 : Bool) : slices_pdqsortOrdered_78.j3 a_0 x_1 x_2 x_3 b_8 b_9 x_10 x_11 b_68 = if b_68 = true then (Option.bind (slices_partialInsertionSortOrdered_126 a_0 x_1 x_2) fun y1 => if y1.1 = true then (some (y1.2)) else ((slices_pdqsortOrdered_78.j2 y1.2 x_1 x_2 x_3 b_8 b_9 x_10 x_11))) else ((slices_pdqsortOrdered_78.j2 a_0 x_1 x_2 x_3 b_8 b_9 x_10 x_11)) := fixF_eq slices_pdqsortOrdered_78_k.mono _
theorem slices_pdqsortOrdered_78.j2_eq (a_0 : List Int) (x_1 : Int) (x_2 : Int) (x_3 : Int) (b_8 : Bool) (b_9 : Bool) (x_10 : Int) (x_11 : Int) : slices_pdqsortOrdered_78.j2 a_0 x_1 x_2 x_3 b_8 b_9 x_10 x_11 = if x_1 > (0 : Int) then (Option.bind (gi a_0 (IntKind.wrap .i64 (x_1 - (1 : Int)))) fun y1 => Option.bind (gi a_0 x_11) fun y8 => Option.bind (cmp_Less_127 y1 y8) fun y15 => (slices_pdqsortOrdered_78.j5 a_0 x_1 x_2 x_3 b_8 b_9 x_10 x_11 (!y15))) else ((slices_pdqsortOrdered_78.j5 a_0 x_1 x_2 x_3 b_8 b_9 x_10 x_11 false)) := fixF_eq slices_pdqsortOrdered_78_k.mono _
theorem slices_pdqsortOrdered_78.j5_eq (a_0 : List Int) (x_1 : Int) (x_2 : Int) (x_3 : Int) (b_8 : Bool) (b_9 : Bool) (x_10 : Int) (x_11 : Int) (b_87 : Bool) : slices_pdqsortOrdered_78.j5 a_0 x_1 x_2 x_3 b_8 b_9 x_10 x_11 b_87 = if b_87 = true then (Option.bind (slices_partitionEqualOrdered_128 a_0 x_1 x_2 x_11) fun y1 => (slices_pdqsortOrdered_78.l0 y1.2 y1.1 x_2 x_3 b_8 b_9)) else ((slices_pdqsortOrdered_78.j4 a_0 x_1 x_2 x_3 x_10 x_11)) := fixF_eq slices_pdqsortOrdered_78_k.mono _
theorem slices_pdqsortOrdered_78.j4_eq (a_0 : List Int) (x_1 : Int) (x_2 : Int) (x_3 : Int) (x_10 : Int) (x_11 : Int) : slices_pdqsortOrdered_78.j4 a_0 x_1 x_2 x_3 x_10 x_11 = Option.bind (slices_partitionOrdered_129 a_0 x_1 x_2 x_11) fun y1 => if (IntKind.wrap .i64 (y1.1 - x_1)) < (IntKind.wrap .i64 (x_2 - y1.1)) then (Option.bind ((slices_pdqsortOrdered_78 y1.2.2 x_1 y1.1 x_3)) fun y13 => (slices_pdqsortOrdered_78.l0 y13 (IntKind.wrap .i64 (y1.1 + (1 : Int))) x_2 x_3 (decide ((IntKind.wrap .i64 (y1.1 - x_1)) ≥ (IntKind.wrap .i64 (Int.tdiv x_10 (8 : Int))))) y1.2.1)) else (Option.bind ((slices_pdqsortOrdered_78 y1.2.2 (IntKind.wrap .i64 (y1.1 + (1 : Int))) x_2 x_3)) fun y25 => (slices_pdqsortOrdered_78.l0 y25 x_1 y1.1 x_3 (decide ((IntKind.wrap .i64 (x_2 - y1.1)) ≥ (IntKind.wrap .i64 (Int.tdiv x_10 (8 : Int))))) y1.2.1)) := fixF_eq slices_pdqsortOrdered_78_k.mono _
def slices_pdqsortOrdered_78_k.I : (p : slices_pdqsortOrdered_78_k.Pt) → ((List Int)) → Prop
  | .f a_0 x_1 x_2 x_3, r => ∀ (W : Nat → Prop) (h m : Heap) (A_0 : Option Addr) (n_0 c_0 : Nat) (O : Hold W h m h m [rR (aE (tell_int .i64)) A_0 c_0 a_0]) (ne_0 : n_0 = List.length a_0), Run Try.prog 78 #[Value.slice A_0 n_0 c_0, Value.int .i64 x_1, Value.int .i64 x_2, Value.int .i64 x_3] h (slices_pdqsortOrdered_78.post W A_0 n_0 c_0 h m r)
  | .l0 a_0 x_1 x_2 x_3 b_8 b_9, r => ∀ (W : Nat → Prop) (h0 m0 h m : Heap) (A_0 : Option Addr) (n_0 c_0 : Nat) (O : Hold W h0 m0 h m [rR (aE (tell_int .i64)) A_0 c_0 a_0]) (ne_0 : n_0 = List.length a_0), f78.l0 (slices_pdqsortOrdered_78.post W A_0 n_0 c_0 h0 m0 r) A_0 n_0 c_0 x_1 x_2 x_3 b_8 b_9 h
  | .j0 a_0 x_1 x_2 x_3 b_8 b_9 x_10, r => ∀ (W : Nat → Prop) (h0 m0 h m : Heap) (A_0 : Option Addr) (n_0 c_0 : Nat) (O : Hold W h0 m0 h m [rR (aE (tell_int .i64)) A_0 c_0 a_0]) (ne_0 : n_0 = List.length a_0), f78.j0 (slices_pdqsortOrdered_78.post W A_0 n_0 c_0 h0 m0 r) A_0 n_0 c_0 x_1 x_2 x_3 b_8 b_9 x_10 h
  | .j1 a_0 x_1 x_2 x_3 b_8 b_9 x_10 x_11 x_12, r => ∀ (W : Nat → Prop) (h0 m0 h m : Heap) (A_0 : Option Addr) (n_0 c_0 : Nat) (O : Hold W h0 m0 h m [rR (aE (tell_int .i64)) A_0 c_0 a_0]) (ne_0 : n_0 = List.length a_0), f78.j1 (slices_pdqsortOrdered_78.post W A_0 n_0 c_0 h0 m0 r) A_0 n_0 c_0 x_1 x_2 x_3 b_8 b_9 x_10 x_11 x_12 h
  | .j3 a_0 x_1 x_2 x_3 b_8 b_9 x_10 x_11 b_68, r => ∀ (W : Nat → Prop) (h0 m0 h m : Heap) (A_0 : Option Addr) (n_0 c_0 : Nat) (O : Hold W h0 m0 h m [rR (aE (tell_int .i64)) A_0 c_0 a_0]) (ne_0 : n_0 = List.length a_0), f78.j3 (slices_pdqsortOrdered_78.post W A_0 n_0 c_0 h0 m0 r) A_0 n_0 c_0 x_1 x_2 x_3 b_8 b_9 x_10 x_11 b_68 h
  | .j2 a_0 x_1 x_2 x_3 b_8 b_9 x_10 x_11, r => ∀ (W : Nat → Prop) (h0 m0 h m : Heap) (A_0 : Option Addr) (n_0 c_0 : Nat) (O : Hold W h0 m0 h m [rR (aE (tell_int .i64)) A_0 c_0 a_0]) (ne_0 : n_0 = List.length a_0), f78.j2 (slices_pdqsortOrdered_78.post W A_0 n_0 c_0 h0 m0 r) A_0 n_0 c_0 x_1 x_2 x_3 b_8 b_9 x_10 x_11 h
  | .j5 a_0 x_1 x_2 x_3 b_8 b_9 x_10 x_11 b_87, r => ∀ (W : Nat → Prop) (h0 m0 h m : Heap) (A_0 : Option Addr) (n_0 c_0 : Nat) (O : Hold W h0 m0 h m [rR (aE (tell_int .i64)) A_0 c_0 a_0]) (ne_0 : n_0 = List.length a_0), f78.j5 (slices_pdqsortOrdered_78.post W A_0 n_0 c_0 h0 m0 r) A_0 n_0 c_0 x_1 x_2 x_3 b_8 b_9 x_10 x_11 b_87 h
  | .j4 a_0 x_1 x_2 x_3 x_10 x_11, r => ∀ (W : Nat → Prop) (h0 m0 h m : Heap) (A_0 : Option Addr) (n_0 c_0 : Nat) (O : Hold W h0 m0 h m [rR (aE (tell_int .i64)) A_0 c_0 a_0]) (ne_0 : n_0 = List.length a_0), f78.j4 (slices_pdqsortOrdered_78.post W A_0 n_0 c_0 h0 m0 r) A_0 n_0 c_0 x_1 x_2 x_3 x_10 x_11 h
set_option maxRecDepth 100000 in
theorem slices_pdqsortOrdered_78_k.step_f (go : (p : slices_pdqsortOrdered_78_k.Pt) → Option ((List Int))) (ih : ∀ p r, go p = some r → slices_pdqsortOrdered_78_k.I p r) (a_0 : List Int) (x_1 : Int) (x_2 : Int) (x_3 : Int) (r : (List Int)) (e : slices_pdqsortOrdered_78_k.body go (.f a_0 x_1 x_2 x_3) = some r) : slices_pdqsortOrdered_78_k.I (.f a_0 x_1 x_2 x_3) r := by
  unfold slices_pdqsortOrdered_78_k.body at e
  intro W h m A_0 n_0 c_0 O ne_0
  subst ne_0
  refine f78.run ?_
  unfold f78.runT
  exact (ih _ _ e) _ _ _ _ _ _ _ _ (O.pick [0]).nm rfl
set_option maxRecDepth 100000 in
theorem slices_pdqsortOrdered_78_k.step_l0 (go : (p : slices_pdqsortOrdered_78_k.Pt) → Option ((List Int))) (ih : ∀ p r, go p = some r → slices_pdqsortOrdered_78_k.I p r) (a_0 : List Int) (x_1 : Int) (x_2 : Int) (x_3 : Int) (b_8 : Bool) (b_9 : Bool) (r : (List Int)) (e : slices_pdqsortOrdered_78_k.body go (.l0 a_0 x_1 x_2 x_3 b_8 b_9) = some r) : slices_pdqsortOrdered_78_k.I (.l0 a_0 x_1 x_2 x_3 b_8 b_9) r := by
  unfold slices_pdqsortOrdered_78_k.body at e
  intro W h0 m0 h m A_0 n_0 c_0 O ne_0
  subst ne_0
  refine f78.l0_in ?_
  unfold f78.l0T
  refine split_dec_e e (fun c39 e => ?_) (fun c39 e => ?_)
  · obtain ⟨y1, g2, e⟩ := bind_e e
    obtain ⟨W7, P8, B9, C10⟩ := O.callC [0]
    refine (slices_insertionSortOrdered_121.walk P8 rfl g2).mono ?_
    rintro _ h3 ⟨m4, Q5, rfl, hl11⟩
    have O12 := Hold.nm (C10 Q5 (vfs_cons (rR_vf (aE_vf (fun _ _ _ _ h => h))) vfs_nil))
    refine ⟨rfl, ?_⟩
    cases e
    exact ⟨_, O12.pick [1], rfl, hl11⟩
  · refine split_eq_e e (fun c38 e => ?_) (fun c38 e => ?_)
    · obtain ⟨y13, g14, e⟩ := bind_e e
      obtain ⟨W19, P20, B21, C22⟩ := O.callC [0]
      refine (slices_heapSortOrdered_122.walk P20 rfl g14).mono ?_
      rintro _ h15 ⟨m16, Q17, rfl, hl23⟩
      have O24 := Hold.nm (C22 Q17 (vfs_cons (rR_vf (aE_vf (fun _ _ _ _ h => h))) vfs_nil))
      refine ⟨rfl, ?_⟩
      cases e
      exact ⟨_, O24.pick [1], rfl, hl23⟩
    · refine split_not ?_
      refine split_any_e e (fun c37 e => ?_) (fun c37 e => ?_)
      · exact (ih _ _ e) _ _ _ _ _ _ _ _ (O.pick [0]).nm rfl
      · obtain ⟨y25, g26, e⟩ := bind_e e
        obtain ⟨W31, P32, B33, C34⟩ := O.callC [0]
        refine (slices_breakPatternsOrdered_123.walk P32 rfl g26).mono ?_
        rintro _ h27 ⟨m28, Q29, rfl, hl35⟩
        have O36 := Hold.nm (C34 Q29 (vfs_cons (rR_vf (aE_vf (fun _ _ _ _ h => h))) vfs_nil))
        refine ⟨rfl, ?_⟩
        exact (ih _ _ e) _ _ _ _ _ _ _ _ (O36.pick [1]).nm hl35
set_option maxRecDepth 100000 in
theorem slices_pdqsortOrdered_78_k.step_j0 (go : (p : slices_pdqsortOrdered_78_k.Pt) → Option ((List Int))) (ih : ∀ p r, go p = some r → slices_pdqsortOrdered_78_k.I p r) (a_0 : List Int) (x_1 : Int) (x_2 : Int) (x_3 : Int) (b_8 : Bool) (b_9 : Bool) (x_10 : Int) (r : (List Int)) (e : slices_pdqsortOrdered_78_k.body go (.j0 a_0 x_1 x_2 x_3 b_8 b_9 x_10) = some r) : slices_pdqsortOrdered_78_k.I (.j0 a_0 x_1 x_2 x_3 b_8 b_9 x_10) r := by
  unfold slices_pdqsortOrdered_78_k.body at e
  intro W h0 m0 h m A_0 n_0 c_0 O ne_0
  subst ne_0
  refine f78.j0_in ?_
  unfold f78.j0T
  obtain ⟨y1, g2, e⟩ := bind_e e
  obtain ⟨m7, u8, s13, ⟨⟨r11, k12⟩, _⟩, B9, C10⟩ := O.lend0 [0]
  replace r11 : Rd 1 (eInt .i64) m7 A_0 a_0 := r11
  replace k12 : List.length a_0 ≤ c_0 := k12
  refine (slices_choosePivotOrdered_124.walk (Hold.start (W := No) s13) rfl k12 r11 g2).mono ?_
  rintro _ h3 ⟨m4, Q5, rfl⟩
  have O14 := Hold.nm (C10 Q5 vfs_nil)
  refine ⟨_, _, rfl, ?_⟩
  refine split_eq_e e (fun c27 e => ?_) (fun c27 e => ?_)
  · obtain ⟨y15, g16, e⟩ := bind_e e
    obtain ⟨W21, P22, B23, C24⟩ := O14.callC [0]
    refine (slices_reverseRangeOrdered_125.walk P22 rfl g16).mono ?_
    rintro _ h17 ⟨m18, Q19, rfl, hl25⟩
    have O26 := Hold.nm (C24 Q19 (vfs_cons (rR_vf (aE_vf (fun _ _ _ _ h => h))) vfs_nil))
    refine ⟨rfl, ?_⟩
    exact (ih _ _ e) _ _ _ _ _ _ _ _ (O26.pick [1]).nm hl25
  · exact (ih _ _ e) _ _ _ _ _ _ _ _ (O14.pick [0]).nm rfl
set_option maxRecDepth 100000 in
theorem slices_pdqsortOrdered_78_k.step_j1 (go : (p : slices_pdqsortOrdered_78_k.Pt) → Option ((List Int))) (ih : ∀ p r, go p = some r → slices_pdqsortOrdered_78_k.I p r) (a_0 : List Int) (x_1 : Int) (x_2 : Int) (x_3 : Int) (b_8 : Bool) (b_9 : Bool) (x_10 : Int) (x_11 : Int) (x_12 : Int) (r : (List Int)) (e : slices_pdqsortOrdered_78_k.body go (.j1 a_0 x_1 x_2 x_3 b_8 b_9 x_10 x_11 x_12) = some r) : slices_pdqsortOrdered_78_k.I (.j1 a_0 x_1 x_2 x_3 b_8 b_9 x_10 x_11 x_12) r := by
  unfold slices_pdqsortOrdered_78_k.body at e
  intro W h0 m0 h m A_0 n_0 c_0 O ne_0
  subst ne_0
  refine f78.j1_in ?_
  unfold f78.j1T
  refine split_any_e e (fun c2 e => ?_) (fun c2 e => ?_)
  · refine split_any_e e (fun c1 e => ?_) (fun c1 e => ?_)
    · exact (ih _ _ e) _ _ _ _ _ _ _ _ (O.pick [0]).nm rfl
    · exact (ih _ _ e) _ _ _ _ _ _ _ _ (O.pick [0]).nm rfl
  · exact (ih _ _ e) _ _ _ _ _ _ _ _ (O.pick [0]).nm rfl
set_option maxRecDepth 100000 in
theorem slices_pdqsortOrdered_78_k.step_j3 (go : (p : slices_pdqsortOrdered_78_k.Pt) → Option ((List Int))) (ih : ∀ p r, go p = some r → slices_pdqsortOrdered_78_k.I p r) (a_0 : List Int) (x_1 : Int) (x_2 : Int) (x_3 : Int) (b_8 : Bool) (b_9 : Bool) (x_10 : Int) (x_11 : Int) (b_68 : Bool) (r : (List Int)) (e : slices_pdqsortOrdered_78_k.body go (.j3 a_0 x_1 x_2 x_3 b_8 b_9 x_10 x_11 b_68) = some r) : slices_pdqsortOrdered_78_k.I (.j3 a_0 x_1 x_2 x_3 b_8 b_9 x_10 x_11 b_68) r := by
  unfold slices_pdqsortOrdered_78_k.body at e
  intro W h0 m0 h m A_0 n_0 c_0 O ne_0
  subst ne_0
  refine f78.j3_in ?_
  unfold f78.j3T
  refine split_any_e e (fun c14 e => ?_) (fun c14 e => ?_)
  · obtain ⟨y1, g2, e⟩ := bind_e e
    obtain ⟨W7, P8, B9, C10⟩ := O.callC [0]
    refine (slices_partialInsertionSortOrdered_126.walk P8 rfl g2).mono ?_
    rintro _ h3 ⟨m4, Q5, rfl, hl11⟩
    have O12 := Hold.nm (C10 Q5 (vfs_cons (rR_vf (aE_vf (fun _ _ _ _ h => h))) vfs_nil))
    refine ⟨_, rfl, ?_⟩
    refine split_any_e e (fun c13 e => ?_) (fun c13 e => ?_)
    · cases e
      exact ⟨_, O12.pick [1], rfl, hl11⟩
    · exact (ih _ _ e) _ _ _ _ _ _ _ _ (O12.pick [1]).nm hl11
  · exact (ih _ _ e) _ _ _ _ _ _ _ _ (O.pick [0]).nm rfl
set_option maxRecDepth 100000 in
theorem slices_pdqsortOrdered_78_k.step_j2 (go : (p : slices_pdqsortOrdered_78_k.Pt) → Option ((List Int))) (ih : ∀ p r, go p = some r → slices_pdqsortOrdered_78_k.I p r) (a_0 : List Int) (x_1 : Int) (x_2 : Int) (x_3 : Int) (b_8 : Bool) (b_9 : Bool) (x_10 : Int) (x_11 : Int) (r : (List Int)) (e : slices_pdqsortOrdered_78_k.body go (.j2 a_0 x_1 x_2 x_3 b_8 b_9 x_10 x_11) = some r) : slices_pdqsortOrdered_78_k.I (.j2 a_0 x_1 x_2 x_3 b_8 b_9 x_10 x_11) r := by
  unfold slices_pdqsortOrdered_78_k.body at e
  intro W h0 m0 h m A_0 n_0 c_0 O ne_0
  subst ne_0
  refine f78.j2_in ?_
  unfold f78.j2T
  refine split_dec_e e (fun c22 e => ?_) (fun c22 e => ?_)
  · obtain ⟨y1, g2, e⟩ := bind_e e
    refine (O.os 0 rfl).addr rfl g2 fun a3 cs4 ha5 hc6 he7 => ?_
    obtain rfl : cs4 = [(Value.int .i64 y1)] := he7
    obtain ⟨y8, g9, e⟩ := bind_e e
    refine (O.os 0 rfl).addr rfl g9 fun a10 cs11 ha12 hc13 he14 => ?_
    obtain rfl : cs11 = [(Value.int .i64 y8)] := he14
    refine ⟨_, ld0 (Sub.refl _) hc6 rfl, _, rfl, ?_⟩
    refine ⟨_, ld0 (Sub.refl _) hc13 rfl, _, rfl, ?_⟩
    obtain ⟨y15, g16, e⟩ := bind_e e
    refine (cmp_Less_127.walk (Hold.start (W := No) O.s)  g16).mono ?_
    rintro _ h17 ⟨m18, Q19, rfl⟩
    have O21 := Hold.nm (O.retC Q19 vfs_nil)
    refine ⟨_, rfl, ?_⟩
    exact (ih _ _ e) _ _ _ _ _ _ _ _ (O21.pick [0]).nm rfl
  · exact (ih _ _ e) _ _ _ _ _ _ _ _ (O.pick [0]).nm rfl
set_option maxRecDepth 100000 in
theorem slices_pdqsortOrdered_78_k.step_j5 (go : (p : slices_pdqsortOrdered_78_k.Pt) → Option ((List Int))) (ih : ∀ p r, go p = some r → slices_pdqsortOrdered_78_k.I p r) (a_0 : List Int) (x_1 : Int) (x_2 : Int) (x_3 : Int) (b_8 : Bool) (b_9 : Bool) (x_10 : Int) (x_11 : Int) (b_87 : Bool) (r : (List Int)) (e : slices_pdqsortOrdered_78_k.body go (.j5 a_0 x_1 x_2 x_3 b_8 b_9 x_10 x_11 b_87) = some r) : slices_pdqsortOrdered_78_k.I (.j5 a_0 x_1 x_2 x_3 b_8 b_9 x_10 x_11 b_87) r := by
  unfold slices_pdqsortOrdered_78_k.body at e
  intro W h0 m0 h m A_0 n_0 c_0 O ne_0
  subst ne_0
  refine f78.j5_in ?_
  unfold f78.j5T
  refine split_any_e e (fun c13 e => ?_) (fun c13 e => ?_)
  · obtain ⟨y1, g2, e⟩ := bind_e e
    obtain ⟨W7, P8, B9, C10⟩ := O.callC [0]
    refine (slices_partitionEqualOrdered_128.walk P8 rfl g2).mono ?_
    rintro _ h3 ⟨m4, Q5, rfl, hl11⟩
    have O12 := Hold.nm (C10 Q5 (vfs_cons (rR_vf (aE_vf (fun _ _ _ _ h => h))) vfs_nil))
    refine ⟨_, rfl, ?_⟩
    exact (ih _ _ e) _ _ _ _ _ _ _ _ (O12.pick [1]).nm hl11
  · exact (ih _ _ e) _ _ _ _ _ _ _ _ (O.pick [0]).nm rfl
set_option maxRecDepth 100000 in
theorem slices_pdqsortOrdered_78_k.step_j4 (go : (p : slices_pdqsortOrdered_78_k.Pt) → Option ((List Int))) (ih : ∀ p r, go p = some r → slices_pdqsortOrdered_78_k.I p r) (a_0 : List Int) (x_1 : Int) (x_2 : Int) (x_3 : Int) (x_10 : Int) (x_11 : Int) (r : (List Int)) (e : slices_pdqsortOrdered_78_k.body go (.j4 a_0 x_1 x_2 x_3 x_10 x_11) = some r) : slices_pdqsortOrdered_78_k.I (.j4 a_0 x_1 x_2 x_3 x_10 x_11) r := by
  unfold slices_pdqsortOrdered_78_k.body at e
  intro W h0 m0 h m A_0 n_0 c_0 O ne_0
  subst ne_0
  refine f78.j4_in ?_
  unfold f78.j4T
  obtain ⟨y1, g2, e⟩ := bind_e e
  obtain ⟨W7, P8, B9, C10⟩ := O.callC [0]
  refine (slices_partitionOrdered_129.walk P8 rfl g2).mono ?_
  rintro _ h3 ⟨m4, Q5, rfl, hl11⟩
  have O12 := Hold.nm (C10 Q5 (vfs_cons (rR_vf (aE_vf (fun _ _ _ _ h => h))) vfs_nil))
  refine ⟨_, _, rfl, ?_⟩
  refine ⟨by decide, ?_⟩
  refine split_dec_e e (fun c37 e => ?_) (fun c37 e => ?_)
  · obtain ⟨y13, g14, e⟩ := bind_e e
    obtain ⟨W19, P20, B21, C22⟩ := O12.callC [1]
    refine ((ih _ _ g14) _ _ _ _ _ _ P20 hl11).mono ?_
    rintro _ h15 ⟨m16, Q17, rfl, hl23⟩
    have O24 := Hold.nm (C22 Q17 (vfs_cons (rR_vf (aE_vf (fun _ _ _ _ h => h))) vfs_nil))
    refine ⟨rfl, ?_⟩
    exact (ih _ _ e) _ _ _ _ _ _ _ _ (O24.pick [2]).nm hl23
  · obtain ⟨y25, g26, e⟩ := bind_e e
    obtain ⟨W31, P32, B33, C34⟩ := O12.callC [1]
    refine ((ih _ _ g26) _ _ _ _ _ _ P32 hl11).mono ?_
    rintro _ h27 ⟨m28, Q29, rfl, hl35⟩
    have O36 := Hold.nm (C34 Q29 (vfs_cons (rR_vf (aE_vf (fun _ _ _ _ h => h))) vfs_nil))
    refine ⟨rfl, ?_⟩
    exact (ih _ _ e) _ _ _ _ _ _ _ _ (O36.pick [2]).nm hl35
theorem slices_pdqsortOrdered_78_k.all {p : slices_pdqsortOrdered_78_k.Pt} {r : ((List Int))} (e : slices_pdqsortOrdered_78_k.go p = some r) : slices_pdqsortOrdered_78_k.I p r := fixF_ind (β := fun _ => ((List Int))) slices_pdqsortOrdered_78_k.mono (I := slices_pdqsortOrdered_78_k.I) (fun go ih p r e => match p with
  | .f a_0 x_1 x_2 x_3 => slices_pdqsortOrdered_78_k.step_f go ih a_0 x_1 x_2 x_3 r e
  | .l0 a_0 x_1 x_2 x_3 b_8 b_9 => slices_pdqsortOrdered_78_k.step_l0 go ih a_0 x_1 x_2 x_3 b_8 b_9 r e
  | .j0 a_0 x_1 x_2 x_3 b_8 b_9 x_10 => slices_pdqsortOrdered_78_k.step_j0 go ih a_0 x_1 x_2 x_3 b_8 b_9 x_10 r e
  | .j1 a_0 x_1 x_2 x_3 b_8 b_9 x_10 x_11 x_12 => slices_pdqsortOrdered_78_k.step_j1 go ih a_0 x_1 x_2 x_3 b_8 b_9 x_10 x_11 x_12 r e
  | .j3 a_0 x_1 x_2 x_3 b_8 b_9 x_10 x_11 b_68 => slices_pdqsortOrdered_78_k.step_j3 go ih a_0 x_1 x_2 x_3 b_8 b_9 x_10 x_11 b_68 r e
  | .j2 a_0 x_1 x_2 x_3 b_8 b_9 x_10 x_11 => slices_pdqsortOrdered_78_k.step_j2 go ih a_0 x_1 x_2 x_3 b_8 b_9 x_10 x_11 r e
  | .j5 a_0 x_1 x_2 x_3 b_8 b_9 x_10 x_11 b_87 => slices_pdqsortOrdered_78_k.step_j5 go ih a_0 x_1 x_2 x_3 b_8 b_9 x_10 x_11 b_87 r e
  | .j4 a_0 x_1 x_2 x_3 x_10 x_11 => slices_pdqsortOrdered_78_k.step_j4 go ih a_0 x_1 x_2 x_3 x_10 x_11 r e
  ) e
theorem slices_pdqsortOrdered_78.walk {W : Nat → Prop} {h m : Heap} {A_0 : Option Addr} {n_0 c_0 : Nat} {a_0 : List Int} {x_1 : Int} {x_2 : Int} {x_3 : Int} (O : Hold W h m h m [rR (aE (tell_int .i64)) A_0 c_0 a_0]) (ne_0 : n_0 = List.length a_0) {r : (List Int)} (e : slices_pdqsortOrdered_78 a_0 x_1 x_2 x_3 = some r) : Run Try.prog 78 #[Value.slice A_0 n_0 c_0, Value.int .i64 x_1, Value.int .i64 x_2, Value.int .i64 x_3] h (slices_pdqsortOrdered_78.post W A_0 n_0 c_0 h m r) := slices_pdqsortOrdered_78_k.all (p := .f a_0 x_1 x_2 x_3) e W h m A_0 n_0 c_0 O ne_0
def slices_Sort_14.post (W : Nat → Prop) (Asl0 : Option Addr) (nsl0 csl0 : Nat) (h0 m0 : Heap) (r : (List Int)) (v : Value) (h : Heap) : Prop := ∃ m , Hold W h0 m0 h m [rR (aE (tell_int .i64)) Asl0 csl0 r] ∧ v = .tuple #[] ∧ nsl0 = List.length r
noncomputable def slices_Sort_14 (a_0 : List Int) : Option ((List Int)) :=
  Option.bind (math_bits_Len (IntKind.wrap .u64 (((List.length a_0) : Nat) : Int))) fun y1 => Option.bind (slices_pdqsortOrdered_78 a_0 (0 : Int) (((List.length a_0) : Nat) : Int) y1) fun y8 => some (y8)
set_option maxRecDepth 100000 in
theorem slices_Sort_14.walk {W : Nat → Prop} {h m : Heap} {A_0 : Option Addr} {n_0 c_0 : Nat} {a_0 : List Int} (O : Hold W h m h m [rR (aE (tell_int .i64)) A_0 c_0 a_0]) (ne_0 : n_0 = List.length a_0) {r : (List Int)} (e : slices_Sort_14 a_0 = some r) : Run Try.prog 14 #[Value.slice A_0 n_0 c_0] h (slices_Sort_14.post W A_0 n_0 c_0 h m r) := by
  unfold slices_Sort_14 at e
  subst ne_0
  refine f14.run ?_
  unfold f14.runT
  obtain ⟨y1, g2, e⟩ := bind_e e
  refine (math_bits_Len.walk (Hold.start (W := No) O.s)  g2).mono ?_
  rintro _ h3 ⟨m4, Q5, rfl⟩
  have O7 := Hold.nm (O.retC Q5 vfs_nil)
  refine ⟨_, rfl, ?_⟩
  obtain ⟨y8, g9, e⟩ := bind_e e
  obtain ⟨W14, P15, B16, C17⟩ := O7.callC [0]
  refine (slices_pdqsortOrdered_78.walk P15 rfl g9).mono ?_
  rintro _ h10 ⟨m11, Q12, rfl, hl18⟩
  have O19 := Hold.nm (C17 Q12 (vfs_cons (rR_vf (aE_vf (fun _ _ _ _ h => h))) vfs_nil))
  refine ⟨rfl, ?_⟩
  cases e
  exact ⟨_, O19.pick [1], rfl, hl18⟩
theorem slices_Sort_14.val (l : List Int) (hn : l.length ≤ 1000000000000000000) : ∃ r, slices_Sort_14 l = some r ∧ r.Perm l ∧ r.Pairwise (· ≤ ·) := by
  have hl : ∀ x y : Int, cmp_Less_127 x y = some (decide (x < y)) := fun x y => by unfold cmp_Less_127 cmp_isNaN_160; rw [Option.bind_some, if_neg (by simp)]
  have hlen : ∀ x : Nat, x < 18446744073709551616 → ∃ k : Nat, math_bits_Len (x : Int) = some (k : Int) ∧ k ≤ 64 ∧ (1 ≤ x → 2 ^ k ≤ 2 * x) := by
    intro x hx
    obtain ⟨k, k1, k2⟩ := len_val (F := math_bits_Len64) (j0 := math_bits_Len64.j0) (j1 := math_bits_Len64.j1) (j2 := math_bits_Len64.j2) (fun x => rfl) (fun x n => rfl) (fun x n => rfl) (fun x n => rfl) x hx
    exact ⟨k, by unfold math_bits_Len; rw [k1, Option.bind_some], k2⟩
  have hu : ∀ x : Nat, x ≤ 1000000000000000000 → IntKind.wrap .u64 (x : Int) = x := fun x h => u64_in' (by omega) (by omega)
  have P := pdq_val (lt := fun x y : Int => decide (x < y)) ord3_int hl (f := slices_pdqsortOrdered_78) (l0 := slices_pdqsortOrdered_78.l0) (j0 := slices_pdqsortOrdered_78.j0) (j1 := slices_pdqsortOrdered_78.j1) (j2 := slices_pdqsortOrdered_78.j2) (j3 := slices_pdqsortOrdered_78.j3) (j4 := slices_pdqsortOrdered_78.j4) (j5 := slices_pdqsortOrdered_78.j5)
    (ins := slices_insertionSortOrdered_121) (heap := slices_heapSortOrdered_122) (brk := slices_breakPatternsOrdered_123) (rev := slices_reverseRangeOrdered_125) (cho := slices_choosePivotOrdered_124) (pi := slices_partialInsertionSortOrdered_126) (pe := slices_partitionEqualOrdered_128) (pt := slices_partitionOrdered_129)
    (fun {a b l} h1 h2 h3 => by
      unfold slices_insertionSortOrdered_121
      by_cases c : a = b
      · subst c
        exact ⟨l, .refl, fun i j _ _ k1 k2 k3 => by omega, by rw [w_succ (by omega), slices_insertionSortOrdered_121.l0_eq, if_neg (by omega)]⟩
      · rw [w_succ (by omega)]
        exact insertion_val ord3_int hl (f0 := slices_insertionSortOrdered_121.l0) (f1 := slices_insertionSortOrdered_121.l1) (fun l a b i => slices_insertionSortOrdered_121.l0_eq l a b i) (fun l a b i j => by rw [slices_insertionSortOrdered_121.l1_eq]; simp only [slices_insertionSortOrdered_121.j1_eq, slices_insertionSortOrdered_121.j0_eq]) (b - (a + 1)) (a + 1) l (by omega) (by omega) h1 (by omega) (fun i j _ _ k1 k2 k3 => by omega))
    (fun {a b l} h1 h2 h3 => heapSort_val ord3_int hl (f := slices_siftDownOrdered_155.l0) (J1 := slices_siftDownOrdered_155.j1) (J0 := slices_siftDownOrdered_155.j0) (fun l hi a x => slices_siftDownOrdered_155.l0_eq l hi a x) (fun l hi a x c b => slices_siftDownOrdered_155.j1_eq l hi a x c b) (fun l hi a x c => slices_siftDownOrdered_155.j0_eq l hi a x c) (G := slices_siftDownOrdered_155) (H := slices_heapSortOrdered_122) (f0 := slices_heapSortOrdered_122.l0) (f1 := slices_heapSortOrdered_122.l1) (fun l lo hi a => rfl) (fun l a lo hi i => slices_heapSortOrdered_122.l0_eq l a lo hi i) (fun l a lo i => slices_heapSortOrdered_122.l1_eq l a lo i) (fun l a b => rfl) h1 h2 h3)
    (fun {a b l} h1 h2 h3 => by
      obtain ⟨n, rfl⟩ : ∃ n, b = a + n := ⟨b - a, by omega⟩
      unfold slices_breakPatternsOrdered_123
      have w1 : IntKind.wrap .i64 (((a + n : Nat) : Int) - (a : Int)) = (n : Int) := by rw [wrap_in (by omega) (by omega)]; omega
      have w2 : Int.tdiv (n : Int) 4 = ((n / 4 : Nat) : Int) := by rw [Int.tdiv_eq_ediv_of_nonneg (by omega)]; omega
      rw [w1, if_pos (by omega)]
      unfold slices_nextPowerOfTwo
      obtain ⟨k, k1, k2, k3⟩ := hlen n (by omega)
      have k4 := k3 (by omega)
      rw [hu n (by omega), k1, Option.bind_some, if_pos (by omega), Option.bind_some, shl_one (by omega), w2, wrap_in (n := ((n / 4 : Nat) : Int)) (by omega) (by omega), wrap_in (n := ((n / 4 : Nat) : Int) * 2) (by omega) (by omega), wrap_in (n := (a : Int) + ((n / 4 : Nat) : Int) * 2) (by omega) (by omega), wrap_in (by omega) (by omega), show (a : Int) + ((n / 4 : Nat) : Int) * 2 - 1 = ((a + n / 4 * 2 - 1 : Nat) : Int) by omega]
      exact brk_val (F := slices_breakPatternsOrdered_123.l0) (J := slices_breakPatternsOrdered_123.j1) (nx := slices_xorshift_Next) (fun y => ⟨_, rfl⟩) (fun l a n y m i => slices_breakPatternsOrdered_123.l0_eq l a n y m i) (fun l a n y m i o => by rw [slices_breakPatternsOrdered_123.j1_eq]; simp only [slices_breakPatternsOrdered_123.j0_eq]) (Nat.one_le_two_pow) k4 (by omega) 3 (a + n / 4 * 2 - 1) l _ (by omega) (by omega) (by omega) (by omega))
    (fun {a b l} h1 h2 h3 => by
      unfold slices_reverseRangeOrdered_125
      rw [wrap_in (by omega) (by omega), show (b : Int) - 1 = ((b - 1 : Nat) : Int) by omega]
      exact rev_val (f := slices_reverseRangeOrdered_125.l0) (fun l x y => slices_reverseRangeOrdered_125.l0_eq l x y) b a (b - 1) l (by omega) (Nat.le_refl _) (by omega) h2 h3)
    (fun {a b l} h1 h2 h3 => choose_val hl (o := slices_order2Ordered_184) (fun l x1 x2 y3 => rfl) (md := slices_medianOrdered_159) (fun l x1 x2 x3 y4 => rfl) (ma := slices_medianAdjacentOrdered_158) (fun l x y => rfl) (j0 := slices_choosePivotOrdered_124.j0) (fun y x => rfl) (j1 := slices_choosePivotOrdered_124.j1) (fun l y x1 x2 x3 => rfl) (ch := slices_choosePivotOrdered_124) (fun l a b => rfl) h1 h2 h3)
    (fun {a b l} h1 h2 h3 h4 => pins_val ord3_int hl (l0 := slices_partialInsertionSortOrdered_126.l0) (l1 := slices_partialInsertionSortOrdered_126.l1) (l2 := slices_partialInsertionSortOrdered_126.l2) (l3 := slices_partialInsertionSortOrdered_126.l3) (j0 := slices_partialInsertionSortOrdered_126.j0) (j1 := slices_partialInsertionSortOrdered_126.j1) (j2 := slices_partialInsertionSortOrdered_126.j2) (j3 := slices_partialInsertionSortOrdered_126.j3) (P := slices_partialInsertionSortOrdered_126)
      (fun l a b i s => slices_partialInsertionSortOrdered_126.l0_eq l a b i s) (fun l a b i s => slices_partialInsertionSortOrdered_126.l1_eq l a b i s) (fun l a b i s => slices_partialInsertionSortOrdered_126.j2_eq l a b i s) (fun l a b i s => slices_partialInsertionSortOrdered_126.j1_eq l a b i s) (fun l a b i s j => slices_partialInsertionSortOrdered_126.l2_eq l a b i s j) (fun l a b i s => slices_partialInsertionSortOrdered_126.j3_eq l a b i s) (fun l a b i s j => slices_partialInsertionSortOrdered_126.l3_eq l a b i s j) (fun l a b i s => slices_partialInsertionSortOrdered_126.j0_eq l a b i s) (fun l a b => rfl) h1 h2 h3 h4)
    (fun {a b p l} h1 h2 h3 h4 => parte_val ord3_int hl (l0 := slices_partitionEqualOrdered_128.l0) (l1 := slices_partitionEqualOrdered_128.l1) (l2 := slices_partitionEqualOrdered_128.l2) (j0 := slices_partitionEqualOrdered_128.j0) (j1 := slices_partitionEqualOrdered_128.j1) (j2 := slices_partitionEqualOrdered_128.j2) (j3 := slices_partitionEqualOrdered_128.j3) (P := slices_partitionEqualOrdered_128)
      (fun l a b p => rfl) (fun l a i j => slices_partitionEqualOrdered_128.l0_eq l a i j) (fun l a i j => slices_partitionEqualOrdered_128.l1_eq l a i j) (fun l a i j => slices_partitionEqualOrdered_128.j2_eq l a i j) (fun l a i j => slices_partitionEqualOrdered_128.j0_eq l a i j) (fun l a i j => slices_partitionEqualOrdered_128.l2_eq l a i j) (fun l a i j => slices_partitionEqualOrdered_128.j3_eq l a i j) (fun l a i j => slices_partitionEqualOrdered_128.j1_eq l a i j) h1 h2 h3 h4)
    (fun {a b p l} h1 h2 h3 h4 => part_val ord3_int hl (k0 := slices_partitionOrdered_129.l0) (kj2 := slices_partitionOrdered_129.j2) (kj0 := slices_partitionOrdered_129.j0) (k1 := slices_partitionOrdered_129.l1) (kj3 := slices_partitionOrdered_129.j3) (J1 := slices_partitionOrdered_129.j1) (l2 := slices_partitionOrdered_129.l2) (l3 := slices_partitionOrdered_129.l3) (j7 := slices_partitionOrdered_129.j7) (j5 := slices_partitionOrdered_129.j5) (l4 := slices_partitionOrdered_129.l4) (j8 := slices_partitionOrdered_129.j8) (j6 := slices_partitionOrdered_129.j6) (j4 := slices_partitionOrdered_129.j4) (P := slices_partitionOrdered_129)
      (fun l a b p => rfl) (fun l a i j => slices_partitionOrdered_129.l0_eq l a i j) (fun l a i j => slices_partitionOrdered_129.j2_eq l a i j) (fun l a i j => rfl) (fun l a i j => slices_partitionOrdered_129.l1_eq l a i j) (fun l a i j => slices_partitionOrdered_129.j3_eq l a i j) (fun l a i j => rfl) (fun l a i j => slices_partitionOrdered_129.l2_eq l a i j) (fun l a i j => slices_partitionOrdered_129.l3_eq l a i j) (fun l a i j => slices_partitionOrdered_129.j7_eq l a i j) (fun l a i j => slices_partitionOrdered_129.j5_eq l a i j) (fun l a i j => slices_partitionOrdered_129.l4_eq l a i j) (fun l a i j => slices_partitionOrdered_129.j8_eq l a i j) (fun l a i j => slices_partitionOrdered_129.j6_eq l a i j) (fun l a j => rfl) h1 h2 h3 h4)
    (fun l a b lim => slices_pdqsortOrdered_78_eq l a b lim) (fun l a b lim b8 b9 => slices_pdqsortOrdered_78.l0_eq l a b lim b8 b9) (fun l a b lim b8 b9 n => slices_pdqsortOrdered_78.j0_eq l a b lim b8 b9 n) (fun l a b lim b8 b9 n p h => slices_pdqsortOrdered_78.j1_eq l a b lim b8 b9 n p h) (fun l a b lim b8 b9 n p c => slices_pdqsortOrdered_78.j3_eq l a b lim b8 b9 n p c) (fun l a b lim b8 b9 n p => slices_pdqsortOrdered_78.j2_eq l a b lim b8 b9 n p) (fun l a b lim b8 b9 n p c => slices_pdqsortOrdered_78.j5_eq l a b lim b8 b9 n p c) (fun l a b lim n p => slices_pdqsortOrdered_78.j4_eq l a b lim n p)
  obtain ⟨k, k1, _⟩ := hlen l.length (by omega)
  obtain ⟨r, t1, t2, t3⟩ := P l.length 0 l.length l (k : Int) true true (by omega) (by omega) (Nat.le_refl _) hn (fun i h0 hi h => by omega)
  refine ⟨r, ?_, t1.1, Srt.all (by rw [t1.len]; exact t2)⟩
  unfold slices_Sort_14
  rw [hu _ hn, k1, Option.bind_some, slices_pdqsortOrdered_78_eq]
  rw [show (0 : Int) = ((0 : Nat) : Int) from rfl, t3, Option.bind_some]
def cycle_index.post (W : Nat → Prop) (h0 m0 : Heap) (r : (Option (List (Int × Int))) × Int) (v : Value) (h : Heap) : Prop := ∃ m p0, Sub m0 m ∧ Sub m h ∧ v = .tuple #[.map p0, .int .i64 r.2] ∧ ((r.1 = none ∧ p0 = none ∧ Hold W h0 m0 h m []) ∨ ∃ z b , r.1 = some z ∧ p0 = some b ∧ Hold W h0 m0 h m [rM (monoV0 (tell_int .i64)) (fun n : Int => Value.int .i64 n) b z] ∧ True)
inductive cycle_index.l0_k.Pt where
  | l0 (es_4 : (List (Int × Int))) (a_13 : List T_api_Know) (x_14 : Int) (x_15 : Int)
noncomputable def cycle_index.l0_k.body (go : (p : cycle_index.l0_k.Pt) → Option ((Option (List (Int × Int))) × Int)) : (p : cycle_index.l0_k.Pt) → Option ((Option (List (Int × Int))) × Int)
  | .l0 es_4 a_13 x_14 x_15 => if x_15 < x_14 then (Option.bind (gi a_13 x_15) fun y1 => if (Option.isSome (pget es_4 y1.Ref)) = true then (some ((none : Option (List (Int × Int))), (5 : Int))) else (Option.bind (some (pset es_4 y1.Ref x_15)) fun l19 => (go (.l0 l19 a_13 x_14 (IntKind.wrap .i64 (x_15 + (1 : Int))))))) else (some (some es_4, (0 : Int)))
theorem cycle_index.l0_k.mono : MonoF (β := fun _ => ((Option (List (Int × Int))) × Int)) cycle_index.l0_k.body := fun f g hfg p => match p with
  | .l0 es_4 a_13 x_14 x_15 => LeO.ite (LeO.bind (LeO.refl _) fun y1 => LeO.ite (LeO.refl _) (LeO.bind (LeO.refl _) fun l19 => (hfg _))) (LeO.refl _)
noncomputable def cycle_index.l0_k.go (p : cycle_index.l0_k.Pt) : Option ((Option (List (Int × Int))) × Int) := fixF (β := fun _ => ((Option (List (Int × Int))) × Int)) cycle_index.l0_k.body p
noncomputable def cycle_index.l0 (es_4 : (List (Int × Int))) (a_13 : List T_api_Know) (x_14 : Int) (x_15 : Int) : Option ((Option (List (Int × Int))) × Int) := cycle_index.l0_k.go (.l0 es_4 a_13 x_14 x_15)
theorem cycle_index.l0_eq (es_4 : (List (Int × Int))) (a_13 : List T_api_Know) (x_14 : Int) (x_15 : Int) : cycle_index.l0 es_4 a_13 x_14 x_15 = if x_15 < x_14 then (Option.bind (gi a_13 x_15) fun y1 => if (Option.isSome (pget es_4 y1.Ref)) = true then (some ((none : Option (List (Int × Int))), (5 : Int))) else (Option.bind (some (pset es_4 y1.Ref x_15)) fun l19 => (cycle_index.l0 l19 a_13 x_14 (IntKind.wrap .i64 (x_15 + (1 : Int)))))) else (some (some es_4, (0 : Int))) := fixF_eq cycle_index.l0_k.mono _
def cycle_index.l0_k.I : (p : cycle_index.l0_k.Pt) → ((Option (List (Int × Int))) × Int) → Prop
  | .l0 es_4 a_13 x_14 x_15, r => ∀ (W : Nat → Prop) (h0 m0 h m : Heap) (bk_4 : Nat) (A_13 : Option Addr) (n_13 c_13 : Nat) (O : Hold W h0 m0 h m [rM (monoV0 (tell_int .i64)) (fun n : Int => Value.int .i64 n) bk_4 es_4]) (ne_13 : n_13 = List.length a_13) (k_13 : List.length a_13 ≤ c_13) (r_13 : Rd 4 T_api_Know.E m A_13 a_13), f76.l0 (cycle_index.post W h0 m0 r) (Value.map (some bk_4)) A_13 n_13 c_13 x_14 x_15 h
set_option maxRecDepth 100000 in
theorem cycle_index.l0_k.step_l0 (go : (p : cycle_index.l0_k.Pt) → Option ((Option (List (Int × Int))) × Int)) (ih : ∀ p r, go p = some r → cycle_index.l0_k.I p r) (es_4 : (List (Int × Int))) (a_13 : List T_api_Know) (x_14 : Int) (x_15 : Int) (r : (Option (List (Int × Int))) × Int) (e : cycle_index.l0_k.body go (.l0 es_4 a_13 x_14 x_15) = some r) : cycle_index.l0_k.I (.l0 es_4 a_13 x_14 x_15) r := by
  unfold cycle_index.l0_k.body at e
  intro W h0 m0 h m bk_4 A_13 n_13 c_13 O ne_13 k_13 r_13
  subst ne_13
  refine f76.l0_in ?_
  unfold f76.l0T
  refine split_dec_e e (fun c23 e => ?_) (fun c23 e => ?_)
  · obtain ⟨y1, g2, e⟩ := bind_e e
    refine r_13.addr rfl g2 fun a3 cs4 ha5 hc6 he7 => ?_
    refine ⟨_, ldAn O.s hc6 rfl, ?_⟩
    refine O.new fun h8 x9 O10 => ?_
    refine ⟨_, rfl, (T_api_Know.T.len _ _ _ he7), ?_⟩
    refine O10.stA 1 rfl (T_api_Know.T.len _ _ _ he7) (T_api_Know.T.flat _ _ _ he7) fun h12 O13 => ?_
    refine ⟨_, ld0 (Sub.refl _) (O13.all 1 rfl) (T_api_Know.g0 he7), _, rfl, ?_⟩
    refine (O13.om 0 rfl).look2 (zv := (0 : Int)) (z := (Value.int .i64 (0 : Int))) (keyOk_int (key := 3) (elem := 3) (by kernel_rfl) (by kernel_rfl)) y1.Ref (by kernel_rfl) rfl (fun v14 hv15 => ?_)
    obtain rfl : v14 = (Value.int .i64 (pgd es_4 y1.Ref (0 : Int))) := (List.cons.inj (show [v14] = [(Value.int .i64 (pgd es_4 y1.Ref (0 : Int)))] from hv15)).1
    refine ⟨_, _, rfl, ?_⟩
    refine split_any_e e (fun c22 e => ?_) (fun c22 e => ?_)
    · have O16 := O13.nm
      cases e
      exact ⟨_, _, O16.up, O16.s, rfl, .inl ⟨rfl, rfl, O16.pick []⟩⟩
    · refine ⟨_, ld0 (Sub.refl _) (O13.all 1 rfl) (T_api_Know.g0 he7), _, rfl, ?_⟩
      obtain ⟨l19, g20, e⟩ := bind_e e
      replace g20 := Option.some.inj g20
      refine O13.mapUpd (x := x_15) (v := (Value.int .i64 x_15)) 0 rfl (keyOk_int (key := 3) (elem := 3) (by kernel_rfl) (by kernel_rfl)) y1.Ref (show (eV0 (eInt .i64)) m x_15 (Value.int .i64 x_15) from rfl) g20 fun h17 O18 => ?_
      have O21 := O18.nm
      exact (ih _ _ e) _ _ _ _ _ _ _ _ _ (O21.pick [0]).nm rfl k_13 r_13
  · cases e
    exact ⟨_, _, O.up, O.s, rfl, .inr ⟨_, _, rfl, rfl, O.pick [0], trivial⟩⟩
theorem cycle_index.l0_k.all {p : cycle_index.l0_k.Pt} {r : ((Option (List (Int × Int))) × Int)} (e : cycle_index.l0_k.go p = some r) : cycle_index.l0_k.I p r := fixF_ind (β := fun _ => ((Option (List (Int × Int))) × Int)) cycle_index.l0_k.mono (I := cycle_index.l0_k.I) (fun go ih p r e => match p with
  | .l0 es_4 a_13 x_14 x_15 => cycle_index.l0_k.step_l0 go ih es_4 a_13 x_14 x_15 r e
  ) e
theorem cycle_index.l0.walk {W : Nat → Prop} {h0 m0 h m : Heap} {bk_4 : Nat} {A_13 : Option Addr} {n_13 c_13 : Nat} {es_4 : (List (Int × Int))} {a_13 : List T_api_Know} {x_14 : Int} {x_15 : Int} (O : Hold W h0 m0 h m [rM (monoV0 (tell_int .i64)) (fun n : Int => Value.int .i64 n) bk_4 es_4]) (ne_13 : n_13 = List.length a_13) (k_13 : List.length a_13 ≤ c_13) (r_13 : Rd 4 T_api_Know.E m A_13 a_13) {r : (Option (List (Int × Int))) × Int} (e : cycle_index.l0 es_4 a_13 x_14 x_15 = some r) : f76.l0 (cycle_index.post W h0 m0 r) (Value.map (some bk_4)) A_13 n_13 c_13 x_14 x_15 h := cycle_index.l0_k.all (p := .l0 es_4 a_13 x_14 x_15) e W h0 m0 h m bk_4 A_13 n_13 c_13 O ne_13 k_13 r_13
noncomputable def cycle_index (a_0 : List T_api_Know) : Option ((Option (List (Int × Int))) × Int) :=
  if (((List.length a_0) : Nat) : Int) > (480 : Int) then (some ((none : Option (List (Int × Int))), (2 : Int))) else ((cycle_index.l0 ([] : (List (Int × Int))) a_0 (((List.length a_0) : Nat) : Int) (0 : Int)))
set_option maxRecDepth 100000 in
theorem cycle_index.walk {W : Nat → Prop} {h m : Heap} {A_0 : Option Addr} {n_0 c_0 : Nat} {a_0 : List T_api_Know} (O : Hold W h m h m []) (ne_0 : n_0 = List.length a_0) (k_0 : List.length a_0 ≤ c_0) (r_0 : Rd 4 T_api_Know.E m A_0 a_0) {r : (Option (List (Int × Int))) × Int} (e : cycle_index a_0 = some r) : Run Try.prog 76 #[Value.slice A_0 n_0 c_0] h (cycle_index.post W h m r) := by
  unfold cycle_index at e
  subst ne_0
  refine f76.run ?_
  unfold f76.runT
  refine split_dec_e e (fun c6 e => ?_) (fun c6 e => ?_)
  · cases e
    exact ⟨_, _, O.up, O.s, rfl, .inl ⟨rfl, rfl, O.pick []⟩⟩
  · refine O.mkMap (ν := Int) (monoV0 (tell_int .i64)) (fun n : Int => Value.int .i64 n) fun h1 x2 O3 => ?_
    have O5 := O3.nm
    exact cycle_index.l0.walk (O5.pick [0]).nm rfl k_0 r_0 e
def slices_Clone_80.post (W : Nat → Prop) (h0 m0 : Heap) (r : (List Int)) (v : Value) (h : Heap) : Prop := ∃ m A0 n0 c0, Hold W h0 m0 h m [rR (aE (tell_int .i64)) A0 c0 r] ∧ v = .slice A0 n0 c0 ∧ n0 = List.length r
noncomputable def slices_Clone_80 (a0 : List Int) : Option (List Int) := ap 8 ([] : List Int) a0
set_option maxRecDepth 100000 in
theorem slices_Clone_80.walk {W : Nat → Prop} {h m : Heap} {A0 : Option Addr} {n0 c0 : Nat} {a0 : List Int} (O : Hold W h m h m []) (ne0 : n0 = List.length a0) (k0 : List.length a0 ≤ c0) (r0 : Rd 1 (eInt .i64) m A0 a0) {r : List Int} (e : slices_Clone_80 a0 = some r) : Run Try.prog 80 #[Value.slice A0 n0 c0] h (slices_Clone_80.post W h m r) := by
  unfold slices_Clone_80 at e
  subst ne0
  refine f80.run ?_
  unfold f80.runT
  cases A0 with
  | none =>
    refine split_t ?_
    obtain rfl := Rd.void r0
    obtain rfl : [] = r := by have := (ap_e e).2; simpa using this
    exact ⟨m, none, 0, 0, O.nil (aE (tell_int .i64)) none, rfl, rfl⟩
  | some a =>
    refine split_f ?_
    refine O.new fun h1 x1 O1 => ?_
    refine O1.appE0 (tell_int .i64) rfl rfl (r0.srcE (tell_int .i64) O1.s rfl) (by decide) e fun A4 c4 h4 x4 O4 => ?_
    refine ⟨_, _, _, rfl, ?_⟩
    exact ⟨m, _, _, _, O4.pick [1], rfl, rfl⟩
theorem slices_Clone_80.val (l : List Int) (h : l.length * 8 ≤ 140737488355328) : slices_Clone_80 l = some l := ap_nil h
def cycle_Node_mark.post (W : Nat → Prop) (bkio0 : Nat) (h0 m0 : Heap) (r : T_cycle_Node) (v : Value) (h : Heap) : Prop := ∃ m Aio0_0 nio0_0 cio0_0 bio0_1 bio0_2 Aio0_3 nio0_3 cio0_3, Hold W h0 m0 h m [rV bkio0 145 [(Value.slice Aio0_0 nio0_0 cio0_0), (Value.map (some bio0_1)), (Value.map (some bio0_2)), (Value.slice Aio0_3 nio0_3 cio0_3), (Value.int .i64 r.sent_), (Value.int .i64 r.took_)], rM (monoV0 (tell_int .i64)) (fun n : Int => Value.int .i64 n) bio0_1 r.at_, rM (monoV0 tell_bool) (fun n : Int => Value.int .i64 n) bio0_2 r.marked_, rR (aE (tell_int .i64)) Aio0_3 cio0_3 r.out_] ∧ v = .tuple #[] ∧ nio0_0 = List.length r.l_ ∧ List.length r.l_ ≤ cio0_0 ∧ Rd 4 T_api_Know.E m Aio0_0 r.l_ ∧ nio0_3 = List.length r.out_
inductive cycle_Node_mark.l0_k.Pt where
  | l0 (a_io0_0 : (List T_api_Know)) (a_io0_1 : (List (Int × Int))) (a_io0_2 : (List (Int × Bool))) (a_io0_3 : (List Int)) (x_io0_4 : Int) (x_io0_5 : Int) (a_4 : List Int)
noncomputable def cycle_Node_mark.l0_k.body (go : (p : cycle_Node_mark.l0_k.Pt) → Option (T_cycle_Node)) : (p : cycle_Node_mark.l0_k.Pt) → Option (T_cycle_Node)
  | .l0 a_io0_0 a_io0_1 a_io0_2 a_io0_3 x_io0_4 x_io0_5 a_4 => if (((List.length a_4) : Nat) : Int) > (0 : Int) then (Option.bind (gi a_4 (0 : Int)) fun y1 => Option.bind (sls a_4 (1 : Int) (((List.length a_4) : Nat) : Int)) fun l8 => if (pgd a_io0_2 y1 false) = true then ((go (.l0 a_io0_0 a_io0_1 a_io0_2 a_io0_3 x_io0_4 x_io0_5 l8))) else (Option.bind (some (pset a_io0_2 y1 true)) fun l20 => if (Option.isSome (pget a_io0_1 y1)) = true then (Option.bind (gi a_io0_0 (pgd a_io0_1 y1 (0 : Int))) fun y22 => Option.bind (ap 8 l8 y22.Refs) fun l36 => (go (.l0 a_io0_0 a_io0_1 l20 a_io0_3 x_io0_4 x_io0_5 l36))) else (Option.bind (ap 8 a_io0_3 ([y1] : List Int)) fun l49 => (go (.l0 a_io0_0 a_io0_1 l20 l49 (IntKind.wrap .i64 (x_io0_4 + (1 : Int))) x_io0_5 l8))))) else (some ((T_cycle_Node.mk a_io0_0 a_io0_1 a_io0_2 a_io0_3 x_io0_4 x_io0_5)))
theorem cycle_Node_mark.l0_k.mono : MonoF (β := fun _ => (T_cycle_Node)) cycle_Node_mark.l0_k.body := fun f g hfg p => match p with
  | .l0 a_io0_0 a_io0_1 a_io0_2 a_io0_3 x_io0_4 x_io0_5 a_4 => LeO.ite (LeO.bind (LeO.refl _) fun y1 => LeO.bind (LeO.refl _) fun l8 => LeO.ite ((hfg _)) (LeO.bind (LeO.refl _) fun l20 => LeO.ite (LeO.bind (LeO.refl _) fun y22 => LeO.bind (LeO.refl _) fun l36 => (hfg _)) (LeO.bind (LeO.refl _) fun l49 => (hfg _)))) (LeO.refl _)
noncomputable def cycle_Node_mark.l0_k.go (p : cycle_Node_mark.l0_k.Pt) : Option (T_cycle_Node) := fixF (β := fun _ => (T_cycle_Node)) cycle_Node_mark.l0_k.body p
noncomputable def cycle_Node_mark.l0 (a_io0_0 : (List T_api_Know)) (a_io0_1 : (List (Int × Int))) (a_io0_2 : (List (Int × Bool))) (a_io0_3 : (List Int)) (x_io0_4 : Int) (x_io0_5 : Int) (a_4 : List Int) : Option (T_cycle_Node) := cycle_Node_mark.l0_k.go (.l0 a_io0_0 a_io0_1 a_io0_2 a_io0_3 x_io0_4 x_io0_5 a_4)
theorem cycle_Node_mark.l0_eq (a_io0_0 : (List T_api_Know)) (a_io0_1 : (List (Int × Int))) (a_io0_2 : (List (Int × Bool))) (a_io0_3 : (List Int)) (x_io0_4 : Int) (x_io0_5 : Int) (a_4 : List Int) : cycle_Node_mark.l0 a_io0_0 a_io0_1 a_io0_2 a_io0_3 x_io0_4 x_io0_5 a_4 = if (((List.length a_4) : Nat) : Int) > (0 : Int) then (Option.bind (gi a_4 (0 : Int)) fun y1 => Option.bind (sls a_4 (1 : Int) (((List.length a_4) : Nat) : Int)) fun l8 => if (pgd a_io0_2 y1 false) = true then ((cycle_Node_mark.l0 a_io0_0 a_io0_1 a_io0_2 a_io0_3 x_io0_4 x_io0_5 l8)) else (Option.bind (some (pset a_io0_2 y1 true)) fun l20 => if (Option.isSome (pget a_io0_1 y1)) = true then (Option.bind (gi a_io0_0 (pgd a_io0_1 y1 (0 : Int))) fun y22 => Option.bind (ap 8 l8 y22.Refs) fun l36 => (cycle_Node_mark.l0 a_io0_0 a_io0_1 l20 a_io0_3 x_io0_4 x_io0_5 l36)) else (Option.bind (ap 8 a_io0_3 ([y1] : List Int)) fun l49 => (cycle_Node_mark.l0 a_io0_0 a_io0_1 l20 l49 (IntKind.wrap .i64 (x_io0_4 + (1 : Int))) x_io0_5 l8)))) else (some ((T_cycle_Node.mk a_io0_0 a_io0_1 a_io0_2 a_io0_3 x_io0_4 x_io0_5))) := fixF_eq cycle_Node_mark.l0_k.mono _
def cycle_Node_mark.l0_k.I : (p : cycle_Node_mark.l0_k.Pt) → (T_cycle_Node) → Prop
  | .l0 a_io0_0 a_io0_1 a_io0_2 a_io0_3 x_io0_4 x_io0_5 a_4, r => ∀ (W : Nat → Prop) (h0 m0 h m : Heap) (bk_io0 : Nat) (A_io0_0_0 : Option Addr) (n_io0_0_0 : Nat) (c_io0_0_0 : Nat) (b_io0_1_0 : Nat) (b_io0_2_0 : Nat) (A_io0_3_0 : Option Addr) (n_io0_3_0 : Nat) (c_io0_3_0 : Nat) (A_4 : Option Addr) (n_4 c_4 : Nat) (O : Hold W h0 m0 h m [rV bk_io0 145 [(Value.slice A_io0_0_0 n_io0_0_0 c_io0_0_0), (Value.map (some b_io0_1_0)), (Value.map (some b_io0_2_0)), (Value.slice A_io0_3_0 n_io0_3_0 c_io0_3_0), (Value.int .i64 x_io0_4), (Value.int .i64 x_io0_5)], rM (monoV0 (tell_int .i64)) (fun n : Int => Value.int .i64 n) b_io0_1_0 a_io0_1, rM (monoV0 tell_bool) (fun n : Int => Value.int .i64 n) b_io0_2_0 a_io0_2, rR (aE (tell_int .i64)) A_io0_3_0 c_io0_3_0 a_io0_3, rR (aE (tell_int .i64)) A_4 c_4 a_4]) (ne_io0_0_0 : n_io0_0_0 = List.length a_io0_0) (k_io0_0_0 : List.length a_io0_0 ≤ c_io0_0_0) (r_io0_0_0 : Rd 4 T_api_Know.E m A_io0_0_0 a_io0_0) (ne_io0_3_0 : n_io0_3_0 = List.length a_io0_3) (ne_4 : n_4 = List.length a_4), f81.l0 (cycle_Node_mark.post W bk_io0 h0 m0 r) (⟨bk_io0, 0, none⟩ : Addr) A_4 n_4 c_4 h
set_option maxHeartbeats 4000000 in
set_option maxRecDepth 100000 in
theorem cycle_Node_mark.l0_k.step_l0 (go : (p : cycle_Node_mark.l0_k.Pt) → Option (T_cycle_Node)) (ih : ∀ p r, go p = some r → cycle_Node_mark.l0_k.I p r) (a_io0_0 : (List T_api_Know)) (a_io0_1 : (List (Int × Int))) (a_io0_2 : (List (Int × Bool))) (a_io0_3 : (List Int)) (x_io0_4 : Int) (x_io0_5 : Int) (a_4 : List Int) (r : T_cycle_Node) (e : cycle_Node_mark.l0_k.body go (.l0 a_io0_0 a_io0_1 a_io0_2 a_io0_3 x_io0_4 x_io0_5 a_4) = some r) : cycle_Node_mark.l0_k.I (.l0 a_io0_0 a_io0_1 a_io0_2 a_io0_3 x_io0_4 x_io0_5 a_4) r := by
  unfold cycle_Node_mark.l0_k.body at e
  intro W h0 m0 h m bk_io0 A_io0_0_0 n_io0_0_0 c_io0_0_0 b_io0_1_0 b_io0_2_0 A_io0_3_0 n_io0_3_0 c_io0_3_0 A_4 n_4 c_4 O ne_io0_0_0 k_io0_0_0 r_io0_0_0 ne_io0_3_0 ne_4
  subst ne_io0_0_0
  subst ne_io0_3_0
  subst ne_4
  refine f81.l0_in ?_
  unfold f81.l0T
  refine split_dec_e e (fun c68 e => ?_) (fun c68 e => ?_)
  · obtain ⟨y1, g2, e⟩ := bind_e e
    refine (O.os 4 rfl).addr rfl g2 fun a3 cs4 ha5 hc6 he7 => ?_
    obtain rfl : cs4 = [(Value.int .i64 y1)] := he7
    refine ⟨_, ld0 (Sub.refl _) hc6 rfl, _, rfl, ?_⟩
    obtain ⟨l8, g9, e⟩ := bind_e e
    have q10 := sls_e g9
    refine ⟨q10.1, q10.2.1, cap_in q10.2.2.1 (O.cap 4 rfl), ?_⟩
    try rw [q10.2.2.2.1]
    refine ⟨_, ldk (k := 1) (Sub.refl _) (O.all 0 rfl) rfl, ?_⟩
    refine (O.om 1 rfl).look2 (zv := (0 : Int)) (z := (Value.int .i64 (0 : Int))) (keyOk_int (key := 3) (elem := 3) (by kernel_rfl) (by kernel_rfl)) y1 (by kernel_rfl) rfl (fun v11 hv12 => ?_)
    obtain rfl : v11 = (Value.int .i64 (pgd a_io0_1 y1 (0 : Int))) := (List.cons.inj (show [v11] = [(Value.int .i64 (pgd a_io0_1 y1 (0 : Int)))] from hv12)).1
    refine ⟨_, _, rfl, ?_⟩
    refine ⟨_, ldk (k := 2) (Sub.refl _) (O.all 0 rfl) rfl, ?_⟩
    refine (O.om 2 rfl).look (zv := false) (z := (Value.bool false)) (keyOk_int (key := 3) (elem := 4) (by kernel_rfl) (by kernel_rfl)) y1 (by kernel_rfl) rfl (fun v13 hv14 => ?_)
    obtain rfl : v13 = (Value.bool (pgd a_io0_2 y1 false)) := (List.cons.inj (show [v13] = [(Value.bool (pgd a_io0_2 y1 false))] from hv14)).1
    refine ⟨_, rfl, ?_⟩
    refine split_any_e e (fun c67 e => ?_) (fun c67 e => ?_)
    · have O15 := O.sls 4 rfl g9
      have O17 := O15.nm
      exact (ih _ _ e) _ _ _ _ _ _ _ _ _ _ _ _ _ _ _ _ _ (O17.pick [0, 1, 2, 3, 4]).nm rfl k_io0_0_0 r_io0_0_0 rfl rfl
    · refine ⟨_, ldk (k := 2) (Sub.refl _) (O.all 0 rfl) rfl, ?_⟩
      obtain ⟨l20, g21, e⟩ := bind_e e
      replace g21 := Option.some.inj g21
      refine O.mapUpd (x := true) (v := (Value.bool true)) 2 rfl (keyOk_int (key := 3) (elem := 4) (by kernel_rfl) (by kernel_rfl)) y1 (show (eV0 eBool) m true (Value.bool true) from rfl) g21 fun h18 O19 => ?_
      refine split_not ?_
      refine split_any_e e (fun c66 e => ?_) (fun c66 e => ?_)
      · refine ⟨_, ld0 (Sub.refl _) (O19.all 0 rfl) rfl, _, _, _, rfl, ?_⟩
        obtain ⟨y22, g23, e⟩ := bind_e e
        refine r_io0_0_0.addr rfl g23 fun a24 cs25 ha26 hc27 he28 => ?_
        obtain ⟨A29, c30, q31, k32, r33⟩ := T_api_Know.g3 he28
        refine ⟨_, ldk (k := 3) O19.s hc27 q31, _, _, _, rfl, ?_⟩
        obtain ⟨l36, g37, e⟩ := bind_e e
        have O34 := O19.sls 4 rfl g9
        refine O34.app 4 rfl rfl rfl (Rd.srcE r33 (tell_int .i64) O34.s rfl) (by decide) g37 fun A38 c39 h40 O41 => ?_
        refine ⟨_, _, _, rfl, ?_⟩
        have O44 := O41.nm
        exact (ih _ _ e) _ _ _ _ _ _ _ _ _ _ _ _ _ _ _ _ _ (O44.pick [0, 1, 2, 3, 4]).nm rfl k_io0_0_0 r_io0_0_0 rfl rfl
      · refine ⟨_, ldk (k := 3) (Sub.refl _) (O19.all 0 rfl) rfl, _, _, _, rfl, ?_⟩
        refine O19.new fun h45 x46 O47 => ?_
        obtain ⟨l49, g50, e⟩ := bind_e e
        have O57 := O47.rowE (l := ([y1] : List Int)) 5 rfl (tell_int .i64) (show CsE _ _ _ _ _ from (CsE.cons (c1 := [(Value.int .i64 y1)]) rfl rfl CsE.nil)) rfl
        refine O57.app 3 rfl rfl rfl ((O57.os 5 rfl).srcE rfl) (by decide) g50 fun A51 c52 h53 O54 => ?_
        refine ⟨_, _, _, rfl, ?_⟩
        refine O54.st 0 rfl 3 (Nat.le_of_ble_eq_true rfl) trivial fun h58 O59 => ?_
        have O60 := O59.nm
        refine ⟨_, ldk (k := 4) (Sub.refl _) (O60.all 0 rfl) rfl, _, rfl, ?_⟩
        refine O60.st 0 rfl 4 (Nat.le_of_ble_eq_true rfl) trivial fun h61 O62 => ?_
        have O63 := O62.sls 4 rfl g9
        have O65 := O63.nm
        exact (ih _ _ e) _ _ _ _ _ _ _ _ _ _ _ _ _ _ _ _ _ (O65.pick [0, 1, 2, 3, 4]).nm rfl k_io0_0_0 r_io0_0_0 rfl rfl
  · cases e
    exact ⟨_, _, _, _, _, _, _, _, _, O.pick [0, 1, 2, 3], rfl, rfl, k_io0_0_0, r_io0_0_0, rfl⟩
theorem cycle_Node_mark.l0_k.all {p : cycle_Node_mark.l0_k.Pt} {r : (T_cycle_Node)} (e : cycle_Node_mark.l0_k.go p = some r) : cycle_Node_mark.l0_k.I p r := fixF_ind (β := fun _ => (T_cycle_Node)) cycle_Node_mark.l0_k.mono (I := cycle_Node_mark.l0_k.I) (fun go ih p r e => match p with
  | .l0 a_io0_0 a_io0_1 a_io0_2 a_io0_3 x_io0_4 x_io0_5 a_4 => cycle_Node_mark.l0_k.step_l0 go ih a_io0_0 a_io0_1 a_io0_2 a_io0_3 x_io0_4 x_io0_5 a_4 r e
  ) e
theorem cycle_Node_mark.l0.walk {W : Nat → Prop} {h0 m0 h m : Heap} {bk_io0 : Nat} {A_io0_0_0 : Option Addr} {n_io0_0_0 : Nat} {c_io0_0_0 : Nat} {b_io0_1_0 : Nat} {b_io0_2_0 : Nat} {A_io0_3_0 : Option Addr} {n_io0_3_0 : Nat} {c_io0_3_0 : Nat} {A_4 : Option Addr} {n_4 c_4 : Nat} {a_io0_0 : (List T_api_Know)} {a_io0_1 : (List (Int × Int))} {a_io0_2 : (List (Int × Bool))} {a_io0_3 : (List Int)} {x_io0_4 : Int} {x_io0_5 : Int} {a_4 : List Int} (O : Hold W h0 m0 h m [rV bk_io0 145 [(Value.slice A_io0_0_0 n_io0_0_0 c_io0_0_0), (Value.map (some b_io0_1_0)), (Value.map (some b_io0_2_0)), (Value.slice A_io0_3_0 n_io0_3_0 c_io0_3_0), (Value.int .i64 x_io0_4), (Value.int .i64 x_io0_5)], rM (monoV0 (tell_int .i64)) (fun n : Int => Value.int .i64 n) b_io0_1_0 a_io0_1, rM (monoV0 tell_bool) (fun n : Int => Value.int .i64 n) b_io0_2_0 a_io0_2, rR (aE (tell_int .i64)) A_io0_3_0 c_io0_3_0 a_io0_3, rR (aE (tell_int .i64)) A_4 c_4 a_4]) (ne_io0_0_0 : n_io0_0_0 = List.length a_io0_0) (k_io0_0_0 : List.length a_io0_0 ≤ c_io0_0_0) (r_io0_0_0 : Rd 4 T_api_Know.E m A_io0_0_0 a_io0_0) (ne_io0_3_0 : n_io0_3_0 = List.length a_io0_3) (ne_4 : n_4 = List.length a_4) {r : T_cycle_Node} (e : cycle_Node_mark.l0 a_io0_0 a_io0_1 a_io0_2 a_io0_3 x_io0_4 x_io0_5 a_4 = some r) : f81.l0 (cycle_Node_mark.post W bk_io0 h0 m0 r) (⟨bk_io0, 0, none⟩ : Addr) A_4 n_4 c_4 h := cycle_Node_mark.l0_k.all (p := .l0 a_io0_0 a_io0_1 a_io0_2 a_io0_3 x_io0_4 x_io0_5 a_4) e W h0 m0 h m bk_io0 A_io0_0_0 n_io0_0_0 c_io0_0_0 b_io0_1_0 b_io0_2_0 A_io0_3_0 n_io0_3_0 c_io0_3_0 A_4 n_4 c_4 O ne_io0_0_0 k_io0_0_0 r_io0_0_0 ne_io0_3_0 ne_4
noncomputable def cycle_Node_mark (y_0 : T_cycle_Node) (x_1 : Int) : Option (T_cycle_Node) :=
  (cycle_Node_mark.l0 y_0.l_ y_0.at_ y_0.marked_ y_0.out_ y_0.sent_ y_0.took_ ([x_1] : List Int))
set_option maxRecDepth 100000 in
theorem cycle_Node_mark.walk {W : Nat → Prop} {h m : Heap} {bkio0 : Nat} {A_0_0 : Option Addr} {n_0_0 : Nat} {c_0_0 : Nat} {b_0_1 : Nat} {b_0_2 : Nat} {A_0_3 : Option Addr} {n_0_3 : Nat} {c_0_3 : Nat} {y_0 : T_cycle_Node} {x_1 : Int} (O : Hold W h m h m [rV bkio0 145 [(Value.slice A_0_0 n_0_0 c_0_0), (Value.map (some b_0_1)), (Value.map (some b_0_2)), (Value.slice A_0_3 n_0_3 c_0_3), (Value.int .i64 y_0.sent_), (Value.int .i64 y_0.took_)], rM (monoV0 (tell_int .i64)) (fun n : Int => Value.int .i64 n) b_0_1 y_0.at_, rM (monoV0 tell_bool) (fun n : Int => Value.int .i64 n) b_0_2 y_0.marked_, rR (aE (tell_int .i64)) A_0_3 c_0_3 y_0.out_]) (ne_0_0 : n_0_0 = List.length y_0.l_) (k_0_0 : List.length y_0.l_ ≤ c_0_0) (r_0_0 : Rd 4 T_api_Know.E m A_0_0 y_0.l_) (ne_0_3 : n_0_3 = List.length y_0.out_) {r : T_cycle_Node} (e : cycle_Node_mark y_0 x_1 = some r) : Run Try.prog 81 #[Value.pointer (some ⟨bkio0, 0, none⟩), Value.int .i64 x_1] h (cycle_Node_mark.post W bkio0 h m r) := by
  unfold cycle_Node_mark at e
  subst ne_0_0
  subst ne_0_3
  refine f81.run ?_
  unfold f81.runT
  refine O.new fun h1 x2 O3 => ?_
  have O5 := O3.rowE (l := ([x_1] : List Int)) 4 rfl (tell_int .i64) (show CsE _ _ _ _ _ from (CsE.cons (c1 := [(Value.int .i64 x_1)]) rfl rfl CsE.nil)) rfl
  have O6 := O5.nm
  exact cycle_Node_mark.l0.walk (O6.pick [0, 1, 2, 3, 4]).nm rfl k_0_0 r_0_0 rfl rfl e
def cycle_New.post (W : Nat → Prop) (h0 m0 : Heap) (r : (Option T_cycle_Node) × Int) (v : Value) (h : Heap) : Prop := ∃ m p0, Sub m0 m ∧ Sub m h ∧ v = .tuple #[.pointer p0, .int .i64 r.2] ∧ ((r.1 = none ∧ p0 = none ∧ Hold W h0 m0 h m []) ∨ ∃ z b Anp_0 nnp_0 cnp_0 bnp_1 bnp_2 Anp_3 nnp_3 cnp_3, r.1 = some z ∧ p0 = some ⟨b, 0, none⟩ ∧ Hold W h0 m0 h m [rV b 145 [(Value.slice Anp_0 nnp_0 cnp_0), (Value.map (some bnp_1)), (Value.map (some bnp_2)), (Value.slice Anp_3 nnp_3 cnp_3), (Value.int .i64 z.sent_), (Value.int .i64 z.took_)], rM (monoV0 (tell_int .i64)) (fun n : Int => Value.int .i64 n) bnp_1 z.at_, rM (monoV0 tell_bool) (fun n : Int => Value.int .i64 n) bnp_2 z.marked_, rR (aE (tell_int .i64)) Anp_3 cnp_3 z.out_] ∧ nnp_0 = List.length z.l_ ∧ List.length z.l_ ≤ cnp_0 ∧ Rd 4 T_api_Know.E m Anp_0 z.l_ ∧ nnp_3 = List.length z.out_)
inductive cycle_New.l1_k.Pt where
  | l1 (a_6_0 : (List T_api_Know)) (a_6_1 : (List (Int × Int))) (a_6_2 : (List (Int × Bool))) (a_6_3 : (List Int)) (x_6_4 : Int) (x_6_5 : Int) (a_44 : List T_api_Know) (x_45 : Int) (x_46 : Int)
  | j0 (a_6_0 : (List T_api_Know)) (a_6_1 : (List (Int × Int))) (a_6_2 : (List (Int × Bool))) (a_6_3 : (List Int)) (x_6_4 : Int) (x_6_5 : Int) (y_10 : T_api_Know) (a_44 : List T_api_Know) (x_45 : Int) (x_46 : Int) (b_55 : Bool)
noncomputable def cycle_New.l1_k.body (go : (p : cycle_New.l1_k.Pt) → Option ((Option T_cycle_Node) × Int)) : (p : cycle_New.l1_k.Pt) → Option ((Option T_cycle_Node) × Int)
  | .l1 a_6_0 a_6_1 a_6_2 a_6_3 x_6_4 x_6_5 a_44 x_45 x_46 => if x_46 < x_45 then (Option.bind (gi a_44 x_46) fun y1 => if y1.Root = true then ((go (.j0 a_6_0 a_6_1 a_6_2 a_6_3 x_6_4 x_6_5 y1 a_44 x_45 x_46 true))) else ((go (.j0 a_6_0 a_6_1 a_6_2 a_6_3 x_6_4 x_6_5 y1 a_44 x_45 x_46 y1.Awake)))) else (some (some (T_cycle_Node.mk a_6_0 a_6_1 a_6_2 a_6_3 x_6_4 x_6_5), (0 : Int)))
  | .j0 a_6_0 a_6_1 a_6_2 a_6_3 x_6_4 x_6_5 y_10 a_44 x_45 x_46 b_55 => if b_55 = true then (Option.bind (cycle_Node_mark (T_cycle_Node.mk a_6_0 a_6_1 a_6_2 a_6_3 x_6_4 x_6_5) y_10.Ref) fun y1 => (go (.l1 y1.l_ y1.at_ y1.marked_ y1.out_ y1.sent_ y1.took_ a_44 x_45 (IntKind.wrap .i64 (x_46 + (1 : Int)))))) else ((go (.l1 a_6_0 a_6_1 a_6_2 a_6_3 x_6_4 x_6_5 a_44 x_45 (IntKind.wrap .i64 (x_46 + (1 : Int))))))
theorem cycle_New.l1_k.mono : MonoF (β := fun _ => ((Option T_cycle_Node) × Int)) cycle_New.l1_k.body := fun f g hfg p => match p with
  | .l1 a_6_0 a_6_1 a_6_2 a_6_3 x_6_4 x_6_5 a_44 x_45 x_46 => LeO.ite (LeO.bind (LeO.refl _) fun y1 => LeO.ite ((hfg _)) ((hfg _))) (LeO.refl _)
  | .j0 a_6_0 a_6_1 a_6_2 a_6_3 x_6_4 x_6_5 y_10 a_44 x_45 x_46 b_55 => LeO.ite (LeO.bind (LeO.refl _) fun y1 => (hfg _)) ((hfg _))
noncomputable def cycle_New.l1_k.go (p : cycle_New.l1_k.Pt) : Option ((Option T_cycle_Node) × Int) := fixF (β := fun _ => ((Option T_cycle_Node) × Int)) cycle_New.l1_k.body p
noncomputable def cycle_New.l1 (a_6_0 : (List T_api_Know)) (a_6_1 : (List (Int × Int))) (a_6_2 : (List (Int × Bool))) (a_6_3 : (List Int)) (x_6_4 : Int) (x_6_5 : Int) (a_44 : List T_api_Know) (x_45 : Int) (x_46 : Int) : Option ((Option T_cycle_Node) × Int) := cycle_New.l1_k.go (.l1 a_6_0 a_6_1 a_6_2 a_6_3 x_6_4 x_6_5 a_44 x_45 x_46)
noncomputable def cycle_New.j0 (a_6_0 : (List T_api_Know)) (a_6_1 : (List (Int × Int))) (a_6_2 : (List (Int × Bool))) (a_6_3 : (List Int)) (x_6_4 : Int) (x_6_5 : Int) (y_10 : T_api_Know) (a_44 : List T_api_Know) (x_45 : Int) (x_46 : Int) (b_55 : Bool) : Option ((Option T_cycle_Node) × Int) := cycle_New.l1_k.go (.j0 a_6_0 a_6_1 a_6_2 a_6_3 x_6_4 x_6_5 y_10 a_44 x_45 x_46 b_55)
theorem cycle_New.l1_eq (a_6_0 : (List T_api_Know)) (a_6_1 : (List (Int × Int))) (a_6_2 : (List (Int × Bool))) (a_6_3 : (List Int)) (x_6_4 : Int) (x_6_5 : Int) (a_44 : List T_api_Know) (x_45 : Int) (x_46 : Int) : cycle_New.l1 a_6_0 a_6_1 a_6_2 a_6_3 x_6_4 x_6_5 a_44 x_45 x_46 = if x_46 < x_45 then (Option.bind (gi a_44 x_46) fun y1 => if y1.Root = true then ((cycle_New.j0 a_6_0 a_6_1 a_6_2 a_6_3 x_6_4 x_6_5 y1 a_44 x_45 x_46 true)) else ((cycle_New.j0 a_6_0 a_6_1 a_6_2 a_6_3 x_6_4 x_6_5 y1 a_44 x_45 x_46 y1.Awake))) else (some (some (T_cycle_Node.mk a_6_0 a_6_1 a_6_2 a_6_3 x_6_4 x_6_5), (0 : Int))) := fixF_eq cycle_New.l1_k.mono _
theorem cycle_New.j0_eq (a_6_0 : (List T_api_Know)) (a_6_1 : (List (Int × Int))) (a_6_2 : (List (Int × Bool))) (a_6_3 : (List Int)) (x_6_4 : Int) (x_6_5 : Int) (y_10 : T_api_Know) (a_44 : List T_api_Know) (x_45 : Int) (x_46 : Int) (b_55 : Bool) : cycle_New.j0 a_6_0 a_6_1 a_6_2 a_6_3 x_6_4 x_6_5 y_10 a_44 x_45 x_46 b_55 = if b_55 = true then (Option.bind (cycle_Node_mark (T_cycle_Node.mk a_6_0 a_6_1 a_6_2 a_6_3 x_6_4 x_6_5) y_10.Ref) fun y1 => (cycle_New.l1 y1.l_ y1.at_ y1.marked_ y1.out_ y1.sent_ y1.took_ a_44 x_45 (IntKind.wrap .i64 (x_46 + (1 : Int))))) else ((cycle_New.l1 a_6_0 a_6_1 a_6_2 a_6_3 x_6_4 x_6_5 a_44 x_45 (IntKind.wrap .i64 (x_46 + (1 : Int))))) := fixF_eq cycle_New.l1_k.mono _
def cycle_New.l1_k.I : (p : cycle_New.l1_k.Pt) → ((Option T_cycle_Node) × Int) → Prop
  | .l1 a_6_0 a_6_1 a_6_2 a_6_3 x_6_4 x_6_5 a_44 x_45 x_46, r => ∀ (W : Nat → Prop) (h0 m0 h m : Heap) (bk_6 : Nat) (A_6_0_0 : Option Addr) (n_6_0_0 : Nat) (c_6_0_0 : Nat) (b_6_1_0 : Nat) (b_6_2_0 : Nat) (A_6_3_0 : Option Addr) (n_6_3_0 : Nat) (c_6_3_0 : Nat) (A_44 : Option Addr) (n_44 c_44 : Nat) (O : Hold W h0 m0 h m [rV bk_6 145 [(Value.slice A_6_0_0 n_6_0_0 c_6_0_0), (Value.map (some b_6_1_0)), (Value.map (some b_6_2_0)), (Value.slice A_6_3_0 n_6_3_0 c_6_3_0), (Value.int .i64 x_6_4), (Value.int .i64 x_6_5)], rM (monoV0 (tell_int .i64)) (fun n : Int => Value.int .i64 n) b_6_1_0 a_6_1, rM (monoV0 tell_bool) (fun n : Int => Value.int .i64 n) b_6_2_0 a_6_2, rR (aE (tell_int .i64)) A_6_3_0 c_6_3_0 a_6_3]) (ne_6_0_0 : n_6_0_0 = List.length a_6_0) (k_6_0_0 : List.length a_6_0 ≤ c_6_0_0) (r_6_0_0 : Rd 4 T_api_Know.E m A_6_0_0 a_6_0) (ne_6_3_0 : n_6_3_0 = List.length a_6_3) (ne_44 : n_44 = List.length a_44) (k_44 : List.length a_44 ≤ c_44) (r_44 : Rd 4 T_api_Know.E m A_44 a_44), f17.l1 (cycle_New.post W h0 m0 r) (⟨bk_6, 0, none⟩ : Addr) A_44 n_44 c_44 x_45 x_46 h
  | .j0 a_6_0 a_6_1 a_6_2 a_6_3 x_6_4 x_6_5 y_10 a_44 x_45 x_46 b_55, r => ∀ (W : Nat → Prop) (h0 m0 h m : Heap) (bk_6 : Nat) (A_6_0_0 : Option Addr) (n_6_0_0 : Nat) (c_6_0_0 : Nat) (b_6_1_0 : Nat) (b_6_2_0 : Nat) (A_6_3_0 : Option Addr) (n_6_3_0 : Nat) (c_6_3_0 : Nat) (bk_10 : Nat) (cs_10 : List Value) (A_44 : Option Addr) (n_44 c_44 : Nat) (O : Hold W h0 m0 h m [rV bk_6 145 [(Value.slice A_6_0_0 n_6_0_0 c_6_0_0), (Value.map (some b_6_1_0)), (Value.map (some b_6_2_0)), (Value.slice A_6_3_0 n_6_3_0 c_6_3_0), (Value.int .i64 x_6_4), (Value.int .i64 x_6_5)], rM (monoV0 (tell_int .i64)) (fun n : Int => Value.int .i64 n) b_6_1_0 a_6_1, rM (monoV0 tell_bool) (fun n : Int => Value.int .i64 n) b_6_2_0 a_6_2, rR (aE (tell_int .i64)) A_6_3_0 c_6_3_0 a_6_3, rV bk_10 28 cs_10]) (ne_6_0_0 : n_6_0_0 = List.length a_6_0) (k_6_0_0 : List.length a_6_0 ≤ c_6_0_0) (r_6_0_0 : Rd 4 T_api_Know.E m A_6_0_0 a_6_0) (ne_6_3_0 : n_6_3_0 = List.length a_6_3) (e_10 : T_api_Know.E m y_10 cs_10) (ne_44 : n_44 = List.length a_44) (k_44 : List.length a_44 ≤ c_44) (r_44 : Rd 4 T_api_Know.E m A_44 a_44), f17.j0 (cycle_New.post W h0 m0 r) (⟨bk_6, 0, none⟩ : Addr) (⟨bk_10, 0, none⟩ : Addr) A_44 n_44 c_44 x_45 x_46 b_55 h
set_option maxRecDepth 100000 in
theorem cycle_New.l1_k.step_l1 (go : (p : cycle_New.l1_k.Pt) → Option ((Option T_cycle_Node) × Int)) (ih : ∀ p r, go p = some r → cycle_New.l1_k.I p r) (a_6_0 : (List T_api_Know)) (a_6_1 : (List (Int × Int))) (a_6_2 : (List (Int × Bool))) (a_6_3 : (List Int)) (x_6_4 : Int) (x_6_5 : Int) (a_44 : List T_api_Know) (x_45 : Int) (x_46 : Int) (r : (Option T_cycle_Node) × Int) (e : cycle_New.l1_k.body go (.l1 a_6_0 a_6_1 a_6_2 a_6_3 x_6_4 x_6_5 a_44 x_45 x_46) = some r) : cycle_New.l1_k.I (.l1 a_6_0 a_6_1 a_6_2 a_6_3 x_6_4 x_6_5 a_44 x_45 x_46) r := by
  unfold cycle_New.l1_k.body at e
  intro W h0 m0 h m bk_6 A_6_0_0 n_6_0_0 c_6_0_0 b_6_1_0 b_6_2_0 A_6_3_0 n_6_3_0 c_6_3_0 A_44 n_44 c_44 O ne_6_0_0 k_6_0_0 r_6_0_0 ne_6_3_0 ne_44 k_44 r_44
  subst ne_6_0_0
  subst ne_6_3_0
  subst ne_44
  refine f17.l1_in ?_
  unfold f17.l1T
  refine split_dec_e e (fun c17 e => ?_) (fun c17 e => ?_)
  · obtain ⟨y1, g2, e⟩ := bind_e e
    refine r_44.addr rfl g2 fun a3 cs4 ha5 hc6 he7 => ?_
    refine ⟨_, ldAn O.s hc6 rfl, ?_⟩
    refine O.new fun h8 x9 O10 => ?_
    refine ⟨_, rfl, (T_api_Know.T.len _ _ _ he7), ?_⟩
    refine O10.stA 4 rfl (T_api_Know.T.len _ _ _ he7) (T_api_Know.T.flat _ _ _ he7) fun h12 O13 => ?_
    refine ⟨_, ldk (k := 2) (Sub.refl _) (O13.all 4 rfl) (T_api_Know.g2 he7), _, rfl, ?_⟩
    refine split_any_e e (fun c16 e => ?_) (fun c16 e => ?_)
    · have O14 := O13.nm
      exact (ih _ _ e) _ _ _ _ _ _ _ _ _ _ _ _ _ _ _ _ _ _ _ (O14.pick [0, 1, 2, 3, 4]).nm rfl k_6_0_0 r_6_0_0 rfl he7 rfl k_44 r_44
    · refine ⟨_, ldk (k := 1) (Sub.refl _) (O13.all 4 rfl) (T_api_Know.g1 he7), _, rfl, ?_⟩
      have O15 := O13.nm
      exact (ih _ _ e) _ _ _ _ _ _ _ _ _ _ _ _ _ _ _ _ _ _ _ (O15.pick [0, 1, 2, 3, 4]).nm rfl k_6_0_0 r_6_0_0 rfl he7 rfl k_44 r_44
  · cases e
    exact ⟨_, _, O.up, O.s, rfl, .inr ⟨_, _, _, _, _, _, _, _, _, _, rfl, rfl, O.pick [0, 1, 2, 3], rfl, k_6_0_0, r_6_0_0, rfl⟩⟩
set_option maxRecDepth 100000 in
theorem cycle_New.l1_k.step_j0 (go : (p : cycle_New.l1_k.Pt) → Option ((Option T_cycle_Node) × Int)) (ih : ∀ p r, go p = some r → cycle_New.l1_k.I p r) (a_6_0 : (List T_api_Know)) (a_6_1 : (List (Int × Int))) (a_6_2 : (List (Int × Bool))) (a_6_3 : (List Int)) (x_6_4 : Int) (x_6_5 : Int) (y_10 : T_api_Know) (a_44 : List T_api_Know) (x_45 : Int) (x_46 : Int) (b_55 : Bool) (r : (Option T_cycle_Node) × Int) (e : cycle_New.l1_k.body go (.j0 a_6_0 a_6_1 a_6_2 a_6_3 x_6_4 x_6_5 y_10 a_44 x_45 x_46 b_55) = some r) : cycle_New.l1_k.I (.j0 a_6_0 a_6_1 a_6_2 a_6_3 x_6_4 x_6_5 y_10 a_44 x_45 x_46 b_55) r := by
  unfold cycle_New.l1_k.body at e
  intro W h0 m0 h m bk_6 A_6_0_0 n_6_0_0 c_6_0_0 b_6_1_0 b_6_2_0 A_6_3_0 n_6_3_0 c_6_3_0 bk_10 cs_10 A_44 n_44 c_44 O ne_6_0_0 k_6_0_0 r_6_0_0 ne_6_3_0 e_10 ne_44 k_44 r_44
  subst ne_6_0_0
  subst ne_6_3_0
  subst ne_44
  refine f17.j0_in ?_
  unfold f17.j0T
  refine split_any_e e (fun c16 e => ?_) (fun c16 e => ?_)
  · refine ⟨_, ld0 (Sub.refl _) (O.all 4 rfl) (T_api_Know.g0 e_10), _, rfl, ?_⟩
    obtain ⟨y1, g2, e⟩ := bind_e e
    obtain ⟨W7, P8, B9, C10⟩ := O.callC [0, 1, 2, 3]
    refine (cycle_Node_mark.walk (y_0 := (T_cycle_Node.mk a_6_0 a_6_1 a_6_2 a_6_3 x_6_4 x_6_5)) P8 rfl k_6_0_0 r_6_0_0 rfl g2).mono ?_
    rintro _ h3 ⟨m4, A_11_0, n_11_0, c_11_0, b_11_1, b_11_2, A_11_3, n_11_3, c_11_3, Q5, rfl, ne_11_0, k_11_0, r_11_0, ne_11_3⟩
    have O15 := Hold.nm (B9 Q5)
    subst ne_11_0
    subst ne_11_3
    refine ⟨rfl, ?_⟩
    exact (ih _ _ e) _ _ _ _ _ _ _ _ _ _ _ _ _ _ _ _ _ (O15.pick [5, 6, 7, 8]).nm rfl k_11_0 r_11_0 rfl rfl k_44 (r_44.sub T_api_Know.T Q5.S.up)
  · exact (ih _ _ e) _ _ _ _ _ _ _ _ _ _ _ _ _ _ _ _ _ (O.pick [0, 1, 2, 3]).nm rfl k_6_0_0 r_6_0_0 rfl rfl k_44 r_44
theorem cycle_New.l1_k.all {p : cycle_New.l1_k.Pt} {r : ((Option T_cycle_Node) × Int)} (e : cycle_New.l1_k.go p = some r) : cycle_New.l1_k.I p r := fixF_ind (β := fun _ => ((Option T_cycle_Node) × Int)) cycle_New.l1_k.mono (I := cycle_New.l1_k.I) (fun go ih p r e => match p with
  | .l1 a_6_0 a_6_1 a_6_2 a_6_3 x_6_4 x_6_5 a_44 x_45 x_46 => cycle_New.l1_k.step_l1 go ih a_6_0 a_6_1 a_6_2 a_6_3 x_6_4 x_6_5 a_44 x_45 x_46 r e
  | .j0 a_6_0 a_6_1 a_6_2 a_6_3 x_6_4 x_6_5 y_10 a_44 x_45 x_46 b_55 => cycle_New.l1_k.step_j0 go ih a_6_0 a_6_1 a_6_2 a_6_3 x_6_4 x_6_5 y_10 a_44 x_45 x_46 b_55 r e
  ) e
theorem cycle_New.l1.walk {W : Nat → Prop} {h0 m0 h m : Heap} {bk_6 : Nat} {A_6_0_0 : Option Addr} {n_6_0_0 : Nat} {c_6_0_0 : Nat} {b_6_1_0 : Nat} {b_6_2_0 : Nat} {A_6_3_0 : Option Addr} {n_6_3_0 : Nat} {c_6_3_0 : Nat} {A_44 : Option Addr} {n_44 c_44 : Nat} {a_6_0 : (List T_api_Know)} {a_6_1 : (List (Int × Int))} {a_6_2 : (List (Int × Bool))} {a_6_3 : (List Int)} {x_6_4 : Int} {x_6_5 : Int} {a_44 : List T_api_Know} {x_45 : Int} {x_46 : Int} (O : Hold W h0 m0 h m [rV bk_6 145 [(Value.slice A_6_0_0 n_6_0_0 c_6_0_0), (Value.map (some b_6_1_0)), (Value.map (some b_6_2_0)), (Value.slice A_6_3_0 n_6_3_0 c_6_3_0), (Value.int .i64 x_6_4), (Value.int .i64 x_6_5)], rM (monoV0 (tell_int .i64)) (fun n : Int => Value.int .i64 n) b_6_1_0 a_6_1, rM (monoV0 tell_bool) (fun n : Int => Value.int .i64 n) b_6_2_0 a_6_2, rR (aE (tell_int .i64)) A_6_3_0 c_6_3_0 a_6_3]) (ne_6_0_0 : n_6_0_0 = List.length a_6_0) (k_6_0_0 : List.length a_6_0 ≤ c_6_0_0) (r_6_0_0 : Rd 4 T_api_Know.E m A_6_0_0 a_6_0) (ne_6_3_0 : n_6_3_0 = List.length a_6_3) (ne_44 : n_44 = List.length a_44) (k_44 : List.length a_44 ≤ c_44) (r_44 : Rd 4 T_api_Know.E m A_44 a_44) {r : (Option T_cycle_Node) × Int} (e : cycle_New.l1 a_6_0 a_6_1 a_6_2 a_6_3 x_6_4 x_6_5 a_44 x_45 x_46 = some r) : f17.l1 (cycle_New.post W h0 m0 r) (⟨bk_6, 0, none⟩ : Addr) A_44 n_44 c_44 x_45 x_46 h := cycle_New.l1_k.all (p := .l1 a_6_0 a_6_1 a_6_2 a_6_3 x_6_4 x_6_5 a_44 x_45 x_46) e W h0 m0 h m bk_6 A_6_0_0 n_6_0_0 c_6_0_0 b_6_1_0 b_6_2_0 A_6_3_0 n_6_3_0 c_6_3_0 A_44 n_44 c_44 O ne_6_0_0 k_6_0_0 r_6_0_0 ne_6_3_0 ne_44 k_44 r_44
inductive cycle_New.l0_k.Pt where
  | l0 (a_0 : List T_api_Know) (a_6_0 : (List T_api_Know)) (a_6_1 : (List (Int × Int))) (a_6_2 : (List (Int × Bool))) (a_6_3 : (List Int)) (x_6_4 : Int) (x_6_5 : Int) (a_23 : List T_api_Know) (x_24 : Int) (x_25 : Int)
noncomputable def cycle_New.l0_k.body (go : (p : cycle_New.l0_k.Pt) → Option ((Option T_cycle_Node) × Int)) : (p : cycle_New.l0_k.Pt) → Option ((Option T_cycle_Node) × Int)
  | .l0 a_0 a_6_0 a_6_1 a_6_2 a_6_3 x_6_4 x_6_5 a_23 x_24 x_25 => if x_25 < x_24 then (Option.bind (gi a_23 x_25) fun y1 => Option.bind (slices_Clone_80 y1.Refs) fun y19 => Option.bind (ap 40 a_6_0 ([(T_api_Know.mk y1.Ref y1.Awake y1.Root y19)] : List T_api_Know)) fun l40 => (go (.l0 a_0 l40 a_6_1 a_6_2 a_6_3 x_6_4 x_6_5 a_23 x_24 (IntKind.wrap .i64 (x_25 + (1 : Int)))))) else ((cycle_New.l1 a_6_0 a_6_1 a_6_2 a_6_3 x_6_4 x_6_5 a_0 (((List.length a_0) : Nat) : Int) (0 : Int)))
theorem cycle_New.l0_k.mono : MonoF (β := fun _ => ((Option T_cycle_Node) × Int)) cycle_New.l0_k.body := fun f g hfg p => match p with
  | .l0 a_0 a_6_0 a_6_1 a_6_2 a_6_3 x_6_4 x_6_5 a_23 x_24 x_25 => LeO.ite (LeO.bind (LeO.refl _) fun y1 => LeO.bind (LeO.refl _) fun y19 => LeO.bind (LeO.refl _) fun l40 => (hfg _)) ((LeO.refl _))
noncomputable def cycle_New.l0_k.go (p : cycle_New.l0_k.Pt) : Option ((Option T_cycle_Node) × Int) := fixF (β := fun _ => ((Option T_cycle_Node) × Int)) cycle_New.l0_k.body p
noncomputable def cycle_New.l0 (a_0 : List T_api_Know) (a_6_0 : (List T_api_Know)) (a_6_1 : (List (Int × Int))) (a_6_2 : (List (Int × Bool))) (a_6_3 : (List Int)) (x_6_4 : Int) (x_6_5 : Int) (a_23 : List T_api_Know) (x_24 : Int) (x_25 : Int) : Option ((Option T_cycle_Node) × Int) := cycle_New.l0_k.go (.l0 a_0 a_6_0 a_6_1 a_6_2 a_6_3 x_6_4 x_6_5 a_23 x_24 x_25)
theorem cycle_New.l0_eq (a_0 : List T_api_Know) (a_6_0 : (List T_api_Know)) (a_6_1 : (List (Int × Int))) (a_6_2 : (List (Int × Bool))) (a_6_3 : (List Int)) (x_6_4 : Int) (x_6_5 : Int) (a_23 : List T_api_Know) (x_24 : Int) (x_25 : Int) : cycle_New.l0 a_0 a_6_0 a_6_1 a_6_2 a_6_3 x_6_4 x_6_5 a_23 x_24 x_25 = if x_25 < x_24 then (Option.bind (gi a_23 x_25) fun y1 => Option.bind (slices_Clone_80 y1.Refs) fun y19 => Option.bind (ap 40 a_6_0 ([(T_api_Know.mk y1.Ref y1.Awake y1.Root y19)] : List T_api_Know)) fun l40 => (cycle_New.l0 a_0 l40 a_6_1 a_6_2 a_6_3 x_6_4 x_6_5 a_23 x_24 (IntKind.wrap .i64 (x_25 + (1 : Int))))) else ((cycle_New.l1 a_6_0 a_6_1 a_6_2 a_6_3 x_6_4 x_6_5 a_0 (((List.length a_0) : Nat) : Int) (0 : Int))) := fixF_eq cycle_New.l0_k.mono _
def cycle_New.l0_k.I : (p : cycle_New.l0_k.Pt) → ((Option T_cycle_Node) × Int) → Prop
  | .l0 a_0 a_6_0 a_6_1 a_6_2 a_6_3 x_6_4 x_6_5 a_23 x_24 x_25, r => ∀ (W : Nat → Prop) (h0 m0 h m : Heap) (A_0 : Option Addr) (n_0 c_0 : Nat) (bk_6 : Nat) (A_6_0_0 : Option Addr) (n_6_0_0 : Nat) (c_6_0_0 : Nat) (b_6_1_0 : Nat) (b_6_2_0 : Nat) (A_6_3_0 : Option Addr) (n_6_3_0 : Nat) (c_6_3_0 : Nat) (A_23 : Option Addr) (n_23 c_23 : Nat) (O : Hold W h0 m0 h m [rV bk_6 145 [(Value.slice A_6_0_0 n_6_0_0 c_6_0_0), (Value.map (some b_6_1_0)), (Value.map (some b_6_2_0)), (Value.slice A_6_3_0 n_6_3_0 c_6_3_0), (Value.int .i64 x_6_4), (Value.int .i64 x_6_5)], rR (aE T_api_Know.T) A_6_0_0 c_6_0_0 a_6_0, rM (monoV0 (tell_int .i64)) (fun n : Int => Value.int .i64 n) b_6_1_0 a_6_1, rM (monoV0 tell_bool) (fun n : Int => Value.int .i64 n) b_6_2_0 a_6_2, rR (aE (tell_int .i64)) A_6_3_0 c_6_3_0 a_6_3]) (ne_0 : n_0 = List.length a_0) (k_0 : List.length a_0 ≤ c_0) (r_0 : Rd 4 T_api_Know.E m A_0 a_0) (ne_6_0_0 : n_6_0_0 = List.length a_6_0) (ne_6_3_0 : n_6_3_0 = List.length a_6_3) (ne_23 : n_23 = List.length a_23) (k_23 : List.length a_23 ≤ c_23) (r_23 : Rd 4 T_api_Know.E m A_23 a_23), f17.l0 (cycle_New.post W h0 m0 r) A_0 n_0 c_0 (⟨bk_6, 0, none⟩ : Addr) A_23 n_23 c_23 x_24 x_25 h
set_option maxHeartbeats 4000000 in
set_option maxRecDepth 100000 in
theorem cycle_New.l0_k.step_l0 (go : (p : cycle_New.l0_k.Pt) → Option ((Option T_cycle_Node) × Int)) (ih : ∀ p r, go p = some r → cycle_New.l0_k.I p r) (a_0 : List T_api_Know) (a_6_0 : (List T_api_Know)) (a_6_1 : (List (Int × Int))) (a_6_2 : (List (Int × Bool))) (a_6_3 : (List Int)) (x_6_4 : Int) (x_6_5 : Int) (a_23 : List T_api_Know) (x_24 : Int) (x_25 : Int) (r : (Option T_cycle_Node) × Int) (e : cycle_New.l0_k.body go (.l0 a_0 a_6_0 a_6_1 a_6_2 a_6_3 x_6_4 x_6_5 a_23 x_24 x_25) = some r) : cycle_New.l0_k.I (.l0 a_0 a_6_0 a_6_1 a_6_2 a_6_3 x_6_4 x_6_5 a_23 x_24 x_25) r := by
  unfold cycle_New.l0_k.body at e
  intro W h0 m0 h m A_0 n_0 c_0 bk_6 A_6_0_0 n_6_0_0 c_6_0_0 b_6_1_0 b_6_2_0 A_6_3_0 n_6_3_0 c_6_3_0 A_23 n_23 c_23 O ne_0 k_0 r_0 ne_6_0_0 ne_6_3_0 ne_23 k_23 r_23
  subst ne_0
  subst ne_6_0_0
  subst ne_6_3_0
  subst ne_23
  refine f17.l0_in ?_
  unfold f17.l0T
  refine split_dec_e e (fun c64 e => ?_) (fun c64 e => ?_)
  · obtain ⟨y1, g2, e⟩ := bind_e e
    refine r_23.addr rfl g2 fun a3 cs4 ha5 hc6 he7 => ?_
    refine ⟨_, ldAn O.s hc6 rfl, ?_⟩
    refine O.new fun h8 x9 O10 => ?_
    refine ⟨_, rfl, (T_api_Know.T.len _ _ _ he7), ?_⟩
    refine O10.stA 5 rfl (T_api_Know.T.len _ _ _ he7) (T_api_Know.T.flat _ _ _ he7) fun h12 O13 => ?_
    obtain ⟨A14, c15, q16, k17, r18⟩ := T_api_Know.g3 he7
    refine ⟨_, ldk (k := 3) (Sub.refl _) (O13.all 5 rfl) q16, _, _, _, rfl, ?_⟩
    obtain ⟨y19, g20, e⟩ := bind_e e
    refine (slices_Clone_80.walk (Hold.start (W := No) O13.s) rfl k17 r18 g20).mono ?_
    rintro _ h21 ⟨m22, A25, n26, c27, Q23, rfl, ne28⟩
    have O30 := Hold.nm (O13.retC Q23 (vfs_cons (rR_vf (aE_vf (fun _ _ _ _ h => h))) vfs_nil))
    subst ne28
    refine ⟨_, _, _, rfl, ?_⟩
    obtain ⟨Ae33_3, ce33_3, rfl, ke33_3, re33_3⟩ := id he7
    refine O30.st 5 rfl 3 (Nat.le_of_ble_eq_true rfl) trivial fun h34 O35 => ?_
    refine ⟨_, ld0 (Sub.refl _) (O35.all 0 rfl) rfl, _, _, _, rfl, ?_⟩
    refine ⟨_, ldAn (Sub.refl _) (O35.all 5 rfl) rfl, ?_⟩
    refine ⟨[(Value.int .i64 y1.Ref), (Value.bool y1.Awake), (Value.bool y1.Root), (Value.slice A25 (List.length y19) c27)], rfl, rfl, ?_⟩
    refine O35.new fun h36 x37 O38 => ?_
    refine ⟨x37, ?_⟩
    obtain ⟨l40, g41, e⟩ := bind_e e
    obtain ⟨m48, u49, ⟨r50, k51⟩, O52⟩ := O38.frz 6 rfl
    replace r50 : Rd 1 (eInt .i64) m48 A25 y19 := r50
    have O53 := O52.rowE (l := ([(T_api_Know.mk y1.Ref y1.Awake y1.Root y19)] : List T_api_Know)) 7 rfl T_api_Know.T (show CsE _ _ _ _ _ from (CsE.cons (c1 := [(Value.int .i64 y1.Ref), (Value.bool y1.Awake), (Value.bool y1.Root), (Value.slice A25 (List.length y19) c27)]) (show T_api_Know.E _ (T_api_Know.mk y1.Ref y1.Awake y1.Root y19) [(Value.int .i64 y1.Ref), (Value.bool y1.Awake), (Value.bool y1.Root), (Value.slice A25 (List.length y19) c27)] from ⟨_, _, rfl, k51, r50⟩) rfl CsE.nil)) rfl
    refine O53.app 1 rfl rfl rfl ((O53.os 7 rfl).srcE rfl) (by decide) g41 fun A42 c43 h44 O45 => ?_
    refine ⟨_, _, _, rfl, ?_⟩
    have O54 := O45.nm
    refine O54.st0 0 rfl (Nat.le_of_ble_eq_true rfl) trivial fun h55 O56 => ?_
    have O57 := O56.nm
    exact (ih _ _ e) _ _ _ _ _ _ _ _ _ _ _ _ _ _ _ _ _ _ _ _ (O57.pick [0, 1, 2, 3, 4]).nm rfl k_0 (r_0.sub T_api_Know.T u49) rfl rfl rfl k_23 (r_23.sub T_api_Know.T u49)
  · obtain ⟨m58, u59, ⟨r60, k61⟩, O62⟩ := O.frz 1 rfl
    replace r60 : Rd 4 T_api_Know.E m58 A_6_0_0 a_6_0 := r60
    have O63 := O62.nm
    exact cycle_New.l1.walk (O63.pick [0, 2, 3, 4]).nm rfl k61 r60 rfl rfl k_0 (r_0.sub T_api_Know.T u59) e
theorem cycle_New.l0_k.all {p : cycle_New.l0_k.Pt} {r : ((Option T_cycle_Node) × Int)} (e : cycle_New.l0_k.go p = some r) : cycle_New.l0_k.I p r := fixF_ind (β := fun _ => ((Option T_cycle_Node) × Int)) cycle_New.l0_k.mono (I := cycle_New.l0_k.I) (fun go ih p r e => match p with
  | .l0 a_0 a_6_0 a_6_1 a_6_2 a_6_3 x_6_4 x_6_5 a_23 x_24 x_25 => cycle_New.l0_k.step_l0 go ih a_0 a_6_0 a_6_1 a_6_2 a_6_3 x_6_4 x_6_5 a_23 x_24 x_25 r e
  ) e
theorem cycle_New.l0.walk {W : Nat → Prop} {h0 m0 h m : Heap} {A_0 : Option Addr} {n_0 c_0 : Nat} {bk_6 : Nat} {A_6_0_0 : Option Addr} {n_6_0_0 : Nat} {c_6_0_0 : Nat} {b_6_1_0 : Nat} {b_6_2_0 : Nat} {A_6_3_0 : Option Addr} {n_6_3_0 : Nat} {c_6_3_0 : Nat} {A_23 : Option Addr} {n_23 c_23 : Nat} {a_0 : List T_api_Know} {a_6_0 : (List T_api_Know)} {a_6_1 : (List (Int × Int))} {a_6_2 : (List (Int × Bool))} {a_6_3 : (List Int)} {x_6_4 : Int} {x_6_5 : Int} {a_23 : List T_api_Know} {x_24 : Int} {x_25 : Int} (O : Hold W h0 m0 h m [rV bk_6 145 [(Value.slice A_6_0_0 n_6_0_0 c_6_0_0), (Value.map (some b_6_1_0)), (Value.map (some b_6_2_0)), (Value.slice A_6_3_0 n_6_3_0 c_6_3_0), (Value.int .i64 x_6_4), (Value.int .i64 x_6_5)], rR (aE T_api_Know.T) A_6_0_0 c_6_0_0 a_6_0, rM (monoV0 (tell_int .i64)) (fun n : Int => Value.int .i64 n) b_6_1_0 a_6_1, rM (monoV0 tell_bool) (fun n : Int => Value.int .i64 n) b_6_2_0 a_6_2, rR (aE (tell_int .i64)) A_6_3_0 c_6_3_0 a_6_3]) (ne_0 : n_0 = List.length a_0) (k_0 : List.length a_0 ≤ c_0) (r_0 : Rd 4 T_api_Know.E m A_0 a_0) (ne_6_0_0 : n_6_0_0 = List.length a_6_0) (ne_6_3_0 : n_6_3_0 = List.length a_6_3) (ne_23 : n_23 = List.length a_23) (k_23 : List.length a_23 ≤ c_23) (r_23 : Rd 4 T_api_Know.E m A_23 a_23) {r : (Option T_cycle_Node) × Int} (e : cycle_New.l0 a_0 a_6_0 a_6_1 a_6_2 a_6_3 x_6_4 x_6_5 a_23 x_24 x_25 = some r) : f17.l0 (cycle_New.post W h0 m0 r) A_0 n_0 c_0 (⟨bk_6, 0, none⟩ : Addr) A_23 n_23 c_23 x_24 x_25 h := cycle_New.l0_k.all (p := .l0 a_0 a_6_0 a_6_1 a_6_2 a_6_3 x_6_4 x_6_5 a_23 x_24 x_25) e W h0 m0 h m A_0 n_0 c_0 bk_6 A_6_0_0 n_6_0_0 c_6_0_0 b_6_1_0 b_6_2_0 A_6_3_0 n_6_3_0 c_6_3_0 A_23 n_23 c_23 O ne_0 k_0 r_0 ne_6_0_0 ne_6_3_0 ne_23 k_23 r_23
noncomputable def cycle_New (a_0 : List T_api_Know) : Option ((Option T_cycle_Node) × Int) :=
  Option.bind (cycle_index a_0) fun y1 => Option.elim y1.1 (if y1.2 = (0 : Int) then ((none : Option _)) else (some ((none : Option T_cycle_Node), y1.2))) fun z12 => if y1.2 = (0 : Int) then ((cycle_New.l0 a_0 ([] : List T_api_Know) z12 ([] : (List (Int × Bool))) ([] : List Int) (0 : Int) (0 : Int) a_0 (((List.length a_0) : Nat) : Int) (0 : Int))) else (some ((none : Option T_cycle_Node), y1.2))
set_option maxRecDepth 100000 in
theorem cycle_New.walk {W : Nat → Prop} {h m : Heap} {A_0 : Option Addr} {n_0 c_0 : Nat} {a_0 : List T_api_Know} (O : Hold W h m h m []) (ne_0 : n_0 = List.length a_0) (k_0 : List.length a_0 ≤ c_0) (r_0 : Rd 4 T_api_Know.E m A_0 a_0) {r : (Option T_cycle_Node) × Int} (e : cycle_New a_0 = some r) : Run Try.prog 17 #[Value.slice A_0 n_0 c_0] h (cycle_New.post W h m r) := by
  unfold cycle_New at e
  subst ne_0
  refine f17.run ?_
  unfold f17.runT
  obtain ⟨y1, g2, e⟩ := bind_e e
  refine (cycle_index.walk (Hold.start (W := No) O.s) rfl k_0 r_0 g2).mono ?_
  rintro _ h3 ⟨m4, p7, u9, s10, rfl, hp8⟩
  rcases hp8 with ⟨q11, rfl, Q14⟩ | ⟨z12, b13, q11, rfl, Q15, _⟩
  · have e := elim_none_e e q11
    have O16 := Hold.nm (O.retC Q14 vfs_nil)
    refine ⟨_, _, rfl, ?_⟩
    refine split_ne_e e (fun c25 e => ?_) (fun c25 e => ?_)
    · cases e
      exact ⟨_, _, O16.up, O16.s, rfl, .inl ⟨rfl, rfl, O16.pick []⟩⟩
    · refine O16.mkMap (ν := Bool) (monoV0 tell_bool) (fun n : Int => Value.int .i64 n) fun h17 x18 O19 => ?_
      refine oneCell_map ?_
      refine oneCell_map ?_
      refine O19.new fun h21 x22 O23 => ?_
      cases e
  · have e := elim_some_e e q11
    have O27 := Hold.nm (O.retC Q15 (vfs_cons (rM_vf (fun _ _ _ _ h => h)) vfs_nil))
    refine ⟨_, _, rfl, ?_⟩
    refine split_ne_e e (fun c41 e => ?_) (fun c41 e => ?_)
    · cases e
      exact ⟨_, _, O27.up, O27.s, rfl, .inl ⟨rfl, rfl, O27.pick []⟩⟩
    · refine O27.mkMap (ν := Bool) (monoV0 tell_bool) (fun n : Int => Value.int .i64 n) fun h28 x29 O30 => ?_
      refine oneCell_map ?_
      refine oneCell_map ?_
      refine O30.new fun h32 x33 O34 => ?_
      have O36 := O34.nil (aE T_api_Know.T) none
      have O38 := O36.nil (aE (tell_int .i64)) none
      have O40 := O38.nm
      exact cycle_New.l0.walk (O40.pick [2, 3, 0, 1, 4]).nm rfl k_0 r_0 rfl rfl rfl k_0 r_0 e
def cycle_Node_Out.post (W : Nat → Prop) (bkio0 : Nat) (h0 m0 : Heap) (r : (List Int) × T_cycle_Node) (v : Value) (h : Heap) : Prop := ∃ m A0 n0 c0 Aio0_0 nio0_0 cio0_0 bio0_1 bio0_2 Aio0_3 nio0_3 cio0_3, Hold W h0 m0 h m [rR (aE (tell_int .i64)) A0 c0 r.1, rV bkio0 145 [(Value.slice Aio0_0 nio0_0 cio0_0), (Value.map (some bio0_1)), (Value.map (some bio0_2)), (Value.slice Aio0_3 nio0_3 cio0_3), (Value.int .i64 r.2.sent_), (Value.int .i64 r.2.took_)], rM (monoV0 (tell_int .i64)) (fun n : Int => Value.int .i64 n) bio0_1 r.2.at_, rM (monoV0 tell_bool) (fun n : Int => Value.int .i64 n) bio0_2 r.2.marked_, rR (aE (tell_int .i64)) Aio0_3 cio0_3 r.2.out_] ∧ v = .slice A0 n0 c0 ∧ n0 = List.length r.1 ∧ nio0_0 = List.length r.2.l_ ∧ List.length r.2.l_ ≤ cio0_0 ∧ Rd 4 T_api_Know.E m Aio0_0 r.2.l_ ∧ nio0_3 = List.length r.2.out_
noncomputable def cycle_Node_Out (y_0 : T_cycle_Node) : Option ((List Int) × T_cycle_Node) :=
  Option.bind (slices_Sort_14 y_0.out_) fun y3 => some (y3, (T_cycle_Node.mk y_0.l_ y_0.at_ y_0.marked_ ([] : List Int) y_0.sent_ y_0.took_))
set_option maxRecDepth 100000 in
theorem cycle_Node_Out.walk {W : Nat → Prop} {h m : Heap} {bkio0 : Nat} {A_0_0 : Option Addr} {n_0_0 : Nat} {c_0_0 : Nat} {b_0_1 : Nat} {b_0_2 : Nat} {A_0_3 : Option Addr} {n_0_3 : Nat} {c_0_3 : Nat} {y_0 : T_cycle_Node} (O : Hold W h m h m [rV bkio0 145 [(Value.slice A_0_0 n_0_0 c_0_0), (Value.map (some b_0_1)), (Value.map (some b_0_2)), (Value.slice A_0_3 n_0_3 c_0_3), (Value.int .i64 y_0.sent_), (Value.int .i64 y_0.took_)], rM (monoV0 (tell_int .i64)) (fun n : Int => Value.int .i64 n) b_0_1 y_0.at_, rM (monoV0 tell_bool) (fun n : Int => Value.int .i64 n) b_0_2 y_0.marked_, rR (aE (tell_int .i64)) A_0_3 c_0_3 y_0.out_]) (ne_0_0 : n_0_0 = List.length y_0.l_) (k_0_0 : List.length y_0.l_ ≤ c_0_0) (r_0_0 : Rd 4 T_api_Know.E m A_0_0 y_0.l_) (ne_0_3 : n_0_3 = List.length y_0.out_) {r : (List Int) × T_cycle_Node} (e : cycle_Node_Out y_0 = some r) : Run Try.prog 18 #[Value.pointer (some ⟨bkio0, 0, none⟩)] h (cycle_Node_Out.post W bkio0 h m r) := by
  unfold cycle_Node_Out at e
  subst ne_0_0
  subst ne_0_3
  refine f18.run ?_
  unfold f18.runT
  refine ⟨_, ldk (k := 3) (Sub.refl _) (O.all 0 rfl) rfl, _, _, _, rfl, ?_⟩
  refine O.st 0 rfl 3 (Nat.le_of_ble_eq_true rfl) trivial fun h1 O2 => ?_
  obtain ⟨y3, g4, e⟩ := bind_e e
  have O9 := O2.nm
  obtain ⟨W10, P11, B12, C13⟩ := O9.callC [3]
  refine (slices_Sort_14.walk P11 rfl g4).mono ?_
  rintro _ h5 ⟨m6, Q7, rfl, hl14⟩
  have O15 := Hold.nm (C13 Q7 (vfs_cons (rR_vf (aE_vf (fun _ _ _ _ h => h))) vfs_nil))
  refine ⟨rfl, ?_⟩
  have O16 := O15.nil (aE (tell_int .i64)) none
  have O18 := O16.nm
  cases e
  exact ⟨_, _, _, _, _, _, _, _, _, _, _, _, O18.pick [4, 0, 1, 2, 5], rfl, hl14, rfl, k_0_0, r_0_0, rfl⟩
def slices_Clone_19.post (W : Nat → Prop) (h0 m0 : Heap) (r : (List T_api_Know)) (v : Value) (h : Heap) : Prop := ∃ m A0 n0 c0, Hold W h0 m0 h m [rR (aE T_api_Know.T) A0 c0 r] ∧ v = .slice A0 n0 c0 ∧ n0 = List.length r
noncomputable def slices_Clone_19 (a0 : List T_api_Know) : Option (List T_api_Know) := ap 40 ([] : List T_api_Know) a0
set_option maxRecDepth 100000 in
theorem slices_Clone_19.walk {W : Nat → Prop} {h m : Heap} {A0 : Option Addr} {n0 c0 : Nat} {a0 : List T_api_Know} (O : Hold W h m h m []) (ne0 : n0 = List.length a0) (k0 : List.length a0 ≤ c0) (r0 : Rd 4 T_api_Know.E m A0 a0) {r : List T_api_Know} (e : slices_Clone_19 a0 = some r) : Run Try.prog 19 #[Value.slice A0 n0 c0] h (slices_Clone_19.post W h m r) := by
  unfold slices_Clone_19 at e
  subst ne0
  refine f19.run ?_
  unfold f19.runT
  cases A0 with
  | none =>
    refine split_t ?_
    obtain rfl := Rd.void r0
    obtain rfl : [] = r := by have := (ap_e e).2; simpa using this
    exact ⟨m, none, 0, 0, O.nil (aE T_api_Know.T) none, rfl, rfl⟩
  | some a =>
    refine split_f ?_
    refine O.new fun h1 x1 O1 => ?_
    refine O1.appE0 T_api_Know.T rfl rfl (r0.srcE T_api_Know.T O1.s rfl) (by decide) e fun A4 c4 h4 x4 O4 => ?_
    refine ⟨_, _, _, rfl, ?_⟩
    exact ⟨m, _, _, _, O4.pick [1], rfl, rfl⟩
theorem slices_Clone_19.val (l : List T_api_Know) (h : l.length * 40 ≤ 140737488355328) : slices_Clone_19 l = some l := ap_nil h
def roadlaw4_at.post (W : Nat → Prop) (h0 m0 : Heap) (r : Int) (v : Value) (h : Heap) : Prop := ∃ m , Hold W h0 m0 h m [] ∧ v = .int .i64 r
noncomputable def roadlaw4_at (a_0 : List Int) (x_1 : Int) : Option (Int) :=
  if x_1 < (((List.length a_0) : Nat) : Int) then (Option.bind (gi a_0 x_1) fun y1 => some (y1)) else (some ((0 : Int)))
set_option maxRecDepth 100000 in
theorem roadlaw4_at.walk {W : Nat → Prop} {h m : Heap} {A_0 : Option Addr} {n_0 c_0 : Nat} {a_0 : List Int} {x_1 : Int} (O : Hold W h m h m []) (ne_0 : n_0 = List.length a_0) (k_0 : List.length a_0 ≤ c_0) (r_0 : Rd 1 (eInt .i64) m A_0 a_0) {r : Int} (e : roadlaw4_at a_0 x_1 = some r) : Run Try.prog 20 #[Value.slice A_0 n_0 c_0, Value.int .i64 x_1] h (roadlaw4_at.post W h m r) := by
  unfold roadlaw4_at at e
  subst ne_0
  refine f20.run ?_
  unfold f20.runT
  refine split_dec_e e (fun c8 e => ?_) (fun c8 e => ?_)
  · obtain ⟨y1, g2, e⟩ := bind_e e
    refine r_0.addr rfl g2 fun a3 cs4 ha5 hc6 he7 => ?_
    obtain rfl : cs4 = [(Value.int .i64 y1)] := he7
    refine ⟨_, ld0 O.s hc6 rfl, _, rfl, ?_⟩
    cases e
    exact ⟨_, O.pick [], rfl⟩
  · cases e
    exact ⟨_, O.pick [], rfl⟩
def roadlaw4_CyclePlays_1.post (W : Nat → Prop) (h0 m0 : Heap) (r : Bool) (v : Value) (h : Heap) : Prop := ∃ m , Hold W h0 m0 h m [] ∧ v = .bool r
noncomputable def roadlaw4_CyclePlays_1 (y_0 : T_api_Know) (y_1 : (List Int)) : Option (Bool) :=
  Option.bind (roadlaw4_at y_1 (1 : Int)) fun y5 => some ((y_0.Ref == y5))
set_option maxRecDepth 100000 in
theorem roadlaw4_CyclePlays_1.walk {W : Nat → Prop} {h m : Heap} {cs_0 : List Value} {bk_1 : Nat} {y_0 : T_api_Know} {y_1 : (List Int)} (O : Hold W h m h m []) (e_0 : T_api_Know.E m y_0 cs_0) (v_1 : VB (eRow 1 (eInt .i64)) m bk_1 y_1) {r : Bool} (e : roadlaw4_CyclePlays_1 y_0 y_1 = some r) : Run Try.prog 22 #[Value.agg cs_0.toArray, Value.pointer (some ⟨bk_1, 0, none⟩)] h (roadlaw4_CyclePlays_1.post W h m r) := by
  unfold roadlaw4_CyclePlays_1 at e
  obtain ⟨cs_1, t_1, hb_1, nn_1, e_1⟩ := id v_1
  obtain ⟨Ae_1_0, ce_1_0, rfl, ke_1_0, re_1_0⟩ := id e_1
  refine f22.run ?_
  unfold f22.runT
  refine O.new fun h1 x2 O3 => ?_
  refine ⟨_, ld0 (Sub.refl _) (O3.all 0 rfl) (T_api_Know.g0 e_0), _, rfl, ?_⟩
  refine ⟨_, ld0 O3.s (Blk.all' hb_1) rfl, _, _, _, rfl, ?_⟩
  obtain ⟨y5, g6, e⟩ := bind_e e
  refine (roadlaw4_at.walk (Hold.start (W := No) O3.s) rfl ke_1_0 re_1_0 g6).mono ?_
  rintro _ h7 ⟨m8, Q9, rfl⟩
  have O11 := Hold.nm (O3.retC Q9 vfs_nil)
  refine ⟨_, rfl, ?_⟩
  refine ⟨Q9.S.ext, ?_⟩
  cases e
  exact ⟨_, O11.pick [], rfl⟩
def cycle_Node_Come.post (W : Nat → Prop) (bkio0 : Nat) (h0 m0 : Heap) (r : Int × T_cycle_Node) (v : Value) (h : Heap) : Prop := ∃ m Aio0_0 nio0_0 cio0_0 bio0_1 bio0_2 Aio0_3 nio0_3 cio0_3, Hold W h0 m0 h m [rV bkio0 145 [(Value.slice Aio0_0 nio0_0 cio0_0), (Value.map (some bio0_1)), (Value.map (some bio0_2)), (Value.slice Aio0_3 nio0_3 cio0_3), (Value.int .i64 r.2.sent_), (Value.int .i64 r.2.took_)], rM (monoV0 (tell_int .i64)) (fun n : Int => Value.int .i64 n) bio0_1 r.2.at_, rM (monoV0 tell_bool) (fun n : Int => Value.int .i64 n) bio0_2 r.2.marked_, rR (aE (tell_int .i64)) Aio0_3 cio0_3 r.2.out_] ∧ v = .int .i64 r.1 ∧ nio0_0 = List.length r.2.l_ ∧ List.length r.2.l_ ≤ cio0_0 ∧ Rd 4 T_api_Know.E m Aio0_0 r.2.l_ ∧ nio0_3 = List.length r.2.out_
noncomputable def cycle_Node_Come (y_0 : T_cycle_Node) (x_1 : Int) : Option (Int × T_cycle_Node) :=
  if (Option.isSome (pget y_0.at_ x_1)) = true then (Option.bind (cycle_Node_mark (T_cycle_Node.mk y_0.l_ y_0.at_ y_0.marked_ y_0.out_ y_0.sent_ (IntKind.wrap .i64 (y_0.took_ + (1 : Int)))) x_1) fun y5 => some ((0 : Int), (T_cycle_Node.mk y5.l_ y5.at_ y5.marked_ y5.out_ y5.sent_ y5.took_))) else (some ((4 : Int), (T_cycle_Node.mk y_0.l_ y_0.at_ y_0.marked_ y_0.out_ y_0.sent_ y_0.took_)))
set_option maxRecDepth 100000 in
theorem cycle_Node_Come.walk {W : Nat → Prop} {h m : Heap} {bkio0 : Nat} {A_0_0 : Option Addr} {n_0_0 : Nat} {c_0_0 : Nat} {b_0_1 : Nat} {b_0_2 : Nat} {A_0_3 : Option Addr} {n_0_3 : Nat} {c_0_3 : Nat} {y_0 : T_cycle_Node} {x_1 : Int} (O : Hold W h m h m [rV bkio0 145 [(Value.slice A_0_0 n_0_0 c_0_0), (Value.map (some b_0_1)), (Value.map (some b_0_2)), (Value.slice A_0_3 n_0_3 c_0_3), (Value.int .i64 y_0.sent_), (Value.int .i64 y_0.took_)], rM (monoV0 (tell_int .i64)) (fun n : Int => Value.int .i64 n) b_0_1 y_0.at_, rM (monoV0 tell_bool) (fun n : Int => Value.int .i64 n) b_0_2 y_0.marked_, rR (aE (tell_int .i64)) A_0_3 c_0_3 y_0.out_]) (ne_0_0 : n_0_0 = List.length y_0.l_) (k_0_0 : List.length y_0.l_ ≤ c_0_0) (r_0_0 : Rd 4 T_api_Know.E m A_0_0 y_0.l_) (ne_0_3 : n_0_3 = List.length y_0.out_) {r : Int × T_cycle_Node} (e : cycle_Node_Come y_0 x_1 = some r) : Run Try.prog 23 #[Value.pointer (some ⟨bkio0, 0, none⟩), Value.int .i64 x_1] h (cycle_Node_Come.post W bkio0 h m r) := by
  unfold cycle_Node_Come at e
  subst ne_0_0
  subst ne_0_3
  refine f23.run ?_
  unfold f23.runT
  refine ⟨_, ldk (k := 1) (Sub.refl _) (O.all 0 rfl) rfl, ?_⟩
  refine (O.om 1 rfl).look2 (zv := (0 : Int)) (z := (Value.int .i64 (0 : Int))) (keyOk_int (key := 3) (elem := 3) (by kernel_rfl) (by kernel_rfl)) x_1 (by kernel_rfl) rfl (fun v1 hv2 => ?_)
  obtain rfl : v1 = (Value.int .i64 (pgd y_0.at_ x_1 (0 : Int))) := (List.cons.inj (show [v1] = [(Value.int .i64 (pgd y_0.at_ x_1 (0 : Int)))] from hv2)).1
  refine ⟨_, _, rfl, ?_⟩
  refine split_not ?_
  refine split_any_e e (fun c21 e => ?_) (fun c21 e => ?_)
  · refine ⟨_, ldk (k := 5) (Sub.refl _) (O.all 0 rfl) rfl, _, rfl, ?_⟩
    refine O.st 0 rfl 5 (Nat.le_of_ble_eq_true rfl) trivial fun h3 O4 => ?_
    obtain ⟨y5, g6, e⟩ := bind_e e
    have O11 := O4.nm
    obtain ⟨W12, P13, B14, C15⟩ := O11.callC [0, 1, 2, 3]
    refine (cycle_Node_mark.walk (y_0 := (T_cycle_Node.mk y_0.l_ y_0.at_ y_0.marked_ y_0.out_ y_0.sent_ (IntKind.wrap .i64 (y_0.took_ + (1 : Int))))) P13 rfl k_0_0 r_0_0 rfl g6).mono ?_
    rintro _ h7 ⟨m8, A_16_0, n_16_0, c_16_0, b_16_1, b_16_2, A_16_3, n_16_3, c_16_3, Q9, rfl, ne_16_0, k_16_0, r_16_0, ne_16_3⟩
    have O20 := Hold.nm (B14 Q9)
    subst ne_16_0
    subst ne_16_3
    refine ⟨rfl, ?_⟩
    cases e
    exact ⟨_, _, _, _, _, _, _, _, _, O20.pick [4, 5, 6, 7], rfl, rfl, k_16_0, r_16_0, rfl⟩
  · cases e
    exact ⟨_, _, _, _, _, _, _, _, _, O.pick [0, 1, 2, 3], rfl, rfl, k_0_0, r_0_0, rfl⟩
def roadlaw4_CyclePlays_2.post (W : Nat → Prop) (h0 m0 : Heap) (r : Bool) (v : Value) (h : Heap) : Prop := ∃ m , Hold W h0 m0 h m [] ∧ v = .bool r
noncomputable def roadlaw4_CyclePlays_2 (y_0 : T_api_Know) (y_1 : Int) : Option (Bool) :=
  some ((y_0.Ref == y_1))
set_option maxRecDepth 100000 in
theorem roadlaw4_CyclePlays_2.walk {W : Nat → Prop} {h m : Heap} {cs_0 : List Value} {bk_1 : Nat} {y_0 : T_api_Know} {y_1 : Int} (O : Hold W h m h m []) (e_0 : T_api_Know.E m y_0 cs_0) (v_1 : VB (eInt .i64) m bk_1 y_1) {r : Bool} (e : roadlaw4_CyclePlays_2 y_0 y_1 = some r) : Run Try.prog 26 #[Value.agg cs_0.toArray, Value.pointer (some ⟨bk_1, 0, none⟩)] h (roadlaw4_CyclePlays_2.post W h m r) := by
  unfold roadlaw4_CyclePlays_2 at e
  obtain ⟨cs_1, t_1, hb_1, nn_1, e_1⟩ := id v_1
  obtain rfl : cs_1 = [(Value.int .i64 y_1)] := e_1
  refine f26.run ?_
  unfold f26.runT
  refine O.new fun h1 x2 O3 => ?_
  refine ⟨_, ld0 (Sub.refl _) (O3.all 0 rfl) (T_api_Know.g0 e_0), _, rfl, ?_⟩
  refine ⟨_, ld0 O3.s (Blk.all' hb_1) rfl, _, rfl, ?_⟩
  have O5 := O3.nm
  cases e
  exact ⟨_, O5.pick [], rfl⟩
def cycle_Node_Counts.post (W : Nat → Prop) (h0 m0 : Heap) (r : Int × Int) (v : Value) (h : Heap) : Prop := ∃ m , Hold W h0 m0 h m [] ∧ v = .tuple #[.int .i64 r.1, .int .i64 r.2]
noncomputable def cycle_Node_Counts (y_0 : T_cycle_Node) : Option (Int × Int) :=
  some (y_0.sent_, y_0.took_)
set_option maxRecDepth 100000 in
theorem cycle_Node_Counts.walk {W : Nat → Prop} {h m : Heap} {bk_0 : Nat} {y_0 : T_cycle_Node} (O : Hold W h m h m []) (v_0 : VB T_cycle_Node.E m bk_0 y_0) {r : Int × Int} (e : cycle_Node_Counts y_0 = some r) : Run Try.prog 27 #[Value.pointer (some ⟨bk_0, 0, none⟩)] h (cycle_Node_Counts.post W h m r) := by
  unfold cycle_Node_Counts at e
  obtain ⟨cs_0, t_0, hb_0, nn_0, e_0⟩ := id v_0
  refine f27.run ?_
  unfold f27.runT
  refine ⟨_, ldk (k := 4) O.s (Blk.all' hb_0) (T_cycle_Node.g4 e_0), _, rfl, ?_⟩
  refine ⟨_, ldk (k := 5) O.s (Blk.all' hb_0) (T_cycle_Node.g5 e_0), _, rfl, ?_⟩
  cases e
  exact ⟨_, O.pick [], rfl⟩
def cycle_Node_Left.post (W : Nat → Prop) (h0 m0 : Heap) (r : (List Int)) (v : Value) (h : Heap) : Prop := ∃ m A0 n0 c0, Hold W h0 m0 h m [rR (aE (tell_int .i64)) A0 c0 r] ∧ v = .slice A0 n0 c0 ∧ n0 = List.length r
inductive cycle_Node_Left.l0_k.Pt where
  | l0 (y_0 : T_cycle_Node) (a_3 : List Int) (a_9 : List T_api_Know) (x_10 : Int) (x_11 : Int)
noncomputable def cycle_Node_Left.l0_k.body (go : (p : cycle_Node_Left.l0_k.Pt) → Option ((List Int))) : (p : cycle_Node_Left.l0_k.Pt) → Option ((List Int))
  | .l0 y_0 a_3 a_9 x_10 x_11 => if x_11 < x_10 then (Option.bind (gi a_9 x_11) fun y1 => if (pgd y_0.marked_ y1.Ref false) = true then ((go (.l0 y_0 a_3 a_9 x_10 (IntKind.wrap .i64 (x_11 + (1 : Int)))))) else (Option.bind (ap 8 a_3 ([y1.Ref] : List Int)) fun l24 => (go (.l0 y_0 l24 a_9 x_10 (IntKind.wrap .i64 (x_11 + (1 : Int))))))) else (Option.bind (slices_Sort_14 a_3) fun y35 => some (y35))
theorem cycle_Node_Left.l0_k.mono : MonoF (β := fun _ => ((List Int))) cycle_Node_Left.l0_k.body := fun f g hfg p => match p with
  | .l0 y_0 a_3 a_9 x_10 x_11 => LeO.ite (LeO.bind (LeO.refl _) fun y1 => LeO.ite ((hfg _)) (LeO.bind (LeO.refl _) fun l24 => (hfg _))) (LeO.bind (LeO.refl _) fun y35 => LeO.refl _)
noncomputable def cycle_Node_Left.l0_k.go (p : cycle_Node_Left.l0_k.Pt) : Option ((List Int)) := fixF (β := fun _ => ((List Int))) cycle_Node_Left.l0_k.body p
noncomputable def cycle_Node_Left.l0 (y_0 : T_cycle_Node) (a_3 : List Int) (a_9 : List T_api_Know) (x_10 : Int) (x_11 : Int) : Option ((List Int)) := cycle_Node_Left.l0_k.go (.l0 y_0 a_3 a_9 x_10 x_11)
theorem cycle_Node_Left.l0_eq (y_0 : T_cycle_Node) (a_3 : List Int) (a_9 : List T_api_Know) (x_10 : Int) (x_11 : Int) : cycle_Node_Left.l0 y_0 a_3 a_9 x_10 x_11 = if x_11 < x_10 then (Option.bind (gi a_9 x_11) fun y1 => if (pgd y_0.marked_ y1.Ref false) = true then ((cycle_Node_Left.l0 y_0 a_3 a_9 x_10 (IntKind.wrap .i64 (x_11 + (1 : Int))))) else (Option.bind (ap 8 a_3 ([y1.Ref] : List Int)) fun l24 => (cycle_Node_Left.l0 y_0 l24 a_9 x_10 (IntKind.wrap .i64 (x_11 + (1 : Int)))))) else (Option.bind (slices_Sort_14 a_3) fun y35 => some (y35)) := fixF_eq cycle_Node_Left.l0_k.mono _
def cycle_Node_Left.l0_k.I : (p : cycle_Node_Left.l0_k.Pt) → ((List Int)) → Prop
  | .l0 y_0 a_3 a_9 x_10 x_11, r => ∀ (W : Nat → Prop) (h0 m0 h m : Heap) (bk_0 : Nat) (A_3 : Option Addr) (n_3 c_3 : Nat) (A_9 : Option Addr) (n_9 c_9 : Nat) (O : Hold W h0 m0 h m [rR (aE (tell_int .i64)) A_3 c_3 a_3]) (v_0 : VB T_cycle_Node.E m bk_0 y_0) (ne_3 : n_3 = List.length a_3) (ne_9 : n_9 = List.length a_9) (k_9 : List.length a_9 ≤ c_9) (r_9 : Rd 4 T_api_Know.E m A_9 a_9), f28.l0 (cycle_Node_Left.post W h0 m0 r) (⟨bk_0, 0, none⟩ : Addr) A_3 n_3 c_3 A_9 n_9 c_9 x_10 x_11 h
set_option maxHeartbeats 4000000 in
set_option maxRecDepth 100000 in
theorem cycle_Node_Left.l0_k.step_l0 (go : (p : cycle_Node_Left.l0_k.Pt) → Option ((List Int))) (ih : ∀ p r, go p = some r → cycle_Node_Left.l0_k.I p r) (y_0 : T_cycle_Node) (a_3 : List Int) (a_9 : List T_api_Know) (x_10 : Int) (x_11 : Int) (r : (List Int)) (e : cycle_Node_Left.l0_k.body go (.l0 y_0 a_3 a_9 x_10 x_11) = some r) : cycle_Node_Left.l0_k.I (.l0 y_0 a_3 a_9 x_10 x_11) r := by
  unfold cycle_Node_Left.l0_k.body at e
  intro W h0 m0 h m bk_0 A_3 n_3 c_3 A_9 n_9 c_9 O v_0 ne_3 ne_9 k_9 r_9
  obtain ⟨cs_0, t_0, hb_0, nn_0, e_0⟩ := id v_0
  subst ne_3
  subst ne_9
  refine f28.l0_in ?_
  unfold f28.l0T
  refine split_dec_e e (fun c47 e => ?_) (fun c47 e => ?_)
  · obtain ⟨y1, g2, e⟩ := bind_e e
    refine r_9.addr rfl g2 fun a3 cs4 ha5 hc6 he7 => ?_
    refine ⟨_, ldAn O.s hc6 rfl, ?_⟩
    refine O.new fun h8 x9 O10 => ?_
    refine ⟨_, rfl, (T_api_Know.T.len _ _ _ he7), ?_⟩
    refine O10.stA 1 rfl (T_api_Know.T.len _ _ _ he7) (T_api_Know.T.flat _ _ _ he7) fun h12 O13 => ?_
    obtain ⟨p14, q15, f16⟩ := T_cycle_Node.g2 e_0
    refine ⟨_, ldk (k := 2) O13.s (Blk.all' hb_0) q15, ?_⟩
    refine ⟨_, ld0 (Sub.refl _) (O13.all 1 rfl) (T_api_Know.g0 he7), _, rfl, ?_⟩
    refine FMo.look (zv := false) (z := (Value.bool false)) f16 O13.s (keyOk_int (key := 3) (elem := 4) (by kernel_rfl) (by kernel_rfl)) y1.Ref (by kernel_rfl) rfl (fun v17 hv18 => ?_)
    obtain rfl : v17 = (Value.bool (pgd y_0.marked_ y1.Ref false)) := (List.cons.inj (show [v17] = [(Value.bool (pgd y_0.marked_ y1.Ref false))] from hv18)).1
    refine ⟨_, rfl, ?_⟩
    refine split_not ?_
    refine split_any_e e (fun c34 e => ?_) (fun c34 e => ?_)
    · have O19 := O13.nm
      exact (ih _ _ e) _ _ _ _ _ _ _ _ _ _ _ _ (O19.pick [0]).nm v_0 rfl rfl k_9 r_9
    · refine ⟨_, ld0 (Sub.refl _) (O13.all 1 rfl) (T_api_Know.g0 he7), _, rfl, ?_⟩
      refine O13.new fun h20 x21 O22 => ?_
      obtain ⟨l24, g25, e⟩ := bind_e e
      have O32 := O22.rowE (l := ([y1.Ref] : List Int)) 2 rfl (tell_int .i64) (show CsE _ _ _ _ _ from (CsE.cons (c1 := [(Value.int .i64 y1.Ref)]) rfl rfl CsE.nil)) rfl
      refine O32.app 0 rfl rfl rfl ((O32.os 2 rfl).srcE rfl) (by decide) g25 fun A26 c27 h28 O29 => ?_
      refine ⟨_, _, _, rfl, ?_⟩
      have O33 := O29.nm
      exact (ih _ _ e) _ _ _ _ _ _ _ _ _ _ _ _ (O33.pick [0]).nm v_0 rfl rfl k_9 r_9
  · obtain ⟨y35, g36, e⟩ := bind_e e
    obtain ⟨W41, P42, B43, C44⟩ := O.callC [0]
    refine (slices_Sort_14.walk P42 rfl g36).mono ?_
    rintro _ h37 ⟨m38, Q39, rfl, hl45⟩
    have O46 := Hold.nm (C44 Q39 (vfs_cons (rR_vf (aE_vf (fun _ _ _ _ h => h))) vfs_nil))
    refine ⟨rfl, ?_⟩
    cases e
    exact ⟨_, _, _, _, O46.pick [1], rfl, hl45⟩
theorem cycle_Node_Left.l0_k.all {p : cycle_Node_Left.l0_k.Pt} {r : ((List Int))} (e : cycle_Node_Left.l0_k.go p = some r) : cycle_Node_Left.l0_k.I p r := fixF_ind (β := fun _ => ((List Int))) cycle_Node_Left.l0_k.mono (I := cycle_Node_Left.l0_k.I) (fun go ih p r e => match p with
  | .l0 y_0 a_3 a_9 x_10 x_11 => cycle_Node_Left.l0_k.step_l0 go ih y_0 a_3 a_9 x_10 x_11 r e
  ) e
theorem cycle_Node_Left.l0.walk {W : Nat → Prop} {h0 m0 h m : Heap} {bk_0 : Nat} {A_3 : Option Addr} {n_3 c_3 : Nat} {A_9 : Option Addr} {n_9 c_9 : Nat} {y_0 : T_cycle_Node} {a_3 : List Int} {a_9 : List T_api_Know} {x_10 : Int} {x_11 : Int} (O : Hold W h0 m0 h m [rR (aE (tell_int .i64)) A_3 c_3 a_3]) (v_0 : VB T_cycle_Node.E m bk_0 y_0) (ne_3 : n_3 = List.length a_3) (ne_9 : n_9 = List.length a_9) (k_9 : List.length a_9 ≤ c_9) (r_9 : Rd 4 T_api_Know.E m A_9 a_9) {r : (List Int)} (e : cycle_Node_Left.l0 y_0 a_3 a_9 x_10 x_11 = some r) : f28.l0 (cycle_Node_Left.post W h0 m0 r) (⟨bk_0, 0, none⟩ : Addr) A_3 n_3 c_3 A_9 n_9 c_9 x_10 x_11 h := cycle_Node_Left.l0_k.all (p := .l0 y_0 a_3 a_9 x_10 x_11) e W h0 m0 h m bk_0 A_3 n_3 c_3 A_9 n_9 c_9 O v_0 ne_3 ne_9 k_9 r_9
noncomputable def cycle_Node_Left (y_0 : T_cycle_Node) : Option ((List Int)) :=
  (cycle_Node_Left.l0 y_0 ([] : List Int) y_0.l_ (((List.length y_0.l_) : Nat) : Int) (0 : Int))
set_option maxRecDepth 100000 in
theorem cycle_Node_Left.walk {W : Nat → Prop} {h m : Heap} {bk_0 : Nat} {y_0 : T_cycle_Node} (O : Hold W h m h m []) (v_0 : VB T_cycle_Node.E m bk_0 y_0) {r : (List Int)} (e : cycle_Node_Left y_0 = some r) : Run Try.prog 28 #[Value.pointer (some ⟨bk_0, 0, none⟩)] h (cycle_Node_Left.post W h m r) := by
  unfold cycle_Node_Left at e
  obtain ⟨cs_0, t_0, hb_0, nn_0, e_0⟩ := id v_0
  refine f28.run ?_
  unfold f28.runT
  obtain ⟨A1, c2, q3, k4, r5⟩ := T_cycle_Node.g0 e_0
  refine ⟨_, ld0 O.s (Blk.all' hb_0) q3, _, _, _, rfl, ?_⟩
  have O6 := O.nil (aE (tell_int .i64)) none
  have O8 := O6.nm
  exact cycle_Node_Left.l0.walk (O8.pick [0]).nm v_0 rfl rfl k4 r5 e
end Go.Proofs.Ythnlhffpmlgmfad.Fw

end
section
namespace Go.Proofs.Ythnlhffpmlgmfad.Fw
open Go Go.Hw Go.Proofs
set_option linter.unusedVariables false
set_option synthInstance.maxHeartbeats 400000
set_option synthInstance.maxSize 1000
def roadlaw4_CyclePlays.post (W : Nat → Prop) (h0 m0 : Heap) (r : Bool) (v : Value) (h : Heap) : Prop := ∃ m , Hold W h0 m0 h m [] ∧ v = .bool r
inductive roadlaw4_CyclePlays.l0_k.Pt where
  | l0 (a_0 : List T_api_Know) (a_7_0 : (List T_api_Know)) (a_7_1 : (List (Int × Int))) (a_7_2 : (List (Int × Bool))) (a_7_3 : (List Int)) (x_7_4 : Int) (x_7_5 : Int) (x_10 : Int) (a_11 : List Int) (a_75 : List (List Int)) (x_76 : Int) (x_77 : Int)
  | j4 (a_0 : List T_api_Know) (a_7_0 : (List T_api_Know)) (a_7_1 : (List (Int × Int))) (a_7_2 : (List (Int × Bool))) (a_7_3 : (List Int)) (x_7_4 : Int) (x_7_5 : Int) (x_10 : Int) (a_11 : List Int) (y_13 : (List Int)) (x_15 : Int) (a_75 : List (List Int)) (x_76 : Int) (x_77 : Int)
  | j2 (a_0 : List T_api_Know) (a_7_0 : (List T_api_Know)) (a_7_1 : (List (Int × Int))) (a_7_2 : (List (Int × Bool))) (a_7_3 : (List Int)) (x_7_4 : Int) (x_7_5 : Int) (x_10 : Int) (a_11 : List Int) (y_13 : (List Int)) (a_75 : List (List Int)) (x_76 : Int) (x_77 : Int)
  | l1 (a_0 : List T_api_Know) (a_7_0 : (List T_api_Know)) (a_7_1 : (List (Int × Int))) (a_7_2 : (List (Int × Bool))) (a_7_3 : (List Int)) (x_7_4 : Int) (x_7_5 : Int) (x_10 : Int) (a_11 : List Int) (y_13 : (List Int)) (a_16 : List Int) (a_17 : List Int) (a_18 : List Int) (a_75 : List (List Int)) (x_76 : Int) (x_77 : Int) (x_105 : Int) (x_106 : Int)
  | l3 (a_0 : List T_api_Know) (a_7_0 : (List T_api_Know)) (a_7_1 : (List (Int × Int))) (a_7_2 : (List (Int × Bool))) (a_7_3 : (List Int)) (x_7_4 : Int) (x_7_5 : Int) (x_10 : Int) (a_11 : List Int) (y_13 : (List Int)) (a_16 : List Int) (a_17 : List Int) (a_18 : List Int) (a_75 : List (List Int)) (x_76 : Int) (x_77 : Int) (x_105 : Int) (x_106 : Int) (a_122 : List Int) (x_123 : Int) (x_124 : Int)
  | j5 (a_0 : List T_api_Know) (a_7_0 : (List T_api_Know)) (a_7_1 : (List (Int × Int))) (a_7_2 : (List (Int × Bool))) (a_7_3 : (List Int)) (x_7_4 : Int) (x_7_5 : Int) (x_10 : Int) (a_11 : List Int) (y_13 : (List Int)) (a_16 : List Int) (a_17 : List Int) (a_18 : List Int) (y_22 : Int) (a_75 : List (List Int)) (x_76 : Int) (x_77 : Int) (x_105 : Int) (x_106 : Int) (a_122 : List Int) (x_123 : Int) (x_124 : Int) (b_137 : Bool)
  | l2 (a_0 : List T_api_Know) (a_7_0 : (List T_api_Know)) (a_7_1 : (List (Int × Int))) (a_7_2 : (List (Int × Bool))) (a_7_3 : (List Int)) (x_7_4 : Int) (x_7_5 : Int) (x_10 : Int) (a_11 : List Int) (a_17 : List Int) (a_18 : List Int) (a_23 : List Int) (a_75 : List (List Int)) (x_76 : Int) (x_77 : Int) (x_150 : Int) (x_151 : Int)
  | j3 (a_0 : List T_api_Know) (a_7_0 : (List T_api_Know)) (a_7_1 : (List (Int × Int))) (a_7_2 : (List (Int × Bool))) (a_7_3 : (List Int)) (x_7_4 : Int) (x_7_5 : Int) (x_10 : Int) (a_11 : List Int) (a_17 : List Int) (a_18 : List Int) (a_75 : List (List Int)) (x_76 : Int) (x_77 : Int)
noncomputable def roadlaw4_CyclePlays.l0_k.body (go : (p : roadlaw4_CyclePlays.l0_k.Pt) → Option (Bool)) : (p : roadlaw4_CyclePlays.l0_k.Pt) → Option (Bool)
  | .l0 a_0 a_7_0 a_7_1 a_7_2 a_7_3 x_7_4 x_7_5 x_10 a_11 a_75 x_76 x_77 => if x_77 < x_76 then (Option.bind (gi a_75 x_77) fun y1 => Option.bind (roadlaw4_at y1 (0 : Int)) fun y14 => if y14 = (1 : Int) then (Option.bind (slices_IndexFunc_21 a_0 (fun z35 => roadlaw4_CyclePlays_1 z35 y1)) fun y21 => if y21 ≥ (0 : Int) then (Option.bind (gi a_0 y21) fun y44 => Option.bind (some (List.set a_0 (Int.toNat y21) ({ y44 with Root := true }))) fun l53 => (go (.j4 l53 a_7_0 a_7_1 a_7_2 a_7_3 x_7_4 x_7_5 (IntKind.wrap .i64 (x_10 + (1 : Int))) a_11 y1 (0 : Int) a_75 x_76 x_77))) else ((go (.j4 a_0 a_7_0 a_7_1 a_7_2 a_7_3 x_7_4 x_7_5 x_10 a_11 y1 (4 : Int) a_75 x_76 x_77)))) else ((go (.j2 a_0 a_7_0 a_7_1 a_7_2 a_7_3 x_7_4 x_7_5 x_10 a_11 y1 a_75 x_76 x_77)))) else (some (true))
  | .j4 a_0 a_7_0 a_7_1 a_7_2 a_7_3 x_7_4 x_7_5 x_10 a_11 y_13 x_15 a_75 x_76 x_77 => Option.bind (roadlaw4_at y_13 (1 : Int)) fun y1 => Option.bind (cycle_Node_Come (T_cycle_Node.mk a_7_0 a_7_1 a_7_2 a_7_3 x_7_4 x_7_5) y1) fun y8 => if y8.1 = x_15 then ((go (.j2 a_0 y8.2.l_ y8.2.at_ y8.2.marked_ y8.2.out_ y8.2.sent_ y8.2.took_ x_10 a_11 y_13 a_75 x_76 x_77))) else (some (false))
  | .j2 a_0 a_7_0 a_7_1 a_7_2 a_7_3 x_7_4 x_7_5 x_10 a_11 y_13 a_75 x_76 x_77 => Option.bind (roadref4_Alive a_0) fun y1 => (go (.l1 a_0 a_7_0 a_7_1 a_7_2 a_7_3 x_7_4 x_7_5 x_10 a_11 y_13 y1 ([] : List Int) ([] : List Int) a_75 x_76 x_77 (((List.length a_0) : Nat) : Int) (0 : Int)))
  | .l1 a_0 a_7_0 a_7_1 a_7_2 a_7_3 x_7_4 x_7_5 x_10 a_11 y_13 a_16 a_17 a_18 a_75 x_76 x_77 x_105 x_106 => if x_106 < x_105 then (Option.bind (gi a_0 x_106) fun y1 => Option.bind (gi a_16 x_106) fun y14 => if y14 < (0 : Int) then (Option.bind (ap 8 a_17 ([y1.Ref] : List Int)) fun l25 => (go (.l1 a_0 a_7_0 a_7_1 a_7_2 a_7_3 x_7_4 x_7_5 x_10 a_11 y_13 a_16 l25 a_18 a_75 x_76 x_77 x_105 (IntKind.wrap .i64 (x_106 + (1 : Int)))))) else ((go (.l3 a_0 a_7_0 a_7_1 a_7_2 a_7_3 x_7_4 x_7_5 x_10 a_11 y_13 a_16 a_17 a_18 a_75 x_76 x_77 x_105 x_106 y1.Refs (((List.length y1.Refs) : Nat) : Int) (0 : Int))))) else (Option.bind (slices_Sort_14 a_17) fun y42 => Option.bind (roadlaw4_at y_13 (0 : Int)) fun y54 => if y54 = (2 : Int) then ((go (.l2 a_0 a_7_0 a_7_1 a_7_2 a_7_3 x_7_4 x_7_5 x_10 a_11 y42 a_18 ([] : List Int) a_75 x_76 x_77 (((List.length a_18) : Nat) : Int) (0 : Int)))) else ((go (.j3 a_0 a_7_0 a_7_1 a_7_2 a_7_3 x_7_4 x_7_5 x_10 a_11 y42 a_18 a_75 x_76 x_77))))
  | .l3 a_0 a_7_0 a_7_1 a_7_2 a_7_3 x_7_4 x_7_5 x_10 a_11 y_13 a_16 a_17 a_18 a_75 x_76 x_77 x_105 x_106 a_122 x_123 x_124 => if x_124 < x_123 then (Option.bind (gi a_122 x_124) fun y1 => Option.bind (slices_Contains_24 a_18 y1) fun y14 => if y14 = true then ((go (.j5 a_0 a_7_0 a_7_1 a_7_2 a_7_3 x_7_4 x_7_5 x_10 a_11 y_13 a_16 a_17 a_18 y1 a_75 x_76 x_77 x_105 x_106 a_122 x_123 x_124 false))) else (Option.bind (slices_ContainsFunc_25 a_0 (fun z43 => roadlaw4_CyclePlays_2 z43 y1)) fun y29 => (go (.j5 a_0 a_7_0 a_7_1 a_7_2 a_7_3 x_7_4 x_7_5 x_10 a_11 y_13 a_16 a_17 a_18 y1 a_75 x_76 x_77 x_105 x_106 a_122 x_123 x_124 (!y29))))) else ((go (.l1 a_0 a_7_0 a_7_1 a_7_2 a_7_3 x_7_4 x_7_5 x_10 a_11 y_13 a_16 a_17 a_18 a_75 x_76 x_77 x_105 (IntKind.wrap .i64 (x_106 + (1 : Int))))))
  | .j5 a_0 a_7_0 a_7_1 a_7_2 a_7_3 x_7_4 x_7_5 x_10 a_11 y_13 a_16 a_17 a_18 y_22 a_75 x_76 x_77 x_105 x_106 a_122 x_123 x_124 b_137 => if b_137 = true then (Option.bind (ap 8 a_18 ([y_22] : List Int)) fun l5 => (go (.l3 a_0 a_7_0 a_7_1 a_7_2 a_7_3 x_7_4 x_7_5 x_10 a_11 y_13 a_16 a_17 l5 a_75 x_76 x_77 x_105 x_106 a_122 x_123 (IntKind.wrap .i64 (x_124 + (1 : Int)))))) else ((go (.l3 a_0 a_7_0 a_7_1 a_7_2 a_7_3 x_7_4 x_7_5 x_10 a_11 y_13 a_16 a_17 a_18 a_75 x_76 x_77 x_105 x_106 a_122 x_123 (IntKind.wrap .i64 (x_124 + (1 : Int))))))
  | .l2 a_0 a_7_0 a_7_1 a_7_2 a_7_3 x_7_4 x_7_5 x_10 a_11 a_17 a_18 a_23 a_75 x_76 x_77 x_150 x_151 => if x_151 < x_150 then (Option.bind (gi a_18 x_151) fun y1 => Option.bind (slices_Contains_24 a_11 y1) fun y8 => if y8 = true then ((go (.l2 a_0 a_7_0 a_7_1 a_7_2 a_7_3 x_7_4 x_7_5 x_10 a_11 a_17 a_18 a_23 a_75 x_76 x_77 x_150 (IntKind.wrap .i64 (x_151 + (1 : Int)))))) else (Option.bind (ap 8 a_23 ([y1] : List Int)) fun l26 => (go (.l2 a_0 a_7_0 a_7_1 a_7_2 a_7_3 x_7_4 x_7_5 x_10 a_11 a_17 a_18 l26 a_75 x_76 x_77 x_150 (IntKind.wrap .i64 (x_151 + (1 : Int))))))) else (Option.bind (slices_Sort_14 a_23) fun y37 => Option.bind (ap 8 a_11 y37) fun l49 => Option.bind (cycle_Node_Out (T_cycle_Node.mk a_7_0 a_7_1 a_7_2 a_7_3 x_7_4 x_7_5)) fun y57 => Option.bind (slices_Equal_10 y57.1 y37) fun y78 => if y78 = true then ((go (.j3 a_0 y57.2.l_ y57.2.at_ y57.2.marked_ y57.2.out_ y57.2.sent_ y57.2.took_ x_10 l49 a_17 a_18 a_75 x_76 x_77))) else (some (false)))
  | .j3 a_0 a_7_0 a_7_1 a_7_2 a_7_3 x_7_4 x_7_5 x_10 a_11 a_17 a_18 a_75 x_76 x_77 => Option.bind (cycle_Node_Counts (T_cycle_Node.mk a_7_0 a_7_1 a_7_2 a_7_3 x_7_4 x_7_5)) fun y1 => if y1.1 = (((List.length a_18) : Nat) : Int) then (if y1.2 = x_10 then (Option.bind (cycle_Node_Left (T_cycle_Node.mk a_7_0 a_7_1 a_7_2 a_7_3 x_7_4 x_7_5)) fun y18 => Option.bind (slices_Equal_10 y18 a_17) fun y40 => if y40 = true then ((go (.l0 a_0 a_7_0 a_7_1 a_7_2 a_7_3 x_7_4 x_7_5 x_10 a_11 a_75 x_76 (IntKind.wrap .i64 (x_77 + (1 : Int)))))) else (some (false))) else (some (false))) else (some (false))
attribute [local irreducible] cycle_Node_Counts roadlaw4_CyclePlays_2 in
theorem roadlaw4_CyclePlays.l0_k.mono : MonoF (β := fun _ => (Bool)) roadlaw4_CyclePlays.l0_k.body := fun f g hfg p => match p with
  | .l0 a_0 a_7_0 a_7_1 a_7_2 a_7_3 x_7_4 x_7_5 x_10 a_11 a_75 x_76 x_77 => LeO.ite (LeO.bind (LeO.refl _) fun y1 => LeO.bind (LeO.refl _) fun y14 => LeO.ite (LeO.bind (LeO.refl _) fun y21 => LeO.ite (LeO.bind (LeO.refl _) fun y44 => LeO.bind (LeO.refl _) fun l53 => (hfg _)) ((hfg _))) ((hfg _))) (LeO.refl _)
  | .j4 a_0 a_7_0 a_7_1 a_7_2 a_7_3 x_7_4 x_7_5 x_10 a_11 y_13 x_15 a_75 x_76 x_77 => LeO.bind (LeO.refl _) fun y1 => LeO.bind (LeO.refl _) fun y8 => LeO.ite ((hfg _)) (LeO.refl _)
  | .j2 a_0 a_7_0 a_7_1 a_7_2 a_7_3 x_7_4 x_7_5 x_10 a_11 y_13 a_75 x_76 x_77 => LeO.bind (LeO.refl _) fun y1 => (hfg _)
  | .l1 a_0 a_7_0 a_7_1 a_7_2 a_7_3 x_7_4 x_7_5 x_10 a_11 y_13 a_16 a_17 a_18 a_75 x_76 x_77 x_105 x_106 => LeO.ite (LeO.bind (LeO.refl _) fun y1 => LeO.bind (LeO.refl _) fun y14 => LeO.ite (LeO.bind (LeO.refl _) fun l25 => (hfg _)) ((hfg _))) (LeO.bind (LeO.refl _) fun y42 => LeO.bind (LeO.refl _) fun y54 => LeO.ite ((hfg _)) ((hfg _)))
  | .l3 a_0 a_7_0 a_7_1 a_7_2 a_7_3 x_7_4 x_7_5 x_10 a_11 y_13 a_16 a_17 a_18 a_75 x_76 x_77 x_105 x_106 a_122 x_123 x_124 => LeO.ite (LeO.bind (LeO.refl _) fun y1 => LeO.bind (LeO.refl _) fun y14 => LeO.ite ((hfg _)) (LeO.bind (LeO.refl _) fun y29 => (hfg _))) ((hfg _))
  | .j5 a_0 a_7_0 a_7_1 a_7_2 a_7_3 x_7_4 x_7_5 x_10 a_11 y_13 a_16 a_17 a_18 y_22 a_75 x_76 x_77 x_105 x_106 a_122 x_123 x_124 b_137 => LeO.ite (LeO.bind (LeO.refl _) fun l5 => (hfg _)) ((hfg _))
  | .l2 a_0 a_7_0 a_7_1 a_7_2 a_7_3 x_7_4 x_7_5 x_10 a_11 a_17 a_18 a_23 a_75 x_76 x_77 x_150 x_151 => LeO.ite (LeO.bind (LeO.refl _) fun y1 => LeO.bind (LeO.refl _) fun y8 => LeO.ite ((hfg _)) (LeO.bind (LeO.refl _) fun l26 => (hfg _))) (LeO.bind (LeO.refl _) fun y37 => LeO.bind (LeO.refl _) fun l49 => LeO.bind (LeO.refl _) fun y57 => LeO.bind (LeO.refl _) fun y78 => LeO.ite ((hfg _)) (LeO.refl _))
  | .j3 a_0 a_7_0 a_7_1 a_7_2 a_7_3 x_7_4 x_7_5 x_10 a_11 a_17 a_18 a_75 x_76 x_77 => LeO.bind (LeO.refl _) fun y1 => LeO.ite (LeO.ite (LeO.bind (LeO.refl _) fun y18 => LeO.bind (LeO.refl _) fun y40 => LeO.ite ((hfg _)) (LeO.refl _)) (LeO.refl _)) (LeO.refl _)
noncomputable def roadlaw4_CyclePlays.l0_k.go (p : roadlaw4_CyclePlays.l0_k.Pt) : Option (Bool) := fixF (β := fun _ => (Bool)) roadlaw4_CyclePlays.l0_k.body p
noncomputable def roadlaw4_CyclePlays.l0 (a_0 : List T_api_Know) (a_7_0 : (List T_api_Know)) (a_7_1 : (List (Int × Int))) (a_7_2 : (List (Int × Bool))) (a_7_3 : (List Int)) (x_7_4 : Int) (x_7_5 : Int) (x_10 : Int) (a_11 : List Int) (a_75 : List (List Int)) (x_76 : Int) (x_77 : Int) : Option (Bool) := roadlaw4_CyclePlays.l0_k.go (.l0 a_0 a_7_0 a_7_1 a_7_2 a_7_3 x_7_4 x_7_5 x_10 a_11 a_75 x_76 x_77)
noncomputable def roadlaw4_CyclePlays.j4 (a_0 : List T_api_Know) (a_7_0 : (List T_api_Know)) (a_7_1 : (List (Int × Int))) (a_7_2 : (List (Int × Bool))) (a_7_3 : (List Int)) (x_7_4 : Int) (x_7_5 : Int) (x_10 : Int) (a_11 : List Int) (y_13 : (List Int)) (x_15 : Int) (a_75 : List (List Int)) (x_76 : Int) (x_77 : Int) : Option (Bool) := roadlaw4_CyclePlays.l0_k.go (.j4 a_0 a_7_0 a_7_1 a_7_2 a_7_3 x_7_4 x_7_5 x_10 a_11 y_13 x_15 a_75 x_76 x_77)
noncomputable def roadlaw4_CyclePlays.j2 (a_0 : List T_api_Know) (a_7_0 : (List T_api_Know)) (a_7_1 : (List (Int × Int))) (a_7_2 : (List (Int × Bool))) (a_7_3 : (List Int)) (x_7_4 : Int) (x_7_5 : Int) (x_10 : Int) (a_11 : List Int) (y_13 : (List Int)) (a_75 : List (List Int)) (x_76 : Int) (x_77 : Int) : Option (Bool) := roadlaw4_CyclePlays.l0_k.go (.j2 a_0 a_7_0 a_7_1 a_7_2 a_7_3 x_7_4 x_7_5 x_10 a_11 y_13 a_75 x_76 x_77)
noncomputable def roadlaw4_CyclePlays.l1 (a_0 : List T_api_Know) (a_7_0 : (List T_api_Know)) (a_7_1 : (List (Int × Int))) (a_7_2 : (List (Int × Bool))) (a_7_3 : (List Int)) (x_7_4 : Int) (x_7_5 : Int) (x_10 : Int) (a_11 : List Int) (y_13 : (List Int)) (a_16 : List Int) (a_17 : List Int) (a_18 : List Int) (a_75 : List (List Int)) (x_76 : Int) (x_77 : Int) (x_105 : Int) (x_106 : Int) : Option (Bool) := roadlaw4_CyclePlays.l0_k.go (.l1 a_0 a_7_0 a_7_1 a_7_2 a_7_3 x_7_4 x_7_5 x_10 a_11 y_13 a_16 a_17 a_18 a_75 x_76 x_77 x_105 x_106)
noncomputable def roadlaw4_CyclePlays.l3 (a_0 : List T_api_Know) (a_7_0 : (List T_api_Know)) (a_7_1 : (List (Int × Int))) (a_7_2 : (List (Int × Bool))) (a_7_3 : (List Int)) (x_7_4 : Int) (x_7_5 : Int) (x_10 : Int) (a_11 : List Int) (y_13 : (List Int)) (a_16 : List Int) (a_17 : List Int) (a_18 : List Int) (a_75 : List (List Int)) (x_76 : Int) (x_77 : Int) (x_105 : Int) (x_106 : Int) (a_122 : List Int) (x_123 : Int) (x_124 : Int) : Option (Bool) := roadlaw4_CyclePlays.l0_k.go (.l3 a_0 a_7_0 a_7_1 a_7_2 a_7_3 x_7_4 x_7_5 x_10 a_11 y_13 a_16 a_17 a_18 a_75 x_76 x_77 x_105 x_106 a_122 x_123 x_124)
noncomputable def roadlaw4_CyclePlays.j5 (a_0 : List T_api_Know) (a_7_0 : (List T_api_Know)) (a_7_1 : (List (Int × Int))) (a_7_2 : (List (Int × Bool))) (a_7_3 : (List Int)) (x_7_4 : Int) (x_7_5 : Int) (x_10 : Int) (a_11 : List Int) (y_13 : (List Int)) (a_16 : List Int) (a_17 : List Int) (a_18 : List Int) (y_22 : Int) (a_75 : List (List Int)) (x_76 : Int) (x_77 : Int) (x_105 : Int) (x_106 : Int) (a_122 : List Int) (x_123 : Int) (x_124 : Int) (b_137 : Bool) : Option (Bool) := roadlaw4_CyclePlays.l0_k.go (.j5 a_0 a_7_0 a_7_1 a_7_2 a_7_3 x_7_4 x_7_5 x_10 a_11 y_13 a_16 a_17 a_18 y_22 a_75 x_76 x_77 x_105 x_106 a_122 x_123 x_124 b_137)
noncomputable def roadlaw4_CyclePlays.l2 (a_0 : List T_api_Know) (a_7_0 : (List T_api_Know)) (a_7_1 : (List (Int × Int))) (a_7_2 : (List (Int × Bool))) (a_7_3 : (List Int)) (x_7_4 : Int) (x_7_5 : Int) (x_10 : Int) (a_11 : List Int) (a_17 : List Int) (a_18 : List Int) (a_23 : List Int) (a_75 : List (List Int)) (x_76 : Int) (x_77 : Int) (x_150 : Int) (x_151 : Int) : Option (Bool) := roadlaw4_CyclePlays.l0_k.go (.l2 a_0 a_7_0 a_7_1 a_7_2 a_7_3 x_7_4 x_7_5 x_10 a_11 a_17 a_18 a_23 a_75 x_76 x_77 x_150 x_151)
noncomputable def roadlaw4_CyclePlays.j3 (a_0 : List T_api_Know) (a_7_0 : (List T_api_Know)) (a_7_1 : (List (Int × Int))) (a_7_2 : (List (Int × Bool))) (a_7_3 : (List Int)) (x_7_4 : Int) (x_7_5 : Int) (x_10 : Int) (a_11 : List Int) (a_17 : List Int) (a_18 : List Int) (a_75 : List (List Int)) (x_76 : Int) (x_77 : Int) : Option (Bool) := roadlaw4_CyclePlays.l0_k.go (.j3 a_0 a_7_0 a_7_1 a_7_2 a_7_3 x_7_4 x_7_5 x_10 a_11 a_17 a_18 a_75 x_76 x_77)
theorem roadlaw4_CyclePlays.l0_eq (a_0 : List T_api_Know) (a_7_0 : (List T_api_Know)) (a_7_1 : (List (Int × Int))) (a_7_2 : (List (Int × Bool))) (a_7_3 : (List Int)) (x_7_4 : Int) (x_7_5 : Int) (x_10 : Int) (a_11 : List Int) (a_75 : List (List Int)) (x_76 : Int) (x_77 : Int) : roadlaw4_CyclePlays.l0 a_0 a_7_0 a_7_1 a_7_2 a_7_3 x_7_4 x_7_5 x_10 a_11 a_75 x_76 x_77 = if x_77 < x_76 then (Option.bind (gi a_75 x_77) fun y1 => Option.bind (roadlaw4_at y1 (0 : Int)) fun y14 => if y14 = (1 : Int) then (Option.bind (slices_IndexFunc_21 a_0 (fun z35 => roadlaw4_CyclePlays_1 z35 y1)) fun y21 => if y21 ≥ (0 : Int) then (Option.bind (gi a_0 y21) fun y44 => Option.bind (some (List.set a_0 (Int.toNat y21) ({ y44 with Root := true }))) fun l53 => (roadlaw4_CyclePlays.j4 l53 a_7_0 a_7_1 a_7_2 a_7_3 x_7_4 x_7_5 (IntKind.wrap .i64 (x_10 + (1 : Int))) a_11 y1 (0 : Int) a_75 x_76 x_77)) else ((roadlaw4_CyclePlays.j4 a_0 a_7_0 a_7_1 a_7_2 a_7_3 x_7_4 x_7_5 x_10 a_11 y1 (4 : Int) a_75 x_76 x_77))) else ((roadlaw4_CyclePlays.j2 a_0 a_7_0 a_7_1 a_7_2 a_7_3 x_7_4 x_7_5 x_10 a_11 y1 a_75 x_76 x_77))) else (some (true)) := fixF_eq roadlaw4_CyclePlays.l0_k.mono _
theorem roadlaw4_CyclePlays.j4_eq (a_0 : List T_api_Know) (a_7_0 : (List T_api_Know)) (a_7_1 : (List (Int × Int))) (a_7_2 : (List (Int × Bool))) (a_7_3 : (List Int)) (x_7_4 : Int) (x_7_5 : Int) (x_10 : Int) (a_11 : List Int) (y_13 : (List Int)) (x_15 : Int) (a_75 : List (List Int)) (x_76 : Int) (x_77 : Int) : roadlaw4_CyclePlays.j4 a_0 a_7_0 a_7_1 a_7_2 a_7_3 x_7_4 x_7_5 x_10 a_11 y_13 x_15 a_75 x_76 x_77 = Option.bind (roadlaw4_at y_13 (1 : Int)) fun y1 => Option.bind (cycle_Node_Come (T_cycle_Node.mk a_7_0 a_7_1 a_7_2 a_7_3 x_7_4 x_7_5) y1) fun y8 => if y8.1 = x_15 then ((roadlaw4_CyclePlays.j2 a_0 y8.2.l_ y8.2.at_ y8.2.marked_ y8.2.out_ y8.2.sent_ y8.2.took_ x_10 a_11 y_13 a_75 x_76 x_77)) else (some (false)) := fixF_eq roadlaw4_CyclePlays.l0_k.mono _
theorem roadlaw4_CyclePlays.j2_eq (a_0 : List T_api_Know) (a_7_0 : (List T_api_Know)) (a_7_1 : (List (Int × Int))) (a_7_2 : (List (Int × Bool))) (a_7_3 : (List Int)) (x_7_4 : Int) (x_7_5 : Int) (x_10 : Int) (a_11 : List Int) (y_13 : (List Int)) (a_75 : List (List Int)) (x_76 : Int) (x_77 : Int) : roadlaw4_CyclePlays.j2 a_0 a_7_0 a_7_1 a_7_2 a_7_3 x_7_4 x_7_5 x_10 a_11 y_13 a_75 x_76 x_77 = Option.bind (roadref4_Alive a_0) fun y1 => (roadlaw4_CyclePlays.l1 a_0 a_7_0 a_7_1 a_7_2 a_7_3 x_7_4 x_7_5 x_10 a_11 y_13 y1 ([] : List Int) ([] : List Int) a_75 x_76 x_77 (((List.length a_0) : Nat) : Int) (0 : Int)) := fixF_eq roadlaw4_CyclePlays.l0_k.mono _
theorem roadlaw4_CyclePlays.l1_eq (a_0 : List T_api_Know) (a_7_0 : (List T_api_Know)) (a_7_1 : (List (Int × Int))) (a_7_2 : (List (Int × Bool))) (a_7_3 : (List Int)) (x_7_4 : Int) (x_7_5 : Int) (x_10 : Int) (a_11 : List Int) (y_13 : (List Int)) (a_16 : List Int) (a_17 : List Int) (a_18 : List Int) (a_75 : List (List Int)) (x_76 : Int) (x_77 : Int) (x_105 : Int) (x_106 : Int) : roadlaw4_CyclePlays.l1 a_0 a_7_0 a_7_1 a_7_2 a_7_3 x_7_4 x_7_5 x_10 a_11 y_13 a_16 a_17 a_18 a_75 x_76 x_77 x_105 x_106 = if x_106 < x_105 then (Option.bind (gi a_0 x_106) fun y1 => Option.bind (gi a_16 x_106) fun y14 => if y14 < (0 : Int) then (Option.bind (ap 8 a_17 ([y1.Ref] : List Int)) fun l25 => (roadlaw4_CyclePlays.l1 a_0 a_7_0 a_7_1 a_7_2 a_7_3 x_7_4 x_7_5 x_10 a_11 y_13 a_16 l25 a_18 a_75 x_76 x_77 x_105 (IntKind.wrap .i64 (x_106 + (1 : Int))))) else ((roadlaw4_CyclePlays.l3 a_0 a_7_0 a_7_1 a_7_2 a_7_3 x_7_4 x_7_5 x_10 a_11 y_13 a_16 a_17 a_18 a_75 x_76 x_77 x_105 x_106 y1.Refs (((List.length y1.Refs) : Nat) : Int) (0 : Int)))) else (Option.bind (slices_Sort_14 a_17) fun y42 => Option.bind (roadlaw4_at y_13 (0 : Int)) fun y54 => if y54 = (2 : Int) then ((roadlaw4_CyclePlays.l2 a_0 a_7_0 a_7_1 a_7_2 a_7_3 x_7_4 x_7_5 x_10 a_11 y42 a_18 ([] : List Int) a_75 x_76 x_77 (((List.length a_18) : Nat) : Int) (0 : Int))) else ((roadlaw4_CyclePlays.j3 a_0 a_7_0 a_7_1 a_7_2 a_7_3 x_7_4 x_7_5 x_10 a_11 y42 a_18 a_75 x_76 x_77))) := fixF_eq roadlaw4_CyclePlays.l0_k.mono _
theorem roadlaw4_CyclePlays.l3_eq (a_0 : List T_api_Know) (a_7_0 : (List T_api_Know)) (a_7_1 : (List (Int × Int))) (a_7_2 : (List (Int × Bool))) (a_7_3 : (List Int)) (x_7_4 : Int) (x_7_5 : Int) (x_10 : Int) (a_11 : List Int) (y_13 : (List Int)) (a_16 : List Int) (a_17 : List Int) (a_18 : List Int) (a_75 : List (List Int)) (x_76 : Int) (x_77 : Int) (x_105 : Int) (x_106 : Int) (a_122 : List Int) (x_123 : Int) (x_124 : Int) : roadlaw4_CyclePlays.l3 a_0 a_7_0 a_7_1 a_7_2 a_7_3 x_7_4 x_7_5 x_10 a_11 y_13 a_16 a_17 a_18 a_75 x_76 x_77 x_105 x_106 a_122 x_123 x_124 = if x_124 < x_123 then (Option.bind (gi a_122 x_124) fun y1 => Option.bind (slices_Contains_24 a_18 y1) fun y14 => if y14 = true then ((roadlaw4_CyclePlays.j5 a_0 a_7_0 a_7_1 a_7_2 a_7_3 x_7_4 x_7_5 x_10 a_11 y_13 a_16 a_17 a_18 y1 a_75 x_76 x_77 x_105 x_106 a_122 x_123 x_124 false)) else (Option.bind (slices_ContainsFunc_25 a_0 (fun z43 => roadlaw4_CyclePlays_2 z43 y1)) fun y29 => (roadlaw4_CyclePlays.j5 a_0 a_7_0 a_7_1 a_7_2 a_7_3 x_7_4 x_7_5 x_10 a_11 y_13 a_16 a_17 a_18 y1 a_75 x_76 x_77 x_105 x_106 a_122 x_123 x_124 (!y29)))) else ((roadlaw4_CyclePlays.l1 a_0 a_7_0 a_7_1 a_7_2 a_7_3 x_7_4 x_7_5 x_10 a_11 y_13 a_16 a_17 a_18 a_75 x_76 x_77 x_105 (IntKind.wrap .i64 (x_106 + (1 : Int))))) := fixF_eq roadlaw4_CyclePlays.l0_k.mono _
theorem roadlaw4_CyclePlays.j5_eq (a_0 : List T_api_Know) (a_7_0 : (List T_api_Know)) (a_7_1 : (List (Int × Int))) (a_7_2 : (List (Int × Bool))) (a_7_3 : (List Int)) (x_7_4 : Int) (x_7_5 : Int) (x_10 : Int) (a_11 : List Int) (y_13 : (List Int)) (a_16 : List Int) (a_17 : List Int) (a_18 : List Int) (y_22 : Int) (a_75 : List (List Int)) (x_76 : Int) (x_77 : Int) (x_105 : Int) (x_106 : Int) (a_122 : List Int) (x_123 : Int) (x_124 : Int) (b_137 : Bool) : roadlaw4_CyclePlays.j5 a_0 a_7_0 a_7_1 a_7_2 a_7_3 x_7_4 x_7_5 x_10 a_11 y_13 a_16 a_17 a_18 y_22 a_75 x_76 x_77 x_105 x_106 a_122 x_123 x_124 b_137 = if b_137 = true then (Option.bind (ap 8 a_18 ([y_22] : List Int)) fun l5 => (roadlaw4_CyclePlays.l3 a_0 a_7_0 a_7_1 a_7_2 a_7_3 x_7_4 x_7_5 x_10 a_11 y_13 a_16 a_17 l5 a_75 x_76 x_77 x_105 x_106 a_122 x_123 (IntKind.wrap .i64 (x_124 + (1 : Int))))) else ((roadlaw4_CyclePlays.l3 a_0 a_7_0 a_7_1 a_7_2 a_7_3 x_7_4 x_7_5 x_10 a_11 y_13 a_16 a_17 a_18 a_75 x_76 x_77 x_105 x_106 a_122 x_123 (IntKind.wrap .i64 (x_124 + (1 : Int))))) := fixF_eq roadlaw4_CyclePlays.l0_k.mono _
theorem roadlaw4_CyclePlays.l2_eq (a_0 : List T_api_Know) (a_7_0 : (List T_api_Know)) (a_7_1 : (List (Int × Int))) (a_7_2 : (List (Int × Bool))) (a_7_3 : (List Int)) (x_7_4 : Int) (x_7_5 : Int) (x_10 : Int) (a_11 : List Int) (a_17 : List Int) (a_18 : List Int) (a_23 : List Int) (a_75 : List (List Int)) (x_76 : Int) (x_77 : Int) (x_150 : Int) (x_151 : Int) : roadlaw4_CyclePlays.l2 a_0 a_7_0 a_7_1 a_7_2 a_7_3 x_7_4 x_7_5 x_10 a_11 a_17 a_18 a_23 a_75 x_76 x_77 x_150 x_151 = if x_151 < x_150 then (Option.bind (gi a_18 x_151) fun y1 => Option.bind (slices_Contains_24 a_11 y1) fun y8 => if y8 = true then ((roadlaw4_CyclePlays.l2 a_0 a_7_0 a_7_1 a_7_2 a_7_3 x_7_4 x_7_5 x_10 a_11 a_17 a_18 a_23 a_75 x_76 x_77 x_150 (IntKind.wrap .i64 (x_151 + (1 : Int))))) else (Option.bind (ap 8 a_23 ([y1] : List Int)) fun l26 => (roadlaw4_CyclePlays.l2 a_0 a_7_0 a_7_1 a_7_2 a_7_3 x_7_4 x_7_5 x_10 a_11 a_17 a_18 l26 a_75 x_76 x_77 x_150 (IntKind.wrap .i64 (x_151 + (1 : Int)))))) else (Option.bind (slices_Sort_14 a_23) fun y37 => Option.bind (ap 8 a_11 y37) fun l49 => Option.bind (cycle_Node_Out (T_cycle_Node.mk a_7_0 a_7_1 a_7_2 a_7_3 x_7_4 x_7_5)) fun y57 => Option.bind (slices_Equal_10 y57.1 y37) fun y78 => if y78 = true then ((roadlaw4_CyclePlays.j3 a_0 y57.2.l_ y57.2.at_ y57.2.marked_ y57.2.out_ y57.2.sent_ y57.2.took_ x_10 l49 a_17 a_18 a_75 x_76 x_77)) else (some (false))) := fixF_eq roadlaw4_CyclePlays.l0_k.mono _
theorem roadlaw4_CyclePlays.j3_eq (a_0 : List T_api_Know) (a_7_0 : (List T_api_Know)) (a_7_1 : (List (Int × Int))) (a_7_2 : (List (Int × Bool))) (a_7_3 : (List Int)) (x_7_4 : Int) (x_7_5 : Int) (x_10 : Int) (a_11 : List Int) (a_17 : List Int) (a_18 : List Int) (a_75 : List (List Int)) (x_76 : Int) (x_77 : Int) : roadlaw4_CyclePlays.j3 a_0 a_7_0 a_7_1 a_7_2 a_7_3 x_7_4 x_7_5 x_10 a_11 a_17 a_18 a_75 x_76 x_77 = Option.bind (cycle_Node_Counts (T_cycle_Node.mk a_7_0 a_7_1 a_7_2 a_7_3 x_7_4 x_7_5)) fun y1 => if y1.1 = (((List.length a_18) : Nat) : Int) then (if y1.2 = x_10 then (Option.bind (cycle_Node_Left (T_cycle_Node.mk a_7_0 a_7_1 a_7_2 a_7_3 x_7_4 x_7_5)) fun y18 => Option.bind (slices_Equal_10 y18 a_17) fun y40 => if y40 = true then ((roadlaw4_CyclePlays.l0 a_0 a_7_0 a_7_1 a_7_2 a_7_3 x_7_4 x_7_5 x_10 a_11 a_75 x_76 (IntKind.wrap .i64 (x_77 + (1 : Int))))) else (some (false))) else (some (false))) else (some (false)) := fixF_eq roadlaw4_CyclePlays.l0_k.mono _
def roadlaw4_CyclePlays.l0_k.I : (p : roadlaw4_CyclePlays.l0_k.Pt) → (Bool) → Prop
  | .l0 a_0 a_7_0 a_7_1 a_7_2 a_7_3 x_7_4 x_7_5 x_10 a_11 a_75 x_76 x_77, r => ∀ (W : Nat → Prop) (h0 m0 h m : Heap) (A_0 : Option Addr) (n_0 c_0 : Nat) (bk_7 : Nat) (A_7_0_0 : Option Addr) (n_7_0_0 : Nat) (c_7_0_0 : Nat) (b_7_1_0 : Nat) (b_7_2_0 : Nat) (A_7_3_0 : Option Addr) (n_7_3_0 : Nat) (c_7_3_0 : Nat) (A_11 : Option Addr) (n_11 c_11 : Nat) (A_75 : Option Addr) (n_75 c_75 : Nat) (O : Hold W h0 m0 h m [rR (aE T_api_Know.T) A_0 c_0 a_0, rV bk_7 145 [(Value.slice A_7_0_0 n_7_0_0 c_7_0_0), (Value.map (some b_7_1_0)), (Value.map (some b_7_2_0)), (Value.slice A_7_3_0 n_7_3_0 c_7_3_0), (Value.int .i64 x_7_4), (Value.int .i64 x_7_5)], rM (monoV0 (tell_int .i64)) (fun n : Int => Value.int .i64 n) b_7_1_0 a_7_1, rM (monoV0 tell_bool) (fun n : Int => Value.int .i64 n) b_7_2_0 a_7_2, rR (aE (tell_int .i64)) A_7_3_0 c_7_3_0 a_7_3, rR (aE (tell_int .i64)) A_11 c_11 a_11, rR (aE (tell_row (tell_int .i64))) A_75 c_75 a_75]) (ne_0 : n_0 = List.length a_0) (ne_7_0_0 : n_7_0_0 = List.length a_7_0) (k_7_0_0 : List.length a_7_0 ≤ c_7_0_0) (r_7_0_0 : Rd 4 T_api_Know.E m A_7_0_0 a_7_0) (ne_7_3_0 : n_7_3_0 = List.length a_7_3) (ne_11 : n_11 = List.length a_11) (ne_75 : n_75 = List.length a_75), f4.l0 (roadlaw4_CyclePlays.post W h0 m0 r) A_0 n_0 c_0 (some (⟨bk_7, 0, none⟩ : Addr)) x_10 A_11 n_11 c_11 A_75 n_75 c_75 x_76 x_77 h
  | .j4 a_0 a_7_0 a_7_1 a_7_2 a_7_3 x_7_4 x_7_5 x_10 a_11 y_13 x_15 a_75 x_76 x_77, r => ∀ (W : Nat → Prop) (h0 m0 h m : Heap) (A_0 : Option Addr) (n_0 c_0 : Nat) (bk_7 : Nat) (A_7_0_0 : Option Addr) (n_7_0_0 : Nat) (c_7_0_0 : Nat) (b_7_1_0 : Nat) (b_7_2_0 : Nat) (A_7_3_0 : Option Addr) (n_7_3_0 : Nat) (c_7_3_0 : Nat) (A_11 : Option Addr) (n_11 c_11 : Nat) (bk_13 : Nat) (cs_13 : List Value) (A_75 : Option Addr) (n_75 c_75 : Nat) (O : Hold W h0 m0 h m [rR (aE T_api_Know.T) A_0 c_0 a_0, rV bk_7 145 [(Value.slice A_7_0_0 n_7_0_0 c_7_0_0), (Value.map (some b_7_1_0)), (Value.map (some b_7_2_0)), (Value.slice A_7_3_0 n_7_3_0 c_7_3_0), (Value.int .i64 x_7_4), (Value.int .i64 x_7_5)], rM (monoV0 (tell_int .i64)) (fun n : Int => Value.int .i64 n) b_7_1_0 a_7_1, rM (monoV0 tell_bool) (fun n : Int => Value.int .i64 n) b_7_2_0 a_7_2, rR (aE (tell_int .i64)) A_7_3_0 c_7_3_0 a_7_3, rR (aE (tell_int .i64)) A_11 c_11 a_11, rV bk_13 23 cs_13, rR (aE (tell_row (tell_int .i64))) A_75 c_75 a_75]) (ne_0 : n_0 = List.length a_0) (ne_7_0_0 : n_7_0_0 = List.length a_7_0) (k_7_0_0 : List.length a_7_0 ≤ c_7_0_0) (r_7_0_0 : Rd 4 T_api_Know.E m A_7_0_0 a_7_0) (ne_7_3_0 : n_7_3_0 = List.length a_7_3) (ne_11 : n_11 = List.length a_11) (e_13 : (eRow 1 (eInt .i64)) m y_13 cs_13) (ne_75 : n_75 = List.length a_75), f4.j4 (roadlaw4_CyclePlays.post W h0 m0 r) A_0 n_0 c_0 (some (⟨bk_7, 0, none⟩ : Addr)) x_10 A_11 n_11 c_11 (⟨bk_13, 0, none⟩ : Addr) x_15 A_75 n_75 c_75 x_76 x_77 h
  | .j2 a_0 a_7_0 a_7_1 a_7_2 a_7_3 x_7_4 x_7_5 x_10 a_11 y_13 a_75 x_76 x_77, r => ∀ (W : Nat → Prop) (h0 m0 h m : Heap) (A_0 : Option Addr) (n_0 c_0 : Nat) (bk_7 : Nat) (A_7_0_0 : Option Addr) (n_7_0_0 : Nat) (c_7_0_0 : Nat) (b_7_1_0 : Nat) (b_7_2_0 : Nat) (A_7_3_0 : Option Addr) (n_7_3_0 : Nat) (c_7_3_0 : Nat) (A_11 : Option Addr) (n_11 c_11 : Nat) (bk_13 : Nat) (cs_13 : List Value) (A_75 : Option Addr) (n_75 c_75 : Nat) (O : Hold W h0 m0 h m [rR (aE T_api_Know.T) A_0 c_0 a_0, rV bk_7 145 [(Value.slice A_7_0_0 n_7_0_0 c_7_0_0), (Value.map (some b_7_1_0)), (Value.map (some b_7_2_0)), (Value.slice A_7_3_0 n_7_3_0 c_7_3_0), (Value.int .i64 x_7_4), (Value.int .i64 x_7_5)], rM (monoV0 (tell_int .i64)) (fun n : Int => Value.int .i64 n) b_7_1_0 a_7_1, rM (monoV0 tell_bool) (fun n : Int => Value.int .i64 n) b_7_2_0 a_7_2, rR (aE (tell_int .i64)) A_7_3_0 c_7_3_0 a_7_3, rR (aE (tell_int .i64)) A_11 c_11 a_11, rV bk_13 23 cs_13, rR (aE (tell_row (tell_int .i64))) A_75 c_75 a_75]) (ne_0 : n_0 = List.length a_0) (ne_7_0_0 : n_7_0_0 = List.length a_7_0) (k_7_0_0 : List.length a_7_0 ≤ c_7_0_0) (r_7_0_0 : Rd 4 T_api_Know.E m A_7_0_0 a_7_0) (ne_7_3_0 : n_7_3_0 = List.length a_7_3) (ne_11 : n_11 = List.length a_11) (e_13 : (eRow 1 (eInt .i64)) m y_13 cs_13) (ne_75 : n_75 = List.length a_75), f4.j2 (roadlaw4_CyclePlays.post W h0 m0 r) A_0 n_0 c_0 (some (⟨bk_7, 0, none⟩ : Addr)) x_10 A_11 n_11 c_11 (⟨bk_13, 0, none⟩ : Addr) A_75 n_75 c_75 x_76 x_77 h
  | .l1 a_0 a_7_0 a_7_1 a_7_2 a_7_3 x_7_4 x_7_5 x_10 a_11 y_13 a_16 a_17 a_18 a_75 x_76 x_77 x_105 x_106, r => ∀ (W : Nat → Prop) (h0 m0 h m : Heap) (A_0 : Option Addr) (n_0 c_0 : Nat) (bk_7 : Nat) (A_7_0_0 : Option Addr) (n_7_0_0 : Nat) (c_7_0_0 : Nat) (b_7_1_0 : Nat) (b_7_2_0 : Nat) (A_7_3_0 : Option Addr) (n_7_3_0 : Nat) (c_7_3_0 : Nat) (A_11 : Option Addr) (n_11 c_11 : Nat) (bk_13 : Nat) (cs_13 : List Value) (A_16 : Option Addr) (n_16 c_16 : Nat) (A_17 : Option Addr) (n_17 c_17 : Nat) (A_18 : Option Addr) (n_18 c_18 : Nat) (A_75 : Option Addr) (n_75 c_75 : Nat) (O : Hold W h0 m0 h m [rR (aE T_api_Know.T) A_0 c_0 a_0, rV bk_7 145 [(Value.slice A_7_0_0 n_7_0_0 c_7_0_0), (Value.map (some b_7_1_0)), (Value.map (some b_7_2_0)), (Value.slice A_7_3_0 n_7_3_0 c_7_3_0), (Value.int .i64 x_7_4), (Value.int .i64 x_7_5)], rM (monoV0 (tell_int .i64)) (fun n : Int => Value.int .i64 n) b_7_1_0 a_7_1, rM (monoV0 tell_bool) (fun n : Int => Value.int .i64 n) b_7_2_0 a_7_2, rR (aE (tell_int .i64)) A_7_3_0 c_7_3_0 a_7_3, rR (aE (tell_int .i64)) A_11 c_11 a_11, rV bk_13 23 cs_13, rR (aE (tell_int .i64)) A_16 c_16 a_16, rR (aE (tell_int .i64)) A_17 c_17 a_17, rR (aE (tell_int .i64)) A_18 c_18 a_18, rR (aE (tell_row (tell_int .i64))) A_75 c_75 a_75]) (ne_0 : n_0 = List.length a_0) (ne_7_0_0 : n_7_0_0 = List.length a_7_0) (k_7_0_0 : List.length a_7_0 ≤ c_7_0_0) (r_7_0_0 : Rd 4 T_api_Know.E m A_7_0_0 a_7_0) (ne_7_3_0 : n_7_3_0 = List.length a_7_3) (ne_11 : n_11 = List.length a_11) (e_13 : (eRow 1 (eInt .i64)) m y_13 cs_13) (ne_16 : n_16 = List.length a_16) (ne_17 : n_17 = List.length a_17) (ne_18 : n_18 = List.length a_18) (ne_75 : n_75 = List.length a_75), f4.l1 (roadlaw4_CyclePlays.post W h0 m0 r) A_0 n_0 c_0 (some (⟨bk_7, 0, none⟩ : Addr)) x_10 A_11 n_11 c_11 (⟨bk_13, 0, none⟩ : Addr) A_16 n_16 c_16 A_17 n_17 c_17 A_18 n_18 c_18 A_75 n_75 c_75 x_76 x_77 A_0 n_0 c_0 x_105 x_106 h
  | .l3 a_0 a_7_0 a_7_1 a_7_2 a_7_3 x_7_4 x_7_5 x_10 a_11 y_13 a_16 a_17 a_18 a_75 x_76 x_77 x_105 x_106 a_122 x_123 x_124, r => ∀ (W : Nat → Prop) (h0 m0 h m : Heap) (A_0 : Option Addr) (n_0 c_0 : Nat) (bk_7 : Nat) (A_7_0_0 : Option Addr) (n_7_0_0 : Nat) (c_7_0_0 : Nat) (b_7_1_0 : Nat) (b_7_2_0 : Nat) (A_7_3_0 : Option Addr) (n_7_3_0 : Nat) (c_7_3_0 : Nat) (A_11 : Option Addr) (n_11 c_11 : Nat) (bk_13 : Nat) (cs_13 : List Value) (A_16 : Option Addr) (n_16 c_16 : Nat) (A_17 : Option Addr) (n_17 c_17 : Nat) (A_18 : Option Addr) (n_18 c_18 : Nat) (A_75 : Option Addr) (n_75 c_75 : Nat) (A_122 : Option Addr) (n_122 c_122 : Nat) (O : Hold W h0 m0 h m [rR (aE T_api_Know.T) A_0 c_0 a_0, rV bk_7 145 [(Value.slice A_7_0_0 n_7_0_0 c_7_0_0), (Value.map (some b_7_1_0)), (Value.map (some b_7_2_0)), (Value.slice A_7_3_0 n_7_3_0 c_7_3_0), (Value.int .i64 x_7_4), (Value.int .i64 x_7_5)], rM (monoV0 (tell_int .i64)) (fun n : Int => Value.int .i64 n) b_7_1_0 a_7_1, rM (monoV0 tell_bool) (fun n : Int => Value.int .i64 n) b_7_2_0 a_7_2, rR (aE (tell_int .i64)) A_7_3_0 c_7_3_0 a_7_3, rR (aE (tell_int .i64)) A_11 c_11 a_11, rV bk_13 23 cs_13, rR (aE (tell_int .i64)) A_16 c_16 a_16, rR (aE (tell_int .i64)) A_17 c_17 a_17, rR (aE (tell_int .i64)) A_18 c_18 a_18, rR (aE (tell_row (tell_int .i64))) A_75 c_75 a_75]) (ne_0 : n_0 = List.length a_0) (ne_7_0_0 : n_7_0_0 = List.length a_7_0) (k_7_0_0 : List.length a_7_0 ≤ c_7_0_0) (r_7_0_0 : Rd 4 T_api_Know.E m A_7_0_0 a_7_0) (ne_7_3_0 : n_7_3_0 = List.length a_7_3) (ne_11 : n_11 = List.length a_11) (e_13 : (eRow 1 (eInt .i64)) m y_13 cs_13) (ne_16 : n_16 = List.length a_16) (ne_17 : n_17 = List.length a_17) (ne_18 : n_18 = List.length a_18) (ne_75 : n_75 = List.length a_75) (ne_122 : n_122 = List.length a_122) (k_122 : List.length a_122 ≤ c_122) (r_122 : Rd 1 (eInt .i64) m A_122 a_122), f4.l3 (roadlaw4_CyclePlays.post W h0 m0 r) A_0 n_0 c_0 (some (⟨bk_7, 0, none⟩ : Addr)) x_10 A_11 n_11 c_11 (⟨bk_13, 0, none⟩ : Addr) A_16 n_16 c_16 A_17 n_17 c_17 A_18 n_18 c_18 A_75 n_75 c_75 x_76 x_77 A_0 n_0 c_0 x_105 x_106 A_122 n_122 c_122 x_123 x_124 h
  | .j5 a_0 a_7_0 a_7_1 a_7_2 a_7_3 x_7_4 x_7_5 x_10 a_11 y_13 a_16 a_17 a_18 y_22 a_75 x_76 x_77 x_105 x_106 a_122 x_123 x_124 b_137, r => ∀ (W : Nat → Prop) (h0 m0 h m : Heap) (A_0 : Option Addr) (n_0 c_0 : Nat) (bk_7 : Nat) (A_7_0_0 : Option Addr) (n_7_0_0 : Nat) (c_7_0_0 : Nat) (b_7_1_0 : Nat) (b_7_2_0 : Nat) (A_7_3_0 : Option Addr) (n_7_3_0 : Nat) (c_7_3_0 : Nat) (A_11 : Option Addr) (n_11 c_11 : Nat) (bk_13 : Nat) (cs_13 : List Value) (A_16 : Option Addr) (n_16 c_16 : Nat) (A_17 : Option Addr) (n_17 c_17 : Nat) (A_18 : Option Addr) (n_18 c_18 : Nat) (bk_22 : Nat) (cs_22 : List Value) (A_75 : Option Addr) (n_75 c_75 : Nat) (A_122 : Option Addr) (n_122 c_122 : Nat) (O : Hold W h0 m0 h m [rR (aE T_api_Know.T) A_0 c_0 a_0, rV bk_7 145 [(Value.slice A_7_0_0 n_7_0_0 c_7_0_0), (Value.map (some b_7_1_0)), (Value.map (some b_7_2_0)), (Value.slice A_7_3_0 n_7_3_0 c_7_3_0), (Value.int .i64 x_7_4), (Value.int .i64 x_7_5)], rM (monoV0 (tell_int .i64)) (fun n : Int => Value.int .i64 n) b_7_1_0 a_7_1, rM (monoV0 tell_bool) (fun n : Int => Value.int .i64 n) b_7_2_0 a_7_2, rR (aE (tell_int .i64)) A_7_3_0 c_7_3_0 a_7_3, rR (aE (tell_int .i64)) A_11 c_11 a_11, rV bk_13 23 cs_13, rR (aE (tell_int .i64)) A_16 c_16 a_16, rR (aE (tell_int .i64)) A_17 c_17 a_17, rR (aE (tell_int .i64)) A_18 c_18 a_18, rV bk_22 3 cs_22, rR (aE (tell_row (tell_int .i64))) A_75 c_75 a_75]) (ne_0 : n_0 = List.length a_0) (ne_7_0_0 : n_7_0_0 = List.length a_7_0) (k_7_0_0 : List.length a_7_0 ≤ c_7_0_0) (r_7_0_0 : Rd 4 T_api_Know.E m A_7_0_0 a_7_0) (ne_7_3_0 : n_7_3_0 = List.length a_7_3) (ne_11 : n_11 = List.length a_11) (e_13 : (eRow 1 (eInt .i64)) m y_13 cs_13) (ne_16 : n_16 = List.length a_16) (ne_17 : n_17 = List.length a_17) (ne_18 : n_18 = List.length a_18) (e_22 : (eInt .i64) m y_22 cs_22) (ne_75 : n_75 = List.length a_75) (ne_122 : n_122 = List.length a_122) (k_122 : List.length a_122 ≤ c_122) (r_122 : Rd 1 (eInt .i64) m A_122 a_122), f4.j5 (roadlaw4_CyclePlays.post W h0 m0 r) A_0 n_0 c_0 (some (⟨bk_7, 0, none⟩ : Addr)) x_10 A_11 n_11 c_11 (⟨bk_13, 0, none⟩ : Addr) A_16 n_16 c_16 A_17 n_17 c_17 A_18 n_18 c_18 (⟨bk_22, 0, none⟩ : Addr) A_75 n_75 c_75 x_76 x_77 A_0 n_0 c_0 x_105 x_106 A_122 n_122 c_122 x_123 x_124 b_137 h
  | .l2 a_0 a_7_0 a_7_1 a_7_2 a_7_3 x_7_4 x_7_5 x_10 a_11 a_17 a_18 a_23 a_75 x_76 x_77 x_150 x_151, r => ∀ (W : Nat → Prop) (h0 m0 h m : Heap) (A_0 : Option Addr) (n_0 c_0 : Nat) (bk_7 : Nat) (A_7_0_0 : Option Addr) (n_7_0_0 : Nat) (c_7_0_0 : Nat) (b_7_1_0 : Nat) (b_7_2_0 : Nat) (A_7_3_0 : Option Addr) (n_7_3_0 : Nat) (c_7_3_0 : Nat) (A_11 : Option Addr) (n_11 c_11 : Nat) (A_17 : Option Addr) (n_17 c_17 : Nat) (A_18 : Option Addr) (n_18 c_18 : Nat) (A_23 : Option Addr) (n_23 c_23 : Nat) (A_75 : Option Addr) (n_75 c_75 : Nat) (O : Hold W h0 m0 h m [rR (aE T_api_Know.T) A_0 c_0 a_0, rV bk_7 145 [(Value.slice A_7_0_0 n_7_0_0 c_7_0_0), (Value.map (some b_7_1_0)), (Value.map (some b_7_2_0)), (Value.slice A_7_3_0 n_7_3_0 c_7_3_0), (Value.int .i64 x_7_4), (Value.int .i64 x_7_5)], rM (monoV0 (tell_int .i64)) (fun n : Int => Value.int .i64 n) b_7_1_0 a_7_1, rM (monoV0 tell_bool) (fun n : Int => Value.int .i64 n) b_7_2_0 a_7_2, rR (aE (tell_int .i64)) A_7_3_0 c_7_3_0 a_7_3, rR (aE (tell_int .i64)) A_11 c_11 a_11, rR (aE (tell_int .i64)) A_17 c_17 a_17, rR (aE (tell_int .i64)) A_18 c_18 a_18, rR (aE (tell_int .i64)) A_23 c_23 a_23, rR (aE (tell_row (tell_int .i64))) A_75 c_75 a_75]) (ne_0 : n_0 = List.length a_0) (ne_7_0_0 : n_7_0_0 = List.length a_7_0) (k_7_0_0 : List.length a_7_0 ≤ c_7_0_0) (r_7_0_0 : Rd 4 T_api_Know.E m A_7_0_0 a_7_0) (ne_7_3_0 : n_7_3_0 = List.length a_7_3) (ne_11 : n_11 = List.length a_11) (ne_17 : n_17 = List.length a_17) (ne_18 : n_18 = List.length a_18) (ne_23 : n_23 = List.length a_23) (ne_75 : n_75 = List.length a_75), f4.l2 (roadlaw4_CyclePlays.post W h0 m0 r) A_0 n_0 c_0 (some (⟨bk_7, 0, none⟩ : Addr)) x_10 A_11 n_11 c_11 A_17 n_17 c_17 A_18 n_18 c_18 A_23 n_23 c_23 A_75 n_75 c_75 x_76 x_77 A_18 n_18 c_18 x_150 x_151 h
  | .j3 a_0 a_7_0 a_7_1 a_7_2 a_7_3 x_7_4 x_7_5 x_10 a_11 a_17 a_18 a_75 x_76 x_77, r => ∀ (W : Nat → Prop) (h0 m0 h m : Heap) (A_0 : Option Addr) (n_0 c_0 : Nat) (bk_7 : Nat) (A_7_0_0 : Option Addr) (n_7_0_0 : Nat) (c_7_0_0 : Nat) (b_7_1_0 : Nat) (b_7_2_0 : Nat) (A_7_3_0 : Option Addr) (n_7_3_0 : Nat) (c_7_3_0 : Nat) (A_11 : Option Addr) (n_11 c_11 : Nat) (A_17 : Option Addr) (n_17 c_17 : Nat) (A_18 : Option Addr) (n_18 c_18 : Nat) (A_75 : Option Addr) (n_75 c_75 : Nat) (O : Hold W h0 m0 h m [rR (aE T_api_Know.T) A_0 c_0 a_0, rV bk_7 145 [(Value.slice A_7_0_0 n_7_0_0 c_7_0_0), (Value.map (some b_7_1_0)), (Value.map (some b_7_2_0)), (Value.slice A_7_3_0 n_7_3_0 c_7_3_0), (Value.int .i64 x_7_4), (Value.int .i64 x_7_5)], rM (monoV0 (tell_int .i64)) (fun n : Int => Value.int .i64 n) b_7_1_0 a_7_1, rM (monoV0 tell_bool) (fun n : Int => Value.int .i64 n) b_7_2_0 a_7_2, rR (aE (tell_int .i64)) A_7_3_0 c_7_3_0 a_7_3, rR (aE (tell_int .i64)) A_11 c_11 a_11, rR (aE (tell_int .i64)) A_17 c_17 a_17, rR (aE (tell_int .i64)) A_18 c_18 a_18, rR (aE (tell_row (tell_int .i64))) A_75 c_75 a_75]) (ne_0 : n_0 = List.length a_0) (ne_7_0_0 : n_7_0_0 = List.length a_7_0) (k_7_0_0 : List.length a_7_0 ≤ c_7_0_0) (r_7_0_0 : Rd 4 T_api_Know.E m A_7_0_0 a_7_0) (ne_7_3_0 : n_7_3_0 = List.length a_7_3) (ne_11 : n_11 = List.length a_11) (ne_17 : n_17 = List.length a_17) (ne_18 : n_18 = List.length a_18) (ne_75 : n_75 = List.length a_75), f4.j3 (roadlaw4_CyclePlays.post W h0 m0 r) A_0 n_0 c_0 (some (⟨bk_7, 0, none⟩ : Addr)) x_10 A_11 n_11 c_11 A_17 n_17 c_17 A_18 n_18 c_18 A_75 n_75 c_75 x_76 x_77 h
set_option maxHeartbeats 4000000 in
set_option maxRecDepth 100000 in
theorem roadlaw4_CyclePlays.l0_k.step_l0 (go : (p : roadlaw4_CyclePlays.l0_k.Pt) → Option (Bool)) (ih : ∀ p r, go p = some r → roadlaw4_CyclePlays.l0_k.I p r) (a_0 : List T_api_Know) (a_7_0 : (List T_api_Know)) (a_7_1 : (List (Int × Int))) (a_7_2 : (List (Int × Bool))) (a_7_3 : (List Int)) (x_7_4 : Int) (x_7_5 : Int) (x_10 : Int) (a_11 : List Int) (a_75 : List (List Int)) (x_76 : Int) (x_77 : Int) (r : Bool) (e : roadlaw4_CyclePlays.l0_k.body go (.l0 a_0 a_7_0 a_7_1 a_7_2 a_7_3 x_7_4 x_7_5 x_10 a_11 a_75 x_76 x_77) = some r) : roadlaw4_CyclePlays.l0_k.I (.l0 a_0 a_7_0 a_7_1 a_7_2 a_7_3 x_7_4 x_7_5 x_10 a_11 a_75 x_76 x_77) r := by
  unfold roadlaw4_CyclePlays.l0_k.body at e
  intro W h0 m0 h m A_0 n_0 c_0 bk_7 A_7_0_0 n_7_0_0 c_7_0_0 b_7_1_0 b_7_2_0 A_7_3_0 n_7_3_0 c_7_3_0 A_11 n_11 c_11 A_75 n_75 c_75 O ne_0 ne_7_0_0 k_7_0_0 r_7_0_0 ne_7_3_0 ne_11 ne_75
  subst ne_0
  subst ne_7_0_0
  subst ne_7_3_0
  subst ne_11
  subst ne_75
  refine f4.l0_in ?_
  unfold f4.l0T
  refine split_dec_e e (fun c58 e => ?_) (fun c58 e => ?_)
  · obtain ⟨y1, g2, e⟩ := bind_e e
    refine (O.os 6 rfl).addr rfl g2 fun a3 cs4 ha5 hc6 he7 => ?_
    obtain ⟨Acs4_0, ccs4_0, rfl, kcs4_0, rcs4_0⟩ := id he7
    refine ⟨_, ld0 (Sub.refl _) hc6 rfl, _, _, _, rfl, ?_⟩
    refine O.new fun h8 x9 O10 => ?_
    refine O10.st0 7 rfl (Nat.le_of_ble_eq_true rfl) trivial fun h12 O13 => ?_
    refine ⟨_, ld0 (Sub.refl _) (O13.all 7 rfl) rfl, _, _, _, rfl, ?_⟩
    obtain ⟨y14, g15, e⟩ := bind_e e
    refine (roadlaw4_at.walk (Hold.start (W := No) O13.s) rfl kcs4_0 rcs4_0 g15).mono ?_
    rintro _ h16 ⟨m17, Q18, rfl⟩
    have O20 := Hold.nm (O13.retC Q18 vfs_nil)
    refine ⟨_, rfl, ?_⟩
    refine split_eq_e e (fun c57 e => ?_) (fun c57 e => ?_)
    · obtain ⟨y21, g22, e⟩ := bind_e e
      obtain ⟨m27, u28, s34, ⟨⟨r31, k32⟩, hb33, _⟩, B29, C30⟩ := O20.lend0 [0, 7]
      replace r31 : Rd 4 T_api_Know.E m27 A_0 a_0 := r31
      replace k32 : List.length a_0 ≤ c_0 := k32
      refine (slices_IndexFunc_21.walk (Hold.start (W := No) s34) rfl k32 r31 (fun h36 m37 u38 s39 y42 cs42 he42 r40 e41 => CallF.of [Value.agg cs42.toArray, Value.pointer (some ⟨(Array.size h), 0, none⟩)] f22.ok rfl ((roadlaw4_CyclePlays_1.walk (Hold.start (W := No) s39) he42 (VB.sub (show VB (eRow 1 (eInt .i64)) _ _ _ from ⟨_, _, hb33, nn, ⟨_, _, rfl, kcs4_0, (rcs4_0.sub (tell_int .i64) u28)⟩⟩) (tell_row (tell_int .i64)) u38) e41).mono (fun _ _ h => let ⟨_, t, e⟩ := h; ⟨e, t.S.ext⟩))) g22).mono ?_
      rintro _ h23 ⟨m24, Q25, rfl⟩
      have O43 := Hold.nm (C30 Q25 vfs_nil)
      refine ⟨_, rfl, ?_⟩
      refine split_dec_e e (fun c56 e => ?_) (fun c56 e => ?_)
      · obtain ⟨y44, g45, e⟩ := bind_e e
        refine (O43.os 0 rfl).addr rfl g45 fun a46 cs47 ha48 hc49 he50 => ?_
        obtain ⟨l53, g54, e⟩ := bind_e e
        replace g54 := Option.some.inj g54
        refine O43.elst 0 rfl g45 ha48 hc49 2 (by decide) (y' := ({ y44 with Root := true })) (T_api_Know.s2 he50 true) trivial g54 fun h51 O52 => ?_
        have O55 := O52.nm
        exact (ih _ _ e) _ _ _ _ _ _ _ _ _ _ _ _ _ _ _ _ _ _ _ _ _ _ _ _ _ (O55.pick [0, 1, 2, 3, 4, 5, 7, 6]).nm (lset' g54) rfl k_7_0_0 r_7_0_0 rfl rfl ⟨_, _, rfl, kcs4_0, rcs4_0⟩ rfl
      · exact (ih _ _ e) _ _ _ _ _ _ _ _ _ _ _ _ _ _ _ _ _ _ _ _ _ _ _ _ _ (O43.pick [0, 1, 2, 3, 4, 5, 7, 6]).nm rfl rfl k_7_0_0 r_7_0_0 rfl rfl ⟨_, _, rfl, kcs4_0, rcs4_0⟩ rfl
    · exact (ih _ _ e) _ _ _ _ _ _ _ _ _ _ _ _ _ _ _ _ _ _ _ _ _ _ _ _ _ (O20.pick [0, 1, 2, 3, 4, 5, 7, 6]).nm rfl rfl k_7_0_0 r_7_0_0 rfl rfl ⟨_, _, rfl, kcs4_0, rcs4_0⟩ rfl
  · cases e
    exact ⟨_, O.pick [], rfl⟩
set_option maxRecDepth 100000 in
theorem roadlaw4_CyclePlays.l0_k.step_j4 (go : (p : roadlaw4_CyclePlays.l0_k.Pt) → Option (Bool)) (ih : ∀ p r, go p = some r → roadlaw4_CyclePlays.l0_k.I p r) (a_0 : List T_api_Know) (a_7_0 : (List T_api_Know)) (a_7_1 : (List (Int × Int))) (a_7_2 : (List (Int × Bool))) (a_7_3 : (List Int)) (x_7_4 : Int) (x_7_5 : Int) (x_10 : Int) (a_11 : List Int) (y_13 : (List Int)) (x_15 : Int) (a_75 : List (List Int)) (x_76 : Int) (x_77 : Int) (r : Bool) (e : roadlaw4_CyclePlays.l0_k.body go (.j4 a_0 a_7_0 a_7_1 a_7_2 a_7_3 x_7_4 x_7_5 x_10 a_11 y_13 x_15 a_75 x_76 x_77) = some r) : roadlaw4_CyclePlays.l0_k.I (.j4 a_0 a_7_0 a_7_1 a_7_2 a_7_3 x_7_4 x_7_5 x_10 a_11 y_13 x_15 a_75 x_76 x_77) r := by
  unfold roadlaw4_CyclePlays.l0_k.body at e
  intro W h0 m0 h m A_0 n_0 c_0 bk_7 A_7_0_0 n_7_0_0 c_7_0_0 b_7_1_0 b_7_2_0 A_7_3_0 n_7_3_0 c_7_3_0 A_11 n_11 c_11 bk_13 cs_13 A_75 n_75 c_75 O ne_0 ne_7_0_0 k_7_0_0 r_7_0_0 ne_7_3_0 ne_11 e_13 ne_75
  subst ne_0
  subst ne_7_0_0
  subst ne_7_3_0
  subst ne_11
  obtain ⟨Ae_13_0, ce_13_0, rfl, ke_13_0, re_13_0⟩ := id e_13
  subst ne_75
  refine f4.j4_in ?_
  unfold f4.j4T
  refine ⟨_, ld0 (Sub.refl _) (O.all 6 rfl) rfl, _, _, _, rfl, ?_⟩
  obtain ⟨y1, g2, e⟩ := bind_e e
  refine (roadlaw4_at.walk (Hold.start (W := No) O.s) rfl ke_13_0 re_13_0 g2).mono ?_
  rintro _ h3 ⟨m4, Q5, rfl⟩
  have O7 := Hold.nm (O.retC Q5 vfs_nil)
  refine ⟨_, rfl, ?_⟩
  obtain ⟨y8, g9, e⟩ := bind_e e
  obtain ⟨W14, P15, B16, C17⟩ := O7.callC [1, 2, 3, 4]
  refine (cycle_Node_Come.walk (y_0 := (T_cycle_Node.mk a_7_0 a_7_1 a_7_2 a_7_3 x_7_4 x_7_5)) P15 rfl k_7_0_0 r_7_0_0 rfl g9).mono ?_
  rintro _ h10 ⟨m11, A_18_0, n_18_0, c_18_0, b_18_1, b_18_2, A_18_3, n_18_3, c_18_3, Q12, rfl, ne_18_0, k_18_0, r_18_0, ne_18_3⟩
  have O22 := Hold.nm (B16 Q12)
  subst ne_18_0
  subst ne_18_3
  refine ⟨_, rfl, ?_⟩
  refine split_ne_e e (fun c23 e => ?_) (fun c23 e => ?_)
  · cases e
    exact ⟨_, O22.pick [], rfl⟩
  · exact (ih _ _ e) _ _ _ _ _ _ _ _ _ _ _ _ _ _ _ _ _ _ _ _ _ _ _ _ _ (O22.pick [0, 8, 9, 10, 11, 5, 6, 7]).nm rfl rfl k_18_0 r_18_0 rfl rfl ⟨_, _, rfl, ke_13_0, (re_13_0.sub (tell_int .i64) Q12.S.up)⟩ rfl
set_option maxRecDepth 100000 in
theorem roadlaw4_CyclePlays.l0_k.step_j2 (go : (p : roadlaw4_CyclePlays.l0_k.Pt) → Option (Bool)) (ih : ∀ p r, go p = some r → roadlaw4_CyclePlays.l0_k.I p r) (a_0 : List T_api_Know) (a_7_0 : (List T_api_Know)) (a_7_1 : (List (Int × Int))) (a_7_2 : (List (Int × Bool))) (a_7_3 : (List Int)) (x_7_4 : Int) (x_7_5 : Int) (x_10 : Int) (a_11 : List Int) (y_13 : (List Int)) (a_75 : List (List Int)) (x_76 : Int) (x_77 : Int) (r : Bool) (e : roadlaw4_CyclePlays.l0_k.body go (.j2 a_0 a_7_0 a_7_1 a_7_2 a_7_3 x_7_4 x_7_5 x_10 a_11 y_13 a_75 x_76 x_77) = some r) : roadlaw4_CyclePlays.l0_k.I (.j2 a_0 a_7_0 a_7_1 a_7_2 a_7_3 x_7_4 x_7_5 x_10 a_11 y_13 a_75 x_76 x_77) r := by
  unfold roadlaw4_CyclePlays.l0_k.body at e
  intro W h0 m0 h m A_0 n_0 c_0 bk_7 A_7_0_0 n_7_0_0 c_7_0_0 b_7_1_0 b_7_2_0 A_7_3_0 n_7_3_0 c_7_3_0 A_11 n_11 c_11 bk_13 cs_13 A_75 n_75 c_75 O ne_0 ne_7_0_0 k_7_0_0 r_7_0_0 ne_7_3_0 ne_11 e_13 ne_75
  subst ne_0
  subst ne_7_0_0
  subst ne_7_3_0
  subst ne_11
  obtain ⟨Ae_13_0, ce_13_0, rfl, ke_13_0, re_13_0⟩ := id e_13
  subst ne_75
  refine f4.j2_in ?_
  unfold f4.j2T
  obtain ⟨y1, g2, e⟩ := bind_e e
  obtain ⟨m7, u8, s13, ⟨⟨r11, k12⟩, _⟩, B9, C10⟩ := O.lend0 [0]
  replace r11 : Rd 4 T_api_Know.E m7 A_0 a_0 := r11
  replace k12 : List.length a_0 ≤ c_0 := k12
  refine (roadref4_Alive.walk (Hold.start (W := No) s13) rfl k12 r11 g2).mono ?_
  rintro _ h3 ⟨m4, A14, n15, c16, Q5, rfl, ne17⟩
  have O19 := Hold.nm (C10 Q5 (vfs_cons (rR_vf (aE_vf (fun _ _ _ _ h => h))) vfs_nil))
  subst ne17
  refine ⟨_, _, _, rfl, ?_⟩
  have O20 := O19.nil (aE (tell_int .i64)) none
  have O22 := O20.nil (aE (tell_int .i64)) none
  have O24 := O22.nm
  exact (ih _ _ e) _ _ _ _ _ _ _ _ _ _ _ _ _ _ _ _ _ _ _ _ _ _ _ _ _ _ _ _ _ _ _ _ _ _ (O24.pick [0, 1, 2, 3, 4, 5, 6, 8, 9, 10, 7]).nm rfl rfl k_7_0_0 r_7_0_0 rfl rfl ⟨_, _, rfl, ke_13_0, re_13_0⟩ rfl rfl rfl rfl
set_option maxHeartbeats 4000000 in
set_option maxRecDepth 100000 in
theorem roadlaw4_CyclePlays.l0_k.step_l1 (go : (p : roadlaw4_CyclePlays.l0_k.Pt) → Option (Bool)) (ih : ∀ p r, go p = some r → roadlaw4_CyclePlays.l0_k.I p r) (a_0 : List T_api_Know) (a_7_0 : (List T_api_Know)) (a_7_1 : (List (Int × Int))) (a_7_2 : (List (Int × Bool))) (a_7_3 : (List Int)) (x_7_4 : Int) (x_7_5 : Int) (x_10 : Int) (a_11 : List Int) (y_13 : (List Int)) (a_16 : List Int) (a_17 : List Int) (a_18 : List Int) (a_75 : List (List Int)) (x_76 : Int) (x_77 : Int) (x_105 : Int) (x_106 : Int) (r : Bool) (e : roadlaw4_CyclePlays.l0_k.body go (.l1 a_0 a_7_0 a_7_1 a_7_2 a_7_3 x_7_4 x_7_5 x_10 a_11 y_13 a_16 a_17 a_18 a_75 x_76 x_77 x_105 x_106) = some r) : roadlaw4_CyclePlays.l0_k.I (.l1 a_0 a_7_0 a_7_1 a_7_2 a_7_3 x_7_4 x_7_5 x_10 a_11 y_13 a_16 a_17 a_18 a_75 x_76 x_77 x_105 x_106) r := by
  unfold roadlaw4_CyclePlays.l0_k.body at e
  intro W h0 m0 h m A_0 n_0 c_0 bk_7 A_7_0_0 n_7_0_0 c_7_0_0 b_7_1_0 b_7_2_0 A_7_3_0 n_7_3_0 c_7_3_0 A_11 n_11 c_11 bk_13 cs_13 A_16 n_16 c_16 A_17 n_17 c_17 A_18 n_18 c_18 A_75 n_75 c_75 O ne_0 ne_7_0_0 k_7_0_0 r_7_0_0 ne_7_3_0 ne_11 e_13 ne_16 ne_17 ne_18 ne_75
  subst ne_0
  subst ne_7_0_0
  subst ne_7_3_0
  subst ne_11
  obtain ⟨Ae_13_0, ce_13_0, rfl, ke_13_0, re_13_0⟩ := id e_13
  subst ne_16
  subst ne_17
  subst ne_18
  subst ne_75
  refine f4.l1_in ?_
  unfold f4.l1T
  refine split_dec_e e (fun c65 e => ?_) (fun c65 e => ?_)
  · obtain ⟨y1, g2, e⟩ := bind_e e
    refine (O.os 0 rfl).addr rfl g2 fun a3 cs4 ha5 hc6 he7 => ?_
    refine ⟨_, ldAn (Sub.refl _) hc6 rfl, ?_⟩
    refine O.new fun h8 x9 O10 => ?_
    refine ⟨_, rfl, (T_api_Know.T.len _ _ _ he7), ?_⟩
    refine O10.stA 11 rfl (T_api_Know.T.len _ _ _ he7) (T_api_Know.T.flat _ _ _ he7) fun h12 O13 => ?_
    obtain ⟨y14, g15, e⟩ := bind_e e
    refine (O13.os 7 rfl).addr rfl g15 fun a16 cs17 ha18 hc19 he20 => ?_
    obtain rfl : cs17 = [(Value.int .i64 y14)] := he20
    refine ⟨_, ld0 (Sub.refl _) hc19 rfl, _, rfl, ?_⟩
    refine split_dec_e e (fun c41 e => ?_) (fun c41 e => ?_)
    · refine ⟨_, ld0 (Sub.refl _) (O13.all 11 rfl) (T_api_Know.g0 he7), _, rfl, ?_⟩
      refine O13.new fun h21 x22 O23 => ?_
      obtain ⟨l25, g26, e⟩ := bind_e e
      have O33 := O23.rowE (l := ([y1.Ref] : List Int)) 12 rfl (tell_int .i64) (show CsE _ _ _ _ _ from (CsE.cons (c1 := [(Value.int .i64 y1.Ref)]) rfl rfl CsE.nil)) rfl
      refine O33.app 8 rfl rfl rfl ((O33.os 12 rfl).srcE rfl) (by decide) g26 fun A27 c28 h29 O30 => ?_
      refine ⟨_, _, _, rfl, ?_⟩
      have O34 := O30.nm
      exact (ih _ _ e) _ _ _ _ _ _ _ _ _ _ _ _ _ _ _ _ _ _ _ _ _ _ _ _ _ _ _ _ _ _ _ _ _ _ (O34.pick [0, 1, 2, 3, 4, 5, 6, 7, 8, 9, 10]).nm rfl rfl k_7_0_0 r_7_0_0 rfl rfl ⟨_, _, rfl, ke_13_0, re_13_0⟩ rfl rfl rfl rfl
    · obtain ⟨A35, c36, q37, k38, r39⟩ := T_api_Know.g3 he7
      refine ⟨_, ldk (k := 3) (Sub.refl _) (O13.all 11 rfl) q37, _, _, _, rfl, ?_⟩
      have O40 := O13.nm
      exact (ih _ _ e) _ _ _ _ _ _ _ _ _ _ _ _ _ _ _ _ _ _ _ _ _ _ _ _ _ _ _ _ _ _ _ _ _ _ _ _ _ (O40.pick [0, 1, 2, 3, 4, 5, 6, 7, 8, 9, 10]).nm rfl rfl k_7_0_0 r_7_0_0 rfl rfl ⟨_, _, rfl, ke_13_0, re_13_0⟩ rfl rfl rfl rfl rfl k38 r39
  · obtain ⟨y42, g43, e⟩ := bind_e e
    obtain ⟨W48, P49, B50, C51⟩ := O.callC [8]
    refine (slices_Sort_14.walk P49 rfl g43).mono ?_
    rintro _ h44 ⟨m45, Q46, rfl, hl52⟩
    have O53 := Hold.nm (C51 Q46 (vfs_cons (rR_vf (aE_vf (fun _ _ _ _ h => h))) vfs_nil))
    refine ⟨rfl, ?_⟩
    refine ⟨_, ld0 (Sub.refl _) (O53.all 6 rfl) rfl, _, _, _, rfl, ?_⟩
    obtain ⟨y54, g55, e⟩ := bind_e e
    refine (roadlaw4_at.walk (Hold.start (W := No) O53.s) rfl ke_13_0 re_13_0 g55).mono ?_
    rintro _ h56 ⟨m57, Q58, rfl⟩
    have O60 := Hold.nm (O53.retC Q58 vfs_nil)
    refine ⟨_, rfl, ?_⟩
    refine split_eq_e e (fun c64 e => ?_) (fun c64 e => ?_)
    · have O61 := O60.nil (aE (tell_int .i64)) none
      have O63 := O61.nm
      exact (ih _ _ e) _ _ _ _ _ _ _ _ _ _ _ _ _ _ _ _ _ _ _ _ _ _ _ _ _ _ _ _ _ _ _ _ (O63.pick [0, 1, 2, 3, 4, 5, 11, 9, 12, 10]).nm rfl rfl k_7_0_0 r_7_0_0 rfl rfl hl52 rfl rfl rfl
    · exact (ih _ _ e) _ _ _ _ _ _ _ _ _ _ _ _ _ _ _ _ _ _ _ _ _ _ _ _ _ _ _ _ _ (O60.pick [0, 1, 2, 3, 4, 5, 11, 9, 10]).nm rfl rfl k_7_0_0 r_7_0_0 rfl rfl hl52 rfl rfl
set_option maxRecDepth 100000 in
theorem roadlaw4_CyclePlays.l0_k.step_l3 (go : (p : roadlaw4_CyclePlays.l0_k.Pt) → Option (Bool)) (ih : ∀ p r, go p = some r → roadlaw4_CyclePlays.l0_k.I p r) (a_0 : List T_api_Know) (a_7_0 : (List T_api_Know)) (a_7_1 : (List (Int × Int))) (a_7_2 : (List (Int × Bool))) (a_7_3 : (List Int)) (x_7_4 : Int) (x_7_5 : Int) (x_10 : Int) (a_11 : List Int) (y_13 : (List Int)) (a_16 : List Int) (a_17 : List Int) (a_18 : List Int) (a_75 : List (List Int)) (x_76 : Int) (x_77 : Int) (x_105 : Int) (x_106 : Int) (a_122 : List Int) (x_123 : Int) (x_124 : Int) (r : Bool) (e : roadlaw4_CyclePlays.l0_k.body go (.l3 a_0 a_7_0 a_7_1 a_7_2 a_7_3 x_7_4 x_7_5 x_10 a_11 y_13 a_16 a_17 a_18 a_75 x_76 x_77 x_105 x_106 a_122 x_123 x_124) = some r) : roadlaw4_CyclePlays.l0_k.I (.l3 a_0 a_7_0 a_7_1 a_7_2 a_7_3 x_7_4 x_7_5 x_10 a_11 y_13 a_16 a_17 a_18 a_75 x_76 x_77 x_105 x_106 a_122 x_123 x_124) r := by
  unfold roadlaw4_CyclePlays.l0_k.body at e
  intro W h0 m0 h m A_0 n_0 c_0 bk_7 A_7_0_0 n_7_0_0 c_7_0_0 b_7_1_0 b_7_2_0 A_7_3_0 n_7_3_0 c_7_3_0 A_11 n_11 c_11 bk_13 cs_13 A_16 n_16 c_16 A_17 n_17 c_17 A_18 n_18 c_18 A_75 n_75 c_75 A_122 n_122 c_122 O ne_0 ne_7_0_0 k_7_0_0 r_7_0_0 ne_7_3_0 ne_11 e_13 ne_16 ne_17 ne_18 ne_75 ne_122 k_122 r_122
  subst ne_0
  subst ne_7_0_0
  subst ne_7_3_0
  subst ne_11
  obtain ⟨Ae_13_0, ce_13_0, rfl, ke_13_0, re_13_0⟩ := id e_13
  subst ne_16
  subst ne_17
  subst ne_18
  subst ne_75
  subst ne_122
  refine f4.l3_in ?_
  unfold f4.l3T
  refine split_dec_e e (fun c53 e => ?_) (fun c53 e => ?_)
  · obtain ⟨y1, g2, e⟩ := bind_e e
    refine r_122.addr rfl g2 fun a3 cs4 ha5 hc6 he7 => ?_
    obtain rfl : cs4 = [(Value.int .i64 y1)] := he7
    refine ⟨_, ld0 O.s hc6 rfl, _, rfl, ?_⟩
    refine O.new fun h8 x9 O10 => ?_
    refine O10.st0 11 rfl (Nat.le_of_ble_eq_true rfl) trivial fun h12 O13 => ?_
    refine ⟨_, ld0 (Sub.refl _) (O13.all 11 rfl) rfl, _, rfl, ?_⟩
    obtain ⟨y14, g15, e⟩ := bind_e e
    have O20 := O13.nm
    obtain ⟨m21, u22, s27, ⟨⟨r25, k26⟩, _⟩, B23, C24⟩ := O20.lend0 [9]
    replace r25 : Rd 1 (eInt .i64) m21 A_18 a_18 := r25
    replace k26 : List.length a_18 ≤ c_18 := k26
    refine (slices_Contains_24.walk (Hold.start (W := No) s27) rfl k26 r25 g15).mono ?_
    rintro _ h16 ⟨m17, Q18, rfl⟩
    have O28 := Hold.nm (C24 Q18 vfs_nil)
    refine ⟨_, rfl, ?_⟩
    refine split_not ?_
    refine split_any_e e (fun c52 e => ?_) (fun c52 e => ?_)
    · exact (ih _ _ e) _ _ _ _ _ _ _ _ _ _ _ _ _ _ _ _ _ _ _ _ _ _ _ _ _ _ _ _ _ _ _ _ _ _ _ _ _ _ _ (O28.pick [0, 1, 2, 3, 4, 5, 6, 7, 8, 9, 11, 10]).nm rfl rfl k_7_0_0 r_7_0_0 rfl rfl ⟨_, _, rfl, ke_13_0, re_13_0⟩ rfl rfl rfl rfl rfl rfl k_122 r_122
    · obtain ⟨y29, g30, e⟩ := bind_e e
      obtain ⟨m35, u36, s42, ⟨⟨r39, k40⟩, hb41, _⟩, B37, C38⟩ := O28.lend0 [0, 11]
      replace r39 : Rd 4 T_api_Know.E m35 A_0 a_0 := r39
      replace k40 : List.length a_0 ≤ c_0 := k40
      refine (slices_ContainsFunc_25.walk (Hold.start (W := No) s42) rfl k40 r39 (fun h44 m45 u46 s47 y50 cs50 he50 r48 e49 => CallF.of [Value.agg cs50.toArray, Value.pointer (some ⟨(Array.size h), 0, none⟩)] f26.ok rfl ((roadlaw4_CyclePlays_2.walk (Hold.start (W := No) s47) he50 (VB.sub (show VB (eInt .i64) _ _ _ from ⟨_, _, hb41, nn, rfl⟩) (tell_int .i64) u46) e49).mono (fun _ _ h => let ⟨_, t, e⟩ := h; ⟨e, t.S.ext⟩))) g30).mono ?_
      rintro _ h31 ⟨m32, Q33, rfl⟩
      have O51 := Hold.nm (C38 Q33 vfs_nil)
      refine ⟨_, rfl, ?_⟩
      exact (ih _ _ e) _ _ _ _ _ _ _ _ _ _ _ _ _ _ _ _ _ _ _ _ _ _ _ _ _ _ _ _ _ _ _ _ _ _ _ _ _ _ _ (O51.pick [0, 1, 2, 3, 4, 5, 6, 7, 8, 9, 11, 10]).nm rfl rfl k_7_0_0 r_7_0_0 rfl rfl ⟨_, _, rfl, ke_13_0, re_13_0⟩ rfl rfl rfl rfl rfl rfl k_122 r_122
  · exact (ih _ _ e) _ _ _ _ _ _ _ _ _ _ _ _ _ _ _ _ _ _ _ _ _ _ _ _ _ _ _ _ _ _ _ _ _ _ (O.pick [0, 1, 2, 3, 4, 5, 6, 7, 8, 9, 10]).nm rfl rfl k_7_0_0 r_7_0_0 rfl rfl ⟨_, _, rfl, ke_13_0, re_13_0⟩ rfl rfl rfl rfl
set_option maxRecDepth 100000 in
theorem roadlaw4_CyclePlays.l0_k.step_j5 (go : (p : roadlaw4_CyclePlays.l0_k.Pt) → Option (Bool)) (ih : ∀ p r, go p = some r → roadlaw4_CyclePlays.l0_k.I p r) (a_0 : List T_api_Know) (a_7_0 : (List T_api_Know)) (a_7_1 : (List (Int × Int))) (a_7_2 : (List (Int × Bool))) (a_7_3 : (List Int)) (x_7_4 : Int) (x_7_5 : Int) (x_10 : Int) (a_11 : List Int) (y_13 : (List Int)) (a_16 : List Int) (a_17 : List Int) (a_18 : List Int) (y_22 : Int) (a_75 : List (List Int)) (x_76 : Int) (x_77 : Int) (x_105 : Int) (x_106 : Int) (a_122 : List Int) (x_123 : Int) (x_124 : Int) (b_137 : Bool) (r : Bool) (e : roadlaw4_CyclePlays.l0_k.body go (.j5 a_0 a_7_0 a_7_1 a_7_2 a_7_3 x_7_4 x_7_5 x_10 a_11 y_13 a_16 a_17 a_18 y_22 a_75 x_76 x_77 x_105 x_106 a_122 x_123 x_124 b_137) = some r) : roadlaw4_CyclePlays.l0_k.I (.j5 a_0 a_7_0 a_7_1 a_7_2 a_7_3 x_7_4 x_7_5 x_10 a_11 y_13 a_16 a_17 a_18 y_22 a_75 x_76 x_77 x_105 x_106 a_122 x_123 x_124 b_137) r := by
  unfold roadlaw4_CyclePlays.l0_k.body at e
  intro W h0 m0 h m A_0 n_0 c_0 bk_7 A_7_0_0 n_7_0_0 c_7_0_0 b_7_1_0 b_7_2_0 A_7_3_0 n_7_3_0 c_7_3_0 A_11 n_11 c_11 bk_13 cs_13 A_16 n_16 c_16 A_17 n_17 c_17 A_18 n_18 c_18 bk_22 cs_22 A_75 n_75 c_75 A_122 n_122 c_122 O ne_0 ne_7_0_0 k_7_0_0 r_7_0_0 ne_7_3_0 ne_11 e_13 ne_16 ne_17 ne_18 e_22 ne_75 ne_122 k_122 r_122
  subst ne_0
  subst ne_7_0_0
  subst ne_7_3_0
  subst ne_11
  obtain ⟨Ae_13_0, ce_13_0, rfl, ke_13_0, re_13_0⟩ := id e_13
  subst ne_16
  subst ne_17
  subst ne_18
  obtain rfl : cs_22 = [(Value.int .i64 y_22)] := e_22
  subst ne_75
  subst ne_122
  refine f4.j5_in ?_
  unfold f4.j5T
  refine split_any_e e (fun c15 e => ?_) (fun c15 e => ?_)
  · refine ⟨_, ld0 (Sub.refl _) (O.all 10 rfl) rfl, _, rfl, ?_⟩
    refine O.new fun h1 x2 O3 => ?_
    obtain ⟨l5, g6, e⟩ := bind_e e
    have O13 := O3.rowE (l := ([y_22] : List Int)) 12 rfl (tell_int .i64) (show CsE _ _ _ _ _ from (CsE.cons (c1 := [(Value.int .i64 y_22)]) rfl rfl CsE.nil)) rfl
    refine O13.app 9 rfl rfl rfl ((O13.os 12 rfl).srcE rfl) (by decide) g6 fun A7 c8 h9 O10 => ?_
    refine ⟨_, _, _, rfl, ?_⟩
    have O14 := O10.nm
    exact (ih _ _ e) _ _ _ _ _ _ _ _ _ _ _ _ _ _ _ _ _ _ _ _ _ _ _ _ _ _ _ _ _ _ _ _ _ _ _ _ _ (O14.pick [0, 1, 2, 3, 4, 5, 6, 7, 8, 9, 11]).nm rfl rfl k_7_0_0 r_7_0_0 rfl rfl ⟨_, _, rfl, ke_13_0, re_13_0⟩ rfl rfl rfl rfl rfl k_122 r_122
  · exact (ih _ _ e) _ _ _ _ _ _ _ _ _ _ _ _ _ _ _ _ _ _ _ _ _ _ _ _ _ _ _ _ _ _ _ _ _ _ _ _ _ (O.pick [0, 1, 2, 3, 4, 5, 6, 7, 8, 9, 11]).nm rfl rfl k_7_0_0 r_7_0_0 rfl rfl ⟨_, _, rfl, ke_13_0, re_13_0⟩ rfl rfl rfl rfl rfl k_122 r_122
set_option maxHeartbeats 4000000 in
set_option maxRecDepth 100000 in
theorem roadlaw4_CyclePlays.l0_k.step_l2 (go : (p : roadlaw4_CyclePlays.l0_k.Pt) → Option (Bool)) (ih : ∀ p r, go p = some r → roadlaw4_CyclePlays.l0_k.I p r) (a_0 : List T_api_Know) (a_7_0 : (List T_api_Know)) (a_7_1 : (List (Int × Int))) (a_7_2 : (List (Int × Bool))) (a_7_3 : (List Int)) (x_7_4 : Int) (x_7_5 : Int) (x_10 : Int) (a_11 : List Int) (a_17 : List Int) (a_18 : List Int) (a_23 : List Int) (a_75 : List (List Int)) (x_76 : Int) (x_77 : Int) (x_150 : Int) (x_151 : Int) (r : Bool) (e : roadlaw4_CyclePlays.l0_k.body go (.l2 a_0 a_7_0 a_7_1 a_7_2 a_7_3 x_7_4 x_7_5 x_10 a_11 a_17 a_18 a_23 a_75 x_76 x_77 x_150 x_151) = some r) : roadlaw4_CyclePlays.l0_k.I (.l2 a_0 a_7_0 a_7_1 a_7_2 a_7_3 x_7_4 x_7_5 x_10 a_11 a_17 a_18 a_23 a_75 x_76 x_77 x_150 x_151) r := by
  unfold roadlaw4_CyclePlays.l0_k.body at e
  intro W h0 m0 h m A_0 n_0 c_0 bk_7 A_7_0_0 n_7_0_0 c_7_0_0 b_7_1_0 b_7_2_0 A_7_3_0 n_7_3_0 c_7_3_0 A_11 n_11 c_11 A_17 n_17 c_17 A_18 n_18 c_18 A_23 n_23 c_23 A_75 n_75 c_75 O ne_0 ne_7_0_0 k_7_0_0 r_7_0_0 ne_7_3_0 ne_11 ne_17 ne_18 ne_23 ne_75
  subst ne_0
  subst ne_7_0_0
  subst ne_7_3_0
  subst ne_11
  subst ne_17
  subst ne_18
  subst ne_23
  subst ne_75
  refine f4.l2_in ?_
  unfold f4.l2T
  refine split_dec_e e (fun c95 e => ?_) (fun c95 e => ?_)
  · obtain ⟨y1, g2, e⟩ := bind_e e
    refine (O.os 7 rfl).addr rfl g2 fun a3 cs4 ha5 hc6 he7 => ?_
    obtain rfl : cs4 = [(Value.int .i64 y1)] := he7
    refine ⟨_, ld0 (Sub.refl _) hc6 rfl, _, rfl, ?_⟩
    obtain ⟨y8, g9, e⟩ := bind_e e
    obtain ⟨m14, u15, s20, ⟨⟨r18, k19⟩, _⟩, B16, C17⟩ := O.lend0 [5]
    replace r18 : Rd 1 (eInt .i64) m14 A_11 a_11 := r18
    replace k19 : List.length a_11 ≤ c_11 := k19
    refine (slices_Contains_24.walk (Hold.start (W := No) s20) rfl k19 r18 g9).mono ?_
    rintro _ h10 ⟨m11, Q12, rfl⟩
    have O21 := Hold.nm (C17 Q12 vfs_nil)
    refine ⟨_, rfl, ?_⟩
    refine split_not ?_
    refine split_any_e e (fun c36 e => ?_) (fun c36 e => ?_)
    · exact (ih _ _ e) _ _ _ _ _ _ _ _ _ _ _ _ _ _ _ _ _ _ _ _ _ _ _ _ _ _ _ _ _ _ _ _ (O21.pick [0, 1, 2, 3, 4, 5, 6, 7, 8, 9]).nm rfl rfl k_7_0_0 r_7_0_0 rfl rfl rfl rfl rfl rfl
    · refine O21.new fun h22 x23 O24 => ?_
      obtain ⟨l26, g27, e⟩ := bind_e e
      have O34 := O24.rowE (l := ([y1] : List Int)) 10 rfl (tell_int .i64) (show CsE _ _ _ _ _ from (CsE.cons (c1 := [(Value.int .i64 y1)]) rfl rfl CsE.nil)) rfl
      refine O34.app 8 rfl rfl rfl ((O34.os 10 rfl).srcE rfl) (by decide) g27 fun A28 c29 h30 O31 => ?_
      refine ⟨_, _, _, rfl, ?_⟩
      have O35 := O31.nm
      exact (ih _ _ e) _ _ _ _ _ _ _ _ _ _ _ _ _ _ _ _ _ _ _ _ _ _ _ _ _ _ _ _ _ _ _ _ (O35.pick [0, 1, 2, 3, 4, 5, 6, 7, 8, 9]).nm rfl rfl k_7_0_0 r_7_0_0 rfl rfl rfl rfl rfl rfl
  · obtain ⟨y37, g38, e⟩ := bind_e e
    obtain ⟨W43, P44, B45, C46⟩ := O.callC [8]
    refine (slices_Sort_14.walk P44 rfl g38).mono ?_
    rintro _ h39 ⟨m40, Q41, rfl, hl47⟩
    have O48 := Hold.nm (C46 Q41 (vfs_cons (rR_vf (aE_vf (fun _ _ _ _ h => h))) vfs_nil))
    refine ⟨rfl, ?_⟩
    obtain ⟨l49, g50, e⟩ := bind_e e
    refine O48.app 5 rfl rfl rfl ((O48.os 10 rfl).srcE hl47) (by decide) g50 fun A51 c52 h53 O54 => ?_
    refine ⟨_, _, _, rfl, ?_⟩
    obtain ⟨y57, g58, e⟩ := bind_e e
    have O63 := O54.nm
    obtain ⟨W64, P65, B66, C67⟩ := O63.callC [1, 2, 3, 4]
    refine (cycle_Node_Out.walk (y_0 := (T_cycle_Node.mk a_7_0 a_7_1 a_7_2 a_7_3 x_7_4 x_7_5)) P65 rfl k_7_0_0 r_7_0_0 rfl g58).mono ?_
    rintro _ h59 ⟨m60, A68, n69, c70, A_73_0, n_73_0, c_73_0, b_73_1, b_73_2, A_73_3, n_73_3, c_73_3, Q61, rfl, ne71, ne_73_0, k_73_0, r_73_0, ne_73_3⟩
    have O77 := Hold.nm (B66 Q61)
    subst ne71
    subst ne_73_0
    subst ne_73_3
    refine ⟨_, _, _, rfl, ?_⟩
    obtain ⟨y78, g79, e⟩ := bind_e e
    obtain ⟨m84, u85, s92, ⟨⟨r88, k89⟩, ⟨r90, k91⟩, _⟩, B86, C87⟩ := O77.lend0 [11, 10]
    replace r88 : Rd 1 (eInt .i64) m84 A68 y57.1 := r88
    replace k89 : List.length y57.1 ≤ c70 := k89
    replace r90 : Rd 1 (eInt .i64) m84 A_23 y37 := r90
    replace k91 : List.length y37 ≤ c_23 := k91
    refine (slices_Equal_10.walk (Hold.start (W := No) s92) rfl k89 r88 hl47 k91 r90 g79).mono ?_
    rintro _ h80 ⟨m81, Q82, rfl⟩
    have O93 := Hold.nm (C87 Q82 vfs_nil)
    refine ⟨_, rfl, ?_⟩
    refine split_not ?_
    refine split_any_e e (fun c94 e => ?_) (fun c94 e => ?_)
    · exact (ih _ _ e) _ _ _ _ _ _ _ _ _ _ _ _ _ _ _ _ _ _ _ _ _ _ _ _ _ _ _ _ _ (O93.pick [0, 12, 13, 14, 15, 5, 6, 7, 9]).nm rfl rfl k_73_0 r_73_0 rfl rfl rfl rfl rfl
    · cases e
      exact ⟨_, O93.pick [], rfl⟩
set_option maxHeartbeats 4000000 in
set_option maxRecDepth 100000 in
theorem roadlaw4_CyclePlays.l0_k.step_j3 (go : (p : roadlaw4_CyclePlays.l0_k.Pt) → Option (Bool)) (ih : ∀ p r, go p = some r → roadlaw4_CyclePlays.l0_k.I p r) (a_0 : List T_api_Know) (a_7_0 : (List T_api_Know)) (a_7_1 : (List (Int × Int))) (a_7_2 : (List (Int × Bool))) (a_7_3 : (List Int)) (x_7_4 : Int) (x_7_5 : Int) (x_10 : Int) (a_11 : List Int) (a_17 : List Int) (a_18 : List Int) (a_75 : List (List Int)) (x_76 : Int) (x_77 : Int) (r : Bool) (e : roadlaw4_CyclePlays.l0_k.body go (.j3 a_0 a_7_0 a_7_1 a_7_2 a_7_3 x_7_4 x_7_5 x_10 a_11 a_17 a_18 a_75 x_76 x_77) = some r) : roadlaw4_CyclePlays.l0_k.I (.j3 a_0 a_7_0 a_7_1 a_7_2 a_7_3 x_7_4 x_7_5 x_10 a_11 a_17 a_18 a_75 x_76 x_77) r := by
  unfold roadlaw4_CyclePlays.l0_k.body at e
  intro W h0 m0 h m A_0 n_0 c_0 bk_7 A_7_0_0 n_7_0_0 c_7_0_0 b_7_1_0 b_7_2_0 A_7_3_0 n_7_3_0 c_7_3_0 A_11 n_11 c_11 A_17 n_17 c_17 A_18 n_18 c_18 A_75 n_75 c_75 O ne_0 ne_7_0_0 k_7_0_0 r_7_0_0 ne_7_3_0 ne_11 ne_17 ne_18 ne_75
  subst ne_0
  subst ne_7_0_0
  subst ne_7_3_0
  subst ne_11
  subst ne_17
  subst ne_18
  subst ne_75
  refine f4.j3_in ?_
  unfold f4.j3T
  obtain ⟨y1, g2, e⟩ := bind_e e
  obtain ⟨m7, u8, s16, ⟨f11, f12, ⟨r13, k14⟩, hb15, _⟩, B9, C10⟩ := O.lend0 [2, 3, 4, 1]
  replace f11 : FMo (eV0 (eInt .i64)) (fun n : Int => Value.int .i64 n) m7 (some b_7_1_0) a_7_1 := f11
  replace f12 : FMo (eV0 eBool) (fun n : Int => Value.int .i64 n) m7 (some b_7_2_0) a_7_2 := f12
  replace r13 : Rd 1 (eInt .i64) m7 A_7_3_0 a_7_3 := r13
  replace k14 : List.length a_7_3 ≤ c_7_3_0 := k14
  refine (cycle_Node_Counts.walk (Hold.start (W := No) s16) ⟨_, _, hb15, nn, (show T_cycle_Node.E _ (T_cycle_Node.mk a_7_0 a_7_1 a_7_2 a_7_3 x_7_4 x_7_5) [(Value.slice A_7_0_0 (List.length a_7_0) c_7_0_0), (Value.map (some b_7_1_0)), (Value.map (some b_7_2_0)), (Value.slice A_7_3_0 (List.length a_7_3) c_7_3_0), (Value.int .i64 x_7_4), (Value.int .i64 x_7_5)] from ⟨_, _, _, _, _, _, rfl, k_7_0_0, (r_7_0_0.sub T_api_Know.T u8), f11, f12, k14, r13⟩)⟩ g2).mono ?_
  rintro _ h3 ⟨m4, Q5, rfl⟩
  have O17 := Hold.nm (C10 Q5 vfs_nil)
  refine ⟨_, _, rfl, ?_⟩
  refine split_ne_e e (fun c58 e => ?_) (fun c58 e => ?_)
  · cases e
    exact ⟨_, O17.pick [], rfl⟩
  · refine split_ne_e e (fun c57 e => ?_) (fun c57 e => ?_)
    · cases e
      exact ⟨_, O17.pick [], rfl⟩
    · obtain ⟨y18, g19, e⟩ := bind_e e
      obtain ⟨m24, u25, s33, ⟨f28, f29, ⟨r30, k31⟩, hb32, _⟩, B26, C27⟩ := O17.lend0 [2, 3, 4, 1]
      replace f28 : FMo (eV0 (eInt .i64)) (fun n : Int => Value.int .i64 n) m24 (some b_7_1_0) a_7_1 := f28
      replace f29 : FMo (eV0 eBool) (fun n : Int => Value.int .i64 n) m24 (some b_7_2_0) a_7_2 := f29
      replace r30 : Rd 1 (eInt .i64) m24 A_7_3_0 a_7_3 := r30
      replace k31 : List.length a_7_3 ≤ c_7_3_0 := k31
      refine (cycle_Node_Left.walk (Hold.start (W := No) s33) ⟨_, _, hb32, nn, (show T_cycle_Node.E _ (T_cycle_Node.mk a_7_0 a_7_1 a_7_2 a_7_3 x_7_4 x_7_5) [(Value.slice A_7_0_0 (List.length a_7_0) c_7_0_0), (Value.map (some b_7_1_0)), (Value.map (some b_7_2_0)), (Value.slice A_7_3_0 (List.length a_7_3) c_7_3_0), (Value.int .i64 x_7_4), (Value.int .i64 x_7_5)] from ⟨_, _, _, _, _, _, rfl, k_7_0_0, (r_7_0_0.sub T_api_Know.T u25), f28, f29, k31, r30⟩)⟩ g19).mono ?_
      rintro _ h20 ⟨m21, A34, n35, c36, Q22, rfl, ne37⟩
      have O39 := Hold.nm (C27 Q22 (vfs_cons (rR_vf (aE_vf (fun _ _ _ _ h => h))) vfs_nil))
      subst ne37
      refine ⟨_, _, _, rfl, ?_⟩
      obtain ⟨y40, g41, e⟩ := bind_e e
      obtain ⟨m46, u47, s54, ⟨⟨r50, k51⟩, ⟨r52, k53⟩, _⟩, B48, C49⟩ := O39.lend0 [9, 6]
      replace r50 : Rd 1 (eInt .i64) m46 A34 y18 := r50
      replace k51 : List.length y18 ≤ c36 := k51
      replace r52 : Rd 1 (eInt .i64) m46 A_17 a_17 := r52
      replace k53 : List.length a_17 ≤ c_17 := k53
      refine (slices_Equal_10.walk (Hold.start (W := No) s54) rfl k51 r50 rfl k53 r52 g41).mono ?_
      rintro _ h42 ⟨m43, Q44, rfl⟩
      have O55 := Hold.nm (C49 Q44 vfs_nil)
      refine ⟨_, rfl, ?_⟩
      refine split_not ?_
      refine split_any_e e (fun c56 e => ?_) (fun c56 e => ?_)
      · exact (ih _ _ e) _ _ _ _ _ _ _ _ _ _ _ _ _ _ _ _ _ _ _ _ _ _ _ (O55.pick [0, 1, 2, 3, 4, 5, 8]).nm rfl rfl k_7_0_0 r_7_0_0 rfl rfl rfl
      · cases e
        exact ⟨_, O55.pick [], rfl⟩
theorem roadlaw4_CyclePlays.l0_k.all {p : roadlaw4_CyclePlays.l0_k.Pt} {r : (Bool)} (e : roadlaw4_CyclePlays.l0_k.go p = some r) : roadlaw4_CyclePlays.l0_k.I p r := fixF_ind (β := fun _ => (Bool)) roadlaw4_CyclePlays.l0_k.mono (I := roadlaw4_CyclePlays.l0_k.I) (fun go ih p r e => match p with
  | .l0 a_0 a_7_0 a_7_1 a_7_2 a_7_3 x_7_4 x_7_5 x_10 a_11 a_75 x_76 x_77 => roadlaw4_CyclePlays.l0_k.step_l0 go ih a_0 a_7_0 a_7_1 a_7_2 a_7_3 x_7_4 x_7_5 x_10 a_11 a_75 x_76 x_77 r e
  | .j4 a_0 a_7_0 a_7_1 a_7_2 a_7_3 x_7_4 x_7_5 x_10 a_11 y_13 x_15 a_75 x_76 x_77 => roadlaw4_CyclePlays.l0_k.step_j4 go ih a_0 a_7_0 a_7_1 a_7_2 a_7_3 x_7_4 x_7_5 x_10 a_11 y_13 x_15 a_75 x_76 x_77 r e
  | .j2 a_0 a_7_0 a_7_1 a_7_2 a_7_3 x_7_4 x_7_5 x_10 a_11 y_13 a_75 x_76 x_77 => roadlaw4_CyclePlays.l0_k.step_j2 go ih a_0 a_7_0 a_7_1 a_7_2 a_7_3 x_7_4 x_7_5 x_10 a_11 y_13 a_75 x_76 x_77 r e
  | .l1 a_0 a_7_0 a_7_1 a_7_2 a_7_3 x_7_4 x_7_5 x_10 a_11 y_13 a_16 a_17 a_18 a_75 x_76 x_77 x_105 x_106 => roadlaw4_CyclePlays.l0_k.step_l1 go ih a_0 a_7_0 a_7_1 a_7_2 a_7_3 x_7_4 x_7_5 x_10 a_11 y_13 a_16 a_17 a_18 a_75 x_76 x_77 x_105 x_106 r e
  | .l3 a_0 a_7_0 a_7_1 a_7_2 a_7_3 x_7_4 x_7_5 x_10 a_11 y_13 a_16 a_17 a_18 a_75 x_76 x_77 x_105 x_106 a_122 x_123 x_124 => roadlaw4_CyclePlays.l0_k.step_l3 go ih a_0 a_7_0 a_7_1 a_7_2 a_7_3 x_7_4 x_7_5 x_10 a_11 y_13 a_16 a_17 a_18 a_75 x_76 x_77 x_105 x_106 a_122 x_123 x_124 r e
  | .j5 a_0 a_7_0 a_7_1 a_7_2 a_7_3 x_7_4 x_7_5 x_10 a_11 y_13 a_16 a_17 a_18 y_22 a_75 x_76 x_77 x_105 x_106 a_122 x_123 x_124 b_137 => roadlaw4_CyclePlays.l0_k.step_j5 go ih a_0 a_7_0 a_7_1 a_7_2 a_7_3 x_7_4 x_7_5 x_10 a_11 y_13 a_16 a_17 a_18 y_22 a_75 x_76 x_77 x_105 x_106 a_122 x_123 x_124 b_137 r e
  | .l2 a_0 a_7_0 a_7_1 a_7_2 a_7_3 x_7_4 x_7_5 x_10 a_11 a_17 a_18 a_23 a_75 x_76 x_77 x_150 x_151 => roadlaw4_CyclePlays.l0_k.step_l2 go ih a_0 a_7_0 a_7_1 a_7_2 a_7_3 x_7_4 x_7_5 x_10 a_11 a_17 a_18 a_23 a_75 x_76 x_77 x_150 x_151 r e
  | .j3 a_0 a_7_0 a_7_1 a_7_2 a_7_3 x_7_4 x_7_5 x_10 a_11 a_17 a_18 a_75 x_76 x_77 => roadlaw4_CyclePlays.l0_k.step_j3 go ih a_0 a_7_0 a_7_1 a_7_2 a_7_3 x_7_4 x_7_5 x_10 a_11 a_17 a_18 a_75 x_76 x_77 r e
  ) e
theorem roadlaw4_CyclePlays.l0.walk {W : Nat → Prop} {h0 m0 h m : Heap} {A_0 : Option Addr} {n_0 c_0 : Nat} {bk_7 : Nat} {A_7_0_0 : Option Addr} {n_7_0_0 : Nat} {c_7_0_0 : Nat} {b_7_1_0 : Nat} {b_7_2_0 : Nat} {A_7_3_0 : Option Addr} {n_7_3_0 : Nat} {c_7_3_0 : Nat} {A_11 : Option Addr} {n_11 c_11 : Nat} {A_75 : Option Addr} {n_75 c_75 : Nat} {a_0 : List T_api_Know} {a_7_0 : (List T_api_Know)} {a_7_1 : (List (Int × Int))} {a_7_2 : (List (Int × Bool))} {a_7_3 : (List Int)} {x_7_4 : Int} {x_7_5 : Int} {x_10 : Int} {a_11 : List Int} {a_75 : List (List Int)} {x_76 : Int} {x_77 : Int} (O : Hold W h0 m0 h m [rR (aE T_api_Know.T) A_0 c_0 a_0, rV bk_7 145 [(Value.slice A_7_0_0 n_7_0_0 c_7_0_0), (Value.map (some b_7_1_0)), (Value.map (some b_7_2_0)), (Value.slice A_7_3_0 n_7_3_0 c_7_3_0), (Value.int .i64 x_7_4), (Value.int .i64 x_7_5)], rM (monoV0 (tell_int .i64)) (fun n : Int => Value.int .i64 n) b_7_1_0 a_7_1, rM (monoV0 tell_bool) (fun n : Int => Value.int .i64 n) b_7_2_0 a_7_2, rR (aE (tell_int .i64)) A_7_3_0 c_7_3_0 a_7_3, rR (aE (tell_int .i64)) A_11 c_11 a_11, rR (aE (tell_row (tell_int .i64))) A_75 c_75 a_75]) (ne_0 : n_0 = List.length a_0) (ne_7_0_0 : n_7_0_0 = List.length a_7_0) (k_7_0_0 : List.length a_7_0 ≤ c_7_0_0) (r_7_0_0 : Rd 4 T_api_Know.E m A_7_0_0 a_7_0) (ne_7_3_0 : n_7_3_0 = List.length a_7_3) (ne_11 : n_11 = List.length a_11) (ne_75 : n_75 = List.length a_75) {r : Bool} (e : roadlaw4_CyclePlays.l0 a_0 a_7_0 a_7_1 a_7_2 a_7_3 x_7_4 x_7_5 x_10 a_11 a_75 x_76 x_77 = some r) : f4.l0 (roadlaw4_CyclePlays.post W h0 m0 r) A_0 n_0 c_0 (some (⟨bk_7, 0, none⟩ : Addr)) x_10 A_11 n_11 c_11 A_75 n_75 c_75 x_76 x_77 h := roadlaw4_CyclePlays.l0_k.all (p := .l0 a_0 a_7_0 a_7_1 a_7_2 a_7_3 x_7_4 x_7_5 x_10 a_11 a_75 x_76 x_77) e W h0 m0 h m A_0 n_0 c_0 bk_7 A_7_0_0 n_7_0_0 c_7_0_0 b_7_1_0 b_7_2_0 A_7_3_0 n_7_3_0 c_7_3_0 A_11 n_11 c_11 A_75 n_75 c_75 O ne_0 ne_7_0_0 k_7_0_0 r_7_0_0 ne_7_3_0 ne_11 ne_75
noncomputable def roadlaw4_CyclePlays.j1 (a_0 : List T_api_Know) (a_1 : List (List Int)) (a_7_0 : (List T_api_Know)) (a_7_1 : (List (Int × Int))) (a_7_2 : (List (Int × Bool))) (a_7_3 : (List Int)) (x_7_4 : Int) (x_7_5 : Int) : Option (Bool) :=
  Option.bind (slices_Clone_19 a_0) fun y1 => Option.bind (ap 24 ([([(2 : Int)] : List Int)] : List (List Int)) a_1) fun l28 => (roadlaw4_CyclePlays.l0 y1 a_7_0 a_7_1 a_7_2 a_7_3 x_7_4 x_7_5 (0 : Int) ([] : List Int) l28 (((List.length l28) : Nat) : Int) (0 : Int))
set_option maxRecDepth 100000 in
theorem roadlaw4_CyclePlays.j1.walk {W : Nat → Prop} {h0 m0 h m : Heap} {A_0 : Option Addr} {n_0 c_0 : Nat} {A_1 : Option Addr} {n_1 c_1 : Nat} {bk_7 : Nat} {A_7_0_0 : Option Addr} {n_7_0_0 : Nat} {c_7_0_0 : Nat} {b_7_1_0 : Nat} {b_7_2_0 : Nat} {A_7_3_0 : Option Addr} {n_7_3_0 : Nat} {c_7_3_0 : Nat} {a_0 : List T_api_Know} {a_1 : List (List Int)} {a_7_0 : (List T_api_Know)} {a_7_1 : (List (Int × Int))} {a_7_2 : (List (Int × Bool))} {a_7_3 : (List Int)} {x_7_4 : Int} {x_7_5 : Int} (O : Hold W h0 m0 h m [rV bk_7 145 [(Value.slice A_7_0_0 n_7_0_0 c_7_0_0), (Value.map (some b_7_1_0)), (Value.map (some b_7_2_0)), (Value.slice A_7_3_0 n_7_3_0 c_7_3_0), (Value.int .i64 x_7_4), (Value.int .i64 x_7_5)], rM (monoV0 (tell_int .i64)) (fun n : Int => Value.int .i64 n) b_7_1_0 a_7_1, rM (monoV0 tell_bool) (fun n : Int => Value.int .i64 n) b_7_2_0 a_7_2, rR (aE (tell_int .i64)) A_7_3_0 c_7_3_0 a_7_3]) (ne_0 : n_0 = List.length a_0) (k_0 : List.length a_0 ≤ c_0) (r_0 : Rd 4 T_api_Know.E m A_0 a_0) (ne_1 : n_1 = List.length a_1) (k_1 : List.length a_1 ≤ c_1) (r_1 : Rd 1 (eRow 1 (eInt .i64)) m A_1 a_1) (ne_7_0_0 : n_7_0_0 = List.length a_7_0) (k_7_0_0 : List.length a_7_0 ≤ c_7_0_0) (r_7_0_0 : Rd 4 T_api_Know.E m A_7_0_0 a_7_0) (ne_7_3_0 : n_7_3_0 = List.length a_7_3) {r : Bool} (e : roadlaw4_CyclePlays.j1 a_0 a_1 a_7_0 a_7_1 a_7_2 a_7_3 x_7_4 x_7_5 = some r) : f4.j1 (roadlaw4_CyclePlays.post W h0 m0 r) A_0 n_0 c_0 A_1 n_1 c_1 (some (⟨bk_7, 0, none⟩ : Addr)) h := by
  unfold roadlaw4_CyclePlays.j1 at e
  subst ne_0
  subst ne_1
  subst ne_7_0_0
  subst ne_7_3_0
  refine f4.j1_in ?_
  unfold f4.j1T
  obtain ⟨y1, g2, e⟩ := bind_e e
  refine (slices_Clone_19.walk (Hold.start (W := No) O.s) rfl k_0 r_0 g2).mono ?_
  rintro _ h3 ⟨m4, A7, n8, c9, Q5, rfl, ne10⟩
  have O12 := Hold.nm (O.ret Q5)
  subst ne10
  refine ⟨_, _, _, rfl, ?_⟩
  refine O12.new fun h13 x14 O15 => ?_
  refine O15.new fun h17 x18 O19 => ?_
  obtain ⟨l28, g29, e⟩ := bind_e e
  have O21 := O19.rowE (l := ([(2 : Int)] : List Int)) 5 rfl (tell_int .i64) (show CsE _ _ _ _ _ from (CsE.cons (c1 := [(Value.int .i64 (2 : Int))]) rfl rfl CsE.nil)) rfl
  obtain ⟨m22, u23, ⟨r24, k25⟩, O26⟩ := O21.frz 5 rfl
  replace r24 : Rd 1 (eInt .i64) m22 (some ⟨(Array.size h3), 0, none⟩) ([(2 : Int)] : List Int) := r24
  have O27 := O26.rowE (l := ([([(2 : Int)] : List Int)] : List (List Int))) 6 rfl (tell_row (tell_int .i64)) (show CsE _ _ _ _ _ from (CsE.cons (c1 := [(Value.slice (some ⟨(Array.size h3), 0, none⟩) 1 1)]) ⟨_, _, rfl, k25, r24⟩ rfl CsE.nil)) rfl
  refine O27.app 6 rfl rfl rfl (Rd.srcE (r_1.sub (tell_row (tell_int .i64)) (Q5.S.up.trans u23)) (tell_row (tell_int .i64)) O27.s rfl) (by decide) g29 fun A30 c31 h32 O33 => ?_
  refine ⟨_, _, _, rfl, ?_⟩
  have O36 := O33.nm
  have O37 := O36.nil (aE (tell_int .i64)) none
  have O39 := O37.nm
  exact roadlaw4_CyclePlays.l0.walk (O39.pick [4, 0, 1, 2, 3, 7, 6]).nm rfl rfl k_7_0_0 (r_7_0_0.sub T_api_Know.T (Q5.S.up.trans u23)) rfl rfl rfl e
noncomputable def roadlaw4_CyclePlays.j0 (a_0 : List T_api_Know) (a_1 : List (List Int)) : Option (Bool) :=
  Option.bind (cycle_New a_0) fun y1 => Option.elim y1.1 (Option.bind (roadref4_Knows a_0) fun y17 => if y17 = (0 : Int) then (if y1.2 = (0 : Int) then (some (false)) else (some (false))) else (if y1.2 = y17 then (some (true)) else (some (false)))) fun z12 => Option.bind (roadref4_Knows a_0) fun y33 => if y33 = (0 : Int) then (if y1.2 = (0 : Int) then ((roadlaw4_CyclePlays.j1 a_0 a_1 z12.l_ z12.at_ z12.marked_ z12.out_ z12.sent_ z12.took_)) else (some (false))) else (if y1.2 = y33 then (some (false)) else (some (false)))
set_option maxHeartbeats 4000000 in
set_option maxRecDepth 100000 in
theorem roadlaw4_CyclePlays.j0.walk {W : Nat → Prop} {h0 m0 h m : Heap} {A_0 : Option Addr} {n_0 c_0 : Nat} {A_1 : Option Addr} {n_1 c_1 : Nat} {a_0 : List T_api_Know} {a_1 : List (List Int)} (O : Hold W h0 m0 h m []) (ne_0 : n_0 = List.length a_0) (k_0 : List.length a_0 ≤ c_0) (r_0 : Rd 4 T_api_Know.E m A_0 a_0) (ne_1 : n_1 = List.length a_1) (k_1 : List.length a_1 ≤ c_1) (r_1 : Rd 1 (eRow 1 (eInt .i64)) m A_1 a_1) {r : Bool} (e : roadlaw4_CyclePlays.j0 a_0 a_1 = some r) : f4.j0 (roadlaw4_CyclePlays.post W h0 m0 r) A_0 n_0 c_0 A_1 n_1 c_1 h := by
  unfold roadlaw4_CyclePlays.j0 at e
  subst ne_0
  subst ne_1
  refine f4.j0_in ?_
  unfold f4.j0T
  obtain ⟨y1, g2, e⟩ := bind_e e
  refine (cycle_New.walk (Hold.start (W := No) O.s) rfl k_0 r_0 g2).mono ?_
  rintro _ h3 ⟨m4, p7, u9, s10, rfl, hp8⟩
  rcases hp8 with ⟨q11, rfl, Q14⟩ | ⟨z12, b13, A_28_0, n_28_0, c_28_0, b_28_1, b_28_2, A_28_3, n_28_3, c_28_3, q11, rfl, Q15, ne_28_0, k_28_0, r_28_0, ne_28_3⟩
  · have e := elim_none_e e q11
    have O16 := Hold.nm (O.retC Q14 vfs_nil)
    refine ⟨_, _, rfl, ?_⟩
    obtain ⟨y17, g18, e⟩ := bind_e e
    refine (roadref4_Knows.walk (Hold.start (W := No) O16.s) rfl k_0 r_0 g18).mono ?_
    rintro _ h19 ⟨m20, Q21, rfl⟩
    have O23 := Hold.nm (O16.retC Q21 vfs_nil)
    refine ⟨_, rfl, ?_⟩
    refine split_ne_e e (fun c26 e => ?_) (fun c26 e => ?_)
    · refine split_eq_e e (fun c24 e => ?_) (fun c24 e => ?_)
      · cases e
        exact ⟨_, O23.pick [], rfl⟩
      · cases e
        exact ⟨_, O23.pick [], rfl⟩
    · refine split_ne_e e (fun c25 e => ?_) (fun c25 e => ?_)
      · cases e
        exact ⟨_, O23.pick [], rfl⟩
      · refine split_t ?_
        cases e
        exact ⟨_, O23.pick [], rfl⟩
  · have e := elim_some_e e q11
    have O32 := Hold.nm (O.ret Q15)
    subst ne_28_0
    subst ne_28_3
    refine ⟨_, _, rfl, ?_⟩
    obtain ⟨y33, g34, e⟩ := bind_e e
    refine (roadref4_Knows.walk (Hold.start (W := No) O32.s) rfl k_0 (r_0.sub T_api_Know.T Q15.S.up) g34).mono ?_
    rintro _ h35 ⟨m36, Q37, rfl⟩
    have O39 := Hold.nm (O32.retC Q37 vfs_nil)
    refine ⟨_, rfl, ?_⟩
    refine split_ne_e e (fun c42 e => ?_) (fun c42 e => ?_)
    · refine split_eq_e e (fun c40 e => ?_) (fun c40 e => ?_)
      · cases e
        exact ⟨_, O39.pick [], rfl⟩
      · cases e
        exact ⟨_, O39.pick [], rfl⟩
    · refine split_ne_e e (fun c41 e => ?_) (fun c41 e => ?_)
      · cases e
        exact ⟨_, O39.pick [], rfl⟩
      · refine split_f ?_
        exact roadlaw4_CyclePlays.j1.walk (O39.pick [0, 1, 2, 3]).nm rfl k_0 (r_0.sub T_api_Know.T Q15.S.up) rfl k_1 (r_1.sub (tell_row (tell_int .i64)) Q15.S.up) rfl k_28_0 r_28_0 rfl e
noncomputable def roadlaw4_CyclePlays (a_0 : List T_api_Know) (a_1 : List (List Int)) : Option (Bool) :=
  Option.bind (cycle_New ([(T_api_Know.mk (3 : Int) true false ([(9 : Int)] : List Int))] : List T_api_Know)) fun y16 => Option.elim y16.1 (if y16.2 = (0 : Int) then (some (false)) else (some (false))) fun z35 => if y16.2 = (0 : Int) then (Option.bind (cycle_Node_Out (T_cycle_Node.mk z35.l_ z35.at_ z35.marked_ z35.out_ z35.sent_ z35.took_)) fun y47 => Option.bind (slices_Equal_10 y47.1 ([(9 : Int)] : List Int)) fun y72 => if y72 = true then ((roadlaw4_CyclePlays.j0 a_0 a_1)) else (some (false))) else (some (false))
set_option maxHeartbeats 4000000 in
set_option maxRecDepth 100000 in
theorem roadlaw4_CyclePlays.walk {W : Nat → Prop} {h m : Heap} {A_0 : Option Addr} {n_0 c_0 : Nat} {A_1 : Option Addr} {n_1 c_1 : Nat} {a_0 : List T_api_Know} {a_1 : List (List Int)} (O : Hold W h m h m []) (ne_0 : n_0 = List.length a_0) (k_0 : List.length a_0 ≤ c_0) (r_0 : Rd 4 T_api_Know.E m A_0 a_0) (ne_1 : n_1 = List.length a_1) (k_1 : List.length a_1 ≤ c_1) (r_1 : Rd 1 (eRow 1 (eInt .i64)) m A_1 a_1) {r : Bool} (e : roadlaw4_CyclePlays a_0 a_1 = some r) : Run Try.prog 4 #[Value.slice A_0 n_0 c_0, Value.slice A_1 n_1 c_1] h (roadlaw4_CyclePlays.post W h m r) := by
  unfold roadlaw4_CyclePlays at e
  subst ne_0
  subst ne_1
  refine f4.run ?_
  unfold f4.runT
  refine O.new fun h1 x2 O3 => ?_
  refine ⟨[(Value.int .i64 (3 : Int)), (Value.bool true), (Value.bool false), (Value.slice (some ⟨(Array.size h), 0, none⟩) 1 1)], rfl, rfl, ?_⟩
  refine O3.new fun h5 x6 O7 => ?_
  obtain ⟨y16, g17, e⟩ := bind_e e
  have O9 := O7.rowE (l := ([(9 : Int)] : List Int)) 0 rfl (tell_int .i64) (show CsE _ _ _ _ _ from (CsE.cons (c1 := [(Value.int .i64 (9 : Int))]) rfl rfl CsE.nil)) rfl
  obtain ⟨m10, u11, ⟨r12, k13⟩, O14⟩ := O9.frz 0 rfl
  replace r12 : Rd 1 (eInt .i64) m10 (some ⟨(Array.size h), 0, none⟩) ([(9 : Int)] : List Int) := r12
  have O15 := O14.rowE (l := ([(T_api_Know.mk (3 : Int) true false ([(9 : Int)] : List Int))] : List T_api_Know)) 1 rfl T_api_Know.T (show CsE _ _ _ _ _ from (CsE.cons (c1 := [(Value.int .i64 (3 : Int)), (Value.bool true), (Value.bool false), (Value.slice (some ⟨(Array.size h), 0, none⟩) 1 1)]) (show T_api_Know.E _ (T_api_Know.mk (3 : Int) true false ([(9 : Int)] : List Int)) [(Value.int .i64 (3 : Int)), (Value.bool true), (Value.bool false), (Value.slice (some ⟨(Array.size h), 0, none⟩) 1 1)] from ⟨_, _, rfl, k13, r12⟩) rfl CsE.nil)) rfl
  have O22 := O15.nm
  obtain ⟨m23, u24, s29, ⟨⟨r27, k28⟩, _⟩, B25, C26⟩ := O22.lend0 [1]
  replace r27 : Rd 4 T_api_Know.E m23 (some ⟨(Array.size h1), 0, none⟩) ([(T_api_Know.mk (3 : Int) true false ([(9 : Int)] : List Int))] : List T_api_Know) := r27
  replace k28 : List.length ([(T_api_Know.mk (3 : Int) true false ([(9 : Int)] : List Int))] : List T_api_Know) ≤ 1 := k28
  refine (cycle_New.walk (Hold.start (W := No) s29) rfl k28 r27 g17).mono ?_
  rintro _ h18 ⟨m19, p30, u32, s33, rfl, hp31⟩
  rcases hp31 with ⟨q34, rfl, Q37⟩ | ⟨z35, b36, A_42_0, n_42_0, c_42_0, b_42_1, b_42_2, A_42_3, n_42_3, c_42_3, q34, rfl, Q38, ne_42_0, k_42_0, r_42_0, ne_42_3⟩
  · have e := elim_none_e e q34
    have O39 := Hold.nm (C26 Q37 vfs_nil)
    refine ⟨_, _, rfl, ?_⟩
    refine split_ne_e e (fun c40 e => ?_) (fun c40 e => ?_)
    · cases e
      exact ⟨_, O39.pick [], rfl⟩
    · refine split_t ?_
      cases e
      exact ⟨_, O39.pick [], rfl⟩
  · have e := elim_some_e e q34
    have O46 := Hold.nm (B25 Q38)
    subst ne_42_0
    subst ne_42_3
    refine ⟨_, _, rfl, ?_⟩
    refine split_ne_e e (fun c90 e => ?_) (fun c90 e => ?_)
    · cases e
      exact ⟨_, O46.pick [], rfl⟩
    · refine split_f ?_
      obtain ⟨y47, g48, e⟩ := bind_e e
      obtain ⟨W53, P54, B55, C56⟩ := O46.callC [2, 3, 4, 5]
      refine (cycle_Node_Out.walk (y_0 := (T_cycle_Node.mk z35.l_ z35.at_ z35.marked_ z35.out_ z35.sent_ z35.took_)) P54 rfl k_42_0 r_42_0 rfl g48).mono ?_
      rintro _ h49 ⟨m50, A57, n58, c59, A_62_0, n_62_0, c_62_0, b_62_1, b_62_2, A_62_3, n_62_3, c_62_3, Q51, rfl, ne60, ne_62_0, k_62_0, r_62_0, ne_62_3⟩
      have O66 := Hold.nm (B55 Q51)
      subst ne60
      subst ne_62_0
      subst ne_62_3
      refine ⟨_, _, _, rfl, ?_⟩
      refine O66.new fun h67 x68 O69 => ?_
      obtain ⟨y72, g73, e⟩ := bind_e e
      have O71 := O69.rowE (l := ([(9 : Int)] : List Int)) 11 rfl (tell_int .i64) (show CsE _ _ _ _ _ from (CsE.cons (c1 := [(Value.int .i64 (9 : Int))]) rfl rfl CsE.nil)) rfl
      have O78 := O71.nm
      obtain ⟨m79, u80, s87, ⟨⟨r83, k84⟩, ⟨r85, k86⟩, _⟩, B81, C82⟩ := O78.lend0 [6, 11]
      replace r83 : Rd 1 (eInt .i64) m79 A57 y47.1 := r83
      replace k84 : List.length y47.1 ≤ c59 := k84
      replace r85 : Rd 1 (eInt .i64) m79 (some ⟨(Array.size h49), 0, none⟩) ([(9 : Int)] : List Int) := r85
      replace k86 : List.length ([(9 : Int)] : List Int) ≤ 1 := k86
      refine (slices_Equal_10.walk (Hold.start (W := No) s87) rfl k84 r83 rfl k86 r85 g73).mono ?_
      rintro _ h74 ⟨m75, Q76, rfl⟩
      have O88 := Hold.nm (C82 Q76 vfs_nil)
      refine ⟨_, rfl, ?_⟩
      refine split_not ?_
      refine split_any_e e (fun c89 e => ?_) (fun c89 e => ?_)
      · exact roadlaw4_CyclePlays.j0.walk (O88.pick []).nm rfl k_0 (r_0.sub T_api_Know.T (u11.trans (u24.trans (Q38.S.up.trans Q51.S.up)))) rfl k_1 (r_1.sub (tell_row (tell_int .i64)) (u11.trans (u24.trans (Q38.S.up.trans Q51.S.up)))) e
      · cases e
        exact ⟨_, O88.pick [], rfl⟩
end Go.Proofs.Ythnlhffpmlgmfad.Fw

end
