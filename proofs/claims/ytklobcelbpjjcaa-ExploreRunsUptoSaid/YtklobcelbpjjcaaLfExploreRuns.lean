/- Data of the given program, and pure functions of its functions, with the walks. Printed by a program of this session. -/
import Derived.Test.YtklobcelbpjjcaaLfExploreRuns0
namespace Go.Proofs.Ytklobcelbpjjcaa.Fw
open Go Go.Hw Go.Proofs
set_option linter.unusedVariables false

/-! ### 7 roadstead/roadlaw4.ExploreRuns -/
def roadlaw4_ExploreRuns.post (W : Nat → Prop) (h0 m0 : Heap) (r : Bool) (v : Value) (h : Heap) : Prop := ∃ m , Hold W h0 m0 h m [] ∧ v = .bool r
inductive roadlaw4_ExploreRuns.l1_k.Pt where
  | l1 (a_0 : List (List T_roadref4_Do)) (a_12 : List T_part_Step) (x_13 : Int) (y_20 : (List Int)) (a_21 : List T_part_Step) (a_143 : List Int) (x_144 : Int) (x_145 : Int)
  | j5 (a_0 : List (List T_roadref4_Do)) (a_12 : List T_part_Step) (x_13 : Int) (y_20 : (List Int)) (a_21 : List T_part_Step) (x_23 : Int) (a_143 : List Int) (x_144 : Int) (x_145 : Int) (b_156 : Bool)
  | j4 (a_0 : List (List T_roadref4_Do)) (a_12 : List T_part_Step) (x_13 : Int) (y_20 : (List Int)) (a_21 : List T_part_Step) (x_23 : Int) (a_143 : List Int) (x_144 : Int) (x_145 : Int)
noncomputable def roadlaw4_ExploreRuns.l1_k.body (go : (p : roadlaw4_ExploreRuns.l1_k.Pt) → Option (Bool)) : (p : roadlaw4_ExploreRuns.l1_k.Pt) → Option (Bool)
  | .l1 a_0 a_12 x_13 y_20 a_21 a_143 x_144 x_145 => if x_145 < x_144 then (Option.bind (gi a_143 x_145) fun y1 => if y1 < (0 : Int) then ((go (.j5 a_0 a_12 x_13 y_20 a_21 y1 a_143 x_144 x_145 true))) else ((go (.j5 a_0 a_12 x_13 y_20 a_21 y1 a_143 x_144 x_145 (decide (y1 ≥ (((List.length a_0) : Nat) : Int))))))) else (if x_13 = (0 : Int) then (Option.bind (slices_Equal_64 a_12 a_21) fun y9 => some (y9)) else (some (false)))
  | .j5 a_0 a_12 x_13 y_20 a_21 x_23 a_143 x_144 x_145 b_156 => if b_156 = true then (if x_13 = (1 : Int) then (some (((((List.length a_12) : Nat) : Int) == (0 : Int)))) else (some (false))) else ((go (.j4 a_0 a_12 x_13 y_20 a_21 x_23 a_143 x_144 x_145)))
  | .j4 a_0 a_12 x_13 y_20 a_21 x_23 a_143 x_144 x_145 => Option.bind (gi y_20 x_23) fun y1 => Option.bind (gi a_0 x_23) fun y3 => if y1 = (((List.length y3) : Nat) : Int) then (if x_13 = (8 : Int) then (some (((((List.length a_12) : Nat) : Int) == (0 : Int)))) else (some (false))) else (Option.bind (gi a_0 x_23) fun y11 => Option.bind (gi y_20 x_23) fun y18 => Option.bind (gi y11 y18) fun y20 => Option.bind (roadref4_Do_Step y20 x_23) fun y27 => Option.bind (roadlaw4_steps ([y27] : List T_roadref4_Step)) fun y43 => Option.bind (ap 24 a_21 y43) fun l63 => Option.bind (gi y_20 x_23) fun y71 => Option.bind (gi y_20 x_23) fun y73 => Option.bind (some (List.set y_20 (Int.toNat x_23) (IntKind.wrap .i64 (y71 + (1 : Int))))) fun l75 => (go (.l1 a_0 a_12 x_13 l75 l63 a_143 x_144 (IntKind.wrap .i64 (x_145 + (1 : Int))))))
theorem roadlaw4_ExploreRuns.l1_k.mono : MonoF (β := fun _ => (Bool)) roadlaw4_ExploreRuns.l1_k.body := fun f g hfg p => match p with
  | .l1 a_0 a_12 x_13 y_20 a_21 a_143 x_144 x_145 => LeO.ite (LeO.bind (LeO.refl _) fun y1 => LeO.ite ((hfg _)) ((hfg _))) (LeO.ite (LeO.bind (LeO.refl _) fun y9 => LeO.refl _) (LeO.refl _))
  | .j5 a_0 a_12 x_13 y_20 a_21 x_23 a_143 x_144 x_145 b_156 => LeO.ite (LeO.ite (LeO.refl _) (LeO.refl _)) ((hfg _))
  | .j4 a_0 a_12 x_13 y_20 a_21 x_23 a_143 x_144 x_145 => LeO.bind (LeO.refl _) fun y1 => LeO.bind (LeO.refl _) fun y3 => LeO.ite (LeO.ite (LeO.refl _) (LeO.refl _)) (LeO.bind (LeO.refl _) fun y11 => LeO.bind (LeO.refl _) fun y18 => LeO.bind (LeO.refl _) fun y20 => LeO.bind (LeO.refl _) fun y27 => LeO.bind (LeO.refl _) fun y43 => LeO.bind (LeO.refl _) fun l63 => LeO.bind (LeO.refl _) fun y71 => LeO.bind (LeO.refl _) fun y73 => LeO.bind (LeO.refl _) fun l75 => (hfg _))
noncomputable def roadlaw4_ExploreRuns.l1_k.go (p : roadlaw4_ExploreRuns.l1_k.Pt) : Option (Bool) := fixF (β := fun _ => (Bool)) roadlaw4_ExploreRuns.l1_k.body p
noncomputable def roadlaw4_ExploreRuns.l1 (a_0 : List (List T_roadref4_Do)) (a_12 : List T_part_Step) (x_13 : Int) (y_20 : (List Int)) (a_21 : List T_part_Step) (a_143 : List Int) (x_144 : Int) (x_145 : Int) : Option (Bool) := roadlaw4_ExploreRuns.l1_k.go (.l1 a_0 a_12 x_13 y_20 a_21 a_143 x_144 x_145)
noncomputable def roadlaw4_ExploreRuns.j5 (a_0 : List (List T_roadref4_Do)) (a_12 : List T_part_Step) (x_13 : Int) (y_20 : (List Int)) (a_21 : List T_part_Step) (x_23 : Int) (a_143 : List Int) (x_144 : Int) (x_145 : Int) (b_156 : Bool) : Option (Bool) := roadlaw4_ExploreRuns.l1_k.go (.j5 a_0 a_12 x_13 y_20 a_21 x_23 a_143 x_144 x_145 b_156)
noncomputable def roadlaw4_ExploreRuns.j4 (a_0 : List (List T_roadref4_Do)) (a_12 : List T_part_Step) (x_13 : Int) (y_20 : (List Int)) (a_21 : List T_part_Step) (x_23 : Int) (a_143 : List Int) (x_144 : Int) (x_145 : Int) : Option (Bool) := roadlaw4_ExploreRuns.l1_k.go (.j4 a_0 a_12 x_13 y_20 a_21 x_23 a_143 x_144 x_145)
theorem roadlaw4_ExploreRuns.l1_eq (a_0 : List (List T_roadref4_Do)) (a_12 : List T_part_Step) (x_13 : Int) (y_20 : (List Int)) (a_21 : List T_part_Step) (a_143 : List Int) (x_144 : Int) (x_145 : Int) : roadlaw4_ExploreRuns.l1 a_0 a_12 x_13 y_20 a_21 a_143 x_144 x_145 = if x_145 < x_144 then (Option.bind (gi a_143 x_145) fun y1 => if y1 < (0 : Int) then ((roadlaw4_ExploreRuns.j5 a_0 a_12 x_13 y_20 a_21 y1 a_143 x_144 x_145 true)) else ((roadlaw4_ExploreRuns.j5 a_0 a_12 x_13 y_20 a_21 y1 a_143 x_144 x_145 (decide (y1 ≥ (((List.length a_0) : Nat) : Int)))))) else (if x_13 = (0 : Int) then (Option.bind (slices_Equal_64 a_12 a_21) fun y9 => some (y9)) else (some (false))) := fixF_eq roadlaw4_ExploreRuns.l1_k.mono _
theorem roadlaw4_ExploreRuns.j5_eq (a_0 : List (List T_roadref4_Do)) (a_12 : List T_part_Step) (x_13 : Int) (y_20 : (List Int)) (a_21 : List T_part_Step) (x_23 : Int) (a_143 : List Int) (x_144 : Int) (x_145 : Int) (b_156 : Bool) : roadlaw4_ExploreRuns.j5 a_0 a_12 x_13 y_20 a_21 x_23 a_143 x_144 x_145 b_156 = if b_156 = true then (if x_13 = (1 : Int) then (some (((((List.length a_12) : Nat) : Int) == (0 : Int)))) else (some (false))) else ((roadlaw4_ExploreRuns.j4 a_0 a_12 x_13 y_20 a_21 x_23 a_143 x_144 x_145)) := fixF_eq roadlaw4_ExploreRuns.l1_k.mono _
theorem roadlaw4_ExploreRuns.j4_eq (a_0 : List (List T_roadref4_Do)) (a_12 : List T_part_Step) (x_13 : Int) (y_20 : (List Int)) (a_21 : List T_part_Step) (x_23 : Int) (a_143 : List Int) (x_144 : Int) (x_145 : Int) : roadlaw4_ExploreRuns.j4 a_0 a_12 x_13 y_20 a_21 x_23 a_143 x_144 x_145 = Option.bind (gi y_20 x_23) fun y1 => Option.bind (gi a_0 x_23) fun y3 => if y1 = (((List.length y3) : Nat) : Int) then (if x_13 = (8 : Int) then (some (((((List.length a_12) : Nat) : Int) == (0 : Int)))) else (some (false))) else (Option.bind (gi a_0 x_23) fun y11 => Option.bind (gi y_20 x_23) fun y18 => Option.bind (gi y11 y18) fun y20 => Option.bind (roadref4_Do_Step y20 x_23) fun y27 => Option.bind (roadlaw4_steps ([y27] : List T_roadref4_Step)) fun y43 => Option.bind (ap 24 a_21 y43) fun l63 => Option.bind (gi y_20 x_23) fun y71 => Option.bind (gi y_20 x_23) fun y73 => Option.bind (some (List.set y_20 (Int.toNat x_23) (IntKind.wrap .i64 (y71 + (1 : Int))))) fun l75 => (roadlaw4_ExploreRuns.l1 a_0 a_12 x_13 l75 l63 a_143 x_144 (IntKind.wrap .i64 (x_145 + (1 : Int))))) := fixF_eq roadlaw4_ExploreRuns.l1_k.mono _
def roadlaw4_ExploreRuns.l1_k.I : (p : roadlaw4_ExploreRuns.l1_k.Pt) → (Bool) → Prop
  | .l1 a_0 a_12 x_13 y_20 a_21 a_143 x_144 x_145, r => ∀ (W : Nat → Prop) (h0 m0 h m : Heap) (A_0 : Option Addr) (n_0 c_0 : Nat) (A_12 : Option Addr) (n_12 c_12 : Nat) (bk_20 : Nat) (cs_20 : List Value) (A_21 : Option Addr) (n_21 c_21 : Nat) (A_143 : Option Addr) (n_143 c_143 : Nat) (O : Hold W h0 m0 h m [rR (aE T_part_Step.T) A_12 c_12 a_12, rV bk_20 99 cs_20, rR (aE T_part_Step.T) A_21 c_21 a_21]) (ne_0 : n_0 = List.length a_0) (k_0 : List.length a_0 ≤ c_0) (r_0 : Rd 1 (eRow 3 T_roadref4_Do.E) m A_0 a_0) (ne_12 : n_12 = List.length a_12) (e_20 : (eArr 4 (fun n : Int => Value.int .i64 n) (0 : Int)) m y_20 cs_20) (ne_21 : n_21 = List.length a_21) (ne_143 : n_143 = List.length a_143) (k_143 : List.length a_143 ≤ c_143) (r_143 : Rd 1 (eInt .i64) m A_143 a_143), f7.l1 (roadlaw4_ExploreRuns.post W h0 m0 r) A_0 n_0 c_0 A_12 n_12 c_12 x_13 (⟨bk_20, 0, none⟩ : Addr) A_21 n_21 c_21 A_143 n_143 c_143 x_144 x_145 h
  | .j5 a_0 a_12 x_13 y_20 a_21 x_23 a_143 x_144 x_145 b_156, r => ∀ (W : Nat → Prop) (h0 m0 h m : Heap) (A_0 : Option Addr) (n_0 c_0 : Nat) (A_12 : Option Addr) (n_12 c_12 : Nat) (bk_20 : Nat) (cs_20 : List Value) (A_21 : Option Addr) (n_21 c_21 : Nat) (A_143 : Option Addr) (n_143 c_143 : Nat) (O : Hold W h0 m0 h m [rR (aE T_part_Step.T) A_12 c_12 a_12, rV bk_20 99 cs_20, rR (aE T_part_Step.T) A_21 c_21 a_21]) (ne_0 : n_0 = List.length a_0) (k_0 : List.length a_0 ≤ c_0) (r_0 : Rd 1 (eRow 3 T_roadref4_Do.E) m A_0 a_0) (ne_12 : n_12 = List.length a_12) (e_20 : (eArr 4 (fun n : Int => Value.int .i64 n) (0 : Int)) m y_20 cs_20) (ne_21 : n_21 = List.length a_21) (ne_143 : n_143 = List.length a_143) (k_143 : List.length a_143 ≤ c_143) (r_143 : Rd 1 (eInt .i64) m A_143 a_143), f7.j5 (roadlaw4_ExploreRuns.post W h0 m0 r) A_0 n_0 c_0 A_12 n_12 c_12 x_13 (⟨bk_20, 0, none⟩ : Addr) A_21 n_21 c_21 x_23 A_143 n_143 c_143 x_144 x_145 b_156 h
  | .j4 a_0 a_12 x_13 y_20 a_21 x_23 a_143 x_144 x_145, r => ∀ (W : Nat → Prop) (h0 m0 h m : Heap) (A_0 : Option Addr) (n_0 c_0 : Nat) (A_12 : Option Addr) (n_12 c_12 : Nat) (bk_20 : Nat) (cs_20 : List Value) (A_21 : Option Addr) (n_21 c_21 : Nat) (A_143 : Option Addr) (n_143 c_143 : Nat) (O : Hold W h0 m0 h m [rR (aE T_part_Step.T) A_12 c_12 a_12, rV bk_20 99 cs_20, rR (aE T_part_Step.T) A_21 c_21 a_21]) (ne_0 : n_0 = List.length a_0) (k_0 : List.length a_0 ≤ c_0) (r_0 : Rd 1 (eRow 3 T_roadref4_Do.E) m A_0 a_0) (ne_12 : n_12 = List.length a_12) (e_20 : (eArr 4 (fun n : Int => Value.int .i64 n) (0 : Int)) m y_20 cs_20) (ne_21 : n_21 = List.length a_21) (ne_143 : n_143 = List.length a_143) (k_143 : List.length a_143 ≤ c_143) (r_143 : Rd 1 (eInt .i64) m A_143 a_143), f7.j4 (roadlaw4_ExploreRuns.post W h0 m0 r) A_0 n_0 c_0 A_12 n_12 c_12 x_13 (⟨bk_20, 0, none⟩ : Addr) A_21 n_21 c_21 x_23 A_143 n_143 c_143 x_144 x_145 h
set_option maxRecDepth 100000 in
theorem roadlaw4_ExploreRuns.l1_k.step_l1 (go : (p : roadlaw4_ExploreRuns.l1_k.Pt) → Option (Bool)) (ih : ∀ p r, go p = some r → roadlaw4_ExploreRuns.l1_k.I p r) (a_0 : List (List T_roadref4_Do)) (a_12 : List T_part_Step) (x_13 : Int) (y_20 : (List Int)) (a_21 : List T_part_Step) (a_143 : List Int) (x_144 : Int) (x_145 : Int) (r : Bool) (e : roadlaw4_ExploreRuns.l1_k.body go (.l1 a_0 a_12 x_13 y_20 a_21 a_143 x_144 x_145) = some r) : roadlaw4_ExploreRuns.l1_k.I (.l1 a_0 a_12 x_13 y_20 a_21 a_143 x_144 x_145) r := by
  unfold roadlaw4_ExploreRuns.l1_k.body at e
  intro W h0 m0 h m A_0 n_0 c_0 A_12 n_12 c_12 bk_20 cs_20 A_21 n_21 c_21 A_143 n_143 c_143 O ne_0 k_0 r_0 ne_12 e_20 ne_21 ne_143 k_143 r_143
  subst ne_0
  subst ne_12
  have qe_20_0 := e_20.1
  obtain rfl : cs_20 = [(Value.int .i64 (List.getD y_20 0 (0 : Int))), (Value.int .i64 (List.getD y_20 1 (0 : Int))), (Value.int .i64 (List.getD y_20 2 (0 : Int))), (Value.int .i64 (List.getD y_20 3 (0 : Int)))] := e_20.2
  subst ne_21
  subst ne_143
  refine f7.l1_in ?_
  unfold f7.l1T
  refine split_dec_e e (fun c26 e => ?_) (fun c26 e => ?_)
  · obtain ⟨y1, g2, e⟩ := bind_e e
    refine r_143.addr rfl g2 fun a3 cs4 ha5 hc6 he7 => ?_
    obtain rfl : cs4 = [(Value.int .i64 y1)] := he7
    refine ⟨_, ld0 O.s hc6 rfl, _, rfl, ?_⟩
    refine split_dec_e e (fun c8 e => ?_) (fun c8 e => ?_)
    · exact (ih _ _ e) _ _ _ _ _ _ _ _ _ _ _ _ _ _ _ _ _ _ _ (O.pick [0, 1, 2]).nm rfl k_0 r_0 rfl ⟨qe_20_0, rfl⟩ rfl rfl k_143 r_143
    · exact (ih _ _ e) _ _ _ _ _ _ _ _ _ _ _ _ _ _ _ _ _ _ _ (O.pick [0, 1, 2]).nm rfl k_0 r_0 rfl ⟨qe_20_0, rfl⟩ rfl rfl k_143 r_143
  · refine split_eq_e e (fun c25 e => ?_) (fun c25 e => ?_)
    · obtain ⟨y9, g10, e⟩ := bind_e e
      obtain ⟨m15, u16, s23, ⟨⟨r19, k20⟩, ⟨r21, k22⟩, _⟩, B17, C18⟩ := O.lend0 [0, 2]
      replace r19 : Rd 3 T_part_Step.E m15 A_12 a_12 := r19
      replace k20 : List.length a_12 ≤ c_12 := k20
      replace r21 : Rd 3 T_part_Step.E m15 A_21 a_21 := r21
      replace k22 : List.length a_21 ≤ c_21 := k22
      refine (slices_Equal_64.walk (Hold.start (W := No) s23) rfl k20 r19 rfl k22 r21 g10).mono ?_
      rintro _ h11 ⟨m12, Q13, rfl⟩
      have O24 := Hold.nm (C18 Q13 vfs_nil)
      refine ⟨_, rfl, ?_⟩
      cases e
      exact ⟨_, O24.pick [], rfl⟩
    · cases e
      exact ⟨_, O.pick [], rfl⟩
set_option maxRecDepth 100000 in
theorem roadlaw4_ExploreRuns.l1_k.step_j5 (go : (p : roadlaw4_ExploreRuns.l1_k.Pt) → Option (Bool)) (ih : ∀ p r, go p = some r → roadlaw4_ExploreRuns.l1_k.I p r) (a_0 : List (List T_roadref4_Do)) (a_12 : List T_part_Step) (x_13 : Int) (y_20 : (List Int)) (a_21 : List T_part_Step) (x_23 : Int) (a_143 : List Int) (x_144 : Int) (x_145 : Int) (b_156 : Bool) (r : Bool) (e : roadlaw4_ExploreRuns.l1_k.body go (.j5 a_0 a_12 x_13 y_20 a_21 x_23 a_143 x_144 x_145 b_156) = some r) : roadlaw4_ExploreRuns.l1_k.I (.j5 a_0 a_12 x_13 y_20 a_21 x_23 a_143 x_144 x_145 b_156) r := by
  unfold roadlaw4_ExploreRuns.l1_k.body at e
  intro W h0 m0 h m A_0 n_0 c_0 A_12 n_12 c_12 bk_20 cs_20 A_21 n_21 c_21 A_143 n_143 c_143 O ne_0 k_0 r_0 ne_12 e_20 ne_21 ne_143 k_143 r_143
  subst ne_0
  subst ne_12
  have qe_20_0 := e_20.1
  obtain rfl : cs_20 = [(Value.int .i64 (List.getD y_20 0 (0 : Int))), (Value.int .i64 (List.getD y_20 1 (0 : Int))), (Value.int .i64 (List.getD y_20 2 (0 : Int))), (Value.int .i64 (List.getD y_20 3 (0 : Int)))] := e_20.2
  subst ne_21
  subst ne_143
  refine f7.j5_in ?_
  unfold f7.j5T
  refine split_any_e e (fun c2 e => ?_) (fun c2 e => ?_)
  · refine split_eq_e e (fun c1 e => ?_) (fun c1 e => ?_)
    · cases e
      exact ⟨_, O.pick [], rfl⟩
    · cases e
      exact ⟨_, O.pick [], rfl⟩
  · exact (ih _ _ e) _ _ _ _ _ _ _ _ _ _ _ _ _ _ _ _ _ _ _ (O.pick [0, 1, 2]).nm rfl k_0 r_0 rfl ⟨qe_20_0, rfl⟩ rfl rfl k_143 r_143
set_option maxHeartbeats 4000000 in
set_option maxRecDepth 100000 in
theorem roadlaw4_ExploreRuns.l1_k.step_j4 (go : (p : roadlaw4_ExploreRuns.l1_k.Pt) → Option (Bool)) (ih : ∀ p r, go p = some r → roadlaw4_ExploreRuns.l1_k.I p r) (a_0 : List (List T_roadref4_Do)) (a_12 : List T_part_Step) (x_13 : Int) (y_20 : (List Int)) (a_21 : List T_part_Step) (x_23 : Int) (a_143 : List Int) (x_144 : Int) (x_145 : Int) (r : Bool) (e : roadlaw4_ExploreRuns.l1_k.body go (.j4 a_0 a_12 x_13 y_20 a_21 x_23 a_143 x_144 x_145) = some r) : roadlaw4_ExploreRuns.l1_k.I (.j4 a_0 a_12 x_13 y_20 a_21 x_23 a_143 x_144 x_145) r := by
  unfold roadlaw4_ExploreRuns.l1_k.body at e
  intro W h0 m0 h m A_0 n_0 c_0 A_12 n_12 c_12 bk_20 cs_20 A_21 n_21 c_21 A_143 n_143 c_143 O ne_0 k_0 r_0 ne_12 e_20 ne_21 ne_143 k_143 r_143
  subst ne_0
  subst ne_12
  have qe_20_0 := e_20.1
  obtain rfl : cs_20 = [(Value.int .i64 (List.getD y_20 0 (0 : Int))), (Value.int .i64 (List.getD y_20 1 (0 : Int))), (Value.int .i64 (List.getD y_20 2 (0 : Int))), (Value.int .i64 (List.getD y_20 3 (0 : Int)))] := e_20.2
  subst ne_21
  subst ne_143
  refine f7.j4_in ?_
  unfold f7.j4T
  obtain ⟨y1, g2, e⟩ := bind_e e
  refine ⟨gi_le g2, gi_ltn g2 qe_20_0, ?_⟩
  obtain ⟨y3, g4, e⟩ := bind_e e
  refine r_0.addr rfl g4 fun a5 cs6 ha7 hc8 he9 => ?_
  obtain ⟨Acs6_0, ccs6_0, rfl, kcs6_0, rcs6_0⟩ := id he9
  refine ⟨_, ldArr0 (n := 4) (f := (fun n : Int => Value.int .i64 n)) (d := (0 : Int)) (Sub.refl _) (O.all 1 rfl) rfl qe_20_0 g2, _, rfl, ?_⟩
  refine ⟨_, ld0 O.s hc8 rfl, _, _, _, rfl, ?_⟩
  refine split_eq_e e (fun c84 e => ?_) (fun c84 e => ?_)
  · refine split_eq_e e (fun c10 e => ?_) (fun c10 e => ?_)
    · cases e
      exact ⟨_, O.pick [], rfl⟩
    · cases e
      exact ⟨_, O.pick [], rfl⟩
  · obtain ⟨y11, g12, e⟩ := bind_e e
    refine r_0.addr rfl g12 fun a13 cs14 ha15 hc16 he17 => ?_
    obtain ⟨Acs14_0, ccs14_0, rfl, kcs14_0, rcs14_0⟩ := id he17
    obtain ⟨y18, g19, e⟩ := bind_e e
    refine ⟨gi_le g19, gi_ltn g19 qe_20_0, ?_⟩
    refine ⟨_, ld0 O.s hc16 rfl, _, _, _, rfl, ?_⟩
    refine ⟨_, ldArr0 (n := 4) (f := (fun n : Int => Value.int .i64 n)) (d := (0 : Int)) (Sub.refl _) (O.all 1 rfl) rfl qe_20_0 g19, _, rfl, ?_⟩
    obtain ⟨y20, g21, e⟩ := bind_e e
    refine rcs14_0.addr rfl g21 fun a22 cs23 ha24 hc25 he26 => ?_
    refine ⟨_, ldAn O.s hc25 rfl, ?_⟩
    obtain ⟨y27, g28, e⟩ := bind_e e
    refine (roadref4_Do_Step.walk (Hold.start (W := No) O.s) he26 g28).mono ?_
    rintro _ h29 ⟨m30, cs34, Q31, rfl, he35⟩
    replace he35 : T_roadref4_Step.E m y27 cs34 := T_roadref4_Step.keep he35
    have O36 := Hold.nm (O.retC Q31 vfs_nil)
    refine ⟨cs34, rfl, (T_roadref4_Step.T.len _ _ _ he35), ?_⟩
    refine O36.new fun h37 x38 O39 => ?_
    have O41 := O39.recell 3 rfl (cs' := cs34 ++ []) rfl
    obtain ⟨y43, g44, e⟩ := bind_e e
    have O42 := O41.rowE (l := ([y27] : List T_roadref4_Step)) 3 rfl T_roadref4_Step.T (show CsE _ _ _ _ _ from (CsE.cons he35 (T_roadref4_Step.T.len _ _ _ he35) CsE.nil)) rfl
    have O49 := O42.nm
    obtain ⟨m50, u51, s56, ⟨⟨r54, k55⟩, _⟩, B52, C53⟩ := O49.lend0 [3]
    replace r54 : Rd 3 T_roadref4_Step.E m50 (some ⟨(Array.size h29), 0, none⟩) ([y27] : List T_roadref4_Step) := r54
    replace k55 : List.length ([y27] : List T_roadref4_Step) ≤ 1 := k55
    refine (roadlaw4_steps.walk (Hold.start (W := No) s56) rfl k55 r54 g44).mono ?_
    rintro _ h45 ⟨m46, A57, n58, c59, Q47, rfl, ne60⟩
    have O62 := Hold.nm (C53 Q47 (vfs_cons (rR_vf (aE_vf (fun _ _ _ _ h => T_part_Step.keep h))) vfs_nil))
    subst ne60
    refine ⟨_, _, _, rfl, ?_⟩
    obtain ⟨l63, g64, e⟩ := bind_e e
    refine O62.app 2 rfl rfl rfl ((O62.os 4 rfl).srcE rfl) (by decide) g64 fun A65 c66 h67 O68 => ?_
    refine ⟨_, _, _, rfl, ?_⟩
    obtain ⟨y71, g72, e⟩ := bind_e e
    refine ⟨gi_le g72, gi_ltn g72 qe_20_0, ?_⟩
    refine ⟨_, ldArr0 (n := 4) (f := (fun n : Int => Value.int .i64 n)) (d := (0 : Int)) (Sub.refl _) (O68.all 1 rfl) rfl qe_20_0 g72, _, rfl, ?_⟩
    obtain ⟨y73, g74, e⟩ := bind_e e
    refine ⟨gi_le g74, gi_ltn g74 qe_20_0, ?_⟩
    obtain ⟨l75, g76, e⟩ := bind_e e
    replace g76 := Option.some.inj g76
    have q77 : List.length l75 = 4 := by rw [← g76, List.length_set]; exact qe_20_0
    obtain ⟨h78, w79, o80, t81⟩ := (O68.ob 1 rfl).stArr0 (n := 4) (f := (fun n : Int => Value.int .i64 n)) (d := (0 : Int)) (v := (IntKind.wrap .i64 (y71 + (1 : Int)))) O68.s rfl (Nat.le_of_ble_eq_true rfl) qe_20_0 g74 trivial
    rw [g76] at o80
    refine ⟨h78, w79, ?_⟩
    have O82 := O68.setV 1 rfl (cs' := [(Value.int .i64 (List.getD l75 0 (0 : Int))), (Value.int .i64 (List.getD l75 1 (0 : Int))), (Value.int .i64 (List.getD l75 2 (0 : Int))), (Value.int .i64 (List.getD l75 3 (0 : Int)))]) o80 t81
    have O83 := O82.nm
    exact (ih _ _ e) _ _ _ _ _ _ _ _ _ _ _ _ _ _ _ _ _ _ _ (O83.pick [0, 1, 2]).nm rfl k_0 r_0 rfl ⟨q77, rfl⟩ rfl rfl k_143 r_143
theorem roadlaw4_ExploreRuns.l1_k.all {p : roadlaw4_ExploreRuns.l1_k.Pt} {r : (Bool)} (e : roadlaw4_ExploreRuns.l1_k.go p = some r) : roadlaw4_ExploreRuns.l1_k.I p r := fixF_ind (β := fun _ => (Bool)) roadlaw4_ExploreRuns.l1_k.mono (I := roadlaw4_ExploreRuns.l1_k.I) (fun go ih p r e => match p with
  | .l1 a_0 a_12 x_13 y_20 a_21 a_143 x_144 x_145 => roadlaw4_ExploreRuns.l1_k.step_l1 go ih a_0 a_12 x_13 y_20 a_21 a_143 x_144 x_145 r e
  | .j5 a_0 a_12 x_13 y_20 a_21 x_23 a_143 x_144 x_145 b_156 => roadlaw4_ExploreRuns.l1_k.step_j5 go ih a_0 a_12 x_13 y_20 a_21 x_23 a_143 x_144 x_145 b_156 r e
  | .j4 a_0 a_12 x_13 y_20 a_21 x_23 a_143 x_144 x_145 => roadlaw4_ExploreRuns.l1_k.step_j4 go ih a_0 a_12 x_13 y_20 a_21 x_23 a_143 x_144 x_145 r e
  ) e
theorem roadlaw4_ExploreRuns.l1.walk {W : Nat → Prop} {h0 m0 h m : Heap} {A_0 : Option Addr} {n_0 c_0 : Nat} {A_12 : Option Addr} {n_12 c_12 : Nat} {bk_20 : Nat} {cs_20 : List Value} {A_21 : Option Addr} {n_21 c_21 : Nat} {A_143 : Option Addr} {n_143 c_143 : Nat} {a_0 : List (List T_roadref4_Do)} {a_12 : List T_part_Step} {x_13 : Int} {y_20 : (List Int)} {a_21 : List T_part_Step} {a_143 : List Int} {x_144 : Int} {x_145 : Int} (O : Hold W h0 m0 h m [rR (aE T_part_Step.T) A_12 c_12 a_12, rV bk_20 99 cs_20, rR (aE T_part_Step.T) A_21 c_21 a_21]) (ne_0 : n_0 = List.length a_0) (k_0 : List.length a_0 ≤ c_0) (r_0 : Rd 1 (eRow 3 T_roadref4_Do.E) m A_0 a_0) (ne_12 : n_12 = List.length a_12) (e_20 : (eArr 4 (fun n : Int => Value.int .i64 n) (0 : Int)) m y_20 cs_20) (ne_21 : n_21 = List.length a_21) (ne_143 : n_143 = List.length a_143) (k_143 : List.length a_143 ≤ c_143) (r_143 : Rd 1 (eInt .i64) m A_143 a_143) {r : Bool} (e : roadlaw4_ExploreRuns.l1 a_0 a_12 x_13 y_20 a_21 a_143 x_144 x_145 = some r) : f7.l1 (roadlaw4_ExploreRuns.post W h0 m0 r) A_0 n_0 c_0 A_12 n_12 c_12 x_13 (⟨bk_20, 0, none⟩ : Addr) A_21 n_21 c_21 A_143 n_143 c_143 x_144 x_145 h := roadlaw4_ExploreRuns.l1_k.all (p := .l1 a_0 a_12 x_13 y_20 a_21 a_143 x_144 x_145) e W h0 m0 h m A_0 n_0 c_0 A_12 n_12 c_12 bk_20 cs_20 A_21 n_21 c_21 A_143 n_143 c_143 O ne_0 k_0 r_0 ne_12 e_20 ne_21 ne_143 k_143 r_143
theorem roadlaw4_ExploreRuns.j5.walk {W : Nat → Prop} {h0 m0 h m : Heap} {A_0 : Option Addr} {n_0 c_0 : Nat} {A_12 : Option Addr} {n_12 c_12 : Nat} {bk_20 : Nat} {cs_20 : List Value} {A_21 : Option Addr} {n_21 c_21 : Nat} {A_143 : Option Addr} {n_143 c_143 : Nat} {a_0 : List (List T_roadref4_Do)} {a_12 : List T_part_Step} {x_13 : Int} {y_20 : (List Int)} {a_21 : List T_part_Step} {x_23 : Int} {a_143 : List Int} {x_144 : Int} {x_145 : Int} {b_156 : Bool} (O : Hold W h0 m0 h m [rR (aE T_part_Step.T) A_12 c_12 a_12, rV bk_20 99 cs_20, rR (aE T_part_Step.T) A_21 c_21 a_21]) (ne_0 : n_0 = List.length a_0) (k_0 : List.length a_0 ≤ c_0) (r_0 : Rd 1 (eRow 3 T_roadref4_Do.E) m A_0 a_0) (ne_12 : n_12 = List.length a_12) (e_20 : (eArr 4 (fun n : Int => Value.int .i64 n) (0 : Int)) m y_20 cs_20) (ne_21 : n_21 = List.length a_21) (ne_143 : n_143 = List.length a_143) (k_143 : List.length a_143 ≤ c_143) (r_143 : Rd 1 (eInt .i64) m A_143 a_143) {r : Bool} (e : roadlaw4_ExploreRuns.j5 a_0 a_12 x_13 y_20 a_21 x_23 a_143 x_144 x_145 b_156 = some r) : f7.j5 (roadlaw4_ExploreRuns.post W h0 m0 r) A_0 n_0 c_0 A_12 n_12 c_12 x_13 (⟨bk_20, 0, none⟩ : Addr) A_21 n_21 c_21 x_23 A_143 n_143 c_143 x_144 x_145 b_156 h := roadlaw4_ExploreRuns.l1_k.all (p := .j5 a_0 a_12 x_13 y_20 a_21 x_23 a_143 x_144 x_145 b_156) e W h0 m0 h m A_0 n_0 c_0 A_12 n_12 c_12 bk_20 cs_20 A_21 n_21 c_21 A_143 n_143 c_143 O ne_0 k_0 r_0 ne_12 e_20 ne_21 ne_143 k_143 r_143
theorem roadlaw4_ExploreRuns.j4.walk {W : Nat → Prop} {h0 m0 h m : Heap} {A_0 : Option Addr} {n_0 c_0 : Nat} {A_12 : Option Addr} {n_12 c_12 : Nat} {bk_20 : Nat} {cs_20 : List Value} {A_21 : Option Addr} {n_21 c_21 : Nat} {A_143 : Option Addr} {n_143 c_143 : Nat} {a_0 : List (List T_roadref4_Do)} {a_12 : List T_part_Step} {x_13 : Int} {y_20 : (List Int)} {a_21 : List T_part_Step} {x_23 : Int} {a_143 : List Int} {x_144 : Int} {x_145 : Int} (O : Hold W h0 m0 h m [rR (aE T_part_Step.T) A_12 c_12 a_12, rV bk_20 99 cs_20, rR (aE T_part_Step.T) A_21 c_21 a_21]) (ne_0 : n_0 = List.length a_0) (k_0 : List.length a_0 ≤ c_0) (r_0 : Rd 1 (eRow 3 T_roadref4_Do.E) m A_0 a_0) (ne_12 : n_12 = List.length a_12) (e_20 : (eArr 4 (fun n : Int => Value.int .i64 n) (0 : Int)) m y_20 cs_20) (ne_21 : n_21 = List.length a_21) (ne_143 : n_143 = List.length a_143) (k_143 : List.length a_143 ≤ c_143) (r_143 : Rd 1 (eInt .i64) m A_143 a_143) {r : Bool} (e : roadlaw4_ExploreRuns.j4 a_0 a_12 x_13 y_20 a_21 x_23 a_143 x_144 x_145 = some r) : f7.j4 (roadlaw4_ExploreRuns.post W h0 m0 r) A_0 n_0 c_0 A_12 n_12 c_12 x_13 (⟨bk_20, 0, none⟩ : Addr) A_21 n_21 c_21 x_23 A_143 n_143 c_143 x_144 x_145 h := roadlaw4_ExploreRuns.l1_k.all (p := .j4 a_0 a_12 x_13 y_20 a_21 x_23 a_143 x_144 x_145) e W h0 m0 h m A_0 n_0 c_0 A_12 n_12 c_12 bk_20 cs_20 A_21 n_21 c_21 A_143 n_143 c_143 O ne_0 k_0 r_0 ne_12 e_20 ne_21 ne_143 k_143 r_143

noncomputable def roadlaw4_ExploreRuns.j2 (a_0 : List (List T_roadref4_Do)) (a_1 : List Int) (a_12 : List T_part_Step) (x_13 : Int) : Option (Bool) :=
  (roadlaw4_ExploreRuns.l1 a_0 a_12 x_13 (List.replicate 4 (0 : Int)) ([] : List T_part_Step) a_1 (((List.length a_1) : Nat) : Int) (0 : Int))
set_option maxRecDepth 100000 in
theorem roadlaw4_ExploreRuns.j2.walk {W : Nat → Prop} {h0 m0 h m : Heap} {A_0 : Option Addr} {n_0 c_0 : Nat} {A_1 : Option Addr} {n_1 c_1 : Nat} {A_12 : Option Addr} {n_12 c_12 : Nat} {a_0 : List (List T_roadref4_Do)} {a_1 : List Int} {a_12 : List T_part_Step} {x_13 : Int} (O : Hold W h0 m0 h m [rR (aE T_part_Step.T) A_12 c_12 a_12]) (ne_0 : n_0 = List.length a_0) (k_0 : List.length a_0 ≤ c_0) (r_0 : Rd 1 (eRow 3 T_roadref4_Do.E) m A_0 a_0) (ne_1 : n_1 = List.length a_1) (k_1 : List.length a_1 ≤ c_1) (r_1 : Rd 1 (eInt .i64) m A_1 a_1) (ne_12 : n_12 = List.length a_12) {r : Bool} (e : roadlaw4_ExploreRuns.j2 a_0 a_1 a_12 x_13 = some r) : f7.j2 (roadlaw4_ExploreRuns.post W h0 m0 r) A_0 n_0 c_0 A_1 n_1 c_1 A_12 n_12 c_12 x_13 h := by
  unfold roadlaw4_ExploreRuns.j2 at e
  subst ne_0
  subst ne_1
  subst ne_12
  refine f7.j2_in ?_
  unfold f7.j2T
  refine O.new fun h1 x2 O3 => ?_
  have O5 := O3.nil (aE T_part_Step.T) none
  have O7 := O5.nm
  exact roadlaw4_ExploreRuns.l1.walk (O7.pick [0, 1, 2]).nm rfl k_0 r_0 rfl ⟨rfl, rfl⟩ rfl rfl k_1 r_1 e

noncomputable def roadlaw4_ExploreRuns.j1 (a_0 : List (List T_roadref4_Do)) (a_1 : List Int) (y_9 : T_explore_State) (x_10 : Int) (x_11 : Int) (a_12 : List T_part_Step) (x_13 : Int) (y_15 : T_roadref4_State) (x_16 : Int) (x_17 : Int) : Option (Bool) :=
  if x_17 = (0 : Int) then (if x_11 = (0 : Int) then (Option.bind (roadlaw4_state y_15) fun y4 => if ((((List.getD y_9.Cells 0 (0 : Int)) == (List.getD y4.Cells 0 (0 : Int))) && (((List.getD y_9.Cells 1 (0 : Int)) == (List.getD y4.Cells 1 (0 : Int))) && (((List.getD y_9.Cells 2 (0 : Int)) == (List.getD y4.Cells 2 (0 : Int))) && (((List.getD y_9.Cells 3 (0 : Int)) == (List.getD y4.Cells 3 (0 : Int))) && true)))) && ((((List.getD y_9.Hands 0 (0 : Int)) == (List.getD y4.Hands 0 (0 : Int))) && (((List.getD y_9.Hands 1 (0 : Int)) == (List.getD y4.Hands 1 (0 : Int))) && (((List.getD y_9.Hands 2 (0 : Int)) == (List.getD y4.Hands 2 (0 : Int))) && (((List.getD y_9.Hands 3 (0 : Int)) == (List.getD y4.Hands 3 (0 : Int))) && true)))) && ((((List.getD y_9.At 0 (0 : Int)) == (List.getD y4.At 0 (0 : Int))) && (((List.getD y_9.At 1 (0 : Int)) == (List.getD y4.At 1 (0 : Int))) && (((List.getD y_9.At 2 (0 : Int)) == (List.getD y4.At 2 (0 : Int))) && (((List.getD y_9.At 3 (0 : Int)) == (List.getD y4.At 3 (0 : Int))) && true)))) && true))) = true then (if x_10 = x_16 then ((roadlaw4_ExploreRuns.j2 a_0 a_1 a_12 x_13)) else (some (false))) else (some (false))) else (some (false))) else (if x_11 = x_17 then (if ((((List.getD y_9.Cells 0 (0 : Int)) == (0 : Int)) && (((List.getD y_9.Cells 1 (0 : Int)) == (0 : Int)) && (((List.getD y_9.Cells 2 (0 : Int)) == (0 : Int)) && (((List.getD y_9.Cells 3 (0 : Int)) == (0 : Int)) && true)))) && ((((List.getD y_9.Hands 0 (0 : Int)) == (0 : Int)) && (((List.getD y_9.Hands 1 (0 : Int)) == (0 : Int)) && (((List.getD y_9.Hands 2 (0 : Int)) == (0 : Int)) && (((List.getD y_9.Hands 3 (0 : Int)) == (0 : Int)) && true)))) && ((((List.getD y_9.At 0 (0 : Int)) == (0 : Int)) && (((List.getD y_9.At 1 (0 : Int)) == (0 : Int)) && (((List.getD y_9.At 2 (0 : Int)) == (0 : Int)) && (((List.getD y_9.At 3 (0 : Int)) == (0 : Int)) && true)))) && true))) = true then (if x_10 = (0 : Int) then ((roadlaw4_ExploreRuns.j2 a_0 a_1 a_12 x_13)) else (some (false))) else (some (false))) else (some (false)))
set_option maxHeartbeats 4000000 in
set_option maxRecDepth 100000 in
theorem roadlaw4_ExploreRuns.j1.walk {W : Nat → Prop} {h0 m0 h m : Heap} {A_0 : Option Addr} {n_0 c_0 : Nat} {A_1 : Option Addr} {n_1 c_1 : Nat} {bk_9 : Nat} {cs_9 : List Value} {A_12 : Option Addr} {n_12 c_12 : Nat} {bk_15 : Nat} {cs_15 : List Value} {a_0 : List (List T_roadref4_Do)} {a_1 : List Int} {y_9 : T_explore_State} {x_10 : Int} {x_11 : Int} {a_12 : List T_part_Step} {x_13 : Int} {y_15 : T_roadref4_State} {x_16 : Int} {x_17 : Int} (O : Hold W h0 m0 h m [rV bk_9 101 cs_9, rR (aE T_part_Step.T) A_12 c_12 a_12, rV bk_15 114 cs_15]) (ne_0 : n_0 = List.length a_0) (k_0 : List.length a_0 ≤ c_0) (r_0 : Rd 1 (eRow 3 T_roadref4_Do.E) m A_0 a_0) (ne_1 : n_1 = List.length a_1) (k_1 : List.length a_1 ≤ c_1) (r_1 : Rd 1 (eInt .i64) m A_1 a_1) (e_9 : T_explore_State.E m y_9 cs_9) (ne_12 : n_12 = List.length a_12) (e_15 : T_roadref4_State.E m y_15 cs_15) {r : Bool} (e : roadlaw4_ExploreRuns.j1 a_0 a_1 y_9 x_10 x_11 a_12 x_13 y_15 x_16 x_17 = some r) : f7.j1 (roadlaw4_ExploreRuns.post W h0 m0 r) A_0 n_0 c_0 A_1 n_1 c_1 (⟨bk_9, 0, none⟩ : Addr) x_10 x_11 A_12 n_12 c_12 x_13 (⟨bk_15, 0, none⟩ : Addr) x_16 x_17 h := by
  unfold roadlaw4_ExploreRuns.j1 at e
  subst ne_0
  subst ne_1
  obtain ⟨rfl, qe_9_0, qe_9_1, qe_9_2⟩ := id e_9
  subst ne_12
  obtain ⟨rfl, qe_15_0, qe_15_1, qe_15_2⟩ := id e_15
  refine f7.j1_in ?_
  unfold f7.j1T
  refine split_ne_e e (fun c17 e => ?_) (fun c17 e => ?_)
  · refine split_ne_e e (fun c3 e => ?_) (fun c3 e => ?_)
    · cases e
      exact ⟨_, O.pick [], rfl⟩
    · refine ⟨_, ldAn (Sub.refl _) (O.all 0 rfl) rfl, ?_⟩
      refine gen_neqN (b := ((((List.getD y_9.Cells 0 (0 : Int)) == (0 : Int)) && (((List.getD y_9.Cells 1 (0 : Int)) == (0 : Int)) && (((List.getD y_9.Cells 2 (0 : Int)) == (0 : Int)) && (((List.getD y_9.Cells 3 (0 : Int)) == (0 : Int)) && true)))) && ((((List.getD y_9.Hands 0 (0 : Int)) == (0 : Int)) && (((List.getD y_9.Hands 1 (0 : Int)) == (0 : Int)) && (((List.getD y_9.Hands 2 (0 : Int)) == (0 : Int)) && (((List.getD y_9.Hands 3 (0 : Int)) == (0 : Int)) && true)))) && ((((List.getD y_9.At 0 (0 : Int)) == (0 : Int)) && (((List.getD y_9.At 1 (0 : Int)) == (0 : Int)) && (((List.getD y_9.At 2 (0 : Int)) == (0 : Int)) && (((List.getD y_9.At 3 (0 : Int)) == (0 : Int)) && true)))) && true)))) (by kernel_rfl) ?_
      refine ⟨_, rfl, ?_⟩
      refine split_not ?_
      refine split_any_e e (fun c2 e => ?_) (fun c2 e => ?_)
      · refine split_ne_e e (fun c1 e => ?_) (fun c1 e => ?_)
        · cases e
          exact ⟨_, O.pick [], rfl⟩
        · exact roadlaw4_ExploreRuns.j2.walk (O.pick [1]).nm rfl k_0 r_0 rfl k_1 r_1 rfl e
      · cases e
        exact ⟨_, O.pick [], rfl⟩
  · refine split_ne_e e (fun c16 e => ?_) (fun c16 e => ?_)
    · refine ⟨Ext.refl _, ?_⟩
      cases e
      exact ⟨_, O.pick [], rfl⟩
    · refine ⟨_, ldAn (Sub.refl _) (O.all 0 rfl) rfl, ?_⟩
      refine ⟨_, ldAn (Sub.refl _) (O.all 2 rfl) rfl, ?_⟩
      obtain ⟨y4, g5, e⟩ := bind_e e
      refine (roadlaw4_state.walk (Hold.start (W := No) O.s) (show T_roadref4_State.E _ y_15 [(Value.int .i64 (List.getD y_15.Cells 0 (0 : Int))), (Value.int .i64 (List.getD y_15.Cells 1 (0 : Int))), (Value.int .i64 (List.getD y_15.Cells 2 (0 : Int))), (Value.int .i64 (List.getD y_15.Cells 3 (0 : Int))), (Value.int .i64 (List.getD y_15.Hands 0 (0 : Int))), (Value.int .i64 (List.getD y_15.Hands 1 (0 : Int))), (Value.int .i64 (List.getD y_15.Hands 2 (0 : Int))), (Value.int .i64 (List.getD y_15.Hands 3 (0 : Int))), (Value.int .i64 (List.getD y_15.At 0 (0 : Int))), (Value.int .i64 (List.getD y_15.At 1 (0 : Int))), (Value.int .i64 (List.getD y_15.At 2 (0 : Int))), (Value.int .i64 (List.getD y_15.At 3 (0 : Int)))] from ⟨rfl, qe_15_0, qe_15_1, qe_15_2⟩) g5).mono ?_
      rintro _ h6 ⟨m7, cs11, Q8, rfl, he12⟩
      have O13 := Hold.nm (O.retC Q8 vfs_nil)
      obtain ⟨rfl, qhe12_0, qhe12_1, qhe12_2⟩ := id he12
      refine ⟨Q8.S.ext, ?_⟩
      refine gen_neqN (b := ((((List.getD y_9.Cells 0 (0 : Int)) == (List.getD y4.Cells 0 (0 : Int))) && (((List.getD y_9.Cells 1 (0 : Int)) == (List.getD y4.Cells 1 (0 : Int))) && (((List.getD y_9.Cells 2 (0 : Int)) == (List.getD y4.Cells 2 (0 : Int))) && (((List.getD y_9.Cells 3 (0 : Int)) == (List.getD y4.Cells 3 (0 : Int))) && true)))) && ((((List.getD y_9.Hands 0 (0 : Int)) == (List.getD y4.Hands 0 (0 : Int))) && (((List.getD y_9.Hands 1 (0 : Int)) == (List.getD y4.Hands 1 (0 : Int))) && (((List.getD y_9.Hands 2 (0 : Int)) == (List.getD y4.Hands 2 (0 : Int))) && (((List.getD y_9.Hands 3 (0 : Int)) == (List.getD y4.Hands 3 (0 : Int))) && true)))) && ((((List.getD y_9.At 0 (0 : Int)) == (List.getD y4.At 0 (0 : Int))) && (((List.getD y_9.At 1 (0 : Int)) == (List.getD y4.At 1 (0 : Int))) && (((List.getD y_9.At 2 (0 : Int)) == (List.getD y4.At 2 (0 : Int))) && (((List.getD y_9.At 3 (0 : Int)) == (List.getD y4.At 3 (0 : Int))) && true)))) && true)))) (by kernel_rfl) ?_
      refine ⟨_, rfl, ?_⟩
      refine split_not ?_
      refine split_any_e e (fun c15 e => ?_) (fun c15 e => ?_)
      · refine split_ne_e e (fun c14 e => ?_) (fun c14 e => ?_)
        · cases e
          exact ⟨_, O13.pick [], rfl⟩
        · exact roadlaw4_ExploreRuns.j2.walk (O13.pick [1]).nm rfl k_0 r_0 rfl k_1 r_1 rfl e
      · cases e
        exact ⟨_, O13.pick [], rfl⟩

inductive roadlaw4_ExploreRuns.l0_k.Pt where
  | l0 (a_0 : List (List T_roadref4_Do)) (a_1 : List Int) (y_9 : T_explore_State) (x_10 : Int) (x_11 : Int) (a_12 : List T_part_Step) (x_13 : Int) (y_15 : T_roadref4_State) (x_16 : Int) (x_17 : Int) (a_90 : List Int) (x_91 : Int) (x_92 : Int)
  | j3 (a_0 : List (List T_roadref4_Do)) (a_1 : List Int) (y_9 : T_explore_State) (x_10 : Int) (x_11 : Int) (a_12 : List T_part_Step) (x_13 : Int) (y_15 : T_roadref4_State) (x_16 : Int) (x_17 : Int) (x_19 : Int) (a_90 : List Int) (x_91 : Int) (x_92 : Int)
noncomputable def roadlaw4_ExploreRuns.l0_k.body (go : (p : roadlaw4_ExploreRuns.l0_k.Pt) → Option (Bool)) : (p : roadlaw4_ExploreRuns.l0_k.Pt) → Option (Bool)
  | .l0 a_0 a_1 y_9 x_10 x_11 a_12 x_13 y_15 x_16 x_17 a_90 x_91 x_92 => if x_92 < x_91 then (Option.bind (gi a_90 x_92) fun y1 => if y1 < (0 : Int) then ((roadlaw4_ExploreRuns.j1 a_0 a_1 y_9 x_10 x_11 a_12 x_13 y_15 x_16 (1 : Int))) else (if y1 ≥ (((List.length a_0) : Nat) : Int) then ((roadlaw4_ExploreRuns.j1 a_0 a_1 y_9 x_10 x_11 a_12 x_13 y_15 x_16 (1 : Int))) else ((go (.j3 a_0 a_1 y_9 x_10 x_11 a_12 x_13 y_15 x_16 x_17 y1 a_90 x_91 x_92))))) else ((roadlaw4_ExploreRuns.j1 a_0 a_1 y_9 x_10 x_11 a_12 x_13 y_15 x_16 x_17))
  | .j3 a_0 a_1 y_9 x_10 x_11 a_12 x_13 y_15 x_16 x_17 x_19 a_90 x_91 x_92 => Option.bind (roadref4_State_Can y_15 a_0 x_19) fun y1 => if y1 = true then (Option.bind (roadref4_State_Next y_15 a_0 x_19) fun y8 => (go (.l0 a_0 a_1 y_9 x_10 x_11 a_12 x_13 y8 (IntKind.wrap .i64 (x_16 + (1 : Int))) x_17 a_90 x_91 (IntKind.wrap .i64 (x_92 + (1 : Int)))))) else ((roadlaw4_ExploreRuns.j1 a_0 a_1 y_9 x_10 x_11 a_12 x_13 y_15 x_16 x_17))
theorem roadlaw4_ExploreRuns.l0_k.mono : MonoF (β := fun _ => (Bool)) roadlaw4_ExploreRuns.l0_k.body := fun f g hfg p => match p with
  | .l0 a_0 a_1 y_9 x_10 x_11 a_12 x_13 y_15 x_16 x_17 a_90 x_91 x_92 => LeO.ite (LeO.bind (LeO.refl _) fun y1 => LeO.ite ((LeO.refl _)) (LeO.ite ((LeO.refl _)) ((hfg _)))) ((LeO.refl _))
  | .j3 a_0 a_1 y_9 x_10 x_11 a_12 x_13 y_15 x_16 x_17 x_19 a_90 x_91 x_92 => LeO.bind (LeO.refl _) fun y1 => LeO.ite (LeO.bind (LeO.refl _) fun y8 => (hfg _)) ((LeO.refl _))
noncomputable def roadlaw4_ExploreRuns.l0_k.go (p : roadlaw4_ExploreRuns.l0_k.Pt) : Option (Bool) := fixF (β := fun _ => (Bool)) roadlaw4_ExploreRuns.l0_k.body p
noncomputable def roadlaw4_ExploreRuns.l0 (a_0 : List (List T_roadref4_Do)) (a_1 : List Int) (y_9 : T_explore_State) (x_10 : Int) (x_11 : Int) (a_12 : List T_part_Step) (x_13 : Int) (y_15 : T_roadref4_State) (x_16 : Int) (x_17 : Int) (a_90 : List Int) (x_91 : Int) (x_92 : Int) : Option (Bool) := roadlaw4_ExploreRuns.l0_k.go (.l0 a_0 a_1 y_9 x_10 x_11 a_12 x_13 y_15 x_16 x_17 a_90 x_91 x_92)
noncomputable def roadlaw4_ExploreRuns.j3 (a_0 : List (List T_roadref4_Do)) (a_1 : List Int) (y_9 : T_explore_State) (x_10 : Int) (x_11 : Int) (a_12 : List T_part_Step) (x_13 : Int) (y_15 : T_roadref4_State) (x_16 : Int) (x_17 : Int) (x_19 : Int) (a_90 : List Int) (x_91 : Int) (x_92 : Int) : Option (Bool) := roadlaw4_ExploreRuns.l0_k.go (.j3 a_0 a_1 y_9 x_10 x_11 a_12 x_13 y_15 x_16 x_17 x_19 a_90 x_91 x_92)
theorem roadlaw4_ExploreRuns.l0_eq (a_0 : List (List T_roadref4_Do)) (a_1 : List Int) (y_9 : T_explore_State) (x_10 : Int) (x_11 : Int) (a_12 : List T_part_Step) (x_13 : Int) (y_15 : T_roadref4_State) (x_16 : Int) (x_17 : Int) (a_90 : List Int) (x_91 : Int) (x_92 : Int) : roadlaw4_ExploreRuns.l0 a_0 a_1 y_9 x_10 x_11 a_12 x_13 y_15 x_16 x_17 a_90 x_91 x_92 = if x_92 < x_91 then (Option.bind (gi a_90 x_92) fun y1 => if y1 < (0 : Int) then ((roadlaw4_ExploreRuns.j1 a_0 a_1 y_9 x_10 x_11 a_12 x_13 y_15 x_16 (1 : Int))) else (if y1 ≥ (((List.length a_0) : Nat) : Int) then ((roadlaw4_ExploreRuns.j1 a_0 a_1 y_9 x_10 x_11 a_12 x_13 y_15 x_16 (1 : Int))) else ((roadlaw4_ExploreRuns.j3 a_0 a_1 y_9 x_10 x_11 a_12 x_13 y_15 x_16 x_17 y1 a_90 x_91 x_92)))) else ((roadlaw4_ExploreRuns.j1 a_0 a_1 y_9 x_10 x_11 a_12 x_13 y_15 x_16 x_17)) := fixF_eq roadlaw4_ExploreRuns.l0_k.mono _
theorem roadlaw4_ExploreRuns.j3_eq (a_0 : List (List T_roadref4_Do)) (a_1 : List Int) (y_9 : T_explore_State) (x_10 : Int) (x_11 : Int) (a_12 : List T_part_Step) (x_13 : Int) (y_15 : T_roadref4_State) (x_16 : Int) (x_17 : Int) (x_19 : Int) (a_90 : List Int) (x_91 : Int) (x_92 : Int) : roadlaw4_ExploreRuns.j3 a_0 a_1 y_9 x_10 x_11 a_12 x_13 y_15 x_16 x_17 x_19 a_90 x_91 x_92 = Option.bind (roadref4_State_Can y_15 a_0 x_19) fun y1 => if y1 = true then (Option.bind (roadref4_State_Next y_15 a_0 x_19) fun y8 => (roadlaw4_ExploreRuns.l0 a_0 a_1 y_9 x_10 x_11 a_12 x_13 y8 (IntKind.wrap .i64 (x_16 + (1 : Int))) x_17 a_90 x_91 (IntKind.wrap .i64 (x_92 + (1 : Int))))) else ((roadlaw4_ExploreRuns.j1 a_0 a_1 y_9 x_10 x_11 a_12 x_13 y_15 x_16 x_17)) := fixF_eq roadlaw4_ExploreRuns.l0_k.mono _
def roadlaw4_ExploreRuns.l0_k.I : (p : roadlaw4_ExploreRuns.l0_k.Pt) → (Bool) → Prop
  | .l0 a_0 a_1 y_9 x_10 x_11 a_12 x_13 y_15 x_16 x_17 a_90 x_91 x_92, r => ∀ (W : Nat → Prop) (h0 m0 h m : Heap) (A_0 : Option Addr) (n_0 c_0 : Nat) (A_1 : Option Addr) (n_1 c_1 : Nat) (bk_9 : Nat) (cs_9 : List Value) (A_12 : Option Addr) (n_12 c_12 : Nat) (bk_15 : Nat) (cs_15 : List Value) (A_90 : Option Addr) (n_90 c_90 : Nat) (O : Hold W h0 m0 h m [rV bk_9 101 cs_9, rR (aE T_part_Step.T) A_12 c_12 a_12, rV bk_15 114 cs_15]) (ne_0 : n_0 = List.length a_0) (k_0 : List.length a_0 ≤ c_0) (r_0 : Rd 1 (eRow 3 T_roadref4_Do.E) m A_0 a_0) (ne_1 : n_1 = List.length a_1) (k_1 : List.length a_1 ≤ c_1) (r_1 : Rd 1 (eInt .i64) m A_1 a_1) (e_9 : T_explore_State.E m y_9 cs_9) (ne_12 : n_12 = List.length a_12) (e_15 : T_roadref4_State.E m y_15 cs_15) (ne_90 : n_90 = List.length a_90) (k_90 : List.length a_90 ≤ c_90) (r_90 : Rd 1 (eInt .i64) m A_90 a_90), f7.l0 (roadlaw4_ExploreRuns.post W h0 m0 r) A_0 n_0 c_0 A_1 n_1 c_1 (⟨bk_9, 0, none⟩ : Addr) x_10 x_11 A_12 n_12 c_12 x_13 (⟨bk_15, 0, none⟩ : Addr) x_16 x_17 A_90 n_90 c_90 x_91 x_92 h
  | .j3 a_0 a_1 y_9 x_10 x_11 a_12 x_13 y_15 x_16 x_17 x_19 a_90 x_91 x_92, r => ∀ (W : Nat → Prop) (h0 m0 h m : Heap) (A_0 : Option Addr) (n_0 c_0 : Nat) (A_1 : Option Addr) (n_1 c_1 : Nat) (bk_9 : Nat) (cs_9 : List Value) (A_12 : Option Addr) (n_12 c_12 : Nat) (bk_15 : Nat) (cs_15 : List Value) (A_90 : Option Addr) (n_90 c_90 : Nat) (O : Hold W h0 m0 h m [rV bk_9 101 cs_9, rR (aE T_part_Step.T) A_12 c_12 a_12, rV bk_15 114 cs_15]) (ne_0 : n_0 = List.length a_0) (k_0 : List.length a_0 ≤ c_0) (r_0 : Rd 1 (eRow 3 T_roadref4_Do.E) m A_0 a_0) (ne_1 : n_1 = List.length a_1) (k_1 : List.length a_1 ≤ c_1) (r_1 : Rd 1 (eInt .i64) m A_1 a_1) (e_9 : T_explore_State.E m y_9 cs_9) (ne_12 : n_12 = List.length a_12) (e_15 : T_roadref4_State.E m y_15 cs_15) (ne_90 : n_90 = List.length a_90) (k_90 : List.length a_90 ≤ c_90) (r_90 : Rd 1 (eInt .i64) m A_90 a_90), f7.j3 (roadlaw4_ExploreRuns.post W h0 m0 r) A_0 n_0 c_0 A_1 n_1 c_1 (⟨bk_9, 0, none⟩ : Addr) x_10 x_11 A_12 n_12 c_12 x_13 (⟨bk_15, 0, none⟩ : Addr) x_16 x_17 x_19 A_90 n_90 c_90 x_91 x_92 h
set_option maxRecDepth 100000 in
theorem roadlaw4_ExploreRuns.l0_k.step_l0 (go : (p : roadlaw4_ExploreRuns.l0_k.Pt) → Option (Bool)) (ih : ∀ p r, go p = some r → roadlaw4_ExploreRuns.l0_k.I p r) (a_0 : List (List T_roadref4_Do)) (a_1 : List Int) (y_9 : T_explore_State) (x_10 : Int) (x_11 : Int) (a_12 : List T_part_Step) (x_13 : Int) (y_15 : T_roadref4_State) (x_16 : Int) (x_17 : Int) (a_90 : List Int) (x_91 : Int) (x_92 : Int) (r : Bool) (e : roadlaw4_ExploreRuns.l0_k.body go (.l0 a_0 a_1 y_9 x_10 x_11 a_12 x_13 y_15 x_16 x_17 a_90 x_91 x_92) = some r) : roadlaw4_ExploreRuns.l0_k.I (.l0 a_0 a_1 y_9 x_10 x_11 a_12 x_13 y_15 x_16 x_17 a_90 x_91 x_92) r := by
  unfold roadlaw4_ExploreRuns.l0_k.body at e
  intro W h0 m0 h m A_0 n_0 c_0 A_1 n_1 c_1 bk_9 cs_9 A_12 n_12 c_12 bk_15 cs_15 A_90 n_90 c_90 O ne_0 k_0 r_0 ne_1 k_1 r_1 e_9 ne_12 e_15 ne_90 k_90 r_90
  subst ne_0
  subst ne_1
  obtain ⟨rfl, qe_9_0, qe_9_1, qe_9_2⟩ := id e_9
  subst ne_12
  obtain ⟨rfl, qe_15_0, qe_15_1, qe_15_2⟩ := id e_15
  subst ne_90
  refine f7.l0_in ?_
  unfold f7.l0T
  refine split_dec_e e (fun c10 e => ?_) (fun c10 e => ?_)
  · obtain ⟨y1, g2, e⟩ := bind_e e
    refine r_90.addr rfl g2 fun a3 cs4 ha5 hc6 he7 => ?_
    obtain rfl : cs4 = [(Value.int .i64 y1)] := he7
    refine ⟨_, ld0 O.s hc6 rfl, _, rfl, ?_⟩
    refine split_dec_e e (fun c9 e => ?_) (fun c9 e => ?_)
    · exact roadlaw4_ExploreRuns.j1.walk (O.pick [0, 1, 2]).nm rfl k_0 r_0 rfl k_1 r_1 (show T_explore_State.E _ y_9 [(Value.int .i64 (List.getD y_9.Cells 0 (0 : Int))), (Value.int .i64 (List.getD y_9.Cells 1 (0 : Int))), (Value.int .i64 (List.getD y_9.Cells 2 (0 : Int))), (Value.int .i64 (List.getD y_9.Cells 3 (0 : Int))), (Value.int .i64 (List.getD y_9.Hands 0 (0 : Int))), (Value.int .i64 (List.getD y_9.Hands 1 (0 : Int))), (Value.int .i64 (List.getD y_9.Hands 2 (0 : Int))), (Value.int .i64 (List.getD y_9.Hands 3 (0 : Int))), (Value.int .i64 (List.getD y_9.At 0 (0 : Int))), (Value.int .i64 (List.getD y_9.At 1 (0 : Int))), (Value.int .i64 (List.getD y_9.At 2 (0 : Int))), (Value.int .i64 (List.getD y_9.At 3 (0 : Int)))] from ⟨rfl, qe_9_0, qe_9_1, qe_9_2⟩) rfl (show T_roadref4_State.E _ y_15 [(Value.int .i64 (List.getD y_15.Cells 0 (0 : Int))), (Value.int .i64 (List.getD y_15.Cells 1 (0 : Int))), (Value.int .i64 (List.getD y_15.Cells 2 (0 : Int))), (Value.int .i64 (List.getD y_15.Cells 3 (0 : Int))), (Value.int .i64 (List.getD y_15.Hands 0 (0 : Int))), (Value.int .i64 (List.getD y_15.Hands 1 (0 : Int))), (Value.int .i64 (List.getD y_15.Hands 2 (0 : Int))), (Value.int .i64 (List.getD y_15.Hands 3 (0 : Int))), (Value.int .i64 (List.getD y_15.At 0 (0 : Int))), (Value.int .i64 (List.getD y_15.At 1 (0 : Int))), (Value.int .i64 (List.getD y_15.At 2 (0 : Int))), (Value.int .i64 (List.getD y_15.At 3 (0 : Int)))] from ⟨rfl, qe_15_0, qe_15_1, qe_15_2⟩) e
    · refine split_dec_e e (fun c8 e => ?_) (fun c8 e => ?_)
      · exact roadlaw4_ExploreRuns.j1.walk (O.pick [0, 1, 2]).nm rfl k_0 r_0 rfl k_1 r_1 (show T_explore_State.E _ y_9 [(Value.int .i64 (List.getD y_9.Cells 0 (0 : Int))), (Value.int .i64 (List.getD y_9.Cells 1 (0 : Int))), (Value.int .i64 (List.getD y_9.Cells 2 (0 : Int))), (Value.int .i64 (List.getD y_9.Cells 3 (0 : Int))), (Value.int .i64 (List.getD y_9.Hands 0 (0 : Int))), (Value.int .i64 (List.getD y_9.Hands 1 (0 : Int))), (Value.int .i64 (List.getD y_9.Hands 2 (0 : Int))), (Value.int .i64 (List.getD y_9.Hands 3 (0 : Int))), (Value.int .i64 (List.getD y_9.At 0 (0 : Int))), (Value.int .i64 (List.getD y_9.At 1 (0 : Int))), (Value.int .i64 (List.getD y_9.At 2 (0 : Int))), (Value.int .i64 (List.getD y_9.At 3 (0 : Int)))] from ⟨rfl, qe_9_0, qe_9_1, qe_9_2⟩) rfl (show T_roadref4_State.E _ y_15 [(Value.int .i64 (List.getD y_15.Cells 0 (0 : Int))), (Value.int .i64 (List.getD y_15.Cells 1 (0 : Int))), (Value.int .i64 (List.getD y_15.Cells 2 (0 : Int))), (Value.int .i64 (List.getD y_15.Cells 3 (0 : Int))), (Value.int .i64 (List.getD y_15.Hands 0 (0 : Int))), (Value.int .i64 (List.getD y_15.Hands 1 (0 : Int))), (Value.int .i64 (List.getD y_15.Hands 2 (0 : Int))), (Value.int .i64 (List.getD y_15.Hands 3 (0 : Int))), (Value.int .i64 (List.getD y_15.At 0 (0 : Int))), (Value.int .i64 (List.getD y_15.At 1 (0 : Int))), (Value.int .i64 (List.getD y_15.At 2 (0 : Int))), (Value.int .i64 (List.getD y_15.At 3 (0 : Int)))] from ⟨rfl, qe_15_0, qe_15_1, qe_15_2⟩) e
      · exact (ih _ _ e) _ _ _ _ _ _ _ _ _ _ _ _ _ _ _ _ _ _ _ _ _ (O.pick [0, 1, 2]).nm rfl k_0 r_0 rfl k_1 r_1 (show T_explore_State.E _ y_9 [(Value.int .i64 (List.getD y_9.Cells 0 (0 : Int))), (Value.int .i64 (List.getD y_9.Cells 1 (0 : Int))), (Value.int .i64 (List.getD y_9.Cells 2 (0 : Int))), (Value.int .i64 (List.getD y_9.Cells 3 (0 : Int))), (Value.int .i64 (List.getD y_9.Hands 0 (0 : Int))), (Value.int .i64 (List.getD y_9.Hands 1 (0 : Int))), (Value.int .i64 (List.getD y_9.Hands 2 (0 : Int))), (Value.int .i64 (List.getD y_9.Hands 3 (0 : Int))), (Value.int .i64 (List.getD y_9.At 0 (0 : Int))), (Value.int .i64 (List.getD y_9.At 1 (0 : Int))), (Value.int .i64 (List.getD y_9.At 2 (0 : Int))), (Value.int .i64 (List.getD y_9.At 3 (0 : Int)))] from ⟨rfl, qe_9_0, qe_9_1, qe_9_2⟩) rfl (show T_roadref4_State.E _ y_15 [(Value.int .i64 (List.getD y_15.Cells 0 (0 : Int))), (Value.int .i64 (List.getD y_15.Cells 1 (0 : Int))), (Value.int .i64 (List.getD y_15.Cells 2 (0 : Int))), (Value.int .i64 (List.getD y_15.Cells 3 (0 : Int))), (Value.int .i64 (List.getD y_15.Hands 0 (0 : Int))), (Value.int .i64 (List.getD y_15.Hands 1 (0 : Int))), (Value.int .i64 (List.getD y_15.Hands 2 (0 : Int))), (Value.int .i64 (List.getD y_15.Hands 3 (0 : Int))), (Value.int .i64 (List.getD y_15.At 0 (0 : Int))), (Value.int .i64 (List.getD y_15.At 1 (0 : Int))), (Value.int .i64 (List.getD y_15.At 2 (0 : Int))), (Value.int .i64 (List.getD y_15.At 3 (0 : Int)))] from ⟨rfl, qe_15_0, qe_15_1, qe_15_2⟩) rfl k_90 r_90
  · exact roadlaw4_ExploreRuns.j1.walk (O.pick [0, 1, 2]).nm rfl k_0 r_0 rfl k_1 r_1 (show T_explore_State.E _ y_9 [(Value.int .i64 (List.getD y_9.Cells 0 (0 : Int))), (Value.int .i64 (List.getD y_9.Cells 1 (0 : Int))), (Value.int .i64 (List.getD y_9.Cells 2 (0 : Int))), (Value.int .i64 (List.getD y_9.Cells 3 (0 : Int))), (Value.int .i64 (List.getD y_9.Hands 0 (0 : Int))), (Value.int .i64 (List.getD y_9.Hands 1 (0 : Int))), (Value.int .i64 (List.getD y_9.Hands 2 (0 : Int))), (Value.int .i64 (List.getD y_9.Hands 3 (0 : Int))), (Value.int .i64 (List.getD y_9.At 0 (0 : Int))), (Value.int .i64 (List.getD y_9.At 1 (0 : Int))), (Value.int .i64 (List.getD y_9.At 2 (0 : Int))), (Value.int .i64 (List.getD y_9.At 3 (0 : Int)))] from ⟨rfl, qe_9_0, qe_9_1, qe_9_2⟩) rfl (show T_roadref4_State.E _ y_15 [(Value.int .i64 (List.getD y_15.Cells 0 (0 : Int))), (Value.int .i64 (List.getD y_15.Cells 1 (0 : Int))), (Value.int .i64 (List.getD y_15.Cells 2 (0 : Int))), (Value.int .i64 (List.getD y_15.Cells 3 (0 : Int))), (Value.int .i64 (List.getD y_15.Hands 0 (0 : Int))), (Value.int .i64 (List.getD y_15.Hands 1 (0 : Int))), (Value.int .i64 (List.getD y_15.Hands 2 (0 : Int))), (Value.int .i64 (List.getD y_15.Hands 3 (0 : Int))), (Value.int .i64 (List.getD y_15.At 0 (0 : Int))), (Value.int .i64 (List.getD y_15.At 1 (0 : Int))), (Value.int .i64 (List.getD y_15.At 2 (0 : Int))), (Value.int .i64 (List.getD y_15.At 3 (0 : Int)))] from ⟨rfl, qe_15_0, qe_15_1, qe_15_2⟩) e
set_option maxRecDepth 100000 in
theorem roadlaw4_ExploreRuns.l0_k.step_j3 (go : (p : roadlaw4_ExploreRuns.l0_k.Pt) → Option (Bool)) (ih : ∀ p r, go p = some r → roadlaw4_ExploreRuns.l0_k.I p r) (a_0 : List (List T_roadref4_Do)) (a_1 : List Int) (y_9 : T_explore_State) (x_10 : Int) (x_11 : Int) (a_12 : List T_part_Step) (x_13 : Int) (y_15 : T_roadref4_State) (x_16 : Int) (x_17 : Int) (x_19 : Int) (a_90 : List Int) (x_91 : Int) (x_92 : Int) (r : Bool) (e : roadlaw4_ExploreRuns.l0_k.body go (.j3 a_0 a_1 y_9 x_10 x_11 a_12 x_13 y_15 x_16 x_17 x_19 a_90 x_91 x_92) = some r) : roadlaw4_ExploreRuns.l0_k.I (.j3 a_0 a_1 y_9 x_10 x_11 a_12 x_13 y_15 x_16 x_17 x_19 a_90 x_91 x_92) r := by
  unfold roadlaw4_ExploreRuns.l0_k.body at e
  intro W h0 m0 h m A_0 n_0 c_0 A_1 n_1 c_1 bk_9 cs_9 A_12 n_12 c_12 bk_15 cs_15 A_90 n_90 c_90 O ne_0 k_0 r_0 ne_1 k_1 r_1 e_9 ne_12 e_15 ne_90 k_90 r_90
  subst ne_0
  subst ne_1
  obtain ⟨rfl, qe_9_0, qe_9_1, qe_9_2⟩ := id e_9
  subst ne_12
  obtain ⟨rfl, qe_15_0, qe_15_1, qe_15_2⟩ := id e_15
  subst ne_90
  refine f7.j3_in ?_
  unfold f7.j3T
  refine ⟨_, ldAn (Sub.refl _) (O.all 2 rfl) rfl, ?_⟩
  obtain ⟨y1, g2, e⟩ := bind_e e
  refine (roadref4_State_Can.walk (Hold.start (W := No) O.s) (show T_roadref4_State.E _ y_15 [(Value.int .i64 (List.getD y_15.Cells 0 (0 : Int))), (Value.int .i64 (List.getD y_15.Cells 1 (0 : Int))), (Value.int .i64 (List.getD y_15.Cells 2 (0 : Int))), (Value.int .i64 (List.getD y_15.Cells 3 (0 : Int))), (Value.int .i64 (List.getD y_15.Hands 0 (0 : Int))), (Value.int .i64 (List.getD y_15.Hands 1 (0 : Int))), (Value.int .i64 (List.getD y_15.Hands 2 (0 : Int))), (Value.int .i64 (List.getD y_15.Hands 3 (0 : Int))), (Value.int .i64 (List.getD y_15.At 0 (0 : Int))), (Value.int .i64 (List.getD y_15.At 1 (0 : Int))), (Value.int .i64 (List.getD y_15.At 2 (0 : Int))), (Value.int .i64 (List.getD y_15.At 3 (0 : Int)))] from ⟨rfl, qe_15_0, qe_15_1, qe_15_2⟩) rfl k_0 r_0 g2).mono ?_
  rintro _ h3 ⟨m4, Q5, rfl⟩
  have O7 := Hold.nm (O.retC Q5 vfs_nil)
  refine ⟨_, rfl, ?_⟩
  refine split_not ?_
  refine split_any_e e (fun c21 e => ?_) (fun c21 e => ?_)
  · refine ⟨_, ldAn (Sub.refl _) (O7.all 2 rfl) rfl, ?_⟩
    obtain ⟨y8, g9, e⟩ := bind_e e
    refine (roadref4_State_Next.walk (Hold.start (W := No) O7.s) (show T_roadref4_State.E _ y_15 [(Value.int .i64 (List.getD y_15.Cells 0 (0 : Int))), (Value.int .i64 (List.getD y_15.Cells 1 (0 : Int))), (Value.int .i64 (List.getD y_15.Cells 2 (0 : Int))), (Value.int .i64 (List.getD y_15.Cells 3 (0 : Int))), (Value.int .i64 (List.getD y_15.Hands 0 (0 : Int))), (Value.int .i64 (List.getD y_15.Hands 1 (0 : Int))), (Value.int .i64 (List.getD y_15.Hands 2 (0 : Int))), (Value.int .i64 (List.getD y_15.Hands 3 (0 : Int))), (Value.int .i64 (List.getD y_15.At 0 (0 : Int))), (Value.int .i64 (List.getD y_15.At 1 (0 : Int))), (Value.int .i64 (List.getD y_15.At 2 (0 : Int))), (Value.int .i64 (List.getD y_15.At 3 (0 : Int)))] from ⟨rfl, qe_15_0, qe_15_1, qe_15_2⟩) rfl k_0 r_0 g9).mono ?_
    rintro _ h10 ⟨m11, cs15, Q12, rfl, he16⟩
    have O17 := Hold.nm (O7.retC Q12 vfs_nil)
    obtain ⟨rfl, qhe16_0, qhe16_1, qhe16_2⟩ := id he16
    refine ⟨_, rfl, rfl, ?_⟩
    refine O17.stA 2 rfl rfl (Flats.cons trivial (Flats.cons trivial (Flats.cons trivial (Flats.cons trivial (Flats.cons trivial (Flats.cons trivial (Flats.cons trivial (Flats.cons trivial (Flats.cons trivial (Flats.cons trivial (Flats.cons trivial (Flats.cons trivial Flats.nil)))))))))))) fun h18 O19 => ?_
    have O20 := O19.nm
    exact (ih _ _ e) _ _ _ _ _ _ _ _ _ _ _ _ _ _ _ _ _ _ _ _ _ (O20.pick [0, 1, 2]).nm rfl k_0 r_0 rfl k_1 r_1 (show T_explore_State.E _ y_9 [(Value.int .i64 (List.getD y_9.Cells 0 (0 : Int))), (Value.int .i64 (List.getD y_9.Cells 1 (0 : Int))), (Value.int .i64 (List.getD y_9.Cells 2 (0 : Int))), (Value.int .i64 (List.getD y_9.Cells 3 (0 : Int))), (Value.int .i64 (List.getD y_9.Hands 0 (0 : Int))), (Value.int .i64 (List.getD y_9.Hands 1 (0 : Int))), (Value.int .i64 (List.getD y_9.Hands 2 (0 : Int))), (Value.int .i64 (List.getD y_9.Hands 3 (0 : Int))), (Value.int .i64 (List.getD y_9.At 0 (0 : Int))), (Value.int .i64 (List.getD y_9.At 1 (0 : Int))), (Value.int .i64 (List.getD y_9.At 2 (0 : Int))), (Value.int .i64 (List.getD y_9.At 3 (0 : Int)))] from ⟨rfl, qe_9_0, qe_9_1, qe_9_2⟩) rfl (show T_roadref4_State.E _ y8 [(Value.int .i64 (List.getD y8.Cells 0 (0 : Int))), (Value.int .i64 (List.getD y8.Cells 1 (0 : Int))), (Value.int .i64 (List.getD y8.Cells 2 (0 : Int))), (Value.int .i64 (List.getD y8.Cells 3 (0 : Int))), (Value.int .i64 (List.getD y8.Hands 0 (0 : Int))), (Value.int .i64 (List.getD y8.Hands 1 (0 : Int))), (Value.int .i64 (List.getD y8.Hands 2 (0 : Int))), (Value.int .i64 (List.getD y8.Hands 3 (0 : Int))), (Value.int .i64 (List.getD y8.At 0 (0 : Int))), (Value.int .i64 (List.getD y8.At 1 (0 : Int))), (Value.int .i64 (List.getD y8.At 2 (0 : Int))), (Value.int .i64 (List.getD y8.At 3 (0 : Int)))] from ⟨rfl, qhe16_0, qhe16_1, qhe16_2⟩) rfl k_90 r_90
  · exact roadlaw4_ExploreRuns.j1.walk (O7.pick [0, 1, 2]).nm rfl k_0 r_0 rfl k_1 r_1 (show T_explore_State.E _ y_9 [(Value.int .i64 (List.getD y_9.Cells 0 (0 : Int))), (Value.int .i64 (List.getD y_9.Cells 1 (0 : Int))), (Value.int .i64 (List.getD y_9.Cells 2 (0 : Int))), (Value.int .i64 (List.getD y_9.Cells 3 (0 : Int))), (Value.int .i64 (List.getD y_9.Hands 0 (0 : Int))), (Value.int .i64 (List.getD y_9.Hands 1 (0 : Int))), (Value.int .i64 (List.getD y_9.Hands 2 (0 : Int))), (Value.int .i64 (List.getD y_9.Hands 3 (0 : Int))), (Value.int .i64 (List.getD y_9.At 0 (0 : Int))), (Value.int .i64 (List.getD y_9.At 1 (0 : Int))), (Value.int .i64 (List.getD y_9.At 2 (0 : Int))), (Value.int .i64 (List.getD y_9.At 3 (0 : Int)))] from ⟨rfl, qe_9_0, qe_9_1, qe_9_2⟩) rfl (show T_roadref4_State.E _ y_15 [(Value.int .i64 (List.getD y_15.Cells 0 (0 : Int))), (Value.int .i64 (List.getD y_15.Cells 1 (0 : Int))), (Value.int .i64 (List.getD y_15.Cells 2 (0 : Int))), (Value.int .i64 (List.getD y_15.Cells 3 (0 : Int))), (Value.int .i64 (List.getD y_15.Hands 0 (0 : Int))), (Value.int .i64 (List.getD y_15.Hands 1 (0 : Int))), (Value.int .i64 (List.getD y_15.Hands 2 (0 : Int))), (Value.int .i64 (List.getD y_15.Hands 3 (0 : Int))), (Value.int .i64 (List.getD y_15.At 0 (0 : Int))), (Value.int .i64 (List.getD y_15.At 1 (0 : Int))), (Value.int .i64 (List.getD y_15.At 2 (0 : Int))), (Value.int .i64 (List.getD y_15.At 3 (0 : Int)))] from ⟨rfl, qe_15_0, qe_15_1, qe_15_2⟩) e
theorem roadlaw4_ExploreRuns.l0_k.all {p : roadlaw4_ExploreRuns.l0_k.Pt} {r : (Bool)} (e : roadlaw4_ExploreRuns.l0_k.go p = some r) : roadlaw4_ExploreRuns.l0_k.I p r := fixF_ind (β := fun _ => (Bool)) roadlaw4_ExploreRuns.l0_k.mono (I := roadlaw4_ExploreRuns.l0_k.I) (fun go ih p r e => match p with
  | .l0 a_0 a_1 y_9 x_10 x_11 a_12 x_13 y_15 x_16 x_17 a_90 x_91 x_92 => roadlaw4_ExploreRuns.l0_k.step_l0 go ih a_0 a_1 y_9 x_10 x_11 a_12 x_13 y_15 x_16 x_17 a_90 x_91 x_92 r e
  | .j3 a_0 a_1 y_9 x_10 x_11 a_12 x_13 y_15 x_16 x_17 x_19 a_90 x_91 x_92 => roadlaw4_ExploreRuns.l0_k.step_j3 go ih a_0 a_1 y_9 x_10 x_11 a_12 x_13 y_15 x_16 x_17 x_19 a_90 x_91 x_92 r e
  ) e
theorem roadlaw4_ExploreRuns.l0.walk {W : Nat → Prop} {h0 m0 h m : Heap} {A_0 : Option Addr} {n_0 c_0 : Nat} {A_1 : Option Addr} {n_1 c_1 : Nat} {bk_9 : Nat} {cs_9 : List Value} {A_12 : Option Addr} {n_12 c_12 : Nat} {bk_15 : Nat} {cs_15 : List Value} {A_90 : Option Addr} {n_90 c_90 : Nat} {a_0 : List (List T_roadref4_Do)} {a_1 : List Int} {y_9 : T_explore_State} {x_10 : Int} {x_11 : Int} {a_12 : List T_part_Step} {x_13 : Int} {y_15 : T_roadref4_State} {x_16 : Int} {x_17 : Int} {a_90 : List Int} {x_91 : Int} {x_92 : Int} (O : Hold W h0 m0 h m [rV bk_9 101 cs_9, rR (aE T_part_Step.T) A_12 c_12 a_12, rV bk_15 114 cs_15]) (ne_0 : n_0 = List.length a_0) (k_0 : List.length a_0 ≤ c_0) (r_0 : Rd 1 (eRow 3 T_roadref4_Do.E) m A_0 a_0) (ne_1 : n_1 = List.length a_1) (k_1 : List.length a_1 ≤ c_1) (r_1 : Rd 1 (eInt .i64) m A_1 a_1) (e_9 : T_explore_State.E m y_9 cs_9) (ne_12 : n_12 = List.length a_12) (e_15 : T_roadref4_State.E m y_15 cs_15) (ne_90 : n_90 = List.length a_90) (k_90 : List.length a_90 ≤ c_90) (r_90 : Rd 1 (eInt .i64) m A_90 a_90) {r : Bool} (e : roadlaw4_ExploreRuns.l0 a_0 a_1 y_9 x_10 x_11 a_12 x_13 y_15 x_16 x_17 a_90 x_91 x_92 = some r) : f7.l0 (roadlaw4_ExploreRuns.post W h0 m0 r) A_0 n_0 c_0 A_1 n_1 c_1 (⟨bk_9, 0, none⟩ : Addr) x_10 x_11 A_12 n_12 c_12 x_13 (⟨bk_15, 0, none⟩ : Addr) x_16 x_17 A_90 n_90 c_90 x_91 x_92 h := roadlaw4_ExploreRuns.l0_k.all (p := .l0 a_0 a_1 y_9 x_10 x_11 a_12 x_13 y_15 x_16 x_17 a_90 x_91 x_92) e W h0 m0 h m A_0 n_0 c_0 A_1 n_1 c_1 bk_9 cs_9 A_12 n_12 c_12 bk_15 cs_15 A_90 n_90 c_90 O ne_0 k_0 r_0 ne_1 k_1 r_1 e_9 ne_12 e_15 ne_90 k_90 r_90
theorem roadlaw4_ExploreRuns.j3.walk {W : Nat → Prop} {h0 m0 h m : Heap} {A_0 : Option Addr} {n_0 c_0 : Nat} {A_1 : Option Addr} {n_1 c_1 : Nat} {bk_9 : Nat} {cs_9 : List Value} {A_12 : Option Addr} {n_12 c_12 : Nat} {bk_15 : Nat} {cs_15 : List Value} {A_90 : Option Addr} {n_90 c_90 : Nat} {a_0 : List (List T_roadref4_Do)} {a_1 : List Int} {y_9 : T_explore_State} {x_10 : Int} {x_11 : Int} {a_12 : List T_part_Step} {x_13 : Int} {y_15 : T_roadref4_State} {x_16 : Int} {x_17 : Int} {x_19 : Int} {a_90 : List Int} {x_91 : Int} {x_92 : Int} (O : Hold W h0 m0 h m [rV bk_9 101 cs_9, rR (aE T_part_Step.T) A_12 c_12 a_12, rV bk_15 114 cs_15]) (ne_0 : n_0 = List.length a_0) (k_0 : List.length a_0 ≤ c_0) (r_0 : Rd 1 (eRow 3 T_roadref4_Do.E) m A_0 a_0) (ne_1 : n_1 = List.length a_1) (k_1 : List.length a_1 ≤ c_1) (r_1 : Rd 1 (eInt .i64) m A_1 a_1) (e_9 : T_explore_State.E m y_9 cs_9) (ne_12 : n_12 = List.length a_12) (e_15 : T_roadref4_State.E m y_15 cs_15) (ne_90 : n_90 = List.length a_90) (k_90 : List.length a_90 ≤ c_90) (r_90 : Rd 1 (eInt .i64) m A_90 a_90) {r : Bool} (e : roadlaw4_ExploreRuns.j3 a_0 a_1 y_9 x_10 x_11 a_12 x_13 y_15 x_16 x_17 x_19 a_90 x_91 x_92 = some r) : f7.j3 (roadlaw4_ExploreRuns.post W h0 m0 r) A_0 n_0 c_0 A_1 n_1 c_1 (⟨bk_9, 0, none⟩ : Addr) x_10 x_11 A_12 n_12 c_12 x_13 (⟨bk_15, 0, none⟩ : Addr) x_16 x_17 x_19 A_90 n_90 c_90 x_91 x_92 h := roadlaw4_ExploreRuns.l0_k.all (p := .j3 a_0 a_1 y_9 x_10 x_11 a_12 x_13 y_15 x_16 x_17 x_19 a_90 x_91 x_92) e W h0 m0 h m A_0 n_0 c_0 A_1 n_1 c_1 bk_9 cs_9 A_12 n_12 c_12 bk_15 cs_15 A_90 n_90 c_90 O ne_0 k_0 r_0 ne_1 k_1 r_1 e_9 ne_12 e_15 ne_90 k_90 r_90

noncomputable def roadlaw4_ExploreRuns.j0 (a_0 : List (List T_roadref4_Do)) (a_1 : List Int) : Option (Bool) :=
  Option.bind (roadlaw4_progs a_0) fun y1 => Option.bind (explore_Run y1 a_1) fun y13 => Option.bind (explore_Steps y1 a_1) fun y36 => Option.bind (roadref4_Progs a_0) fun y56 => Option.bind (explore_Check y1) fun y63 => if y63 = y56 then (if y56 = (0 : Int) then ((roadlaw4_ExploreRuns.l0 a_0 a_1 y13.1 y13.2.1 y13.2.2 y36.1 y36.2 (T_roadref4_State.mk (List.replicate 4 (0 : Int)) (List.replicate 4 (0 : Int)) (List.replicate 4 (0 : Int))) (0 : Int) (0 : Int) a_1 (((List.length a_1) : Nat) : Int) (0 : Int))) else (if y13.2.2 = y56 then (if y36.2 = y56 then (if ((((List.getD y13.1.Cells 0 (0 : Int)) == (0 : Int)) && (((List.getD y13.1.Cells 1 (0 : Int)) == (0 : Int)) && (((List.getD y13.1.Cells 2 (0 : Int)) == (0 : Int)) && (((List.getD y13.1.Cells 3 (0 : Int)) == (0 : Int)) && true)))) && ((((List.getD y13.1.Hands 0 (0 : Int)) == (0 : Int)) && (((List.getD y13.1.Hands 1 (0 : Int)) == (0 : Int)) && (((List.getD y13.1.Hands 2 (0 : Int)) == (0 : Int)) && (((List.getD y13.1.Hands 3 (0 : Int)) == (0 : Int)) && true)))) && ((((List.getD y13.1.At 0 (0 : Int)) == (0 : Int)) && (((List.getD y13.1.At 1 (0 : Int)) == (0 : Int)) && (((List.getD y13.1.At 2 (0 : Int)) == (0 : Int)) && (((List.getD y13.1.At 3 (0 : Int)) == (0 : Int)) && true)))) && true))) = true then (if y13.2.1 = (0 : Int) then (some (((((List.length y36.1) : Nat) : Int) == (0 : Int)))) else (some (false))) else (some (false))) else (some (false))) else (some (false)))) else (some (false))
set_option maxHeartbeats 4000000 in
set_option maxRecDepth 100000 in
theorem roadlaw4_ExploreRuns.j0.walk {W : Nat → Prop} {h0 m0 h m : Heap} {A_0 : Option Addr} {n_0 c_0 : Nat} {A_1 : Option Addr} {n_1 c_1 : Nat} {a_0 : List (List T_roadref4_Do)} {a_1 : List Int} (O : Hold W h0 m0 h m []) (ne_0 : n_0 = List.length a_0) (k_0 : List.length a_0 ≤ c_0) (r_0 : Rd 1 (eRow 3 T_roadref4_Do.E) m A_0 a_0) (ne_1 : n_1 = List.length a_1) (k_1 : List.length a_1 ≤ c_1) (r_1 : Rd 1 (eInt .i64) m A_1 a_1) {r : Bool} (e : roadlaw4_ExploreRuns.j0 a_0 a_1 = some r) : f7.j0 (roadlaw4_ExploreRuns.post W h0 m0 r) A_0 n_0 c_0 A_1 n_1 c_1 h := by
  unfold roadlaw4_ExploreRuns.j0 at e
  subst ne_0
  subst ne_1
  refine f7.j0_in ?_
  unfold f7.j0T
  obtain ⟨y1, g2, e⟩ := bind_e e
  refine (roadlaw4_progs.walk (Hold.start (W := No) O.s) rfl k_0 r_0 g2).mono ?_
  rintro _ h3 ⟨m4, A7, n8, c9, Q5, rfl, ne10⟩
  have O12 := Hold.nm (O.ret Q5)
  subst ne10
  refine ⟨_, _, _, rfl, ?_⟩
  obtain ⟨y13, g14, e⟩ := bind_e e
  obtain ⟨m19, u20, s25, ⟨⟨r23, k24⟩, _⟩, B21, C22⟩ := O12.lend0 [0]
  replace r23 : Rd 1 (eRow 3 T_explore_Do.E) m19 A7 y1 := r23
  replace k24 : List.length y1 ≤ c9 := k24
  refine (explore_Run.walk (Hold.start (W := No) s25) rfl k24 r23 rfl k_1 (r_1.sub (tell_int .i64) (Q5.S.up.trans u20)) g14).mono ?_
  rintro _ h15 ⟨m16, cs27, Q17, rfl, he28⟩
  have O29 := Hold.nm (C22 Q17 vfs_nil)
  obtain ⟨rfl, qhe28_0, qhe28_1, qhe28_2⟩ := id he28
  refine ⟨_, _, _, rfl, ?_⟩
  refine O29.new fun h30 x31 O32 => ?_
  refine ⟨_, rfl, rfl, ?_⟩
  refine O32.stA 1 rfl rfl (Flats.cons trivial (Flats.cons trivial (Flats.cons trivial (Flats.cons trivial (Flats.cons trivial (Flats.cons trivial (Flats.cons trivial (Flats.cons trivial (Flats.cons trivial (Flats.cons trivial (Flats.cons trivial (Flats.cons trivial Flats.nil)))))))))))) fun h34 O35 => ?_
  obtain ⟨y36, g37, e⟩ := bind_e e
  have O42 := O35.nm
  obtain ⟨m43, u44, s49, ⟨⟨r47, k48⟩, _⟩, B45, C46⟩ := O42.lend0 [0]
  replace r47 : Rd 1 (eRow 3 T_explore_Do.E) m43 A7 y1 := r47
  replace k48 : List.length y1 ≤ c9 := k48
  refine (explore_Steps.walk (Hold.start (W := No) s49) rfl k48 r47 rfl k_1 (r_1.sub (tell_int .i64) (Q5.S.up.trans u44)) g37).mono ?_
  rintro _ h38 ⟨m39, A50, n51, c52, Q40, rfl, ne53⟩
  have O55 := Hold.nm (C46 Q40 (vfs_cons (rR_vf (aE_vf (fun _ _ _ _ h => T_part_Step.keep h))) vfs_nil))
  subst ne53
  refine ⟨_, _, _, _, rfl, ?_⟩
  obtain ⟨y56, g57, e⟩ := bind_e e
  refine (roadref4_Progs.walk (Hold.start (W := No) O55.s) rfl k_0 (r_0.sub (tell_row T_roadref4_Do.T) Q5.S.up) g57).mono ?_
  rintro _ h58 ⟨m59, Q60, rfl⟩
  have O62 := Hold.nm (O55.retC Q60 vfs_nil)
  refine ⟨_, rfl, ?_⟩
  obtain ⟨y63, g64, e⟩ := bind_e e
  obtain ⟨m69, u70, s75, ⟨⟨r73, k74⟩, _⟩, B71, C72⟩ := O62.lend0 [0]
  replace r73 : Rd 1 (eRow 3 T_explore_Do.E) m69 A7 y1 := r73
  replace k74 : List.length y1 ≤ c9 := k74
  refine (explore_Check.walk (Hold.start (W := No) s75) rfl k74 r73 g64).mono ?_
  rintro _ h65 ⟨m66, Q67, rfl⟩
  have O76 := Hold.nm (C72 Q67 vfs_nil)
  refine ⟨_, rfl, ?_⟩
  refine split_ne_e e (fun c87 e => ?_) (fun c87 e => ?_)
  · cases e
    exact ⟨_, O76.pick [], rfl⟩
  · refine split_ne_e e (fun c86 e => ?_) (fun c86 e => ?_)
    · refine split_eq_e e (fun c80 e => ?_) (fun c80 e => ?_)
      · refine split_eq_e e (fun c79 e => ?_) (fun c79 e => ?_)
        · refine ⟨_, ldAn (Sub.refl _) (O76.all 1 rfl) rfl, ?_⟩
          refine gen_eqlN (b := ((((List.getD y13.1.Cells 0 (0 : Int)) == (0 : Int)) && (((List.getD y13.1.Cells 1 (0 : Int)) == (0 : Int)) && (((List.getD y13.1.Cells 2 (0 : Int)) == (0 : Int)) && (((List.getD y13.1.Cells 3 (0 : Int)) == (0 : Int)) && true)))) && ((((List.getD y13.1.Hands 0 (0 : Int)) == (0 : Int)) && (((List.getD y13.1.Hands 1 (0 : Int)) == (0 : Int)) && (((List.getD y13.1.Hands 2 (0 : Int)) == (0 : Int)) && (((List.getD y13.1.Hands 3 (0 : Int)) == (0 : Int)) && true)))) && ((((List.getD y13.1.At 0 (0 : Int)) == (0 : Int)) && (((List.getD y13.1.At 1 (0 : Int)) == (0 : Int)) && (((List.getD y13.1.At 2 (0 : Int)) == (0 : Int)) && (((List.getD y13.1.At 3 (0 : Int)) == (0 : Int)) && true)))) && true)))) (by kernel_rfl) ?_
          refine ⟨_, rfl, ?_⟩
          refine split_any_e e (fun c78 e => ?_) (fun c78 e => ?_)
          · refine split_eq_e e (fun c77 e => ?_) (fun c77 e => ?_)
            · cases e
              exact ⟨_, O76.pick [], rfl⟩
            · cases e
              exact ⟨_, O76.pick [], rfl⟩
          · cases e
            exact ⟨_, O76.pick [], rfl⟩
        · cases e
          exact ⟨_, O76.pick [], rfl⟩
      · cases e
        exact ⟨_, O76.pick [], rfl⟩
    · refine O76.new fun h81 x82 O83 => ?_
      have O85 := O83.nm
      exact roadlaw4_ExploreRuns.l0.walk (O85.pick [1, 2, 3]).nm rfl k_0 (r_0.sub (tell_row T_roadref4_Do.T) Q5.S.up) rfl k_1 (r_1.sub (tell_int .i64) Q5.S.up) (show T_explore_State.E _ y13.1 [(Value.int .i64 (List.getD y13.1.Cells 0 (0 : Int))), (Value.int .i64 (List.getD y13.1.Cells 1 (0 : Int))), (Value.int .i64 (List.getD y13.1.Cells 2 (0 : Int))), (Value.int .i64 (List.getD y13.1.Cells 3 (0 : Int))), (Value.int .i64 (List.getD y13.1.Hands 0 (0 : Int))), (Value.int .i64 (List.getD y13.1.Hands 1 (0 : Int))), (Value.int .i64 (List.getD y13.1.Hands 2 (0 : Int))), (Value.int .i64 (List.getD y13.1.Hands 3 (0 : Int))), (Value.int .i64 (List.getD y13.1.At 0 (0 : Int))), (Value.int .i64 (List.getD y13.1.At 1 (0 : Int))), (Value.int .i64 (List.getD y13.1.At 2 (0 : Int))), (Value.int .i64 (List.getD y13.1.At 3 (0 : Int)))] from ⟨rfl, qhe28_0, qhe28_1, qhe28_2⟩) rfl (show T_roadref4_State.E _ (T_roadref4_State.mk (List.replicate 4 (0 : Int)) (List.replicate 4 (0 : Int)) (List.replicate 4 (0 : Int))) [(Value.int .i64 (0 : Int)), (Value.int .i64 (0 : Int)), (Value.int .i64 (0 : Int)), (Value.int .i64 (0 : Int)), (Value.int .i64 (0 : Int)), (Value.int .i64 (0 : Int)), (Value.int .i64 (0 : Int)), (Value.int .i64 (0 : Int)), (Value.int .i64 (0 : Int)), (Value.int .i64 (0 : Int)), (Value.int .i64 (0 : Int)), (Value.int .i64 (0 : Int))] from ⟨rfl, rfl, rfl, rfl⟩) rfl k_1 (r_1.sub (tell_int .i64) Q5.S.up) e

noncomputable def roadlaw4_ExploreRuns (a_0 : List (List T_roadref4_Do)) (a_1 : List Int) : Option (Bool) :=
  Option.bind (explore_Run ([([(T_explore_Do.mk (3 : Int) (0 : Int) (3 : Int))] : List T_explore_Do)] : List (List T_explore_Do)) ([(0 : Int), (0 : Int)] : List Int)) fun y21 => if y21.2.2 = (0 : Int) then (if y21.2.1 = (1 : Int) then (Option.bind (gi y21.1.Cells (0 : Int)) fun y49 => if y49 = (3 : Int) then ((roadlaw4_ExploreRuns.j0 a_0 a_1)) else (some (false))) else (some (false))) else (some (false))
set_option maxHeartbeats 4000000 in
set_option maxRecDepth 100000 in
theorem roadlaw4_ExploreRuns.walk {W : Nat → Prop} {h m : Heap} {A_0 : Option Addr} {n_0 c_0 : Nat} {A_1 : Option Addr} {n_1 c_1 : Nat} {a_0 : List (List T_roadref4_Do)} {a_1 : List Int} (O : Hold W h m h m []) (ne_0 : n_0 = List.length a_0) (k_0 : List.length a_0 ≤ c_0) (r_0 : Rd 1 (eRow 3 T_roadref4_Do.E) m A_0 a_0) (ne_1 : n_1 = List.length a_1) (k_1 : List.length a_1 ≤ c_1) (r_1 : Rd 1 (eInt .i64) m A_1 a_1) {r : Bool} (e : roadlaw4_ExploreRuns a_0 a_1 = some r) : Run Try.prog 7 #[Value.slice A_0 n_0 c_0, Value.slice A_1 n_1 c_1] h (roadlaw4_ExploreRuns.post W h m r) := by
  unfold roadlaw4_ExploreRuns at e
  subst ne_0
  subst ne_1
  refine f7.run ?_
  unfold f7.runT
  refine ⟨[(Value.int .i64 (3 : Int)), (Value.int .i64 (0 : Int)), (Value.int .i64 (3 : Int))], rfl, rfl, ?_⟩
  refine O.new fun h1 x2 O3 => ?_
  refine O3.new fun h5 x6 O7 => ?_
  refine O7.new fun h9 x10 O11 => ?_
  obtain ⟨y21, g22, e⟩ := bind_e e
  have O13 := O11.rowE (l := ([(T_explore_Do.mk (3 : Int) (0 : Int) (3 : Int))] : List T_explore_Do)) 0 rfl T_explore_Do.T (show CsE _ _ _ _ _ from (CsE.cons (c1 := [(Value.int .i64 (3 : Int)), (Value.int .i64 (0 : Int)), (Value.int .i64 (3 : Int))]) (show T_explore_Do.E _ (T_explore_Do.mk (3 : Int) (0 : Int) (3 : Int)) [(Value.int .i64 (3 : Int)), (Value.int .i64 (0 : Int)), (Value.int .i64 (3 : Int))] from rfl) rfl CsE.nil)) rfl
  obtain ⟨m14, u15, ⟨r16, k17⟩, O18⟩ := O13.frz 0 rfl
  replace r16 : Rd 3 T_explore_Do.E m14 (some ⟨(Array.size h), 0, none⟩) ([(T_explore_Do.mk (3 : Int) (0 : Int) (3 : Int))] : List T_explore_Do) := r16
  have O19 := O18.rowE (l := ([([(T_explore_Do.mk (3 : Int) (0 : Int) (3 : Int))] : List T_explore_Do)] : List (List T_explore_Do))) 1 rfl (tell_row T_explore_Do.T) (show CsE _ _ _ _ _ from (CsE.cons (c1 := [(Value.slice (some ⟨(Array.size h), 0, none⟩) 1 1)]) ⟨_, _, rfl, k17, r16⟩ rfl CsE.nil)) rfl
  have O20 := O19.rowE (l := ([(0 : Int), (0 : Int)] : List Int)) 2 rfl (tell_int .i64) (show CsE _ _ _ _ _ from (CsE.cons (c1 := [(Value.int .i64 (0 : Int))]) rfl rfl (CsE.cons (c1 := [(Value.int .i64 (0 : Int))]) rfl rfl CsE.nil))) rfl
  have O27 := O20.nm
  obtain ⟨m28, u29, s36, ⟨⟨r32, k33⟩, ⟨r34, k35⟩, _⟩, B30, C31⟩ := O27.lend0 [1, 2]
  replace r32 : Rd 1 (eRow 3 T_explore_Do.E) m28 (some ⟨(Array.size h1), 0, none⟩) ([([(T_explore_Do.mk (3 : Int) (0 : Int) (3 : Int))] : List T_explore_Do)] : List (List T_explore_Do)) := r32
  replace k33 : List.length ([([(T_explore_Do.mk (3 : Int) (0 : Int) (3 : Int))] : List T_explore_Do)] : List (List T_explore_Do)) ≤ 1 := k33
  replace r34 : Rd 1 (eInt .i64) m28 (some ⟨(Array.size h5), 0, none⟩) ([(0 : Int), (0 : Int)] : List Int) := r34
  replace k35 : List.length ([(0 : Int), (0 : Int)] : List Int) ≤ 2 := k35
  refine (explore_Run.walk (Hold.start (W := No) s36) rfl k33 r32 rfl k35 r34 g22).mono ?_
  rintro _ h23 ⟨m24, cs38, Q25, rfl, he39⟩
  have O40 := Hold.nm (C31 Q25 vfs_nil)
  obtain ⟨rfl, qhe39_0, qhe39_1, qhe39_2⟩ := id he39
  refine ⟨_, _, _, rfl, ?_⟩
  refine O40.new fun h41 x42 O43 => ?_
  refine ⟨_, rfl, rfl, ?_⟩
  refine O43.stA 3 rfl rfl (Flats.cons trivial (Flats.cons trivial (Flats.cons trivial (Flats.cons trivial (Flats.cons trivial (Flats.cons trivial (Flats.cons trivial (Flats.cons trivial (Flats.cons trivial (Flats.cons trivial (Flats.cons trivial (Flats.cons trivial Flats.nil)))))))))))) fun h45 O46 => ?_
  refine split_ne_e e (fun c55 e => ?_) (fun c55 e => ?_)
  · have O47 := O46.nm
    cases e
    exact ⟨_, O47.pick [], rfl⟩
  · refine split_ne_e e (fun c54 e => ?_) (fun c54 e => ?_)
    · have O48 := O46.nm
      cases e
      exact ⟨_, O48.pick [], rfl⟩
    · obtain ⟨y49, g50, e⟩ := bind_e e
      refine ⟨gi_le g50, gi_ltn g50 qhe39_0, ?_⟩
      refine ⟨_, ldArr0 (n := 4) (f := (fun n : Int => Value.int .i64 n)) (d := (0 : Int)) (Sub.refl _) (O46.all 3 rfl) rfl qhe39_0 g50, _, rfl, ?_⟩
      refine split_ne_e e (fun c53 e => ?_) (fun c53 e => ?_)
      · have O51 := O46.nm
        cases e
        exact ⟨_, O51.pick [], rfl⟩
      · have O52 := O46.nm
        exact roadlaw4_ExploreRuns.j0.walk (O52.pick []).nm rfl k_0 (r_0.sub (tell_row T_roadref4_Do.T) u15) rfl k_1 (r_1.sub (tell_int .i64) u15) e

end Go.Proofs.Ytklobcelbpjjcaa.Fw
