/- Last part: what the law TalkSays needs, put together out of texts of this session. -/
import Derived.Test.YtdlihfedhojdgaaRows
import Derived.WalkKit
import Derived.Test.YtdlihfedhojdgaaZTalkSaysd
section
namespace Go.Proofs.Ytdlihfedhojdgaa.Fw
open Go Go.Hw Go.Proofs
set_option linter.unusedVariables false
set_option synthInstance.maxHeartbeats 400000
set_option synthInstance.maxSize 1000
def slices_Concat_34.post (W : Nat → Prop) (h0 m0 : Heap) (r : (List Int)) (v : Value) (h : Heap) : Prop := ∃ m A0 n0 c0, Hold W h0 m0 h m [rR (aE (tell_int .i64)) A0 c0 r] ∧ v = .slice A0 n0 c0 ∧ n0 = List.length r
inductive slices_Concat_34.l1_k.Pt where
  | l1 (a_6 : List Int) (a_25 : List (List Int)) (x_26 : Int) (x_27 : Int)
noncomputable def slices_Concat_34.l1_k.body (go : (p : slices_Concat_34.l1_k.Pt) → Option ((List Int))) : (p : slices_Concat_34.l1_k.Pt) → Option ((List Int))
  | .l1 a_6 a_25 x_26 x_27 => if x_27 < x_26 then (Option.bind (gi a_25 x_27) fun y1 => Option.bind (ap 8 a_6 y1) fun l8 => (go (.l1 l8 a_25 x_26 (IntKind.wrap .i64 (x_27 + (1 : Int)))))) else (some (a_6))
theorem slices_Concat_34.l1_k.mono : MonoF (β := fun _ => ((List Int))) slices_Concat_34.l1_k.body := fun f g hfg p => match p with
  | .l1 a_6 a_25 x_26 x_27 => LeO.ite (LeO.bind (LeO.refl _) fun y1 => LeO.bind (LeO.refl _) fun l8 => (hfg _)) (LeO.refl _)
noncomputable def slices_Concat_34.l1_k.go (p : slices_Concat_34.l1_k.Pt) : Option ((List Int)) := fixF (β := fun _ => ((List Int))) slices_Concat_34.l1_k.body p
noncomputable def slices_Concat_34.l1 (a_6 : List Int) (a_25 : List (List Int)) (x_26 : Int) (x_27 : Int) : Option ((List Int)) := slices_Concat_34.l1_k.go (.l1 a_6 a_25 x_26 x_27)
theorem slices_Concat_34.l1_eq (a_6 : List Int) (a_25 : List (List Int)) (x_26 : Int) (x_27 : Int) : slices_Concat_34.l1 a_6 a_25 x_26 x_27 = if x_27 < x_26 then (Option.bind (gi a_25 x_27) fun y1 => Option.bind (ap 8 a_6 y1) fun l8 => (slices_Concat_34.l1 l8 a_25 x_26 (IntKind.wrap .i64 (x_27 + (1 : Int))))) else (some (a_6)) := fixF_eq slices_Concat_34.l1_k.mono _
def slices_Concat_34.l1_k.I : (p : slices_Concat_34.l1_k.Pt) → ((List Int)) → Prop
  | .l1 a_6 a_25 x_26 x_27, r => ∀ (W : Nat → Prop) (h0 m0 h m : Heap) (A_6 : Option Addr) (n_6 c_6 : Nat) (A_25 : Option Addr) (n_25 c_25 : Nat) (O : Hold W h0 m0 h m [rR (aE (tell_int .i64)) A_6 c_6 a_6]) (ne_6 : n_6 = List.length a_6) (ne_25 : n_25 = List.length a_25) (k_25 : List.length a_25 ≤ c_25) (r_25 : Rd 1 (eRow 1 (eInt .i64)) m A_25 a_25), f34.l1 (slices_Concat_34.post W h0 m0 r) A_6 n_6 c_6 A_25 n_25 c_25 x_26 x_27 h
set_option maxRecDepth 100000 in
theorem slices_Concat_34.l1_k.step_l1 (go : (p : slices_Concat_34.l1_k.Pt) → Option ((List Int))) (ih : ∀ p r, go p = some r → slices_Concat_34.l1_k.I p r) (a_6 : List Int) (a_25 : List (List Int)) (x_26 : Int) (x_27 : Int) (r : (List Int)) (e : slices_Concat_34.l1_k.body go (.l1 a_6 a_25 x_26 x_27) = some r) : slices_Concat_34.l1_k.I (.l1 a_6 a_25 x_26 x_27) r := by
  unfold slices_Concat_34.l1_k.body at e
  intro W h0 m0 h m A_6 n_6 c_6 A_25 n_25 c_25 O ne_6 ne_25 k_25 r_25
  subst ne_6
  subst ne_25
  refine f34.l1_in ?_
  unfold f34.l1T
  refine split_dec_e e (fun c17 e => ?_) (fun c17 e => ?_)
  · obtain ⟨y1, g2, e⟩ := bind_e e
    refine r_25.addr rfl g2 fun a3 cs4 ha5 hc6 he7 => ?_
    obtain ⟨Acs4_0, ccs4_0, rfl, kcs4_0, rcs4_0⟩ := id he7
    refine ⟨_, ld0 O.s hc6 rfl, _, _, _, rfl, ?_⟩
    obtain ⟨l8, g9, e⟩ := bind_e e
    refine O.app 0 rfl rfl rfl (Rd.srcE rcs4_0 (tell_int .i64) O.s rfl) (by decide) g9 fun A10 c11 h12 O13 => ?_
    refine ⟨_, _, _, rfl, ?_⟩
    have O16 := O13.nm
    exact (ih _ _ e) _ _ _ _ _ _ _ _ _ _ _ (O16.pick [0]).nm rfl rfl k_25 r_25
  · cases e
    exact ⟨_, _, _, _, O.pick [0], rfl, rfl⟩
theorem slices_Concat_34.l1_k.all {p : slices_Concat_34.l1_k.Pt} {r : ((List Int))} (e : slices_Concat_34.l1_k.go p = some r) : slices_Concat_34.l1_k.I p r := fixF_ind (β := fun _ => ((List Int))) slices_Concat_34.l1_k.mono (I := slices_Concat_34.l1_k.I) (fun go ih p r e => match p with
  | .l1 a_6 a_25 x_26 x_27 => slices_Concat_34.l1_k.step_l1 go ih a_6 a_25 x_26 x_27 r e
  ) e
theorem slices_Concat_34.l1.walk {W : Nat → Prop} {h0 m0 h m : Heap} {A_6 : Option Addr} {n_6 c_6 : Nat} {A_25 : Option Addr} {n_25 c_25 : Nat} {a_6 : List Int} {a_25 : List (List Int)} {x_26 : Int} {x_27 : Int} (O : Hold W h0 m0 h m [rR (aE (tell_int .i64)) A_6 c_6 a_6]) (ne_6 : n_6 = List.length a_6) (ne_25 : n_25 = List.length a_25) (k_25 : List.length a_25 ≤ c_25) (r_25 : Rd 1 (eRow 1 (eInt .i64)) m A_25 a_25) {r : (List Int)} (e : slices_Concat_34.l1 a_6 a_25 x_26 x_27 = some r) : f34.l1 (slices_Concat_34.post W h0 m0 r) A_6 n_6 c_6 A_25 n_25 c_25 x_26 x_27 h := slices_Concat_34.l1_k.all (p := .l1 a_6 a_25 x_26 x_27) e W h0 m0 h m A_6 n_6 c_6 A_25 n_25 c_25 O ne_6 ne_25 k_25 r_25
inductive slices_Concat_34.l0_k.Pt where
  | l0 (a_0 : List (List Int)) (x_3 : Int) (a_9 : List (List Int)) (x_10 : Int) (x_11 : Int)
noncomputable def slices_Concat_34.l0_k.body (go : (p : slices_Concat_34.l0_k.Pt) → Option ((List Int))) : (p : slices_Concat_34.l0_k.Pt) → Option ((List Int))
  | .l0 a_0 x_3 a_9 x_10 x_11 => if x_11 < x_10 then (Option.bind (gi a_9 x_11) fun y1 => if (IntKind.wrap .i64 (x_3 + (((List.length y1) : Nat) : Int))) < (0 : Int) then ((none : Option _)) else ((go (.l0 a_0 (IntKind.wrap .i64 (x_3 + (((List.length y1) : Nat) : Int))) a_9 x_10 (IntKind.wrap .i64 (x_11 + (1 : Int))))))) else (Option.bind (slices_Grow_67 x_3) fun y9 => (slices_Concat_34.l1 y9 a_0 (((List.length a_0) : Nat) : Int) (0 : Int)))
theorem slices_Concat_34.l0_k.mono : MonoF (β := fun _ => ((List Int))) slices_Concat_34.l0_k.body := fun f g hfg p => match p with
  | .l0 a_0 x_3 a_9 x_10 x_11 => LeO.ite (LeO.bind (LeO.refl _) fun y1 => LeO.ite (LeO.refl _) ((hfg _))) (LeO.bind (LeO.refl _) fun y9 => (LeO.refl _))
noncomputable def slices_Concat_34.l0_k.go (p : slices_Concat_34.l0_k.Pt) : Option ((List Int)) := fixF (β := fun _ => ((List Int))) slices_Concat_34.l0_k.body p
noncomputable def slices_Concat_34.l0 (a_0 : List (List Int)) (x_3 : Int) (a_9 : List (List Int)) (x_10 : Int) (x_11 : Int) : Option ((List Int)) := slices_Concat_34.l0_k.go (.l0 a_0 x_3 a_9 x_10 x_11)
theorem slices_Concat_34.l0_eq (a_0 : List (List Int)) (x_3 : Int) (a_9 : List (List Int)) (x_10 : Int) (x_11 : Int) : slices_Concat_34.l0 a_0 x_3 a_9 x_10 x_11 = if x_11 < x_10 then (Option.bind (gi a_9 x_11) fun y1 => if (IntKind.wrap .i64 (x_3 + (((List.length y1) : Nat) : Int))) < (0 : Int) then ((none : Option _)) else ((slices_Concat_34.l0 a_0 (IntKind.wrap .i64 (x_3 + (((List.length y1) : Nat) : Int))) a_9 x_10 (IntKind.wrap .i64 (x_11 + (1 : Int)))))) else (Option.bind (slices_Grow_67 x_3) fun y9 => (slices_Concat_34.l1 y9 a_0 (((List.length a_0) : Nat) : Int) (0 : Int))) := fixF_eq slices_Concat_34.l0_k.mono _
def slices_Concat_34.l0_k.I : (p : slices_Concat_34.l0_k.Pt) → ((List Int)) → Prop
  | .l0 a_0 x_3 a_9 x_10 x_11, r => ∀ (W : Nat → Prop) (h0 m0 h m : Heap) (A_0 : Option Addr) (n_0 c_0 : Nat) (A_9 : Option Addr) (n_9 c_9 : Nat) (O : Hold W h0 m0 h m []) (ne_0 : n_0 = List.length a_0) (k_0 : List.length a_0 ≤ c_0) (r_0 : Rd 1 (eRow 1 (eInt .i64)) m A_0 a_0) (ne_9 : n_9 = List.length a_9) (k_9 : List.length a_9 ≤ c_9) (r_9 : Rd 1 (eRow 1 (eInt .i64)) m A_9 a_9), f34.l0 (slices_Concat_34.post W h0 m0 r) A_0 n_0 c_0 x_3 A_9 n_9 c_9 x_10 x_11 h
set_option maxRecDepth 100000 in
theorem slices_Concat_34.l0_k.step_l0 (go : (p : slices_Concat_34.l0_k.Pt) → Option ((List Int))) (ih : ∀ p r, go p = some r → slices_Concat_34.l0_k.I p r) (a_0 : List (List Int)) (x_3 : Int) (a_9 : List (List Int)) (x_10 : Int) (x_11 : Int) (r : (List Int)) (e : slices_Concat_34.l0_k.body go (.l0 a_0 x_3 a_9 x_10 x_11) = some r) : slices_Concat_34.l0_k.I (.l0 a_0 x_3 a_9 x_10 x_11) r := by
  unfold slices_Concat_34.l0_k.body at e
  intro W h0 m0 h m A_0 n_0 c_0 A_9 n_9 c_9 O ne_0 k_0 r_0 ne_9 k_9 r_9
  subst ne_0
  subst ne_9
  refine f34.l0_in ?_
  unfold f34.l0T
  refine split_dec_e e (fun c21 e => ?_) (fun c21 e => ?_)
  · obtain ⟨y1, g2, e⟩ := bind_e e
    refine r_9.addr rfl g2 fun a3 cs4 ha5 hc6 he7 => ?_
    obtain ⟨Acs4_0, ccs4_0, rfl, kcs4_0, rcs4_0⟩ := id he7
    refine ⟨_, ld0 O.s hc6 rfl, _, _, _, rfl, ?_⟩
    refine split_dec_e e (fun c8 e => ?_) (fun c8 e => ?_)
    · cases e
    · exact (ih _ _ e) _ _ _ _ _ _ _ _ _ _ _ (O.pick []).nm rfl k_0 r_0 rfl k_9 r_9
  · obtain ⟨y9, g10, e⟩ := bind_e e
    refine (slices_Grow_67.walk (Hold.start (W := No) O.s)  g10).mono ?_
    rintro _ h11 ⟨m12, A15, n16, c17, Q13, rfl, ne18⟩
    have O20 := Hold.nm (O.retC Q13 (vfs_cons (rR_vf (aE_vf (fun _ _ _ _ h => h))) vfs_nil))
    subst ne18
    refine ⟨_, _, _, rfl, ?_⟩
    exact slices_Concat_34.l1.walk (O20.pick [0]).nm rfl rfl k_0 r_0 e
theorem slices_Concat_34.l0_k.all {p : slices_Concat_34.l0_k.Pt} {r : ((List Int))} (e : slices_Concat_34.l0_k.go p = some r) : slices_Concat_34.l0_k.I p r := fixF_ind (β := fun _ => ((List Int))) slices_Concat_34.l0_k.mono (I := slices_Concat_34.l0_k.I) (fun go ih p r e => match p with
  | .l0 a_0 x_3 a_9 x_10 x_11 => slices_Concat_34.l0_k.step_l0 go ih a_0 x_3 a_9 x_10 x_11 r e
  ) e
theorem slices_Concat_34.l0.walk {W : Nat → Prop} {h0 m0 h m : Heap} {A_0 : Option Addr} {n_0 c_0 : Nat} {A_9 : Option Addr} {n_9 c_9 : Nat} {a_0 : List (List Int)} {x_3 : Int} {a_9 : List (List Int)} {x_10 : Int} {x_11 : Int} (O : Hold W h0 m0 h m []) (ne_0 : n_0 = List.length a_0) (k_0 : List.length a_0 ≤ c_0) (r_0 : Rd 1 (eRow 1 (eInt .i64)) m A_0 a_0) (ne_9 : n_9 = List.length a_9) (k_9 : List.length a_9 ≤ c_9) (r_9 : Rd 1 (eRow 1 (eInt .i64)) m A_9 a_9) {r : (List Int)} (e : slices_Concat_34.l0 a_0 x_3 a_9 x_10 x_11 = some r) : f34.l0 (slices_Concat_34.post W h0 m0 r) A_0 n_0 c_0 x_3 A_9 n_9 c_9 x_10 x_11 h := slices_Concat_34.l0_k.all (p := .l0 a_0 x_3 a_9 x_10 x_11) e W h0 m0 h m A_0 n_0 c_0 A_9 n_9 c_9 O ne_0 k_0 r_0 ne_9 k_9 r_9
noncomputable def slices_Concat_34 (a_0 : List (List Int)) : Option ((List Int)) :=
  (slices_Concat_34.l0 a_0 (0 : Int) a_0 (((List.length a_0) : Nat) : Int) (0 : Int))
set_option maxRecDepth 100000 in
theorem slices_Concat_34.walk {W : Nat → Prop} {h m : Heap} {A_0 : Option Addr} {n_0 c_0 : Nat} {a_0 : List (List Int)} (O : Hold W h m h m []) (ne_0 : n_0 = List.length a_0) (k_0 : List.length a_0 ≤ c_0) (r_0 : Rd 1 (eRow 1 (eInt .i64)) m A_0 a_0) {r : (List Int)} (e : slices_Concat_34 a_0 = some r) : Run Try.prog 34 #[Value.slice A_0 n_0 c_0] h (slices_Concat_34.post W h m r) := by
  unfold slices_Concat_34 at e
  subst ne_0
  refine f34.run ?_
  unfold f34.runT
  exact slices_Concat_34.l0.walk (O.pick []).nm rfl k_0 r_0 rfl k_0 r_0 e
theorem slices_Concat_34.val (ls : List (List Int)) (hl : ls.length ≤ 4611686018427387904) (hs : ls.flatten.length * 8 ≤ 140737488355328) : slices_Concat_34 ls = some ls.flatten := concat_val (B := 8) (by decide) (fun r a n i => slices_Concat_34.l1_eq r a n i) (fun a s b n i => slices_Concat_34.l0_eq a s b n i) (gr := slices_Grow_67) (fun _ => rfl) (fun _ => rfl) ls hl hs
def roadref2_path.post (W : Nat → Prop) (h0 m0 : Heap) (r : (List Int) × Bool) (v : Value) (h : Heap) : Prop := ∃ m A0 n0 c0, Hold W h0 m0 h m [] ∧ v = .tuple #[.slice A0 n0 c0, .bool r.2] ∧ n0 = List.length r.1 ∧ List.length r.1 ≤ c0 ∧ Rd 1 (eInt .i64) m A0 r.1
inductive roadref2_path.l0_k.Pt where
  | l0 (x_2 : Int) (x_3 : Int) (y_4 : T_roadref2_Net) (a_10 : List T_roadref2_way) (a_11 : List Int)
  | l1 (x_2 : Int) (x_3 : Int) (y_4 : T_roadref2_Net) (a_10 : List T_roadref2_way) (a_11 : List Int) (y_12 : T_roadref2_way) (a_36 : List (List Int)) (x_37 : Int) (x_38 : Int)
  | j0 (x_2 : Int) (x_3 : Int) (y_4 : T_roadref2_Net) (a_10 : List T_roadref2_way) (a_11 : List Int) (y_12 : T_roadref2_way) (x_13 : Int) (x_15 : Int) (a_36 : List (List Int)) (x_37 : Int) (x_38 : Int)
  | j1 (x_2 : Int) (x_3 : Int) (y_4 : T_roadref2_Net) (a_10 : List T_roadref2_way) (a_11 : List Int) (y_12 : T_roadref2_way) (x_13 : Int) (x_15 : Int) (a_36 : List (List Int)) (x_37 : Int) (x_38 : Int) (b_69 : Bool)
noncomputable def roadref2_path.l0_k.body (go : (p : roadref2_path.l0_k.Pt) → Option ((List Int) × Bool)) : (p : roadref2_path.l0_k.Pt) → Option ((List Int) × Bool)
  | .l0 x_2 x_3 y_4 a_10 a_11 => if (((List.length a_10) : Nat) : Int) > (0 : Int) then (Option.bind (gi a_10 (0 : Int)) fun y1 => Option.bind (sls a_10 (1 : Int) (((List.length a_10) : Nat) : Int)) fun l14 => if y1.at_ = x_2 then (some (y1.lines_, true)) else ((go (.l1 x_2 x_3 y_4 l14 a_11 y1 y_4.Lines (((List.length y_4.Lines) : Nat) : Int) (0 : Int))))) else (some (([] : List Int), false))
  | .l1 x_2 x_3 y_4 a_10 a_11 y_12 a_36 x_37 x_38 => if x_38 < x_37 then (Option.bind (gi a_36 x_38) fun y1 => Option.bind (gi y1 (0 : Int)) fun y14 => if y14 = y_12.at_ then (Option.bind (gi y1 (1 : Int)) fun y16 => (go (.j0 x_2 x_3 y_4 a_10 a_11 y_12 x_38 y16 a_36 x_37 x_38))) else (Option.bind (gi y1 (1 : Int)) fun y19 => if y19 = y_12.at_ then (Option.bind (gi y1 (0 : Int)) fun y21 => (go (.j0 x_2 x_3 y_4 a_10 a_11 y_12 x_38 y21 a_36 x_37 x_38))) else ((go (.j0 x_2 x_3 y_4 a_10 a_11 y_12 x_38 (-1 : Int) a_36 x_37 x_38))))) else ((go (.l0 x_2 x_3 y_4 a_10 a_11)))
  | .j0 x_2 x_3 y_4 a_10 a_11 y_12 x_13 x_15 a_36 x_37 x_38 => if x_13 = x_3 then ((go (.j1 x_2 x_3 y_4 a_10 a_11 y_12 x_13 x_15 a_36 x_37 x_38 false))) else (if x_15 ≥ (0 : Int) then (Option.bind (slices_Contains_35 a_11 x_15) fun y1 => (go (.j1 x_2 x_3 y_4 a_10 a_11 y_12 x_13 x_15 a_36 x_37 x_38 (!y1)))) else ((go (.j1 x_2 x_3 y_4 a_10 a_11 y_12 x_13 x_15 a_36 x_37 x_38 false))))
  | .j1 x_2 x_3 y_4 a_10 a_11 y_12 x_13 x_15 a_36 x_37 x_38 b_69 => if b_69 = true then (Option.bind (ap 8 a_11 ([x_15] : List Int)) fun l5 => Option.bind (slices_Concat_34 ([y_12.lines_, ([x_13] : List Int)] : List (List Int))) fun y35 => Option.bind (ap 32 a_10 ([(T_roadref2_way.mk x_15 y35)] : List T_roadref2_way)) fun l59 => (go (.l1 x_2 x_3 y_4 l59 l5 y_12 a_36 x_37 (IntKind.wrap .i64 (x_38 + (1 : Int)))))) else ((go (.l1 x_2 x_3 y_4 a_10 a_11 y_12 a_36 x_37 (IntKind.wrap .i64 (x_38 + (1 : Int))))))
theorem roadref2_path.l0_k.mono : MonoF (β := fun _ => ((List Int) × Bool)) roadref2_path.l0_k.body := fun f g hfg p => match p with
  | .l0 x_2 x_3 y_4 a_10 a_11 => LeO.ite (LeO.bind (LeO.refl _) fun y1 => LeO.bind (LeO.refl _) fun l14 => LeO.ite (LeO.refl _) ((hfg _))) (LeO.refl _)
  | .l1 x_2 x_3 y_4 a_10 a_11 y_12 a_36 x_37 x_38 => LeO.ite (LeO.bind (LeO.refl _) fun y1 => LeO.bind (LeO.refl _) fun y14 => LeO.ite (LeO.bind (LeO.refl _) fun y16 => (hfg _)) (LeO.bind (LeO.refl _) fun y19 => LeO.ite (LeO.bind (LeO.refl _) fun y21 => (hfg _)) ((hfg _)))) ((hfg _))
  | .j0 x_2 x_3 y_4 a_10 a_11 y_12 x_13 x_15 a_36 x_37 x_38 => LeO.ite ((hfg _)) (LeO.ite (LeO.bind (LeO.refl _) fun y1 => (hfg _)) ((hfg _)))
  | .j1 x_2 x_3 y_4 a_10 a_11 y_12 x_13 x_15 a_36 x_37 x_38 b_69 => LeO.ite (LeO.bind (LeO.refl _) fun l5 => LeO.bind (LeO.refl _) fun y35 => LeO.bind (LeO.refl _) fun l59 => (hfg _)) ((hfg _))
noncomputable def roadref2_path.l0_k.go (p : roadref2_path.l0_k.Pt) : Option ((List Int) × Bool) := fixF (β := fun _ => ((List Int) × Bool)) roadref2_path.l0_k.body p
noncomputable def roadref2_path.l0 (x_2 : Int) (x_3 : Int) (y_4 : T_roadref2_Net) (a_10 : List T_roadref2_way) (a_11 : List Int) : Option ((List Int) × Bool) := roadref2_path.l0_k.go (.l0 x_2 x_3 y_4 a_10 a_11)
noncomputable def roadref2_path.l1 (x_2 : Int) (x_3 : Int) (y_4 : T_roadref2_Net) (a_10 : List T_roadref2_way) (a_11 : List Int) (y_12 : T_roadref2_way) (a_36 : List (List Int)) (x_37 : Int) (x_38 : Int) : Option ((List Int) × Bool) := roadref2_path.l0_k.go (.l1 x_2 x_3 y_4 a_10 a_11 y_12 a_36 x_37 x_38)
noncomputable def roadref2_path.j0 (x_2 : Int) (x_3 : Int) (y_4 : T_roadref2_Net) (a_10 : List T_roadref2_way) (a_11 : List Int) (y_12 : T_roadref2_way) (x_13 : Int) (x_15 : Int) (a_36 : List (List Int)) (x_37 : Int) (x_38 : Int) : Option ((List Int) × Bool) := roadref2_path.l0_k.go (.j0 x_2 x_3 y_4 a_10 a_11 y_12 x_13 x_15 a_36 x_37 x_38)
noncomputable def roadref2_path.j1 (x_2 : Int) (x_3 : Int) (y_4 : T_roadref2_Net) (a_10 : List T_roadref2_way) (a_11 : List Int) (y_12 : T_roadref2_way) (x_13 : Int) (x_15 : Int) (a_36 : List (List Int)) (x_37 : Int) (x_38 : Int) (b_69 : Bool) : Option ((List Int) × Bool) := roadref2_path.l0_k.go (.j1 x_2 x_3 y_4 a_10 a_11 y_12 x_13 x_15 a_36 x_37 x_38 b_69)
theorem roadref2_path.l0_eq (x_2 : Int) (x_3 : Int) (y_4 : T_roadref2_Net) (a_10 : List T_roadref2_way) (a_11 : List Int) : roadref2_path.l0 x_2 x_3 y_4 a_10 a_11 = if (((List.length a_10) : Nat) : Int) > (0 : Int) then (Option.bind (gi a_10 (0 : Int)) fun y1 => Option.bind (sls a_10 (1 : Int) (((List.length a_10) : Nat) : Int)) fun l14 => if y1.at_ = x_2 then (some (y1.lines_, true)) else ((roadref2_path.l1 x_2 x_3 y_4 l14 a_11 y1 y_4.Lines (((List.length y_4.Lines) : Nat) : Int) (0 : Int)))) else (some (([] : List Int), false)) := fixF_eq roadref2_path.l0_k.mono _
theorem roadref2_path.l1_eq (x_2 : Int) (x_3 : Int) (y_4 : T_roadref2_Net) (a_10 : List T_roadref2_way) (a_11 : List Int) (y_12 : T_roadref2_way) (a_36 : List (List Int)) (x_37 : Int) (x_38 : Int) : roadref2_path.l1 x_2 x_3 y_4 a_10 a_11 y_12 a_36 x_37 x_38 = if x_38 < x_37 then (Option.bind (gi a_36 x_38) fun y1 => Option.bind (gi y1 (0 : Int)) fun y14 => if y14 = y_12.at_ then (Option.bind (gi y1 (1 : Int)) fun y16 => (roadref2_path.j0 x_2 x_3 y_4 a_10 a_11 y_12 x_38 y16 a_36 x_37 x_38)) else (Option.bind (gi y1 (1 : Int)) fun y19 => if y19 = y_12.at_ then (Option.bind (gi y1 (0 : Int)) fun y21 => (roadref2_path.j0 x_2 x_3 y_4 a_10 a_11 y_12 x_38 y21 a_36 x_37 x_38)) else ((roadref2_path.j0 x_2 x_3 y_4 a_10 a_11 y_12 x_38 (-1 : Int) a_36 x_37 x_38)))) else ((roadref2_path.l0 x_2 x_3 y_4 a_10 a_11)) := fixF_eq roadref2_path.l0_k.mono _
theorem roadref2_path.j0_eq (x_2 : Int) (x_3 : Int) (y_4 : T_roadref2_Net) (a_10 : List T_roadref2_way) (a_11 : List Int) (y_12 : T_roadref2_way) (x_13 : Int) (x_15 : Int) (a_36 : List (List Int)) (x_37 : Int) (x_38 : Int) : roadref2_path.j0 x_2 x_3 y_4 a_10 a_11 y_12 x_13 x_15 a_36 x_37 x_38 = if x_13 = x_3 then ((roadref2_path.j1 x_2 x_3 y_4 a_10 a_11 y_12 x_13 x_15 a_36 x_37 x_38 false)) else (if x_15 ≥ (0 : Int) then (Option.bind (slices_Contains_35 a_11 x_15) fun y1 => (roadref2_path.j1 x_2 x_3 y_4 a_10 a_11 y_12 x_13 x_15 a_36 x_37 x_38 (!y1))) else ((roadref2_path.j1 x_2 x_3 y_4 a_10 a_11 y_12 x_13 x_15 a_36 x_37 x_38 false))) := fixF_eq roadref2_path.l0_k.mono _
theorem roadref2_path.j1_eq (x_2 : Int) (x_3 : Int) (y_4 : T_roadref2_Net) (a_10 : List T_roadref2_way) (a_11 : List Int) (y_12 : T_roadref2_way) (x_13 : Int) (x_15 : Int) (a_36 : List (List Int)) (x_37 : Int) (x_38 : Int) (b_69 : Bool) : roadref2_path.j1 x_2 x_3 y_4 a_10 a_11 y_12 x_13 x_15 a_36 x_37 x_38 b_69 = if b_69 = true then (Option.bind (ap 8 a_11 ([x_15] : List Int)) fun l5 => Option.bind (slices_Concat_34 ([y_12.lines_, ([x_13] : List Int)] : List (List Int))) fun y35 => Option.bind (ap 32 a_10 ([(T_roadref2_way.mk x_15 y35)] : List T_roadref2_way)) fun l59 => (roadref2_path.l1 x_2 x_3 y_4 l59 l5 y_12 a_36 x_37 (IntKind.wrap .i64 (x_38 + (1 : Int))))) else ((roadref2_path.l1 x_2 x_3 y_4 a_10 a_11 y_12 a_36 x_37 (IntKind.wrap .i64 (x_38 + (1 : Int))))) := fixF_eq roadref2_path.l0_k.mono _
def roadref2_path.l0_k.I : (p : roadref2_path.l0_k.Pt) → ((List Int) × Bool) → Prop
  | .l0 x_2 x_3 y_4 a_10 a_11, r => ∀ (W : Nat → Prop) (h0 m0 h m : Heap) (bk_4 : Nat) (cs_4 : List Value) (A_10 : Option Addr) (n_10 c_10 : Nat) (A_11 : Option Addr) (n_11 c_11 : Nat) (O : Hold W h0 m0 h m [rV bk_4 87 cs_4, rR (aE T_roadref2_way.T) A_10 c_10 a_10, rR (aE (tell_int .i64)) A_11 c_11 a_11]) (e_4 : T_roadref2_Net.E m y_4 cs_4) (ne_10 : n_10 = List.length a_10) (ne_11 : n_11 = List.length a_11), f78.l0 (roadref2_path.post W h0 m0 r) x_2 x_3 (⟨bk_4, 0, none⟩ : Addr) A_10 n_10 c_10 A_11 n_11 c_11 h
  | .l1 x_2 x_3 y_4 a_10 a_11 y_12 a_36 x_37 x_38, r => ∀ (W : Nat → Prop) (h0 m0 h m : Heap) (bk_4 : Nat) (cs_4 : List Value) (A_10 : Option Addr) (n_10 c_10 : Nat) (A_11 : Option Addr) (n_11 c_11 : Nat) (bk_12 : Nat) (cs_12 : List Value) (A_36 : Option Addr) (n_36 c_36 : Nat) (O : Hold W h0 m0 h m [rV bk_4 87 cs_4, rR (aE T_roadref2_way.T) A_10 c_10 a_10, rR (aE (tell_int .i64)) A_11 c_11 a_11, rV bk_12 149 cs_12]) (e_4 : T_roadref2_Net.E m y_4 cs_4) (ne_10 : n_10 = List.length a_10) (ne_11 : n_11 = List.length a_11) (e_12 : T_roadref2_way.E m y_12 cs_12) (ne_36 : n_36 = List.length a_36) (k_36 : List.length a_36 ≤ c_36) (r_36 : Rd 2 (eArr 2 (fun n : Int => Value.int .i64 n) (0 : Int)) m A_36 a_36), f78.l1 (roadref2_path.post W h0 m0 r) x_2 x_3 (⟨bk_4, 0, none⟩ : Addr) A_10 n_10 c_10 A_11 n_11 c_11 (⟨bk_12, 0, none⟩ : Addr) A_36 n_36 c_36 x_37 x_38 h
  | .j0 x_2 x_3 y_4 a_10 a_11 y_12 x_13 x_15 a_36 x_37 x_38, r => ∀ (W : Nat → Prop) (h0 m0 h m : Heap) (bk_4 : Nat) (cs_4 : List Value) (A_10 : Option Addr) (n_10 c_10 : Nat) (A_11 : Option Addr) (n_11 c_11 : Nat) (bk_12 : Nat) (cs_12 : List Value) (A_36 : Option Addr) (n_36 c_36 : Nat) (O : Hold W h0 m0 h m [rV bk_4 87 cs_4, rR (aE T_roadref2_way.T) A_10 c_10 a_10, rR (aE (tell_int .i64)) A_11 c_11 a_11, rV bk_12 149 cs_12]) (e_4 : T_roadref2_Net.E m y_4 cs_4) (ne_10 : n_10 = List.length a_10) (ne_11 : n_11 = List.length a_11) (e_12 : T_roadref2_way.E m y_12 cs_12) (ne_36 : n_36 = List.length a_36) (k_36 : List.length a_36 ≤ c_36) (r_36 : Rd 2 (eArr 2 (fun n : Int => Value.int .i64 n) (0 : Int)) m A_36 a_36), f78.j0 (roadref2_path.post W h0 m0 r) x_2 x_3 (⟨bk_4, 0, none⟩ : Addr) A_10 n_10 c_10 A_11 n_11 c_11 (⟨bk_12, 0, none⟩ : Addr) x_13 x_15 A_36 n_36 c_36 x_37 x_38 h
  | .j1 x_2 x_3 y_4 a_10 a_11 y_12 x_13 x_15 a_36 x_37 x_38 b_69, r => ∀ (W : Nat → Prop) (h0 m0 h m : Heap) (bk_4 : Nat) (cs_4 : List Value) (A_10 : Option Addr) (n_10 c_10 : Nat) (A_11 : Option Addr) (n_11 c_11 : Nat) (bk_12 : Nat) (cs_12 : List Value) (A_36 : Option Addr) (n_36 c_36 : Nat) (O : Hold W h0 m0 h m [rV bk_4 87 cs_4, rR (aE T_roadref2_way.T) A_10 c_10 a_10, rR (aE (tell_int .i64)) A_11 c_11 a_11, rV bk_12 149 cs_12]) (e_4 : T_roadref2_Net.E m y_4 cs_4) (ne_10 : n_10 = List.length a_10) (ne_11 : n_11 = List.length a_11) (e_12 : T_roadref2_way.E m y_12 cs_12) (ne_36 : n_36 = List.length a_36) (k_36 : List.length a_36 ≤ c_36) (r_36 : Rd 2 (eArr 2 (fun n : Int => Value.int .i64 n) (0 : Int)) m A_36 a_36), f78.j1 (roadref2_path.post W h0 m0 r) x_2 x_3 (⟨bk_4, 0, none⟩ : Addr) A_10 n_10 c_10 A_11 n_11 c_11 (⟨bk_12, 0, none⟩ : Addr) x_13 x_15 A_36 n_36 c_36 x_37 x_38 b_69 h
set_option maxRecDepth 100000 in
theorem roadref2_path.l0_k.step_l0 (go : (p : roadref2_path.l0_k.Pt) → Option ((List Int) × Bool)) (ih : ∀ p r, go p = some r → roadref2_path.l0_k.I p r) (x_2 : Int) (x_3 : Int) (y_4 : T_roadref2_Net) (a_10 : List T_roadref2_way) (a_11 : List Int) (r : (List Int) × Bool) (e : roadref2_path.l0_k.body go (.l0 x_2 x_3 y_4 a_10 a_11) = some r) : roadref2_path.l0_k.I (.l0 x_2 x_3 y_4 a_10 a_11) r := by
  unfold roadref2_path.l0_k.body at e
  intro W h0 m0 h m bk_4 cs_4 A_10 n_10 c_10 A_11 n_11 c_11 O e_4 ne_10 ne_11
  subst ne_10
  subst ne_11
  refine f78.l0_in ?_
  unfold f78.l0T
  refine split_dec_e e (fun c32 e => ?_) (fun c32 e => ?_)
  · obtain ⟨y1, g2, e⟩ := bind_e e
    refine (O.os 1 rfl).addr rfl g2 fun a3 cs4 ha5 hc6 he7 => ?_
    refine ⟨_, ldAn (Sub.refl _) hc6 rfl, ?_⟩
    refine O.new fun h8 x9 O10 => ?_
    refine ⟨_, rfl, (T_roadref2_way.T.len _ _ _ he7), ?_⟩
    refine O10.stA 3 rfl (T_roadref2_way.T.len _ _ _ he7) (T_roadref2_way.T.flat _ _ _ he7) fun h12 O13 => ?_
    obtain ⟨l14, g15, e⟩ := bind_e e
    have q16 := sls_e g15
    refine ⟨q16.1, q16.2.1, cap_in q16.2.2.1 (O13.cap 1 rfl), ?_⟩
    try rw [q16.2.2.2.1]
    refine ⟨_, ld0 (Sub.refl _) (O13.all 3 rfl) (T_roadref2_way.g0 he7), _, rfl, ?_⟩
    refine split_eq_e e (fun c31 e => ?_) (fun c31 e => ?_)
    · obtain ⟨A17, c18, q19, k20, r21⟩ := T_roadref2_way.g1 he7
      refine ⟨_, ldk (k := 1) (Sub.refl _) (O13.all 3 rfl) q19, _, _, _, rfl, ?_⟩
      have O22 := O13.nm
      cases e
      exact ⟨_, _, _, _, O22.pick [], rfl, rfl, k20, r21⟩
    · obtain ⟨A23, c24, q25, k26, r27⟩ := T_roadref2_Net.g0 e_4
      refine ⟨_, ld0 (Sub.refl _) (O13.all 0 rfl) q25, _, _, _, rfl, ?_⟩
      have O28 := O13.sls 1 rfl g15
      have O30 := O28.nm
      exact (ih _ _ e) _ _ _ _ _ _ _ _ _ _ _ _ _ _ _ _ _ _ (O30.pick [0, 1, 2, 3]).nm e_4 rfl rfl he7 rfl k26 r27
  · cases e
    exact ⟨_, _, _, _, O.pick [], rfl, rfl, (by exact Nat.le_refl 0), Rd.nil⟩
set_option maxHeartbeats 4000000 in
set_option maxRecDepth 100000 in
theorem roadref2_path.l0_k.step_l1 (go : (p : roadref2_path.l0_k.Pt) → Option ((List Int) × Bool)) (ih : ∀ p r, go p = some r → roadref2_path.l0_k.I p r) (x_2 : Int) (x_3 : Int) (y_4 : T_roadref2_Net) (a_10 : List T_roadref2_way) (a_11 : List Int) (y_12 : T_roadref2_way) (a_36 : List (List Int)) (x_37 : Int) (x_38 : Int) (r : (List Int) × Bool) (e : roadref2_path.l0_k.body go (.l1 x_2 x_3 y_4 a_10 a_11 y_12 a_36 x_37 x_38) = some r) : roadref2_path.l0_k.I (.l1 x_2 x_3 y_4 a_10 a_11 y_12 a_36 x_37 x_38) r := by
  unfold roadref2_path.l0_k.body at e
  intro W h0 m0 h m bk_4 cs_4 A_10 n_10 c_10 A_11 n_11 c_11 bk_12 cs_12 A_36 n_36 c_36 O e_4 ne_10 ne_11 e_12 ne_36 k_36 r_36
  subst ne_10
  subst ne_11
  subst ne_36
  refine f78.l1_in ?_
  unfold f78.l1T
  refine split_dec_e e (fun c27 e => ?_) (fun c27 e => ?_)
  · obtain ⟨y1, g2, e⟩ := bind_e e
    refine r_36.addr rfl g2 fun a3 cs4 ha5 hc6 he7 => ?_
    have qcs4_0 := he7.1
    obtain rfl : cs4 = [(Value.int .i64 (List.getD y1 0 (0 : Int))), (Value.int .i64 (List.getD y1 1 (0 : Int)))] := he7.2
    refine ⟨_, ldAn O.s hc6 rfl, ?_⟩
    refine O.new fun h8 x9 O10 => ?_
    refine ⟨_, rfl, rfl, ?_⟩
    refine O10.stA 4 rfl rfl (Flats.cons trivial (Flats.cons trivial Flats.nil)) fun h12 O13 => ?_
    obtain ⟨y14, g15, e⟩ := bind_e e
    refine ⟨gi_le g15, gi_ltn g15 qcs4_0, ?_⟩
    refine ⟨_, ldArr0 (n := 2) (f := (fun n : Int => Value.int .i64 n)) (d := (0 : Int)) (Sub.refl _) (O13.all 4 rfl) rfl qcs4_0 g15, _, rfl, ?_⟩
    refine ⟨_, ld0 (Sub.refl _) (O13.all 3 rfl) (T_roadref2_way.g0 e_12), _, rfl, ?_⟩
    refine split_eq_e e (fun c26 e => ?_) (fun c26 e => ?_)
    · obtain ⟨y16, g17, e⟩ := bind_e e
      refine ⟨gi_le g17, gi_ltn g17 qcs4_0, ?_⟩
      refine ⟨_, ldArr0 (n := 2) (f := (fun n : Int => Value.int .i64 n)) (d := (0 : Int)) (Sub.refl _) (O13.all 4 rfl) rfl qcs4_0 g17, _, rfl, ?_⟩
      have O18 := O13.nm
      exact (ih _ _ e) _ _ _ _ _ _ _ _ _ _ _ _ _ _ _ _ _ _ (O18.pick [0, 1, 2, 3]).nm e_4 rfl rfl e_12 rfl k_36 r_36
    · obtain ⟨y19, g20, e⟩ := bind_e e
      refine ⟨gi_le g20, gi_ltn g20 qcs4_0, ?_⟩
      refine ⟨_, ldArr0 (n := 2) (f := (fun n : Int => Value.int .i64 n)) (d := (0 : Int)) (Sub.refl _) (O13.all 4 rfl) rfl qcs4_0 g20, _, rfl, ?_⟩
      refine ⟨_, ld0 (Sub.refl _) (O13.all 3 rfl) (T_roadref2_way.g0 e_12), _, rfl, ?_⟩
      refine split_eq_e e (fun c25 e => ?_) (fun c25 e => ?_)
      · obtain ⟨y21, g22, e⟩ := bind_e e
        refine ⟨gi_le g22, gi_ltn g22 qcs4_0, ?_⟩
        refine ⟨_, ldArr0 (n := 2) (f := (fun n : Int => Value.int .i64 n)) (d := (0 : Int)) (Sub.refl _) (O13.all 4 rfl) rfl qcs4_0 g22, _, rfl, ?_⟩
        have O23 := O13.nm
        exact (ih _ _ e) _ _ _ _ _ _ _ _ _ _ _ _ _ _ _ _ _ _ (O23.pick [0, 1, 2, 3]).nm e_4 rfl rfl e_12 rfl k_36 r_36
      · have O24 := O13.nm
        exact (ih _ _ e) _ _ _ _ _ _ _ _ _ _ _ _ _ _ _ _ _ _ (O24.pick [0, 1, 2, 3]).nm e_4 rfl rfl e_12 rfl k_36 r_36
  · exact (ih _ _ e) _ _ _ _ _ _ _ _ _ _ _ _ _ (O.pick [0, 1, 2]).nm e_4 rfl rfl
set_option maxRecDepth 100000 in
theorem roadref2_path.l0_k.step_j0 (go : (p : roadref2_path.l0_k.Pt) → Option ((List Int) × Bool)) (ih : ∀ p r, go p = some r → roadref2_path.l0_k.I p r) (x_2 : Int) (x_3 : Int) (y_4 : T_roadref2_Net) (a_10 : List T_roadref2_way) (a_11 : List Int) (y_12 : T_roadref2_way) (x_13 : Int) (x_15 : Int) (a_36 : List (List Int)) (x_37 : Int) (x_38 : Int) (r : (List Int) × Bool) (e : roadref2_path.l0_k.body go (.j0 x_2 x_3 y_4 a_10 a_11 y_12 x_13 x_15 a_36 x_37 x_38) = some r) : roadref2_path.l0_k.I (.j0 x_2 x_3 y_4 a_10 a_11 y_12 x_13 x_15 a_36 x_37 x_38) r := by
  unfold roadref2_path.l0_k.body at e
  intro W h0 m0 h m bk_4 cs_4 A_10 n_10 c_10 A_11 n_11 c_11 bk_12 cs_12 A_36 n_36 c_36 O e_4 ne_10 ne_11 e_12 ne_36 k_36 r_36
  subst ne_10
  subst ne_11
  subst ne_36
  refine f78.j0_in ?_
  unfold f78.j0T
  refine split_ne_e e (fun c16 e => ?_) (fun c16 e => ?_)
  · refine split_dec_e e (fun c15 e => ?_) (fun c15 e => ?_)
    · obtain ⟨y1, g2, e⟩ := bind_e e
      obtain ⟨m7, u8, s13, ⟨⟨r11, k12⟩, _⟩, B9, C10⟩ := O.lend0 [2]
      replace r11 : Rd 1 (eInt .i64) m7 A_11 a_11 := r11
      replace k12 : List.length a_11 ≤ c_11 := k12
      refine (slices_Contains_35.walk (Hold.start (W := No) s13) rfl k12 r11 g2).mono ?_
      rintro _ h3 ⟨m4, Q5, rfl⟩
      have O14 := Hold.nm (C10 Q5 vfs_nil)
      refine ⟨_, rfl, ?_⟩
      exact (ih _ _ e) _ _ _ _ _ _ _ _ _ _ _ _ _ _ _ _ _ _ (O14.pick [0, 1, 2, 3]).nm e_4 rfl rfl e_12 rfl k_36 r_36
    · exact (ih _ _ e) _ _ _ _ _ _ _ _ _ _ _ _ _ _ _ _ _ _ (O.pick [0, 1, 2, 3]).nm e_4 rfl rfl e_12 rfl k_36 r_36
  · exact (ih _ _ e) _ _ _ _ _ _ _ _ _ _ _ _ _ _ _ _ _ _ (O.pick [0, 1, 2, 3]).nm e_4 rfl rfl e_12 rfl k_36 r_36
set_option maxHeartbeats 4000000 in
set_option maxRecDepth 100000 in
theorem roadref2_path.l0_k.step_j1 (go : (p : roadref2_path.l0_k.Pt) → Option ((List Int) × Bool)) (ih : ∀ p r, go p = some r → roadref2_path.l0_k.I p r) (x_2 : Int) (x_3 : Int) (y_4 : T_roadref2_Net) (a_10 : List T_roadref2_way) (a_11 : List Int) (y_12 : T_roadref2_way) (x_13 : Int) (x_15 : Int) (a_36 : List (List Int)) (x_37 : Int) (x_38 : Int) (b_69 : Bool) (r : (List Int) × Bool) (e : roadref2_path.l0_k.body go (.j1 x_2 x_3 y_4 a_10 a_11 y_12 x_13 x_15 a_36 x_37 x_38 b_69) = some r) : roadref2_path.l0_k.I (.j1 x_2 x_3 y_4 a_10 a_11 y_12 x_13 x_15 a_36 x_37 x_38 b_69) r := by
  unfold roadref2_path.l0_k.body at e
  intro W h0 m0 h m bk_4 cs_4 A_10 n_10 c_10 A_11 n_11 c_11 bk_12 cs_12 A_36 n_36 c_36 O e_4 ne_10 ne_11 e_12 ne_36 k_36 r_36
  subst ne_10
  subst ne_11
  subst ne_36
  refine f78.j1_in ?_
  unfold f78.j1T
  refine split_any_e e (fun c74 e => ?_) (fun c74 e => ?_)
  · refine O.new fun h1 x2 O3 => ?_
    obtain ⟨l5, g6, e⟩ := bind_e e
    have O13 := O3.rowE (l := ([x_15] : List Int)) 4 rfl (tell_int .i64) (show CsE _ _ _ _ _ from (CsE.cons (c1 := [(Value.int .i64 x_15)]) rfl rfl CsE.nil)) rfl
    refine O13.app 2 rfl rfl rfl ((O13.os 4 rfl).srcE rfl) (by decide) g6 fun A7 c8 h9 O10 => ?_
    refine ⟨_, _, _, rfl, ?_⟩
    obtain ⟨A14, c15, q16, k17, r18⟩ := T_roadref2_way.g1 e_12
    refine ⟨_, ldk (k := 1) (Sub.refl _) (O10.all 3 rfl) q16, _, _, _, rfl, ?_⟩
    refine O10.new fun h19 x20 O21 => ?_
    refine O21.new fun h23 x24 O25 => ?_
    have O27 := O25.nm
    obtain ⟨y35, g36, e⟩ := bind_e e
    have O28 := O27.rowE (l := ([x_13] : List Int)) 5 rfl (tell_int .i64) (show CsE _ _ _ _ _ from (CsE.cons (c1 := [(Value.int .i64 x_13)]) rfl rfl CsE.nil)) rfl
    obtain ⟨m29, u30, ⟨r31, k32⟩, O33⟩ := O28.frz 5 rfl
    replace r31 : Rd 1 (eInt .i64) m29 (some ⟨(Array.size h9), 0, none⟩) ([x_13] : List Int) := r31
    have O34 := O33.rowE (l := ([y_12.lines_, ([x_13] : List Int)] : List (List Int))) 6 rfl (tell_row (tell_int .i64)) (show CsE _ _ _ _ _ from (CsE.cons (c1 := [(Value.slice A14 (List.length y_12.lines_) c15)]) ⟨_, _, rfl, k17, (r18.sub (tell_int .i64) u30)⟩ rfl (CsE.cons (c1 := [(Value.slice (some ⟨(Array.size h9), 0, none⟩) 1 1)]) ⟨_, _, rfl, k32, r31⟩ rfl CsE.nil))) rfl
    have O41 := O34.nm
    obtain ⟨m42, u43, s48, ⟨⟨r46, k47⟩, _⟩, B44, C45⟩ := O41.lend0 [6]
    replace r46 : Rd 1 (eRow 1 (eInt .i64)) m42 (some ⟨(Array.size h19), 0, none⟩) ([y_12.lines_, ([x_13] : List Int)] : List (List Int)) := r46
    replace k47 : List.length ([y_12.lines_, ([x_13] : List Int)] : List (List Int)) ≤ 2 := k47
    refine (slices_Concat_34.walk (Hold.start (W := No) s48) rfl k47 r46 g36).mono ?_
    rintro _ h37 ⟨m38, A49, n50, c51, Q39, rfl, ne52⟩
    have O54 := Hold.nm (C45 Q39 (vfs_cons (rR_vf (aE_vf (fun _ _ _ _ h => h))) vfs_nil))
    subst ne52
    refine ⟨_, _, _, rfl, ?_⟩
    refine ⟨[(Value.int .i64 x_15), (Value.slice A49 (List.length y35) c51)], rfl, rfl, ?_⟩
    refine O54.new fun h55 x56 O57 => ?_
    obtain ⟨l59, g60, e⟩ := bind_e e
    obtain ⟨m67, u68, ⟨r69, k70⟩, O71⟩ := O57.frz 7 rfl
    replace r69 : Rd 1 (eInt .i64) m67 A49 y35 := r69
    have O72 := O71.rowE (l := ([(T_roadref2_way.mk x_15 y35)] : List T_roadref2_way)) 8 rfl T_roadref2_way.T (show CsE _ _ _ _ _ from (CsE.cons (c1 := [(Value.int .i64 x_15), (Value.slice A49 (List.length y35) c51)]) (show T_roadref2_way.E _ (T_roadref2_way.mk x_15 y35) [(Value.int .i64 x_15), (Value.slice A49 (List.length y35) c51)] from ⟨_, _, rfl, k70, r69⟩) rfl CsE.nil)) rfl
    refine O72.app 1 rfl rfl rfl ((O72.os 8 rfl).srcE rfl) (by decide) g60 fun A61 c62 h63 O64 => ?_
    refine ⟨_, _, _, rfl, ?_⟩
    have O73 := O64.nm
    exact (ih _ _ e) _ _ _ _ _ _ _ _ _ _ _ _ _ _ _ _ _ _ (O73.pick [0, 1, 2, 3]).nm (T_roadref2_Net.T.mono _ _ _ _ (u30.trans u68) e_4) rfl rfl (T_roadref2_way.T.mono _ _ _ _ (u30.trans u68) e_12) rfl k_36 (r_36.sub (tell_arr (n := 2) (f := (fun n : Int => Value.int .i64 n)) (d := (0 : Int)) (fun _ => trivial)) (u30.trans u68))
  · exact (ih _ _ e) _ _ _ _ _ _ _ _ _ _ _ _ _ _ _ _ _ _ (O.pick [0, 1, 2, 3]).nm e_4 rfl rfl e_12 rfl k_36 r_36
theorem roadref2_path.l0_k.all {p : roadref2_path.l0_k.Pt} {r : ((List Int) × Bool)} (e : roadref2_path.l0_k.go p = some r) : roadref2_path.l0_k.I p r := fixF_ind (β := fun _ => ((List Int) × Bool)) roadref2_path.l0_k.mono (I := roadref2_path.l0_k.I) (fun go ih p r e => match p with
  | .l0 x_2 x_3 y_4 a_10 a_11 => roadref2_path.l0_k.step_l0 go ih x_2 x_3 y_4 a_10 a_11 r e
  | .l1 x_2 x_3 y_4 a_10 a_11 y_12 a_36 x_37 x_38 => roadref2_path.l0_k.step_l1 go ih x_2 x_3 y_4 a_10 a_11 y_12 a_36 x_37 x_38 r e
  | .j0 x_2 x_3 y_4 a_10 a_11 y_12 x_13 x_15 a_36 x_37 x_38 => roadref2_path.l0_k.step_j0 go ih x_2 x_3 y_4 a_10 a_11 y_12 x_13 x_15 a_36 x_37 x_38 r e
  | .j1 x_2 x_3 y_4 a_10 a_11 y_12 x_13 x_15 a_36 x_37 x_38 b_69 => roadref2_path.l0_k.step_j1 go ih x_2 x_3 y_4 a_10 a_11 y_12 x_13 x_15 a_36 x_37 x_38 b_69 r e
  ) e
theorem roadref2_path.l0.walk {W : Nat → Prop} {h0 m0 h m : Heap} {bk_4 : Nat} {cs_4 : List Value} {A_10 : Option Addr} {n_10 c_10 : Nat} {A_11 : Option Addr} {n_11 c_11 : Nat} {x_2 : Int} {x_3 : Int} {y_4 : T_roadref2_Net} {a_10 : List T_roadref2_way} {a_11 : List Int} (O : Hold W h0 m0 h m [rV bk_4 87 cs_4, rR (aE T_roadref2_way.T) A_10 c_10 a_10, rR (aE (tell_int .i64)) A_11 c_11 a_11]) (e_4 : T_roadref2_Net.E m y_4 cs_4) (ne_10 : n_10 = List.length a_10) (ne_11 : n_11 = List.length a_11) {r : (List Int) × Bool} (e : roadref2_path.l0 x_2 x_3 y_4 a_10 a_11 = some r) : f78.l0 (roadref2_path.post W h0 m0 r) x_2 x_3 (⟨bk_4, 0, none⟩ : Addr) A_10 n_10 c_10 A_11 n_11 c_11 h := roadref2_path.l0_k.all (p := .l0 x_2 x_3 y_4 a_10 a_11) e W h0 m0 h m bk_4 cs_4 A_10 n_10 c_10 A_11 n_11 c_11 O e_4 ne_10 ne_11
noncomputable def roadref2_path (y_0 : T_roadref2_Net) (x_1 : Int) (x_2 : Int) (x_3 : Int) : Option ((List Int) × Bool) :=
  (roadref2_path.l0 x_2 x_3 y_0 ([(T_roadref2_way.mk x_1 ([]))] : List T_roadref2_way) ([x_1] : List Int))
set_option maxRecDepth 100000 in
theorem roadref2_path.walk {W : Nat → Prop} {h m : Heap} {cs_0 : List Value} {y_0 : T_roadref2_Net} {x_1 : Int} {x_2 : Int} {x_3 : Int} (O : Hold W h m h m []) (e_0 : T_roadref2_Net.E m y_0 cs_0) {r : (List Int) × Bool} (e : roadref2_path y_0 x_1 x_2 x_3 = some r) : Run Try.prog 78 #[Value.agg cs_0.toArray, Value.int .i64 x_1, Value.int .i64 x_2, Value.int .i64 x_3] h (roadref2_path.post W h m r) := by
  unfold roadref2_path at e
  refine f78.run ?_
  unfold f78.runT
  refine O.new fun h1 x2 O3 => ?_
  refine ⟨[(Value.int .i64 x_1), (Value.slice none 0 0)], rfl, rfl, ?_⟩
  refine O3.new fun h5 x6 O7 => ?_
  refine O7.new fun h9 x10 O11 => ?_
  have O13 := O11.rowE (l := ([(T_roadref2_way.mk x_1 ([]))] : List T_roadref2_way)) 1 rfl T_roadref2_way.T (show CsE _ _ _ _ _ from (CsE.cons (c1 := [(Value.int .i64 x_1), (Value.slice none 0 0)]) (show T_roadref2_way.E _ (T_roadref2_way.mk x_1 ([])) [(Value.int .i64 x_1), (Value.slice none 0 0)] from ⟨_, _, rfl, (by exact Nat.le_refl 0), Rd.nil⟩) rfl CsE.nil)) rfl
  have O14 := O13.rowE (l := ([x_1] : List Int)) 2 rfl (tell_int .i64) (show CsE _ _ _ _ _ from (CsE.cons (c1 := [(Value.int .i64 x_1)]) rfl rfl CsE.nil)) rfl
  have O15 := O14.nm
  exact roadref2_path.l0.walk (O15.pick [0, 1, 2]).nm e_0 rfl rfl e
def roadref2_RingOf.post (W : Nat → Prop) (h0 m0 : Heap) (r : (List Int)) (v : Value) (h : Heap) : Prop := ∃ m A0 n0 c0, Hold W h0 m0 h m [rR (aE (tell_int .i64)) A0 c0 r] ∧ v = .slice A0 n0 c0 ∧ n0 = List.length r ∧ (List.length r = 0 → A0 = none)
inductive roadref2_RingOf.l0_k.Pt where
  | l0 (y_1 : T_roadref2_Net) (a_3 : List Int) (a_9 : List (List Int)) (x_10 : Int) (x_11 : Int)
  | j0 (y_1 : T_roadref2_Net) (a_3 : List Int) (x_4 : Int) (a_6 : List Int) (a_9 : List (List Int)) (x_10 : Int) (x_11 : Int) (b_38 : Bool)
noncomputable def roadref2_RingOf.l0_k.body (go : (p : roadref2_RingOf.l0_k.Pt) → Option ((List Int))) : (p : roadref2_RingOf.l0_k.Pt) → Option ((List Int))
  | .l0 y_1 a_3 a_9 x_10 x_11 => if x_11 < x_10 then (Option.bind (gi a_9 x_11) fun y1 => Option.bind (gi y1 (1 : Int)) fun y14 => Option.bind (gi y1 (0 : Int)) fun y16 => Option.bind (roadref2_path y_1 y14 y16 x_11) fun y18 => if y18.2 = true then (if List.length a_3 = 0 then ((go (.j0 y_1 a_3 x_11 y18.1 a_9 x_10 x_11 true))) else ((go (.j0 y_1 a_3 x_11 y18.1 a_9 x_10 x_11 (decide ((IntKind.wrap .i64 ((((List.length y18.1) : Nat) : Int) + (1 : Int))) < (((List.length a_3) : Nat) : Int))))))) else ((go (.j0 y_1 a_3 x_11 y18.1 a_9 x_10 x_11 false)))) else (some (a_3))
  | .j0 y_1 a_3 x_4 a_6 a_9 x_10 x_11 b_38 => if b_38 = true then (Option.bind (slices_Concat_34 ([([x_4] : List Int), a_6] : List (List Int))) fun y16 => if List.length y16 ≠ 0 then ((go (.l0 y_1 y16 a_9 x_10 (IntKind.wrap .i64 (x_11 + (1 : Int)))))) else none) else ((go (.l0 y_1 a_3 a_9 x_10 (IntKind.wrap .i64 (x_11 + (1 : Int))))))
theorem roadref2_RingOf.l0_k.mono : MonoF (β := fun _ => ((List Int))) roadref2_RingOf.l0_k.body := fun f g hfg p => match p with
  | .l0 y_1 a_3 a_9 x_10 x_11 => LeO.ite (LeO.bind (LeO.refl _) fun y1 => LeO.bind (LeO.refl _) fun y14 => LeO.bind (LeO.refl _) fun y16 => LeO.bind (LeO.refl _) fun y18 => LeO.ite (LeO.ite ((hfg _)) ((hfg _))) ((hfg _))) (LeO.refl _)
  | .j0 y_1 a_3 x_4 a_6 a_9 x_10 x_11 b_38 => LeO.ite (LeO.bind (LeO.refl _) fun y16 => LeO.ite ((hfg _)) (LeO.refl _)) ((hfg _))
noncomputable def roadref2_RingOf.l0_k.go (p : roadref2_RingOf.l0_k.Pt) : Option ((List Int)) := fixF (β := fun _ => ((List Int))) roadref2_RingOf.l0_k.body p
noncomputable def roadref2_RingOf.l0 (y_1 : T_roadref2_Net) (a_3 : List Int) (a_9 : List (List Int)) (x_10 : Int) (x_11 : Int) : Option ((List Int)) := roadref2_RingOf.l0_k.go (.l0 y_1 a_3 a_9 x_10 x_11)
noncomputable def roadref2_RingOf.j0 (y_1 : T_roadref2_Net) (a_3 : List Int) (x_4 : Int) (a_6 : List Int) (a_9 : List (List Int)) (x_10 : Int) (x_11 : Int) (b_38 : Bool) : Option ((List Int)) := roadref2_RingOf.l0_k.go (.j0 y_1 a_3 x_4 a_6 a_9 x_10 x_11 b_38)
theorem roadref2_RingOf.l0_eq (y_1 : T_roadref2_Net) (a_3 : List Int) (a_9 : List (List Int)) (x_10 : Int) (x_11 : Int) : roadref2_RingOf.l0 y_1 a_3 a_9 x_10 x_11 = if x_11 < x_10 then (Option.bind (gi a_9 x_11) fun y1 => Option.bind (gi y1 (1 : Int)) fun y14 => Option.bind (gi y1 (0 : Int)) fun y16 => Option.bind (roadref2_path y_1 y14 y16 x_11) fun y18 => if y18.2 = true then (if List.length a_3 = 0 then ((roadref2_RingOf.j0 y_1 a_3 x_11 y18.1 a_9 x_10 x_11 true)) else ((roadref2_RingOf.j0 y_1 a_3 x_11 y18.1 a_9 x_10 x_11 (decide ((IntKind.wrap .i64 ((((List.length y18.1) : Nat) : Int) + (1 : Int))) < (((List.length a_3) : Nat) : Int)))))) else ((roadref2_RingOf.j0 y_1 a_3 x_11 y18.1 a_9 x_10 x_11 false))) else (some (a_3)) := fixF_eq roadref2_RingOf.l0_k.mono _
theorem roadref2_RingOf.j0_eq (y_1 : T_roadref2_Net) (a_3 : List Int) (x_4 : Int) (a_6 : List Int) (a_9 : List (List Int)) (x_10 : Int) (x_11 : Int) (b_38 : Bool) : roadref2_RingOf.j0 y_1 a_3 x_4 a_6 a_9 x_10 x_11 b_38 = if b_38 = true then (Option.bind (slices_Concat_34 ([([x_4] : List Int), a_6] : List (List Int))) fun y16 => if List.length y16 ≠ 0 then ((roadref2_RingOf.l0 y_1 y16 a_9 x_10 (IntKind.wrap .i64 (x_11 + (1 : Int))))) else none) else ((roadref2_RingOf.l0 y_1 a_3 a_9 x_10 (IntKind.wrap .i64 (x_11 + (1 : Int))))) := fixF_eq roadref2_RingOf.l0_k.mono _
def roadref2_RingOf.l0_k.I : (p : roadref2_RingOf.l0_k.Pt) → ((List Int)) → Prop
  | .l0 y_1 a_3 a_9 x_10 x_11, r => ∀ (W : Nat → Prop) (h0 m0 h m : Heap) (bk_1 : Nat) (cs_1 : List Value) (A_3 : Option Addr) (n_3 c_3 : Nat) (A_9 : Option Addr) (n_9 c_9 : Nat) (O : Hold W h0 m0 h m [rV bk_1 87 cs_1, rR (aE (tell_int .i64)) A_3 c_3 a_3]) (e_1 : T_roadref2_Net.E m y_1 cs_1) (ne_3 : n_3 = List.length a_3) (zn_3 : List.length a_3 = 0 → A_3 = none) (ne_9 : n_9 = List.length a_9) (k_9 : List.length a_9 ≤ c_9) (r_9 : Rd 2 (eArr 2 (fun n : Int => Value.int .i64 n) (0 : Int)) m A_9 a_9), f45.l0 (roadref2_RingOf.post W h0 m0 r) (⟨bk_1, 0, none⟩ : Addr) A_3 n_3 c_3 A_9 n_9 c_9 x_10 x_11 h
  | .j0 y_1 a_3 x_4 a_6 a_9 x_10 x_11 b_38, r => ∀ (W : Nat → Prop) (h0 m0 h m : Heap) (bk_1 : Nat) (cs_1 : List Value) (A_3 : Option Addr) (n_3 c_3 : Nat) (A_6 : Option Addr) (n_6 c_6 : Nat) (A_9 : Option Addr) (n_9 c_9 : Nat) (O : Hold W h0 m0 h m [rV bk_1 87 cs_1, rR (aE (tell_int .i64)) A_3 c_3 a_3]) (e_1 : T_roadref2_Net.E m y_1 cs_1) (ne_3 : n_3 = List.length a_3) (zn_3 : List.length a_3 = 0 → A_3 = none) (ne_6 : n_6 = List.length a_6) (k_6 : List.length a_6 ≤ c_6) (r_6 : Rd 1 (eInt .i64) m A_6 a_6) (ne_9 : n_9 = List.length a_9) (k_9 : List.length a_9 ≤ c_9) (r_9 : Rd 2 (eArr 2 (fun n : Int => Value.int .i64 n) (0 : Int)) m A_9 a_9), f45.j0 (roadref2_RingOf.post W h0 m0 r) (⟨bk_1, 0, none⟩ : Addr) A_3 n_3 c_3 x_4 A_6 n_6 c_6 A_9 n_9 c_9 x_10 x_11 b_38 h
set_option maxRecDepth 100000 in
theorem roadref2_RingOf.l0_k.step_l0 (go : (p : roadref2_RingOf.l0_k.Pt) → Option ((List Int))) (ih : ∀ p r, go p = some r → roadref2_RingOf.l0_k.I p r) (y_1 : T_roadref2_Net) (a_3 : List Int) (a_9 : List (List Int)) (x_10 : Int) (x_11 : Int) (r : (List Int)) (e : roadref2_RingOf.l0_k.body go (.l0 y_1 a_3 a_9 x_10 x_11) = some r) : roadref2_RingOf.l0_k.I (.l0 y_1 a_3 a_9 x_10 x_11) r := by
  unfold roadref2_RingOf.l0_k.body at e
  intro W h0 m0 h m bk_1 cs_1 A_3 n_3 c_3 A_9 n_9 c_9 O e_1 ne_3 zn_3 ne_9 k_9 r_9
  subst ne_3
  subst ne_9
  refine f45.l0_in ?_
  unfold f45.l0T
  refine split_dec_e e (fun c33 e => ?_) (fun c33 e => ?_)
  · obtain ⟨y1, g2, e⟩ := bind_e e
    refine r_9.addr rfl g2 fun a3 cs4 ha5 hc6 he7 => ?_
    have qcs4_0 := he7.1
    obtain rfl : cs4 = [(Value.int .i64 (List.getD y1 0 (0 : Int))), (Value.int .i64 (List.getD y1 1 (0 : Int)))] := he7.2
    refine ⟨_, ldAn O.s hc6 rfl, ?_⟩
    refine O.new fun h8 x9 O10 => ?_
    refine ⟨_, rfl, rfl, ?_⟩
    refine O10.stA 2 rfl rfl (Flats.cons trivial (Flats.cons trivial Flats.nil)) fun h12 O13 => ?_
    refine ⟨_, ldAn (Sub.refl _) (O13.all 0 rfl) (T_roadref2_Net.T.len _ _ _ e_1), ?_⟩
    obtain ⟨y14, g15, e⟩ := bind_e e
    refine ⟨gi_le g15, gi_ltn g15 qcs4_0, ?_⟩
    refine ⟨_, ldArr0 (n := 2) (f := (fun n : Int => Value.int .i64 n)) (d := (0 : Int)) (Sub.refl _) (O13.all 2 rfl) rfl qcs4_0 g15, _, rfl, ?_⟩
    obtain ⟨y16, g17, e⟩ := bind_e e
    refine ⟨gi_le g17, gi_ltn g17 qcs4_0, ?_⟩
    refine ⟨_, ldArr0 (n := 2) (f := (fun n : Int => Value.int .i64 n)) (d := (0 : Int)) (Sub.refl _) (O13.all 2 rfl) rfl qcs4_0 g17, _, rfl, ?_⟩
    obtain ⟨y18, g19, e⟩ := bind_e e
    refine (roadref2_path.walk (Hold.start (W := No) O13.s) e_1 g19).mono ?_
    rintro _ h20 ⟨m21, A24, n25, c26, Q22, rfl, ne27, k28, r29⟩
    have O30 := Hold.nm (O13.ret Q22)
    subst ne27
    refine ⟨_, _, _, _, rfl, ?_⟩
    refine split_any_e e (fun c32 e => ?_) (fun c32 e => ?_)
    · try rw [nil_dec zn_3 (OS.nn ((O30.os 1 rfl)))]
      refine split_dec_e e (fun c31 e => ?_) (fun c31 e => ?_)
      · exact (ih _ _ e) _ _ _ _ _ _ _ _ _ _ _ _ _ _ _ _ (O30.pick [0, 1]).nm (T_roadref2_Net.T.mono _ _ _ _ Q22.S.up e_1) rfl zn_3 rfl k28 r29 rfl k_9 (r_9.sub (tell_arr (n := 2) (f := (fun n : Int => Value.int .i64 n)) (d := (0 : Int)) (fun _ => trivial)) Q22.S.up)
      · exact (ih _ _ e) _ _ _ _ _ _ _ _ _ _ _ _ _ _ _ _ (O30.pick [0, 1]).nm (T_roadref2_Net.T.mono _ _ _ _ Q22.S.up e_1) rfl zn_3 rfl k28 r29 rfl k_9 (r_9.sub (tell_arr (n := 2) (f := (fun n : Int => Value.int .i64 n)) (d := (0 : Int)) (fun _ => trivial)) Q22.S.up)
    · exact (ih _ _ e) _ _ _ _ _ _ _ _ _ _ _ _ _ _ _ _ (O30.pick [0, 1]).nm (T_roadref2_Net.T.mono _ _ _ _ Q22.S.up e_1) rfl zn_3 rfl k28 r29 rfl k_9 (r_9.sub (tell_arr (n := 2) (f := (fun n : Int => Value.int .i64 n)) (d := (0 : Int)) (fun _ => trivial)) Q22.S.up)
  · cases e
    exact ⟨_, _, _, _, O.pick [1], rfl, rfl, zn_3⟩
set_option maxRecDepth 100000 in
theorem roadref2_RingOf.l0_k.step_j0 (go : (p : roadref2_RingOf.l0_k.Pt) → Option ((List Int))) (ih : ∀ p r, go p = some r → roadref2_RingOf.l0_k.I p r) (y_1 : T_roadref2_Net) (a_3 : List Int) (x_4 : Int) (a_6 : List Int) (a_9 : List (List Int)) (x_10 : Int) (x_11 : Int) (b_38 : Bool) (r : (List Int)) (e : roadref2_RingOf.l0_k.body go (.j0 y_1 a_3 x_4 a_6 a_9 x_10 x_11 b_38) = some r) : roadref2_RingOf.l0_k.I (.j0 y_1 a_3 x_4 a_6 a_9 x_10 x_11 b_38) r := by
  unfold roadref2_RingOf.l0_k.body at e
  intro W h0 m0 h m bk_1 cs_1 A_3 n_3 c_3 A_6 n_6 c_6 A_9 n_9 c_9 O e_1 ne_3 zn_3 ne_6 k_6 r_6 ne_9 k_9 r_9
  subst ne_3
  subst ne_6
  subst ne_9
  refine f45.j0_in ?_
  unfold f45.j0T
  refine split_any_e e (fun c37 e => ?_) (fun c37 e => ?_)
  · refine O.new fun h1 x2 O3 => ?_
    refine O3.new fun h5 x6 O7 => ?_
    obtain ⟨y16, g17, e⟩ := bind_e e
    have O9 := O7.rowE (l := ([x_4] : List Int)) 2 rfl (tell_int .i64) (show CsE _ _ _ _ _ from (CsE.cons (c1 := [(Value.int .i64 x_4)]) rfl rfl CsE.nil)) rfl
    obtain ⟨m10, u11, ⟨r12, k13⟩, O14⟩ := O9.frz 2 rfl
    replace r12 : Rd 1 (eInt .i64) m10 (some ⟨(Array.size h), 0, none⟩) ([x_4] : List Int) := r12
    have O15 := O14.rowE (l := ([([x_4] : List Int), a_6] : List (List Int))) 3 rfl (tell_row (tell_int .i64)) (show CsE _ _ _ _ _ from (CsE.cons (c1 := [(Value.slice (some ⟨(Array.size h), 0, none⟩) 1 1)]) ⟨_, _, rfl, k13, r12⟩ rfl (CsE.cons (c1 := [(Value.slice A_6 (List.length a_6) c_6)]) ⟨_, _, rfl, k_6, (r_6.sub (tell_int .i64) u11)⟩ rfl CsE.nil))) rfl
    have O22 := O15.nm
    obtain ⟨m23, u24, s29, ⟨⟨r27, k28⟩, _⟩, B25, C26⟩ := O22.lend0 [3]
    replace r27 : Rd 1 (eRow 1 (eInt .i64)) m23 (some ⟨(Array.size h1), 0, none⟩) ([([x_4] : List Int), a_6] : List (List Int)) := r27
    replace k28 : List.length ([([x_4] : List Int), a_6] : List (List Int)) ≤ 2 := k28
    refine (slices_Concat_34.walk (Hold.start (W := No) s29) rfl k28 r27 g17).mono ?_
    rintro _ h18 ⟨m19, A30, n31, c32, Q20, rfl, ne33⟩
    have O35 := Hold.nm (C26 Q20 (vfs_cons (rR_vf (aE_vf (fun _ _ _ _ h => h))) vfs_nil))
    subst ne33
    refine ⟨_, _, _, rfl, ?_⟩
    obtain ⟨g36, e⟩ := guard_e e
    exact (ih _ _ e) _ _ _ _ _ _ _ _ _ _ _ _ _ (O35.pick [0, 4]).nm (T_roadref2_Net.T.mono _ _ _ _ u11 e_1) rfl (fun h => absurd h g36) rfl k_9 (r_9.sub (tell_arr (n := 2) (f := (fun n : Int => Value.int .i64 n)) (d := (0 : Int)) (fun _ => trivial)) u11)
  · exact (ih _ _ e) _ _ _ _ _ _ _ _ _ _ _ _ _ (O.pick [0, 1]).nm e_1 rfl zn_3 rfl k_9 r_9
theorem roadref2_RingOf.l0_k.all {p : roadref2_RingOf.l0_k.Pt} {r : ((List Int))} (e : roadref2_RingOf.l0_k.go p = some r) : roadref2_RingOf.l0_k.I p r := fixF_ind (β := fun _ => ((List Int))) roadref2_RingOf.l0_k.mono (I := roadref2_RingOf.l0_k.I) (fun go ih p r e => match p with
  | .l0 y_1 a_3 a_9 x_10 x_11 => roadref2_RingOf.l0_k.step_l0 go ih y_1 a_3 a_9 x_10 x_11 r e
  | .j0 y_1 a_3 x_4 a_6 a_9 x_10 x_11 b_38 => roadref2_RingOf.l0_k.step_j0 go ih y_1 a_3 x_4 a_6 a_9 x_10 x_11 b_38 r e
  ) e
theorem roadref2_RingOf.l0.walk {W : Nat → Prop} {h0 m0 h m : Heap} {bk_1 : Nat} {cs_1 : List Value} {A_3 : Option Addr} {n_3 c_3 : Nat} {A_9 : Option Addr} {n_9 c_9 : Nat} {y_1 : T_roadref2_Net} {a_3 : List Int} {a_9 : List (List Int)} {x_10 : Int} {x_11 : Int} (O : Hold W h0 m0 h m [rV bk_1 87 cs_1, rR (aE (tell_int .i64)) A_3 c_3 a_3]) (e_1 : T_roadref2_Net.E m y_1 cs_1) (ne_3 : n_3 = List.length a_3) (zn_3 : List.length a_3 = 0 → A_3 = none) (ne_9 : n_9 = List.length a_9) (k_9 : List.length a_9 ≤ c_9) (r_9 : Rd 2 (eArr 2 (fun n : Int => Value.int .i64 n) (0 : Int)) m A_9 a_9) {r : (List Int)} (e : roadref2_RingOf.l0 y_1 a_3 a_9 x_10 x_11 = some r) : f45.l0 (roadref2_RingOf.post W h0 m0 r) (⟨bk_1, 0, none⟩ : Addr) A_3 n_3 c_3 A_9 n_9 c_9 x_10 x_11 h := roadref2_RingOf.l0_k.all (p := .l0 y_1 a_3 a_9 x_10 x_11) e W h0 m0 h m bk_1 cs_1 A_3 n_3 c_3 A_9 n_9 c_9 O e_1 ne_3 zn_3 ne_9 k_9 r_9
noncomputable def roadref2_RingOf (y_0 : T_roadref2_Net) : Option ((List Int)) :=
  (roadref2_RingOf.l0 y_0 ([] : List Int) y_0.Lines (((List.length y_0.Lines) : Nat) : Int) (0 : Int))
set_option maxRecDepth 100000 in
theorem roadref2_RingOf.walk {W : Nat → Prop} {h m : Heap} {cs_0 : List Value} {y_0 : T_roadref2_Net} (O : Hold W h m h m []) (e_0 : T_roadref2_Net.E m y_0 cs_0) {r : (List Int)} (e : roadref2_RingOf y_0 = some r) : Run Try.prog 45 #[Value.agg cs_0.toArray] h (roadref2_RingOf.post W h m r) := by
  unfold roadref2_RingOf at e
  refine f45.run ?_
  unfold f45.runT
  refine O.new fun h1 x2 O3 => ?_
  obtain ⟨A5, c6, q7, k8, r9⟩ := T_roadref2_Net.g0 e_0
  refine ⟨_, ld0 (Sub.refl _) (O3.all 0 rfl) q7, _, _, _, rfl, ?_⟩
  have O10 := O3.nil (aE (tell_int .i64)) none
  have O12 := O10.nm
  exact roadref2_RingOf.l0.walk (O12.pick [0, 1]).nm e_0 rfl (fun _ => rfl) rfl k8 r9 e
def slices_Clone_79.post (W : Nat → Prop) (h0 m0 : Heap) (r : (List (List (List Int)))) (v : Value) (h : Heap) : Prop := ∃ m A0 n0 c0, Hold W h0 m0 h m [rR (aE (tell_row (tell_arr (n := 3) (f := (fun n : Int => Value.int .i64 n)) (d := (0 : Int)) (fun _ => trivial)))) A0 c0 r] ∧ v = .slice A0 n0 c0 ∧ n0 = List.length r
noncomputable def slices_Clone_79 (a0 : List (List (List Int))) : Option (List (List (List Int))) := ap 24 ([] : List (List (List Int))) a0
set_option maxRecDepth 100000 in
theorem slices_Clone_79.walk {W : Nat → Prop} {h m : Heap} {A0 : Option Addr} {n0 c0 : Nat} {a0 : List (List (List Int))} (O : Hold W h m h m []) (ne0 : n0 = List.length a0) (k0 : List.length a0 ≤ c0) (r0 : Rd 1 (eRow 3 (eArr 3 (fun n : Int => Value.int .i64 n) (0 : Int))) m A0 a0) {r : List (List (List Int))} (e : slices_Clone_79 a0 = some r) : Run Try.prog 79 #[Value.slice A0 n0 c0] h (slices_Clone_79.post W h m r) := by
  unfold slices_Clone_79 at e
  subst ne0
  refine f79.run ?_
  unfold f79.runT
  cases A0 with
  | none =>
    refine split_t ?_
    obtain rfl := Rd.void r0
    obtain rfl : [] = r := by have := (ap_e e).2; simpa using this
    exact ⟨m, none, 0, 0, O.nil (aE (tell_row (tell_arr (n := 3) (f := (fun n : Int => Value.int .i64 n)) (d := (0 : Int)) (fun _ => trivial)))) none, rfl, rfl⟩
  | some a =>
    refine split_f ?_
    refine O.new fun h1 x1 O1 => ?_
    refine O1.appE0 (tell_row (tell_arr (n := 3) (f := (fun n : Int => Value.int .i64 n)) (d := (0 : Int)) (fun _ => trivial))) rfl rfl (r0.srcE (tell_row (tell_arr (n := 3) (f := (fun n : Int => Value.int .i64 n)) (d := (0 : Int)) (fun _ => trivial))) O1.s rfl) (by decide) e fun A4 c4 h4 x4 O4 => ?_
    refine ⟨_, _, _, rfl, ?_⟩
    exact ⟨m, _, _, _, O4.pick [1], rfl, rfl⟩
def roadref2_Going.post (W : Nat → Prop) (h0 m0 : Heap) (r : (List Int) × (List Int)) (v : Value) (h : Heap) : Prop := ∃ m A0 n0 c0 A1 n1 c1, Hold W h0 m0 h m [rR (aE (tell_int .i64)) A0 c0 r.1, rR (aE (tell_int .i64)) A1 c1 r.2] ∧ v = .tuple #[.slice A0 n0 c0, .slice A1 n1 c1] ∧ n0 = List.length r.1 ∧ n1 = List.length r.2
inductive roadref2_Going.l0_k.Pt where
  | l0 (a_1 : List Int) (y_2 : T_roadref2_Net) (a_6 : List (List (List Int))) (a_7 : List Int) (a_8 : List Int)
  | l1 (a_1 : List Int) (y_2 : T_roadref2_Net) (a_6 : List (List (List Int))) (a_7 : List Int) (a_8 : List Int) (a_9 : List Int) (a_25 : List (List Int)) (x_26 : Int) (x_27 : Int)
  | j1 (a_1 : List Int) (y_2 : T_roadref2_Net) (a_6 : List (List (List Int))) (a_7 : List Int) (a_8 : List Int) (a_9 : List Int) (x_10 : Int) (a_25 : List (List Int)) (x_26 : Int) (x_27 : Int) (b_88 : Bool)
  | j0 (a_1 : List Int) (y_2 : T_roadref2_Net) (a_6 : List (List (List Int))) (a_7 : List Int) (a_8 : List Int) (a_9 : List Int) (x_14 : Int)
  | l2 (a_1 : List Int) (y_2 : T_roadref2_Net) (a_6 : List (List (List Int))) (a_7 : List Int) (a_8 : List Int) (a_9 : List Int) (x_14 : Int) (y_120 : (List Int)) (x_121 : Int)
noncomputable def roadref2_Going.l0_k.body (go : (p : roadref2_Going.l0_k.Pt) → Option ((List Int) × (List Int))) : (p : roadref2_Going.l0_k.Pt) → Option ((List Int) × (List Int))
  | .l0 a_1 y_2 a_6 a_7 a_8 => (go (.l1 a_1 y_2 a_6 a_7 a_8 ([] : List Int) y_2.Lines (((List.length y_2.Lines) : Nat) : Int) (0 : Int)))
  | .l1 a_1 y_2 a_6 a_7 a_8 a_9 a_25 x_26 x_27 => if x_27 < x_26 then (Option.bind (gi a_25 x_27) fun y1 => Option.bind (gi y1 (0 : Int)) fun y14 => Option.bind (gi y1 (1 : Int)) fun y16 => Option.bind (gi a_6 y14) fun y18 => Option.bind (gi a_6 y16) fun y25 => if (((List.length y18) : Nat) : Int) > (0 : Int) then (if (((List.length y25) : Nat) : Int) > (0 : Int) then (Option.bind (gi y18 (0 : Int)) fun y32 => Option.bind (gi y32 (0 : Int)) fun y39 => if y39 = x_27 then (Option.bind (gi y25 (0 : Int)) fun y41 => Option.bind (gi y41 (0 : Int)) fun y48 => if y48 = x_27 then (Option.bind (gi y18 (0 : Int)) fun y50 => Option.bind (gi y50 (2 : Int)) fun y57 => Option.bind (gi y25 (0 : Int)) fun y59 => Option.bind (gi y59 (2 : Int)) fun y66 => if y57 = y66 then (Option.bind (gi y18 (0 : Int)) fun y68 => Option.bind (gi y68 (1 : Int)) fun y75 => Option.bind (gi y25 (0 : Int)) fun y77 => Option.bind (gi y77 (1 : Int)) fun y84 => (go (.j1 a_1 y_2 a_6 a_7 a_8 a_9 x_27 a_25 x_26 x_27 ((IntKind.wrap .i64 (y75 + y84)) == (1 : Int))))) else ((go (.j1 a_1 y_2 a_6 a_7 a_8 a_9 x_27 a_25 x_26 x_27 false)))) else ((go (.j1 a_1 y_2 a_6 a_7 a_8 a_9 x_27 a_25 x_26 x_27 false)))) else ((go (.j1 a_1 y_2 a_6 a_7 a_8 a_9 x_27 a_25 x_26 x_27 false)))) else ((go (.j1 a_1 y_2 a_6 a_7 a_8 a_9 x_27 a_25 x_26 x_27 false)))) else ((go (.j1 a_1 y_2 a_6 a_7 a_8 a_9 x_27 a_25 x_26 x_27 false)))) else (if (((List.length a_9) : Nat) : Int) = (0 : Int) then (some (a_8, a_7)) else (if (((List.length a_1) : Nat) : Int) > (0 : Int) then (Option.bind (gi a_1 (0 : Int)) fun y97 => if (IntKind.wrap .u64 (((List.length a_9) : Nat) : Int)) ≠ 0 then (Option.bind (sls a_1 (1 : Int) (((List.length a_1) : Nat) : Int)) fun l105 => (go (.j0 l105 y_2 a_6 a_7 a_8 a_9 (IntKind.wrap .i64 (Int.tmod (IntKind.wrap .u64 y97) (IntKind.wrap .u64 (((List.length a_9) : Nat) : Int))))))) else none) else ((go (.j0 a_1 y_2 a_6 a_7 a_8 a_9 (0 : Int))))))
  | .j1 a_1 y_2 a_6 a_7 a_8 a_9 x_10 a_25 x_26 x_27 b_88 => if b_88 = true then (Option.bind (ap 8 a_9 ([x_10] : List Int)) fun l5 => (go (.l1 a_1 y_2 a_6 a_7 a_8 l5 a_25 x_26 (IntKind.wrap .i64 (x_27 + (1 : Int)))))) else ((go (.l1 a_1 y_2 a_6 a_7 a_8 a_9 a_25 x_26 (IntKind.wrap .i64 (x_27 + (1 : Int))))))
  | .j0 a_1 y_2 a_6 a_7 a_8 a_9 x_14 => Option.bind (gi a_9 x_14) fun y1 => Option.bind (gi y_2.Lines y1) fun y13 => (go (.l2 a_1 y_2 a_6 a_7 a_8 a_9 x_14 y13 (0 : Int)))
  | .l2 a_1 y_2 a_6 a_7 a_8 a_9 x_14 y_120 x_121 => if x_121 < (2 : Int) then (Option.bind (gi y_120 x_121) fun y1 => Option.bind (gi a_6 y1) fun y3 => Option.bind (sls y3 (1 : Int) (((List.length y3) : Nat) : Int)) fun l10 => Option.bind (gi a_6 y1) fun y15 => Option.bind (some (List.set a_6 (Int.toNat y1) l10)) fun l24 => Option.bind (gi a_7 y1) fun y26 => Option.bind (gi a_7 y1) fun y33 => Option.bind (some (List.set a_7 (Int.toNat y1) (IntKind.wrap .i64 (y26 + (1 : Int))))) fun l42 => (go (.l2 a_1 y_2 l24 l42 a_8 a_9 x_14 y_120 (IntKind.wrap .i64 (x_121 + (1 : Int)))))) else (Option.bind (gi a_9 x_14) fun y45 => Option.bind (ap 8 a_8 ([y45] : List Int)) fun l56 => (go (.l0 a_1 y_2 a_6 a_7 l56)))
theorem roadref2_Going.l0_k.mono : MonoF (β := fun _ => ((List Int) × (List Int))) roadref2_Going.l0_k.body := fun f g hfg p => match p with
  | .l0 a_1 y_2 a_6 a_7 a_8 => (hfg _)
  | .l1 a_1 y_2 a_6 a_7 a_8 a_9 a_25 x_26 x_27 => LeO.ite (LeO.bind (LeO.refl _) fun y1 => LeO.bind (LeO.refl _) fun y14 => LeO.bind (LeO.refl _) fun y16 => LeO.bind (LeO.refl _) fun y18 => LeO.bind (LeO.refl _) fun y25 => LeO.ite (LeO.ite (LeO.bind (LeO.refl _) fun y32 => LeO.bind (LeO.refl _) fun y39 => LeO.ite (LeO.bind (LeO.refl _) fun y41 => LeO.bind (LeO.refl _) fun y48 => LeO.ite (LeO.bind (LeO.refl _) fun y50 => LeO.bind (LeO.refl _) fun y57 => LeO.bind (LeO.refl _) fun y59 => LeO.bind (LeO.refl _) fun y66 => LeO.ite (LeO.bind (LeO.refl _) fun y68 => LeO.bind (LeO.refl _) fun y75 => LeO.bind (LeO.refl _) fun y77 => LeO.bind (LeO.refl _) fun y84 => (hfg _)) ((hfg _))) ((hfg _))) ((hfg _))) ((hfg _))) ((hfg _))) (LeO.ite (LeO.refl _) (LeO.ite (LeO.bind (LeO.refl _) fun y97 => LeO.ite (LeO.bind (LeO.refl _) fun l105 => (hfg _)) (LeO.refl _)) ((hfg _))))
  | .j1 a_1 y_2 a_6 a_7 a_8 a_9 x_10 a_25 x_26 x_27 b_88 => LeO.ite (LeO.bind (LeO.refl _) fun l5 => (hfg _)) ((hfg _))
  | .j0 a_1 y_2 a_6 a_7 a_8 a_9 x_14 => LeO.bind (LeO.refl _) fun y1 => LeO.bind (LeO.refl _) fun y13 => (hfg _)
  | .l2 a_1 y_2 a_6 a_7 a_8 a_9 x_14 y_120 x_121 => LeO.ite (LeO.bind (LeO.refl _) fun y1 => LeO.bind (LeO.refl _) fun y3 => LeO.bind (LeO.refl _) fun l10 => LeO.bind (LeO.refl _) fun y15 => LeO.bind (LeO.refl _) fun l24 => LeO.bind (LeO.refl _) fun y26 => LeO.bind (LeO.refl _) fun y33 => LeO.bind (LeO.refl _) fun l42 => (hfg _)) (LeO.bind (LeO.refl _) fun y45 => LeO.bind (LeO.refl _) fun l56 => (hfg _))
noncomputable def roadref2_Going.l0_k.go (p : roadref2_Going.l0_k.Pt) : Option ((List Int) × (List Int)) := fixF (β := fun _ => ((List Int) × (List Int))) roadref2_Going.l0_k.body p
noncomputable def roadref2_Going.l0 (a_1 : List Int) (y_2 : T_roadref2_Net) (a_6 : List (List (List Int))) (a_7 : List Int) (a_8 : List Int) : Option ((List Int) × (List Int)) := roadref2_Going.l0_k.go (.l0 a_1 y_2 a_6 a_7 a_8)
noncomputable def roadref2_Going.l1 (a_1 : List Int) (y_2 : T_roadref2_Net) (a_6 : List (List (List Int))) (a_7 : List Int) (a_8 : List Int) (a_9 : List Int) (a_25 : List (List Int)) (x_26 : Int) (x_27 : Int) : Option ((List Int) × (List Int)) := roadref2_Going.l0_k.go (.l1 a_1 y_2 a_6 a_7 a_8 a_9 a_25 x_26 x_27)
noncomputable def roadref2_Going.j1 (a_1 : List Int) (y_2 : T_roadref2_Net) (a_6 : List (List (List Int))) (a_7 : List Int) (a_8 : List Int) (a_9 : List Int) (x_10 : Int) (a_25 : List (List Int)) (x_26 : Int) (x_27 : Int) (b_88 : Bool) : Option ((List Int) × (List Int)) := roadref2_Going.l0_k.go (.j1 a_1 y_2 a_6 a_7 a_8 a_9 x_10 a_25 x_26 x_27 b_88)
noncomputable def roadref2_Going.j0 (a_1 : List Int) (y_2 : T_roadref2_Net) (a_6 : List (List (List Int))) (a_7 : List Int) (a_8 : List Int) (a_9 : List Int) (x_14 : Int) : Option ((List Int) × (List Int)) := roadref2_Going.l0_k.go (.j0 a_1 y_2 a_6 a_7 a_8 a_9 x_14)
noncomputable def roadref2_Going.l2 (a_1 : List Int) (y_2 : T_roadref2_Net) (a_6 : List (List (List Int))) (a_7 : List Int) (a_8 : List Int) (a_9 : List Int) (x_14 : Int) (y_120 : (List Int)) (x_121 : Int) : Option ((List Int) × (List Int)) := roadref2_Going.l0_k.go (.l2 a_1 y_2 a_6 a_7 a_8 a_9 x_14 y_120 x_121)
theorem roadref2_Going.l0_eq (a_1 : List Int) (y_2 : T_roadref2_Net) (a_6 : List (List (List Int))) (a_7 : List Int) (a_8 : List Int) : roadref2_Going.l0 a_1 y_2 a_6 a_7 a_8 = (roadref2_Going.l1 a_1 y_2 a_6 a_7 a_8 ([] : List Int) y_2.Lines (((List.length y_2.Lines) : Nat) : Int) (0 : Int)) := fixF_eq roadref2_Going.l0_k.mono _
theorem roadref2_Going.l1_eq (a_1 : List Int) (y_2 : T_roadref2_Net) (a_6 : List (List (List Int))) (a_7 : List Int) (a_8 : List Int) (a_9 : List Int) (a_25 : List (List Int)) (x_26 : Int) (x_27 : Int) : roadref2_Going.l1 a_1 y_2 a_6 a_7 a_8 a_9 a_25 x_26 x_27 = if x_27 < x_26 then (Option.bind (gi a_25 x_27) fun y1 => Option.bind (gi y1 (0 : Int)) fun y14 => Option.bind (gi y1 (1 : Int)) fun y16 => Option.bind (gi a_6 y14) fun y18 => Option.bind (gi a_6 y16) fun y25 => if (((List.length y18) : Nat) : Int) > (0 : Int) then (if (((List.length y25) : Nat) : Int) > (0 : Int) then (Option.bind (gi y18 (0 : Int)) fun y32 => Option.bind (gi y32 (0 : Int)) fun y39 => if y39 = x_27 then (Option.bind (gi y25 (0 : Int)) fun y41 => Option.bind (gi y41 (0 : Int)) fun y48 => if y48 = x_27 then (Option.bind (gi y18 (0 : Int)) fun y50 => Option.bind (gi y50 (2 : Int)) fun y57 => Option.bind (gi y25 (0 : Int)) fun y59 => Option.bind (gi y59 (2 : Int)) fun y66 => if y57 = y66 then (Option.bind (gi y18 (0 : Int)) fun y68 => Option.bind (gi y68 (1 : Int)) fun y75 => Option.bind (gi y25 (0 : Int)) fun y77 => Option.bind (gi y77 (1 : Int)) fun y84 => (roadref2_Going.j1 a_1 y_2 a_6 a_7 a_8 a_9 x_27 a_25 x_26 x_27 ((IntKind.wrap .i64 (y75 + y84)) == (1 : Int)))) else ((roadref2_Going.j1 a_1 y_2 a_6 a_7 a_8 a_9 x_27 a_25 x_26 x_27 false))) else ((roadref2_Going.j1 a_1 y_2 a_6 a_7 a_8 a_9 x_27 a_25 x_26 x_27 false))) else ((roadref2_Going.j1 a_1 y_2 a_6 a_7 a_8 a_9 x_27 a_25 x_26 x_27 false))) else ((roadref2_Going.j1 a_1 y_2 a_6 a_7 a_8 a_9 x_27 a_25 x_26 x_27 false))) else ((roadref2_Going.j1 a_1 y_2 a_6 a_7 a_8 a_9 x_27 a_25 x_26 x_27 false))) else (if (((List.length a_9) : Nat) : Int) = (0 : Int) then (some (a_8, a_7)) else (if (((List.length a_1) : Nat) : Int) > (0 : Int) then (Option.bind (gi a_1 (0 : Int)) fun y97 => if (IntKind.wrap .u64 (((List.length a_9) : Nat) : Int)) ≠ 0 then (Option.bind (sls a_1 (1 : Int) (((List.length a_1) : Nat) : Int)) fun l105 => (roadref2_Going.j0 l105 y_2 a_6 a_7 a_8 a_9 (IntKind.wrap .i64 (Int.tmod (IntKind.wrap .u64 y97) (IntKind.wrap .u64 (((List.length a_9) : Nat) : Int)))))) else none) else ((roadref2_Going.j0 a_1 y_2 a_6 a_7 a_8 a_9 (0 : Int))))) := fixF_eq roadref2_Going.l0_k.mono _
theorem roadref2_Going.j1_eq (a_1 : List Int) (y_2 : T_roadref2_Net) (a_6 : List (List (List Int))) (a_7 : List Int) (a_8 : List Int) (a_9 : List Int) (x_10 : Int) (a_25 : List (List Int)) (x_26 : Int) (x_27 : Int) (b_88 : Bool) : roadref2_Going.j1 a_1 y_2 a_6 a_7 a_8 a_9 x_10 a_25 x_26 x_27 b_88 = if b_88 = true then (Option.bind (ap 8 a_9 ([x_10] : List Int)) fun l5 => (roadref2_Going.l1 a_1 y_2 a_6 a_7 a_8 l5 a_25 x_26 (IntKind.wrap .i64 (x_27 + (1 : Int))))) else ((roadref2_Going.l1 a_1 y_2 a_6 a_7 a_8 a_9 a_25 x_26 (IntKind.wrap .i64 (x_27 + (1 : Int))))) := fixF_eq roadref2_Going.l0_k.mono _
theorem roadref2_Going.j0_eq (a_1 : List Int) (y_2 : T_roadref2_Net) (a_6 : List (List (List Int))) (a_7 : List Int) (a_8 : List Int) (a_9 : List Int) (x_14 : Int) : roadref2_Going.j0 a_1 y_2 a_6 a_7 a_8 a_9 x_14 = Option.bind (gi a_9 x_14) fun y1 => Option.bind (gi y_2.Lines y1) fun y13 => (roadref2_Going.l2 a_1 y_2 a_6 a_7 a_8 a_9 x_14 y13 (0 : Int)) := fixF_eq roadref2_Going.l0_k.mono _
theorem roadref2_Going.l2_eq (a_1 : List Int) (y_2 : T_roadref2_Net) (a_6 : List (List (List Int))) (a_7 : List Int) (a_8 : List Int) (a_9 : List Int) (x_14 : Int) (y_120 : (List Int)) (x_121 : Int) : roadref2_Going.l2 a_1 y_2 a_6 a_7 a_8 a_9 x_14 y_120 x_121 = if x_121 < (2 : Int) then (Option.bind (gi y_120 x_121) fun y1 => Option.bind (gi a_6 y1) fun y3 => Option.bind (sls y3 (1 : Int) (((List.length y3) : Nat) : Int)) fun l10 => Option.bind (gi a_6 y1) fun y15 => Option.bind (some (List.set a_6 (Int.toNat y1) l10)) fun l24 => Option.bind (gi a_7 y1) fun y26 => Option.bind (gi a_7 y1) fun y33 => Option.bind (some (List.set a_7 (Int.toNat y1) (IntKind.wrap .i64 (y26 + (1 : Int))))) fun l42 => (roadref2_Going.l2 a_1 y_2 l24 l42 a_8 a_9 x_14 y_120 (IntKind.wrap .i64 (x_121 + (1 : Int))))) else (Option.bind (gi a_9 x_14) fun y45 => Option.bind (ap 8 a_8 ([y45] : List Int)) fun l56 => (roadref2_Going.l0 a_1 y_2 a_6 a_7 l56)) := fixF_eq roadref2_Going.l0_k.mono _
def roadref2_Going.l0_k.I : (p : roadref2_Going.l0_k.Pt) → ((List Int) × (List Int)) → Prop
  | .l0 a_1 y_2 a_6 a_7 a_8, r => ∀ (W : Nat → Prop) (h0 m0 h m : Heap) (A_1 : Option Addr) (n_1 c_1 : Nat) (bk_2 : Nat) (cs_2 : List Value) (A_6 : Option Addr) (n_6 c_6 : Nat) (A_7 : Option Addr) (n_7 c_7 : Nat) (A_8 : Option Addr) (n_8 c_8 : Nat) (O : Hold W h0 m0 h m [rV bk_2 87 cs_2, rR (aE (tell_row (tell_arr (n := 3) (f := (fun n : Int => Value.int .i64 n)) (d := (0 : Int)) (fun _ => trivial)))) A_6 c_6 a_6, rR (aE (tell_int .i64)) A_7 c_7 a_7, rR (aE (tell_int .i64)) A_8 c_8 a_8]) (ne_1 : n_1 = List.length a_1) (k_1 : List.length a_1 ≤ c_1) (r_1 : Rd 1 (eInt .i64) m A_1 a_1) (e_2 : T_roadref2_Net.E m y_2 cs_2) (ne_6 : n_6 = List.length a_6) (ne_7 : n_7 = List.length a_7) (ne_8 : n_8 = List.length a_8), f47.l0 (roadref2_Going.post W h0 m0 r) A_1 n_1 c_1 (⟨bk_2, 0, none⟩ : Addr) A_6 n_6 c_6 A_7 n_7 c_7 A_8 n_8 c_8 h
  | .l1 a_1 y_2 a_6 a_7 a_8 a_9 a_25 x_26 x_27, r => ∀ (W : Nat → Prop) (h0 m0 h m : Heap) (A_1 : Option Addr) (n_1 c_1 : Nat) (bk_2 : Nat) (cs_2 : List Value) (A_6 : Option Addr) (n_6 c_6 : Nat) (A_7 : Option Addr) (n_7 c_7 : Nat) (A_8 : Option Addr) (n_8 c_8 : Nat) (A_9 : Option Addr) (n_9 c_9 : Nat) (A_25 : Option Addr) (n_25 c_25 : Nat) (O : Hold W h0 m0 h m [rV bk_2 87 cs_2, rR (aE (tell_row (tell_arr (n := 3) (f := (fun n : Int => Value.int .i64 n)) (d := (0 : Int)) (fun _ => trivial)))) A_6 c_6 a_6, rR (aE (tell_int .i64)) A_7 c_7 a_7, rR (aE (tell_int .i64)) A_8 c_8 a_8, rR (aE (tell_int .i64)) A_9 c_9 a_9]) (ne_1 : n_1 = List.length a_1) (k_1 : List.length a_1 ≤ c_1) (r_1 : Rd 1 (eInt .i64) m A_1 a_1) (e_2 : T_roadref2_Net.E m y_2 cs_2) (ne_6 : n_6 = List.length a_6) (ne_7 : n_7 = List.length a_7) (ne_8 : n_8 = List.length a_8) (ne_9 : n_9 = List.length a_9) (ne_25 : n_25 = List.length a_25) (k_25 : List.length a_25 ≤ c_25) (r_25 : Rd 2 (eArr 2 (fun n : Int => Value.int .i64 n) (0 : Int)) m A_25 a_25), f47.l1 (roadref2_Going.post W h0 m0 r) A_1 n_1 c_1 (⟨bk_2, 0, none⟩ : Addr) A_6 n_6 c_6 A_7 n_7 c_7 A_8 n_8 c_8 A_9 n_9 c_9 A_25 n_25 c_25 x_26 x_27 h
  | .j1 a_1 y_2 a_6 a_7 a_8 a_9 x_10 a_25 x_26 x_27 b_88, r => ∀ (W : Nat → Prop) (h0 m0 h m : Heap) (A_1 : Option Addr) (n_1 c_1 : Nat) (bk_2 : Nat) (cs_2 : List Value) (A_6 : Option Addr) (n_6 c_6 : Nat) (A_7 : Option Addr) (n_7 c_7 : Nat) (A_8 : Option Addr) (n_8 c_8 : Nat) (A_9 : Option Addr) (n_9 c_9 : Nat) (A_25 : Option Addr) (n_25 c_25 : Nat) (O : Hold W h0 m0 h m [rV bk_2 87 cs_2, rR (aE (tell_row (tell_arr (n := 3) (f := (fun n : Int => Value.int .i64 n)) (d := (0 : Int)) (fun _ => trivial)))) A_6 c_6 a_6, rR (aE (tell_int .i64)) A_7 c_7 a_7, rR (aE (tell_int .i64)) A_8 c_8 a_8, rR (aE (tell_int .i64)) A_9 c_9 a_9]) (ne_1 : n_1 = List.length a_1) (k_1 : List.length a_1 ≤ c_1) (r_1 : Rd 1 (eInt .i64) m A_1 a_1) (e_2 : T_roadref2_Net.E m y_2 cs_2) (ne_6 : n_6 = List.length a_6) (ne_7 : n_7 = List.length a_7) (ne_8 : n_8 = List.length a_8) (ne_9 : n_9 = List.length a_9) (ne_25 : n_25 = List.length a_25) (k_25 : List.length a_25 ≤ c_25) (r_25 : Rd 2 (eArr 2 (fun n : Int => Value.int .i64 n) (0 : Int)) m A_25 a_25), f47.j1 (roadref2_Going.post W h0 m0 r) A_1 n_1 c_1 (⟨bk_2, 0, none⟩ : Addr) A_6 n_6 c_6 A_7 n_7 c_7 A_8 n_8 c_8 A_9 n_9 c_9 x_10 A_25 n_25 c_25 x_26 x_27 b_88 h
  | .j0 a_1 y_2 a_6 a_7 a_8 a_9 x_14, r => ∀ (W : Nat → Prop) (h0 m0 h m : Heap) (A_1 : Option Addr) (n_1 c_1 : Nat) (bk_2 : Nat) (cs_2 : List Value) (A_6 : Option Addr) (n_6 c_6 : Nat) (A_7 : Option Addr) (n_7 c_7 : Nat) (A_8 : Option Addr) (n_8 c_8 : Nat) (A_9 : Option Addr) (n_9 c_9 : Nat) (O : Hold W h0 m0 h m [rV bk_2 87 cs_2, rR (aE (tell_row (tell_arr (n := 3) (f := (fun n : Int => Value.int .i64 n)) (d := (0 : Int)) (fun _ => trivial)))) A_6 c_6 a_6, rR (aE (tell_int .i64)) A_7 c_7 a_7, rR (aE (tell_int .i64)) A_8 c_8 a_8, rR (aE (tell_int .i64)) A_9 c_9 a_9]) (ne_1 : n_1 = List.length a_1) (k_1 : List.length a_1 ≤ c_1) (r_1 : Rd 1 (eInt .i64) m A_1 a_1) (e_2 : T_roadref2_Net.E m y_2 cs_2) (ne_6 : n_6 = List.length a_6) (ne_7 : n_7 = List.length a_7) (ne_8 : n_8 = List.length a_8) (ne_9 : n_9 = List.length a_9), f47.j0 (roadref2_Going.post W h0 m0 r) A_1 n_1 c_1 (⟨bk_2, 0, none⟩ : Addr) A_6 n_6 c_6 A_7 n_7 c_7 A_8 n_8 c_8 A_9 n_9 c_9 x_14 h
  | .l2 a_1 y_2 a_6 a_7 a_8 a_9 x_14 y_120 x_121, r => ∀ (W : Nat → Prop) (h0 m0 h m : Heap) (A_1 : Option Addr) (n_1 c_1 : Nat) (bk_2 : Nat) (cs_2 : List Value) (A_6 : Option Addr) (n_6 c_6 : Nat) (A_7 : Option Addr) (n_7 c_7 : Nat) (A_8 : Option Addr) (n_8 c_8 : Nat) (A_9 : Option Addr) (n_9 c_9 : Nat) (cs_120 : List Value) (O : Hold W h0 m0 h m [rV bk_2 87 cs_2, rR (aE (tell_row (tell_arr (n := 3) (f := (fun n : Int => Value.int .i64 n)) (d := (0 : Int)) (fun _ => trivial)))) A_6 c_6 a_6, rR (aE (tell_int .i64)) A_7 c_7 a_7, rR (aE (tell_int .i64)) A_8 c_8 a_8, rR (aE (tell_int .i64)) A_9 c_9 a_9]) (ne_1 : n_1 = List.length a_1) (k_1 : List.length a_1 ≤ c_1) (r_1 : Rd 1 (eInt .i64) m A_1 a_1) (e_2 : T_roadref2_Net.E m y_2 cs_2) (ne_6 : n_6 = List.length a_6) (ne_7 : n_7 = List.length a_7) (ne_8 : n_8 = List.length a_8) (ne_9 : n_9 = List.length a_9) (e_120 : (eArr 2 (fun n : Int => Value.int .i64 n) (0 : Int)) m y_120 cs_120), f47.l2 (roadref2_Going.post W h0 m0 r) A_1 n_1 c_1 (⟨bk_2, 0, none⟩ : Addr) A_6 n_6 c_6 A_7 n_7 c_7 A_8 n_8 c_8 A_9 n_9 c_9 x_14 (Value.agg cs_120.toArray) x_121 h
set_option maxRecDepth 100000 in
theorem roadref2_Going.l0_k.step_l0 (go : (p : roadref2_Going.l0_k.Pt) → Option ((List Int) × (List Int))) (ih : ∀ p r, go p = some r → roadref2_Going.l0_k.I p r) (a_1 : List Int) (y_2 : T_roadref2_Net) (a_6 : List (List (List Int))) (a_7 : List Int) (a_8 : List Int) (r : (List Int) × (List Int)) (e : roadref2_Going.l0_k.body go (.l0 a_1 y_2 a_6 a_7 a_8) = some r) : roadref2_Going.l0_k.I (.l0 a_1 y_2 a_6 a_7 a_8) r := by
  unfold roadref2_Going.l0_k.body at e
  intro W h0 m0 h m A_1 n_1 c_1 bk_2 cs_2 A_6 n_6 c_6 A_7 n_7 c_7 A_8 n_8 c_8 O ne_1 k_1 r_1 e_2 ne_6 ne_7 ne_8
  subst ne_1
  subst ne_6
  subst ne_7
  subst ne_8
  refine f47.l0_in ?_
  unfold f47.l0T
  obtain ⟨A1, c2, q3, k4, r5⟩ := T_roadref2_Net.g0 e_2
  refine ⟨_, ld0 (Sub.refl _) (O.all 0 rfl) q3, _, _, _, rfl, ?_⟩
  have O6 := O.nil (aE (tell_int .i64)) none
  have O8 := O6.nm
  exact (ih _ _ e) _ _ _ _ _ _ _ _ _ _ _ _ _ _ _ _ _ _ _ _ _ _ _ _ _ (O8.pick [0, 1, 2, 3, 4]).nm rfl k_1 r_1 e_2 rfl rfl rfl rfl rfl k4 r5
set_option maxHeartbeats 4000000 in
set_option maxRecDepth 100000 in
theorem roadref2_Going.l0_k.step_l1 (go : (p : roadref2_Going.l0_k.Pt) → Option ((List Int) × (List Int))) (ih : ∀ p r, go p = some r → roadref2_Going.l0_k.I p r) (a_1 : List Int) (y_2 : T_roadref2_Net) (a_6 : List (List (List Int))) (a_7 : List Int) (a_8 : List Int) (a_9 : List Int) (a_25 : List (List Int)) (x_26 : Int) (x_27 : Int) (r : (List Int) × (List Int)) (e : roadref2_Going.l0_k.body go (.l1 a_1 y_2 a_6 a_7 a_8 a_9 a_25 x_26 x_27) = some r) : roadref2_Going.l0_k.I (.l1 a_1 y_2 a_6 a_7 a_8 a_9 a_25 x_26 x_27) r := by
  unfold roadref2_Going.l0_k.body at e
  intro W h0 m0 h m A_1 n_1 c_1 bk_2 cs_2 A_6 n_6 c_6 A_7 n_7 c_7 A_8 n_8 c_8 A_9 n_9 c_9 A_25 n_25 c_25 O ne_1 k_1 r_1 e_2 ne_6 ne_7 ne_8 ne_9 ne_25 k_25 r_25
  subst ne_1
  subst ne_6
  subst ne_7
  subst ne_8
  subst ne_9
  subst ne_25
  refine f47.l1_in ?_
  unfold f47.l1T
  refine split_dec_e e (fun c112 e => ?_) (fun c112 e => ?_)
  · obtain ⟨y1, g2, e⟩ := bind_e e
    refine r_25.addr rfl g2 fun a3 cs4 ha5 hc6 he7 => ?_
    have qcs4_0 := he7.1
    obtain rfl : cs4 = [(Value.int .i64 (List.getD y1 0 (0 : Int))), (Value.int .i64 (List.getD y1 1 (0 : Int)))] := he7.2
    refine ⟨_, ldAn O.s hc6 rfl, ?_⟩
    refine O.new fun h8 x9 O10 => ?_
    refine ⟨_, rfl, rfl, ?_⟩
    refine O10.stA 5 rfl rfl (Flats.cons trivial (Flats.cons trivial Flats.nil)) fun h12 O13 => ?_
    obtain ⟨y14, g15, e⟩ := bind_e e
    refine ⟨gi_le g15, gi_ltn g15 qcs4_0, ?_⟩
    obtain ⟨y16, g17, e⟩ := bind_e e
    refine ⟨gi_le g17, gi_ltn g17 qcs4_0, ?_⟩
    refine ⟨_, ldArr0 (n := 2) (f := (fun n : Int => Value.int .i64 n)) (d := (0 : Int)) (Sub.refl _) (O13.all 5 rfl) rfl qcs4_0 g15, _, rfl, ?_⟩
    obtain ⟨y18, g19, e⟩ := bind_e e
    refine (O13.os 1 rfl).addr rfl g19 fun a20 cs21 ha22 hc23 he24 => ?_
    obtain ⟨Acs21_0, ccs21_0, rfl, kcs21_0, rcs21_0⟩ := id he24
    refine ⟨_, ld0 (Sub.refl _) hc23 rfl, _, _, _, rfl, ?_⟩
    refine ⟨_, ldArr0 (n := 2) (f := (fun n : Int => Value.int .i64 n)) (d := (0 : Int)) (Sub.refl _) (O13.all 5 rfl) rfl qcs4_0 g17, _, rfl, ?_⟩
    obtain ⟨y25, g26, e⟩ := bind_e e
    refine (O13.os 1 rfl).addr rfl g26 fun a27 cs28 ha29 hc30 he31 => ?_
    obtain ⟨Acs28_0, ccs28_0, rfl, kcs28_0, rcs28_0⟩ := id he31
    refine ⟨_, ld0 (Sub.refl _) hc30 rfl, _, _, _, rfl, ?_⟩
    refine split_dec_e e (fun c96 e => ?_) (fun c96 e => ?_)
    · refine split_dec_e e (fun c94 e => ?_) (fun c94 e => ?_)
      · obtain ⟨y32, g33, e⟩ := bind_e e
        refine rcs21_0.addr rfl g33 fun a34 cs35 ha36 hc37 he38 => ?_
        have qcs35_0 := he38.1
        obtain rfl : cs35 = [(Value.int .i64 (List.getD y32 0 (0 : Int))), (Value.int .i64 (List.getD y32 1 (0 : Int))), (Value.int .i64 (List.getD y32 2 (0 : Int)))] := he38.2
        obtain ⟨y39, g40, e⟩ := bind_e e
        refine ⟨gi_le g40, gi_ltn g40 qcs35_0, ?_⟩
        refine ⟨_, ldArr0 (n := 3) (f := (fun n : Int => Value.int .i64 n)) (d := (0 : Int)) O13.s hc37 rfl qcs35_0 g40, _, rfl, ?_⟩
        refine split_eq_e e (fun c92 e => ?_) (fun c92 e => ?_)
        · obtain ⟨y41, g42, e⟩ := bind_e e
          refine rcs28_0.addr rfl g42 fun a43 cs44 ha45 hc46 he47 => ?_
          have qcs44_0 := he47.1
          obtain rfl : cs44 = [(Value.int .i64 (List.getD y41 0 (0 : Int))), (Value.int .i64 (List.getD y41 1 (0 : Int))), (Value.int .i64 (List.getD y41 2 (0 : Int)))] := he47.2
          obtain ⟨y48, g49, e⟩ := bind_e e
          refine ⟨gi_le g49, gi_ltn g49 qcs44_0, ?_⟩
          refine ⟨_, ldArr0 (n := 3) (f := (fun n : Int => Value.int .i64 n)) (d := (0 : Int)) O13.s hc46 rfl qcs44_0 g49, _, rfl, ?_⟩
          refine split_eq_e e (fun c90 e => ?_) (fun c90 e => ?_)
          · obtain ⟨y50, g51, e⟩ := bind_e e
            refine rcs21_0.addr rfl g51 fun a52 cs53 ha54 hc55 he56 => ?_
            have qcs53_0 := he56.1
            obtain rfl : cs53 = [(Value.int .i64 (List.getD y50 0 (0 : Int))), (Value.int .i64 (List.getD y50 1 (0 : Int))), (Value.int .i64 (List.getD y50 2 (0 : Int)))] := he56.2
            obtain ⟨y57, g58, e⟩ := bind_e e
            refine ⟨gi_le g58, gi_ltn g58 qcs53_0, ?_⟩
            obtain ⟨y59, g60, e⟩ := bind_e e
            refine rcs28_0.addr rfl g60 fun a61 cs62 ha63 hc64 he65 => ?_
            have qcs62_0 := he65.1
            obtain rfl : cs62 = [(Value.int .i64 (List.getD y59 0 (0 : Int))), (Value.int .i64 (List.getD y59 1 (0 : Int))), (Value.int .i64 (List.getD y59 2 (0 : Int)))] := he65.2
            obtain ⟨y66, g67, e⟩ := bind_e e
            refine ⟨gi_le g67, gi_ltn g67 qcs62_0, ?_⟩
            refine ⟨_, ldArr0 (n := 3) (f := (fun n : Int => Value.int .i64 n)) (d := (0 : Int)) O13.s hc55 rfl qcs53_0 g58, _, rfl, ?_⟩
            refine ⟨_, ldArr0 (n := 3) (f := (fun n : Int => Value.int .i64 n)) (d := (0 : Int)) O13.s hc64 rfl qcs62_0 g67, _, rfl, ?_⟩
            refine split_eq_e e (fun c88 e => ?_) (fun c88 e => ?_)
            · obtain ⟨y68, g69, e⟩ := bind_e e
              refine rcs21_0.addr rfl g69 fun a70 cs71 ha72 hc73 he74 => ?_
              have qcs71_0 := he74.1
              obtain rfl : cs71 = [(Value.int .i64 (List.getD y68 0 (0 : Int))), (Value.int .i64 (List.getD y68 1 (0 : Int))), (Value.int .i64 (List.getD y68 2 (0 : Int)))] := he74.2
              obtain ⟨y75, g76, e⟩ := bind_e e
              refine ⟨gi_le g76, gi_ltn g76 qcs71_0, ?_⟩
              obtain ⟨y77, g78, e⟩ := bind_e e
              refine rcs28_0.addr rfl g78 fun a79 cs80 ha81 hc82 he83 => ?_
              have qcs80_0 := he83.1
              obtain rfl : cs80 = [(Value.int .i64 (List.getD y77 0 (0 : Int))), (Value.int .i64 (List.getD y77 1 (0 : Int))), (Value.int .i64 (List.getD y77 2 (0 : Int)))] := he83.2
              obtain ⟨y84, g85, e⟩ := bind_e e
              refine ⟨gi_le g85, gi_ltn g85 qcs80_0, ?_⟩
              refine ⟨_, ldArr0 (n := 3) (f := (fun n : Int => Value.int .i64 n)) (d := (0 : Int)) O13.s hc73 rfl qcs71_0 g76, _, rfl, ?_⟩
              refine ⟨_, ldArr0 (n := 3) (f := (fun n : Int => Value.int .i64 n)) (d := (0 : Int)) O13.s hc82 rfl qcs80_0 g85, _, rfl, ?_⟩
              have O86 := O13.nm
              exact (ih _ _ e) _ _ _ _ _ _ _ _ _ _ _ _ _ _ _ _ _ _ _ _ _ _ _ _ _ (O86.pick [0, 1, 2, 3, 4]).nm rfl k_1 r_1 e_2 rfl rfl rfl rfl rfl k_25 r_25
            · have O87 := O13.nm
              exact (ih _ _ e) _ _ _ _ _ _ _ _ _ _ _ _ _ _ _ _ _ _ _ _ _ _ _ _ _ (O87.pick [0, 1, 2, 3, 4]).nm rfl k_1 r_1 e_2 rfl rfl rfl rfl rfl k_25 r_25
          · have O89 := O13.nm
            exact (ih _ _ e) _ _ _ _ _ _ _ _ _ _ _ _ _ _ _ _ _ _ _ _ _ _ _ _ _ (O89.pick [0, 1, 2, 3, 4]).nm rfl k_1 r_1 e_2 rfl rfl rfl rfl rfl k_25 r_25
        · have O91 := O13.nm
          exact (ih _ _ e) _ _ _ _ _ _ _ _ _ _ _ _ _ _ _ _ _ _ _ _ _ _ _ _ _ (O91.pick [0, 1, 2, 3, 4]).nm rfl k_1 r_1 e_2 rfl rfl rfl rfl rfl k_25 r_25
      · have O93 := O13.nm
        exact (ih _ _ e) _ _ _ _ _ _ _ _ _ _ _ _ _ _ _ _ _ _ _ _ _ _ _ _ _ (O93.pick [0, 1, 2, 3, 4]).nm rfl k_1 r_1 e_2 rfl rfl rfl rfl rfl k_25 r_25
    · have O95 := O13.nm
      exact (ih _ _ e) _ _ _ _ _ _ _ _ _ _ _ _ _ _ _ _ _ _ _ _ _ _ _ _ _ (O95.pick [0, 1, 2, 3, 4]).nm rfl k_1 r_1 e_2 rfl rfl rfl rfl rfl k_25 r_25
  · refine split_eq_e e (fun c111 e => ?_) (fun c111 e => ?_)
    · cases e
      exact ⟨_, _, _, _, _, _, _, O.pick [3, 2], rfl, rfl, rfl⟩
    · refine split_dec_e e (fun c110 e => ?_) (fun c110 e => ?_)
      · obtain ⟨y97, g98, e⟩ := bind_e e
        refine r_1.addr rfl g98 fun a99 cs100 ha101 hc102 he103 => ?_
        obtain rfl : cs100 = [(Value.int .i64 y97)] := he103
        refine ⟨_, ld0 O.s hc102 rfl, _, rfl, ?_⟩
        obtain ⟨g104, e⟩ := guard_e e
        refine ⟨g104, ?_⟩
        obtain ⟨l105, g106, e⟩ := bind_e e
        have q107 := sls_e g106
        refine ⟨q107.1, q107.2.1, cap_in q107.2.2.1 k_1, ?_⟩
        try rw [q107.2.2.2.1]
        have k108 : List.length l105 ≤ (c_1 - Int.toNat (1 : Int)) := sls_cap g106 k_1
        have r109 := r_1.sls g106 (le_mx q107.2.2.1 k_1)
        exact (ih _ _ e) _ _ _ _ _ _ _ _ _ _ _ _ _ _ _ _ _ _ _ _ _ _ (O.pick [0, 1, 2, 3, 4]).nm rfl k108 r109 e_2 rfl rfl rfl rfl
      · exact (ih _ _ e) _ _ _ _ _ _ _ _ _ _ _ _ _ _ _ _ _ _ _ _ _ _ (O.pick [0, 1, 2, 3, 4]).nm rfl k_1 r_1 e_2 rfl rfl rfl rfl
set_option maxRecDepth 100000 in
theorem roadref2_Going.l0_k.step_j1 (go : (p : roadref2_Going.l0_k.Pt) → Option ((List Int) × (List Int))) (ih : ∀ p r, go p = some r → roadref2_Going.l0_k.I p r) (a_1 : List Int) (y_2 : T_roadref2_Net) (a_6 : List (List (List Int))) (a_7 : List Int) (a_8 : List Int) (a_9 : List Int) (x_10 : Int) (a_25 : List (List Int)) (x_26 : Int) (x_27 : Int) (b_88 : Bool) (r : (List Int) × (List Int)) (e : roadref2_Going.l0_k.body go (.j1 a_1 y_2 a_6 a_7 a_8 a_9 x_10 a_25 x_26 x_27 b_88) = some r) : roadref2_Going.l0_k.I (.j1 a_1 y_2 a_6 a_7 a_8 a_9 x_10 a_25 x_26 x_27 b_88) r := by
  unfold roadref2_Going.l0_k.body at e
  intro W h0 m0 h m A_1 n_1 c_1 bk_2 cs_2 A_6 n_6 c_6 A_7 n_7 c_7 A_8 n_8 c_8 A_9 n_9 c_9 A_25 n_25 c_25 O ne_1 k_1 r_1 e_2 ne_6 ne_7 ne_8 ne_9 ne_25 k_25 r_25
  subst ne_1
  subst ne_6
  subst ne_7
  subst ne_8
  subst ne_9
  subst ne_25
  refine f47.j1_in ?_
  unfold f47.j1T
  refine split_any_e e (fun c15 e => ?_) (fun c15 e => ?_)
  · refine O.new fun h1 x2 O3 => ?_
    obtain ⟨l5, g6, e⟩ := bind_e e
    have O13 := O3.rowE (l := ([x_10] : List Int)) 5 rfl (tell_int .i64) (show CsE _ _ _ _ _ from (CsE.cons (c1 := [(Value.int .i64 x_10)]) rfl rfl CsE.nil)) rfl
    refine O13.app 4 rfl rfl rfl ((O13.os 5 rfl).srcE rfl) (by decide) g6 fun A7 c8 h9 O10 => ?_
    refine ⟨_, _, _, rfl, ?_⟩
    have O14 := O10.nm
    exact (ih _ _ e) _ _ _ _ _ _ _ _ _ _ _ _ _ _ _ _ _ _ _ _ _ _ _ _ _ (O14.pick [0, 1, 2, 3, 4]).nm rfl k_1 r_1 e_2 rfl rfl rfl rfl rfl k_25 r_25
  · exact (ih _ _ e) _ _ _ _ _ _ _ _ _ _ _ _ _ _ _ _ _ _ _ _ _ _ _ _ _ (O.pick [0, 1, 2, 3, 4]).nm rfl k_1 r_1 e_2 rfl rfl rfl rfl rfl k_25 r_25
set_option maxRecDepth 100000 in
theorem roadref2_Going.l0_k.step_j0 (go : (p : roadref2_Going.l0_k.Pt) → Option ((List Int) × (List Int))) (ih : ∀ p r, go p = some r → roadref2_Going.l0_k.I p r) (a_1 : List Int) (y_2 : T_roadref2_Net) (a_6 : List (List (List Int))) (a_7 : List Int) (a_8 : List Int) (a_9 : List Int) (x_14 : Int) (r : (List Int) × (List Int)) (e : roadref2_Going.l0_k.body go (.j0 a_1 y_2 a_6 a_7 a_8 a_9 x_14) = some r) : roadref2_Going.l0_k.I (.j0 a_1 y_2 a_6 a_7 a_8 a_9 x_14) r := by
  unfold roadref2_Going.l0_k.body at e
  intro W h0 m0 h m A_1 n_1 c_1 bk_2 cs_2 A_6 n_6 c_6 A_7 n_7 c_7 A_8 n_8 c_8 A_9 n_9 c_9 O ne_1 k_1 r_1 e_2 ne_6 ne_7 ne_8 ne_9
  subst ne_1
  subst ne_6
  subst ne_7
  subst ne_8
  subst ne_9
  refine f47.j0_in ?_
  unfold f47.j0T
  obtain ⟨y1, g2, e⟩ := bind_e e
  refine (O.os 4 rfl).addr rfl g2 fun a3 cs4 ha5 hc6 he7 => ?_
  obtain rfl : cs4 = [(Value.int .i64 y1)] := he7
  obtain ⟨A8, c9, q10, k11, r12⟩ := T_roadref2_Net.g0 e_2
  refine ⟨_, ld0 (Sub.refl _) (O.all 0 rfl) q10, _, _, _, rfl, ?_⟩
  refine ⟨_, ld0 (Sub.refl _) hc6 rfl, _, rfl, ?_⟩
  obtain ⟨y13, g14, e⟩ := bind_e e
  refine r12.addr rfl g14 fun a15 cs16 ha17 hc18 he19 => ?_
  have qcs16_0 := he19.1
  obtain rfl : cs16 = [(Value.int .i64 (List.getD y13 0 (0 : Int))), (Value.int .i64 (List.getD y13 1 (0 : Int)))] := he19.2
  refine ⟨_, ldAn O.s hc18 rfl, ?_⟩
  exact (ih _ _ e) _ _ _ _ _ _ _ _ _ _ _ _ _ _ _ _ _ _ _ _ _ _ _ (O.pick [0, 1, 2, 3, 4]).nm rfl k_1 r_1 e_2 rfl rfl rfl rfl ⟨qcs16_0, rfl⟩
set_option maxHeartbeats 4000000 in
set_option maxRecDepth 100000 in
theorem roadref2_Going.l0_k.step_l2 (go : (p : roadref2_Going.l0_k.Pt) → Option ((List Int) × (List Int))) (ih : ∀ p r, go p = some r → roadref2_Going.l0_k.I p r) (a_1 : List Int) (y_2 : T_roadref2_Net) (a_6 : List (List (List Int))) (a_7 : List Int) (a_8 : List Int) (a_9 : List Int) (x_14 : Int) (y_120 : (List Int)) (x_121 : Int) (r : (List Int) × (List Int)) (e : roadref2_Going.l0_k.body go (.l2 a_1 y_2 a_6 a_7 a_8 a_9 x_14 y_120 x_121) = some r) : roadref2_Going.l0_k.I (.l2 a_1 y_2 a_6 a_7 a_8 a_9 x_14 y_120 x_121) r := by
  unfold roadref2_Going.l0_k.body at e
  intro W h0 m0 h m A_1 n_1 c_1 bk_2 cs_2 A_6 n_6 c_6 A_7 n_7 c_7 A_8 n_8 c_8 A_9 n_9 c_9 cs_120 O ne_1 k_1 r_1 e_2 ne_6 ne_7 ne_8 ne_9 e_120
  subst ne_1
  subst ne_6
  subst ne_7
  subst ne_8
  subst ne_9
  have qe_120_0 := e_120.1
  obtain rfl : cs_120 = [(Value.int .i64 (List.getD y_120 0 (0 : Int))), (Value.int .i64 (List.getD y_120 1 (0 : Int)))] := e_120.2
  refine f47.l2_in ?_
  unfold f47.l2T
  refine split_dec_e e (fun c66 e => ?_) (fun c66 e => ?_)
  · obtain ⟨y1, g2, e⟩ := bind_e e
    refine ⟨gi_le g2, gi_ltn g2 qe_120_0, _, fldArr (n := 2) (f := (fun n : Int => Value.int .i64 n)) (d := (0 : Int)) rfl qe_120_0 g2, _, rfl, ?_⟩
    obtain ⟨y3, g4, e⟩ := bind_e e
    refine (O.os 1 rfl).addr rfl g4 fun a5 cs6 ha7 hc8 he9 => ?_
    obtain ⟨Acs6_0, ccs6_0, rfl, kcs6_0, rcs6_0⟩ := id he9
    refine ⟨_, ld0 (Sub.refl _) hc8 rfl, _, _, _, rfl, ?_⟩
    obtain ⟨l10, g11, e⟩ := bind_e e
    have q12 := sls_e g11
    refine ⟨q12.1, q12.2.1, cap_in q12.2.2.1 kcs6_0, ?_⟩
    try rw [q12.2.2.2.1]
    have k13 : List.length l10 ≤ (ccs6_0 - Int.toNat (1 : Int)) := sls_cap g11 kcs6_0
    have r14 := rcs6_0.sls g11 (le_mx q12.2.2.1 kcs6_0)
    obtain ⟨y15, g16, e⟩ := bind_e e
    refine (O.os 1 rfl).addr rfl g16 fun a17 cs18 ha19 hc20 he21 => ?_
    obtain ⟨Acs18_0, ccs18_0, rfl, kcs18_0, rcs18_0⟩ := id he21
    obtain ⟨l24, g25, e⟩ := bind_e e
    replace g25 := Option.some.inj g25
    refine O.elst0 1 rfl g16 ha19 hc20 (by decide) (y' := l10) ⟨_, _, rfl, k13, r14⟩ trivial g25 fun h22 O23 => ?_
    obtain ⟨y26, g27, e⟩ := bind_e e
    refine (O23.os 2 rfl).addr rfl g27 fun a28 cs29 ha30 hc31 he32 => ?_
    obtain rfl : cs29 = [(Value.int .i64 y26)] := he32
    refine ⟨_, ld0 (Sub.refl _) hc31 rfl, _, rfl, ?_⟩
    obtain ⟨y33, g34, e⟩ := bind_e e
    refine (O23.os 2 rfl).addr rfl g34 fun a35 cs36 ha37 hc38 he39 => ?_
    obtain rfl : cs36 = [(Value.int .i64 y33)] := he39
    obtain ⟨l42, g43, e⟩ := bind_e e
    replace g43 := Option.some.inj g43
    refine O23.elst0 2 rfl g34 ha37 hc38 (by decide) (y' := (IntKind.wrap .i64 (y26 + (1 : Int)))) rfl trivial g43 fun h40 O41 => ?_
    have O44 := O41.nm
    exact (ih _ _ e) _ _ _ _ _ _ _ _ _ _ _ _ _ _ _ _ _ _ _ _ _ _ _ (O44.pick [0, 1, 2, 3, 4]).nm rfl k_1 r_1 e_2 (lset' g25) (lset' g43) rfl rfl ⟨qe_120_0, rfl⟩
  · obtain ⟨y45, g46, e⟩ := bind_e e
    refine (O.os 4 rfl).addr rfl g46 fun a47 cs48 ha49 hc50 he51 => ?_
    obtain rfl : cs48 = [(Value.int .i64 y45)] := he51
    refine ⟨_, ld0 (Sub.refl _) hc50 rfl, _, rfl, ?_⟩
    refine O.new fun h52 x53 O54 => ?_
    obtain ⟨l56, g57, e⟩ := bind_e e
    have O64 := O54.rowE (l := ([y45] : List Int)) 5 rfl (tell_int .i64) (show CsE _ _ _ _ _ from (CsE.cons (c1 := [(Value.int .i64 y45)]) rfl rfl CsE.nil)) rfl
    refine O64.app 3 rfl rfl rfl ((O64.os 5 rfl).srcE rfl) (by decide) g57 fun A58 c59 h60 O61 => ?_
    refine ⟨_, _, _, rfl, ?_⟩
    have O65 := O61.nm
    exact (ih _ _ e) _ _ _ _ _ _ _ _ _ _ _ _ _ _ _ _ _ _ _ (O65.pick [0, 1, 2, 3]).nm rfl k_1 r_1 e_2 rfl rfl rfl
theorem roadref2_Going.l0_k.all {p : roadref2_Going.l0_k.Pt} {r : ((List Int) × (List Int))} (e : roadref2_Going.l0_k.go p = some r) : roadref2_Going.l0_k.I p r := fixF_ind (β := fun _ => ((List Int) × (List Int))) roadref2_Going.l0_k.mono (I := roadref2_Going.l0_k.I) (fun go ih p r e => match p with
  | .l0 a_1 y_2 a_6 a_7 a_8 => roadref2_Going.l0_k.step_l0 go ih a_1 y_2 a_6 a_7 a_8 r e
  | .l1 a_1 y_2 a_6 a_7 a_8 a_9 a_25 x_26 x_27 => roadref2_Going.l0_k.step_l1 go ih a_1 y_2 a_6 a_7 a_8 a_9 a_25 x_26 x_27 r e
  | .j1 a_1 y_2 a_6 a_7 a_8 a_9 x_10 a_25 x_26 x_27 b_88 => roadref2_Going.l0_k.step_j1 go ih a_1 y_2 a_6 a_7 a_8 a_9 x_10 a_25 x_26 x_27 b_88 r e
  | .j0 a_1 y_2 a_6 a_7 a_8 a_9 x_14 => roadref2_Going.l0_k.step_j0 go ih a_1 y_2 a_6 a_7 a_8 a_9 x_14 r e
  | .l2 a_1 y_2 a_6 a_7 a_8 a_9 x_14 y_120 x_121 => roadref2_Going.l0_k.step_l2 go ih a_1 y_2 a_6 a_7 a_8 a_9 x_14 y_120 x_121 r e
  ) e
theorem roadref2_Going.l0.walk {W : Nat → Prop} {h0 m0 h m : Heap} {A_1 : Option Addr} {n_1 c_1 : Nat} {bk_2 : Nat} {cs_2 : List Value} {A_6 : Option Addr} {n_6 c_6 : Nat} {A_7 : Option Addr} {n_7 c_7 : Nat} {A_8 : Option Addr} {n_8 c_8 : Nat} {a_1 : List Int} {y_2 : T_roadref2_Net} {a_6 : List (List (List Int))} {a_7 : List Int} {a_8 : List Int} (O : Hold W h0 m0 h m [rV bk_2 87 cs_2, rR (aE (tell_row (tell_arr (n := 3) (f := (fun n : Int => Value.int .i64 n)) (d := (0 : Int)) (fun _ => trivial)))) A_6 c_6 a_6, rR (aE (tell_int .i64)) A_7 c_7 a_7, rR (aE (tell_int .i64)) A_8 c_8 a_8]) (ne_1 : n_1 = List.length a_1) (k_1 : List.length a_1 ≤ c_1) (r_1 : Rd 1 (eInt .i64) m A_1 a_1) (e_2 : T_roadref2_Net.E m y_2 cs_2) (ne_6 : n_6 = List.length a_6) (ne_7 : n_7 = List.length a_7) (ne_8 : n_8 = List.length a_8) {r : (List Int) × (List Int)} (e : roadref2_Going.l0 a_1 y_2 a_6 a_7 a_8 = some r) : f47.l0 (roadref2_Going.post W h0 m0 r) A_1 n_1 c_1 (⟨bk_2, 0, none⟩ : Addr) A_6 n_6 c_6 A_7 n_7 c_7 A_8 n_8 c_8 h := roadref2_Going.l0_k.all (p := .l0 a_1 y_2 a_6 a_7 a_8) e W h0 m0 h m A_1 n_1 c_1 bk_2 cs_2 A_6 n_6 c_6 A_7 n_7 c_7 A_8 n_8 c_8 O ne_1 k_1 r_1 e_2 ne_6 ne_7 ne_8
noncomputable def roadref2_Going (y_0 : T_roadref2_Net) (a_1 : List Int) : Option ((List Int) × (List Int)) :=
  Option.bind (slices_Clone_79 y_0.Who) fun y10 => Option.bind (mks 8 (((List.length y_0.Who) : Nat) : Int) (0 : Int)) fun l27 => (roadref2_Going.l0 a_1 y_0 y10 l27 ([] : List Int))
set_option maxRecDepth 100000 in
theorem roadref2_Going.walk {W : Nat → Prop} {h m : Heap} {cs_0 : List Value} {A_1 : Option Addr} {n_1 c_1 : Nat} {y_0 : T_roadref2_Net} {a_1 : List Int} (O : Hold W h m h m []) (e_0 : T_roadref2_Net.E m y_0 cs_0) (ne_1 : n_1 = List.length a_1) (k_1 : List.length a_1 ≤ c_1) (r_1 : Rd 1 (eInt .i64) m A_1 a_1) {r : (List Int) × (List Int)} (e : roadref2_Going y_0 a_1 = some r) : Run Try.prog 47 #[Value.agg cs_0.toArray, Value.slice A_1 n_1 c_1] h (roadref2_Going.post W h m r) := by
  unfold roadref2_Going at e
  subst ne_1
  refine f47.run ?_
  unfold f47.runT
  refine O.new fun h1 x2 O3 => ?_
  obtain ⟨A5, c6, q7, k8, r9⟩ := T_roadref2_Net.g1 e_0
  refine ⟨_, ldk (k := 1) (Sub.refl _) (O3.all 0 rfl) q7, _, _, _, rfl, ?_⟩
  obtain ⟨y10, g11, e⟩ := bind_e e
  refine (slices_Clone_79.walk (Hold.start (W := No) O3.s) rfl k8 r9 g11).mono ?_
  rintro _ h12 ⟨m13, A16, n17, c18, Q14, rfl, ne19⟩
  have O21 := Hold.nm (O3.ret Q14)
  subst ne19
  refine ⟨_, _, _, rfl, ?_⟩
  obtain ⟨A22, c23, q24, k25, r26⟩ := T_roadref2_Net.g1 e_0
  refine ⟨_, ldk (k := 1) (Sub.refl _) (O21.all 0 rfl) q24, _, _, _, rfl, ?_⟩
  obtain ⟨l27, g28, e⟩ := bind_e e
  have q29 := mks_e g28
  refine ⟨q29.1, Int.le_refl _, q29.2.1, q29.2.2.1, ?_⟩
  refine O21.new fun h30 x31 O32 => ?_
  have O33 := O32.made 2 rfl (aE (tell_int .i64)) g28 ⟨rfl, rfl⟩
  try rw [q29.2.2.2.1]
  have O35 := O33.nil (aE (tell_int .i64)) none
  have O37 := O35.nm
  exact roadref2_Going.l0.walk (O37.pick [0, 1, 2, 3]).nm rfl k_1 (r_1.sub (tell_int .i64) Q14.S.up) (T_roadref2_Net.T.mono _ _ _ _ Q14.S.up e_0) rfl rfl rfl e
def roadref2_Waiting.post (W : Nat → Prop) (h0 m0 : Heap) (r : (List Int) × Int) (v : Value) (h : Heap) : Prop := ∃ m A0 n0 c0, Hold W h0 m0 h m [rR (aE (tell_int .i64)) A0 c0 r.1] ∧ v = .tuple #[.slice A0 n0 c0, .int .i64 r.2] ∧ n0 = List.length r.1
inductive roadref2_Waiting.l0_k.Pt where
  | l0 (y_2 : T_roadref2_Net) (a_6 : List Int) (b_7 : Bool) (a_18 : List Int) (x_19 : Int) (x_20 : Int)
  | j0 (y_2 : T_roadref2_Net) (a_6 : List Int) (b_7 : Bool) (x_8 : Int) (x_9 : Int) (a_18 : List Int) (x_19 : Int) (x_20 : Int)
  | j1 (y_2 : T_roadref2_Net) (a_6 : List Int) (b_7 : Bool) (x_10 : Int) (a_18 : List Int) (x_19 : Int) (x_20 : Int)
noncomputable def roadref2_Waiting.l0_k.body (go : (p : roadref2_Waiting.l0_k.Pt) → Option ((List Int) × Int)) : (p : roadref2_Waiting.l0_k.Pt) → Option ((List Int) × Int)
  | .l0 y_2 a_6 b_7 a_18 x_19 x_20 => if x_20 < x_19 then (Option.bind (gi a_18 x_20) fun y1 => if y1 < (0 : Int) then ((go (.l0 y_2 a_6 true a_18 x_19 (IntKind.wrap .i64 (x_20 + (1 : Int)))))) else (Option.bind (gi y_2.Who x_20) fun y13 => if y1 > (((List.length y13) : Nat) : Int) then ((go (.l0 y_2 a_6 true a_18 x_19 (IntKind.wrap .i64 (x_20 + (1 : Int)))))) else ((go (.j0 y_2 a_6 b_7 x_20 y1 a_18 x_19 x_20))))) else (if b_7 = true then (some (([] : List Int), (1 : Int))) else (some (a_6, (0 : Int))))
  | .j0 y_2 a_6 b_7 x_8 x_9 a_18 x_19 x_20 => Option.bind (gi y_2.Who x_8) fun y6 => if x_9 < (((List.length y6) : Nat) : Int) then (Option.bind (gi y_2.Who x_8) fun y23 => Option.bind (gi y23 x_9) fun y30 => Option.bind (gi y30 (0 : Int)) fun y37 => Option.bind (gi y_2.Lines y37) fun y39 => Option.bind (gi y39 (0 : Int)) fun y52 => if y52 = x_8 then (Option.bind (gi y39 (1 : Int)) fun y54 => (go (.j1 y_2 a_6 b_7 y54 a_18 x_19 x_20))) else ((go (.j1 y_2 a_6 b_7 y52 a_18 x_19 x_20)))) else ((go (.j1 y_2 a_6 b_7 (-1 : Int) a_18 x_19 x_20)))
  | .j1 y_2 a_6 b_7 x_10 a_18 x_19 x_20 => Option.bind (ap 8 a_6 ([x_10] : List Int)) fun l5 => (go (.l0 y_2 l5 b_7 a_18 x_19 (IntKind.wrap .i64 (x_20 + (1 : Int)))))
theorem roadref2_Waiting.l0_k.mono : MonoF (β := fun _ => ((List Int) × Int)) roadref2_Waiting.l0_k.body := fun f g hfg p => match p with
  | .l0 y_2 a_6 b_7 a_18 x_19 x_20 => LeO.ite (LeO.bind (LeO.refl _) fun y1 => LeO.ite ((hfg _)) (LeO.bind (LeO.refl _) fun y13 => LeO.ite ((hfg _)) ((hfg _)))) (LeO.ite (LeO.refl _) (LeO.refl _))
  | .j0 y_2 a_6 b_7 x_8 x_9 a_18 x_19 x_20 => LeO.bind (LeO.refl _) fun y6 => LeO.ite (LeO.bind (LeO.refl _) fun y23 => LeO.bind (LeO.refl _) fun y30 => LeO.bind (LeO.refl _) fun y37 => LeO.bind (LeO.refl _) fun y39 => LeO.bind (LeO.refl _) fun y52 => LeO.ite (LeO.bind (LeO.refl _) fun y54 => (hfg _)) ((hfg _))) ((hfg _))
  | .j1 y_2 a_6 b_7 x_10 a_18 x_19 x_20 => LeO.bind (LeO.refl _) fun l5 => (hfg _)
noncomputable def roadref2_Waiting.l0_k.go (p : roadref2_Waiting.l0_k.Pt) : Option ((List Int) × Int) := fixF (β := fun _ => ((List Int) × Int)) roadref2_Waiting.l0_k.body p
noncomputable def roadref2_Waiting.l0 (y_2 : T_roadref2_Net) (a_6 : List Int) (b_7 : Bool) (a_18 : List Int) (x_19 : Int) (x_20 : Int) : Option ((List Int) × Int) := roadref2_Waiting.l0_k.go (.l0 y_2 a_6 b_7 a_18 x_19 x_20)
noncomputable def roadref2_Waiting.j0 (y_2 : T_roadref2_Net) (a_6 : List Int) (b_7 : Bool) (x_8 : Int) (x_9 : Int) (a_18 : List Int) (x_19 : Int) (x_20 : Int) : Option ((List Int) × Int) := roadref2_Waiting.l0_k.go (.j0 y_2 a_6 b_7 x_8 x_9 a_18 x_19 x_20)
noncomputable def roadref2_Waiting.j1 (y_2 : T_roadref2_Net) (a_6 : List Int) (b_7 : Bool) (x_10 : Int) (a_18 : List Int) (x_19 : Int) (x_20 : Int) : Option ((List Int) × Int) := roadref2_Waiting.l0_k.go (.j1 y_2 a_6 b_7 x_10 a_18 x_19 x_20)
theorem roadref2_Waiting.l0_eq (y_2 : T_roadref2_Net) (a_6 : List Int) (b_7 : Bool) (a_18 : List Int) (x_19 : Int) (x_20 : Int) : roadref2_Waiting.l0 y_2 a_6 b_7 a_18 x_19 x_20 = if x_20 < x_19 then (Option.bind (gi a_18 x_20) fun y1 => if y1 < (0 : Int) then ((roadref2_Waiting.l0 y_2 a_6 true a_18 x_19 (IntKind.wrap .i64 (x_20 + (1 : Int))))) else (Option.bind (gi y_2.Who x_20) fun y13 => if y1 > (((List.length y13) : Nat) : Int) then ((roadref2_Waiting.l0 y_2 a_6 true a_18 x_19 (IntKind.wrap .i64 (x_20 + (1 : Int))))) else ((roadref2_Waiting.j0 y_2 a_6 b_7 x_20 y1 a_18 x_19 x_20)))) else (if b_7 = true then (some (([] : List Int), (1 : Int))) else (some (a_6, (0 : Int)))) := fixF_eq roadref2_Waiting.l0_k.mono _
theorem roadref2_Waiting.j0_eq (y_2 : T_roadref2_Net) (a_6 : List Int) (b_7 : Bool) (x_8 : Int) (x_9 : Int) (a_18 : List Int) (x_19 : Int) (x_20 : Int) : roadref2_Waiting.j0 y_2 a_6 b_7 x_8 x_9 a_18 x_19 x_20 = Option.bind (gi y_2.Who x_8) fun y6 => if x_9 < (((List.length y6) : Nat) : Int) then (Option.bind (gi y_2.Who x_8) fun y23 => Option.bind (gi y23 x_9) fun y30 => Option.bind (gi y30 (0 : Int)) fun y37 => Option.bind (gi y_2.Lines y37) fun y39 => Option.bind (gi y39 (0 : Int)) fun y52 => if y52 = x_8 then (Option.bind (gi y39 (1 : Int)) fun y54 => (roadref2_Waiting.j1 y_2 a_6 b_7 y54 a_18 x_19 x_20)) else ((roadref2_Waiting.j1 y_2 a_6 b_7 y52 a_18 x_19 x_20))) else ((roadref2_Waiting.j1 y_2 a_6 b_7 (-1 : Int) a_18 x_19 x_20)) := fixF_eq roadref2_Waiting.l0_k.mono _
theorem roadref2_Waiting.j1_eq (y_2 : T_roadref2_Net) (a_6 : List Int) (b_7 : Bool) (x_10 : Int) (a_18 : List Int) (x_19 : Int) (x_20 : Int) : roadref2_Waiting.j1 y_2 a_6 b_7 x_10 a_18 x_19 x_20 = Option.bind (ap 8 a_6 ([x_10] : List Int)) fun l5 => (roadref2_Waiting.l0 y_2 l5 b_7 a_18 x_19 (IntKind.wrap .i64 (x_20 + (1 : Int)))) := fixF_eq roadref2_Waiting.l0_k.mono _
def roadref2_Waiting.l0_k.I : (p : roadref2_Waiting.l0_k.Pt) → ((List Int) × Int) → Prop
  | .l0 y_2 a_6 b_7 a_18 x_19 x_20, r => ∀ (W : Nat → Prop) (h0 m0 h m : Heap) (bk_2 : Nat) (cs_2 : List Value) (A_6 : Option Addr) (n_6 c_6 : Nat) (A_18 : Option Addr) (n_18 c_18 : Nat) (O : Hold W h0 m0 h m [rV bk_2 87 cs_2, rR (aE (tell_int .i64)) A_6 c_6 a_6]) (e_2 : T_roadref2_Net.E m y_2 cs_2) (ne_6 : n_6 = List.length a_6) (ne_18 : n_18 = List.length a_18) (k_18 : List.length a_18 ≤ c_18) (r_18 : Rd 1 (eInt .i64) m A_18 a_18), f48.l0 (roadref2_Waiting.post W h0 m0 r) (⟨bk_2, 0, none⟩ : Addr) A_6 n_6 c_6 b_7 A_18 n_18 c_18 x_19 x_20 h
  | .j0 y_2 a_6 b_7 x_8 x_9 a_18 x_19 x_20, r => ∀ (W : Nat → Prop) (h0 m0 h m : Heap) (bk_2 : Nat) (cs_2 : List Value) (A_6 : Option Addr) (n_6 c_6 : Nat) (A_18 : Option Addr) (n_18 c_18 : Nat) (O : Hold W h0 m0 h m [rV bk_2 87 cs_2, rR (aE (tell_int .i64)) A_6 c_6 a_6]) (e_2 : T_roadref2_Net.E m y_2 cs_2) (ne_6 : n_6 = List.length a_6) (ne_18 : n_18 = List.length a_18) (k_18 : List.length a_18 ≤ c_18) (r_18 : Rd 1 (eInt .i64) m A_18 a_18), f48.j0 (roadref2_Waiting.post W h0 m0 r) (⟨bk_2, 0, none⟩ : Addr) A_6 n_6 c_6 b_7 x_8 x_9 A_18 n_18 c_18 x_19 x_20 h
  | .j1 y_2 a_6 b_7 x_10 a_18 x_19 x_20, r => ∀ (W : Nat → Prop) (h0 m0 h m : Heap) (bk_2 : Nat) (cs_2 : List Value) (A_6 : Option Addr) (n_6 c_6 : Nat) (A_18 : Option Addr) (n_18 c_18 : Nat) (O : Hold W h0 m0 h m [rV bk_2 87 cs_2, rR (aE (tell_int .i64)) A_6 c_6 a_6]) (e_2 : T_roadref2_Net.E m y_2 cs_2) (ne_6 : n_6 = List.length a_6) (ne_18 : n_18 = List.length a_18) (k_18 : List.length a_18 ≤ c_18) (r_18 : Rd 1 (eInt .i64) m A_18 a_18), f48.j1 (roadref2_Waiting.post W h0 m0 r) (⟨bk_2, 0, none⟩ : Addr) A_6 n_6 c_6 b_7 x_10 A_18 n_18 c_18 x_19 x_20 h
set_option maxRecDepth 100000 in
theorem roadref2_Waiting.l0_k.step_l0 (go : (p : roadref2_Waiting.l0_k.Pt) → Option ((List Int) × Int)) (ih : ∀ p r, go p = some r → roadref2_Waiting.l0_k.I p r) (y_2 : T_roadref2_Net) (a_6 : List Int) (b_7 : Bool) (a_18 : List Int) (x_19 : Int) (x_20 : Int) (r : (List Int) × Int) (e : roadref2_Waiting.l0_k.body go (.l0 y_2 a_6 b_7 a_18 x_19 x_20) = some r) : roadref2_Waiting.l0_k.I (.l0 y_2 a_6 b_7 a_18 x_19 x_20) r := by
  unfold roadref2_Waiting.l0_k.body at e
  intro W h0 m0 h m bk_2 cs_2 A_6 n_6 c_6 A_18 n_18 c_18 O e_2 ne_6 ne_18 k_18 r_18
  subst ne_6
  subst ne_18
  refine f48.l0_in ?_
  unfold f48.l0T
  refine split_dec_e e (fun c26 e => ?_) (fun c26 e => ?_)
  · obtain ⟨y1, g2, e⟩ := bind_e e
    refine r_18.addr rfl g2 fun a3 cs4 ha5 hc6 he7 => ?_
    obtain rfl : cs4 = [(Value.int .i64 y1)] := he7
    refine ⟨_, ld0 O.s hc6 rfl, _, rfl, ?_⟩
    refine split_dec_e e (fun c21 e => ?_) (fun c21 e => ?_)
    · exact (ih _ _ e) _ _ _ _ _ _ _ _ _ _ _ _ _ (O.pick [0, 1]).nm e_2 rfl rfl k_18 r_18
    · obtain ⟨A8, c9, q10, k11, r12⟩ := T_roadref2_Net.g1 e_2
      refine ⟨_, ldk (k := 1) (Sub.refl _) (O.all 0 rfl) q10, _, _, _, rfl, ?_⟩
      obtain ⟨y13, g14, e⟩ := bind_e e
      refine r12.addr rfl g14 fun a15 cs16 ha17 hc18 he19 => ?_
      obtain ⟨Acs16_0, ccs16_0, rfl, kcs16_0, rcs16_0⟩ := id he19
      refine ⟨_, ld0 O.s hc18 rfl, _, _, _, rfl, ?_⟩
      refine split_dec_e e (fun c20 e => ?_) (fun c20 e => ?_)
      · exact (ih _ _ e) _ _ _ _ _ _ _ _ _ _ _ _ _ (O.pick [0, 1]).nm e_2 rfl rfl k_18 r_18
      · exact (ih _ _ e) _ _ _ _ _ _ _ _ _ _ _ _ _ (O.pick [0, 1]).nm e_2 rfl rfl k_18 r_18
  · refine split_any_e e (fun c25 e => ?_) (fun c25 e => ?_)
    · have O22 := O.nil (aE (tell_int .i64)) none
      have O24 := O22.nm
      cases e
      exact ⟨_, _, _, _, O24.pick [2], rfl, rfl⟩
    · cases e
      exact ⟨_, _, _, _, O.pick [1], rfl, rfl⟩
set_option maxHeartbeats 4000000 in
set_option maxRecDepth 100000 in
theorem roadref2_Waiting.l0_k.step_j0 (go : (p : roadref2_Waiting.l0_k.Pt) → Option ((List Int) × Int)) (ih : ∀ p r, go p = some r → roadref2_Waiting.l0_k.I p r) (y_2 : T_roadref2_Net) (a_6 : List Int) (b_7 : Bool) (x_8 : Int) (x_9 : Int) (a_18 : List Int) (x_19 : Int) (x_20 : Int) (r : (List Int) × Int) (e : roadref2_Waiting.l0_k.body go (.j0 y_2 a_6 b_7 x_8 x_9 a_18 x_19 x_20) = some r) : roadref2_Waiting.l0_k.I (.j0 y_2 a_6 b_7 x_8 x_9 a_18 x_19 x_20) r := by
  unfold roadref2_Waiting.l0_k.body at e
  intro W h0 m0 h m bk_2 cs_2 A_6 n_6 c_6 A_18 n_18 c_18 O e_2 ne_6 ne_18 k_18 r_18
  subst ne_6
  subst ne_18
  refine f48.j0_in ?_
  unfold f48.j0T
  obtain ⟨A1, c2, q3, k4, r5⟩ := T_roadref2_Net.g1 e_2
  refine ⟨_, ldk (k := 1) (Sub.refl _) (O.all 0 rfl) q3, _, _, _, rfl, ?_⟩
  obtain ⟨y6, g7, e⟩ := bind_e e
  refine r5.addr rfl g7 fun a8 cs9 ha10 hc11 he12 => ?_
  obtain ⟨Acs9_0, ccs9_0, rfl, kcs9_0, rcs9_0⟩ := id he12
  refine ⟨_, ld0 O.s hc11 rfl, _, _, _, rfl, ?_⟩
  refine split_dec_e e (fun c59 e => ?_) (fun c59 e => ?_)
  · obtain ⟨A13, c14, q15, k16, r17⟩ := T_roadref2_Net.g0 e_2
    refine ⟨_, ld0 (Sub.refl _) (O.all 0 rfl) q15, _, _, _, rfl, ?_⟩
    obtain ⟨A18, c19, q20, k21, r22⟩ := T_roadref2_Net.g1 e_2
    refine ⟨_, ldk (k := 1) (Sub.refl _) (O.all 0 rfl) q20, _, _, _, rfl, ?_⟩
    obtain ⟨y23, g24, e⟩ := bind_e e
    refine r22.addr rfl g24 fun a25 cs26 ha27 hc28 he29 => ?_
    obtain ⟨Acs26_0, ccs26_0, rfl, kcs26_0, rcs26_0⟩ := id he29
    refine ⟨_, ld0 O.s hc28 rfl, _, _, _, rfl, ?_⟩
    obtain ⟨y30, g31, e⟩ := bind_e e
    refine rcs26_0.addr rfl g31 fun a32 cs33 ha34 hc35 he36 => ?_
    have qcs33_0 := he36.1
    obtain rfl : cs33 = [(Value.int .i64 (List.getD y30 0 (0 : Int))), (Value.int .i64 (List.getD y30 1 (0 : Int))), (Value.int .i64 (List.getD y30 2 (0 : Int)))] := he36.2
    obtain ⟨y37, g38, e⟩ := bind_e e
    refine ⟨gi_le g38, gi_ltn g38 qcs33_0, ?_⟩
    refine ⟨_, ldArr0 (n := 3) (f := (fun n : Int => Value.int .i64 n)) (d := (0 : Int)) O.s hc35 rfl qcs33_0 g38, _, rfl, ?_⟩
    obtain ⟨y39, g40, e⟩ := bind_e e
    refine r17.addr rfl g40 fun a41 cs42 ha43 hc44 he45 => ?_
    have qcs42_0 := he45.1
    obtain rfl : cs42 = [(Value.int .i64 (List.getD y39 0 (0 : Int))), (Value.int .i64 (List.getD y39 1 (0 : Int)))] := he45.2
    refine ⟨_, ldAn O.s hc44 rfl, ?_⟩
    refine O.new fun h46 x47 O48 => ?_
    refine ⟨x47, ?_⟩
    refine ⟨_, rfl, rfl, ?_⟩
    refine O48.stA 2 rfl rfl (Flats.cons trivial (Flats.cons trivial Flats.nil)) fun h50 O51 => ?_
    obtain ⟨y52, g53, e⟩ := bind_e e
    refine ⟨gi_le g53, gi_ltn g53 qcs42_0, ?_⟩
    refine ⟨_, ldArr0 (n := 2) (f := (fun n : Int => Value.int .i64 n)) (d := (0 : Int)) (Sub.refl _) (O51.all 2 rfl) rfl qcs42_0 g53, _, rfl, ?_⟩
    refine split_eq_e e (fun c58 e => ?_) (fun c58 e => ?_)
    · obtain ⟨y54, g55, e⟩ := bind_e e
      refine ⟨gi_le g55, gi_ltn g55 qcs42_0, ?_⟩
      refine ⟨_, ldArr0 (n := 2) (f := (fun n : Int => Value.int .i64 n)) (d := (0 : Int)) (Sub.refl _) (O51.all 2 rfl) rfl qcs42_0 g55, _, rfl, ?_⟩
      have O56 := O51.nm
      exact (ih _ _ e) _ _ _ _ _ _ _ _ _ _ _ _ _ (O56.pick [0, 1]).nm e_2 rfl rfl k_18 r_18
    · have O57 := O51.nm
      exact (ih _ _ e) _ _ _ _ _ _ _ _ _ _ _ _ _ (O57.pick [0, 1]).nm e_2 rfl rfl k_18 r_18
  · exact (ih _ _ e) _ _ _ _ _ _ _ _ _ _ _ _ _ (O.pick [0, 1]).nm e_2 rfl rfl k_18 r_18
set_option maxRecDepth 100000 in
theorem roadref2_Waiting.l0_k.step_j1 (go : (p : roadref2_Waiting.l0_k.Pt) → Option ((List Int) × Int)) (ih : ∀ p r, go p = some r → roadref2_Waiting.l0_k.I p r) (y_2 : T_roadref2_Net) (a_6 : List Int) (b_7 : Bool) (x_10 : Int) (a_18 : List Int) (x_19 : Int) (x_20 : Int) (r : (List Int) × Int) (e : roadref2_Waiting.l0_k.body go (.j1 y_2 a_6 b_7 x_10 a_18 x_19 x_20) = some r) : roadref2_Waiting.l0_k.I (.j1 y_2 a_6 b_7 x_10 a_18 x_19 x_20) r := by
  unfold roadref2_Waiting.l0_k.body at e
  intro W h0 m0 h m bk_2 cs_2 A_6 n_6 c_6 A_18 n_18 c_18 O e_2 ne_6 ne_18 k_18 r_18
  subst ne_6
  subst ne_18
  refine f48.j1_in ?_
  unfold f48.j1T
  refine O.new fun h1 x2 O3 => ?_
  obtain ⟨l5, g6, e⟩ := bind_e e
  have O13 := O3.rowE (l := ([x_10] : List Int)) 2 rfl (tell_int .i64) (show CsE _ _ _ _ _ from (CsE.cons (c1 := [(Value.int .i64 x_10)]) rfl rfl CsE.nil)) rfl
  refine O13.app 1 rfl rfl rfl ((O13.os 2 rfl).srcE rfl) (by decide) g6 fun A7 c8 h9 O10 => ?_
  refine ⟨_, _, _, rfl, ?_⟩
  have O14 := O10.nm
  exact (ih _ _ e) _ _ _ _ _ _ _ _ _ _ _ _ _ (O14.pick [0, 1]).nm e_2 rfl rfl k_18 r_18
theorem roadref2_Waiting.l0_k.all {p : roadref2_Waiting.l0_k.Pt} {r : ((List Int) × Int)} (e : roadref2_Waiting.l0_k.go p = some r) : roadref2_Waiting.l0_k.I p r := fixF_ind (β := fun _ => ((List Int) × Int)) roadref2_Waiting.l0_k.mono (I := roadref2_Waiting.l0_k.I) (fun go ih p r e => match p with
  | .l0 y_2 a_6 b_7 a_18 x_19 x_20 => roadref2_Waiting.l0_k.step_l0 go ih y_2 a_6 b_7 a_18 x_19 x_20 r e
  | .j0 y_2 a_6 b_7 x_8 x_9 a_18 x_19 x_20 => roadref2_Waiting.l0_k.step_j0 go ih y_2 a_6 b_7 x_8 x_9 a_18 x_19 x_20 r e
  | .j1 y_2 a_6 b_7 x_10 a_18 x_19 x_20 => roadref2_Waiting.l0_k.step_j1 go ih y_2 a_6 b_7 x_10 a_18 x_19 x_20 r e
  ) e
theorem roadref2_Waiting.l0.walk {W : Nat → Prop} {h0 m0 h m : Heap} {bk_2 : Nat} {cs_2 : List Value} {A_6 : Option Addr} {n_6 c_6 : Nat} {A_18 : Option Addr} {n_18 c_18 : Nat} {y_2 : T_roadref2_Net} {a_6 : List Int} {b_7 : Bool} {a_18 : List Int} {x_19 : Int} {x_20 : Int} (O : Hold W h0 m0 h m [rV bk_2 87 cs_2, rR (aE (tell_int .i64)) A_6 c_6 a_6]) (e_2 : T_roadref2_Net.E m y_2 cs_2) (ne_6 : n_6 = List.length a_6) (ne_18 : n_18 = List.length a_18) (k_18 : List.length a_18 ≤ c_18) (r_18 : Rd 1 (eInt .i64) m A_18 a_18) {r : (List Int) × Int} (e : roadref2_Waiting.l0 y_2 a_6 b_7 a_18 x_19 x_20 = some r) : f48.l0 (roadref2_Waiting.post W h0 m0 r) (⟨bk_2, 0, none⟩ : Addr) A_6 n_6 c_6 b_7 A_18 n_18 c_18 x_19 x_20 h := roadref2_Waiting.l0_k.all (p := .l0 y_2 a_6 b_7 a_18 x_19 x_20) e W h0 m0 h m bk_2 cs_2 A_6 n_6 c_6 A_18 n_18 c_18 O e_2 ne_6 ne_18 k_18 r_18
noncomputable def roadref2_Waiting (y_0 : T_roadref2_Net) (a_1 : List Int) : Option ((List Int) × Int) :=
  if (((List.length a_1) : Nat) : Int) = (((List.length y_0.Who) : Nat) : Int) then ((roadref2_Waiting.l0 y_0 ([] : List Int) false a_1 (((List.length a_1) : Nat) : Int) (0 : Int))) else (some (([] : List Int), (3 : Int)))
set_option maxRecDepth 100000 in
theorem roadref2_Waiting.walk {W : Nat → Prop} {h m : Heap} {cs_0 : List Value} {A_1 : Option Addr} {n_1 c_1 : Nat} {y_0 : T_roadref2_Net} {a_1 : List Int} (O : Hold W h m h m []) (e_0 : T_roadref2_Net.E m y_0 cs_0) (ne_1 : n_1 = List.length a_1) (k_1 : List.length a_1 ≤ c_1) (r_1 : Rd 1 (eInt .i64) m A_1 a_1) {r : (List Int) × Int} (e : roadref2_Waiting y_0 a_1 = some r) : Run Try.prog 48 #[Value.agg cs_0.toArray, Value.slice A_1 n_1 c_1] h (roadref2_Waiting.post W h m r) := by
  unfold roadref2_Waiting at e
  subst ne_1
  refine f48.run ?_
  unfold f48.runT
  refine O.new fun h1 x2 O3 => ?_
  obtain ⟨A5, c6, q7, k8, r9⟩ := T_roadref2_Net.g1 e_0
  refine ⟨_, ldk (k := 1) (Sub.refl _) (O3.all 0 rfl) q7, _, _, _, rfl, ?_⟩
  refine split_ne_e e (fun c16 e => ?_) (fun c16 e => ?_)
  · have O10 := O3.nil (aE (tell_int .i64)) none
    have O12 := O10.nm
    cases e
    exact ⟨_, _, _, _, O12.pick [1], rfl, rfl⟩
  · have O13 := O3.nil (aE (tell_int .i64)) none
    have O15 := O13.nm
    exact roadref2_Waiting.l0.walk (O15.pick [0, 1]).nm e_0 rfl rfl k_1 r_1 e
def roadlaw2_TalkSays.post (W : Nat → Prop) (h0 m0 : Heap) (r : Bool) (v : Value) (h : Heap) : Prop := ∃ m , Hold W h0 m0 h m [] ∧ v = .bool r
noncomputable def roadlaw2_TalkSays.j2 (a_2 : List Int) (a_14 : List Int) (x_15 : Int) (y_16 : T_roadref2_Net) : Option (Bool) :=
  Option.bind (roadref2_Waiting y_16 a_2) fun y1 => if x_15 = y1.2 then (Option.bind (slices_Equal_46 a_14 y1.1) fun y13 => some (y13)) else (some (false))
set_option maxRecDepth 100000 in
theorem roadlaw2_TalkSays.j2.walk {W : Nat → Prop} {h0 m0 h m : Heap} {A_2 : Option Addr} {n_2 c_2 : Nat} {A_14 : Option Addr} {n_14 c_14 : Nat} {bk_16 : Nat} {cs_16 : List Value} {a_2 : List Int} {a_14 : List Int} {x_15 : Int} {y_16 : T_roadref2_Net} (O : Hold W h0 m0 h m [rR (aE (tell_int .i64)) A_14 c_14 a_14, rV bk_16 87 cs_16]) (ne_2 : n_2 = List.length a_2) (k_2 : List.length a_2 ≤ c_2) (r_2 : Rd 1 (eInt .i64) m A_2 a_2) (ne_14 : n_14 = List.length a_14) (e_16 : T_roadref2_Net.E m y_16 cs_16) {r : Bool} (e : roadlaw2_TalkSays.j2 a_2 a_14 x_15 y_16 = some r) : f6.j2 (roadlaw2_TalkSays.post W h0 m0 r) A_2 n_2 c_2 A_14 n_14 c_14 x_15 (⟨bk_16, 0, none⟩ : Addr) h := by
  unfold roadlaw2_TalkSays.j2 at e
  subst ne_2
  subst ne_14
  refine f6.j2_in ?_
  unfold f6.j2T
  refine ⟨_, ldAn (Sub.refl _) (O.all 1 rfl) (T_roadref2_Net.T.len _ _ _ e_16), ?_⟩
  obtain ⟨y1, g2, e⟩ := bind_e e
  refine (roadref2_Waiting.walk (Hold.start (W := No) O.s) e_16 rfl k_2 r_2 g2).mono ?_
  rintro _ h3 ⟨m4, A7, n8, c9, Q5, rfl, ne10⟩
  have O12 := Hold.nm (O.retC Q5 (vfs_cons (rR_vf (aE_vf (fun _ _ _ _ h => h))) vfs_nil))
  subst ne10
  refine ⟨_, _, _, _, rfl, ?_⟩
  refine split_eq_e e (fun c29 e => ?_) (fun c29 e => ?_)
  · obtain ⟨y13, g14, e⟩ := bind_e e
    obtain ⟨m19, u20, s27, ⟨⟨r23, k24⟩, ⟨r25, k26⟩, _⟩, B21, C22⟩ := O12.lend0 [0, 2]
    replace r23 : Rd 1 (eInt .i64) m19 A_14 a_14 := r23
    replace k24 : List.length a_14 ≤ c_14 := k24
    replace r25 : Rd 1 (eInt .i64) m19 A7 y1.1 := r25
    replace k26 : List.length y1.1 ≤ c9 := k26
    refine (slices_Equal_46.walk (Hold.start (W := No) s27) rfl k24 r23 rfl k26 r25 g14).mono ?_
    rintro _ h15 ⟨m16, Q17, rfl⟩
    have O28 := Hold.nm (C22 Q17 vfs_nil)
    refine ⟨_, rfl, ?_⟩
    cases e
    exact ⟨_, O28.pick [], rfl⟩
  · cases e
    exact ⟨_, O12.pick [], rfl⟩
noncomputable def roadlaw2_TalkSays.j1 (a_1 : List Int) (a_2 : List Int) (a_11 : List Int) (a_12 : List Int) (x_13 : Int) (a_14 : List Int) (x_15 : Int) (y_16 : T_roadref2_Net) : Option (Bool) :=
  Option.bind (roadref2_Going y_16 a_1) fun y1 => if x_13 = (0 : Int) then (Option.bind (slices_Equal_46 a_11 y1.1) fun y18 => if y18 = true then (Option.bind (slices_Equal_46 a_12 y1.2) fun y34 => if y34 = true then ((roadlaw2_TalkSays.j2 a_2 a_14 x_15 y_16)) else (some (false))) else (some (false))) else (some (false))
set_option maxHeartbeats 4000000 in
set_option maxRecDepth 100000 in
theorem roadlaw2_TalkSays.j1.walk {W : Nat → Prop} {h0 m0 h m : Heap} {A_1 : Option Addr} {n_1 c_1 : Nat} {A_2 : Option Addr} {n_2 c_2 : Nat} {A_11 : Option Addr} {n_11 c_11 : Nat} {A_12 : Option Addr} {n_12 c_12 : Nat} {A_14 : Option Addr} {n_14 c_14 : Nat} {bk_16 : Nat} {cs_16 : List Value} {a_1 : List Int} {a_2 : List Int} {a_11 : List Int} {a_12 : List Int} {x_13 : Int} {a_14 : List Int} {x_15 : Int} {y_16 : T_roadref2_Net} (O : Hold W h0 m0 h m [rR (aE (tell_int .i64)) A_11 c_11 a_11, rR (aE (tell_int .i64)) A_12 c_12 a_12, rR (aE (tell_int .i64)) A_14 c_14 a_14, rV bk_16 87 cs_16]) (ne_1 : n_1 = List.length a_1) (k_1 : List.length a_1 ≤ c_1) (r_1 : Rd 1 (eInt .i64) m A_1 a_1) (ne_2 : n_2 = List.length a_2) (k_2 : List.length a_2 ≤ c_2) (r_2 : Rd 1 (eInt .i64) m A_2 a_2) (ne_11 : n_11 = List.length a_11) (ne_12 : n_12 = List.length a_12) (ne_14 : n_14 = List.length a_14) (e_16 : T_roadref2_Net.E m y_16 cs_16) {r : Bool} (e : roadlaw2_TalkSays.j1 a_1 a_2 a_11 a_12 x_13 a_14 x_15 y_16 = some r) : f6.j1 (roadlaw2_TalkSays.post W h0 m0 r) A_1 n_1 c_1 A_2 n_2 c_2 A_11 n_11 c_11 A_12 n_12 c_12 x_13 A_14 n_14 c_14 x_15 (⟨bk_16, 0, none⟩ : Addr) h := by
  unfold roadlaw2_TalkSays.j1 at e
  subst ne_1
  subst ne_2
  subst ne_11
  subst ne_12
  subst ne_14
  refine f6.j1_in ?_
  unfold f6.j1T
  refine ⟨_, ldAn (Sub.refl _) (O.all 3 rfl) (T_roadref2_Net.T.len _ _ _ e_16), ?_⟩
  obtain ⟨y1, g2, e⟩ := bind_e e
  refine (roadref2_Going.walk (Hold.start (W := No) O.s) e_16 rfl k_1 r_1 g2).mono ?_
  rintro _ h3 ⟨m4, A7, n8, c9, A12, n13, c14, Q5, rfl, ne10, ne15⟩
  have O17 := Hold.nm (O.retC Q5 (vfs_cons (rR_vf (aE_vf (fun _ _ _ _ h => h))) (vfs_cons (rR_vf (aE_vf (fun _ _ _ _ h => h))) vfs_nil)))
  subst ne10
  subst ne15
  refine ⟨_, _, _, _, _, _, rfl, ?_⟩
  refine split_ne_e e (fun c52 e => ?_) (fun c52 e => ?_)
  · cases e
    exact ⟨_, O17.pick [], rfl⟩
  · obtain ⟨y18, g19, e⟩ := bind_e e
    obtain ⟨m24, u25, s32, ⟨⟨r28, k29⟩, ⟨r30, k31⟩, _⟩, B26, C27⟩ := O17.lend0 [0, 4]
    replace r28 : Rd 1 (eInt .i64) m24 A_11 a_11 := r28
    replace k29 : List.length a_11 ≤ c_11 := k29
    replace r30 : Rd 1 (eInt .i64) m24 A7 y1.1 := r30
    replace k31 : List.length y1.1 ≤ c9 := k31
    refine (slices_Equal_46.walk (Hold.start (W := No) s32) rfl k29 r28 rfl k31 r30 g19).mono ?_
    rintro _ h20 ⟨m21, Q22, rfl⟩
    have O33 := Hold.nm (C27 Q22 vfs_nil)
    refine ⟨_, rfl, ?_⟩
    refine split_not ?_
    refine split_any_e e (fun c51 e => ?_) (fun c51 e => ?_)
    · obtain ⟨y34, g35, e⟩ := bind_e e
      obtain ⟨m40, u41, s48, ⟨⟨r44, k45⟩, ⟨r46, k47⟩, _⟩, B42, C43⟩ := O33.lend0 [1, 5]
      replace r44 : Rd 1 (eInt .i64) m40 A_12 a_12 := r44
      replace k45 : List.length a_12 ≤ c_12 := k45
      replace r46 : Rd 1 (eInt .i64) m40 A12 y1.2 := r46
      replace k47 : List.length y1.2 ≤ c14 := k47
      refine (slices_Equal_46.walk (Hold.start (W := No) s48) rfl k45 r44 rfl k47 r46 g35).mono ?_
      rintro _ h36 ⟨m37, Q38, rfl⟩
      have O49 := Hold.nm (C43 Q38 vfs_nil)
      refine ⟨_, rfl, ?_⟩
      refine split_not ?_
      refine split_any_e e (fun c50 e => ?_) (fun c50 e => ?_)
      · exact roadlaw2_TalkSays.j2.walk (O49.pick [2, 3]).nm rfl k_2 r_2 rfl e_16 e
      · cases e
        exact ⟨_, O49.pick [], rfl⟩
    · cases e
      exact ⟨_, O33.pick [], rfl⟩
noncomputable def roadlaw2_TalkSays.j0 (a_1 : List Int) (a_2 : List Int) (a_9 : List Int) (x_10 : Int) (a_11 : List Int) (a_12 : List Int) (x_13 : Int) (a_14 : List Int) (x_15 : Int) (y_16 : T_roadref2_Net) : Option (Bool) :=
  Option.bind (roadref2_RingOf y_16) fun y1 => if List.length y1 = 0 then (if x_10 = (4 : Int) then (if (((List.length a_9) : Nat) : Int) > (0 : Int) then (some (false)) else (if List.length y1 = 0 then ((roadlaw2_TalkSays.j1 a_1 a_2 a_11 a_12 x_13 a_14 x_15 y_16)) else (if x_10 = (0 : Int) then (Option.bind (slices_Equal_46 a_9 y1) fun y14 => if y14 = true then ((roadlaw2_TalkSays.j1 a_1 a_2 a_11 a_12 x_13 a_14 x_15 y_16)) else (some (false))) else (some (false))))) else (some (false))) else (if List.length y1 = 0 then ((roadlaw2_TalkSays.j1 a_1 a_2 a_11 a_12 x_13 a_14 x_15 y_16)) else (if x_10 = (0 : Int) then (Option.bind (slices_Equal_46 a_9 y1) fun y35 => if y35 = true then ((roadlaw2_TalkSays.j1 a_1 a_2 a_11 a_12 x_13 a_14 x_15 y_16)) else (some (false))) else (some (false))))
set_option maxHeartbeats 4000000 in
set_option maxRecDepth 100000 in
theorem roadlaw2_TalkSays.j0.walk {W : Nat → Prop} {h0 m0 h m : Heap} {A_1 : Option Addr} {n_1 c_1 : Nat} {A_2 : Option Addr} {n_2 c_2 : Nat} {A_9 : Option Addr} {n_9 c_9 : Nat} {A_11 : Option Addr} {n_11 c_11 : Nat} {A_12 : Option Addr} {n_12 c_12 : Nat} {A_14 : Option Addr} {n_14 c_14 : Nat} {bk_16 : Nat} {cs_16 : List Value} {a_1 : List Int} {a_2 : List Int} {a_9 : List Int} {x_10 : Int} {a_11 : List Int} {a_12 : List Int} {x_13 : Int} {a_14 : List Int} {x_15 : Int} {y_16 : T_roadref2_Net} (O : Hold W h0 m0 h m [rR (aE (tell_int .i64)) A_9 c_9 a_9, rR (aE (tell_int .i64)) A_11 c_11 a_11, rR (aE (tell_int .i64)) A_12 c_12 a_12, rR (aE (tell_int .i64)) A_14 c_14 a_14, rV bk_16 87 cs_16]) (ne_1 : n_1 = List.length a_1) (k_1 : List.length a_1 ≤ c_1) (r_1 : Rd 1 (eInt .i64) m A_1 a_1) (ne_2 : n_2 = List.length a_2) (k_2 : List.length a_2 ≤ c_2) (r_2 : Rd 1 (eInt .i64) m A_2 a_2) (ne_9 : n_9 = List.length a_9) (ne_11 : n_11 = List.length a_11) (ne_12 : n_12 = List.length a_12) (ne_14 : n_14 = List.length a_14) (e_16 : T_roadref2_Net.E m y_16 cs_16) {r : Bool} (e : roadlaw2_TalkSays.j0 a_1 a_2 a_9 x_10 a_11 a_12 x_13 a_14 x_15 y_16 = some r) : f6.j0 (roadlaw2_TalkSays.post W h0 m0 r) A_1 n_1 c_1 A_2 n_2 c_2 A_9 n_9 c_9 x_10 A_11 n_11 c_11 A_12 n_12 c_12 x_13 A_14 n_14 c_14 x_15 (⟨bk_16, 0, none⟩ : Addr) h := by
  unfold roadlaw2_TalkSays.j0 at e
  subst ne_1
  subst ne_2
  subst ne_9
  subst ne_11
  subst ne_12
  subst ne_14
  refine f6.j0_in ?_
  unfold f6.j0T
  refine ⟨_, ldAn (Sub.refl _) (O.all 4 rfl) (T_roadref2_Net.T.len _ _ _ e_16), ?_⟩
  obtain ⟨y1, g2, e⟩ := bind_e e
  refine (roadref2_RingOf.walk (Hold.start (W := No) O.s) e_16 g2).mono ?_
  rintro _ h3 ⟨m4, A7, n8, c9, Q5, rfl, ne10, zn12⟩
  have O13 := Hold.nm (O.retC Q5 (vfs_cons (rR_vf (aE_vf (fun _ _ _ _ h => h))) vfs_nil))
  subst ne10
  refine ⟨_, _, _, rfl, ?_⟩
  try rw [nil_dec zn12 (OS.nn ((O13.os 5 rfl)))]
  refine split_dec_e e (fun c54 e => ?_) (fun c54 e => ?_)
  · refine split_ne_e e (fun c34 e => ?_) (fun c34 e => ?_)
    · cases e
      exact ⟨_, O13.pick [], rfl⟩
    · refine split_dec_e e (fun c33 e => ?_) (fun c33 e => ?_)
      · cases e
        exact ⟨_, O13.pick [], rfl⟩
      · try rw [nil_dec zn12 (OS.nn ((O13.os 5 rfl)))]
        refine split_not ?_
        refine split_dec_e e (fun c32 e => ?_) (fun c32 e => ?_)
        · exact roadlaw2_TalkSays.j1.walk (O13.pick [1, 2, 3, 4]).nm rfl k_1 r_1 rfl k_2 r_2 rfl rfl rfl e_16 e
        · refine split_ne_e e (fun c31 e => ?_) (fun c31 e => ?_)
          · cases e
            exact ⟨_, O13.pick [], rfl⟩
          · obtain ⟨y14, g15, e⟩ := bind_e e
            obtain ⟨m20, u21, s28, ⟨⟨r24, k25⟩, ⟨r26, k27⟩, _⟩, B22, C23⟩ := O13.lend0 [0, 5]
            replace r24 : Rd 1 (eInt .i64) m20 A_9 a_9 := r24
            replace k25 : List.length a_9 ≤ c_9 := k25
            replace r26 : Rd 1 (eInt .i64) m20 A7 y1 := r26
            replace k27 : List.length y1 ≤ c9 := k27
            refine (slices_Equal_46.walk (Hold.start (W := No) s28) rfl k25 r24 rfl k27 r26 g15).mono ?_
            rintro _ h16 ⟨m17, Q18, rfl⟩
            have O29 := Hold.nm (C23 Q18 vfs_nil)
            refine ⟨_, rfl, ?_⟩
            refine split_not ?_
            refine split_any_e e (fun c30 e => ?_) (fun c30 e => ?_)
            · exact roadlaw2_TalkSays.j1.walk (O29.pick [1, 2, 3, 4]).nm rfl k_1 r_1 rfl k_2 r_2 rfl rfl rfl e_16 e
            · cases e
              exact ⟨_, O29.pick [], rfl⟩
  · try rw [nil_dec zn12 (OS.nn ((O13.os 5 rfl)))]
    refine split_not ?_
    refine split_dec_e e (fun c53 e => ?_) (fun c53 e => ?_)
    · exact roadlaw2_TalkSays.j1.walk (O13.pick [1, 2, 3, 4]).nm rfl k_1 r_1 rfl k_2 r_2 rfl rfl rfl e_16 e
    · refine split_ne_e e (fun c52 e => ?_) (fun c52 e => ?_)
      · cases e
        exact ⟨_, O13.pick [], rfl⟩
      · obtain ⟨y35, g36, e⟩ := bind_e e
        obtain ⟨m41, u42, s49, ⟨⟨r45, k46⟩, ⟨r47, k48⟩, _⟩, B43, C44⟩ := O13.lend0 [0, 5]
        replace r45 : Rd 1 (eInt .i64) m41 A_9 a_9 := r45
        replace k46 : List.length a_9 ≤ c_9 := k46
        replace r47 : Rd 1 (eInt .i64) m41 A7 y1 := r47
        replace k48 : List.length y1 ≤ c9 := k48
        refine (slices_Equal_46.walk (Hold.start (W := No) s49) rfl k46 r45 rfl k48 r47 g36).mono ?_
        rintro _ h37 ⟨m38, Q39, rfl⟩
        have O50 := Hold.nm (C44 Q39 vfs_nil)
        refine ⟨_, rfl, ?_⟩
        refine split_not ?_
        refine split_any_e e (fun c51 e => ?_) (fun c51 e => ?_)
        · exact roadlaw2_TalkSays.j1.walk (O50.pick [1, 2, 3, 4]).nm rfl k_1 r_1 rfl k_2 r_2 rfl rfl rfl e_16 e
        · cases e
          exact ⟨_, O50.pick [], rfl⟩
inductive roadlaw2_TalkSays.l1_k.Pt where
  | l1 (a_1 : List Int) (a_2 : List Int) (y_3 : T_talk_Net) (x_7 : Int) (x_8 : Int) (a_9 : List Int) (x_10 : Int) (a_11 : List Int) (a_12 : List Int) (x_13 : Int) (a_14 : List Int) (x_15 : Int) (a_16_0 : (List (List Int))) (a_16_1 : (List (List (List Int)))) (a_74 : List (List T_talk_Deed)) (x_75 : Int) (x_76 : Int)
  | l2 (a_1 : List Int) (a_2 : List Int) (y_3 : T_talk_Net) (x_7 : Int) (x_8 : Int) (a_9 : List Int) (x_10 : Int) (a_11 : List Int) (a_12 : List Int) (x_13 : Int) (a_14 : List Int) (x_15 : Int) (a_16_0 : (List (List Int))) (a_16_1 : (List (List (List Int)))) (a_21 : List (List Int)) (a_74 : List (List T_talk_Deed)) (x_75 : Int) (x_76 : Int) (a_80 : List T_talk_Deed) (x_81 : Int) (x_82 : Int)
  | j3 (a_1 : List Int) (a_2 : List Int) (y_3 : T_talk_Net) (x_7 : Int) (x_8 : Int) (a_9 : List Int) (x_10 : Int) (a_11 : List Int) (a_12 : List Int) (x_13 : Int) (a_14 : List Int) (x_15 : Int) (a_16_0 : (List (List Int))) (a_16_1 : (List (List (List Int)))) (a_21 : List (List Int)) (y_23 : T_talk_Deed) (x_24 : Int) (a_74 : List (List T_talk_Deed)) (x_75 : Int) (x_76 : Int) (a_80 : List T_talk_Deed) (x_81 : Int) (x_82 : Int)
noncomputable def roadlaw2_TalkSays.l1_k.body (go : (p : roadlaw2_TalkSays.l1_k.Pt) → Option (Bool)) : (p : roadlaw2_TalkSays.l1_k.Pt) → Option (Bool)
  | .l1 a_1 a_2 y_3 x_7 x_8 a_9 x_10 a_11 a_12 x_13 a_14 x_15 a_16_0 a_16_1 a_74 x_75 x_76 => if x_76 < x_75 then (Option.bind (gi a_74 x_76) fun y1 => (go (.l2 a_1 a_2 y_3 x_7 x_8 a_9 x_10 a_11 a_12 x_13 a_14 x_15 a_16_0 a_16_1 ([] : List (List Int)) a_74 x_75 x_76 y1 (((List.length y1) : Nat) : Int) (0 : Int)))) else (Option.bind (roadref2_NetErr (T_roadref2_Net.mk a_16_0 a_16_1)) fun y11 => Option.bind (talk_Check y_3) fun y25 => if y25 = y11 then (if y11 = (0 : Int) then (if x_8 = (0 : Int) then (Option.bind (roadref2_Mismatch (T_roadref2_Net.mk a_16_0 a_16_1)) fun y37 => if x_7 = y37 then ((roadlaw2_TalkSays.j0 a_1 a_2 a_9 x_10 a_11 a_12 x_13 a_14 x_15 (T_roadref2_Net.mk a_16_0 a_16_1))) else (some (false))) else (some (false))) else (if x_8 = y11 then (if x_10 = y11 then (if x_13 = y11 then (if x_15 = y11 then (if x_7 = (0 : Int) then (some (((IntKind.wrap .i64 ((IntKind.wrap .i64 ((IntKind.wrap .i64 ((((List.length a_9) : Nat) : Int) + (((List.length a_11) : Nat) : Int))) + (((List.length a_12) : Nat) : Int))) + (((List.length a_14) : Nat) : Int))) == (0 : Int)))) else (some (false))) else (some (false))) else (some (false))) else (some (false))) else (some (false)))) else (some (false)))
  | .l2 a_1 a_2 y_3 x_7 x_8 a_9 x_10 a_11 a_12 x_13 a_14 x_15 a_16_0 a_16_1 a_21 a_74 x_75 x_76 a_80 x_81 x_82 => if x_82 < x_81 then (Option.bind (gi a_80 x_82) fun y1 => if y1.Send = true then ((go (.j3 a_1 a_2 y_3 x_7 x_8 a_9 x_10 a_11 a_12 x_13 a_14 x_15 a_16_0 a_16_1 a_21 y1 (1 : Int) a_74 x_75 x_76 a_80 x_81 x_82))) else ((go (.j3 a_1 a_2 y_3 x_7 x_8 a_9 x_10 a_11 a_12 x_13 a_14 x_15 a_16_0 a_16_1 a_21 y1 (0 : Int) a_74 x_75 x_76 a_80 x_81 x_82)))) else (Option.bind (ap 24 a_16_1 ([a_21] : List (List (List Int)))) fun l21 => (go (.l1 a_1 a_2 y_3 x_7 x_8 a_9 x_10 a_11 a_12 x_13 a_14 x_15 a_16_0 l21 a_74 x_75 (IntKind.wrap .i64 (x_76 + (1 : Int))))))
  | .j3 a_1 a_2 y_3 x_7 x_8 a_9 x_10 a_11 a_12 x_13 a_14 x_15 a_16_0 a_16_1 a_21 y_23 x_24 a_74 x_75 x_76 a_80 x_81 x_82 => Option.bind (ap 24 a_21 ([([y_23.Line, x_24, y_23.Msg] : List Int)] : List (List Int))) fun l5 => (go (.l2 a_1 a_2 y_3 x_7 x_8 a_9 x_10 a_11 a_12 x_13 a_14 x_15 a_16_0 a_16_1 l5 a_74 x_75 x_76 a_80 x_81 (IntKind.wrap .i64 (x_82 + (1 : Int)))))
theorem roadlaw2_TalkSays.l1_k.mono : MonoF (β := fun _ => (Bool)) roadlaw2_TalkSays.l1_k.body := fun f g hfg p => match p with
  | .l1 a_1 a_2 y_3 x_7 x_8 a_9 x_10 a_11 a_12 x_13 a_14 x_15 a_16_0 a_16_1 a_74 x_75 x_76 => LeO.ite (LeO.bind (LeO.refl _) fun y1 => (hfg _)) (LeO.bind (LeO.refl _) fun y11 => LeO.bind (LeO.refl _) fun y25 => LeO.ite (LeO.ite (LeO.ite (LeO.bind (LeO.refl _) fun y37 => LeO.ite ((LeO.refl _)) (LeO.refl _)) (LeO.refl _)) (LeO.ite (LeO.ite (LeO.ite (LeO.ite (LeO.ite (LeO.refl _) (LeO.refl _)) (LeO.refl _)) (LeO.refl _)) (LeO.refl _)) (LeO.refl _))) (LeO.refl _))
  | .l2 a_1 a_2 y_3 x_7 x_8 a_9 x_10 a_11 a_12 x_13 a_14 x_15 a_16_0 a_16_1 a_21 a_74 x_75 x_76 a_80 x_81 x_82 => LeO.ite (LeO.bind (LeO.refl _) fun y1 => LeO.ite ((hfg _)) ((hfg _))) (LeO.bind (LeO.refl _) fun l21 => (hfg _))
  | .j3 a_1 a_2 y_3 x_7 x_8 a_9 x_10 a_11 a_12 x_13 a_14 x_15 a_16_0 a_16_1 a_21 y_23 x_24 a_74 x_75 x_76 a_80 x_81 x_82 => LeO.bind (LeO.refl _) fun l5 => (hfg _)
noncomputable def roadlaw2_TalkSays.l1_k.go (p : roadlaw2_TalkSays.l1_k.Pt) : Option (Bool) := fixF (β := fun _ => (Bool)) roadlaw2_TalkSays.l1_k.body p
noncomputable def roadlaw2_TalkSays.l1 (a_1 : List Int) (a_2 : List Int) (y_3 : T_talk_Net) (x_7 : Int) (x_8 : Int) (a_9 : List Int) (x_10 : Int) (a_11 : List Int) (a_12 : List Int) (x_13 : Int) (a_14 : List Int) (x_15 : Int) (a_16_0 : (List (List Int))) (a_16_1 : (List (List (List Int)))) (a_74 : List (List T_talk_Deed)) (x_75 : Int) (x_76 : Int) : Option (Bool) := roadlaw2_TalkSays.l1_k.go (.l1 a_1 a_2 y_3 x_7 x_8 a_9 x_10 a_11 a_12 x_13 a_14 x_15 a_16_0 a_16_1 a_74 x_75 x_76)
noncomputable def roadlaw2_TalkSays.l2 (a_1 : List Int) (a_2 : List Int) (y_3 : T_talk_Net) (x_7 : Int) (x_8 : Int) (a_9 : List Int) (x_10 : Int) (a_11 : List Int) (a_12 : List Int) (x_13 : Int) (a_14 : List Int) (x_15 : Int) (a_16_0 : (List (List Int))) (a_16_1 : (List (List (List Int)))) (a_21 : List (List Int)) (a_74 : List (List T_talk_Deed)) (x_75 : Int) (x_76 : Int) (a_80 : List T_talk_Deed) (x_81 : Int) (x_82 : Int) : Option (Bool) := roadlaw2_TalkSays.l1_k.go (.l2 a_1 a_2 y_3 x_7 x_8 a_9 x_10 a_11 a_12 x_13 a_14 x_15 a_16_0 a_16_1 a_21 a_74 x_75 x_76 a_80 x_81 x_82)
noncomputable def roadlaw2_TalkSays.j3 (a_1 : List Int) (a_2 : List Int) (y_3 : T_talk_Net) (x_7 : Int) (x_8 : Int) (a_9 : List Int) (x_10 : Int) (a_11 : List Int) (a_12 : List Int) (x_13 : Int) (a_14 : List Int) (x_15 : Int) (a_16_0 : (List (List Int))) (a_16_1 : (List (List (List Int)))) (a_21 : List (List Int)) (y_23 : T_talk_Deed) (x_24 : Int) (a_74 : List (List T_talk_Deed)) (x_75 : Int) (x_76 : Int) (a_80 : List T_talk_Deed) (x_81 : Int) (x_82 : Int) : Option (Bool) := roadlaw2_TalkSays.l1_k.go (.j3 a_1 a_2 y_3 x_7 x_8 a_9 x_10 a_11 a_12 x_13 a_14 x_15 a_16_0 a_16_1 a_21 y_23 x_24 a_74 x_75 x_76 a_80 x_81 x_82)
theorem roadlaw2_TalkSays.l1_eq (a_1 : List Int) (a_2 : List Int) (y_3 : T_talk_Net) (x_7 : Int) (x_8 : Int) (a_9 : List Int) (x_10 : Int) (a_11 : List Int) (a_12 : List Int) (x_13 : Int) (a_14 : List Int) (x_15 : Int) (a_16_0 : (List (List Int))) (a_16_1 : (List (List (List Int)))) (a_74 : List (List T_talk_Deed)) (x_75 : Int) (x_76 : Int) : roadlaw2_TalkSays.l1 a_1 a_2 y_3 x_7 x_8 a_9 x_10 a_11 a_12 x_13 a_14 x_15 a_16_0 a_16_1 a_74 x_75 x_76 = if x_76 < x_75 then (Option.bind (gi a_74 x_76) fun y1 => (roadlaw2_TalkSays.l2 a_1 a_2 y_3 x_7 x_8 a_9 x_10 a_11 a_12 x_13 a_14 x_15 a_16_0 a_16_1 ([] : List (List Int)) a_74 x_75 x_76 y1 (((List.length y1) : Nat) : Int) (0 : Int))) else (Option.bind (roadref2_NetErr (T_roadref2_Net.mk a_16_0 a_16_1)) fun y11 => Option.bind (talk_Check y_3) fun y25 => if y25 = y11 then (if y11 = (0 : Int) then (if x_8 = (0 : Int) then (Option.bind (roadref2_Mismatch (T_roadref2_Net.mk a_16_0 a_16_1)) fun y37 => if x_7 = y37 then ((roadlaw2_TalkSays.j0 a_1 a_2 a_9 x_10 a_11 a_12 x_13 a_14 x_15 (T_roadref2_Net.mk a_16_0 a_16_1))) else (some (false))) else (some (false))) else (if x_8 = y11 then (if x_10 = y11 then (if x_13 = y11 then (if x_15 = y11 then (if x_7 = (0 : Int) then (some (((IntKind.wrap .i64 ((IntKind.wrap .i64 ((IntKind.wrap .i64 ((((List.length a_9) : Nat) : Int) + (((List.length a_11) : Nat) : Int))) + (((List.length a_12) : Nat) : Int))) + (((List.length a_14) : Nat) : Int))) == (0 : Int)))) else (some (false))) else (some (false))) else (some (false))) else (some (false))) else (some (false)))) else (some (false))) := fixF_eq roadlaw2_TalkSays.l1_k.mono _
theorem roadlaw2_TalkSays.l2_eq (a_1 : List Int) (a_2 : List Int) (y_3 : T_talk_Net) (x_7 : Int) (x_8 : Int) (a_9 : List Int) (x_10 : Int) (a_11 : List Int) (a_12 : List Int) (x_13 : Int) (a_14 : List Int) (x_15 : Int) (a_16_0 : (List (List Int))) (a_16_1 : (List (List (List Int)))) (a_21 : List (List Int)) (a_74 : List (List T_talk_Deed)) (x_75 : Int) (x_76 : Int) (a_80 : List T_talk_Deed) (x_81 : Int) (x_82 : Int) : roadlaw2_TalkSays.l2 a_1 a_2 y_3 x_7 x_8 a_9 x_10 a_11 a_12 x_13 a_14 x_15 a_16_0 a_16_1 a_21 a_74 x_75 x_76 a_80 x_81 x_82 = if x_82 < x_81 then (Option.bind (gi a_80 x_82) fun y1 => if y1.Send = true then ((roadlaw2_TalkSays.j3 a_1 a_2 y_3 x_7 x_8 a_9 x_10 a_11 a_12 x_13 a_14 x_15 a_16_0 a_16_1 a_21 y1 (1 : Int) a_74 x_75 x_76 a_80 x_81 x_82)) else ((roadlaw2_TalkSays.j3 a_1 a_2 y_3 x_7 x_8 a_9 x_10 a_11 a_12 x_13 a_14 x_15 a_16_0 a_16_1 a_21 y1 (0 : Int) a_74 x_75 x_76 a_80 x_81 x_82))) else (Option.bind (ap 24 a_16_1 ([a_21] : List (List (List Int)))) fun l21 => (roadlaw2_TalkSays.l1 a_1 a_2 y_3 x_7 x_8 a_9 x_10 a_11 a_12 x_13 a_14 x_15 a_16_0 l21 a_74 x_75 (IntKind.wrap .i64 (x_76 + (1 : Int))))) := fixF_eq roadlaw2_TalkSays.l1_k.mono _
theorem roadlaw2_TalkSays.j3_eq (a_1 : List Int) (a_2 : List Int) (y_3 : T_talk_Net) (x_7 : Int) (x_8 : Int) (a_9 : List Int) (x_10 : Int) (a_11 : List Int) (a_12 : List Int) (x_13 : Int) (a_14 : List Int) (x_15 : Int) (a_16_0 : (List (List Int))) (a_16_1 : (List (List (List Int)))) (a_21 : List (List Int)) (y_23 : T_talk_Deed) (x_24 : Int) (a_74 : List (List T_talk_Deed)) (x_75 : Int) (x_76 : Int) (a_80 : List T_talk_Deed) (x_81 : Int) (x_82 : Int) : roadlaw2_TalkSays.j3 a_1 a_2 y_3 x_7 x_8 a_9 x_10 a_11 a_12 x_13 a_14 x_15 a_16_0 a_16_1 a_21 y_23 x_24 a_74 x_75 x_76 a_80 x_81 x_82 = Option.bind (ap 24 a_21 ([([y_23.Line, x_24, y_23.Msg] : List Int)] : List (List Int))) fun l5 => (roadlaw2_TalkSays.l2 a_1 a_2 y_3 x_7 x_8 a_9 x_10 a_11 a_12 x_13 a_14 x_15 a_16_0 a_16_1 l5 a_74 x_75 x_76 a_80 x_81 (IntKind.wrap .i64 (x_82 + (1 : Int)))) := fixF_eq roadlaw2_TalkSays.l1_k.mono _
def roadlaw2_TalkSays.l1_k.I : (p : roadlaw2_TalkSays.l1_k.Pt) → (Bool) → Prop
  | .l1 a_1 a_2 y_3 x_7 x_8 a_9 x_10 a_11 a_12 x_13 a_14 x_15 a_16_0 a_16_1 a_74 x_75 x_76, r => ∀ (W : Nat → Prop) (h0 m0 h m : Heap) (A_1 : Option Addr) (n_1 c_1 : Nat) (A_2 : Option Addr) (n_2 c_2 : Nat) (bk_3 : Nat) (cs_3 : List Value) (A_9 : Option Addr) (n_9 c_9 : Nat) (A_11 : Option Addr) (n_11 c_11 : Nat) (A_12 : Option Addr) (n_12 c_12 : Nat) (A_14 : Option Addr) (n_14 c_14 : Nat) (bk_16 : Nat) (A_16_0_0 : Option Addr) (n_16_0_0 : Nat) (c_16_0_0 : Nat) (A_16_1_0 : Option Addr) (n_16_1_0 : Nat) (c_16_1_0 : Nat) (A_74 : Option Addr) (n_74 c_74 : Nat) (O : Hold W h0 m0 h m [rV bk_3 78 cs_3, rR (aE (tell_int .i64)) A_9 c_9 a_9, rR (aE (tell_int .i64)) A_11 c_11 a_11, rR (aE (tell_int .i64)) A_12 c_12 a_12, rR (aE (tell_int .i64)) A_14 c_14 a_14, rV bk_16 87 [(Value.slice A_16_0_0 n_16_0_0 c_16_0_0), (Value.slice A_16_1_0 n_16_1_0 c_16_1_0)], rR (aE (tell_row (tell_arr (n := 3) (f := (fun n : Int => Value.int .i64 n)) (d := (0 : Int)) (fun _ => trivial)))) A_16_1_0 c_16_1_0 a_16_1]) (ne_1 : n_1 = List.length a_1) (k_1 : List.length a_1 ≤ c_1) (r_1 : Rd 1 (eInt .i64) m A_1 a_1) (ne_2 : n_2 = List.length a_2) (k_2 : List.length a_2 ≤ c_2) (r_2 : Rd 1 (eInt .i64) m A_2 a_2) (e_3 : T_talk_Net.E m y_3 cs_3) (ne_9 : n_9 = List.length a_9) (ne_11 : n_11 = List.length a_11) (ne_12 : n_12 = List.length a_12) (ne_14 : n_14 = List.length a_14) (ne_16_0_0 : n_16_0_0 = List.length a_16_0) (k_16_0_0 : List.length a_16_0 ≤ c_16_0_0) (r_16_0_0 : Rd 2 (eArr 2 (fun n : Int => Value.int .i64 n) (0 : Int)) m A_16_0_0 a_16_0) (ne_16_1_0 : n_16_1_0 = List.length a_16_1) (ne_74 : n_74 = List.length a_74) (k_74 : List.length a_74 ≤ c_74) (r_74 : Rd 1 (eRow 3 T_talk_Deed.E) m A_74 a_74), f6.l1 (roadlaw2_TalkSays.post W h0 m0 r) A_1 n_1 c_1 A_2 n_2 c_2 (⟨bk_3, 0, none⟩ : Addr) x_7 x_8 A_9 n_9 c_9 x_10 A_11 n_11 c_11 A_12 n_12 c_12 x_13 A_14 n_14 c_14 x_15 (⟨bk_16, 0, none⟩ : Addr) A_74 n_74 c_74 x_75 x_76 h
  | .l2 a_1 a_2 y_3 x_7 x_8 a_9 x_10 a_11 a_12 x_13 a_14 x_15 a_16_0 a_16_1 a_21 a_74 x_75 x_76 a_80 x_81 x_82, r => ∀ (W : Nat → Prop) (h0 m0 h m : Heap) (A_1 : Option Addr) (n_1 c_1 : Nat) (A_2 : Option Addr) (n_2 c_2 : Nat) (bk_3 : Nat) (cs_3 : List Value) (A_9 : Option Addr) (n_9 c_9 : Nat) (A_11 : Option Addr) (n_11 c_11 : Nat) (A_12 : Option Addr) (n_12 c_12 : Nat) (A_14 : Option Addr) (n_14 c_14 : Nat) (bk_16 : Nat) (A_16_0_0 : Option Addr) (n_16_0_0 : Nat) (c_16_0_0 : Nat) (A_16_1_0 : Option Addr) (n_16_1_0 : Nat) (c_16_1_0 : Nat) (A_21 : Option Addr) (n_21 c_21 : Nat) (A_74 : Option Addr) (n_74 c_74 : Nat) (A_80 : Option Addr) (n_80 c_80 : Nat) (O : Hold W h0 m0 h m [rV bk_3 78 cs_3, rR (aE (tell_int .i64)) A_9 c_9 a_9, rR (aE (tell_int .i64)) A_11 c_11 a_11, rR (aE (tell_int .i64)) A_12 c_12 a_12, rR (aE (tell_int .i64)) A_14 c_14 a_14, rV bk_16 87 [(Value.slice A_16_0_0 n_16_0_0 c_16_0_0), (Value.slice A_16_1_0 n_16_1_0 c_16_1_0)], rR (aE (tell_row (tell_arr (n := 3) (f := (fun n : Int => Value.int .i64 n)) (d := (0 : Int)) (fun _ => trivial)))) A_16_1_0 c_16_1_0 a_16_1, rR (aE (tell_arr (n := 3) (f := (fun n : Int => Value.int .i64 n)) (d := (0 : Int)) (fun _ => trivial))) A_21 c_21 a_21]) (ne_1 : n_1 = List.length a_1) (k_1 : List.length a_1 ≤ c_1) (r_1 : Rd 1 (eInt .i64) m A_1 a_1) (ne_2 : n_2 = List.length a_2) (k_2 : List.length a_2 ≤ c_2) (r_2 : Rd 1 (eInt .i64) m A_2 a_2) (e_3 : T_talk_Net.E m y_3 cs_3) (ne_9 : n_9 = List.length a_9) (ne_11 : n_11 = List.length a_11) (ne_12 : n_12 = List.length a_12) (ne_14 : n_14 = List.length a_14) (ne_16_0_0 : n_16_0_0 = List.length a_16_0) (k_16_0_0 : List.length a_16_0 ≤ c_16_0_0) (r_16_0_0 : Rd 2 (eArr 2 (fun n : Int => Value.int .i64 n) (0 : Int)) m A_16_0_0 a_16_0) (ne_16_1_0 : n_16_1_0 = List.length a_16_1) (ne_21 : n_21 = List.length a_21) (ne_74 : n_74 = List.length a_74) (k_74 : List.length a_74 ≤ c_74) (r_74 : Rd 1 (eRow 3 T_talk_Deed.E) m A_74 a_74) (ne_80 : n_80 = List.length a_80) (k_80 : List.length a_80 ≤ c_80) (r_80 : Rd 3 T_talk_Deed.E m A_80 a_80), f6.l2 (roadlaw2_TalkSays.post W h0 m0 r) A_1 n_1 c_1 A_2 n_2 c_2 (⟨bk_3, 0, none⟩ : Addr) x_7 x_8 A_9 n_9 c_9 x_10 A_11 n_11 c_11 A_12 n_12 c_12 x_13 A_14 n_14 c_14 x_15 (⟨bk_16, 0, none⟩ : Addr) A_21 n_21 c_21 A_74 n_74 c_74 x_75 x_76 A_80 n_80 c_80 x_81 x_82 h
  | .j3 a_1 a_2 y_3 x_7 x_8 a_9 x_10 a_11 a_12 x_13 a_14 x_15 a_16_0 a_16_1 a_21 y_23 x_24 a_74 x_75 x_76 a_80 x_81 x_82, r => ∀ (W : Nat → Prop) (h0 m0 h m : Heap) (A_1 : Option Addr) (n_1 c_1 : Nat) (A_2 : Option Addr) (n_2 c_2 : Nat) (bk_3 : Nat) (cs_3 : List Value) (A_9 : Option Addr) (n_9 c_9 : Nat) (A_11 : Option Addr) (n_11 c_11 : Nat) (A_12 : Option Addr) (n_12 c_12 : Nat) (A_14 : Option Addr) (n_14 c_14 : Nat) (bk_16 : Nat) (A_16_0_0 : Option Addr) (n_16_0_0 : Nat) (c_16_0_0 : Nat) (A_16_1_0 : Option Addr) (n_16_1_0 : Nat) (c_16_1_0 : Nat) (A_21 : Option Addr) (n_21 c_21 : Nat) (bk_23 : Nat) (cs_23 : List Value) (A_74 : Option Addr) (n_74 c_74 : Nat) (A_80 : Option Addr) (n_80 c_80 : Nat) (O : Hold W h0 m0 h m [rV bk_3 78 cs_3, rR (aE (tell_int .i64)) A_9 c_9 a_9, rR (aE (tell_int .i64)) A_11 c_11 a_11, rR (aE (tell_int .i64)) A_12 c_12 a_12, rR (aE (tell_int .i64)) A_14 c_14 a_14, rV bk_16 87 [(Value.slice A_16_0_0 n_16_0_0 c_16_0_0), (Value.slice A_16_1_0 n_16_1_0 c_16_1_0)], rR (aE (tell_row (tell_arr (n := 3) (f := (fun n : Int => Value.int .i64 n)) (d := (0 : Int)) (fun _ => trivial)))) A_16_1_0 c_16_1_0 a_16_1, rR (aE (tell_arr (n := 3) (f := (fun n : Int => Value.int .i64 n)) (d := (0 : Int)) (fun _ => trivial))) A_21 c_21 a_21, rV bk_23 93 cs_23]) (ne_1 : n_1 = List.length a_1) (k_1 : List.length a_1 ≤ c_1) (r_1 : Rd 1 (eInt .i64) m A_1 a_1) (ne_2 : n_2 = List.length a_2) (k_2 : List.length a_2 ≤ c_2) (r_2 : Rd 1 (eInt .i64) m A_2 a_2) (e_3 : T_talk_Net.E m y_3 cs_3) (ne_9 : n_9 = List.length a_9) (ne_11 : n_11 = List.length a_11) (ne_12 : n_12 = List.length a_12) (ne_14 : n_14 = List.length a_14) (ne_16_0_0 : n_16_0_0 = List.length a_16_0) (k_16_0_0 : List.length a_16_0 ≤ c_16_0_0) (r_16_0_0 : Rd 2 (eArr 2 (fun n : Int => Value.int .i64 n) (0 : Int)) m A_16_0_0 a_16_0) (ne_16_1_0 : n_16_1_0 = List.length a_16_1) (ne_21 : n_21 = List.length a_21) (e_23 : T_talk_Deed.E m y_23 cs_23) (ne_74 : n_74 = List.length a_74) (k_74 : List.length a_74 ≤ c_74) (r_74 : Rd 1 (eRow 3 T_talk_Deed.E) m A_74 a_74) (ne_80 : n_80 = List.length a_80) (k_80 : List.length a_80 ≤ c_80) (r_80 : Rd 3 T_talk_Deed.E m A_80 a_80), f6.j3 (roadlaw2_TalkSays.post W h0 m0 r) A_1 n_1 c_1 A_2 n_2 c_2 (⟨bk_3, 0, none⟩ : Addr) x_7 x_8 A_9 n_9 c_9 x_10 A_11 n_11 c_11 A_12 n_12 c_12 x_13 A_14 n_14 c_14 x_15 (⟨bk_16, 0, none⟩ : Addr) A_21 n_21 c_21 (⟨bk_23, 0, none⟩ : Addr) x_24 A_74 n_74 c_74 x_75 x_76 A_80 n_80 c_80 x_81 x_82 h
set_option maxHeartbeats 4000000 in
set_option maxRecDepth 100000 in
theorem roadlaw2_TalkSays.l1_k.step_l1 (go : (p : roadlaw2_TalkSays.l1_k.Pt) → Option (Bool)) (ih : ∀ p r, go p = some r → roadlaw2_TalkSays.l1_k.I p r) (a_1 : List Int) (a_2 : List Int) (y_3 : T_talk_Net) (x_7 : Int) (x_8 : Int) (a_9 : List Int) (x_10 : Int) (a_11 : List Int) (a_12 : List Int) (x_13 : Int) (a_14 : List Int) (x_15 : Int) (a_16_0 : (List (List Int))) (a_16_1 : (List (List (List Int)))) (a_74 : List (List T_talk_Deed)) (x_75 : Int) (x_76 : Int) (r : Bool) (e : roadlaw2_TalkSays.l1_k.body go (.l1 a_1 a_2 y_3 x_7 x_8 a_9 x_10 a_11 a_12 x_13 a_14 x_15 a_16_0 a_16_1 a_74 x_75 x_76) = some r) : roadlaw2_TalkSays.l1_k.I (.l1 a_1 a_2 y_3 x_7 x_8 a_9 x_10 a_11 a_12 x_13 a_14 x_15 a_16_0 a_16_1 a_74 x_75 x_76) r := by
  unfold roadlaw2_TalkSays.l1_k.body at e
  intro W h0 m0 h m A_1 n_1 c_1 A_2 n_2 c_2 bk_3 cs_3 A_9 n_9 c_9 A_11 n_11 c_11 A_12 n_12 c_12 A_14 n_14 c_14 bk_16 A_16_0_0 n_16_0_0 c_16_0_0 A_16_1_0 n_16_1_0 c_16_1_0 A_74 n_74 c_74 O ne_1 k_1 r_1 ne_2 k_2 r_2 e_3 ne_9 ne_11 ne_12 ne_14 ne_16_0_0 k_16_0_0 r_16_0_0 ne_16_1_0 ne_74 k_74 r_74
  subst ne_1
  subst ne_2
  subst ne_9
  subst ne_11
  subst ne_12
  subst ne_14
  subst ne_16_0_0
  subst ne_16_1_0
  subst ne_74
  refine f6.l1_in ?_
  unfold f6.l1T
  refine split_dec_e e (fun c61 e => ?_) (fun c61 e => ?_)
  · obtain ⟨y1, g2, e⟩ := bind_e e
    refine r_74.addr rfl g2 fun a3 cs4 ha5 hc6 he7 => ?_
    obtain ⟨Acs4_0, ccs4_0, rfl, kcs4_0, rcs4_0⟩ := id he7
    refine ⟨_, ld0 O.s hc6 rfl, _, _, _, rfl, ?_⟩
    have O8 := O.nil (aE (tell_arr (n := 3) (f := (fun n : Int => Value.int .i64 n)) (d := (0 : Int)) (fun _ => trivial))) none
    have O10 := O8.nm
    exact (ih _ _ e) _ _ _ _ _ _ _ _ _ _ _ _ _ _ _ _ _ _ _ _ _ _ _ _ _ _ _ _ _ _ _ _ _ _ _ _ _ _ _ _ _ (O10.pick [0, 1, 2, 3, 4, 5, 6, 7]).nm rfl k_1 r_1 rfl k_2 r_2 e_3 rfl rfl rfl rfl rfl k_16_0_0 r_16_0_0 rfl rfl rfl k_74 r_74 rfl kcs4_0 rcs4_0
  · refine ⟨_, ldAn (Sub.refl _) (O.all 5 rfl) rfl, ?_⟩
    obtain ⟨y11, g12, e⟩ := bind_e e
    obtain ⟨m17, u18, s23, ⟨⟨r21, k22⟩, _⟩, B19, C20⟩ := O.lend0 [6]
    replace r21 : Rd 1 (eRow 3 (eArr 3 (fun n : Int => Value.int .i64 n) (0 : Int))) m17 A_16_1_0 a_16_1 := r21
    replace k22 : List.length a_16_1 ≤ c_16_1_0 := k22
    refine (roadref2_NetErr.walk (Hold.start (W := No) s23) (show T_roadref2_Net.E _ (T_roadref2_Net.mk a_16_0 a_16_1) [(Value.slice A_16_0_0 (List.length a_16_0) c_16_0_0), (Value.slice A_16_1_0 (List.length a_16_1) c_16_1_0)] from ⟨_, _, _, _, rfl, k_16_0_0, (r_16_0_0.sub (tell_arr (n := 2) (f := (fun n : Int => Value.int .i64 n)) (d := (0 : Int)) (fun _ => trivial)) u18), k22, r21⟩) g12).mono ?_
    rintro _ h13 ⟨m14, Q15, rfl⟩
    have O24 := Hold.nm (C20 Q15 vfs_nil)
    refine ⟨_, rfl, ?_⟩
    refine ⟨_, ldAn (Sub.refl _) (O24.all 0 rfl) (T_talk_Net.T.len _ _ _ e_3), ?_⟩
    obtain ⟨y25, g26, e⟩ := bind_e e
    refine (talk_Check.walk (Hold.start (W := No) O24.s) e_3 g26).mono ?_
    rintro _ h27 ⟨m28, Q29, rfl⟩
    have O31 := Hold.nm (O24.retC Q29 vfs_nil)
    refine ⟨_, rfl, ?_⟩
    refine split_ne_e e (fun c60 e => ?_) (fun c60 e => ?_)
    · cases e
      exact ⟨_, O31.pick [], rfl⟩
    · refine split_ne_e e (fun c59 e => ?_) (fun c59 e => ?_)
      · refine split_eq_e e (fun c36 e => ?_) (fun c36 e => ?_)
        · refine split_eq_e e (fun c35 e => ?_) (fun c35 e => ?_)
          · refine split_eq_e e (fun c34 e => ?_) (fun c34 e => ?_)
            · refine split_eq_e e (fun c33 e => ?_) (fun c33 e => ?_)
              · refine split_eq_e e (fun c32 e => ?_) (fun c32 e => ?_)
                · cases e
                  exact ⟨_, O31.pick [], rfl⟩
                · cases e
                  exact ⟨_, O31.pick [], rfl⟩
              · cases e
                exact ⟨_, O31.pick [], rfl⟩
            · cases e
              exact ⟨_, O31.pick [], rfl⟩
          · cases e
            exact ⟨_, O31.pick [], rfl⟩
        · cases e
          exact ⟨_, O31.pick [], rfl⟩
      · refine split_ne_e e (fun c58 e => ?_) (fun c58 e => ?_)
        · cases e
          exact ⟨_, O31.pick [], rfl⟩
        · refine ⟨_, ldAn (Sub.refl _) (O31.all 5 rfl) rfl, ?_⟩
          obtain ⟨y37, g38, e⟩ := bind_e e
          obtain ⟨m43, u44, s49, ⟨⟨r47, k48⟩, _⟩, B45, C46⟩ := O31.lend0 [6]
          replace r47 : Rd 1 (eRow 3 (eArr 3 (fun n : Int => Value.int .i64 n) (0 : Int))) m43 A_16_1_0 a_16_1 := r47
          replace k48 : List.length a_16_1 ≤ c_16_1_0 := k48
          refine (roadref2_Mismatch.walk (Hold.start (W := No) s49) (show T_roadref2_Net.E _ (T_roadref2_Net.mk a_16_0 a_16_1) [(Value.slice A_16_0_0 (List.length a_16_0) c_16_0_0), (Value.slice A_16_1_0 (List.length a_16_1) c_16_1_0)] from ⟨_, _, _, _, rfl, k_16_0_0, (r_16_0_0.sub (tell_arr (n := 2) (f := (fun n : Int => Value.int .i64 n)) (d := (0 : Int)) (fun _ => trivial)) u44), k48, r47⟩) g38).mono ?_
          rintro _ h39 ⟨m40, Q41, rfl⟩
          have O50 := Hold.nm (C46 Q41 vfs_nil)
          refine ⟨_, rfl, ?_⟩
          refine split_ne_e e (fun c57 e => ?_) (fun c57 e => ?_)
          · cases e
            exact ⟨_, O50.pick [], rfl⟩
          · obtain ⟨m51, u52, ⟨r53, k54⟩, O55⟩ := O50.frz 6 rfl
            replace r53 : Rd 1 (eRow 3 (eArr 3 (fun n : Int => Value.int .i64 n) (0 : Int))) m51 A_16_1_0 a_16_1 := r53
            have O56 := O55.nm
            exact roadlaw2_TalkSays.j0.walk (O56.pick [1, 2, 3, 4, 5]).nm rfl k_1 (r_1.sub (tell_int .i64) u52) rfl k_2 (r_2.sub (tell_int .i64) u52) rfl rfl rfl rfl (show T_roadref2_Net.E _ (T_roadref2_Net.mk a_16_0 a_16_1) [(Value.slice A_16_0_0 (List.length a_16_0) c_16_0_0), (Value.slice A_16_1_0 (List.length a_16_1) c_16_1_0)] from ⟨_, _, _, _, rfl, k_16_0_0, (r_16_0_0.sub (tell_arr (n := 2) (f := (fun n : Int => Value.int .i64 n)) (d := (0 : Int)) (fun _ => trivial)) u52), k54, r53⟩) e
set_option maxRecDepth 100000 in
theorem roadlaw2_TalkSays.l1_k.step_l2 (go : (p : roadlaw2_TalkSays.l1_k.Pt) → Option (Bool)) (ih : ∀ p r, go p = some r → roadlaw2_TalkSays.l1_k.I p r) (a_1 : List Int) (a_2 : List Int) (y_3 : T_talk_Net) (x_7 : Int) (x_8 : Int) (a_9 : List Int) (x_10 : Int) (a_11 : List Int) (a_12 : List Int) (x_13 : Int) (a_14 : List Int) (x_15 : Int) (a_16_0 : (List (List Int))) (a_16_1 : (List (List (List Int)))) (a_21 : List (List Int)) (a_74 : List (List T_talk_Deed)) (x_75 : Int) (x_76 : Int) (a_80 : List T_talk_Deed) (x_81 : Int) (x_82 : Int) (r : Bool) (e : roadlaw2_TalkSays.l1_k.body go (.l2 a_1 a_2 y_3 x_7 x_8 a_9 x_10 a_11 a_12 x_13 a_14 x_15 a_16_0 a_16_1 a_21 a_74 x_75 x_76 a_80 x_81 x_82) = some r) : roadlaw2_TalkSays.l1_k.I (.l2 a_1 a_2 y_3 x_7 x_8 a_9 x_10 a_11 a_12 x_13 a_14 x_15 a_16_0 a_16_1 a_21 a_74 x_75 x_76 a_80 x_81 x_82) r := by
  unfold roadlaw2_TalkSays.l1_k.body at e
  intro W h0 m0 h m A_1 n_1 c_1 A_2 n_2 c_2 bk_3 cs_3 A_9 n_9 c_9 A_11 n_11 c_11 A_12 n_12 c_12 A_14 n_14 c_14 bk_16 A_16_0_0 n_16_0_0 c_16_0_0 A_16_1_0 n_16_1_0 c_16_1_0 A_21 n_21 c_21 A_74 n_74 c_74 A_80 n_80 c_80 O ne_1 k_1 r_1 ne_2 k_2 r_2 e_3 ne_9 ne_11 ne_12 ne_14 ne_16_0_0 k_16_0_0 r_16_0_0 ne_16_1_0 ne_21 ne_74 k_74 r_74 ne_80 k_80 r_80
  subst ne_1
  subst ne_2
  subst ne_9
  subst ne_11
  subst ne_12
  subst ne_14
  subst ne_16_0_0
  subst ne_16_1_0
  subst ne_21
  subst ne_74
  subst ne_80
  refine f6.l2_in ?_
  unfold f6.l2T
  refine split_dec_e e (fun c38 e => ?_) (fun c38 e => ?_)
  · obtain ⟨y1, g2, e⟩ := bind_e e
    refine r_80.addr rfl g2 fun a3 cs4 ha5 hc6 he7 => ?_
    refine ⟨_, ldAn O.s hc6 rfl, ?_⟩
    refine O.new fun h8 x9 O10 => ?_
    refine ⟨_, rfl, (T_talk_Deed.T.len _ _ _ he7), ?_⟩
    refine O10.stA 8 rfl (T_talk_Deed.T.len _ _ _ he7) (T_talk_Deed.T.flat _ _ _ he7) fun h12 O13 => ?_
    refine ⟨_, ldk (k := 1) (Sub.refl _) (O13.all 8 rfl) (T_talk_Deed.g1 he7), _, rfl, ?_⟩
    refine split_any_e e (fun c16 e => ?_) (fun c16 e => ?_)
    · have O14 := O13.nm
      exact (ih _ _ e) _ _ _ _ _ _ _ _ _ _ _ _ _ _ _ _ _ _ _ _ _ _ _ _ _ _ _ _ _ _ _ _ _ _ _ _ _ _ _ _ _ _ _ (O14.pick [0, 1, 2, 3, 4, 5, 6, 7, 8]).nm rfl k_1 r_1 rfl k_2 r_2 e_3 rfl rfl rfl rfl rfl k_16_0_0 r_16_0_0 rfl rfl he7 rfl k_74 r_74 rfl k_80 r_80
    · have O15 := O13.nm
      exact (ih _ _ e) _ _ _ _ _ _ _ _ _ _ _ _ _ _ _ _ _ _ _ _ _ _ _ _ _ _ _ _ _ _ _ _ _ _ _ _ _ _ _ _ _ _ _ (O15.pick [0, 1, 2, 3, 4, 5, 6, 7, 8]).nm rfl k_1 r_1 rfl k_2 r_2 e_3 rfl rfl rfl rfl rfl k_16_0_0 r_16_0_0 rfl rfl he7 rfl k_74 r_74 rfl k_80 r_80
  · refine ⟨_, ldk (k := 1) (Sub.refl _) (O.all 5 rfl) rfl, _, _, _, rfl, ?_⟩
    refine O.new fun h17 x18 O19 => ?_
    obtain ⟨l21, g22, e⟩ := bind_e e
    obtain ⟨m29, u30, ⟨r31, k32⟩, O33⟩ := O19.frz 7 rfl
    replace r31 : Rd 3 (eArr 3 (fun n : Int => Value.int .i64 n) (0 : Int)) m29 A_21 a_21 := r31
    have O34 := O33.rowE (l := ([a_21] : List (List (List Int)))) 8 rfl (tell_row (tell_arr (n := 3) (f := (fun n : Int => Value.int .i64 n)) (d := (0 : Int)) (fun _ => trivial))) (show CsE _ _ _ _ _ from (CsE.cons (c1 := [(Value.slice A_21 (List.length a_21) c_21)]) ⟨_, _, rfl, k32, r31⟩ rfl CsE.nil)) rfl
    refine O34.app 6 rfl rfl rfl ((O34.os 8 rfl).srcE rfl) (by decide) g22 fun A23 c24 h25 O26 => ?_
    refine ⟨_, _, _, rfl, ?_⟩
    refine O26.st 5 rfl 1 (Nat.le_of_ble_eq_true rfl) trivial fun h35 O36 => ?_
    have O37 := O36.nm
    exact (ih _ _ e) _ _ _ _ _ _ _ _ _ _ _ _ _ _ _ _ _ _ _ _ _ _ _ _ _ _ _ _ _ _ _ _ _ _ _ (O37.pick [0, 1, 2, 3, 4, 5, 6]).nm rfl k_1 (r_1.sub (tell_int .i64) u30) rfl k_2 (r_2.sub (tell_int .i64) u30) (T_talk_Net.T.mono _ _ _ _ u30 e_3) rfl rfl rfl rfl rfl k_16_0_0 (r_16_0_0.sub (tell_arr (n := 2) (f := (fun n : Int => Value.int .i64 n)) (d := (0 : Int)) (fun _ => trivial)) u30) rfl rfl k_74 (r_74.sub (tell_row T_talk_Deed.T) u30)
set_option maxRecDepth 100000 in
theorem roadlaw2_TalkSays.l1_k.step_j3 (go : (p : roadlaw2_TalkSays.l1_k.Pt) → Option (Bool)) (ih : ∀ p r, go p = some r → roadlaw2_TalkSays.l1_k.I p r) (a_1 : List Int) (a_2 : List Int) (y_3 : T_talk_Net) (x_7 : Int) (x_8 : Int) (a_9 : List Int) (x_10 : Int) (a_11 : List Int) (a_12 : List Int) (x_13 : Int) (a_14 : List Int) (x_15 : Int) (a_16_0 : (List (List Int))) (a_16_1 : (List (List (List Int)))) (a_21 : List (List Int)) (y_23 : T_talk_Deed) (x_24 : Int) (a_74 : List (List T_talk_Deed)) (x_75 : Int) (x_76 : Int) (a_80 : List T_talk_Deed) (x_81 : Int) (x_82 : Int) (r : Bool) (e : roadlaw2_TalkSays.l1_k.body go (.j3 a_1 a_2 y_3 x_7 x_8 a_9 x_10 a_11 a_12 x_13 a_14 x_15 a_16_0 a_16_1 a_21 y_23 x_24 a_74 x_75 x_76 a_80 x_81 x_82) = some r) : roadlaw2_TalkSays.l1_k.I (.j3 a_1 a_2 y_3 x_7 x_8 a_9 x_10 a_11 a_12 x_13 a_14 x_15 a_16_0 a_16_1 a_21 y_23 x_24 a_74 x_75 x_76 a_80 x_81 x_82) r := by
  unfold roadlaw2_TalkSays.l1_k.body at e
  intro W h0 m0 h m A_1 n_1 c_1 A_2 n_2 c_2 bk_3 cs_3 A_9 n_9 c_9 A_11 n_11 c_11 A_12 n_12 c_12 A_14 n_14 c_14 bk_16 A_16_0_0 n_16_0_0 c_16_0_0 A_16_1_0 n_16_1_0 c_16_1_0 A_21 n_21 c_21 bk_23 cs_23 A_74 n_74 c_74 A_80 n_80 c_80 O ne_1 k_1 r_1 ne_2 k_2 r_2 e_3 ne_9 ne_11 ne_12 ne_14 ne_16_0_0 k_16_0_0 r_16_0_0 ne_16_1_0 ne_21 e_23 ne_74 k_74 r_74 ne_80 k_80 r_80
  subst ne_1
  subst ne_2
  subst ne_9
  subst ne_11
  subst ne_12
  subst ne_14
  subst ne_16_0_0
  subst ne_16_1_0
  subst ne_21
  subst ne_74
  subst ne_80
  refine f6.j3_in ?_
  unfold f6.j3T
  refine ⟨_, ld0 (Sub.refl _) (O.all 8 rfl) (T_talk_Deed.g0 e_23), _, rfl, ?_⟩
  refine ⟨_, ldk (k := 2) (Sub.refl _) (O.all 8 rfl) (T_talk_Deed.g2 e_23), _, rfl, ?_⟩
  refine ⟨[(Value.int .i64 y_23.Line), (Value.int .i64 x_24), (Value.int .i64 y_23.Msg)], rfl, rfl, ?_⟩
  refine O.new fun h1 x2 O3 => ?_
  obtain ⟨l5, g6, e⟩ := bind_e e
  have O13 := O3.rowE (l := ([([y_23.Line, x_24, y_23.Msg] : List Int)] : List (List Int))) 9 rfl (tell_arr (n := 3) (f := (fun n : Int => Value.int .i64 n)) (d := (0 : Int)) (fun _ => trivial)) (show CsE _ _ _ _ _ from (CsE.cons (c1 := [(Value.int .i64 y_23.Line), (Value.int .i64 x_24), (Value.int .i64 y_23.Msg)]) ⟨rfl, rfl⟩ rfl CsE.nil)) rfl
  refine O13.app 7 rfl rfl rfl ((O13.os 9 rfl).srcE rfl) (by decide) g6 fun A7 c8 h9 O10 => ?_
  refine ⟨_, _, _, rfl, ?_⟩
  have O14 := O10.nm
  exact (ih _ _ e) _ _ _ _ _ _ _ _ _ _ _ _ _ _ _ _ _ _ _ _ _ _ _ _ _ _ _ _ _ _ _ _ _ _ _ _ _ _ _ _ _ (O14.pick [0, 1, 2, 3, 4, 5, 6, 7]).nm rfl k_1 r_1 rfl k_2 r_2 e_3 rfl rfl rfl rfl rfl k_16_0_0 r_16_0_0 rfl rfl rfl k_74 r_74 rfl k_80 r_80
theorem roadlaw2_TalkSays.l1_k.all {p : roadlaw2_TalkSays.l1_k.Pt} {r : (Bool)} (e : roadlaw2_TalkSays.l1_k.go p = some r) : roadlaw2_TalkSays.l1_k.I p r := fixF_ind (β := fun _ => (Bool)) roadlaw2_TalkSays.l1_k.mono (I := roadlaw2_TalkSays.l1_k.I) (fun go ih p r e => match p with
  | .l1 a_1 a_2 y_3 x_7 x_8 a_9 x_10 a_11 a_12 x_13 a_14 x_15 a_16_0 a_16_1 a_74 x_75 x_76 => roadlaw2_TalkSays.l1_k.step_l1 go ih a_1 a_2 y_3 x_7 x_8 a_9 x_10 a_11 a_12 x_13 a_14 x_15 a_16_0 a_16_1 a_74 x_75 x_76 r e
  | .l2 a_1 a_2 y_3 x_7 x_8 a_9 x_10 a_11 a_12 x_13 a_14 x_15 a_16_0 a_16_1 a_21 a_74 x_75 x_76 a_80 x_81 x_82 => roadlaw2_TalkSays.l1_k.step_l2 go ih a_1 a_2 y_3 x_7 x_8 a_9 x_10 a_11 a_12 x_13 a_14 x_15 a_16_0 a_16_1 a_21 a_74 x_75 x_76 a_80 x_81 x_82 r e
  | .j3 a_1 a_2 y_3 x_7 x_8 a_9 x_10 a_11 a_12 x_13 a_14 x_15 a_16_0 a_16_1 a_21 y_23 x_24 a_74 x_75 x_76 a_80 x_81 x_82 => roadlaw2_TalkSays.l1_k.step_j3 go ih a_1 a_2 y_3 x_7 x_8 a_9 x_10 a_11 a_12 x_13 a_14 x_15 a_16_0 a_16_1 a_21 y_23 x_24 a_74 x_75 x_76 a_80 x_81 x_82 r e
  ) e
theorem roadlaw2_TalkSays.l1.walk {W : Nat → Prop} {h0 m0 h m : Heap} {A_1 : Option Addr} {n_1 c_1 : Nat} {A_2 : Option Addr} {n_2 c_2 : Nat} {bk_3 : Nat} {cs_3 : List Value} {A_9 : Option Addr} {n_9 c_9 : Nat} {A_11 : Option Addr} {n_11 c_11 : Nat} {A_12 : Option Addr} {n_12 c_12 : Nat} {A_14 : Option Addr} {n_14 c_14 : Nat} {bk_16 : Nat} {A_16_0_0 : Option Addr} {n_16_0_0 : Nat} {c_16_0_0 : Nat} {A_16_1_0 : Option Addr} {n_16_1_0 : Nat} {c_16_1_0 : Nat} {A_74 : Option Addr} {n_74 c_74 : Nat} {a_1 : List Int} {a_2 : List Int} {y_3 : T_talk_Net} {x_7 : Int} {x_8 : Int} {a_9 : List Int} {x_10 : Int} {a_11 : List Int} {a_12 : List Int} {x_13 : Int} {a_14 : List Int} {x_15 : Int} {a_16_0 : (List (List Int))} {a_16_1 : (List (List (List Int)))} {a_74 : List (List T_talk_Deed)} {x_75 : Int} {x_76 : Int} (O : Hold W h0 m0 h m [rV bk_3 78 cs_3, rR (aE (tell_int .i64)) A_9 c_9 a_9, rR (aE (tell_int .i64)) A_11 c_11 a_11, rR (aE (tell_int .i64)) A_12 c_12 a_12, rR (aE (tell_int .i64)) A_14 c_14 a_14, rV bk_16 87 [(Value.slice A_16_0_0 n_16_0_0 c_16_0_0), (Value.slice A_16_1_0 n_16_1_0 c_16_1_0)], rR (aE (tell_row (tell_arr (n := 3) (f := (fun n : Int => Value.int .i64 n)) (d := (0 : Int)) (fun _ => trivial)))) A_16_1_0 c_16_1_0 a_16_1]) (ne_1 : n_1 = List.length a_1) (k_1 : List.length a_1 ≤ c_1) (r_1 : Rd 1 (eInt .i64) m A_1 a_1) (ne_2 : n_2 = List.length a_2) (k_2 : List.length a_2 ≤ c_2) (r_2 : Rd 1 (eInt .i64) m A_2 a_2) (e_3 : T_talk_Net.E m y_3 cs_3) (ne_9 : n_9 = List.length a_9) (ne_11 : n_11 = List.length a_11) (ne_12 : n_12 = List.length a_12) (ne_14 : n_14 = List.length a_14) (ne_16_0_0 : n_16_0_0 = List.length a_16_0) (k_16_0_0 : List.length a_16_0 ≤ c_16_0_0) (r_16_0_0 : Rd 2 (eArr 2 (fun n : Int => Value.int .i64 n) (0 : Int)) m A_16_0_0 a_16_0) (ne_16_1_0 : n_16_1_0 = List.length a_16_1) (ne_74 : n_74 = List.length a_74) (k_74 : List.length a_74 ≤ c_74) (r_74 : Rd 1 (eRow 3 T_talk_Deed.E) m A_74 a_74) {r : Bool} (e : roadlaw2_TalkSays.l1 a_1 a_2 y_3 x_7 x_8 a_9 x_10 a_11 a_12 x_13 a_14 x_15 a_16_0 a_16_1 a_74 x_75 x_76 = some r) : f6.l1 (roadlaw2_TalkSays.post W h0 m0 r) A_1 n_1 c_1 A_2 n_2 c_2 (⟨bk_3, 0, none⟩ : Addr) x_7 x_8 A_9 n_9 c_9 x_10 A_11 n_11 c_11 A_12 n_12 c_12 x_13 A_14 n_14 c_14 x_15 (⟨bk_16, 0, none⟩ : Addr) A_74 n_74 c_74 x_75 x_76 h := roadlaw2_TalkSays.l1_k.all (p := .l1 a_1 a_2 y_3 x_7 x_8 a_9 x_10 a_11 a_12 x_13 a_14 x_15 a_16_0 a_16_1 a_74 x_75 x_76) e W h0 m0 h m A_1 n_1 c_1 A_2 n_2 c_2 bk_3 cs_3 A_9 n_9 c_9 A_11 n_11 c_11 A_12 n_12 c_12 A_14 n_14 c_14 bk_16 A_16_0_0 n_16_0_0 c_16_0_0 A_16_1_0 n_16_1_0 c_16_1_0 A_74 n_74 c_74 O ne_1 k_1 r_1 ne_2 k_2 r_2 e_3 ne_9 ne_11 ne_12 ne_14 ne_16_0_0 k_16_0_0 r_16_0_0 ne_16_1_0 ne_74 k_74 r_74
inductive roadlaw2_TalkSays.l0_k.Pt where
  | l0 (a_1 : List Int) (a_2 : List Int) (y_3 : T_talk_Net) (x_7 : Int) (x_8 : Int) (a_9 : List Int) (x_10 : Int) (a_11 : List Int) (a_12 : List Int) (x_13 : Int) (a_14 : List Int) (x_15 : Int) (a_16_0 : (List (List Int))) (a_16_1 : (List (List (List Int)))) (a_56 : List T_talk_Line) (x_57 : Int) (x_58 : Int)
noncomputable def roadlaw2_TalkSays.l0_k.body (go : (p : roadlaw2_TalkSays.l0_k.Pt) → Option (Bool)) : (p : roadlaw2_TalkSays.l0_k.Pt) → Option (Bool)
  | .l0 a_1 a_2 y_3 x_7 x_8 a_9 x_10 a_11 a_12 x_13 a_14 x_15 a_16_0 a_16_1 a_56 x_57 x_58 => if x_58 < x_57 then (Option.bind (gi a_56 x_58) fun y1 => Option.bind (ap 16 a_16_0 ([([y1.A, y1.B] : List Int)] : List (List Int))) fun l18 => (go (.l0 a_1 a_2 y_3 x_7 x_8 a_9 x_10 a_11 a_12 x_13 a_14 x_15 l18 a_16_1 a_56 x_57 (IntKind.wrap .i64 (x_58 + (1 : Int)))))) else ((roadlaw2_TalkSays.l1 a_1 a_2 y_3 x_7 x_8 a_9 x_10 a_11 a_12 x_13 a_14 x_15 a_16_0 a_16_1 y_3.Who (((List.length y_3.Who) : Nat) : Int) (0 : Int)))
theorem roadlaw2_TalkSays.l0_k.mono : MonoF (β := fun _ => (Bool)) roadlaw2_TalkSays.l0_k.body := fun f g hfg p => match p with
  | .l0 a_1 a_2 y_3 x_7 x_8 a_9 x_10 a_11 a_12 x_13 a_14 x_15 a_16_0 a_16_1 a_56 x_57 x_58 => LeO.ite (LeO.bind (LeO.refl _) fun y1 => LeO.bind (LeO.refl _) fun l18 => (hfg _)) ((LeO.refl _))
noncomputable def roadlaw2_TalkSays.l0_k.go (p : roadlaw2_TalkSays.l0_k.Pt) : Option (Bool) := fixF (β := fun _ => (Bool)) roadlaw2_TalkSays.l0_k.body p
noncomputable def roadlaw2_TalkSays.l0 (a_1 : List Int) (a_2 : List Int) (y_3 : T_talk_Net) (x_7 : Int) (x_8 : Int) (a_9 : List Int) (x_10 : Int) (a_11 : List Int) (a_12 : List Int) (x_13 : Int) (a_14 : List Int) (x_15 : Int) (a_16_0 : (List (List Int))) (a_16_1 : (List (List (List Int)))) (a_56 : List T_talk_Line) (x_57 : Int) (x_58 : Int) : Option (Bool) := roadlaw2_TalkSays.l0_k.go (.l0 a_1 a_2 y_3 x_7 x_8 a_9 x_10 a_11 a_12 x_13 a_14 x_15 a_16_0 a_16_1 a_56 x_57 x_58)
theorem roadlaw2_TalkSays.l0_eq (a_1 : List Int) (a_2 : List Int) (y_3 : T_talk_Net) (x_7 : Int) (x_8 : Int) (a_9 : List Int) (x_10 : Int) (a_11 : List Int) (a_12 : List Int) (x_13 : Int) (a_14 : List Int) (x_15 : Int) (a_16_0 : (List (List Int))) (a_16_1 : (List (List (List Int)))) (a_56 : List T_talk_Line) (x_57 : Int) (x_58 : Int) : roadlaw2_TalkSays.l0 a_1 a_2 y_3 x_7 x_8 a_9 x_10 a_11 a_12 x_13 a_14 x_15 a_16_0 a_16_1 a_56 x_57 x_58 = if x_58 < x_57 then (Option.bind (gi a_56 x_58) fun y1 => Option.bind (ap 16 a_16_0 ([([y1.A, y1.B] : List Int)] : List (List Int))) fun l18 => (roadlaw2_TalkSays.l0 a_1 a_2 y_3 x_7 x_8 a_9 x_10 a_11 a_12 x_13 a_14 x_15 l18 a_16_1 a_56 x_57 (IntKind.wrap .i64 (x_58 + (1 : Int))))) else ((roadlaw2_TalkSays.l1 a_1 a_2 y_3 x_7 x_8 a_9 x_10 a_11 a_12 x_13 a_14 x_15 a_16_0 a_16_1 y_3.Who (((List.length y_3.Who) : Nat) : Int) (0 : Int))) := fixF_eq roadlaw2_TalkSays.l0_k.mono _
def roadlaw2_TalkSays.l0_k.I : (p : roadlaw2_TalkSays.l0_k.Pt) → (Bool) → Prop
  | .l0 a_1 a_2 y_3 x_7 x_8 a_9 x_10 a_11 a_12 x_13 a_14 x_15 a_16_0 a_16_1 a_56 x_57 x_58, r => ∀ (W : Nat → Prop) (h0 m0 h m : Heap) (A_1 : Option Addr) (n_1 c_1 : Nat) (A_2 : Option Addr) (n_2 c_2 : Nat) (bk_3 : Nat) (cs_3 : List Value) (A_9 : Option Addr) (n_9 c_9 : Nat) (A_11 : Option Addr) (n_11 c_11 : Nat) (A_12 : Option Addr) (n_12 c_12 : Nat) (A_14 : Option Addr) (n_14 c_14 : Nat) (bk_16 : Nat) (A_16_0_0 : Option Addr) (n_16_0_0 : Nat) (c_16_0_0 : Nat) (A_16_1_0 : Option Addr) (n_16_1_0 : Nat) (c_16_1_0 : Nat) (A_56 : Option Addr) (n_56 c_56 : Nat) (O : Hold W h0 m0 h m [rV bk_3 78 cs_3, rR (aE (tell_int .i64)) A_9 c_9 a_9, rR (aE (tell_int .i64)) A_11 c_11 a_11, rR (aE (tell_int .i64)) A_12 c_12 a_12, rR (aE (tell_int .i64)) A_14 c_14 a_14, rV bk_16 87 [(Value.slice A_16_0_0 n_16_0_0 c_16_0_0), (Value.slice A_16_1_0 n_16_1_0 c_16_1_0)], rR (aE (tell_arr (n := 2) (f := (fun n : Int => Value.int .i64 n)) (d := (0 : Int)) (fun _ => trivial))) A_16_0_0 c_16_0_0 a_16_0, rR (aE (tell_row (tell_arr (n := 3) (f := (fun n : Int => Value.int .i64 n)) (d := (0 : Int)) (fun _ => trivial)))) A_16_1_0 c_16_1_0 a_16_1]) (ne_1 : n_1 = List.length a_1) (k_1 : List.length a_1 ≤ c_1) (r_1 : Rd 1 (eInt .i64) m A_1 a_1) (ne_2 : n_2 = List.length a_2) (k_2 : List.length a_2 ≤ c_2) (r_2 : Rd 1 (eInt .i64) m A_2 a_2) (e_3 : T_talk_Net.E m y_3 cs_3) (ne_9 : n_9 = List.length a_9) (ne_11 : n_11 = List.length a_11) (ne_12 : n_12 = List.length a_12) (ne_14 : n_14 = List.length a_14) (ne_16_0_0 : n_16_0_0 = List.length a_16_0) (ne_16_1_0 : n_16_1_0 = List.length a_16_1) (ne_56 : n_56 = List.length a_56) (k_56 : List.length a_56 ≤ c_56) (r_56 : Rd 2 T_talk_Line.E m A_56 a_56), f6.l0 (roadlaw2_TalkSays.post W h0 m0 r) A_1 n_1 c_1 A_2 n_2 c_2 (⟨bk_3, 0, none⟩ : Addr) x_7 x_8 A_9 n_9 c_9 x_10 A_11 n_11 c_11 A_12 n_12 c_12 x_13 A_14 n_14 c_14 x_15 (⟨bk_16, 0, none⟩ : Addr) A_56 n_56 c_56 x_57 x_58 h
set_option maxRecDepth 100000 in
theorem roadlaw2_TalkSays.l0_k.step_l0 (go : (p : roadlaw2_TalkSays.l0_k.Pt) → Option (Bool)) (ih : ∀ p r, go p = some r → roadlaw2_TalkSays.l0_k.I p r) (a_1 : List Int) (a_2 : List Int) (y_3 : T_talk_Net) (x_7 : Int) (x_8 : Int) (a_9 : List Int) (x_10 : Int) (a_11 : List Int) (a_12 : List Int) (x_13 : Int) (a_14 : List Int) (x_15 : Int) (a_16_0 : (List (List Int))) (a_16_1 : (List (List (List Int)))) (a_56 : List T_talk_Line) (x_57 : Int) (x_58 : Int) (r : Bool) (e : roadlaw2_TalkSays.l0_k.body go (.l0 a_1 a_2 y_3 x_7 x_8 a_9 x_10 a_11 a_12 x_13 a_14 x_15 a_16_0 a_16_1 a_56 x_57 x_58) = some r) : roadlaw2_TalkSays.l0_k.I (.l0 a_1 a_2 y_3 x_7 x_8 a_9 x_10 a_11 a_12 x_13 a_14 x_15 a_16_0 a_16_1 a_56 x_57 x_58) r := by
  unfold roadlaw2_TalkSays.l0_k.body at e
  intro W h0 m0 h m A_1 n_1 c_1 A_2 n_2 c_2 bk_3 cs_3 A_9 n_9 c_9 A_11 n_11 c_11 A_12 n_12 c_12 A_14 n_14 c_14 bk_16 A_16_0_0 n_16_0_0 c_16_0_0 A_16_1_0 n_16_1_0 c_16_1_0 A_56 n_56 c_56 O ne_1 k_1 r_1 ne_2 k_2 r_2 e_3 ne_9 ne_11 ne_12 ne_14 ne_16_0_0 ne_16_1_0 ne_56 k_56 r_56
  subst ne_1
  subst ne_2
  subst ne_9
  subst ne_11
  subst ne_12
  subst ne_14
  subst ne_16_0_0
  subst ne_16_1_0
  subst ne_56
  refine f6.l0_in ?_
  unfold f6.l0T
  refine split_dec_e e (fun c42 e => ?_) (fun c42 e => ?_)
  · obtain ⟨y1, g2, e⟩ := bind_e e
    refine r_56.addr rfl g2 fun a3 cs4 ha5 hc6 he7 => ?_
    refine ⟨_, ldAn O.s hc6 rfl, ?_⟩
    refine O.new fun h8 x9 O10 => ?_
    refine ⟨_, rfl, (T_talk_Line.T.len _ _ _ he7), ?_⟩
    refine O10.stA 8 rfl (T_talk_Line.T.len _ _ _ he7) (T_talk_Line.T.flat _ _ _ he7) fun h12 O13 => ?_
    refine ⟨_, ld0 (Sub.refl _) (O13.all 5 rfl) rfl, _, _, _, rfl, ?_⟩
    refine ⟨_, ld0 (Sub.refl _) (O13.all 8 rfl) (T_talk_Line.g0 he7), _, rfl, ?_⟩
    refine ⟨_, ldk (k := 1) (Sub.refl _) (O13.all 8 rfl) (T_talk_Line.g1 he7), _, rfl, ?_⟩
    refine ⟨[(Value.int .i64 y1.A), (Value.int .i64 y1.B)], rfl, rfl, ?_⟩
    refine O13.new fun h14 x15 O16 => ?_
    obtain ⟨l18, g19, e⟩ := bind_e e
    have O26 := O16.rowE (l := ([([y1.A, y1.B] : List Int)] : List (List Int))) 9 rfl (tell_arr (n := 2) (f := (fun n : Int => Value.int .i64 n)) (d := (0 : Int)) (fun _ => trivial)) (show CsE _ _ _ _ _ from (CsE.cons (c1 := [(Value.int .i64 y1.A), (Value.int .i64 y1.B)]) ⟨rfl, rfl⟩ rfl CsE.nil)) rfl
    refine O26.app 6 rfl rfl rfl ((O26.os 9 rfl).srcE rfl) (by decide) g19 fun A20 c21 h22 O23 => ?_
    refine ⟨_, _, _, rfl, ?_⟩
    have O27 := O23.nm
    refine O27.st0 5 rfl (Nat.le_of_ble_eq_true rfl) trivial fun h28 O29 => ?_
    have O30 := O29.nm
    exact (ih _ _ e) _ _ _ _ _ _ _ _ _ _ _ _ _ _ _ _ _ _ _ _ _ _ _ _ _ _ _ _ _ _ _ _ _ _ _ (O30.pick [0, 1, 2, 3, 4, 5, 6, 7]).nm rfl k_1 r_1 rfl k_2 r_2 e_3 rfl rfl rfl rfl rfl rfl rfl k_56 r_56
  · obtain ⟨A31, c32, q33, k34, r35⟩ := T_talk_Net.g1 e_3
    refine ⟨_, ldk (k := 1) (Sub.refl _) (O.all 0 rfl) q33, _, _, _, rfl, ?_⟩
    obtain ⟨m36, u37, ⟨r38, k39⟩, O40⟩ := O.frz 6 rfl
    replace r38 : Rd 2 (eArr 2 (fun n : Int => Value.int .i64 n) (0 : Int)) m36 A_16_0_0 a_16_0 := r38
    have O41 := O40.nm
    exact roadlaw2_TalkSays.l1.walk (O41.pick [0, 1, 2, 3, 4, 5, 7]).nm rfl k_1 (r_1.sub (tell_int .i64) u37) rfl k_2 (r_2.sub (tell_int .i64) u37) (T_talk_Net.T.mono _ _ _ _ u37 e_3) rfl rfl rfl rfl rfl k39 r38 rfl rfl k34 (r35.sub (tell_row T_talk_Deed.T) u37) e
theorem roadlaw2_TalkSays.l0_k.all {p : roadlaw2_TalkSays.l0_k.Pt} {r : (Bool)} (e : roadlaw2_TalkSays.l0_k.go p = some r) : roadlaw2_TalkSays.l0_k.I p r := fixF_ind (β := fun _ => (Bool)) roadlaw2_TalkSays.l0_k.mono (I := roadlaw2_TalkSays.l0_k.I) (fun go ih p r e => match p with
  | .l0 a_1 a_2 y_3 x_7 x_8 a_9 x_10 a_11 a_12 x_13 a_14 x_15 a_16_0 a_16_1 a_56 x_57 x_58 => roadlaw2_TalkSays.l0_k.step_l0 go ih a_1 a_2 y_3 x_7 x_8 a_9 x_10 a_11 a_12 x_13 a_14 x_15 a_16_0 a_16_1 a_56 x_57 x_58 r e
  ) e
theorem roadlaw2_TalkSays.l0.walk {W : Nat → Prop} {h0 m0 h m : Heap} {A_1 : Option Addr} {n_1 c_1 : Nat} {A_2 : Option Addr} {n_2 c_2 : Nat} {bk_3 : Nat} {cs_3 : List Value} {A_9 : Option Addr} {n_9 c_9 : Nat} {A_11 : Option Addr} {n_11 c_11 : Nat} {A_12 : Option Addr} {n_12 c_12 : Nat} {A_14 : Option Addr} {n_14 c_14 : Nat} {bk_16 : Nat} {A_16_0_0 : Option Addr} {n_16_0_0 : Nat} {c_16_0_0 : Nat} {A_16_1_0 : Option Addr} {n_16_1_0 : Nat} {c_16_1_0 : Nat} {A_56 : Option Addr} {n_56 c_56 : Nat} {a_1 : List Int} {a_2 : List Int} {y_3 : T_talk_Net} {x_7 : Int} {x_8 : Int} {a_9 : List Int} {x_10 : Int} {a_11 : List Int} {a_12 : List Int} {x_13 : Int} {a_14 : List Int} {x_15 : Int} {a_16_0 : (List (List Int))} {a_16_1 : (List (List (List Int)))} {a_56 : List T_talk_Line} {x_57 : Int} {x_58 : Int} (O : Hold W h0 m0 h m [rV bk_3 78 cs_3, rR (aE (tell_int .i64)) A_9 c_9 a_9, rR (aE (tell_int .i64)) A_11 c_11 a_11, rR (aE (tell_int .i64)) A_12 c_12 a_12, rR (aE (tell_int .i64)) A_14 c_14 a_14, rV bk_16 87 [(Value.slice A_16_0_0 n_16_0_0 c_16_0_0), (Value.slice A_16_1_0 n_16_1_0 c_16_1_0)], rR (aE (tell_arr (n := 2) (f := (fun n : Int => Value.int .i64 n)) (d := (0 : Int)) (fun _ => trivial))) A_16_0_0 c_16_0_0 a_16_0, rR (aE (tell_row (tell_arr (n := 3) (f := (fun n : Int => Value.int .i64 n)) (d := (0 : Int)) (fun _ => trivial)))) A_16_1_0 c_16_1_0 a_16_1]) (ne_1 : n_1 = List.length a_1) (k_1 : List.length a_1 ≤ c_1) (r_1 : Rd 1 (eInt .i64) m A_1 a_1) (ne_2 : n_2 = List.length a_2) (k_2 : List.length a_2 ≤ c_2) (r_2 : Rd 1 (eInt .i64) m A_2 a_2) (e_3 : T_talk_Net.E m y_3 cs_3) (ne_9 : n_9 = List.length a_9) (ne_11 : n_11 = List.length a_11) (ne_12 : n_12 = List.length a_12) (ne_14 : n_14 = List.length a_14) (ne_16_0_0 : n_16_0_0 = List.length a_16_0) (ne_16_1_0 : n_16_1_0 = List.length a_16_1) (ne_56 : n_56 = List.length a_56) (k_56 : List.length a_56 ≤ c_56) (r_56 : Rd 2 T_talk_Line.E m A_56 a_56) {r : Bool} (e : roadlaw2_TalkSays.l0 a_1 a_2 y_3 x_7 x_8 a_9 x_10 a_11 a_12 x_13 a_14 x_15 a_16_0 a_16_1 a_56 x_57 x_58 = some r) : f6.l0 (roadlaw2_TalkSays.post W h0 m0 r) A_1 n_1 c_1 A_2 n_2 c_2 (⟨bk_3, 0, none⟩ : Addr) x_7 x_8 A_9 n_9 c_9 x_10 A_11 n_11 c_11 A_12 n_12 c_12 x_13 A_14 n_14 c_14 x_15 (⟨bk_16, 0, none⟩ : Addr) A_56 n_56 c_56 x_57 x_58 h := roadlaw2_TalkSays.l0_k.all (p := .l0 a_1 a_2 y_3 x_7 x_8 a_9 x_10 a_11 a_12 x_13 a_14 x_15 a_16_0 a_16_1 a_56 x_57 x_58) e W h0 m0 h m A_1 n_1 c_1 A_2 n_2 c_2 bk_3 cs_3 A_9 n_9 c_9 A_11 n_11 c_11 A_12 n_12 c_12 A_14 n_14 c_14 bk_16 A_16_0_0 n_16_0_0 c_16_0_0 A_16_1_0 n_16_1_0 c_16_1_0 A_56 n_56 c_56 O ne_1 k_1 r_1 ne_2 k_2 r_2 e_3 ne_9 ne_11 ne_12 ne_14 ne_16_0_0 ne_16_1_0 ne_56 k_56 r_56
noncomputable def roadlaw2_TalkSays (y_0 : T_talk_Net) (a_1 : List Int) (a_2 : List Int) : Option (Bool) :=
  Option.bind (talk_Dual y_0) fun y5 => Option.bind (talk_Ring y_0) fun y12 => Option.bind (talk_Run y_0 a_1) fun y24 => Option.bind (talk_Waits y_0 a_2) fun y41 => (roadlaw2_TalkSays.l0 a_1 a_2 y_0 y5.1 y5.2 y12.1 y12.2 y24.1 y24.2.1 y24.2.2 y41.1 y41.2 ([] : List (List Int)) ([] : List (List (List Int))) y_0.Lines (((List.length y_0.Lines) : Nat) : Int) (0 : Int))
set_option maxHeartbeats 4000000 in
set_option maxRecDepth 100000 in
theorem roadlaw2_TalkSays.walk {W : Nat → Prop} {h m : Heap} {cs_0 : List Value} {A_1 : Option Addr} {n_1 c_1 : Nat} {A_2 : Option Addr} {n_2 c_2 : Nat} {y_0 : T_talk_Net} {a_1 : List Int} {a_2 : List Int} (O : Hold W h m h m []) (e_0 : T_talk_Net.E m y_0 cs_0) (ne_1 : n_1 = List.length a_1) (k_1 : List.length a_1 ≤ c_1) (r_1 : Rd 1 (eInt .i64) m A_1 a_1) (ne_2 : n_2 = List.length a_2) (k_2 : List.length a_2 ≤ c_2) (r_2 : Rd 1 (eInt .i64) m A_2 a_2) {r : Bool} (e : roadlaw2_TalkSays y_0 a_1 a_2 = some r) : Run Try.prog 6 #[Value.agg cs_0.toArray, Value.slice A_1 n_1 c_1, Value.slice A_2 n_2 c_2] h (roadlaw2_TalkSays.post W h m r) := by
  unfold roadlaw2_TalkSays at e
  subst ne_1
  subst ne_2
  refine f6.run ?_
  unfold f6.runT
  refine O.new fun h1 x2 O3 => ?_
  refine ⟨_, ldAn (Sub.refl _) (O3.all 0 rfl) (T_talk_Net.T.len _ _ _ e_0), ?_⟩
  obtain ⟨y5, g6, e⟩ := bind_e e
  refine (talk_Dual.walk (Hold.start (W := No) O3.s) e_0 g6).mono ?_
  rintro _ h7 ⟨m8, Q9, rfl⟩
  have O11 := Hold.nm (O3.retC Q9 vfs_nil)
  refine ⟨_, _, rfl, ?_⟩
  refine ⟨_, ldAn (Sub.refl _) (O11.all 0 rfl) (T_talk_Net.T.len _ _ _ e_0), ?_⟩
  obtain ⟨y12, g13, e⟩ := bind_e e
  refine (talk_Ring.walk (Hold.start (W := No) O11.s) e_0 g13).mono ?_
  rintro _ h14 ⟨m15, A18, n19, c20, Q16, rfl, ne21⟩
  have O23 := Hold.nm (O11.retC Q16 (vfs_cons (rR_vf (aE_vf (fun _ _ _ _ h => h))) vfs_nil))
  subst ne21
  refine ⟨_, _, _, _, rfl, ?_⟩
  refine ⟨_, ldAn (Sub.refl _) (O23.all 0 rfl) (T_talk_Net.T.len _ _ _ e_0), ?_⟩
  obtain ⟨y24, g25, e⟩ := bind_e e
  refine (talk_Run.walk (Hold.start (W := No) O23.s) e_0 rfl k_1 r_1 g25).mono ?_
  rintro _ h26 ⟨m27, A30, n31, c32, A35, n36, c37, Q28, rfl, ne33, ne38⟩
  have O40 := Hold.nm (O23.retC Q28 (vfs_cons (rR_vf (aE_vf (fun _ _ _ _ h => h))) (vfs_cons (rR_vf (aE_vf (fun _ _ _ _ h => h))) vfs_nil)))
  subst ne33
  subst ne38
  refine ⟨_, _, _, _, _, _, _, rfl, ?_⟩
  refine ⟨_, ldAn (Sub.refl _) (O40.all 0 rfl) (T_talk_Net.T.len _ _ _ e_0), ?_⟩
  obtain ⟨y41, g42, e⟩ := bind_e e
  refine (talk_Waits.walk (Hold.start (W := No) O40.s) e_0 rfl k_2 r_2 g42).mono ?_
  rintro _ h43 ⟨m44, A47, n48, c49, Q45, rfl, ne50⟩
  have O52 := Hold.nm (O40.retC Q45 (vfs_cons (rR_vf (aE_vf (fun _ _ _ _ h => h))) vfs_nil))
  subst ne50
  refine ⟨_, _, _, _, rfl, ?_⟩
  refine O52.new fun h53 x54 O55 => ?_
  refine ⟨_, rfl, rfl, ?_⟩
  refine O55.stA 5 rfl rfl (Flats.cons trivial (Flats.cons trivial Flats.nil)) fun h57 O58 => ?_
  obtain ⟨A59, c60, q61, k62, r63⟩ := T_talk_Net.g0 e_0
  refine ⟨_, ld0 (Sub.refl _) (O58.all 0 rfl) q61, _, _, _, rfl, ?_⟩
  have O64 := O58.nil (aE (tell_arr (n := 2) (f := (fun n : Int => Value.int .i64 n)) (d := (0 : Int)) (fun _ => trivial))) none
  have O66 := O64.nil (aE (tell_row (tell_arr (n := 3) (f := (fun n : Int => Value.int .i64 n)) (d := (0 : Int)) (fun _ => trivial)))) none
  have O68 := O66.nm
  exact roadlaw2_TalkSays.l0.walk (O68.pick [0, 1, 2, 3, 4, 5, 6, 7]).nm rfl k_1 r_1 rfl k_2 r_2 e_0 rfl rfl rfl rfl rfl rfl rfl k62 r63 e
end Go.Proofs.Ytdlihfedhojdgaa.Fw

end
section
namespace Go.Proofs.Ytdlihfedhojdgaa.Fw
open Go Go.Hw Go.Proofs
set_option linter.unusedVariables false
set_option linter.unusedSectionVars false
theorem gen_loop {α β γ : Type} {l : List α} {F : β → Int → Option γ} {g : β → α → β} (P : List α → β → Prop)
    (step : ∀ (s : β) (i : Nat) (hi : i < l.length), P (l[i] :: l.drop (i + 1)) s → F s (i : Int) = F (g s l[i]) ((i + 1 : Nat) : Int) ∧ P (l.drop (i + 1)) (g s l[i])) (s : β) (h : P l s) : F s 0 = F (l.foldl g s) (l.length : Int) := by
  have key : ∀ (d i : Nat) (s : β), l.length - i = d → i ≤ l.length → P (l.drop i) s → F s (i : Int) = F ((l.drop i).foldl g s) (l.length : Int) := by
    intro d
    induction d with
    | zero =>
      intro i s hd hi _
      obtain rfl : i = l.length := by omega
      rw [List.drop_length, List.foldl_nil]
    | succ d ih =>
      intro i s hd hi hP
      have hlt : i < l.length := by omega
      rw [List.drop_eq_getElem_cons hlt] at hP ⊢
      have := step s i hlt hP
      rw [this.1, ih (i + 1) _ (by omega) hlt this.2, List.foldl_cons]
  have := key l.length 0 s (by omega) (by omega) (by rw [List.drop_zero]; exact h)
  rw [List.drop_zero] at this
  exact this
theorem fold_app {α β : Type} (T : α → List β) : ∀ (l : List α) (x : List β), l.foldl (fun s a => s ++ T a) x = x ++ l.flatMap T
  | [], x => by simp
  | a :: l, x => by rw [List.foldl_cons, fold_app T l, List.flatMap_cons, List.append_assoc]
theorem app_loop {α β γ : Type} {l : List α} {F : List β → Int → Option γ} {T : α → List β} {B : Nat} (step : ∀ (s : List β) (i : Nat) (hi : i < l.length), s.length + (T l[i]).length ≤ B → F s (i : Int) = F (s ++ T l[i]) ((i + 1 : Nat) : Int)) (x : List β) (hB : x.length + (l.map fun a => (T a).length).sum ≤ B) : F x 0 = F (x ++ l.flatMap T) (l.length : Int) := by
  rw [← fold_app]
  exact gen_loop (F := F) (g := fun s a => s ++ T a) (fun r s => s.length + (r.map fun a => (T a).length).sum ≤ B) (fun s i hi h => by
    rw [List.map_cons, List.sum_cons] at h
    exact ⟨step s i hi (by omega), by show (s ++ T l[i]).length + _ ≤ B; rw [List.length_append]; omega⟩) x hB
theorem flat_one {α β : Type} (f : α → β) : ∀ l : List α, l.flatMap (fun x => [f x]) = l.map f
  | [] => rfl
  | a :: l => by rw [List.flatMap_cons, flat_one f l]; rfl
theorem map_loop {α β γ : Type} {l : List α} {F : List β → Int → Option γ} {f : α → β} {B : Nat} (step : ∀ (s : List β) (i : Nat) (hi : i < l.length), s.length + 1 ≤ B → F s (i : Int) = F (s ++ [f l[i]]) ((i + 1 : Nat) : Int)) (hB : l.length ≤ B) : F [] 0 = F (l.map f) (l.length : Int) := by
  have := app_loop (l := l) (F := F) (T := fun x => [f x]) (B := B) (fun s i hi h => step s i hi h) [] (by
    have : ∀ l : List α, (l.map fun a => [f a].length).sum = l.length := fun l => by induction l with
      | nil => rfl
      | cons a l ih => rw [List.map_cons, List.sum_cons, ih, List.length_cons, List.length_cons, List.length_nil]; omega
    rw [this, List.length_nil]; omega)
  rw [flat_one, List.nil_append] at this
  exact this
theorem nlt (n : Int) : ¬ n < n := by omega
abbrev Ln := T_talk_Line
abbrev Dd := T_talk_Deed
abbrev Nt := T_talk_Net
def cl (y : Ln) : List Int := [y.A, y.B]
def sg (b : Bool) : Int := if b = true then 1 else 0
def cd (z : Dd) : List Int := [z.Line, sg z.Send, z.Msg]
def cv (n : Nt) : T_roadref2_Net := T_roadref2_Net.mk (n.Lines.map cl) (n.Who.map fun w => w.map cd)
def ln (n : Nt) (k : Nat) : Ln := (n.Lines[k]?).getD ⟨0, 0⟩
def wh (n : Nt) (k : Nat) : List Dd := (n.Who[k]?).getD []
theorem gi_ln {n : Nt} {k : Nat} (h : k < n.Lines.length) : gi n.Lines (k : Int) = some (ln n k) := by
  rw [gi_nat]; unfold ln; rw [List.getElem?_eq_getElem h]; rfl
theorem gi_wh {n : Nt} {k : Nat} (h : k < n.Who.length) : gi n.Who (k : Int) = some (wh n k) := by
  rw [gi_nat]; unfold wh; rw [List.getElem?_eq_getElem h]; rfl
theorem gi_cl {n : Nt} {k : Nat} (h : k < n.Lines.length) : gi (cv n).Lines (k : Int) = some (cl (ln n k)) := by
  rw [gi_nat]; unfold cv ln; simp only; rw [List.getElem?_map, List.getElem?_eq_getElem h]; rfl
theorem gi_cw {n : Nt} {k : Nat} (h : k < n.Who.length) : gi (cv n).Who (k : Int) = some ((wh n k).map cd) := by
  rw [gi_nat]; unfold cv wh; simp only; rw [List.getElem?_map, List.getElem?_eq_getElem h]; rfl
theorem cv_l (n : Nt) : (cv n).Lines.length = n.Lines.length := by simp [cv]
theorem cv_w (n : Nt) : (cv n).Who.length = n.Who.length := by simp [cv]
theorem gi_c0 (y : Ln) : gi (cl y) 0 = some y.A := rfl
theorem gi_c1 (y : Ln) : gi (cl y) 1 = some y.B := rfl
theorem gi_d0 (z : Dd) : gi (cd z) 0 = some z.Line := rfl
theorem gi_d1 (z : Dd) : gi (cd z) 1 = some (sg z.Send) := rfl
theorem gi_d2 (z : Dd) : gi (cd z) 2 = some z.Msg := rfl
def firstN (g : Nat → Int) : Nat → Nat → Int
  | _, 0 => 0
  | i, d + 1 => if g i = 0 then firstN g (i + 1) d else g i
theorem loopN' {F : Int → Option Int} {g : Nat → Int} {N : Nat} (step : ∀ i : Nat, i < N → F (i : Int) = if g i = 0 then F ((i + 1 : Nat) : Int) else some (g i)) : ∀ d i : Nat, i + d = N → F (i : Int) = if firstN g i d = 0 then F (N : Int) else some (firstN g i d) := by
  intro d
  induction d with
  | zero => intro i h; rw [firstN, if_pos rfl, show i = N by omega]
  | succ d ih =>
    intro i h
    rw [step i (by omega), firstN]
    by_cases c : g i = 0
    · rw [if_pos c, if_pos c, ih (i + 1) (by omega)]
    · rw [if_neg c, if_neg c, if_neg c]
theorem loopN {F : Int → Option Int} {g : Nat → Int} {N : Nat} (step : ∀ i : Nat, i < N → F (i : Int) = if g i = 0 then F ((i + 1 : Nat) : Int) else some (g i)) : F 0 = if firstN g 0 N = 0 then F (N : Int) else some (firstN g 0 N) := loopN' step N 0 (by omega)
theorem firstN_zero {g : Nat → Int} : ∀ d i : Nat, firstN g i d = 0 → ∀ k, i ≤ k → k < i + d → g k = 0 := by
  intro d
  induction d with
  | zero => intro i _ k h1 h2; omega
  | succ d ih =>
    intro i h k h1 h2
    rw [firstN] at h
    by_cases c : g i = 0
    · rw [if_pos c] at h
      by_cases e : k = i
      · rw [e]; exact c
      · exact ih (i + 1) h k (by omega) (by omega)
    · rw [if_neg c] at h; exact absurd h c
def lineErr (n : Nt) (i : Nat) : Int := if (ln n i).A < 0 ∨ (ln n i).B < 0 ∨ (ln n i).A ≥ (n.Who.length : Int) ∨ (ln n i).B ≥ (n.Who.length : Int) ∨ (ln n i).A = (ln n i).B then 1 else 0
def deedErr (n : Nt) (i : Nat) (d : Dd) : Int :=
  if d.Line < 0 ∨ d.Line ≥ (n.Lines.length : Int) ∨ d.Msg < 0 ∨ d.Msg > 20 then 1
  else if (ln n d.Line.toNat).A = (i : Int) ∨ (ln n d.Line.toNat).B = (i : Int) then 0 else 7
def rowErr (n : Nt) (i : Nat) : Int := if (wh n i).length > 40 then 2 else firstN (fun k => deedErr n i (((wh n i)[k]?).getD ⟨0, false, 0⟩)) 0 (wh n i).length
def chk (n : Nt) : Int :=
  if n.Who.length > 8 then 2 else if n.Lines.length > 12 then 2
  else if firstN (lineErr n) 0 n.Lines.length = 0 then firstN (rowErr n) 0 n.Who.length else firstN (lineErr n) 0 n.Lines.length
theorem de1 {n : Nt} {i : Nat} {d : Dd} (h : d.Line < 0 ∨ d.Line ≥ (n.Lines.length : Int) ∨ d.Msg < 0 ∨ d.Msg > 20) {α : Type} (x : α) (y : Int → α) : (if deedErr n i d = 0 then x else y (deedErr n i d)) = y 1 := by
  have : deedErr n i d = 1 := by unfold deedErr; rw [if_pos h]
  rw [this, if_neg (by decide)]
theorem de0 {n : Nt} {i : Nat} {d : Dd} (h : ¬ (d.Line < 0 ∨ d.Line ≥ (n.Lines.length : Int) ∨ d.Msg < 0 ∨ d.Msg > 20)) (h2 : (ln n d.Line.toNat).A = (i : Int) ∨ (ln n d.Line.toNat).B = (i : Int)) {α : Type} (x : α) (y : Int → α) : (if deedErr n i d = 0 then x else y (deedErr n i d)) = x := by
  have : deedErr n i d = 0 := by unfold deedErr; rw [if_neg h, if_pos h2]
  rw [this, if_pos rfl]
theorem de7 {n : Nt} {i : Nat} {d : Dd} (h : ¬ (d.Line < 0 ∨ d.Line ≥ (n.Lines.length : Int) ∨ d.Msg < 0 ∨ d.Msg > 20)) (h2 : ¬ ((ln n d.Line.toNat).A = (i : Int) ∨ (ln n d.Line.toNat).B = (i : Int))) {α : Type} (x : α) (y : Int → α) : (if deedErr n i d = 0 then x else y (deedErr n i d)) = y 7 := by
  have : deedErr n i d = 7 := by unfold deedErr; rw [if_neg h, if_neg h2]
  rw [this, if_neg (by decide)]
theorem le1 {n : Nt} {i : Nat} (h : (ln n i).A < 0 ∨ (ln n i).B < 0 ∨ (ln n i).A ≥ (n.Who.length : Int) ∨ (ln n i).B ≥ (n.Who.length : Int) ∨ (ln n i).A = (ln n i).B) {α : Type} (x : α) (y : Int → α) : (if lineErr n i = 0 then x else y (lineErr n i)) = y 1 := by
  have : lineErr n i = 1 := by unfold lineErr; rw [if_pos h]
  rw [this, if_neg (by decide)]
theorem le0 {n : Nt} {i : Nat} (h : ¬ ((ln n i).A < 0 ∨ (ln n i).B < 0 ∨ (ln n i).A ≥ (n.Who.length : Int) ∨ (ln n i).B ≥ (n.Who.length : Int) ∨ (ln n i).A = (ln n i).B)) {α : Type} (x : α) (y : Int → α) : (if lineErr n i = 0 then x else y (lineErr n i)) = x := by
  have : lineErr n i = 0 := by unfold lineErr; rw [if_neg h]
  rw [this, if_pos rfl]
theorem gi_dd {w : List Dd} {k : Nat} (h : k < w.length) : gi w (k : Int) = some ((w[k]?).getD ⟨0, false, 0⟩) := by
  rw [gi_nat, List.getElem?_eq_getElem h]; rfl
theorem gi_dm {w : List Dd} {k : Nat} (h : k < w.length) : gi (w.map cd) (k : Int) = some (cd ((w[k]?).getD ⟨0, false, 0⟩)) := by
  rw [gi_nat, List.getElem?_map, List.getElem?_eq_getElem h]; rfl
theorem check_row {n : Nt} (h8 : n.Who.length ≤ 8) {i : Nat} (hi : i < n.Who.length) (hr : (wh n i).length ≤ 40) :
    talk_Check.l2 n (i : Int) n.Who (n.Who.length : Int) (i : Int) (wh n i) ((wh n i).length : Int) 0 = if rowErr n i = 0 then talk_Check.l1 n n.Who (n.Who.length : Int) ((i + 1 : Nat) : Int) else some (rowErr n i) := by
  have := loopN (F := fun k => talk_Check.l2 n (i : Int) n.Who (n.Who.length : Int) (i : Int) (wh n i) ((wh n i).length : Int) k) (g := fun k => deedErr n i (((wh n i)[k]?).getD ⟨0, false, 0⟩)) (N := (wh n i).length) (fun k hk => by
    rw [talk_Check.l2_eq, if_pos (by omega), gi_dd hk, Option.bind_some]
    generalize ((wh n i)[k]?).getD ⟨0, false, 0⟩ = d
    by_cases c1 : d.Line < 0
    · rw [if_pos c1]; exact (de1 (.inl c1) _ some).symm
    rw [if_neg c1]
    by_cases c2 : d.Line ≥ (n.Lines.length : Int)
    · rw [if_pos c2]; exact (de1 (.inr (.inl c2)) _ some).symm
    rw [if_neg c2]
    by_cases c3 : d.Msg < 0
    · rw [if_pos c3]; exact (de1 (.inr (.inr (.inl c3))) _ some).symm
    rw [if_neg c3]
    by_cases c4 : d.Msg > 20
    · rw [if_pos c4]; exact (de1 (.inr (.inr (.inr c4))) _ some).symm
    have hg : ¬ (d.Line < 0 ∨ d.Line ≥ (n.Lines.length : Int) ∨ d.Msg < 0 ∨ d.Msg > 20) := by omega
    rw [if_neg c4, talk_Check.j1_eq]
    obtain ⟨j, hj⟩ := Int.eq_ofNat_of_zero_le (show 0 ≤ d.Line by omega)
    have ej : d.Line.toNat = j := by omega
    rw [hj, gi_ln (by omega), Option.bind_some, w_succ (by omega)]
    by_cases a : (ln n j).A = (i : Int)
    · rw [if_pos a]; exact (de0 hg (by rw [ej]; exact .inl a) _ some).symm
    rw [if_neg a]
    by_cases b : (ln n j).B = (i : Int)
    · rw [if_pos b]; exact (de0 hg (by rw [ej]; exact .inr b) _ some).symm
    · rw [if_neg b]; exact (de7 hg (by rw [ej]; omega) _ some).symm)
  have hre : rowErr n i = firstN (fun k => deedErr n i (((wh n i)[k]?).getD ⟨0, false, 0⟩)) 0 (wh n i).length := by unfold rowErr; rw [if_neg (by omega)]
  rw [this, hre, talk_Check.l2_eq, if_neg (nlt _), w_succ (by omega)]
theorem Check_val (n : Nt) : talk_Check n = some (chk n) := by
  unfold talk_Check talk_Check.j0 chk
  by_cases c1 : n.Who.length > 8
  · rw [if_pos (by omega), if_pos c1]
  rw [if_neg (by omega), if_neg c1]
  by_cases c2 : n.Lines.length > 12
  · rw [if_pos (by omega), if_pos c2]
  rw [if_neg (by omega), if_neg c2]
  have h1 := loopN (F := fun k => talk_Check.l0 n n.Lines (n.Lines.length : Int) k) (g := lineErr n) (N := n.Lines.length) (fun k hk => by
    rw [talk_Check.l0_eq, if_pos (by omega), gi_ln hk, Option.bind_some, w_succ (by omega)]
    by_cases a1 : (ln n k).A < 0
    · rw [if_pos a1]; exact (le1 (.inl a1) _ some).symm
    rw [if_neg a1]
    by_cases a2 : (ln n k).B < 0
    · rw [if_pos a2]; exact (le1 (.inr (.inl a2)) _ some).symm
    rw [if_neg a2]
    by_cases a3 : (ln n k).A ≥ (n.Who.length : Int)
    · rw [if_pos a3]; exact (le1 (.inr (.inr (.inl a3))) _ some).symm
    rw [if_neg a3]
    by_cases a4 : (ln n k).B ≥ (n.Who.length : Int)
    · rw [if_pos a4]; exact (le1 (.inr (.inr (.inr (.inl a4)))) _ some).symm
    rw [if_neg a4]
    by_cases a5 : (ln n k).A = (ln n k).B
    · rw [if_pos a5]; exact (le1 (.inr (.inr (.inr (.inr a5)))) _ some).symm
    · rw [if_neg a5]; exact (le0 (by omega) _ some).symm)
  rw [h1]
  by_cases z : firstN (lineErr n) 0 n.Lines.length = 0
  · rw [if_pos z, if_pos z, talk_Check.l0_eq, if_neg (nlt _)]
    have h2 := loopN (F := fun k => talk_Check.l1 n n.Who (n.Who.length : Int) k) (g := rowErr n) (N := n.Who.length) (fun k hk => by
      rw [talk_Check.l1_eq, if_pos (by omega), gi_wh hk, Option.bind_some]
      by_cases c : (wh n k).length > 40
      · have e : rowErr n k = 2 := by unfold rowErr; rw [if_pos c]
        rw [if_pos (by omega), e, if_neg (by decide)]
      · rw [if_neg (by omega), check_row (by omega) hk (by omega)])
    rw [h2, talk_Check.l1_eq, if_neg (nlt _)]
    split
    · rename_i h; rw [h]
    · rfl
  · rw [if_neg z, if_neg z]
theorem cont_val {x : List Int} {t : Int} (h : x.length ≤ 1000) : slices_Contains_35 x t = some (decide (t ∈ x)) := slices_Contains_35.val t (by omega)
theorem err_row {n : Nt} (h8 : n.Who.length ≤ 8) {i : Nat} (hi : i < n.Who.length) (hr : (wh n i).length ≤ 40) :
    roadref2_NetErr.l2 (cv n) (i : Int) (cv n).Who ((cv n).Who.length : Int) (i : Int) ((wh n i).map cd) (((wh n i).map cd).length : Int) 0 = if rowErr n i = 0 then roadref2_NetErr.l1 (cv n) (cv n).Who ((cv n).Who.length : Int) ((i + 1 : Nat) : Int) else some (rowErr n i) := by
  rw [cv_w, List.length_map]
  have := loopN (F := fun k => roadref2_NetErr.l2 (cv n) (i : Int) (cv n).Who (n.Who.length : Int) (i : Int) ((wh n i).map cd) ((wh n i).length : Int) k) (g := fun k => deedErr n i (((wh n i)[k]?).getD ⟨0, false, 0⟩)) (N := (wh n i).length) (fun k hk => by
    rw [roadref2_NetErr.l2_eq, if_pos (by omega), gi_dm hk, Option.bind_some]
    generalize ((wh n i)[k]?).getD ⟨0, false, 0⟩ = d
    rw [gi_d0, Option.bind_some, Option.bind_some, gi_d2, Option.bind_some, Option.bind_some, cv_l]
    by_cases c1 : d.Line < 0
    · rw [if_pos c1]; exact (de1 (.inl c1) _ some).symm
    rw [if_neg c1]
    by_cases c2 : d.Line ≥ (n.Lines.length : Int)
    · rw [if_pos c2]; exact (de1 (.inr (.inl c2)) _ some).symm
    rw [if_neg c2]
    by_cases c3 : d.Msg < 0
    · rw [if_pos c3]; exact (de1 (.inr (.inr (.inl c3))) _ some).symm
    rw [if_neg c3]
    by_cases c4 : d.Msg > 20
    · rw [if_pos c4]; exact (de1 (.inr (.inr (.inr c4))) _ some).symm
    have hg : ¬ (d.Line < 0 ∨ d.Line ≥ (n.Lines.length : Int) ∨ d.Msg < 0 ∨ d.Msg > 20) := by omega
    rw [if_neg c4, roadref2_NetErr.j1_eq, gi_d0, Option.bind_some]
    obtain ⟨j, hj⟩ := Int.eq_ofNat_of_zero_le (show 0 ≤ d.Line by omega)
    have ej : d.Line.toNat = j := by omega
    rw [hj, gi_cl (by omega), Option.bind_some, cont_val (by simp [cl]), Option.bind_some, w_succ (by omega)]
    have hm : ((i : Int) ∈ cl (ln n j)) ↔ ((ln n j).A = (i : Int) ∨ (ln n j).B = (i : Int)) := by
      unfold cl; simp only [List.mem_cons, List.not_mem_nil, or_false]
      constructor
      · rintro (h | h) <;> simp [h]
      · rintro (h | h) <;> simp [h]
    by_cases a : (ln n j).A = (i : Int) ∨ (ln n j).B = (i : Int)
    · rw [decide_eq_true (hm.2 a), if_pos rfl]; exact (de0 hg (by rw [ej]; exact a) _ some).symm
    · rw [decide_eq_false (fun h => a (hm.1 h)), if_neg (by decide)]; exact (de7 hg (by rw [ej]; exact a) _ some).symm)
  have hre : rowErr n i = firstN (fun k => deedErr n i (((wh n i)[k]?).getD ⟨0, false, 0⟩)) 0 (wh n i).length := by unfold rowErr; rw [if_neg (by omega)]
  rw [this, hre, roadref2_NetErr.l2_eq, if_neg (nlt _), w_succ (by omega)]
theorem NetErr_val (n : Nt) : roadref2_NetErr (cv n) = some (chk n) := by
  unfold roadref2_NetErr roadref2_NetErr.j0 chk
  rw [cv_w, cv_l]
  by_cases c1 : n.Who.length > 8
  · rw [if_pos (by omega), if_pos c1]
  rw [if_neg (by omega), if_neg c1]
  by_cases c2 : n.Lines.length > 12
  · rw [if_pos (by omega), if_pos c2]
  rw [if_neg (by omega), if_neg c2]
  have h1 := loopN (F := fun k => roadref2_NetErr.l0 (cv n) (cv n).Lines (n.Lines.length : Int) k) (g := lineErr n) (N := n.Lines.length) (fun k hk => by
    rw [roadref2_NetErr.l0_eq, if_pos (by omega), gi_cl hk, Option.bind_some, gi_c0, Option.bind_some, gi_c1, Option.bind_some, w_succ (by omega), cv_w]
    simp only [Option.bind_some]
    by_cases a1 : (if (ln n k).B < (ln n k).A then (ln n k).B else (ln n k).A) < 0
    · rw [if_pos a1]; exact (le1 (by split at a1 <;> omega) _ some).symm
    rw [if_neg a1]
    by_cases a2 : (if (ln n k).B > (ln n k).A then (ln n k).B else (ln n k).A) ≥ (n.Who.length : Int)
    · rw [if_pos a2]; exact (le1 (by split at a2 <;> omega) _ some).symm
    rw [if_neg a2]
    by_cases a5 : (ln n k).A = (ln n k).B
    · rw [if_pos a5]; exact (le1 (.inr (.inr (.inr (.inr a5)))) _ some).symm
    · rw [if_neg a5]; exact (le0 (by split at a1 <;> split at a2 <;> omega) _ some).symm)
  rw [h1]
  by_cases z : firstN (lineErr n) 0 n.Lines.length = 0
  · rw [if_pos z, if_pos z, roadref2_NetErr.l0_eq, if_neg (nlt _), cv_w]
    have h2 := loopN (F := fun k => roadref2_NetErr.l1 (cv n) (cv n).Who (n.Who.length : Int) k) (g := rowErr n) (N := n.Who.length) (fun k hk => by
      rw [roadref2_NetErr.l1_eq, if_pos (by omega), gi_cw hk, Option.bind_some]
      by_cases c : (wh n k).length > 40
      · have e : rowErr n k = 2 := by unfold rowErr; rw [if_pos c]
        rw [if_pos (by rw [List.length_map]; omega), e, if_neg (by decide)]
      · rw [if_neg (by rw [List.length_map]; omega)]
        have := err_row (n := n) (by omega) hk (by omega)
        rw [cv_w] at this
        exact this)
    rw [h2, roadref2_NetErr.l1_eq, if_neg (nlt _)]
    split
    · rename_i h; rw [h]
    · rfl
  · rw [if_neg z, if_neg z]
structure Ok (n : Nt) : Prop where
  who : n.Who.length ≤ 8
  lines : n.Lines.length ≤ 12
  line : ∀ i, i < n.Lines.length → 0 ≤ (ln n i).A ∧ 0 ≤ (ln n i).B ∧ (ln n i).A < (n.Who.length : Int) ∧ (ln n i).B < (n.Who.length : Int) ∧ (ln n i).A ≠ (ln n i).B
  row : ∀ i, i < n.Who.length → (wh n i).length ≤ 40
  deed : ∀ i, i < n.Who.length → ∀ d ∈ wh n i, 0 ≤ d.Line ∧ d.Line < (n.Lines.length : Int) ∧ 0 ≤ d.Msg ∧ d.Msg ≤ 20 ∧ ((ln n d.Line.toNat).A = (i : Int) ∨ (ln n d.Line.toNat).B = (i : Int))
theorem ok_of {n : Nt} (h : chk n = 0) : Ok n := by
  unfold chk at h
  by_cases c1 : n.Who.length > 8
  · rw [if_pos c1] at h; cases h
  rw [if_neg c1] at h
  by_cases c2 : n.Lines.length > 12
  · rw [if_pos c2] at h; cases h
  rw [if_neg c2] at h
  by_cases z : firstN (lineErr n) 0 n.Lines.length = 0
  · rw [if_pos z] at h
    have hrow : ∀ i, i < n.Who.length → rowErr n i = 0 := fun i hi => firstN_zero _ _ h i (Nat.zero_le _) (by omega)
    have hlen : ∀ i, i < n.Who.length → (wh n i).length ≤ 40 := fun i hi => by
      have := hrow i hi
      unfold rowErr at this
      by_cases c : (wh n i).length > 40
      · rw [if_pos c] at this; cases this
      · omega
    refine ⟨by omega, by omega, fun i hi => ?_, hlen, fun i hi d hd => ?_⟩
    · have := firstN_zero _ _ z i (Nat.zero_le _) (by omega)
      unfold lineErr at this
      by_cases c : (ln n i).A < 0 ∨ (ln n i).B < 0 ∨ (ln n i).A ≥ (n.Who.length : Int) ∨ (ln n i).B ≥ (n.Who.length : Int) ∨ (ln n i).A = (ln n i).B
      · rw [if_pos c] at this; cases this
      · omega
    · have h1 := hrow i hi
      have h2 := hlen i hi
      unfold rowErr at h1
      rw [if_neg (by omega)] at h1
      obtain ⟨k, hk, rfl⟩ := List.getElem_of_mem hd
      have h3 := firstN_zero _ _ h1 k (Nat.zero_le _) (by omega)
      rw [List.getElem?_eq_getElem hk, Option.getD_some] at h3
      unfold deedErr at h3
      by_cases c : (wh n i)[k].Line < 0 ∨ (wh n i)[k].Line ≥ (n.Lines.length : Int) ∨ (wh n i)[k].Msg < 0 ∨ (wh n i)[k].Msg > 20
      · rw [if_pos c] at h3; cases h3
      · rw [if_neg c] at h3
        by_cases c' : (ln n (wh n i)[k].Line.toNat).A = (i : Int) ∨ (ln n (wh n i)[k].Line.toNat).B = (i : Int)
        · exact ⟨by omega, by omega, by omega, by omega, c'⟩
        · rw [if_neg c'] at h3; cases h3
  · rw [if_neg z] at h; exact absurd h z
theorem ln_nat {n : Nt} (o : Ok n) {i : Nat} (hi : i < n.Lines.length) : ∃ a b : Nat, (ln n i).A = (a : Int) ∧ (ln n i).B = (b : Int) ∧ a < n.Who.length ∧ b < n.Who.length ∧ a ≠ b := by
  have h := o.line i hi
  obtain ⟨a, ha⟩ := Int.eq_ofNat_of_zero_le h.1
  obtain ⟨b, hb⟩ := Int.eq_ofNat_of_zero_le h.2.1
  exact ⟨a, b, ha, hb, by omega, by omega, by omega⟩
def onl (i : Int) (w : List Dd) : List Dd := w.filter fun d => decide (d.Line = i)
theorem filt_loop {γ β : Type} {w : List Dd} {i : Int} {F : List β → Int → Option γ} {f : Dd → β} (h40 : w.length ≤ 40)
    (s1 : ∀ (s : List β) (k : Nat) (hk : k < w.length), s.length ≤ 1000 → w[k].Line = i → F s (k : Int) = F (s ++ [f w[k]]) ((k + 1 : Nat) : Int))
    (s2 : ∀ (s : List β) (k : Nat) (hk : k < w.length), w[k].Line ≠ i → F s (k : Int) = F s ((k + 1 : Nat) : Int)) : F [] 0 = F ((onl i w).map f) (w.length : Int) := by
  have hT : ∀ l : List Dd, (l.map fun a => (if a.Line = i then [f a] else []).length).sum ≤ l.length := by
    intro l
    induction l with
    | nil => simp
    | cons a l ih => rw [List.map_cons, List.sum_cons, List.length_cons]; split <;> simp <;> omega
  have hF : ∀ l : List Dd, l.flatMap (fun a => if a.Line = i then [f a] else []) = (onl i l).map f := by
    intro l
    induction l with
    | nil => rfl
    | cons a l ih =>
      rw [List.flatMap_cons, ih]
      unfold onl
      by_cases c : a.Line = i
      · rw [if_pos c, List.filter_cons_of_pos (by simpa using c), List.map_cons]; rfl
      · rw [if_neg c, List.filter_cons_of_neg (by simpa using c), List.nil_append]
  have := app_loop (l := w) (F := F) (T := fun a => if a.Line = i then [f a] else []) (B := 1000) (fun s k hk hs => by
    by_cases c : w[k].Line = i
    · rw [s1 s k hk (by omega) c]; simp only [c, if_true]
    · rw [s2 s k hk c]; simp only [c, if_false, List.append_nil]) [] (by have := hT w; simp only [List.length_nil]; omega)
  rw [this, List.nil_append, hF]
theorem part_val {w : List Dd} {i : Int} (h : w.length ≤ 40) : talk_part w i = some (onl i w) := by
  unfold talk_part
  refine (filt_loop (w := w) (i := i) (f := id) (F := fun s k => talk_part.l0 i s w (w.length : Int) k) h (fun s k hk hs c => by
    rw [talk_part.l0_eq, if_pos (by omega), gi_at hk, Option.bind_some, if_pos c, ap_one (by omega), Option.bind_some, w_succ (by omega)]; rfl) (fun s k hk c => by
    rw [talk_part.l0_eq, if_pos (by omega), gi_at hk, Option.bind_some, if_neg c, w_succ (by omega)])).trans ?_
  rw [talk_part.l0_eq, if_neg (nlt _), List.map_id]
def od (s : Int) (d : Dd) : Int := s * (2 * sg d.Send - 1) * (d.Msg + 1)
theorem onLine_val {n : Nt} (o : Ok n) {k : Nat} (hk : k < n.Who.length) {i s : Int} (hs : s = 1 ∨ s = -1) : roadref2_onLine (cv n) (k : Int) i s = some ((onl i (wh n k)).map (od s)) := by
  unfold roadref2_onLine
  rw [gi_cw hk, Option.bind_some, List.length_map]
  have h40 := o.row k hk
  refine (filt_loop (w := wh n k) (i := i) (f := od s) (F := fun a j => roadref2_onLine.l0 i s a ((wh n k).map cd) ((wh n k).length : Int) j) h40 (fun a j hj ha c => by
    have hd := o.deed k hk _ (List.getElem_mem hj)
    have g : gi ((wh n k).map cd) (j : Int) = some (cd (wh n k)[j]) := by rw [gi_nat, List.getElem?_map, List.getElem?_eq_getElem hj]; rfl
    have hsg : sg (wh n k)[j].Send = 0 ∨ sg (wh n k)[j].Send = 1 := by unfold sg; split <;> simp
    have e1 : IntKind.wrap .i64 (2 * sg (wh n k)[j].Send) = 2 * sg (wh n k)[j].Send := wrap_in (by omega) (by omega)
    have e2 : IntKind.wrap .i64 (2 * sg (wh n k)[j].Send - 1) = 2 * sg (wh n k)[j].Send - 1 := wrap_in (by omega) (by omega)
    have e3 : s * (2 * sg (wh n k)[j].Send - 1) = 1 ∨ s * (2 * sg (wh n k)[j].Send - 1) = -1 := by
      rcases hs with rfl | rfl <;> rcases hsg with e | e <;> rw [e] <;> decide
    have e4 : IntKind.wrap .i64 (s * (2 * sg (wh n k)[j].Send - 1)) = s * (2 * sg (wh n k)[j].Send - 1) := by rcases e3 with e | e <;> rw [e] <;> decide
    have e5 : IntKind.wrap .i64 ((wh n k)[j].Msg + 1) = (wh n k)[j].Msg + 1 := wrap_in (by omega) (by omega)
    have e6 : IntKind.wrap .i64 (s * (2 * sg (wh n k)[j].Send - 1) * ((wh n k)[j].Msg + 1)) = od s (wh n k)[j] := by
      unfold od; rcases e3 with e | e <;> rw [e] <;> exact wrap_in (by omega) (by omega)
    rw [roadref2_onLine.l0_eq, if_pos (by omega), g, Option.bind_some, gi_d0, Option.bind_some, if_pos c, gi_d1, Option.bind_some, gi_d2, Option.bind_some, e1, e2, e4, e5, e6, ap_one (by omega), Option.bind_some, w_succ (by omega)]) (fun a j hj c => by
    have g : gi ((wh n k).map cd) (j : Int) = some (cd (wh n k)[j]) := by rw [gi_nat, List.getElem?_map, List.getElem?_eq_getElem hj]; rfl
    rw [roadref2_onLine.l0_eq, if_pos (by omega), g, Option.bind_some, gi_d0, Option.bind_some, if_neg c, w_succ (by omega)])).trans ?_
  rw [roadref2_onLine.l0_eq, if_neg (nlt _)]
def fitL (n : Nt) (i : Nat) : Bool := decide ((onl i (wh n (ln n i).A.toNat)).map (od 1) = (onl i (wh n (ln n i).B.toNat)).map (od (-1)))
theorem od_iff {x y : Dd} (hx : 0 ≤ x.Msg ∧ x.Msg ≤ 20) (hy : 0 ≤ y.Msg ∧ y.Msg ≤ 20) : od 1 x = od (-1) y ↔ (x.Msg = y.Msg ∧ x.Send ≠ y.Send) := by
  unfold od sg
  cases x.Send <;> cases y.Send <;> simp <;> omega
theorem zip_iff : ∀ {l m : List Dd}, (∀ x ∈ l, 0 ≤ x.Msg ∧ x.Msg ≤ 20) → (∀ y ∈ m, 0 ≤ y.Msg ∧ y.Msg ≤ 20) →
    (decide (l.length = m.length) && (l.zip m).all fun x => (decide (x.1.Msg = x.2.Msg) && !(x.1.Send == x.2.Send))) = decide (l.map (od 1) = m.map (od (-1)))
  | [], [], _, _ => rfl
  | [], y :: m, _, _ => by simp
  | x :: l, [], _, _ => by simp
  | x :: l, y :: m, hl, hm => by
    have ih := zip_iff (l := l) (m := m) (fun z hz => hl z (List.mem_cons_of_mem _ hz)) (fun z hz => hm z (List.mem_cons_of_mem _ hz))
    have h1 := od_iff (hl x (List.mem_cons_self ..)) (hm y (List.mem_cons_self ..))
    rw [List.map_cons, List.map_cons, List.zip_cons_cons, List.all_cons]
    rw [Bool.eq_iff_iff] at ih ⊢
    simp only [Bool.and_eq_true, decide_eq_true_eq, Bool.not_eq_true', beq_eq_false_iff_ne, List.length_cons, Nat.add_right_cancel_iff, List.cons.injEq] at ih ⊢
    constructor
    · rintro ⟨a, ⟨b, c⟩, d⟩; exact ⟨h1.2 ⟨b, c⟩, ih.1 ⟨a, d⟩⟩
    · rintro ⟨a, b⟩; have := ih.2 b; exact ⟨this.1, h1.1 a, this.2⟩
theorem onl_mem {i : Int} {w : List Dd} {d : Dd} (h : d ∈ onl i w) : d ∈ w := (List.mem_filter.1 h).1
theorem onl_len {i : Int} {w : List Dd} : (onl i w).length ≤ w.length := List.length_filter_le ..
def misN (n : Nt) : Nat → Nat → Int
  | _, 0 => -1
  | i, d + 1 => if fitL n i = true then misN n (i + 1) d else (i : Int)
theorem Dual_val {n : Nt} (h : chk n = 0) : talk_Dual n = some (misN n 0 n.Lines.length, 0) := by
  have o := ok_of h
  unfold talk_Dual
  rw [Check_val, Option.bind_some, if_pos h]
  have key : ∀ d i : Nat, i + d = n.Lines.length → talk_Dual.l0 n n.Lines (n.Lines.length : Int) (i : Int) = some (misN n i d, 0) := by
    intro d
    induction d with
    | zero => intro i hi; rw [talk_Dual.l0_eq, if_neg (by omega)]; rfl
    | succ d ih =>
      intro i hi
      obtain ⟨a, b, ha, hb, a8, b8, _⟩ := ln_nat o (i := i) (by omega)
      have ra := o.row a a8
      have rb := o.row b b8
      have hl := o.lines
      have la := onl_len (i := (i : Int)) (w := wh n a)
      have hfit : fitL n i = decide ((onl i (wh n a)).map (od 1) = (onl i (wh n b)).map (od (-1))) := by unfold fitL; rw [ha, hb]; rfl
      rw [talk_Dual.l0_eq, if_pos (by omega), gi_ln (by omega), Option.bind_some, ha, hb, gi_wh a8, Option.bind_some, gi_wh b8, Option.bind_some, part_val ra, Option.bind_some, part_val rb, Option.bind_some,
        slices_EqualFunc_69.val (fun x y => decide (x.Msg = y.Msg) && !(x.Send == y.Send)) (fun x _ y _ => by
          unfold talk_Dual_1
          by_cases c : x.Msg = y.Msg
          · rw [if_pos c, decide_eq_true c, Bool.true_and]
          · rw [if_neg c, decide_eq_false c, Bool.false_and]) (by omega), Option.bind_some,
        zip_iff (fun x hx => let q := o.deed a a8 x (onl_mem hx); ⟨q.2.2.1, q.2.2.2.1⟩) (fun x hx => let q := o.deed b b8 x (onl_mem hx); ⟨q.2.2.1, q.2.2.2.1⟩), ← hfit, w_succ (by omega), misN]
      by_cases c : fitL n i = true
      · rw [if_pos c, if_pos c]; exact ih (i + 1) (by omega)
      · rw [if_neg c, if_neg c]
  exact key n.Lines.length 0 (by omega)
theorem indices_val {N : Nat} (h : N ≤ 12) : roadref2_indices (N : Int) = some ((List.range N).map fun k => ((k : Nat) : Int)) := by
  unfold roadref2_indices
  have := map_loop (l := List.range N) (F := fun s i => roadref2_indices.l0 s (N : Int) i) (f := fun k => ((k : Nat) : Int)) (B := 1000) (fun s i hi hs => by
    rw [List.length_range] at hi
    rw [roadref2_indices.l0_eq, if_pos (by omega), ap_one (by omega), Option.bind_some, w_succ (by omega), List.getElem_range]) (by rw [List.length_range]; omega)
  rw [List.length_range] at this
  rw [this, roadref2_indices.l0_eq, if_neg (nlt _)]
theorem eq_ints {x y : List Int} (h : x.length ≤ 1000) : slices_Equal_46 x y = some (decide (x = y)) := by
  obtain ⟨b, h1, h2⟩ := slices_Equal_46.val x y (by omega)
  rw [h1]
  by_cases c : x = y
  · rw [h2.2 c, decide_eq_true c]
  · rw [decide_eq_false c]
    cases b with
    | true => exact absurd (h2.1 rfl) c
    | false => rfl
theorem Mismatch_val {n : Nt} (o : Ok n) : roadref2_Mismatch (cv n) = some (misN n 0 n.Lines.length) := by
  have hl := o.lines
  unfold roadref2_Mismatch
  rw [cv_l, indices_val hl, Option.bind_some]
  have hgi : ∀ i, i < n.Lines.length → gi ((List.range n.Lines.length).map fun k => ((k : Nat) : Int)) (i : Int) = some (i : Int) := fun i hi => by
    rw [gi_nat, List.getElem?_map, List.getElem?_range hi]; rfl
  have key : ∀ d i : Nat, i + d = n.Lines.length → slices_IndexFunc_74.l0 ((List.range n.Lines.length).map fun k => ((k : Nat) : Int)) (fun z36 => roadref2_Mismatch_1 z36 (cv n)) (n.Lines.length : Int) (i : Int) = some (misN n i d) := by
    intro d
    induction d with
    | zero => intro i hi; rw [slices_IndexFunc_74.l0_eq, if_neg (by omega)]; rfl
    | succ d ih =>
      intro i hi
      obtain ⟨a, b, ha, hb, a8, b8, _⟩ := ln_nat o (i := i) (by omega)
      have la := onl_len (i := (i : Int)) (w := wh n a)
      have ra := o.row a a8
      have hfit : fitL n i = decide ((onl i (wh n a)).map (od 1) = (onl i (wh n b)).map (od (-1))) := by unfold fitL; rw [ha, hb]; rfl
      have hm : roadref2_Mismatch_1 (i : Int) (cv n) = some (!fitL n i) := by
        unfold roadref2_Mismatch_1
        rw [gi_cl (by omega), Option.bind_some, gi_c0, Option.bind_some, Option.bind_some, gi_c1, Option.bind_some, ha, hb, onLine_val o a8 (.inl rfl), Option.bind_some, onLine_val o b8 (.inr rfl), Option.bind_some, eq_ints (by rw [List.length_map]; omega), Option.bind_some, hfit]
      rw [slices_IndexFunc_74.l0_eq, if_pos (by omega), hgi i (by omega), Option.bind_some, hm, Option.bind_some, w_succ (by omega), misN]
      cases fitL n i with
      | true => rw [if_neg (by decide), if_pos rfl]; exact ih (i + 1) (by omega)
      | false => rw [if_pos (by decide), if_neg (by decide)]
  have := key n.Lines.length 0 (by omega)
  unfold slices_IndexFunc_74
  rw [List.length_map, List.length_range]
  rw [show ((0 : Nat) : Int) = (0 : Int) from rfl] at this
  rw [this]; rfl
theorem rev_l0 {l : List Int} (hl : l.length ≤ 1000) : ∀ (d i : Nat) (a : List Int), i + d = l.length → a.length = l.length → (∀ k, k < l.length → a[k]? = if k < i ∨ l.length - i ≤ k then l[l.length - 1 - k]? else l[k]?) →
    slices_Reverse_84.l0 a (i : Int) ((l.length : Int) - 1 - (i : Int)) = some l.reverse := by
  intro d
  have stop : ∀ (i : Nat) (a : List Int), a.length = l.length → (∀ k, k < l.length → a[k]? = if k < i ∨ l.length - i ≤ k then l[l.length - 1 - k]? else l[k]?) → l.length ≤ 2 * i + 1 → a = l.reverse := by
    intro i a ha hk h2
    refine List.ext_getElem? fun k => ?_
    rcases Nat.lt_or_ge k l.length with h | h
    · rw [hk k h, List.getElem?_reverse h]
      by_cases c : k < i ∨ l.length - i ≤ k
      · rw [if_pos c]
      · rw [if_neg c, show l.length - 1 - k = k by omega]
    · rw [List.getElem?_eq_none (by omega), List.getElem?_eq_none (by rw [List.length_reverse]; exact h)]
  induction d with
  | zero =>
    intro i a hi ha hk
    rw [slices_Reverse_84.l0_eq, if_neg (by omega), stop i a ha hk (by omega)]
  | succ d ih =>
    intro i a hi ha hk
    rw [slices_Reverse_84.l0_eq]
    by_cases c : (i : Int) < (l.length : Int) - 1 - (i : Int)
    · have hj : (l.length : Int) - 1 - (i : Int) = ((l.length - 1 - i : Nat) : Int) := by omega
      have hil : i < l.length := by omega
      have hjl : l.length - 1 - i < l.length := by omega
      have e1 : a[i]? = some l[i] := by rw [hk i hil, if_neg (by omega), List.getElem?_eq_getElem hil]
      have e2 : a[l.length - 1 - i]? = some l[l.length - 1 - i] := by rw [hk _ hjl, if_neg (by omega), List.getElem?_eq_getElem hjl]
      have e3 : (a.set i l[l.length - 1 - i])[l.length - 1 - i]? = some l[l.length - 1 - i] := by rw [List.getElem?_set_ne (by omega)]; exact e2
      have w1 : IntKind.wrap .i64 (((l.length - 1 - i : Nat) : Int) - 1) = (l.length : Int) - 1 - ((i + 1 : Nat) : Int) := by rw [wrap_in (by omega) (by omega)]; omega
      rw [if_pos c, hj, gi_nat, e2, Option.bind_some, gi_nat, e1, Option.bind_some, Option.bind_some, Option.bind_some, Int.toNat_natCast, gi_nat, e3, Option.bind_some, Option.bind_some, Int.toNat_natCast, w_succ (by omega), w1]
      refine ih (i + 1) _ (by omega) (by simp only [List.length_set]; exact ha) fun k hkl => ?_
      rw [List.getElem?_set, List.getElem?_set]
      simp only [List.length_set, ha]
      by_cases k1 : l.length - 1 - i = k
      · subst k1
        rw [if_pos rfl, if_pos hkl, if_pos (.inr (by omega)), show l.length - 1 - (l.length - 1 - i) = i by omega, List.getElem?_eq_getElem hil]
      · rw [if_neg k1]
        by_cases k2 : i = k
        · subst k2
          rw [if_pos rfl, if_pos hkl, if_pos (.inl (by omega)), List.getElem?_eq_getElem hjl]
        · rw [if_neg k2, hk k hkl]
          by_cases k3 : k < i ∨ l.length - i ≤ k
          · rw [if_pos k3, if_pos (by omega)]
          · rw [if_neg k3, if_neg (by omega)]
    · rw [if_neg c, stop i a ha hk (by omega)]
theorem Reverse_val {l : List Int} (hl : l.length ≤ 1000) : slices_Reverse_84 l = some l.reverse := by
  unfold slices_Reverse_84
  have := rev_l0 hl l.length 0 l (by omega) rfl fun k hk => by rw [if_neg (by omega)]
  rw [wrap_in (by omega) (by omega)]
  rw [show ((0 : Nat) : Int) = (0 : Int) from rfl, Int.sub_zero] at this
  exact this
abbrev wy (P : Nat → List Int) (x : Nat) : T_roadref2_way := T_roadref2_way.mk (x : Int) (P x)
structure Sn (n : Nt) (frm : Nat) (P : Nat → List Int) (by_ : List Int) (sn : List Bool) (u : Nat) (sl : List Int) (row : List Nat) : Prop where
  bl : by_.length = n.Who.length
  sl' : sn.length = n.Who.length
  ff : sn[frm]? = some true
  pf : P frm = []
  tree : ∀ x, sn[x]? = some true → x ≠ frm → ∃ i y, i < n.Lines.length ∧ sn[y]? = some true ∧ by_[x]? = some (i : Int) ∧ P x = P y ++ [(i : Int)] ∧ (ln n i).A + (ln n i).B = (x : Int) + (y : Int)
  cnt : sn.countP (fun b => !b) = u
  len : ∀ x, sn[x]? = some true → (P x).length + u ≤ 8
  mem : ∀ x : Nat, x < n.Who.length → ((x : Int) ∈ sl ↔ sn[x]? = some true)
  slen : sl.length + u ≤ 9
  rl : row.length + u ≤ 9
  row : ∀ x ∈ row, sn[x]? = some true
theorem countP_set : ∀ {sn : List Bool} {y : Nat}, sn[y]? = some false → (sn.set y true).countP (fun b => !b) + 1 = sn.countP (fun b => !b)
  | [], _, h => by simp at h
  | b :: sn, 0, h => by simp at h; subst h; simp
  | b :: sn, y + 1, h => by
    rw [List.set_cons_succ, List.countP_cons, List.countP_cons]
    have := countP_set (sn := sn) (y := y) (by simpa using h)
    omega
section
variable {n : Nt} (o : Ok n) {frm to : Nat} {but : Int}
theorem Sn.mark {P : Nat → List Int} {by_ : List Int} {sn : List Bool} {u : Nat} {sl : List Int} {row : List Nat} (S : Sn n frm P by_ sn u sl row) {x y i : Nat} (hx : sn[x]? = some true) (hy : sn[y]? = some false) (hi : i < n.Lines.length) (he : (ln n i).A + (ln n i).B = (x : Int) + (y : Int)) :
    ∃ u', u = u' + 1 ∧ Sn n frm (fun z => if z = y then P x ++ [(i : Int)] else P z) (by_.set y (i : Int)) (sn.set y true) u' (sl ++ [(y : Int)]) (row ++ [y]) := by
  have hc := countP_set hy
  rw [S.cnt] at hc
  have hyl : y < n.Who.length := by have := (List.getElem?_eq_some_iff.1 hy).1; rw [S.sl'] at this; exact this
  have hne : ∀ z, sn[z]? = some true → z ≠ y := fun z hz e => by subst e; rw [hy] at hz; cases hz
  have hset : ∀ z, (sn.set y true)[z]? = some true ↔ z = y ∨ sn[z]? = some true := fun z => by
    rw [List.getElem?_set]
    by_cases e : y = z
    · subst e; rw [if_pos rfl, if_pos (by rw [S.sl']; exact hyl)]; simp
    · rw [if_neg e]; simp [Ne.symm e]
  have hlx := S.len x hx
  refine ⟨_, hc.symm, ⟨by rw [List.length_set]; exact S.bl, by rw [List.length_set]; exact S.sl', (hset _).2 (.inr S.ff), ?_, fun z hz hzf => ?_, rfl, fun z hz => ?_, fun z hz => ?_, ?_, by have := S.rl; rw [List.length_append, List.length_singleton]; omega, fun z hz => ?_⟩⟩
  · rw [if_neg (hne _ S.ff)]; exact S.pf
  · by_cases e : z = y
    · subst e
      refine ⟨i, x, hi, (hset _).2 (.inr hx), by rw [List.getElem?_set_self (by rw [S.bl]; exact hyl)], ?_, by omega⟩
      rw [if_pos rfl, if_neg (hne x hx)]
    · have hz' := ((hset z).1 hz).resolve_left e
      obtain ⟨j, w, j1, j2, j3, j4, j5⟩ := S.tree z hz' hzf
      refine ⟨j, w, j1, (hset _).2 (.inr j2), by rw [List.getElem?_set_ne (Ne.symm e)]; exact j3, ?_, j5⟩
      rw [if_neg e, if_neg (hne w j2)]; exact j4
  · by_cases e : z = y
    · rw [if_pos e, List.length_append, List.length_singleton]; omega
    · rw [if_neg e]; have := S.len z (((hset z).1 hz).resolve_left e); omega
  · rw [List.mem_append, List.mem_singleton, S.mem z hz, hset]
    constructor
    · rintro (h | h)
      · exact .inr h
      · exact .inl (by omega)
    · rintro (h | h)
      · exact .inr (by omega)
      · exact .inl h
  · have := S.slen; rw [List.length_append, List.length_singleton]; omega
  · rcases List.mem_append.1 hz with h | h
    · exact (hset z).2 (.inr (S.row z h))
    · exact (hset z).2 (.inl (List.mem_singleton.1 h))
theorem gi_sn {P : Nat → List Int} {by_ : List Int} {sn : List Bool} {u : Nat} {sl : List Int} {row : List Nat} (S : Sn n frm P by_ sn u sl row) {y : Nat} (hy : y < n.Who.length) : ∃ b, sn[y]? = some b ∧ gi sn (y : Int) = some b := by
  have h : y < sn.length := by rw [S.sl']; exact hy
  exact ⟨sn[y], List.getElem?_eq_getElem h, gi_at h⟩
include o
theorem scan {x : Nat} (hxw : x < n.Who.length) : ∀ (d i : Nat) (P : Nat → List Int) (by_ : List Int) (sn : List Bool) (u : Nat) (sl : List Int) (row : List Nat), i + d = n.Lines.length → Sn n frm P by_ sn u sl row → sn[x]? = some true →
    ∃ P' by' sn' u' sl' row', talk_way.l3 (frm : Int) (to : Int) but n by_ sn (row.map fun k => ((k : Nat) : Int)) (x : Int) n.Lines (n.Lines.length : Int) (i : Int) = talk_way.l1 (frm : Int) (to : Int) but n by' sn' (row'.map fun k => ((k : Nat) : Int)) ∧
      roadref2_path.l1 (to : Int) but (cv n) (row.map (wy P)) sl (wy P x) (cv n).Lines (n.Lines.length : Int) (i : Int) = roadref2_path.l0 (to : Int) but (cv n) (row'.map (wy P')) sl' ∧
      Sn n frm P' by' sn' u' sl' row' ∧ row'.length + u' ≤ row.length + u ∧ (∀ z, sn[z]? = some true → sn'[z]? = some true ∧ P' z = P z) ∧ (∀ z, sn'[z]? = some true → sn[z]? = some true ∨ z ∈ row') ∧ ∀ z ∈ row, z ∈ row' := by
  intro d
  have hL := o.lines
  have hW := o.who
  induction d with
  | zero =>
    intro i P by_ sn u sl row hi S hx
    rw [talk_way.l3_eq, if_neg (by omega), roadref2_path.l1_eq, if_neg (by omega)]
    exact ⟨P, by_, sn, u, sl, row, rfl, rfl, S, Nat.le_refl _, fun z h => ⟨h, rfl⟩, fun z h => .inl h, fun z h => h⟩
  | succ d ih =>
    intro i P by_ sn u sl row hi S hx
    obtain ⟨a, b, ha, hb, a8, b8, hab⟩ := ln_nat o (i := i) (by omega)
    have hsl := S.slen
    have hrl := S.rl
    have hp : roadref2_path.l1 (to : Int) but (cv n) (row.map (wy P)) sl (wy P x) (cv n).Lines (n.Lines.length : Int) (i : Int) = if (a : Int) = (x : Int) then roadref2_path.j0 (to : Int) but (cv n) (row.map (wy P)) sl (wy P x) (i : Int) (b : Int) (cv n).Lines (n.Lines.length : Int) (i : Int) else if (b : Int) = (x : Int) then roadref2_path.j0 (to : Int) but (cv n) (row.map (wy P)) sl (wy P x) (i : Int) (a : Int) (cv n).Lines (n.Lines.length : Int) (i : Int) else roadref2_path.j0 (to : Int) but (cv n) (row.map (wy P)) sl (wy P x) (i : Int) (-1) (cv n).Lines (n.Lines.length : Int) (i : Int) := by
      rw [roadref2_path.l1_eq, if_pos (by omega), gi_cl (by omega), Option.bind_some, gi_c0, Option.bind_some, gi_c1, ha, hb]; rfl
    have hw : talk_way.l3 (frm : Int) (to : Int) but n by_ sn (row.map fun k => ((k : Nat) : Int)) (x : Int) n.Lines (n.Lines.length : Int) (i : Int) = if (i : Int) = but then talk_way.l3 (frm : Int) (to : Int) but n by_ sn (row.map fun k => ((k : Nat) : Int)) (x : Int) n.Lines (n.Lines.length : Int) ((i + 1 : Nat) : Int) else if (a : Int) = (x : Int) then (Option.bind (gi sn (IntKind.wrap .i64 (IntKind.wrap .i64 ((a : Int) + (b : Int)) - (x : Int)))) fun y27 => if y27 = true then talk_way.l3 (frm : Int) (to : Int) but n by_ sn (row.map fun k => ((k : Nat) : Int)) (x : Int) n.Lines (n.Lines.length : Int) ((i + 1 : Nat) : Int) else talk_way.j2 (frm : Int) (to : Int) but n by_ sn (row.map fun k => ((k : Nat) : Int)) (x : Int) (i : Int) (IntKind.wrap .i64 (IntKind.wrap .i64 ((a : Int) + (b : Int)) - (x : Int))) n.Lines (n.Lines.length : Int) (i : Int)) else if (b : Int) = (x : Int) then (Option.bind (gi sn (IntKind.wrap .i64 (IntKind.wrap .i64 ((a : Int) + (b : Int)) - (x : Int)))) fun y27 => if y27 = true then talk_way.l3 (frm : Int) (to : Int) but n by_ sn (row.map fun k => ((k : Nat) : Int)) (x : Int) n.Lines (n.Lines.length : Int) ((i + 1 : Nat) : Int) else talk_way.j2 (frm : Int) (to : Int) but n by_ sn (row.map fun k => ((k : Nat) : Int)) (x : Int) (i : Int) (IntKind.wrap .i64 (IntKind.wrap .i64 ((a : Int) + (b : Int)) - (x : Int))) n.Lines (n.Lines.length : Int) (i : Int)) else talk_way.l3 (frm : Int) (to : Int) but n by_ sn (row.map fun k => ((k : Nat) : Int)) (x : Int) n.Lines (n.Lines.length : Int) ((i + 1 : Nat) : Int) := by
      rw [talk_way.l3_eq, if_pos (by omega), gi_ln (by omega), Option.bind_some, ha, hb, w_succ (by omega)]
    have go := ih (i + 1) P by_ sn u sl row (by omega) S hx
    have j1f : ∀ y : Int, roadref2_path.j1 (to : Int) but (cv n) (row.map (wy P)) sl (wy P x) (i : Int) y (cv n).Lines (n.Lines.length : Int) (i : Int) false = roadref2_path.l1 (to : Int) but (cv n) (row.map (wy P)) sl (wy P x) (cv n).Lines (n.Lines.length : Int) ((i + 1 : Nat) : Int) := fun y => by
      rw [roadref2_path.j1_eq, if_neg (by decide), w_succ (by omega)]
    rw [hp, hw]
    by_cases hbut : (i : Int) = but
    · have e : ∀ y : Int, roadref2_path.j0 (to : Int) but (cv n) (row.map (wy P)) sl (wy P x) (i : Int) y (cv n).Lines (n.Lines.length : Int) (i : Int) = roadref2_path.l1 (to : Int) but (cv n) (row.map (wy P)) sl (wy P x) (cv n).Lines (n.Lines.length : Int) ((i + 1 : Nat) : Int) := fun y => by
        rw [roadref2_path.j0_eq, if_pos hbut, j1f]
      rw [if_pos hbut]
      simp only [e, ite_self]
      exact go
    · rw [if_neg hbut]
      -- the other end y of this line
      have other : ∀ y : Nat, y < n.Who.length → (a : Int) + (b : Int) = (x : Int) + (y : Int) →
          ∃ P' by' sn' u' sl' row', (Option.bind (gi sn (IntKind.wrap .i64 (IntKind.wrap .i64 ((a : Int) + (b : Int)) - (x : Int)))) fun y27 => if y27 = true then talk_way.l3 (frm : Int) (to : Int) but n by_ sn (row.map fun k => ((k : Nat) : Int)) (x : Int) n.Lines (n.Lines.length : Int) ((i + 1 : Nat) : Int) else talk_way.j2 (frm : Int) (to : Int) but n by_ sn (row.map fun k => ((k : Nat) : Int)) (x : Int) (i : Int) (IntKind.wrap .i64 (IntKind.wrap .i64 ((a : Int) + (b : Int)) - (x : Int))) n.Lines (n.Lines.length : Int) (i : Int)) = talk_way.l1 (frm : Int) (to : Int) but n by' sn' (row'.map fun k => ((k : Nat) : Int)) ∧
            roadref2_path.j0 (to : Int) but (cv n) (row.map (wy P)) sl (wy P x) (i : Int) (y : Int) (cv n).Lines (n.Lines.length : Int) (i : Int) = roadref2_path.l0 (to : Int) but (cv n) (row'.map (wy P')) sl' ∧
            Sn n frm P' by' sn' u' sl' row' ∧ row'.length + u' ≤ row.length + u ∧ (∀ z, sn[z]? = some true → sn'[z]? = some true ∧ P' z = P z) ∧ (∀ z, sn'[z]? = some true → sn[z]? = some true ∨ z ∈ row') ∧ ∀ z ∈ row, z ∈ row' := by
        intro y hy hsum
        have ew : IntKind.wrap .i64 (IntKind.wrap .i64 ((a : Int) + (b : Int)) - (x : Int)) = (y : Int) := by
          rw [wrap_in (n := (a : Int) + (b : Int)) (by omega) (by omega), wrap_in (by omega) (by omega)]; omega
        obtain ⟨s, s1, s2⟩ := gi_sn S hy
        rw [ew, s2, Option.bind_some, roadref2_path.j0_eq, if_neg hbut, if_pos (show (y : Int) ≥ 0 by omega), cont_val (by omega), Option.bind_some]
        cases s with
        | true =>
          rw [if_pos rfl, decide_eq_true ((S.mem y hy).2 s1), show (!true) = false from rfl, j1f]
          exact go
        | false =>
          have hno : ¬ (y : Int) ∈ sl := fun h => by have := (S.mem y hy).1 h; rw [s1] at this; cases this
          obtain ⟨u', hu, S'⟩ := S.mark hx s1 (i := i) (by omega) (by rw [ha, hb]; exact hsum)
          have hne : ∀ z, sn[z]? = some true → z ≠ y := fun z hz e => by subst e; rw [s1] at hz; cases hz
          have hxx : (sn.set y true)[x]? = some true := by rw [List.getElem?_set_ne (Ne.symm (hne x hx))]; exact hx
          have hlx := S.len x hx
          have hrw : (row ++ [y]).map (wy fun z => if z = y then P x ++ [(i : Int)] else P z) = row.map (wy P) ++ [T_roadref2_way.mk (y : Int) (P x ++ [(i : Int)])] := by
            rw [List.map_append]
            congr 1
            · refine List.map_congr_left fun z hz => ?_
              simp only [wy, if_neg (hne z (S.row z hz))]
            · simp
          have hwx : wy (fun z => if z = y then P x ++ [(i : Int)] else P z) x = wy P x := by simp only [wy, if_neg (hne x hx)]
          obtain ⟨bb, b1, b2⟩ : ∃ v, by_[y]? = some v ∧ gi by_ (y : Int) = some v := ⟨_, List.getElem?_eq_getElem (by rw [S.bl]; exact hy), gi_at (by rw [S.bl]; exact hy)⟩
          rw [if_neg (by decide), decide_eq_false hno, show (!false) = true from rfl, roadref2_path.j1_eq, if_pos rfl, ap_one (by omega), Option.bind_some,
            slices_Concat_34.val _ (by simp) (by simp only [List.flatten_cons, List.flatten_nil, List.append_nil, List.length_append, List.length_singleton]; omega), Option.bind_some, ap_one (by rw [List.length_map]; omega), Option.bind_some, w_succ (by omega),
            talk_way.j2_eq, s2, Option.bind_some, Option.bind_some, b2, Option.bind_some, Option.bind_some, ap_one (by rw [List.length_map]; omega), Option.bind_some, Int.toNat_natCast, w_succ (by omega)]
          have hfl : List.flatten [(wy P x).lines_, [(i : Int)]] = P x ++ [(i : Int)] := by simp
          rw [hfl]
          have hrow2 : (row.map fun k => ((k : Nat) : Int)) ++ [(y : Int)] = (row ++ [y]).map fun k => ((k : Nat) : Int) := by simp
          rw [hrow2, ← hrw, ← hwx]
          obtain ⟨P', by', sn', u2, sl', row', e1, e2, e3, e4, e5, e6, e7⟩ := ih (i + 1) _ _ _ u' _ _ (by omega) S' hxx
          refine ⟨P', by', sn', u2, sl', row', e1, e2, e3, by rw [List.length_append, List.length_singleton] at e4; omega, fun z hz => ?_, fun z hz => ?_, fun z hz => e7 z (List.mem_append_left _ hz)⟩
          · have h1 := e5 z (by rw [List.getElem?_set_ne (Ne.symm (hne z hz))]; exact hz)
            rw [if_neg (hne z hz)] at h1
            exact h1
          · rcases e6 z hz with h | h
            · by_cases ezy : z = y
              · exact .inr (e7 z (by rw [ezy]; exact List.mem_append_right _ (List.mem_singleton_self _)))
              · rw [List.getElem?_set_ne (Ne.symm ezy)] at h; exact .inl h
            · exact .inr h
      by_cases hax : (a : Int) = (x : Int)
      · rw [if_pos hax, if_pos hax]
        exact other b b8 (by omega)
      · rw [if_neg hax, if_neg hax]
        by_cases hbx : (b : Int) = (x : Int)
        · rw [if_pos hbx, if_pos hbx]
          exact other a a8 (by omega)
        · rw [if_neg hbx, if_neg hbx, roadref2_path.j0_eq, if_neg hbut, if_neg (by decide), j1f]
          exact go
theorem recon {P : Nat → List Int} {by_ : List Int} {sn : List Bool} {u : Nat} {sl : List Int} {row : List Nat} (S : Sn n frm P by_ sn u sl row) : ∀ (k x : Nat) (out : List Int), (P x).length = k → sn[x]? = some true → out.length + k ≤ 100 → talk_way.l2 (frm : Int) n by_ out (x : Int) = some (P x ++ out.reverse) := by
  intro k
  induction k with
  | zero =>
    intro x out hk hx ho
    by_cases e : x = frm
    · subst e
      rw [talk_way.l2_eq, if_pos rfl, Reverse_val (by omega), Option.bind_some, S.pf, List.nil_append]
    · obtain ⟨i, y, _, _, _, h, _⟩ := S.tree x hx e
      rw [h] at hk; simp at hk
  | succ k ih =>
    intro x out hk hx ho
    by_cases e : x = frm
    · subst e; rw [S.pf] at hk; cases hk
    · obtain ⟨i, y, i1, i2, i3, i4, i5⟩ := S.tree x hx e
      have hab := o.line i i1
      have hW := o.who
      have hxl : x < n.Who.length := by have := (List.getElem?_eq_some_iff.1 hx).1; rw [S.sl'] at this; exact this
      have ew : IntKind.wrap .i64 (IntKind.wrap .i64 ((ln n i).A + (ln n i).B) - (x : Int)) = (y : Int) := by
        rw [wrap_in (n := (ln n i).A + (ln n i).B) (by omega) (by omega), wrap_in (by omega) (by omega)]; omega
      rw [i4, List.length_append, List.length_singleton] at hk
      rw [talk_way.l2_eq, if_neg (by omega), gi_nat, i3, Option.bind_some, ap_one (by omega), Option.bind_some, gi_ln i1, Option.bind_some, Option.bind_some, ew, ih y (out ++ [(i : Int)]) (by omega) i2 (by rw [List.length_append, List.length_singleton]; omega), i4]
      simp
theorem bfs (hne : to ≠ frm) (hto : to < n.Who.length) : ∀ (m : Nat) (P : Nat → List Int) (by_ : List Int) (sn : List Bool) (u : Nat) (sl : List Int) (row : List Nat), row.length + u ≤ m → Sn n frm P by_ sn u sl row → (sn[to]? = some true → to ∈ row) →
    ∃ r b w, roadref2_path.l0 (to : Int) but (cv n) (row.map (wy P)) sl = some (r, b) ∧ talk_way.l1 (frm : Int) (to : Int) but n by_ sn (row.map fun k => ((k : Nat) : Int)) = some w ∧ (b = true → w = r ∧ w ≠ []) ∧ (b = false → w = []) ∧ w.length ≤ 8 := by
  -- what is told where the end has been seen
  have done : ∀ {P : Nat → List Int} {by_ : List Int} {sn : List Bool} {u : Nat} {sl : List Int} {row : List Nat}, Sn n frm P by_ sn u sl row → sn[to]? = some true → talk_way.l1 (frm : Int) (to : Int) but n by_ sn (row.map fun k => ((k : Nat) : Int)) = some (P to) ∧ P to ≠ [] ∧ (P to).length ≤ 8 := by
    intro P by_ sn u sl row S h
    have hl := S.len to h
    have g : gi sn (to : Int) = some true := by rw [gi_nat]; exact h
    have hj : talk_way.j0 (frm : Int) (to : Int) n by_ sn = some (P to) := by
      unfold talk_way.j0
      rw [g, Option.bind_some, if_pos rfl, recon o S _ to [] rfl h (by simp; omega), List.reverse_nil, List.append_nil]
    refine ⟨?_, ?_, by omega⟩
    · rw [talk_way.l1_eq]
      by_cases c : ((row.map fun k => ((k : Nat) : Int)).length : Int) > 0
      · rw [if_pos c, g, Option.bind_some, if_pos rfl, hj]
      · rw [if_neg c, hj]
    · obtain ⟨i, y, _, _, _, e, _⟩ := S.tree to h hne
      rw [e]; simp
  intro m
  induction m with
  | zero =>
    intro P by_ sn u sl row hm S hr
    have : row = [] := List.length_eq_zero_iff.1 (by omega)
    subst this
    obtain ⟨s, s1, s2⟩ := gi_sn S hto
    cases s with
    | true => exact absurd (hr s1) (List.not_mem_nil)
    | false =>
      refine ⟨[], false, [], ?_, ?_, fun h => (by cases h), fun _ => rfl, by decide⟩
      · rw [roadref2_path.l0_eq, if_neg (by simp)]
      · rw [talk_way.l1_eq, if_neg (by simp)]; unfold talk_way.j0; rw [s2, Option.bind_some, if_neg (by decide)]
  | succ m ih =>
    intro P by_ sn u sl row hm S hr
    cases row with
    | nil =>
      obtain ⟨s, s1, s2⟩ := gi_sn S hto
      cases s with
      | true => exact absurd (hr s1) (List.not_mem_nil)
      | false =>
        refine ⟨[], false, [], ?_, ?_, fun h => (by cases h), fun _ => rfl, by decide⟩
        · rw [roadref2_path.l0_eq, if_neg (by simp)]
        · rw [talk_way.l1_eq, if_neg (by simp)]; unfold talk_way.j0; rw [s2, Option.bind_some, if_neg (by decide)]
    | cons x row =>
      have hx := S.row x (List.mem_cons_self ..)
      have hxl : x < n.Who.length := by have := (List.getElem?_eq_some_iff.1 hx).1; rw [S.sl'] at this; exact this
      rw [List.length_cons] at hm
      have hW := o.who
      have hs1 : sls (wy P x :: row.map (wy P)) 1 (((wy P x :: row.map (wy P)).length : Nat) : Int) = some (row.map (wy P)) := sls_drop (x := 1) (k := 1) rfl (by rw [List.length_cons]; omega)
      have hs2 : sls ((x : Int) :: row.map fun k => ((k : Nat) : Int)) 1 ((((x : Int) :: row.map fun k => ((k : Nat) : Int)).length : Nat) : Int) = some (row.map fun k => ((k : Nat) : Int)) := sls_drop (x := 1) (k := 1) rfl (by rw [List.length_cons]; omega)
      rw [List.map_cons, List.map_cons, roadref2_path.l0_eq, if_pos (by simp only [List.length_cons]; omega), gi_cons, Option.bind_some, hs1, Option.bind_some]
      by_cases e : x = to
      · subst e
        rw [if_pos rfl]
        obtain ⟨d1, d2, d3⟩ := done S hx
        exact ⟨P x, true, P x, rfl, d1, fun _ => ⟨rfl, d2⟩, fun h => (by cases h), d3⟩
      · rw [if_neg (by show ¬ ((x : Int) = (to : Int)); omega)]
        have S0 : Sn n frm P by_ sn u sl row := ⟨S.bl, S.sl', S.ff, S.pf, S.tree, S.cnt, S.len, S.mem, S.slen, by have := S.rl; rw [List.length_cons] at this; omega, fun z hz => S.row z (List.mem_cons_of_mem _ hz)⟩
        obtain ⟨P', by', sn', u', sl', row', e1, e2, e3, e4, e5, e6, e7⟩ := scan o (frm := frm) (to := to) (but := but) hxl n.Lines.length 0 P by_ sn u sl row (by omega) S0 hx
        rw [show ((0 : Nat) : Int) = (0 : Int) from rfl] at e1 e2
        have hr' : sn'[to]? = some true → to ∈ row' := fun h => by
          rcases e6 to h with g | g
          · rcases List.mem_cons.1 (hr g) with q | q
            · exact absurd q.symm e
            · exact e7 to q
          · exact g
        obtain ⟨r, b, w, r1, r2, r3, r4, r5⟩ := ih P' by' sn' u' sl' row' (by omega) e3 hr'
        have hpath : roadref2_path.l1 (to : Int) but (cv n) (row.map (wy P)) sl (wy P x) (cv n).Lines ((((cv n).Lines.length : Nat)) : Int) 0 = some (r, b) := by rw [cv_l, e2, r1]
        refine ⟨r, b, w, hpath, ?_, r3, r4, r5⟩
        obtain ⟨s, s1, s2⟩ := gi_sn S hto
        cases s with
        | true =>
          obtain ⟨d1, d2, _⟩ := done S s1
          obtain ⟨f1, f2, _⟩ := done e3 (e5 to s1).1
          rw [List.map_cons] at d1
          rw [d1, ← (e5 to s1).2, ← r2, f1]
        | false =>
          rw [talk_way.l1_eq, if_pos (by simp only [List.length_cons]; omega), s2, Option.bind_some, if_neg (by decide), talk_way.j1_eq, gi_cons, Option.bind_some, hs2, Option.bind_some, e1, r2]
theorem way_path (hne : to ≠ frm) (hto : to < n.Who.length) (hf : frm < n.Who.length) : ∃ r b w, roadref2_path (cv n) (frm : Int) (to : Int) but = some (r, b) ∧ talk_way n (frm : Int) (to : Int) but = some w ∧ (b = true → w = r ∧ w ≠ []) ∧ (b = false → w = []) ∧ w.length ≤ 8 := by
  have hW := o.who
  have hl0 : ∀ (d i : Nat) (a : List Int), i + d = n.Who.length → a.length = n.Who.length → ∃ a', a'.length = n.Who.length ∧ talk_way.l0 (frm : Int) (to : Int) but n a (n.Who.length : Int) (i : Int) = talk_way.l0 (frm : Int) (to : Int) but n a' (n.Who.length : Int) (n.Who.length : Int) := by
    intro d
    induction d with
    | zero => intro i a hi ha; exact ⟨a, ha, by rw [show i = n.Who.length by omega]⟩
    | succ d ih =>
      intro i a hi ha
      obtain ⟨a', h1, h2⟩ := ih (i + 1) (a.set i (-1)) (by omega) (by rw [List.length_set]; exact ha)
      refine ⟨a', h1, ?_⟩
      rw [talk_way.l0_eq, if_pos (by omega), gi_at (by omega), Option.bind_some, Option.bind_some, Int.toNat_natCast, w_succ (by omega)]
      exact h2
  obtain ⟨a', a1, a2⟩ := hl0 n.Who.length 0 (List.replicate n.Who.length 0) (by omega) (by simp)
  have hset : ∀ z, ((List.replicate n.Who.length false).set frm true)[z]? = some true ↔ z = frm := fun z => by
    rw [List.getElem?_set]
    by_cases e : frm = z
    · subst e; rw [if_pos rfl, if_pos (by simpa using hf)]; simp
    · rw [if_neg e, List.getElem?_replicate]; split <;> simp [Ne.symm e]
  have hcnt := countP_set (sn := List.replicate n.Who.length false) (y := frm) (by rw [List.getElem?_replicate, if_pos hf])
  have hrep : (List.replicate n.Who.length false).countP (fun b => !b) = n.Who.length := by rw [List.countP_replicate]; simp
  rw [hrep] at hcnt
  have S : Sn n frm (fun _ => []) a' ((List.replicate n.Who.length false).set frm true) (((List.replicate n.Who.length false).set frm true).countP fun b => !b) [(frm : Int)] [frm] :=
    ⟨a1, by simp, (hset _).2 rfl, rfl, fun x hx hxf => absurd ((hset x).1 hx) hxf, rfl, fun x _ => by simp only [List.length_nil]; omega, fun x hx => by rw [hset, List.mem_singleton]; omega, by simp only [List.length_singleton]; omega, by simp only [List.length_singleton]; omega, fun x hx => (hset x).2 (List.mem_singleton.1 hx)⟩
  obtain ⟨r, b, w, r1, r2, r3, r4, r5⟩ := bfs o (but := but) hne hto 100 _ _ _ _ _ _ (by simp only [List.length_singleton]; omega) S fun h => absurd ((hset to).1 h) hne
  refine ⟨r, b, w, ?_, ?_, r3, r4, r5⟩
  · unfold roadref2_path; exact r1
  · unfold talk_way
    rw [mks_of rfl (by omega) (by omega), Option.bind_some, List.length_replicate]
    rw [show ((0 : Nat) : Int) = (0 : Int) from rfl] at a2
    rw [a2, talk_way.l0_eq, if_neg (nlt _), mks_of rfl (by omega) (by omega), Option.bind_some, gi_at (by simpa using hf), Option.bind_some, Option.bind_some, Int.toNat_natCast]
    exact r2
end
theorem ring_both {n : Nt} (o : Ok n) : ∀ (d i : Nat) (best : List Int), i + d = n.Lines.length → best.length ≤ 100 → ∃ r : List Int, roadref2_RingOf.l0 (cv n) best (cv n).Lines (n.Lines.length : Int) (i : Int) = some r ∧
    talk_Ring.l0 n best n.Lines (n.Lines.length : Int) (i : Int) = some (if r.length = 0 then ([], 4) else (r, 0)) ∧ r.length ≤ 100 := by
  intro d
  have hL := o.lines
  induction d with
  | zero =>
    intro i best hi hb
    refine ⟨best, ?_, ?_, hb⟩
    · rw [roadref2_RingOf.l0_eq, if_neg (by omega)]
    · rw [talk_Ring.l0_eq, if_neg (by omega)]
      by_cases c : best.length = 0
      · rw [if_pos c, if_pos c]
      · rw [if_neg c, if_neg c]
  | succ d ih =>
    intro i best hi hb
    obtain ⟨a, b, ha, hb', a8, b8, hab⟩ := ln_nat o (i := i) (by omega)
    obtain ⟨r, ok, w, r1, r2, r3, r4, r5⟩ := way_path o (frm := b) (to := a) (but := (i : Int)) hab a8 b8
    have hp : roadref2_RingOf.l0 (cv n) best (cv n).Lines (n.Lines.length : Int) (i : Int) = (if ok = true then (if best.length = 0 then roadref2_RingOf.j0 (cv n) best (i : Int) r (cv n).Lines (n.Lines.length : Int) (i : Int) true else roadref2_RingOf.j0 (cv n) best (i : Int) r (cv n).Lines (n.Lines.length : Int) (i : Int) (decide (IntKind.wrap .i64 ((r.length : Int) + 1) < (best.length : Int)))) else roadref2_RingOf.j0 (cv n) best (i : Int) r (cv n).Lines (n.Lines.length : Int) (i : Int) false) := by
      rw [roadref2_RingOf.l0_eq, if_pos (by omega), gi_cl (by omega), Option.bind_some, gi_c1, Option.bind_some, gi_c0, Option.bind_some, ha, hb', r1, Option.bind_some]
    have ht : talk_Ring.l0 n best n.Lines (n.Lines.length : Int) (i : Int) = (if w.length = 0 then talk_Ring.j0 n best (i : Int) w n.Lines (n.Lines.length : Int) (i : Int) false else if best.length = 0 then talk_Ring.j0 n best (i : Int) w n.Lines (n.Lines.length : Int) (i : Int) true else talk_Ring.j0 n best (i : Int) w n.Lines (n.Lines.length : Int) (i : Int) (decide (IntKind.wrap .i64 ((w.length : Int) + 1) < (best.length : Int)))) := by
      rw [talk_Ring.l0_eq, if_pos (by omega), gi_ln (by omega), Option.bind_some, ha, hb', r2, Option.bind_some]
    rw [hp, ht]
    have jf1 : ∀ r : List Int, roadref2_RingOf.j0 (cv n) best (i : Int) r (cv n).Lines (n.Lines.length : Int) (i : Int) false = roadref2_RingOf.l0 (cv n) best (cv n).Lines (n.Lines.length : Int) ((i + 1 : Nat) : Int) := fun r => by rw [roadref2_RingOf.j0_eq, if_neg (by decide), w_succ (by omega)]
    have jf2 : ∀ r : List Int, talk_Ring.j0 n best (i : Int) r n.Lines (n.Lines.length : Int) (i : Int) false = talk_Ring.l0 n best n.Lines (n.Lines.length : Int) ((i + 1 : Nat) : Int) := fun r => by rw [talk_Ring.j0_eq, if_neg (by decide), w_succ (by omega)]
    have jt1 : w.length ≤ 8 → roadref2_RingOf.j0 (cv n) best (i : Int) w (cv n).Lines (n.Lines.length : Int) (i : Int) true = roadref2_RingOf.l0 (cv n) ([(i : Int)] ++ w) (cv n).Lines (n.Lines.length : Int) ((i + 1 : Nat) : Int) := fun h => by
      rw [roadref2_RingOf.j0_eq, if_pos rfl, slices_Concat_34.val _ (by simp) (by simp only [List.flatten_cons, List.flatten_nil, List.append_nil, List.length_append, List.length_singleton]; omega), Option.bind_some, w_succ (by omega)]
      have e : List.flatten [[(i : Int)], w] = [(i : Int)] ++ w := by simp
      rw [e, if_pos (by simp)]
    have jt2 : w.length ≤ 8 → talk_Ring.j0 n best (i : Int) w n.Lines (n.Lines.length : Int) (i : Int) true = talk_Ring.l0 n ([(i : Int)] ++ w) n.Lines (n.Lines.length : Int) ((i + 1 : Nat) : Int) := fun h => by
      rw [talk_Ring.j0_eq, if_pos rfl, ap_of (by simp only [List.length_singleton]; omega), Option.bind_some, w_succ (by omega)]
    cases ok with
    | false =>
      rw [if_neg (show ¬ (false = true) from by decide), jf1, r4 rfl, if_pos (show ([] : List Int).length = 0 from rfl), jf2]
      exact ih (i + 1) best (by omega) hb
    | true =>
      obtain ⟨e1, e2⟩ := r3 rfl
      subst e1
      rw [if_pos (show true = true from rfl), if_neg (show ¬ w.length = 0 from fun h => e2 (List.length_eq_zero_iff.1 h))]
      by_cases c : best.length = 0
      · rw [if_pos c, if_pos c, jt1 r5, jt2 r5]
        exact ih (i + 1) _ (by omega) (by rw [List.length_append, List.length_singleton]; omega)
      · rw [if_neg c, if_neg c]
        by_cases c2 : IntKind.wrap .i64 ((w.length : Int) + 1) < (best.length : Int)
        · rw [decide_eq_true c2, jt1 r5, jt2 r5]
          exact ih (i + 1) _ (by omega) (by rw [List.length_append, List.length_singleton]; omega)
        · rw [decide_eq_false c2, jf1, jf2]
          exact ih (i + 1) best (by omega) hb
theorem Ring_val {n : Nt} (h : chk n = 0) : ∃ r : List Int, roadref2_RingOf (cv n) = some r ∧ talk_Ring n = some (if r.length = 0 then ([], 4) else (r, 0)) ∧ r.length ≤ 100 := by
  obtain ⟨r, r1, r2, r3⟩ := ring_both (ok_of h) n.Lines.length 0 [] (by omega) (by simp)
  rw [show ((0 : Nat) : Int) = (0 : Int) from rfl] at r1 r2
  refine ⟨r, ?_, ?_, r3⟩
  · unfold roadref2_RingOf; rw [cv_l]; exact r1
  · unfold talk_Ring; rw [Check_val, Option.bind_some, if_pos h]; exact r2
theorem u64_in {n : Int} (h0 : 0 ≤ n) (h1 : n ≤ 18446744073709551615) : IntKind.wrap .u64 n = n := by
  have : IntKind.wrap .u64 n = n % 18446744073709551616 := by simp [IntKind.wrap, IntKind.bits, IntKind.signed]
  rw [this, Int.emod_eq_of_lt h0 (by omega)]
theorem u64_ge (n : Int) : 0 ≤ IntKind.wrap .u64 n := by
  have : IntKind.wrap .u64 n = n % 18446744073709551616 := by simp [IntKind.wrap, IntKind.bits, IntKind.signed]
  rw [this]; omega
theorem pick_val {m : Nat} (h0 : 0 < m) (h1 : m ≤ 1000) (y : Int) : ∃ k : Nat, k < m ∧ IntKind.wrap .i64 (Int.tmod (IntKind.wrap .u64 y) (IntKind.wrap .u64 (m : Int))) = (k : Int) := by
  have hm : IntKind.wrap .u64 (m : Int) = (m : Int) := u64_in (by omega) (by omega)
  have h2 := u64_ge y
  rw [hm, Int.tmod_eq_emod_of_nonneg h2]
  have h3 := Int.emod_nonneg (IntKind.wrap .u64 y) (show (m : Int) ≠ 0 by omega)
  have h4 := Int.emod_lt_of_pos (IntKind.wrap .u64 y) (show (0 : Int) < (m : Int) by omega)
  obtain ⟨k, hk⟩ := Int.eq_ofNat_of_zero_le h3
  refine ⟨k, by omega, ?_⟩
  rw [wrap_in (by omega) (by omega)]; exact hk
def AT (n : Nt) (a : Nat → Nat) : List Int := (List.range n.Who.length).map fun k => ((a k : Nat) : Int)
def LF (n : Nt) (a : Nat → Nat) : List (List (List Int)) := (List.range n.Who.length).map fun k => ((wh n k).drop (a k)).map cd
def up (a : Nat → Nat) (k v : Nat) : Nat → Nat := fun z => if z = k then v else a z
section
variable {n : Nt}
theorem gi_AT {a : Nat → Nat} {k : Nat} (h : k < n.Who.length) : gi (AT n a) (k : Int) = some ((a k : Nat) : Int) := by
  rw [gi_nat]; unfold AT; rw [List.getElem?_map, List.getElem?_range h]; rfl
theorem gi_LF {a : Nat → Nat} {k : Nat} (h : k < n.Who.length) : gi (LF n a) (k : Int) = some (((wh n k).drop (a k)).map cd) := by
  rw [gi_nat]; unfold LF; rw [List.getElem?_map, List.getElem?_range h]; rfl
theorem set_map {β : Type} {f g : Nat → β} {k N : Nat} (h : ∀ z, z ≠ k → g z = f z) : ((List.range N).map f).set k (g k) = (List.range N).map g := by
  refine List.ext_getElem? fun z => ?_
  rw [List.getElem?_set]
  by_cases e : k = z
  · subst e
    rw [if_pos rfl]
    rcases Nat.lt_or_ge k N with hz | hz
    · rw [if_pos (by simpa using hz), List.getElem?_map, List.getElem?_range hz]; rfl
    · rw [if_neg (by simpa using hz), List.getElem?_eq_none (by simpa using hz)]
  · rw [if_neg e, List.getElem?_map, List.getElem?_map]
    rcases Nat.lt_or_ge z N with hz | hz
    · rw [List.getElem?_range hz, Option.map_some, Option.map_some, h z (Ne.symm e)]
    · rw [List.getElem?_eq_none (by simpa using hz)]; rfl
theorem set_AT {a : Nat → Nat} {k v : Nat} : (AT n a).set k ((v : Nat) : Int) = AT n (up a k v) := by
  have := set_map (f := fun z => ((a z : Nat) : Int)) (g := fun z => ((up a k v z : Nat) : Int)) (k := k) (N := n.Who.length) (fun z hz => by unfold up; rw [if_neg hz])
  have e : up a k v k = v := by unfold up; rw [if_pos rfl]
  simp only [e] at this
  exact this
theorem set_LF {a : Nat → Nat} {k v : Nat} : (LF n a).set k (((wh n k).drop v).map cd) = LF n (up a k v) := by
  have := set_map (f := fun z => ((wh n z).drop (a z)).map cd) (g := fun z => ((wh n z).drop (up a k v z)).map cd) (k := k) (N := n.Who.length) (fun z hz => by unfold up; rw [if_neg hz])
  have e : up a k v k = v := by unfold up; rw [if_pos rfl]
  simp only [e] at this
  exact this
theorem up_self {a : Nat → Nat} {k v : Nat} : up a k v k = v := by unfold up; rw [if_pos rfl]
theorem up_ne {a : Nat → Nat} {k v z : Nat} (h : z ≠ k) : up a k v z = a z := by unfold up; rw [if_neg h]
def at_ (n : Nt) (k j : Nat) : Dd := ((wh n k)[j]?).getD ⟨0, false, 0⟩
def rd (n : Nt) (a : Nat → Nat) (i : Nat) : Bool :=
  let A := (ln n i).A.toNat; let B := (ln n i).B.toNat
  decide (a A < (wh n A).length) && (decide (a B < (wh n B).length) && (decide ((at_ n A (a A)).Line = (i : Int)) && (decide ((at_ n B (a B)).Line = (i : Int)) && (decide ((at_ n A (a A)).Msg = (at_ n B (a B)).Msg) && !((at_ n A (a A)).Send == (at_ n B (a B)).Send)))))
def rl (n : Nt) (a : Nat → Nat) : List Int := (List.range n.Lines.length).flatMap fun i => if rd n a i = true then [(i : Int)] else []
theorem rl_mem {a : Nat → Nat} {k : Nat} {y : Int} (h : (rl n a)[k]? = some y) : ∃ i : Nat, y = (i : Int) ∧ i < n.Lines.length ∧ rd n a i = true := by
  have := List.mem_of_getElem? h
  unfold rl at this
  obtain ⟨i, h1, h2⟩ := List.mem_flatMap.1 this
  refine ⟨i, ?_, List.mem_range.1 h1, ?_⟩
  · by_cases c : rd n a i = true
    · rw [if_pos c] at h2; exact List.mem_singleton.1 h2
    · rw [if_neg c] at h2; cases h2
  · by_cases c : rd n a i = true
    · exact c
    · rw [if_neg c] at h2; cases h2
theorem rl_sum (a : Nat → Nat) : ∀ l : List Nat, (l.map fun i => (if rd n a i = true then [(i : Int)] else []).length).sum ≤ l.length
  | [] => by simp
  | i :: l => by have := rl_sum a l; rw [List.map_cons, List.sum_cons, List.length_cons]; split <;> simp <;> omega
theorem rl_len (a : Nat → Nat) : (rl n a).length ≤ n.Lines.length := by
  unfold rl; rw [List.length_flatMap]; have := rl_sum (n := n) a (List.range n.Lines.length); rw [List.length_range] at this; exact this
theorem gi_at_ {k j : Nat} (h : j < (wh n k).length) : gi (wh n k) (j : Int) = some (at_ n k j) := gi_dd h
theorem gi_hd {k j : Nat} (h : j < (wh n k).length) : gi (((wh n k).drop j).map cd) 0 = some (cd (at_ n k j)) := by
  rw [show (0 : Int) = ((0 : Nat) : Int) from rfl, gi_nat, List.getElem?_map, List.getElem?_drop, Nat.add_zero, List.getElem?_eq_getElem h]
  unfold at_; rw [List.getElem?_eq_getElem h]; rfl
variable (o : Ok n)
include o
theorem ready_loop {γ : Type} {a : Nat → Nat} {F : List Int → Int → Option γ} (s1 : ∀ (s : List Int) (i : Nat), i < n.Lines.length → s.length ≤ 100 → F s (i : Int) = if rd n a i = true then F (s ++ [(i : Int)]) ((i + 1 : Nat) : Int) else F s ((i + 1 : Nat) : Int)) : F [] 0 = F (rl n a) (n.Lines.length : Int) := by
  have hL := o.lines
  have := app_loop (l := List.range n.Lines.length) (F := F) (T := fun i => if rd n a i = true then [(i : Int)] else []) (B := 100) (fun s i hi hs => by
    rw [List.length_range] at hi
    rw [s1 s i hi (by omega), List.getElem_range]
    by_cases c : rd n a i = true
    · rw [if_pos c, if_pos c]
    · rw [if_neg c, if_neg c, List.append_nil]) [] (by have := rl_sum (n := n) a (List.range n.Lines.length); rw [List.length_range] at this; simp only [List.length_nil]; omega)
  rw [List.length_range, List.nil_append] at this
  exact this
theorem ready_val {a : Nat → Nat} (hle : ∀ k, k < n.Who.length → a k ≤ (wh n k).length) : talk_ready n (AT n a) = some (rl n a) := by
  have hL := o.lines
  unfold talk_ready
  refine (ready_loop o (a := a) (F := fun s i => talk_ready.l0 (AT n a) n s n.Lines (n.Lines.length : Int) i) (fun s i hi hs => ?_)).trans ?_
  · obtain ⟨A, B, ha, hb, a8, b8, hab⟩ := ln_nat o hi
    have la := hle A a8
    have lb := hle B b8
    have hA : (ln n i).A.toNat = A := by omega
    have hB : (ln n i).B.toNat = B := by omega
    have r3 := o.row A a8
    have r4 := o.row B b8
    rw [talk_ready.l0_eq, if_pos (by omega), gi_ln hi, Option.bind_some, ha, gi_AT a8, Option.bind_some, gi_wh a8, Option.bind_some, w_succ (by omega)]
    unfold rd
    simp only [hA, hB]
    by_cases c1 : a A < (wh n A).length
    · rw [if_neg (by omega), hb, gi_AT b8, Option.bind_some, gi_wh b8, Option.bind_some, decide_eq_true c1, Bool.true_and]
      by_cases c2 : a B < (wh n B).length
      · have j2 : ∀ b : Bool, talk_ready.j2 (AT n a) n s (i : Int) n.Lines (n.Lines.length : Int) (i : Int) b = if b = true then talk_ready.l0 (AT n a) n (s ++ [(i : Int)]) n.Lines (n.Lines.length : Int) ((i + 1 : Nat) : Int) else talk_ready.l0 (AT n a) n s n.Lines (n.Lines.length : Int) ((i + 1 : Nat) : Int) := fun b => by
          rw [talk_ready.j2_eq, w_succ (by omega), ap_one (by omega), Option.bind_some]
        rw [if_neg (by omega), talk_ready.j0_eq, ha, hb, gi_wh a8, Option.bind_some, gi_AT a8, Option.bind_some, gi_at_ c1, Option.bind_some, gi_wh b8, Option.bind_some, gi_AT b8, Option.bind_some, gi_at_ c2, Option.bind_some, talk_ready.j1_eq, decide_eq_true c2, Bool.true_and]
        by_cases c3 : (at_ n A (a A)).Line = (i : Int)
        · rw [if_pos c3, decide_eq_true c3, Bool.true_and]
          by_cases c4 : (at_ n B (a B)).Line = (i : Int)
          · rw [if_pos c4, decide_eq_true c4, Bool.true_and]
            by_cases c5 : (at_ n A (a A)).Msg = (at_ n B (a B)).Msg
            · rw [if_pos c5, decide_eq_true c5, Bool.true_and, j2]
            · rw [if_neg c5, decide_eq_false c5, Bool.false_and, j2]
          · rw [if_neg c4, decide_eq_false c4, Bool.false_and, j2]
        · rw [if_neg c3, decide_eq_false c3, Bool.false_and, j2]
      · rw [if_pos (by omega), decide_eq_false c2, Bool.false_and, if_neg (by decide)]
    · rw [if_pos (by omega), decide_eq_false c1, Bool.false_and, if_neg (by decide)]
  · rw [talk_ready.l0_eq, if_neg (nlt _)]
theorem going_ready {a : Nat → Nat} (hle : ∀ k, k < n.Who.length → a k ≤ (wh n k).length) (p out : List Int) : roadref2_Going.l0 p (cv n) (LF n a) (AT n a) out = roadref2_Going.l1 p (cv n) (LF n a) (AT n a) out (rl n a) (cv n).Lines (n.Lines.length : Int) (n.Lines.length : Int) := by
  have hL := o.lines
  rw [roadref2_Going.l0_eq, cv_l]
  refine ready_loop o (a := a) (F := fun s i => roadref2_Going.l1 p (cv n) (LF n a) (AT n a) out s (cv n).Lines (n.Lines.length : Int) i) (fun s i hi hs => ?_)
  obtain ⟨A, B, ha, hb, a8, b8, hab⟩ := ln_nat o hi
  have hA : (ln n i).A.toNat = A := by omega
  have hB : (ln n i).B.toNat = B := by omega
  have j1 : ∀ b : Bool, roadref2_Going.j1 p (cv n) (LF n a) (AT n a) out s (i : Int) (cv n).Lines (n.Lines.length : Int) (i : Int) b = if b = true then roadref2_Going.l1 p (cv n) (LF n a) (AT n a) out (s ++ [(i : Int)]) (cv n).Lines (n.Lines.length : Int) ((i + 1 : Nat) : Int) else roadref2_Going.l1 p (cv n) (LF n a) (AT n a) out s (cv n).Lines (n.Lines.length : Int) ((i + 1 : Nat) : Int) := fun b => by
    rw [roadref2_Going.j1_eq, w_succ (by omega), ap_one (by omega), Option.bind_some]
  rw [roadref2_Going.l1_eq, if_pos (by omega), gi_cl hi, Option.bind_some, gi_c0, Option.bind_some, gi_c1, Option.bind_some, ha, hb, gi_LF a8, Option.bind_some, gi_LF b8, Option.bind_some]
  unfold rd
  simp only [hA, hB, List.length_map, List.length_drop]
  by_cases c1 : a A < (wh n A).length
  · rw [if_pos (by omega), decide_eq_true c1, Bool.true_and]
    by_cases c2 : a B < (wh n B).length
    · rw [if_pos (by omega), decide_eq_true c2, Bool.true_and]
      simp only [gi_hd c1, gi_hd c2, Option.bind_some, gi_d0, gi_d1, gi_d2]
      by_cases c3 : (at_ n A (a A)).Line = (i : Int)
      · rw [if_pos c3, decide_eq_true c3, Bool.true_and]
        by_cases c4 : (at_ n B (a B)).Line = (i : Int)
        · rw [if_pos c4, decide_eq_true c4, Bool.true_and]
          by_cases c5 : (at_ n A (a A)).Msg = (at_ n B (a B)).Msg
          · have e : (IntKind.wrap .i64 (sg (at_ n A (a A)).Send + sg (at_ n B (a B)).Send) == 1) = !((at_ n A (a A)).Send == (at_ n B (a B)).Send) := by
              cases (at_ n A (a A)).Send <;> cases (at_ n B (a B)).Send <;> decide
            rw [if_pos c5, decide_eq_true c5, Bool.true_and, e, j1]
          · rw [if_neg c5, decide_eq_false c5, Bool.false_and, j1]
        · rw [if_neg c4, decide_eq_false c4, Bool.false_and, j1]
      · rw [if_neg c3, decide_eq_false c3, Bool.false_and, j1]
    · rw [if_neg (by omega), decide_eq_false c2, Bool.false_and, j1]
  · rw [if_neg (by omega), decide_eq_false c1, Bool.false_and, j1]
omit o in
theorem sum_up {f g : Nat → Nat} {k : Nat} (h : ∀ z, z ≠ k → g z = f z) (hk : f k = g k + 1) : ∀ N : Nat, ((List.range N).map f).sum = ((List.range N).map g).sum + if k < N then 1 else 0
  | 0 => by simp
  | N + 1 => by
    rw [List.range_succ, List.map_append, List.map_append, List.sum_append, List.sum_append, sum_up h hk N]
    simp only [List.map_cons, List.map_nil, List.sum_cons, List.sum_nil]
    by_cases e : N = k
    · subst e; rw [if_neg (by omega), if_pos (by omega)]; omega
    · rw [h N e]
      by_cases c : k < N
      · rw [if_pos c, if_pos (by omega)]; omega
      · rw [if_neg c, if_neg (by omega)]; omega
def ms (n : Nt) (a : Nat → Nat) : Nat := ((List.range n.Who.length).map fun k => (wh n k).length - a k).sum
theorem run_both (p : List Int) (hp : p.length ≤ 1000000000000000) : ∀ (m : Nat) (a : Nat → Nat) (out : List Int), ms n a ≤ m → (∀ k, k < n.Who.length → a k ≤ (wh n k).length) → out.length + m ≤ 1000 →
    ∃ out' a', talk_Run.l0 p n (AT n a) out = some (out', AT n a', 0) ∧ roadref2_Going.l0 (p.drop out.length) (cv n) (LF n a) (AT n a) out = some (out', AT n a') ∧ out'.length ≤ 1000 := by
  intro m
  have hL := o.lines
  have hW := o.who
  have main : ∀ (a : Nat → Nat) (out : List Int), (∀ k, k < n.Who.length → a k ≤ (wh n k).length) → out.length ≤ 1000 →
      ((rl n a).length = 0 ∧ talk_Run.l0 p n (AT n a) out = some (out, AT n a, 0) ∧ roadref2_Going.l0 (p.drop out.length) (cv n) (LF n a) (AT n a) out = some (out, AT n a)) ∨
      ∃ (i : Nat) (a' : Nat → Nat), ms n a = ms n a' + 2 ∧ (∀ k, k < n.Who.length → a' k ≤ (wh n k).length) ∧ talk_Run.l0 p n (AT n a) out = talk_Run.l0 p n (AT n a') (out ++ [(i : Int)]) ∧ roadref2_Going.l0 (p.drop out.length) (cv n) (LF n a) (AT n a) out = roadref2_Going.l0 (p.drop (out ++ [(i : Int)]).length) (cv n) (LF n a') (AT n a') (out ++ [(i : Int)]) := by
    intro a out hle ho
    have hrl := rl_len (n := n) a
    rw [going_ready o hle, talk_Run.l0_eq, ready_val o hle, Option.bind_some, roadref2_Going.l1_eq, if_neg (nlt _)]
    by_cases c0 : (rl n a).length = 0
    · left
      rw [if_pos (by omega), if_pos (by omega)]
      exact ⟨c0, rfl, rfl⟩
    · right
      have hc : ¬ (((rl n a).length : Nat) : Int) = 0 := by omega
      rw [if_neg hc, if_neg hc]
      -- which one is taken
      have take : ∀ kk : Nat, kk < (rl n a).length → ∀ q : List Int, q = p.drop (out.length + 1) → ∃ (i : Nat) (a' : Nat → Nat), ms n a = ms n a' + 2 ∧ (∀ k, k < n.Who.length → a' k ≤ (wh n k).length) ∧ talk_Run.j0 p n (AT n a) out (rl n a) (kk : Int) = talk_Run.l0 p n (AT n a') (out ++ [(i : Int)]) ∧ roadref2_Going.j0 q (cv n) (LF n a) (AT n a) out (rl n a) (kk : Int) = roadref2_Going.l0 (p.drop (out ++ [(i : Int)]).length) (cv n) (LF n a') (AT n a') (out ++ [(i : Int)]) := by
        intro kk hkk q hq
        obtain ⟨i, e1, hi, hrd⟩ := rl_mem (List.getElem?_eq_getElem hkk)
        have gk : gi (rl n a) (kk : Int) = some (i : Int) := by rw [gi_nat, List.getElem?_eq_getElem hkk, e1]
        obtain ⟨A, B, ha, hb, a8, b8, hab⟩ := ln_nat o hi
        have hA : (ln n i).A.toNat = A := by omega
        have hB : (ln n i).B.toNat = B := by omega
        have hr : a A < (wh n A).length ∧ a B < (wh n B).length := by
          unfold rd at hrd
          simp only [hA, hB, Bool.and_eq_true, decide_eq_true_eq] at hrd
          exact ⟨hrd.1, hrd.2.1⟩
        have rA := o.row A a8
        have rB := o.row B b8
        have uA : up a A (a A + 1) B = a B := by unfold up; rw [if_neg (Ne.symm hab)]
        refine ⟨i, up (up a A (a A + 1)) B (a B + 1), ?_, fun k hk => ?_, ?_, ?_⟩
        · have s1 := sum_up (f := fun k => (wh n k).length - a k) (g := fun k => (wh n k).length - up a A (a A + 1) k) (k := A) (fun z hz => by
            show (wh n z).length - up a A (a A + 1) z = (wh n z).length - a z
            rw [up_ne hz]) (by
            show (wh n A).length - a A = (wh n A).length - up a A (a A + 1) A + 1
            rw [up_self]; omega) n.Who.length
          have s2 := sum_up (f := fun k => (wh n k).length - up a A (a A + 1) k) (g := fun k => (wh n k).length - up (up a A (a A + 1)) B (a B + 1) k) (k := B) (fun z hz => by
            show (wh n z).length - up (up a A (a A + 1)) B (a B + 1) z = (wh n z).length - up a A (a A + 1) z
            rw [up_ne hz]) (by
            show (wh n B).length - up a A (a A + 1) B = (wh n B).length - up (up a A (a A + 1)) B (a B + 1) B + 1
            rw [uA, up_self]; omega) n.Who.length
          rw [if_pos a8] at s1
          rw [if_pos b8] at s2
          unfold ms; omega
        · unfold up
          by_cases k1 : k = B
          · rw [if_pos k1, k1]; omega
          · rw [if_neg k1]
            by_cases k2 : k = A
            · rw [if_pos k2, k2]; omega
            · rw [if_neg k2]; exact hle k hk
        · rw [talk_Run.j0_eq, gk, Option.bind_some, gi_ln hi, Option.bind_some, ha, hb, gi_AT a8, Option.bind_some, Option.bind_some, w_succ (by omega), Int.toNat_natCast, set_AT, Option.bind_some, gi_AT b8, Option.bind_some, Option.bind_some, uA, w_succ (by omega), Int.toNat_natCast, set_AT, Option.bind_some, Option.bind_some, ap_one (by omega), Option.bind_some]
        · have g0 : gi (cl (ln n i)) ((0 : Nat) : Int) = some (A : Int) := by rw [← ha]; rfl
          have g1 : gi (cl (ln n i)) ((1 : Nat) : Int) = some (B : Int) := by rw [← hb]; rfl
          have d1 : ∀ k j : Nat, j < (wh n k).length → sls (((wh n k).drop j).map cd) 1 ((((wh n k).drop j).map cd).length : Int) = some (((wh n k).drop (j + 1)).map cd) := fun k j hj => by
            refine (sls_drop (x := 1) (k := 1) rfl (by rw [List.length_map, List.length_drop]; omega)).trans ?_
            rw [← List.map_drop, List.drop_drop]
          rw [roadref2_Going.j0_eq, gk, Option.bind_some, gi_cl hi, Option.bind_some, show (0 : Int) = ((0 : Nat) : Int) from rfl, roadref2_Going.l2_eq, if_pos (by decide), g0, Option.bind_some, gi_LF a8, Option.bind_some, d1 A _ hr.1, Option.bind_some, Option.bind_some, Int.toNat_natCast, set_LF, Option.bind_some, gi_AT a8, Option.bind_some, Option.bind_some, w_succ (by omega), set_AT, Option.bind_some, w_succ (by decide),
            roadref2_Going.l2_eq, if_pos (by decide), show ((0 + 1 : Nat) : Int) = ((1 : Nat) : Int) from rfl, g1, Option.bind_some, gi_LF b8, Option.bind_some, uA, d1 B _ hr.2, Option.bind_some, Option.bind_some, Int.toNat_natCast, set_LF, Option.bind_some, gi_AT b8, Option.bind_some, Option.bind_some, uA, w_succ (by omega), set_AT, Option.bind_some, w_succ (by decide),
            roadref2_Going.l2_eq, if_neg (by decide), gk, Option.bind_some, ap_one (by omega), Option.bind_some, hq, List.length_append, List.length_singleton]
      by_cases hlt : out.length < p.length
      · obtain ⟨kk, k1, k2⟩ := pick_val (m := (rl n a).length) (by omega) (by omega) p[out.length]
        have hm0 : IntKind.wrap .u64 ((rl n a).length : Int) ≠ 0 := by rw [u64_in (by omega) (by omega)]; omega
        have gp : gi (p.drop out.length) 0 = some p[out.length] := by
          rw [show (0 : Int) = ((0 : Nat) : Int) from rfl, gi_nat, List.getElem?_drop, Nat.add_zero, List.getElem?_eq_getElem hlt]
        have hs : sls (p.drop out.length) 1 ((p.drop out.length).length : Int) = some (p.drop (out.length + 1)) := by
          refine (sls_drop (x := 1) (k := 1) rfl (by rw [List.length_drop]; omega)).trans ?_
          rw [List.drop_drop]
        rw [if_pos (by omega), gi_at hlt, Option.bind_some, if_pos hm0, if_pos (by rw [List.length_drop]; omega), gp, Option.bind_some, if_pos hm0, hs, Option.bind_some, k2]
        exact take kk k1 _ rfl
      · have hd : p.drop out.length = [] := List.drop_eq_nil_of_le (by omega)
        rw [if_neg (by omega), hd, if_neg (by decide)]
        have := take 0 (by omega) [] (List.drop_eq_nil_of_le (by omega)).symm
        exact this
  induction m with
  | zero =>
    intro a out hm hle ho
    rcases main a out hle (by omega) with ⟨_, h1, h2⟩ | ⟨i, a', h1, _⟩
    · exact ⟨out, a, h1, h2, by omega⟩
    · omega
  | succ m ih =>
    intro a out hm hle ho
    rcases main a out hle (by omega) with ⟨_, h1, h2⟩ | ⟨i, a', h1, h2, h3, h4⟩
    · exact ⟨out, a, h1, h2, by omega⟩
    · obtain ⟨out', a2, f1, f2, f3⟩ := ih a' (out ++ [(i : Int)]) (by omega) h2 (by rw [List.length_append, List.length_singleton]; omega)
      exact ⟨out', a2, by rw [h3, f1], by rw [h4, f2], f3⟩
end
theorem Run_val {n : Nt} (h : chk n = 0) (p : List Int) (hp : p.length ≤ 1000000000000000) : ∃ out a, talk_Run n p = some (out, AT n a, 0) ∧ roadref2_Going (cv n) p = some (out, AT n a) ∧ out.length ≤ 1000 := by
  have o := ok_of h
  have hW := o.who
  have e0 : AT n (fun _ => 0) = List.replicate n.Who.length 0 := by
    unfold AT
    refine List.ext_getElem? fun k => ?_
    rw [List.getElem?_map, List.getElem?_replicate]
    rcases Nat.lt_or_ge k n.Who.length with g | g
    · rw [if_pos g, List.getElem?_range g]; rfl
    · rw [if_neg (by omega), List.getElem?_eq_none (by simpa using g)]; rfl
  have e1 : LF n (fun _ => 0) = (cv n).Who := by
    unfold LF cv
    refine List.ext_getElem? fun k => ?_
    simp only [List.getElem?_map]
    rcases Nat.lt_or_ge k n.Who.length with g | g
    · have ew : wh n k = n.Who[k] := by unfold wh; rw [List.getElem?_eq_getElem g]; rfl
      rw [List.getElem?_range g, List.getElem?_eq_getElem g, Option.map_some, Option.map_some, ew, List.drop_zero]
    · rw [List.getElem?_eq_none (by simpa using g), List.getElem?_eq_none g]; rfl
  have hms : ms n (fun _ => 0) ≤ 320 := by
    show ((List.range n.Who.length).map fun k => (wh n k).length - 0).sum ≤ 320
    have : ∀ N : Nat, N ≤ n.Who.length → ((List.range N).map fun k => (wh n k).length - 0).sum ≤ 40 * N := by
      intro N
      induction N with
      | zero => intro _; simp
      | succ N ih =>
        intro hN
        have := ih (by omega)
        have h40 := o.row N (by omega)
        rw [List.range_succ, List.map_append, List.sum_append]
        simp only [List.map_cons, List.map_nil, List.sum_cons, List.sum_nil]; omega
    have := this n.Who.length (Nat.le_refl _)
    omega
  obtain ⟨out, a, r1, r2, r3⟩ := run_both o p hp 320 (fun _ => 0) [] hms (fun k _ => Nat.zero_le _) (by simp)
  rw [e0] at r1 r2
  rw [e1, List.length_nil, List.drop_zero] at r2
  refine ⟨out, a, ?_, ?_, r3⟩
  · unfold talk_Run
    rw [Check_val, Option.bind_some, if_pos h, mks_of rfl (by omega) (by omega), Option.bind_some]
    exact r1
  · unfold roadref2_Going
    have hc : slices_Clone_79 (cv n).Who = some (cv n).Who := by unfold slices_Clone_79; rw [ap_nil (by rw [cv_w]; omega)]
    rw [hc, Option.bind_some, cv_w, mks_of rfl (by omega) (by omega), Option.bind_some]
    exact r2
def pk (p : List Int) (i : Nat) : Int := (p[i]?).getD 0
def bad (n : Nt) (p : List Int) (i : Nat) : Prop := pk p i < 0 ∨ pk p i > ((wh n i).length : Int)
instance (n : Nt) (p : List Int) (i : Nat) : Decidable (bad n p i) := inferInstanceAs (Decidable (_ ∨ _))
def vv (n : Nt) (p : List Int) (i : Nat) : Int :=
  if pk p i < ((wh n i).length : Int) then (ln n (at_ n i (pk p i).toNat).Line.toNat).A + (ln n (at_ n i (pk p i).toNat).Line.toNat).B - (i : Int) else -1
theorem gi_pk {p : List Int} {i : Nat} (h : i < p.length) : gi p (i : Int) = some (pk p i) := by
  rw [gi_nat]; unfold pk; rw [List.getElem?_eq_getElem h]; rfl
section
variable {n : Nt} (o : Ok n) {p : List Int} (hp : p.length = n.Who.length)
include o hp
theorem waits_l1 (hb : ∀ k, k < n.Who.length → ¬ bad n p k) : ∀ (d i : Nat), i + d = n.Who.length → talk_Waits.l1 n ((List.range n.Who.length).map fun k => if k < i then vv n p k else 0) p (p.length : Int) (i : Int) = some ((List.range n.Who.length).map (vv n p), 0) := by
  intro d
  have hW := o.who
  induction d with
  | zero =>
    intro i hi
    rw [talk_Waits.l1_eq, if_neg (by omega)]
    congr 2
    refine List.map_congr_left fun k hk => ?_
    rw [if_pos (by have := List.mem_range.1 hk; omega)]
  | succ d ih =>
    intro i hi
    have hil : i < n.Who.length := by omega
    have hbi := hb i hil
    unfold bad at hbi
    have g0 : ∀ f : Nat → Int, gi ((List.range n.Who.length).map f) (i : Int) = some (f i) := fun f => by rw [gi_nat, List.getElem?_map, List.getElem?_range hil]; rfl
    have st : ∀ v : Int, v = vv n p i → ((List.range n.Who.length).map fun k => if k < i then vv n p k else 0).set i v = (List.range n.Who.length).map fun k => if k < i + 1 then vv n p k else 0 := fun v hv => by
      have := set_map (f := fun k => if k < i then vv n p k else 0) (g := fun k => if k < i + 1 then vv n p k else 0) (k := i) (N := n.Who.length) (fun z hz => by
        show (if z < i + 1 then vv n p z else 0) = if z < i then vv n p z else 0
        by_cases c : z < i
        · rw [if_pos c, if_pos (by omega)]
        · rw [if_neg c, if_neg (by omega)])
      rw [← this, hv]
      congr 1
      show _ = if i < i + 1 then vv n p i else 0
      rw [if_pos (by omega)]
    rw [talk_Waits.l1_eq, if_pos (by omega), gi_pk (by omega), Option.bind_some, g0, Option.bind_some, Option.bind_some, gi_wh hil, Option.bind_some, Int.toNat_natCast]
    by_cases c : pk p i < ((wh n i).length : Int)
    · obtain ⟨j, hj⟩ := Int.eq_ofNat_of_zero_le (show 0 ≤ pk p i by omega)
      have hjl : j < (wh n i).length := by omega
      have hd := o.deed i hil (at_ n i j) (by unfold at_; rw [List.getElem?_eq_getElem hjl]; exact List.getElem_mem hjl)
      obtain ⟨k, hk⟩ := Int.eq_ofNat_of_zero_le hd.1
      have hkl : k < n.Lines.length := by omega
      have hl := o.line k hkl
      have ek : (at_ n i j).Line.toNat = k := by omega
      have ev : IntKind.wrap .i64 (IntKind.wrap .i64 ((ln n k).A + (ln n k).B) - (i : Int)) = vv n p i := by
        unfold vv
        rw [if_pos c, hj, Int.toNat_natCast, ek, wrap_in (n := (ln n k).A + (ln n k).B) (by omega) (by omega), wrap_in (by omega) (by omega)]
      have g1 : gi (((List.range n.Who.length).map fun k => if k < i then vv n p k else 0).set i (-1)) (i : Int) = some (-1) := by
        rw [gi_nat, List.getElem?_set_self (by simpa using hil)]
      rw [if_pos c, Option.bind_some, hj, gi_at_ hjl, Option.bind_some, hk, gi_ln hkl, Option.bind_some, g1, Option.bind_some, Option.bind_some, List.set_set, ev, st _ rfl, w_succ (by omega)]
      exact ih (i + 1) (by omega)
    · rw [if_neg c, st (-1) (by unfold vv; rw [if_neg c]), w_succ (by omega)]
      exact ih (i + 1) (by omega)
theorem waits_l0 : ∀ (d i : Nat), i + d = n.Who.length → (∀ k, k < i → ¬ bad n p k) → talk_Waits.l0 p n p (p.length : Int) (i : Int) = some (if ∃ k, k < n.Who.length ∧ bad n p k then ([], 1) else ((List.range n.Who.length).map (vv n p), 0)) := by
  intro d
  have hW := o.who
  induction d with
  | zero =>
    intro i hi hk
    have hall : ∀ k, k < n.Who.length → ¬ bad n p k := fun k h => hk k (by omega)
    rw [talk_Waits.l0_eq, if_neg (by omega), if_neg (fun ⟨k, h1, h2⟩ => hall k h1 h2), mks_of rfl (by omega) (by omega), Option.bind_some]
    have := waits_l1 o hp hall n.Who.length 0 (by omega)
    rw [show ((0 : Nat) : Int) = (0 : Int) from rfl] at this
    have e : ((List.range n.Who.length).map fun k => if k < 0 then vv n p k else 0) = List.replicate p.length 0 := by
      refine List.ext_getElem? fun k => ?_
      rw [List.getElem?_map, List.getElem?_replicate, hp]
      rcases Nat.lt_or_ge k n.Who.length with g | g
      · rw [if_pos g, List.getElem?_range g]; rfl
      · rw [if_neg (by omega), List.getElem?_eq_none (by simpa using g)]; rfl
    rw [e] at this
    exact this
  | succ d ih =>
    intro i hi hk
    rw [talk_Waits.l0_eq, if_pos (by omega), gi_pk (by omega), Option.bind_some]
    by_cases c1 : pk p i < 0
    · rw [if_pos c1, talk_Waits.j0_eq, if_pos rfl, if_pos ⟨i, by omega, .inl c1⟩]
    · rw [if_neg c1, gi_wh (by omega), Option.bind_some, talk_Waits.j0_eq]
      by_cases c2 : pk p i > ((wh n i).length : Int)
      · rw [decide_eq_true c2, if_pos rfl, if_pos ⟨i, by omega, .inr c2⟩]
      · rw [decide_eq_false c2, if_neg (by decide), w_succ (by omega)]
        refine ih (i + 1) (by omega) fun k h => ?_
        by_cases e : k = i
        · subst e; rintro (h | h)
          · exact c1 h
          · exact c2 h
        · exact hk k (by omega)
theorem waiting_l0 : ∀ (d i : Nat) (s : List Int) (b : Bool), i + d = n.Who.length → s.length ≤ i → (b = false → s = (List.range i).map (vv n p) ∧ ∀ k, k < i → ¬ bad n p k) → (b = true → ∃ k, k < n.Who.length ∧ bad n p k) → roadref2_Waiting.l0 (cv n) s b p (p.length : Int) (i : Int) = some (if ∃ k, k < n.Who.length ∧ bad n p k then ([], 1) else ((List.range n.Who.length).map (vv n p), 0)) := by
  intro d
  have hW := o.who
  induction d with
  | zero =>
    intro i s b hi hs h1 h2
    rw [roadref2_Waiting.l0_eq, if_neg (by omega)]
    cases b with
    | true => rw [if_pos rfl, if_pos (h2 rfl)]
    | false =>
      obtain ⟨e, hk⟩ := h1 rfl
      rw [if_neg (by decide), if_neg (fun ⟨k, a, c⟩ => hk k (by omega) c), e, show i = n.Who.length by omega]
  | succ d ih =>
    intro i s b hi hs h1 h2
    have hil : i < n.Who.length := by omega
    have hbad : bad n p i → roadref2_Waiting.l0 (cv n) s true p (p.length : Int) ((i + 1 : Nat) : Int) = some (if ∃ k, k < n.Who.length ∧ bad n p k then ([], 1) else ((List.range n.Who.length).map (vv n p), 0)) := fun h =>
      ih (i + 1) s true (by omega) (by omega) (fun h => by cases h) (fun _ => ⟨i, hil, h⟩)
    rw [roadref2_Waiting.l0_eq, if_pos (by omega), gi_pk (by omega), Option.bind_some, w_succ (by omega)]
    by_cases c1 : pk p i < 0
    · rw [if_pos c1]; exact hbad (.inl c1)
    rw [if_neg c1, gi_cw hil, Option.bind_some, List.length_map]
    by_cases c2 : pk p i > ((wh n i).length : Int)
    · rw [if_pos c2]; exact hbad (.inr c2)
    rw [if_neg c2]
    have hnb : ¬ bad n p i := fun h => h.elim c1 c2
    have fin : roadref2_Waiting.j1 (cv n) s b (vv n p i) p (p.length : Int) (i : Int) = some (if ∃ k, k < n.Who.length ∧ bad n p k then ([], 1) else ((List.range n.Who.length).map (vv n p), 0)) := by
      rw [roadref2_Waiting.j1_eq, ap_one (by omega), Option.bind_some, w_succ (by omega)]
      refine ih (i + 1) (s ++ [vv n p i]) b (by omega) (by rw [List.length_append, List.length_singleton]; omega) (fun hb => ?_) h2
      obtain ⟨e, hk⟩ := h1 hb
      refine ⟨by rw [e, List.range_succ, List.map_append]; rfl, fun k h => ?_⟩
      by_cases e2 : k = i
      · subst e2; exact hnb
      · exact hk k (by omega)
    rw [roadref2_Waiting.j0_eq, gi_cw hil, Option.bind_some, List.length_map]
    by_cases c : pk p i < ((wh n i).length : Int)
    · obtain ⟨j, hj⟩ := Int.eq_ofNat_of_zero_le (show 0 ≤ pk p i by omega)
      have hjl : j < (wh n i).length := by omega
      have hd := o.deed i hil (at_ n i j) (by unfold at_; rw [List.getElem?_eq_getElem hjl]; exact List.getElem_mem hjl)
      obtain ⟨k, hk⟩ := Int.eq_ofNat_of_zero_le hd.1
      have hkl : k < n.Lines.length := by omega
      have ek : (at_ n i j).Line.toNat = k := by omega
      have ev : vv n p i = (ln n k).A + (ln n k).B - (i : Int) := by unfold vv; rw [if_pos c, hj, Int.toNat_natCast, ek]
      have gm : gi ((wh n i).map cd) (j : Int) = some (cd (at_ n i j)) := by unfold at_; exact gi_dm hjl
      have h4 := hd.2.2.2.2
      rw [ek] at h4
      rw [if_pos c, Option.bind_some, hj, gm, Option.bind_some, gi_d0, Option.bind_some, hk, gi_cl hkl, Option.bind_some, gi_c0, Option.bind_some, gi_c1, Option.bind_some]
      by_cases a : (ln n k).A = (i : Int)
      · rw [if_pos a, show (ln n k).B = vv n p i by rw [ev]; omega]; exact fin
      · rw [if_neg a, show (ln n k).A = vv n p i by rw [ev]; omega]; exact fin
    · rw [if_neg c, show (-1 : Int) = vv n p i by unfold vv; rw [if_neg c]]; exact fin
end
theorem Waits_val {n : Nt} (h : chk n = 0) (p : List Int) : ∃ w e, talk_Waits n p = some (w, e) ∧ roadref2_Waiting (cv n) p = some (w, e) ∧ w.length ≤ 8 := by
  have o := ok_of h
  have hW := o.who
  unfold talk_Waits roadref2_Waiting
  rw [Check_val, Option.bind_some, if_pos h, cv_w]
  by_cases c : p.length = n.Who.length
  · rw [if_pos (by omega), if_pos (by omega)]
    have h1 := waits_l0 o c n.Who.length 0 (by omega) fun k hk => absurd hk (Nat.not_lt_zero _)
    have h2 := waiting_l0 o c n.Who.length 0 [] false (by omega) (Nat.le_refl _) (fun _ => ⟨rfl, fun k hk => absurd hk (Nat.not_lt_zero _)⟩) (fun h => by cases h)
    rw [show ((0 : Nat) : Int) = (0 : Int) from rfl] at h1 h2
    by_cases g : ∃ k, k < n.Who.length ∧ bad n p k
    · rw [if_pos g] at h1 h2; exact ⟨[], 1, h1, h2, by decide⟩
    · rw [if_neg g] at h1 h2; exact ⟨_, 0, h1, h2, by rw [List.length_map, List.length_range]; exact hW⟩
  · rw [if_neg (by omega), if_neg (by omega)]; exact ⟨[], 3, rfl, rfl, by decide⟩
theorem law_end {n : Nt} (h : chk n = 0) {p q ring out at0 w : List Int} {f e : Int} {r : List Int} (r1 : roadref2_RingOf (cv n) = some r) (hr : (ring, f) = if r.length = 0 then ([], 4) else (r, 0)) (hrl : r.length ≤ 100) (g1 : roadref2_Going (cv n) p = some (out, at0)) (ho : out.length ≤ 1000) (ha : at0.length ≤ 1000) (w1 : roadref2_Waiting (cv n) q = some (w, e)) (hw : w.length ≤ 8) :
    roadlaw2_TalkSays.j0 p q ring f out at0 0 w e (cv n) = some true := by
  have j1 : roadlaw2_TalkSays.j1 p q out at0 0 w e (cv n) = some true := by
    unfold roadlaw2_TalkSays.j1 roadlaw2_TalkSays.j2
    rw [g1, Option.bind_some, if_pos rfl, eq_ints ho, Option.bind_some, decide_eq_true rfl, if_pos rfl, eq_ints ha, Option.bind_some, decide_eq_true rfl, if_pos rfl, w1, Option.bind_some, if_pos rfl, eq_ints (by omega), Option.bind_some, decide_eq_true rfl]
  unfold roadlaw2_TalkSays.j0
  rw [r1, Option.bind_some]
  by_cases c : r.length = 0
  · rw [if_pos c] at hr
    cases hr
    rw [if_pos c, if_pos rfl, if_neg (by decide), if_pos c]
    exact j1
  · rw [if_neg c] at hr
    cases hr
    rw [if_neg c, if_neg c, if_pos rfl, eq_ints (by omega), Option.bind_some, decide_eq_true rfl, if_pos rfl]
    exact j1
theorem TalkSays (n : T_talk_Net) (p q : List Int) (hn : n.Q) (hp : p.length * 8 ≤ 140737488351232 ∧ ∀ x ∈ p, (-9223372036854775808 ≤ x ∧ x ≤ 9223372036854775807)) (hq : q.length * 8 ≤ 140737488351232 ∧ ∀ x ∈ q, (-9223372036854775808 ≤ x ∧ x ≤ 9223372036854775807)) : roadlaw2_TalkSays n p q = some true := by
  obtain ⟨⟨q1, _⟩, q2, q3⟩ := hn
  -- what is handed on, as the reference has it
  have conv : ∀ (d : Int) (e : Int) (ring : List Int) (f : Int) (out at0 : List Int) (g : Int) (w : List Int) (h : Int),
      roadlaw2_TalkSays.l0 p q n d e ring f out at0 g w h ([] : List (List Int)) ([] : List (List (List Int))) n.Lines (n.Lines.length : Int) 0 = roadlaw2_TalkSays.l1 p q n d e ring f out at0 g w h (n.Lines.map cl) (n.Who.map fun w => w.map cd) n.Who (n.Who.length : Int) (n.Who.length : Int) := by
    intro d e ring f out at0 g w h
    have l0 := map_loop (l := n.Lines) (F := fun s i => roadlaw2_TalkSays.l0 p q n d e ring f out at0 g w h s ([] : List (List (List Int))) n.Lines (n.Lines.length : Int) i) (f := cl) (B := n.Lines.length) (fun s i hi hs => by
      rw [roadlaw2_TalkSays.l0_eq, if_pos (by omega), gi_at hi, Option.bind_some, ap_one (by omega), Option.bind_some, w_succ (by omega)]; rfl) (Nat.le_refl _)
    rw [l0, roadlaw2_TalkSays.l0_eq, if_neg (nlt _)]
    refine (map_loop (l := n.Who) (F := fun s i => roadlaw2_TalkSays.l1 p q n d e ring f out at0 g w h (n.Lines.map cl) s n.Who (n.Who.length : Int) i) (f := fun w => w.map cd) (B := n.Who.length) (fun s i hi hs => by
      have hr := (q3 _ (List.getElem_mem hi)).1
      rw [roadlaw2_TalkSays.l1_eq, if_pos (by omega), gi_at hi, Option.bind_some]
      refine (map_loop (l := n.Who[i]) (F := fun z k => roadlaw2_TalkSays.l2 p q n d e ring f out at0 g w h (n.Lines.map cl) s z n.Who (n.Who.length : Int) (i : Int) n.Who[i] (n.Who[i].length : Int) k) (f := cd) (B := n.Who[i].length) (fun z k hk hz => by
        rw [roadlaw2_TalkSays.l2_eq, if_pos (by omega), gi_at hk, Option.bind_some]
        have j3 : ∀ x : Int, x = sg n.Who[i][k].Send → roadlaw2_TalkSays.j3 p q n d e ring f out at0 g w h (n.Lines.map cl) s z n.Who[i][k] x n.Who (n.Who.length : Int) (i : Int) n.Who[i] (n.Who[i].length : Int) (k : Int) = roadlaw2_TalkSays.l2 p q n d e ring f out at0 g w h (n.Lines.map cl) s (z ++ [cd n.Who[i][k]]) n.Who (n.Who.length : Int) (i : Int) n.Who[i] (n.Who[i].length : Int) ((k + 1 : Nat) : Int) := fun x hx => by
          rw [roadlaw2_TalkSays.j3_eq, ap_one (by omega), Option.bind_some, w_succ (by omega), hx]; rfl
        by_cases c : n.Who[i][k].Send = true
        · rw [if_pos c]; exact j3 1 (by unfold sg; rw [if_pos c])
        · rw [if_neg c]; exact j3 0 (by unfold sg; rw [if_neg c])) (Nat.le_refl _)).trans ?_
      rw [roadlaw2_TalkSays.l2_eq, if_neg (nlt _), ap_one (by omega), Option.bind_some, w_succ (by omega)]) (Nat.le_refl _)).trans rfl
  have fin : ∀ (d : Int) (e : Int) (ring : List Int) (f : Int) (out at0 : List Int) (g : Int) (w : List Int) (h : Int),
      roadlaw2_TalkSays.l1 p q n d e ring f out at0 g w h (n.Lines.map cl) (n.Who.map fun w => w.map cd) n.Who (n.Who.length : Int) (n.Who.length : Int) = (if chk n = 0 then (if e = 0 then (Option.bind (roadref2_Mismatch (cv n)) fun y37 => if d = y37 then (roadlaw2_TalkSays.j0 p q ring f out at0 g w h (cv n)) else (some false)) else (some false)) else (if e = chk n then (if f = chk n then (if g = chk n then (if h = chk n then (if d = 0 then (some ((IntKind.wrap .i64 ((IntKind.wrap .i64 ((IntKind.wrap .i64 (((List.length ring : Nat) : Int) + ((List.length out : Nat) : Int))) + ((List.length at0 : Nat) : Int))) + ((List.length w : Nat) : Int))) == 0)) else (some false)) else (some false)) else (some false)) else (some false)) else (some false))) := by
    intro d e ring f out at0 g w h
    rw [roadlaw2_TalkSays.l1_eq, if_neg (nlt _)]
    show Option.bind (roadref2_NetErr (cv n)) _ = _
    rw [NetErr_val, Option.bind_some, Check_val, Option.bind_some, if_pos rfl]
    rfl
  unfold roadlaw2_TalkSays
  by_cases c : chk n = 0
  · obtain ⟨r, r1, r2, r3⟩ := Ring_val c
    obtain ⟨out, a, g1, g2, g3⟩ := Run_val c p (by omega)
    obtain ⟨w, e, w1, w2, w3⟩ := Waits_val c q
    have hW := (ok_of c).who
    rw [Dual_val c, Option.bind_some, r2, Option.bind_some, g1, Option.bind_some, w1, Option.bind_some, conv, fin, if_pos c, if_pos rfl, Mismatch_val (ok_of c), Option.bind_some, if_pos rfl]
    exact law_end c r1 rfl r3 g2 g3 (by unfold AT; rw [List.length_map, List.length_range]; omega) w2 w3
  · have d1 : talk_Dual n = some (0, chk n) := by unfold talk_Dual; rw [Check_val, Option.bind_some, if_neg c]
    have d2 : talk_Ring n = some ([], chk n) := by unfold talk_Ring; rw [Check_val, Option.bind_some, if_neg c]
    have d3 : talk_Run n p = some ([], [], chk n) := by unfold talk_Run; rw [Check_val, Option.bind_some, if_neg c]
    have d4 : talk_Waits n q = some ([], chk n) := by unfold talk_Waits; rw [Check_val, Option.bind_some, if_neg c]
    rw [d1, Option.bind_some, d2, Option.bind_some, d3, Option.bind_some, d4, Option.bind_some, conv, fin, if_neg c, if_pos rfl, if_pos rfl, if_pos rfl, if_pos rfl, if_pos rfl]
    rfl
end Go.Proofs.Ytdlihfedhojdgaa.Fw

end
section
namespace Go.Proofs.Ytdlihfedhojdgaa.talkSays
open Go Go.Hw Go.ChangeShapes Go.WideShapes Go.ChangeAt Go.RowKit Go.Proofs.Ytdlihfedhojdgaa.Fw
open Go.ChangeMaps (open_string shut_string)
set_option linter.unusedVariables false
theorem own : ownKnob Try.prog.godebug = none := by kernel_rfl
theorem laidOut : laidOutB Try.prog = true := by kernel_rfl
set_option maxRecDepth 100000 in
theorem lifted (os : Os) (started : os.Started) (H : Type) (enc : TypeId × Value → H) :
    ReturnsInHanded {} Try.checked os 6 .any (Rows.talkSaysSpec.pre6 enc Try.prog Try.f6 Rows.talkSaysRow.domain false) (Rows.talkSaysSpec.post enc Try.prog Try.f6 false true false false) := by
  refine returnsInHanded_of_change_sized (C := Try.checked) own started (by kernel_rfl) Try.func6
    (ChangeSpec.witness6 (enc := enc) (C := Try.checked) false ⟨#[], #[(.agg #[(.slice none 0 0), (.slice none 0 0)]), (.slice none 0 0), (.slice none 0 0)], []⟩ 8 (by kernel_rfl) (by kernel_rfl) (by kernel_rfl) (by kernel_rfl)) ?_
  intro W base args ds gs before hval0 hW hcnd hsz0 _
  have hsz : (DataW.weightsEach Try.prog (Try.f6.params.toList ++ Rows.talkSaysSpec.plain.varTypes Try.prog) (ds ++ gs)).all (· ≤ reachBytes) = true := hsz0
  have hval : ∀ (j : Nat) t v, Try.f6.params[j]? = some t → args[j]? = some v → Value.okWide Try.prog W .any base t v := hval0
  have hW' := hW
  obtain ⟨p, q, hA0, hV, rfl, hfz, hnd⟩ := hW
  have hA : DataW.TrodAll enc Try.prog W 0 (fun _ => true) true Try.f6.params.toList args.toList ds p := hA0
  rw [Try.params6] at hA hval hsz
  obtain ⟨v0, vs0, d0, ds0, p0, q0_, hargs, rfl, rfl, h0, r0_⟩ := trodAll_cons hA
  obtain ⟨v1, vs1, d1, ds1, p1, q1_, rfl, rfl, rfl, h1, r1_⟩ := trodAll_cons r0_
  obtain ⟨v2, vs2, d2, ds2, p2, q2_, rfl, rfl, rfl, h2, r2_⟩ := trodAll_cons r1_
  obtain ⟨rfl, rfl, rfl⟩ := trodAll_nil r2_
  obtain rfl : args = #[v0, v1, v2] := by cases args; simp_all
  obtain ⟨rfl, rfl⟩ := trodVars_none hV
  have hs : (DataW.weightsEach Try.prog [78, 45, 45] [d0, d1, d2]).all (· ≤ reachBytes) = true := hsz
  simp only [DataW.weightsEach, List.append_nil, List.all_append, Bool.and_eq_true] at hs
  obtain ⟨hw0, hw1, hw2⟩ := hs
  have k0 := h0
  have lt0 : ∀ x ∈ p0, x.block < W.heap.size := by obtain ⟨m, hm⟩ := k0; exact DataW.trod_lt m _ _ _ hm
  obtain ⟨cs0, rfl⟩ : ∃ cs : List Value, v0 = .agg cs.toArray := okWide_agg_of (show shapeOf Try.prog 78 = some [(75, 0), (76, 1)] by kernel_rfl) (hval 0 78 v0 rfl rfl)
  obtain ⟨fuel0, hf0⟩ := h0
  obtain ⟨x0, e0, q0⟩ := T_talk_Net.tells fuel0 _ _ hf0 hw0
  have e0 : T_talk_Net.E W.heap x0 cs0 := by simpa [Value.cells] using e0
  have k1 := h1
  have lt1 : ∀ x ∈ p1, x.block < W.heap.size := by obtain ⟨m, hm⟩ := k1; exact DataW.trod_lt m _ _ _ hm
  obtain ⟨A1, n1, c1, rfl⟩ := okWide_slice (show Try.prog.underlying 45 = some (.slice 3) by kernel_rfl) (hval 1 45 v1 rfl rfl)
  obtain ⟨fuel1, hf1⟩ := h1
  obtain ⟨l1, ⟨A1', c1', hcs1, hle1, r1⟩, q1⟩ := (tells_sliceL (t := 45) (e := 3) (sz := 1) (B := 8) (by kernel_rfl) (by kernel_rfl) (by kernel_rfl) (tells_i64 (t := 3) (by kernel_rfl))) fuel1 _ _ hf1 hw1
  simp only [Value.cells, List.cons.injEq, Value.slice.injEq, and_true] at hcs1
  obtain ⟨rfl, rfl, rfl⟩ := hcs1
  have k2 := h2
  have lt2 : ∀ x ∈ p2, x.block < W.heap.size := by obtain ⟨m, hm⟩ := k2; exact DataW.trod_lt m _ _ _ hm
  obtain ⟨A2, n2, c2, rfl⟩ := okWide_slice (show Try.prog.underlying 45 = some (.slice 3) by kernel_rfl) (hval 2 45 v2 rfl rfl)
  obtain ⟨fuel2, hf2⟩ := h2
  obtain ⟨l2, ⟨A2', c2', hcs2, hle2, r2⟩, q2⟩ := (tells_sliceL (t := 45) (e := 3) (sz := 1) (B := 8) (by kernel_rfl) (by kernel_rfl) (by kernel_rfl) (tells_i64 (t := 3) (by kernel_rfl))) fuel2 _ _ hf2 hw2
  simp only [Value.cells, List.cons.injEq, Value.slice.injEq, and_true] at hcs2
  obtain ⟨rfl, rfl, rfl⟩ := hcs2
  refine ((Run.mono (R' := fun v h' => v = Value.bool true ∧ Ext W.heap h') (Fw.roadlaw2_TalkSays.walk (W := No) (Hold.start (Sub.refl _)) e0 rfl hle1 r1 rfl hle2 r2 (Fw.TalkSays x0 l1 l2 q0 q1 q2)) (fun v h' hp => by obtain ⟨m', st, hv⟩ := hp; exact ⟨hv, st.S.ext⟩)) W rfl).mono fun e W' he => ?_
  obtain ⟨v, rfl, ⟨rfl, ext⟩, same⟩ := he
  have bel := below_of ext same
  exact ⟨_, rfl, _, _, _, [], _, [], hW', trodAll_mk1 (shut_bool (show Try.prog.underlying 4 = some .bool by kernel_rfl) _), (trodAll_cons_mk (Below.trod laidOut (by kernel_rfl) (of_decide_eq_true (by kernel_rfl)) k0 bel lt0) (trodAll_cons_mk (Below.trod laidOut (by kernel_rfl) (of_decide_eq_true (by kernel_rfl)) k1 bel lt1) (trodAll_cons_mk (Below.trod laidOut (by kernel_rfl) (of_decide_eq_true (by kernel_rfl)) k2 bel lt2) trodAll_mk0))), rfl, bel.frame _, fun h => by cases h⟩
theorem over : Rows.talkSaysRow.holds Try.pinned (OpenSpec.ofChange Rows.talkSaysSpec) :=
  OpenClaim.holds_of_wide 6 Try.f6 rfl rfl rfl rfl rfl rfl rfl ⟨rfl, rfl, rfl, rfl, rfl⟩ rfl rfl rfl rfl rfl (by kernel_rfl) Try.func6 (by kernel_rfl)
    (of_decide_eq_true (by kernel_rfl)) (by unfold Func.isWrapper; first | (rw [if_pos (by decide +kernel)]; kernel_rfl) | (rw [if_neg (by decide +kernel)]; exact ⟨rfl, rfl⟩))
    (fun os started H enc _ => lifted os started H enc)
end Go.Proofs.Ytdlihfedhojdgaa.talkSays
namespace Go.Proofs.Ytdlihfedhojdgaa
theorem talkSays_holds : Rows.TalkSaysSaid := talkSays.over
end Go.Proofs.Ytdlihfedhojdgaa

end
