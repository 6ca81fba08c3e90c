/- Last part: what the law CutSays needs, put together out of texts of this session. -/
import Derived.Test.YtnlocljmalhddacRows
import Derived.WalkKit
import Derived.Test.YtnlocljmalhddacZCutSaysf
section
namespace Go.Proofs.Ytnlocljmalhddac.Fw
open Go Go.Hw Go.Proofs
set_option linter.unusedVariables false
set_option synthInstance.maxHeartbeats 400000
set_option synthInstance.maxSize 1000
def slices_Index_46.post (W : Nat → Prop) (h0 m0 : Heap) (r : Int) (v : Value) (h : Heap) : Prop := ∃ m , Hold W h0 m0 h m [] ∧ v = .int .i64 r
inductive slices_Index_46.l0_k.Pt where
  | l0 (a_0 : List T_api_Event) (y_3 : T_api_Event) (x_7 : Int) (x_8 : Int)
noncomputable def slices_Index_46.l0_k.body (go : (p : slices_Index_46.l0_k.Pt) → Option (Int)) : (p : slices_Index_46.l0_k.Pt) → Option (Int)
  | .l0 a_0 y_3 x_7 x_8 => if x_8 < x_7 then (Option.bind (gi a_0 x_8) fun y1 => if ((y_3.Place == y1.Place) && ((y_3.Kind == y1.Kind) && ((y_3.Msg == y1.Msg) && true))) = true then (some (x_8)) else ((go (.l0 a_0 y_3 x_7 (IntKind.wrap .i64 (x_8 + (1 : Int))))))) else (some ((-1 : Int)))
theorem slices_Index_46.l0_k.mono : MonoF (β := fun _ => (Int)) slices_Index_46.l0_k.body := fun f g hfg p => match p with
  | .l0 a_0 y_3 x_7 x_8 => LeO.ite (LeO.bind (LeO.refl _) fun y1 => LeO.ite (LeO.refl _) ((hfg _))) (LeO.refl _)
noncomputable def slices_Index_46.l0_k.go (p : slices_Index_46.l0_k.Pt) : Option (Int) := fixF (β := fun _ => (Int)) slices_Index_46.l0_k.body p
noncomputable def slices_Index_46.l0 (a_0 : List T_api_Event) (y_3 : T_api_Event) (x_7 : Int) (x_8 : Int) : Option (Int) := slices_Index_46.l0_k.go (.l0 a_0 y_3 x_7 x_8)
theorem slices_Index_46.l0_eq (a_0 : List T_api_Event) (y_3 : T_api_Event) (x_7 : Int) (x_8 : Int) : slices_Index_46.l0 a_0 y_3 x_7 x_8 = if x_8 < x_7 then (Option.bind (gi a_0 x_8) fun y1 => if ((y_3.Place == y1.Place) && ((y_3.Kind == y1.Kind) && ((y_3.Msg == y1.Msg) && true))) = true then (some (x_8)) else ((slices_Index_46.l0 a_0 y_3 x_7 (IntKind.wrap .i64 (x_8 + (1 : Int)))))) else (some ((-1 : Int))) := fixF_eq slices_Index_46.l0_k.mono _
def slices_Index_46.l0_k.I : (p : slices_Index_46.l0_k.Pt) → (Int) → Prop
  | .l0 a_0 y_3 x_7 x_8, r => ∀ (W : Nat → Prop) (h0 m0 h m : Heap) (A_0 : Option Addr) (n_0 c_0 : Nat) (bk_3 : Nat) (cs_3 : List Value) (O : Hold W h0 m0 h m [rV bk_3 36 cs_3]) (ne_0 : n_0 = List.length a_0) (k_0 : List.length a_0 ≤ c_0) (r_0 : Rd 3 T_api_Event.E m A_0 a_0) (e_3 : T_api_Event.E m y_3 cs_3), f46.l0 (slices_Index_46.post W h0 m0 r) A_0 n_0 c_0 (⟨bk_3, 0, none⟩ : Addr) x_7 x_8 h
set_option maxRecDepth 100000 in
theorem slices_Index_46.l0_k.step_l0 (go : (p : slices_Index_46.l0_k.Pt) → Option (Int)) (ih : ∀ p r, go p = some r → slices_Index_46.l0_k.I p r) (a_0 : List T_api_Event) (y_3 : T_api_Event) (x_7 : Int) (x_8 : Int) (r : Int) (e : slices_Index_46.l0_k.body go (.l0 a_0 y_3 x_7 x_8) = some r) : slices_Index_46.l0_k.I (.l0 a_0 y_3 x_7 x_8) r := by
  unfold slices_Index_46.l0_k.body at e
  intro W h0 m0 h m A_0 n_0 c_0 bk_3 cs_3 O ne_0 k_0 r_0 e_3
  subst ne_0
  refine f46.l0_in ?_
  unfold f46.l0T
  refine split_dec_e e (fun c11 e => ?_) (fun c11 e => ?_)
  · obtain ⟨y1, g2, e⟩ := bind_e e
    refine r_0.addr rfl g2 fun a3 cs4 ha5 hc6 he7 => ?_
    refine ⟨_, ldAn (Sub.refl _) (O.all 0 rfl) (T_api_Event.T.len _ _ _ e_3), ?_⟩
    refine ⟨_, ldAn O.s hc6 rfl, ?_⟩
    obtain rfl : cs_3 = [(Value.int .i64 y_3.Place), (Value.int .i64 y_3.Kind), (Value.int .i64 y_3.Msg)] := e_3
    obtain rfl : cs4 = [(Value.int .i64 y1.Place), (Value.int .i64 y1.Kind), (Value.int .i64 y1.Msg)] := he7
    refine gen_eql (b := ((y_3.Place == y1.Place) && ((y_3.Kind == y1.Kind) && ((y_3.Msg == y1.Msg) && true)))) (by kernel_rfl) ?_
    refine ⟨_, rfl, ?_⟩
    refine split_any_e e (fun c10 e => ?_) (fun c10 e => ?_)
    · cases e
      exact ⟨_, O.pick [], rfl⟩
    · exact (ih _ _ e) _ _ _ _ _ _ _ _ _ _ (O.pick [0]).nm rfl k_0 r_0 (show T_api_Event.E _ y_3 [(Value.int .i64 y_3.Place), (Value.int .i64 y_3.Kind), (Value.int .i64 y_3.Msg)] from rfl)
  · cases e
    exact ⟨_, O.pick [], rfl⟩
theorem slices_Index_46.l0_k.all {p : slices_Index_46.l0_k.Pt} {r : (Int)} (e : slices_Index_46.l0_k.go p = some r) : slices_Index_46.l0_k.I p r := fixF_ind (β := fun _ => (Int)) slices_Index_46.l0_k.mono (I := slices_Index_46.l0_k.I) (fun go ih p r e => match p with
  | .l0 a_0 y_3 x_7 x_8 => slices_Index_46.l0_k.step_l0 go ih a_0 y_3 x_7 x_8 r e
  ) e
theorem slices_Index_46.l0.walk {W : Nat → Prop} {h0 m0 h m : Heap} {A_0 : Option Addr} {n_0 c_0 : Nat} {bk_3 : Nat} {cs_3 : List Value} {a_0 : List T_api_Event} {y_3 : T_api_Event} {x_7 : Int} {x_8 : Int} (O : Hold W h0 m0 h m [rV bk_3 36 cs_3]) (ne_0 : n_0 = List.length a_0) (k_0 : List.length a_0 ≤ c_0) (r_0 : Rd 3 T_api_Event.E m A_0 a_0) (e_3 : T_api_Event.E m y_3 cs_3) {r : Int} (e : slices_Index_46.l0 a_0 y_3 x_7 x_8 = some r) : f46.l0 (slices_Index_46.post W h0 m0 r) A_0 n_0 c_0 (⟨bk_3, 0, none⟩ : Addr) x_7 x_8 h := slices_Index_46.l0_k.all (p := .l0 a_0 y_3 x_7 x_8) e W h0 m0 h m A_0 n_0 c_0 bk_3 cs_3 O ne_0 k_0 r_0 e_3
noncomputable def slices_Index_46 (a_0 : List T_api_Event) (y_1 : T_api_Event) : Option (Int) :=
  (slices_Index_46.l0 a_0 y_1 (((List.length a_0) : Nat) : Int) (0 : Int))
set_option maxRecDepth 100000 in
theorem slices_Index_46.walk {W : Nat → Prop} {h m : Heap} {A_0 : Option Addr} {n_0 c_0 : Nat} {cs_1 : List Value} {a_0 : List T_api_Event} {y_1 : T_api_Event} (O : Hold W h m h m []) (ne_0 : n_0 = List.length a_0) (k_0 : List.length a_0 ≤ c_0) (r_0 : Rd 3 T_api_Event.E m A_0 a_0) (e_1 : T_api_Event.E m y_1 cs_1) {r : Int} (e : slices_Index_46 a_0 y_1 = some r) : Run Try.prog 46 #[Value.slice A_0 n_0 c_0, Value.agg cs_1.toArray] h (slices_Index_46.post W h m r) := by
  unfold slices_Index_46 at e
  subst ne_0
  refine f46.run ?_
  unfold f46.runT
  refine O.new fun h1 x2 O3 => ?_
  have O5 := O3.nm
  exact slices_Index_46.l0.walk (O5.pick [0]).nm rfl k_0 r_0 e_1 e
def roadlaw4_took.post (W : Nat → Prop) (h0 m0 : Heap) (r : Bool) (v : Value) (h : Heap) : Prop := ∃ m , Hold W h0 m0 h m [] ∧ v = .bool r
noncomputable def roadlaw4_took (a_0 : List T_api_Event) (a_1 : List Bool) (y_2 : T_api_Event) : Option (Bool) :=
  Option.bind (slices_Index_46 a_0 y_2) fun y5 => if y5 ≥ (0 : Int) then (Option.bind (gi a_1 y5) fun y12 => some (y12)) else (some (false))
set_option maxRecDepth 100000 in
theorem roadlaw4_took.walk {W : Nat → Prop} {h m : Heap} {A_0 : Option Addr} {n_0 c_0 : Nat} {A_1 : Option Addr} {n_1 c_1 : Nat} {cs_2 : List Value} {a_0 : List T_api_Event} {a_1 : List Bool} {y_2 : T_api_Event} (O : Hold W h m h m []) (ne_0 : n_0 = List.length a_0) (k_0 : List.length a_0 ≤ c_0) (r_0 : Rd 3 T_api_Event.E m A_0 a_0) (ne_1 : n_1 = List.length a_1) (k_1 : List.length a_1 ≤ c_1) (r_1 : Rd 1 eBool m A_1 a_1) (e_2 : T_api_Event.E m y_2 cs_2) {r : Bool} (e : roadlaw4_took a_0 a_1 y_2 = some r) : Run Try.prog 17 #[Value.slice A_0 n_0 c_0, Value.slice A_1 n_1 c_1, Value.agg cs_2.toArray] h (roadlaw4_took.post W h m r) := by
  unfold roadlaw4_took at e
  subst ne_0
  subst ne_1
  refine f17.run ?_
  unfold f17.runT
  refine O.new fun h1 x2 O3 => ?_
  refine ⟨_, ldAn (Sub.refl _) (O3.all 0 rfl) (T_api_Event.T.len _ _ _ e_2), ?_⟩
  obtain ⟨y5, g6, e⟩ := bind_e e
  refine (slices_Index_46.walk (Hold.start (W := No) O3.s) rfl k_0 r_0 e_2 g6).mono ?_
  rintro _ h7 ⟨m8, Q9, rfl⟩
  have O11 := Hold.nm (O3.retC Q9 vfs_nil)
  refine ⟨_, rfl, ?_⟩
  refine split_dec_e e (fun c19 e => ?_) (fun c19 e => ?_)
  · obtain ⟨y12, g13, e⟩ := bind_e e
    refine r_1.addr rfl g13 fun a14 cs15 ha16 hc17 he18 => ?_
    obtain rfl : cs15 = [(Value.bool y12)] := he18
    refine ⟨_, ld0 O11.s hc17 rfl, _, rfl, ?_⟩
    cases e
    exact ⟨_, O11.pick [], rfl⟩
  · cases e
    exact ⟨_, O11.pick [], rfl⟩
def roadlaw4_CutSays_1.post (W : Nat → Prop) (h0 m0 : Heap) (r : Bool) (v : Value) (h : Heap) : Prop := ∃ m , Hold W h0 m0 h m [] ∧ v = .bool r
noncomputable def roadlaw4_CutSays_1 (y_0 : T_api_Event) (y_1 : T_api_Event) (y_2 : (List T_api_Event)) (y_3 : (List Bool)) : Option (Bool) :=
  if y_0.Kind = (3 : Int) then (if y_0.Msg = y_1.Msg then (Option.bind (roadlaw4_took y_2 y_3 y_0) fun y5 => some (y5)) else (some (false))) else (some (false))
set_option maxRecDepth 100000 in
theorem roadlaw4_CutSays_1.walk {W : Nat → Prop} {h m : Heap} {cs_0 : List Value} {bk_1 : Nat} {bk_2 : Nat} {bk_3 : Nat} {y_0 : T_api_Event} {y_1 : T_api_Event} {y_2 : (List T_api_Event)} {y_3 : (List Bool)} (O : Hold W h m h m []) (e_0 : T_api_Event.E m y_0 cs_0) (v_1 : VB T_api_Event.E m bk_1 y_1) (v_2 : VB (eRow 3 T_api_Event.E) m bk_2 y_2) (v_3 : VB (eRow 1 eBool) m bk_3 y_3) {r : Bool} (e : roadlaw4_CutSays_1 y_0 y_1 y_2 y_3 = some r) : Run Try.prog 16 #[Value.agg cs_0.toArray, Value.pointer (some ⟨bk_1, 0, none⟩), Value.pointer (some ⟨bk_2, 0, none⟩), Value.pointer (some ⟨bk_3, 0, none⟩)] h (roadlaw4_CutSays_1.post W h m r) := by
  unfold roadlaw4_CutSays_1 at e
  obtain ⟨cs_1, t_1, hb_1, nn_1, e_1⟩ := id v_1
  obtain ⟨cs_2, t_2, hb_2, nn_2, e_2⟩ := id v_2
  obtain ⟨Ae_2_0, ce_2_0, rfl, ke_2_0, re_2_0⟩ := id e_2
  obtain ⟨cs_3, t_3, hb_3, nn_3, e_3⟩ := id v_3
  obtain ⟨Ae_3_0, ce_3_0, rfl, ke_3_0, re_3_0⟩ := id e_3
  refine f16.run ?_
  unfold f16.runT
  refine O.new fun h1 x2 O3 => ?_
  refine ⟨_, ldk (k := 1) (Sub.refl _) (O3.all 0 rfl) (T_api_Event.g1 e_0), _, rfl, ?_⟩
  refine split_eq_e e (fun c15 e => ?_) (fun c15 e => ?_)
  · refine ⟨_, ldk (k := 2) (Sub.refl _) (O3.all 0 rfl) (T_api_Event.g2 e_0), _, rfl, ?_⟩
    refine ⟨_, ldk (k := 2) O3.s (Blk.all' hb_1) (T_api_Event.g2 e_1), _, rfl, ?_⟩
    refine split_eq_e e (fun c13 e => ?_) (fun c13 e => ?_)
    · refine ⟨_, ld0 O3.s (Blk.all' hb_2) rfl, _, _, _, rfl, ?_⟩
      refine ⟨_, ld0 O3.s (Blk.all' hb_3) rfl, _, _, _, rfl, ?_⟩
      refine ⟨_, ldAn (Sub.refl _) (O3.all 0 rfl) (T_api_Event.T.len _ _ _ e_0), ?_⟩
      obtain ⟨y5, g6, e⟩ := bind_e e
      refine (roadlaw4_took.walk (Hold.start (W := No) O3.s) rfl ke_2_0 re_2_0 rfl ke_3_0 re_3_0 e_0 g6).mono ?_
      rintro _ h7 ⟨m8, Q9, rfl⟩
      have O11 := Hold.nm (O3.retC Q9 vfs_nil)
      refine ⟨_, rfl, ?_⟩
      cases e
      exact ⟨_, O11.pick [], rfl⟩
    · have O12 := O3.nm
      cases e
      exact ⟨_, O12.pick [], rfl⟩
  · have O14 := O3.nm
    cases e
    exact ⟨_, O14.pick [], rfl⟩
def roadref4_Past.post (W : Nat → Prop) (h0 m0 : Heap) (r : (List (List Bool))) (v : Value) (h : Heap) : Prop := ∃ m A0 n0 c0, Hold W h0 m0 h m [rR (aRow (aE tell_bool)) A0 c0 r] ∧ v = .slice A0 n0 c0 ∧ n0 = List.length r
inductive roadref4_Past.l0_k.Pt where
  | l0 (a_0 : List T_api_Event) (a_3 : List (List Bool)) (a_13 : List T_api_Event) (x_14 : Int) (x_15 : Int)
  | l1 (a_0 : List T_api_Event) (a_3 : List (List Bool)) (x_4 : Int) (y_5 : T_api_Event) (x_6 : Int) (a_13 : List T_api_Event) (x_14 : Int) (x_15 : Int)
  | j1 (a_0 : List T_api_Event) (a_3 : List (List Bool)) (x_4 : Int) (y_5 : T_api_Event) (x_6 : Int) (a_13 : List T_api_Event) (x_14 : Int) (x_15 : Int) (b_57 : Bool)
  | l2 (a_0 : List T_api_Event) (a_3 : List (List Bool)) (x_4 : Int) (y_5 : T_api_Event) (x_6 : Int) (a_13 : List T_api_Event) (x_14 : Int) (x_15 : Int) (x_68 : Int) (x_69 : Int) (x_67 : Int) (a_67 : List Bool)
  | j0 (a_0 : List T_api_Event) (a_3 : List (List Bool)) (x_4 : Int) (y_5 : T_api_Event) (x_6 : Int) (a_13 : List T_api_Event) (x_14 : Int) (x_15 : Int)
noncomputable def roadref4_Past.l0_k.body (go : (p : roadref4_Past.l0_k.Pt) → Option ((List (List Bool)))) : (p : roadref4_Past.l0_k.Pt) → Option ((List (List Bool)))
  | .l0 a_0 a_3 a_13 x_14 x_15 => if x_15 < x_14 then (Option.bind (gi a_13 x_15) fun y1 => Option.bind (mks 1 (((List.length a_0) : Nat) : Int) false) fun l14 => Option.bind (gi a_3 x_15) fun y24 => Option.bind (some (List.set a_3 (Int.toNat x_15) l14)) fun l38 => (go (.l1 a_0 l38 x_15 y1 (IntKind.wrap .i64 (x_15 - (1 : Int))) a_13 x_14 x_15))) else (some (a_3))
  | .l1 a_0 a_3 x_4 y_5 x_6 a_13 x_14 x_15 => if x_6 ≥ (0 : Int) then (Option.bind (gi a_0 x_6) fun y1 => if y1.Place = y_5.Place then ((go (.j1 a_0 a_3 x_4 y_5 x_6 a_13 x_14 x_15 true))) else (if y_5.Kind = (3 : Int) then (if y1.Kind = (2 : Int) then ((go (.j1 a_0 a_3 x_4 y_5 x_6 a_13 x_14 x_15 (y1.Msg == y_5.Msg)))) else ((go (.j1 a_0 a_3 x_4 y_5 x_6 a_13 x_14 x_15 false)))) else ((go (.j1 a_0 a_3 x_4 y_5 x_6 a_13 x_14 x_15 false))))) else ((go (.l0 a_0 a_3 a_13 x_14 (IntKind.wrap .i64 (x_15 + (1 : Int))))))
  | .j1 a_0 a_3 x_4 y_5 x_6 a_13 x_14 x_15 b_57 => if b_57 = true then (Option.bind (gi a_3 x_4) fun y3 => Option.bind (gi y3 x_6) fun y13 => Option.bind (some (List.set y3 (Int.toNat x_6) true)) fun l23 => Option.bind (gi (List.set a_3 (Int.toNat x_4) l23) x_6) fun y29 => (go (.l2 a_0 (List.set a_3 (Int.toNat x_4) l23) x_4 y_5 x_6 a_13 x_14 x_15 (((List.length y29) : Nat) : Int) (0 : Int) x_6 y29))) else ((go (.j0 a_0 a_3 x_4 y_5 x_6 a_13 x_14 x_15)))
  | .l2 a_0 a_3 x_4 y_5 x_6 a_13 x_14 x_15 x_68 x_69 x_67 a_67 => if x_69 < x_68 then (Option.bind (gi a_67 x_69) fun y1 => Option.bind (gi a_3 x_4) fun y10 => Option.bind (gi a_3 x_4) fun y14 => Option.bind (gi y10 x_69) fun y22 => if y22 = true then (Option.bind (gi y10 x_69) fun y29 => Option.bind (some (List.set y10 (Int.toNat x_69) true)) fun l39 => if Int.toNat x_4 ≠ Int.toNat x_67 then ((go (.l2 a_0 (List.set a_3 (Int.toNat x_4) l39) x_4 y_5 x_6 a_13 x_14 x_15 x_68 (IntKind.wrap .i64 (x_69 + (1 : Int))) x_67 a_67))) else none) else (Option.bind (gi y10 x_69) fun y45 => Option.bind (some (List.set y10 (Int.toNat x_69) y1)) fun l55 => if Int.toNat x_4 ≠ Int.toNat x_67 then ((go (.l2 a_0 (List.set a_3 (Int.toNat x_4) l55) x_4 y_5 x_6 a_13 x_14 x_15 x_68 (IntKind.wrap .i64 (x_69 + (1 : Int))) x_67 a_67))) else none)) else ((go (.j0 a_0 a_3 x_4 y_5 x_6 a_13 x_14 x_15)))
  | .j0 a_0 a_3 x_4 y_5 x_6 a_13 x_14 x_15 => (go (.l1 a_0 a_3 x_4 y_5 (IntKind.wrap .i64 (x_6 - (1 : Int))) a_13 x_14 x_15))
theorem roadref4_Past.l0_k.mono : MonoF (β := fun _ => ((List (List Bool)))) roadref4_Past.l0_k.body := fun f g hfg p => match p with
  | .l0 a_0 a_3 a_13 x_14 x_15 => LeO.ite (LeO.bind (LeO.refl _) fun y1 => LeO.bind (LeO.refl _) fun l14 => LeO.bind (LeO.refl _) fun y24 => LeO.bind (LeO.refl _) fun l38 => (hfg _)) (LeO.refl _)
  | .l1 a_0 a_3 x_4 y_5 x_6 a_13 x_14 x_15 => LeO.ite (LeO.bind (LeO.refl _) fun y1 => LeO.ite ((hfg _)) (LeO.ite (LeO.ite ((hfg _)) ((hfg _))) ((hfg _)))) ((hfg _))
  | .j1 a_0 a_3 x_4 y_5 x_6 a_13 x_14 x_15 b_57 => LeO.ite (LeO.bind (LeO.refl _) fun y3 => LeO.bind (LeO.refl _) fun y13 => LeO.bind (LeO.refl _) fun l23 => LeO.bind (LeO.refl _) fun y29 => (hfg _)) ((hfg _))
  | .l2 a_0 a_3 x_4 y_5 x_6 a_13 x_14 x_15 x_68 x_69 x_67 a_67 => LeO.ite (LeO.bind (LeO.refl _) fun y1 => LeO.bind (LeO.refl _) fun y10 => LeO.bind (LeO.refl _) fun y14 => LeO.bind (LeO.refl _) fun y22 => LeO.ite (LeO.bind (LeO.refl _) fun y29 => LeO.bind (LeO.refl _) fun l39 => LeO.ite ((hfg _)) (LeO.refl _)) (LeO.bind (LeO.refl _) fun y45 => LeO.bind (LeO.refl _) fun l55 => LeO.ite ((hfg _)) (LeO.refl _))) ((hfg _))
  | .j0 a_0 a_3 x_4 y_5 x_6 a_13 x_14 x_15 => (hfg _)
noncomputable def roadref4_Past.l0_k.go (p : roadref4_Past.l0_k.Pt) : Option ((List (List Bool))) := fixF (β := fun _ => ((List (List Bool)))) roadref4_Past.l0_k.body p
noncomputable def roadref4_Past.l0 (a_0 : List T_api_Event) (a_3 : List (List Bool)) (a_13 : List T_api_Event) (x_14 : Int) (x_15 : Int) : Option ((List (List Bool))) := roadref4_Past.l0_k.go (.l0 a_0 a_3 a_13 x_14 x_15)
noncomputable def roadref4_Past.l1 (a_0 : List T_api_Event) (a_3 : List (List Bool)) (x_4 : Int) (y_5 : T_api_Event) (x_6 : Int) (a_13 : List T_api_Event) (x_14 : Int) (x_15 : Int) : Option ((List (List Bool))) := roadref4_Past.l0_k.go (.l1 a_0 a_3 x_4 y_5 x_6 a_13 x_14 x_15)
noncomputable def roadref4_Past.j1 (a_0 : List T_api_Event) (a_3 : List (List Bool)) (x_4 : Int) (y_5 : T_api_Event) (x_6 : Int) (a_13 : List T_api_Event) (x_14 : Int) (x_15 : Int) (b_57 : Bool) : Option ((List (List Bool))) := roadref4_Past.l0_k.go (.j1 a_0 a_3 x_4 y_5 x_6 a_13 x_14 x_15 b_57)
noncomputable def roadref4_Past.l2 (a_0 : List T_api_Event) (a_3 : List (List Bool)) (x_4 : Int) (y_5 : T_api_Event) (x_6 : Int) (a_13 : List T_api_Event) (x_14 : Int) (x_15 : Int) (x_68 : Int) (x_69 : Int) (x_67 : Int) (a_67 : List Bool) : Option ((List (List Bool))) := roadref4_Past.l0_k.go (.l2 a_0 a_3 x_4 y_5 x_6 a_13 x_14 x_15 x_68 x_69 x_67 a_67)
noncomputable def roadref4_Past.j0 (a_0 : List T_api_Event) (a_3 : List (List Bool)) (x_4 : Int) (y_5 : T_api_Event) (x_6 : Int) (a_13 : List T_api_Event) (x_14 : Int) (x_15 : Int) : Option ((List (List Bool))) := roadref4_Past.l0_k.go (.j0 a_0 a_3 x_4 y_5 x_6 a_13 x_14 x_15)
theorem roadref4_Past.l0_eq (a_0 : List T_api_Event) (a_3 : List (List Bool)) (a_13 : List T_api_Event) (x_14 : Int) (x_15 : Int) : roadref4_Past.l0 a_0 a_3 a_13 x_14 x_15 = if x_15 < x_14 then (Option.bind (gi a_13 x_15) fun y1 => Option.bind (mks 1 (((List.length a_0) : Nat) : Int) false) fun l14 => Option.bind (gi a_3 x_15) fun y24 => Option.bind (some (List.set a_3 (Int.toNat x_15) l14)) fun l38 => (roadref4_Past.l1 a_0 l38 x_15 y1 (IntKind.wrap .i64 (x_15 - (1 : Int))) a_13 x_14 x_15)) else (some (a_3)) := fixF_eq roadref4_Past.l0_k.mono _
theorem roadref4_Past.l1_eq (a_0 : List T_api_Event) (a_3 : List (List Bool)) (x_4 : Int) (y_5 : T_api_Event) (x_6 : Int) (a_13 : List T_api_Event) (x_14 : Int) (x_15 : Int) : roadref4_Past.l1 a_0 a_3 x_4 y_5 x_6 a_13 x_14 x_15 = if x_6 ≥ (0 : Int) then (Option.bind (gi a_0 x_6) fun y1 => if y1.Place = y_5.Place then ((roadref4_Past.j1 a_0 a_3 x_4 y_5 x_6 a_13 x_14 x_15 true)) else (if y_5.Kind = (3 : Int) then (if y1.Kind = (2 : Int) then ((roadref4_Past.j1 a_0 a_3 x_4 y_5 x_6 a_13 x_14 x_15 (y1.Msg == y_5.Msg))) else ((roadref4_Past.j1 a_0 a_3 x_4 y_5 x_6 a_13 x_14 x_15 false))) else ((roadref4_Past.j1 a_0 a_3 x_4 y_5 x_6 a_13 x_14 x_15 false)))) else ((roadref4_Past.l0 a_0 a_3 a_13 x_14 (IntKind.wrap .i64 (x_15 + (1 : Int))))) := fixF_eq roadref4_Past.l0_k.mono _
theorem roadref4_Past.j1_eq (a_0 : List T_api_Event) (a_3 : List (List Bool)) (x_4 : Int) (y_5 : T_api_Event) (x_6 : Int) (a_13 : List T_api_Event) (x_14 : Int) (x_15 : Int) (b_57 : Bool) : roadref4_Past.j1 a_0 a_3 x_4 y_5 x_6 a_13 x_14 x_15 b_57 = if b_57 = true then (Option.bind (gi a_3 x_4) fun y3 => Option.bind (gi y3 x_6) fun y13 => Option.bind (some (List.set y3 (Int.toNat x_6) true)) fun l23 => Option.bind (gi (List.set a_3 (Int.toNat x_4) l23) x_6) fun y29 => (roadref4_Past.l2 a_0 (List.set a_3 (Int.toNat x_4) l23) x_4 y_5 x_6 a_13 x_14 x_15 (((List.length y29) : Nat) : Int) (0 : Int) x_6 y29)) else ((roadref4_Past.j0 a_0 a_3 x_4 y_5 x_6 a_13 x_14 x_15)) := fixF_eq roadref4_Past.l0_k.mono _
theorem roadref4_Past.l2_eq (a_0 : List T_api_Event) (a_3 : List (List Bool)) (x_4 : Int) (y_5 : T_api_Event) (x_6 : Int) (a_13 : List T_api_Event) (x_14 : Int) (x_15 : Int) (x_68 : Int) (x_69 : Int) (x_67 : Int) (a_67 : List Bool) : roadref4_Past.l2 a_0 a_3 x_4 y_5 x_6 a_13 x_14 x_15 x_68 x_69 x_67 a_67 = if x_69 < x_68 then (Option.bind (gi a_67 x_69) fun y1 => Option.bind (gi a_3 x_4) fun y10 => Option.bind (gi a_3 x_4) fun y14 => Option.bind (gi y10 x_69) fun y22 => if y22 = true then (Option.bind (gi y10 x_69) fun y29 => Option.bind (some (List.set y10 (Int.toNat x_69) true)) fun l39 => if Int.toNat x_4 ≠ Int.toNat x_67 then ((roadref4_Past.l2 a_0 (List.set a_3 (Int.toNat x_4) l39) x_4 y_5 x_6 a_13 x_14 x_15 x_68 (IntKind.wrap .i64 (x_69 + (1 : Int))) x_67 a_67)) else none) else (Option.bind (gi y10 x_69) fun y45 => Option.bind (some (List.set y10 (Int.toNat x_69) y1)) fun l55 => if Int.toNat x_4 ≠ Int.toNat x_67 then ((roadref4_Past.l2 a_0 (List.set a_3 (Int.toNat x_4) l55) x_4 y_5 x_6 a_13 x_14 x_15 x_68 (IntKind.wrap .i64 (x_69 + (1 : Int))) x_67 a_67)) else none)) else ((roadref4_Past.j0 a_0 a_3 x_4 y_5 x_6 a_13 x_14 x_15)) := fixF_eq roadref4_Past.l0_k.mono _
theorem roadref4_Past.j0_eq (a_0 : List T_api_Event) (a_3 : List (List Bool)) (x_4 : Int) (y_5 : T_api_Event) (x_6 : Int) (a_13 : List T_api_Event) (x_14 : Int) (x_15 : Int) : roadref4_Past.j0 a_0 a_3 x_4 y_5 x_6 a_13 x_14 x_15 = (roadref4_Past.l1 a_0 a_3 x_4 y_5 (IntKind.wrap .i64 (x_6 - (1 : Int))) a_13 x_14 x_15) := fixF_eq roadref4_Past.l0_k.mono _
def roadref4_Past.l0_k.I : (p : roadref4_Past.l0_k.Pt) → ((List (List Bool))) → Prop
  | .l0 a_0 a_3 a_13 x_14 x_15, r => ∀ (W : Nat → Prop) (h0 m0 h m : Heap) (A_0 : Option Addr) (n_0 c_0 : Nat) (A_3 : Option Addr) (n_3 c_3 : Nat) (A_13 : Option Addr) (n_13 c_13 : Nat) (O : Hold W h0 m0 h m [rR (aRow (aE tell_bool)) A_3 c_3 a_3]) (ne_0 : n_0 = List.length a_0) (k_0 : List.length a_0 ≤ c_0) (r_0 : Rd 3 T_api_Event.E m A_0 a_0) (ne_3 : n_3 = List.length a_3) (ne_13 : n_13 = List.length a_13) (k_13 : List.length a_13 ≤ c_13) (r_13 : Rd 3 T_api_Event.E m A_13 a_13), f49.l0 (roadref4_Past.post W h0 m0 r) A_0 n_0 c_0 A_3 n_3 c_3 A_13 n_13 c_13 x_14 x_15 h
  | .l1 a_0 a_3 x_4 y_5 x_6 a_13 x_14 x_15, r => ∀ (W : Nat → Prop) (h0 m0 h m : Heap) (A_0 : Option Addr) (n_0 c_0 : Nat) (A_3 : Option Addr) (n_3 c_3 : Nat) (bk_5 : Nat) (cs_5 : List Value) (A_13 : Option Addr) (n_13 c_13 : Nat) (O : Hold W h0 m0 h m [rR (aRow (aE tell_bool)) A_3 c_3 a_3, rV bk_5 36 cs_5]) (ne_0 : n_0 = List.length a_0) (k_0 : List.length a_0 ≤ c_0) (r_0 : Rd 3 T_api_Event.E m A_0 a_0) (ne_3 : n_3 = List.length a_3) (e_5 : T_api_Event.E m y_5 cs_5) (ne_13 : n_13 = List.length a_13) (k_13 : List.length a_13 ≤ c_13) (r_13 : Rd 3 T_api_Event.E m A_13 a_13), f49.l1 (roadref4_Past.post W h0 m0 r) A_0 n_0 c_0 A_3 n_3 c_3 x_4 (⟨bk_5, 0, none⟩ : Addr) x_6 A_13 n_13 c_13 x_14 x_15 h
  | .j1 a_0 a_3 x_4 y_5 x_6 a_13 x_14 x_15 b_57, r => ∀ (W : Nat → Prop) (h0 m0 h m : Heap) (A_0 : Option Addr) (n_0 c_0 : Nat) (A_3 : Option Addr) (n_3 c_3 : Nat) (bk_5 : Nat) (cs_5 : List Value) (A_13 : Option Addr) (n_13 c_13 : Nat) (O : Hold W h0 m0 h m [rR (aRow (aE tell_bool)) A_3 c_3 a_3, rV bk_5 36 cs_5]) (ne_0 : n_0 = List.length a_0) (k_0 : List.length a_0 ≤ c_0) (r_0 : Rd 3 T_api_Event.E m A_0 a_0) (ne_3 : n_3 = List.length a_3) (e_5 : T_api_Event.E m y_5 cs_5) (ne_13 : n_13 = List.length a_13) (k_13 : List.length a_13 ≤ c_13) (r_13 : Rd 3 T_api_Event.E m A_13 a_13), f49.j1 (roadref4_Past.post W h0 m0 r) A_0 n_0 c_0 A_3 n_3 c_3 x_4 (⟨bk_5, 0, none⟩ : Addr) x_6 A_13 n_13 c_13 x_14 x_15 b_57 h
  | .l2 a_0 a_3 x_4 y_5 x_6 a_13 x_14 x_15 x_68 x_69 x_67 a_67, r => ∀ (W : Nat → Prop) (h0 m0 h m : Heap) (A_0 : Option Addr) (n_0 c_0 : Nat) (A_3 : Option Addr) (n_3 c_3 : Nat) (hs_3 : List Value) (bk_5 : Nat) (cs_5 : List Value) (A_13 : Option Addr) (n_13 c_13 : Nat) (A_67 : Option Addr) (n_67 c_67 : Nat) (O : Hold W h0 m0 h m [rX (aRow (aE tell_bool)) A_3 c_3 a_3 hs_3 none, rV bk_5 36 cs_5]) (ne_0 : n_0 = List.length a_0) (k_0 : List.length a_0 ≤ c_0) (r_0 : Rd 3 T_api_Event.E m A_0 a_0) (ne_3 : n_3 = List.length a_3) (e_5 : T_api_Event.E m y_5 cs_5) (ne_13 : n_13 = List.length a_13) (k_13 : List.length a_13 ≤ c_13) (r_13 : Rd 3 T_api_Event.E m A_13 a_13) (ne_67 : n_67 = List.length a_67) (hx_67 : hs_3[Int.toNat x_67]? = some (.slice A_67 n_67 c_67)) (g_67 : gi a_3 x_67 = some a_67), f49.l2 (roadref4_Past.post W h0 m0 r) A_0 n_0 c_0 A_3 n_3 c_3 x_4 (⟨bk_5, 0, none⟩ : Addr) x_6 A_13 n_13 c_13 x_14 x_15 A_67 n_67 c_67 x_68 x_69 h
  | .j0 a_0 a_3 x_4 y_5 x_6 a_13 x_14 x_15, r => ∀ (W : Nat → Prop) (h0 m0 h m : Heap) (A_0 : Option Addr) (n_0 c_0 : Nat) (A_3 : Option Addr) (n_3 c_3 : Nat) (bk_5 : Nat) (cs_5 : List Value) (A_13 : Option Addr) (n_13 c_13 : Nat) (O : Hold W h0 m0 h m [rR (aRow (aE tell_bool)) A_3 c_3 a_3, rV bk_5 36 cs_5]) (ne_0 : n_0 = List.length a_0) (k_0 : List.length a_0 ≤ c_0) (r_0 : Rd 3 T_api_Event.E m A_0 a_0) (ne_3 : n_3 = List.length a_3) (e_5 : T_api_Event.E m y_5 cs_5) (ne_13 : n_13 = List.length a_13) (k_13 : List.length a_13 ≤ c_13) (r_13 : Rd 3 T_api_Event.E m A_13 a_13), f49.j0 (roadref4_Past.post W h0 m0 r) A_0 n_0 c_0 A_3 n_3 c_3 x_4 (⟨bk_5, 0, none⟩ : Addr) x_6 A_13 n_13 c_13 x_14 x_15 h
set_option maxRecDepth 100000 in
theorem roadref4_Past.l0_k.step_l0 (go : (p : roadref4_Past.l0_k.Pt) → Option ((List (List Bool)))) (ih : ∀ p r, go p = some r → roadref4_Past.l0_k.I p r) (a_0 : List T_api_Event) (a_3 : List (List Bool)) (a_13 : List T_api_Event) (x_14 : Int) (x_15 : Int) (r : (List (List Bool))) (e : roadref4_Past.l0_k.body go (.l0 a_0 a_3 a_13 x_14 x_15) = some r) : roadref4_Past.l0_k.I (.l0 a_0 a_3 a_13 x_14 x_15) r := by
  unfold roadref4_Past.l0_k.body at e
  intro W h0 m0 h m A_0 n_0 c_0 A_3 n_3 c_3 A_13 n_13 c_13 O ne_0 k_0 r_0 ne_3 ne_13 k_13 r_13
  subst ne_0
  subst ne_3
  subst ne_13
  refine f49.l0_in ?_
  unfold f49.l0T
  refine split_dec_e e (fun c45 e => ?_) (fun c45 e => ?_)
  · obtain ⟨y1, g2, e⟩ := bind_e e
    refine r_13.addr rfl g2 fun a3 cs4 ha5 hc6 he7 => ?_
    refine ⟨_, ldAn O.s hc6 rfl, ?_⟩
    refine O.new fun h8 x9 O10 => ?_
    refine ⟨_, rfl, (T_api_Event.T.len _ _ _ he7), ?_⟩
    refine O10.stA 1 rfl (T_api_Event.T.len _ _ _ he7) (T_api_Event.T.flat _ _ _ he7) fun h12 O13 => ?_
    obtain ⟨l14, g15, e⟩ := bind_e e
    have q16 := mks_e g15
    refine ⟨q16.1, Int.le_refl _, q16.2.1, q16.2.2.1, ?_⟩
    refine O13.new fun h17 x18 O19 => ?_
    have O20 := O19.made 2 rfl (aE tell_bool) g15 ⟨rfl, rfl⟩
    try rw [q16.2.2.2.1]
    obtain ⟨y24, g25, e⟩ := bind_e e
    refine O20.adr 0 rfl rfl g25 fun a22 ha23 => ?_
    obtain ⟨l38, g39, e⟩ := bind_e e
    obtain ⟨hs26, O27⟩ := O20.openX 0 rfl g25
    obtain ⟨A28, c29, hx30, hc31, k32⟩ := O27.hdX 0 rfl ha23 g25
    have O34 := O27.takeX 0 rfl hx30 g25
    replace g39 := Option.some.inj g39
    refine O34.hdSt 0 rfl ha23 (v := (Value.slice (some ⟨(Array.size h12), 0, none⟩) (List.length l14) (List.length l14))) trivial fun h35 O36 => ?_
    have hx40 := hs_set (v := (Value.slice (some ⟨(Array.size h12), 0, none⟩) (List.length l14) (List.length l14))) hx30
    have O37 := O36.putX 0 2 rfl rfl hx40 rfl g39
    have O42 := O37.nm
    have O43 := O42.closeX 0 rfl
    have O44 := O43.nm
    exact (ih _ _ e) _ _ _ _ _ _ _ _ _ _ _ _ _ _ _ _ (O44.pick [0, 1]).nm rfl k_0 r_0 (lset' g39) he7 rfl k_13 r_13
  · cases e
    exact ⟨_, _, _, _, O.pick [0], rfl, rfl⟩
set_option maxRecDepth 100000 in
theorem roadref4_Past.l0_k.step_l1 (go : (p : roadref4_Past.l0_k.Pt) → Option ((List (List Bool)))) (ih : ∀ p r, go p = some r → roadref4_Past.l0_k.I p r) (a_0 : List T_api_Event) (a_3 : List (List Bool)) (x_4 : Int) (y_5 : T_api_Event) (x_6 : Int) (a_13 : List T_api_Event) (x_14 : Int) (x_15 : Int) (r : (List (List Bool))) (e : roadref4_Past.l0_k.body go (.l1 a_0 a_3 x_4 y_5 x_6 a_13 x_14 x_15) = some r) : roadref4_Past.l0_k.I (.l1 a_0 a_3 x_4 y_5 x_6 a_13 x_14 x_15) r := by
  unfold roadref4_Past.l0_k.body at e
  intro W h0 m0 h m A_0 n_0 c_0 A_3 n_3 c_3 bk_5 cs_5 A_13 n_13 c_13 O ne_0 k_0 r_0 ne_3 e_5 ne_13 k_13 r_13
  subst ne_0
  subst ne_3
  subst ne_13
  refine f49.l1_in ?_
  unfold f49.l1T
  refine split_dec_e e (fun c21 e => ?_) (fun c21 e => ?_)
  · obtain ⟨y1, g2, e⟩ := bind_e e
    refine r_0.addr rfl g2 fun a3 cs4 ha5 hc6 he7 => ?_
    refine ⟨_, ldAn O.s hc6 rfl, ?_⟩
    refine O.new fun h8 x9 O10 => ?_
    refine ⟨_, rfl, (T_api_Event.T.len _ _ _ he7), ?_⟩
    refine O10.stA 2 rfl (T_api_Event.T.len _ _ _ he7) (T_api_Event.T.flat _ _ _ he7) fun h12 O13 => ?_
    refine ⟨_, ld0 (Sub.refl _) (O13.all 2 rfl) (T_api_Event.g0 he7), _, rfl, ?_⟩
    refine ⟨_, ld0 (Sub.refl _) (O13.all 1 rfl) (T_api_Event.g0 e_5), _, rfl, ?_⟩
    refine split_eq_e e (fun c20 e => ?_) (fun c20 e => ?_)
    · have O14 := O13.nm
      exact (ih _ _ e) _ _ _ _ _ _ _ _ _ _ _ _ _ _ _ _ (O14.pick [0, 1]).nm rfl k_0 r_0 rfl e_5 rfl k_13 r_13
    · refine ⟨_, ldk (k := 1) (Sub.refl _) (O13.all 1 rfl) (T_api_Event.g1 e_5), _, rfl, ?_⟩
      refine split_eq_e e (fun c19 e => ?_) (fun c19 e => ?_)
      · refine ⟨_, ldk (k := 1) (Sub.refl _) (O13.all 2 rfl) (T_api_Event.g1 he7), _, rfl, ?_⟩
        refine split_eq_e e (fun c17 e => ?_) (fun c17 e => ?_)
        · refine ⟨_, ldk (k := 2) (Sub.refl _) (O13.all 2 rfl) (T_api_Event.g2 he7), _, rfl, ?_⟩
          refine ⟨_, ldk (k := 2) (Sub.refl _) (O13.all 1 rfl) (T_api_Event.g2 e_5), _, rfl, ?_⟩
          have O15 := O13.nm
          exact (ih _ _ e) _ _ _ _ _ _ _ _ _ _ _ _ _ _ _ _ (O15.pick [0, 1]).nm rfl k_0 r_0 rfl e_5 rfl k_13 r_13
        · have O16 := O13.nm
          exact (ih _ _ e) _ _ _ _ _ _ _ _ _ _ _ _ _ _ _ _ (O16.pick [0, 1]).nm rfl k_0 r_0 rfl e_5 rfl k_13 r_13
      · have O18 := O13.nm
        exact (ih _ _ e) _ _ _ _ _ _ _ _ _ _ _ _ _ _ _ _ (O18.pick [0, 1]).nm rfl k_0 r_0 rfl e_5 rfl k_13 r_13
  · exact (ih _ _ e) _ _ _ _ _ _ _ _ _ _ _ _ _ _ (O.pick [0]).nm rfl k_0 r_0 rfl rfl k_13 r_13
set_option maxRecDepth 100000 in
theorem roadref4_Past.l0_k.step_j1 (go : (p : roadref4_Past.l0_k.Pt) → Option ((List (List Bool)))) (ih : ∀ p r, go p = some r → roadref4_Past.l0_k.I p r) (a_0 : List T_api_Event) (a_3 : List (List Bool)) (x_4 : Int) (y_5 : T_api_Event) (x_6 : Int) (a_13 : List T_api_Event) (x_14 : Int) (x_15 : Int) (b_57 : Bool) (r : (List (List Bool))) (e : roadref4_Past.l0_k.body go (.j1 a_0 a_3 x_4 y_5 x_6 a_13 x_14 x_15 b_57) = some r) : roadref4_Past.l0_k.I (.j1 a_0 a_3 x_4 y_5 x_6 a_13 x_14 x_15 b_57) r := by
  unfold roadref4_Past.l0_k.body at e
  intro W h0 m0 h m A_0 n_0 c_0 A_3 n_3 c_3 bk_5 cs_5 A_13 n_13 c_13 O ne_0 k_0 r_0 ne_3 e_5 ne_13 k_13 r_13
  subst ne_0
  subst ne_3
  subst ne_13
  refine f49.j1_in ?_
  unfold f49.j1T
  refine split_any_e e (fun c38 e => ?_) (fun c38 e => ?_)
  · obtain ⟨y3, g4, e⟩ := bind_e e
    refine O.adr 0 rfl rfl g4 fun a1 ha2 => ?_
    obtain ⟨hs5, O6⟩ := O.openX 0 rfl g4
    obtain ⟨A7, c8, hx9, hc10, k11⟩ := O6.hdX 0 rfl ha2 g4
    refine ⟨_, ld0 (Sub.refl _) hc10 rfl, _, _, _, rfl, ?_⟩
    obtain ⟨y13, g14, e⟩ := bind_e e
    refine (O6.xos 0 rfl hx9 g4).addr rfl g14 fun a15 cs16 ha17 hc18 he19 => ?_
    obtain rfl : cs16 = [(Value.bool y13)] := he19
    obtain ⟨l23, g24, e⟩ := bind_e e
    have O20 := O6.takeX 0 rfl hx9 g4
    replace g24 := Option.some.inj g24
    refine O20.elst0 2 rfl g14 ha17 hc18 (by decide) (y' := true) rfl trivial g24 fun h21 O22 => ?_
    obtain ⟨y29, g30, e⟩ := bind_e e
    have O25 := O22.putX 0 2 rfl rfl hx9 (lset' g24) rfl
    have hx26 := hx_len hx9 (lset' g24)
    refine O25.adrX 0 rfl lset g30 fun a27 ha28 => ?_
    obtain ⟨A31, c32, hx33, hc34, k35⟩ := O25.hdX 0 rfl ha28 g30
    refine ⟨_, ld0 (Sub.refl _) hc34 rfl, _, _, _, rfl, ?_⟩
    have O37 := O25.nm
    exact (ih _ _ e) _ _ _ _ _ _ _ _ _ _ _ _ _ _ _ _ _ _ _ _ (O37.pick [0, 1]).nm rfl k_0 r_0 lset e_5 rfl k_13 r_13 rfl hx33 g30
  · exact (ih _ _ e) _ _ _ _ _ _ _ _ _ _ _ _ _ _ _ _ (O.pick [0, 1]).nm rfl k_0 r_0 rfl e_5 rfl k_13 r_13
set_option maxHeartbeats 4000000 in
set_option maxRecDepth 100000 in
theorem roadref4_Past.l0_k.step_l2 (go : (p : roadref4_Past.l0_k.Pt) → Option ((List (List Bool)))) (ih : ∀ p r, go p = some r → roadref4_Past.l0_k.I p r) (a_0 : List T_api_Event) (a_3 : List (List Bool)) (x_4 : Int) (y_5 : T_api_Event) (x_6 : Int) (a_13 : List T_api_Event) (x_14 : Int) (x_15 : Int) (x_68 : Int) (x_69 : Int) (x_67 : Int) (a_67 : List Bool) (r : (List (List Bool))) (e : roadref4_Past.l0_k.body go (.l2 a_0 a_3 x_4 y_5 x_6 a_13 x_14 x_15 x_68 x_69 x_67 a_67) = some r) : roadref4_Past.l0_k.I (.l2 a_0 a_3 x_4 y_5 x_6 a_13 x_14 x_15 x_68 x_69 x_67 a_67) r := by
  unfold roadref4_Past.l0_k.body at e
  intro W h0 m0 h m A_0 n_0 c_0 A_3 n_3 c_3 hs_3 bk_5 cs_5 A_13 n_13 c_13 A_67 n_67 c_67 O ne_0 k_0 r_0 ne_3 e_5 ne_13 k_13 r_13 ne_67 hx_67 g_67
  subst ne_0
  subst ne_3
  subst ne_13
  subst ne_67
  refine f49.l2_in ?_
  unfold f49.l2T
  refine split_dec_e e (fun c64 e => ?_) (fun c64 e => ?_)
  · obtain ⟨y1, g2, e⟩ := bind_e e
    refine (O.xos 0 rfl hx_67 g_67).addr rfl g2 fun a3 cs4 ha5 hc6 he7 => ?_
    obtain rfl : cs4 = [(Value.bool y1)] := he7
    refine ⟨_, ld0 (Sub.refl _) hc6 rfl, _, rfl, ?_⟩
    obtain ⟨y10, g11, e⟩ := bind_e e
    refine O.adrX 0 rfl rfl g11 fun a8 ha9 => ?_
    obtain ⟨y14, g15, e⟩ := bind_e e
    refine O.adrX 0 rfl rfl g15 fun a12 ha13 => ?_
    obtain ⟨A16, c17, hx18, hc19, k20⟩ := O.hdX 0 rfl ha9 g11
    refine ⟨_, ld0 (Sub.refl _) hc19 rfl, _, _, _, rfl, ?_⟩
    refine ⟨_, ld0 (Sub.refl _) (O.hcX 0 rfl ha13 hx18) rfl, _, _, _, rfl, ?_⟩
    obtain ⟨y22, g23, e⟩ := bind_e e
    refine (O.xos 0 rfl hx18 g11).addr rfl g23 fun a24 cs25 ha26 hc27 he28 => ?_
    obtain rfl : cs25 = [(Value.bool y22)] := he28
    refine ⟨_, ld0 (Sub.refl _) hc27 rfl, _, rfl, ?_⟩
    refine split_any_e e (fun c61 e => ?_) (fun c61 e => ?_)
    · obtain ⟨y29, g30, e⟩ := bind_e e
      refine (O.xos 0 rfl hx18 g11).addr rfl g30 fun a31 cs32 ha33 hc34 he35 => ?_
      obtain rfl : cs32 = [(Value.bool y29)] := he35
      obtain ⟨l39, g40, e⟩ := bind_e e
      have O36 := O.takeX 0 rfl hx18 g11
      replace g40 := Option.some.inj g40
      refine O36.elst0 2 rfl g30 ha33 hc34 (by decide) (y' := true) rfl trivial g40 fun h37 O38 => ?_
      have O41 := O38.putX 0 2 rfl rfl hx18 (lset' g40) rfl
      have hx42 := hx_len hx18 (lset' g40)
      obtain ⟨g43, e⟩ := guard_e e
      have O44 := O41.nm
      exact (ih _ _ e) _ _ _ _ _ _ _ _ _ _ _ _ _ _ _ _ _ _ _ _ (O44.pick [0, 1]).nm rfl k_0 r_0 lset e_5 rfl k_13 r_13 rfl hx_67 (gi_ne g_67 rfl g43)
    · obtain ⟨y45, g46, e⟩ := bind_e e
      refine (O.xos 0 rfl hx18 g11).addr rfl g46 fun a47 cs48 ha49 hc50 he51 => ?_
      obtain rfl : cs48 = [(Value.bool y45)] := he51
      obtain ⟨l55, g56, e⟩ := bind_e e
      have O52 := O.takeX 0 rfl hx18 g11
      replace g56 := Option.some.inj g56
      refine O52.elst0 2 rfl g46 ha49 hc50 (by decide) (y' := y1) rfl trivial g56 fun h53 O54 => ?_
      have O57 := O54.putX 0 2 rfl rfl hx18 (lset' g56) rfl
      have hx58 := hx_len hx18 (lset' g56)
      obtain ⟨g59, e⟩ := guard_e e
      have O60 := O57.nm
      exact (ih _ _ e) _ _ _ _ _ _ _ _ _ _ _ _ _ _ _ _ _ _ _ _ (O60.pick [0, 1]).nm rfl k_0 r_0 lset e_5 rfl k_13 r_13 rfl hx_67 (gi_ne g_67 rfl g59)
  · have O62 := O.closeX 0 rfl
    have O63 := O62.nm
    exact (ih _ _ e) _ _ _ _ _ _ _ _ _ _ _ _ _ _ _ _ (O63.pick [0, 1]).nm rfl k_0 r_0 rfl e_5 rfl k_13 r_13
set_option maxRecDepth 100000 in
theorem roadref4_Past.l0_k.step_j0 (go : (p : roadref4_Past.l0_k.Pt) → Option ((List (List Bool)))) (ih : ∀ p r, go p = some r → roadref4_Past.l0_k.I p r) (a_0 : List T_api_Event) (a_3 : List (List Bool)) (x_4 : Int) (y_5 : T_api_Event) (x_6 : Int) (a_13 : List T_api_Event) (x_14 : Int) (x_15 : Int) (r : (List (List Bool))) (e : roadref4_Past.l0_k.body go (.j0 a_0 a_3 x_4 y_5 x_6 a_13 x_14 x_15) = some r) : roadref4_Past.l0_k.I (.j0 a_0 a_3 x_4 y_5 x_6 a_13 x_14 x_15) r := by
  unfold roadref4_Past.l0_k.body at e
  intro W h0 m0 h m A_0 n_0 c_0 A_3 n_3 c_3 bk_5 cs_5 A_13 n_13 c_13 O ne_0 k_0 r_0 ne_3 e_5 ne_13 k_13 r_13
  subst ne_0
  subst ne_3
  subst ne_13
  refine f49.j0_in ?_
  unfold f49.j0T
  exact (ih _ _ e) _ _ _ _ _ _ _ _ _ _ _ _ _ _ _ _ (O.pick [0, 1]).nm rfl k_0 r_0 rfl e_5 rfl k_13 r_13
theorem roadref4_Past.l0_k.all {p : roadref4_Past.l0_k.Pt} {r : ((List (List Bool)))} (e : roadref4_Past.l0_k.go p = some r) : roadref4_Past.l0_k.I p r := fixF_ind (β := fun _ => ((List (List Bool)))) roadref4_Past.l0_k.mono (I := roadref4_Past.l0_k.I) (fun go ih p r e => match p with
  | .l0 a_0 a_3 a_13 x_14 x_15 => roadref4_Past.l0_k.step_l0 go ih a_0 a_3 a_13 x_14 x_15 r e
  | .l1 a_0 a_3 x_4 y_5 x_6 a_13 x_14 x_15 => roadref4_Past.l0_k.step_l1 go ih a_0 a_3 x_4 y_5 x_6 a_13 x_14 x_15 r e
  | .j1 a_0 a_3 x_4 y_5 x_6 a_13 x_14 x_15 b_57 => roadref4_Past.l0_k.step_j1 go ih a_0 a_3 x_4 y_5 x_6 a_13 x_14 x_15 b_57 r e
  | .l2 a_0 a_3 x_4 y_5 x_6 a_13 x_14 x_15 x_68 x_69 x_67 a_67 => roadref4_Past.l0_k.step_l2 go ih a_0 a_3 x_4 y_5 x_6 a_13 x_14 x_15 x_68 x_69 x_67 a_67 r e
  | .j0 a_0 a_3 x_4 y_5 x_6 a_13 x_14 x_15 => roadref4_Past.l0_k.step_j0 go ih a_0 a_3 x_4 y_5 x_6 a_13 x_14 x_15 r e
  ) e
theorem roadref4_Past.l0.walk {W : Nat → Prop} {h0 m0 h m : Heap} {A_0 : Option Addr} {n_0 c_0 : Nat} {A_3 : Option Addr} {n_3 c_3 : Nat} {A_13 : Option Addr} {n_13 c_13 : Nat} {a_0 : List T_api_Event} {a_3 : List (List Bool)} {a_13 : List T_api_Event} {x_14 : Int} {x_15 : Int} (O : Hold W h0 m0 h m [rR (aRow (aE tell_bool)) A_3 c_3 a_3]) (ne_0 : n_0 = List.length a_0) (k_0 : List.length a_0 ≤ c_0) (r_0 : Rd 3 T_api_Event.E m A_0 a_0) (ne_3 : n_3 = List.length a_3) (ne_13 : n_13 = List.length a_13) (k_13 : List.length a_13 ≤ c_13) (r_13 : Rd 3 T_api_Event.E m A_13 a_13) {r : (List (List Bool))} (e : roadref4_Past.l0 a_0 a_3 a_13 x_14 x_15 = some r) : f49.l0 (roadref4_Past.post W h0 m0 r) A_0 n_0 c_0 A_3 n_3 c_3 A_13 n_13 c_13 x_14 x_15 h := roadref4_Past.l0_k.all (p := .l0 a_0 a_3 a_13 x_14 x_15) e W h0 m0 h m A_0 n_0 c_0 A_3 n_3 c_3 A_13 n_13 c_13 O ne_0 k_0 r_0 ne_3 ne_13 k_13 r_13
noncomputable def roadref4_Past (a_0 : List T_api_Event) : Option ((List (List Bool))) :=
  Option.bind (mks 24 (((List.length a_0) : Nat) : Int) ([] : (List Bool))) fun l1 => (roadref4_Past.l0 a_0 l1 a_0 (((List.length a_0) : Nat) : Int) (0 : Int))
set_option maxRecDepth 100000 in
theorem roadref4_Past.walk {W : Nat → Prop} {h m : Heap} {A_0 : Option Addr} {n_0 c_0 : Nat} {a_0 : List T_api_Event} (O : Hold W h m h m []) (ne_0 : n_0 = List.length a_0) (k_0 : List.length a_0 ≤ c_0) (r_0 : Rd 3 T_api_Event.E m A_0 a_0) {r : (List (List Bool))} (e : roadref4_Past a_0 = some r) : Run Try.prog 49 #[Value.slice A_0 n_0 c_0] h (roadref4_Past.post W h m r) := by
  unfold roadref4_Past at e
  subst ne_0
  refine f49.run ?_
  unfold f49.runT
  obtain ⟨l1, g2, e⟩ := bind_e e
  have q3 := mks_e g2
  refine ⟨q3.1, Int.le_refl _, q3.2.1, q3.2.2.1, ?_⟩
  refine O.new fun h4 x5 O6 => ?_
  have O7 := O6.made 0 rfl (aRow (aE tell_bool)) g2 aRow_nil
  try rw [q3.2.2.2.1]
  have O9 := O7.nm
  exact roadref4_Past.l0.walk (O9.pick [0]).nm rfl k_0 r_0 rfl rfl k_0 r_0 e
def roadref4_Whole.post (W : Nat → Prop) (h0 m0 : Heap) (r : Bool) (v : Value) (h : Heap) : Prop := ∃ m , Hold W h0 m0 h m [] ∧ v = .bool r
inductive roadref4_Whole.l0_k.Pt where
  | l0 (a_5 : List Bool) (a_6 : List (List Bool)) (x_15 : Int) (x_16 : Int)
  | l1 (a_5 : List Bool) (a_6 : List (List Bool)) (x_7 : Int) (x_15 : Int) (x_16 : Int) (x_19 : Int) (x_20 : Int)
noncomputable def roadref4_Whole.l0_k.body (go : (p : roadref4_Whole.l0_k.Pt) → Option (Bool)) : (p : roadref4_Whole.l0_k.Pt) → Option (Bool)
  | .l0 a_5 a_6 x_15 x_16 => if x_16 < x_15 then ((go (.l1 a_5 a_6 x_16 x_15 x_16 x_16 (0 : Int)))) else (some (true))
  | .l1 a_5 a_6 x_7 x_15 x_16 x_19 x_20 => if x_20 < x_19 then (Option.bind (gi a_5 x_7) fun y1 => if y1 = true then (Option.bind (gi a_6 x_7) fun y10 => Option.bind (gi y10 x_20) fun y20 => if y20 = true then (Option.bind (gi a_5 x_20) fun y27 => if y27 = true then ((go (.l1 a_5 a_6 x_7 x_15 x_16 x_19 (IntKind.wrap .i64 (x_20 + (1 : Int)))))) else (some (false))) else ((go (.l1 a_5 a_6 x_7 x_15 x_16 x_19 (IntKind.wrap .i64 (x_20 + (1 : Int))))))) else ((go (.l1 a_5 a_6 x_7 x_15 x_16 x_19 (IntKind.wrap .i64 (x_20 + (1 : Int))))))) else ((go (.l0 a_5 a_6 x_15 (IntKind.wrap .i64 (x_16 + (1 : Int))))))
theorem roadref4_Whole.l0_k.mono : MonoF (β := fun _ => (Bool)) roadref4_Whole.l0_k.body := fun f g hfg p => match p with
  | .l0 a_5 a_6 x_15 x_16 => LeO.ite ((hfg _)) (LeO.refl _)
  | .l1 a_5 a_6 x_7 x_15 x_16 x_19 x_20 => LeO.ite (LeO.bind (LeO.refl _) fun y1 => LeO.ite (LeO.bind (LeO.refl _) fun y10 => LeO.bind (LeO.refl _) fun y20 => LeO.ite (LeO.bind (LeO.refl _) fun y27 => LeO.ite ((hfg _)) (LeO.refl _)) ((hfg _))) ((hfg _))) ((hfg _))
noncomputable def roadref4_Whole.l0_k.go (p : roadref4_Whole.l0_k.Pt) : Option (Bool) := fixF (β := fun _ => (Bool)) roadref4_Whole.l0_k.body p
noncomputable def roadref4_Whole.l0 (a_5 : List Bool) (a_6 : List (List Bool)) (x_15 : Int) (x_16 : Int) : Option (Bool) := roadref4_Whole.l0_k.go (.l0 a_5 a_6 x_15 x_16)
noncomputable def roadref4_Whole.l1 (a_5 : List Bool) (a_6 : List (List Bool)) (x_7 : Int) (x_15 : Int) (x_16 : Int) (x_19 : Int) (x_20 : Int) : Option (Bool) := roadref4_Whole.l0_k.go (.l1 a_5 a_6 x_7 x_15 x_16 x_19 x_20)
theorem roadref4_Whole.l0_eq (a_5 : List Bool) (a_6 : List (List Bool)) (x_15 : Int) (x_16 : Int) : roadref4_Whole.l0 a_5 a_6 x_15 x_16 = if x_16 < x_15 then ((roadref4_Whole.l1 a_5 a_6 x_16 x_15 x_16 x_16 (0 : Int))) else (some (true)) := fixF_eq roadref4_Whole.l0_k.mono _
theorem roadref4_Whole.l1_eq (a_5 : List Bool) (a_6 : List (List Bool)) (x_7 : Int) (x_15 : Int) (x_16 : Int) (x_19 : Int) (x_20 : Int) : roadref4_Whole.l1 a_5 a_6 x_7 x_15 x_16 x_19 x_20 = if x_20 < x_19 then (Option.bind (gi a_5 x_7) fun y1 => if y1 = true then (Option.bind (gi a_6 x_7) fun y10 => Option.bind (gi y10 x_20) fun y20 => if y20 = true then (Option.bind (gi a_5 x_20) fun y27 => if y27 = true then ((roadref4_Whole.l1 a_5 a_6 x_7 x_15 x_16 x_19 (IntKind.wrap .i64 (x_20 + (1 : Int))))) else (some (false))) else ((roadref4_Whole.l1 a_5 a_6 x_7 x_15 x_16 x_19 (IntKind.wrap .i64 (x_20 + (1 : Int)))))) else ((roadref4_Whole.l1 a_5 a_6 x_7 x_15 x_16 x_19 (IntKind.wrap .i64 (x_20 + (1 : Int)))))) else ((roadref4_Whole.l0 a_5 a_6 x_15 (IntKind.wrap .i64 (x_16 + (1 : Int))))) := fixF_eq roadref4_Whole.l0_k.mono _
def roadref4_Whole.l0_k.I : (p : roadref4_Whole.l0_k.Pt) → (Bool) → Prop
  | .l0 a_5 a_6 x_15 x_16, r => ∀ (W : Nat → Prop) (h0 m0 h m : Heap) (A_5 : Option Addr) (n_5 c_5 : Nat) (A_6 : Option Addr) (n_6 c_6 : Nat) (O : Hold W h0 m0 h m [rR (aE tell_bool) A_5 c_5 a_5, rR (aRow (aE tell_bool)) A_6 c_6 a_6]) (ne_5 : n_5 = List.length a_5) (ne_6 : n_6 = List.length a_6), f19.l0 (roadref4_Whole.post W h0 m0 r) A_5 n_5 c_5 A_6 n_6 c_6 x_15 x_16 h
  | .l1 a_5 a_6 x_7 x_15 x_16 x_19 x_20, r => ∀ (W : Nat → Prop) (h0 m0 h m : Heap) (A_5 : Option Addr) (n_5 c_5 : Nat) (A_6 : Option Addr) (n_6 c_6 : Nat) (O : Hold W h0 m0 h m [rR (aE tell_bool) A_5 c_5 a_5, rR (aRow (aE tell_bool)) A_6 c_6 a_6]) (ne_5 : n_5 = List.length a_5) (ne_6 : n_6 = List.length a_6), f19.l1 (roadref4_Whole.post W h0 m0 r) A_5 n_5 c_5 A_6 n_6 c_6 x_7 x_15 x_16 x_19 x_20 h
set_option maxRecDepth 100000 in
theorem roadref4_Whole.l0_k.step_l0 (go : (p : roadref4_Whole.l0_k.Pt) → Option (Bool)) (ih : ∀ p r, go p = some r → roadref4_Whole.l0_k.I p r) (a_5 : List Bool) (a_6 : List (List Bool)) (x_15 : Int) (x_16 : Int) (r : Bool) (e : roadref4_Whole.l0_k.body go (.l0 a_5 a_6 x_15 x_16) = some r) : roadref4_Whole.l0_k.I (.l0 a_5 a_6 x_15 x_16) r := by
  unfold roadref4_Whole.l0_k.body at e
  intro W h0 m0 h m A_5 n_5 c_5 A_6 n_6 c_6 O ne_5 ne_6
  subst ne_5
  subst ne_6
  refine f19.l0_in ?_
  unfold f19.l0T
  refine split_dec_e e (fun c1 e => ?_) (fun c1 e => ?_)
  · exact (ih _ _ e) _ _ _ _ _ _ _ _ _ _ _ (O.pick [0, 1]).nm rfl rfl
  · cases e
    exact ⟨_, O.pick [], rfl⟩
set_option maxHeartbeats 4000000 in
set_option maxRecDepth 100000 in
theorem roadref4_Whole.l0_k.step_l1 (go : (p : roadref4_Whole.l0_k.Pt) → Option (Bool)) (ih : ∀ p r, go p = some r → roadref4_Whole.l0_k.I p r) (a_5 : List Bool) (a_6 : List (List Bool)) (x_7 : Int) (x_15 : Int) (x_16 : Int) (x_19 : Int) (x_20 : Int) (r : Bool) (e : roadref4_Whole.l0_k.body go (.l1 a_5 a_6 x_7 x_15 x_16 x_19 x_20) = some r) : roadref4_Whole.l0_k.I (.l1 a_5 a_6 x_7 x_15 x_16 x_19 x_20) r := by
  unfold roadref4_Whole.l0_k.body at e
  intro W h0 m0 h m A_5 n_5 c_5 A_6 n_6 c_6 O ne_5 ne_6
  subst ne_5
  subst ne_6
  refine f19.l1_in ?_
  unfold f19.l1T
  refine split_dec_e e (fun c42 e => ?_) (fun c42 e => ?_)
  · obtain ⟨y1, g2, e⟩ := bind_e e
    refine (O.os 0 rfl).addr rfl g2 fun a3 cs4 ha5 hc6 he7 => ?_
    obtain rfl : cs4 = [(Value.bool y1)] := he7
    refine ⟨_, ld0 (Sub.refl _) hc6 rfl, _, rfl, ?_⟩
    refine split_any_e e (fun c41 e => ?_) (fun c41 e => ?_)
    · obtain ⟨y10, g11, e⟩ := bind_e e
      refine O.adr 1 rfl rfl g11 fun a8 ha9 => ?_
      obtain ⟨hs12, O13⟩ := O.openX 1 rfl g11
      obtain ⟨A14, c15, hx16, hc17, k18⟩ := O13.hdX 1 rfl ha9 g11
      refine ⟨_, ld0 (Sub.refl _) hc17 rfl, _, _, _, rfl, ?_⟩
      obtain ⟨y20, g21, e⟩ := bind_e e
      refine (O13.xos 1 rfl hx16 g11).addr rfl g21 fun a22 cs23 ha24 hc25 he26 => ?_
      obtain rfl : cs23 = [(Value.bool y20)] := he26
      refine ⟨_, ld0 (Sub.refl _) hc25 rfl, _, rfl, ?_⟩
      refine split_any_e e (fun c40 e => ?_) (fun c40 e => ?_)
      · obtain ⟨y27, g28, e⟩ := bind_e e
        refine (O13.os 0 rfl).addr rfl g28 fun a29 cs30 ha31 hc32 he33 => ?_
        obtain rfl : cs30 = [(Value.bool y27)] := he33
        refine ⟨_, ld0 (Sub.refl _) hc32 rfl, _, rfl, ?_⟩
        refine split_not ?_
        refine split_any_e e (fun c37 e => ?_) (fun c37 e => ?_)
        · have O34 := O13.closeX 1 rfl
          have O35 := O34.nm
          exact (ih _ _ e) _ _ _ _ _ _ _ _ _ _ _ (O35.pick [0, 1]).nm rfl rfl
        · have O36 := O13.nm
          cases e
          exact ⟨_, O36.pick [], rfl⟩
      · have O38 := O13.closeX 1 rfl
        have O39 := O38.nm
        exact (ih _ _ e) _ _ _ _ _ _ _ _ _ _ _ (O39.pick [0, 1]).nm rfl rfl
    · exact (ih _ _ e) _ _ _ _ _ _ _ _ _ _ _ (O.pick [0, 1]).nm rfl rfl
  · exact (ih _ _ e) _ _ _ _ _ _ _ _ _ _ _ (O.pick [0, 1]).nm rfl rfl
theorem roadref4_Whole.l0_k.all {p : roadref4_Whole.l0_k.Pt} {r : (Bool)} (e : roadref4_Whole.l0_k.go p = some r) : roadref4_Whole.l0_k.I p r := fixF_ind (β := fun _ => (Bool)) roadref4_Whole.l0_k.mono (I := roadref4_Whole.l0_k.I) (fun go ih p r e => match p with
  | .l0 a_5 a_6 x_15 x_16 => roadref4_Whole.l0_k.step_l0 go ih a_5 a_6 x_15 x_16 r e
  | .l1 a_5 a_6 x_7 x_15 x_16 x_19 x_20 => roadref4_Whole.l0_k.step_l1 go ih a_5 a_6 x_7 x_15 x_16 x_19 x_20 r e
  ) e
theorem roadref4_Whole.l0.walk {W : Nat → Prop} {h0 m0 h m : Heap} {A_5 : Option Addr} {n_5 c_5 : Nat} {A_6 : Option Addr} {n_6 c_6 : Nat} {a_5 : List Bool} {a_6 : List (List Bool)} {x_15 : Int} {x_16 : Int} (O : Hold W h0 m0 h m [rR (aE tell_bool) A_5 c_5 a_5, rR (aRow (aE tell_bool)) A_6 c_6 a_6]) (ne_5 : n_5 = List.length a_5) (ne_6 : n_6 = List.length a_6) {r : Bool} (e : roadref4_Whole.l0 a_5 a_6 x_15 x_16 = some r) : f19.l0 (roadref4_Whole.post W h0 m0 r) A_5 n_5 c_5 A_6 n_6 c_6 x_15 x_16 h := roadref4_Whole.l0_k.all (p := .l0 a_5 a_6 x_15 x_16) e W h0 m0 h m A_5 n_5 c_5 A_6 n_6 c_6 O ne_5 ne_6
noncomputable def roadref4_Whole (a_0 : List T_api_Event) (a_1 : List Int) : Option (Bool) :=
  Option.bind (roadref4_In a_0 a_1) fun y1 => Option.bind (roadref4_Past a_0) fun y13 => (roadref4_Whole.l0 y1 y13 (((List.length a_0) : Nat) : Int) (0 : Int))
set_option maxRecDepth 100000 in
theorem roadref4_Whole.walk {W : Nat → Prop} {h m : Heap} {A_0 : Option Addr} {n_0 c_0 : Nat} {A_1 : Option Addr} {n_1 c_1 : Nat} {a_0 : List T_api_Event} {a_1 : List Int} (O : Hold W h m h m []) (ne_0 : n_0 = List.length a_0) (k_0 : List.length a_0 ≤ c_0) (r_0 : Rd 3 T_api_Event.E m A_0 a_0) (ne_1 : n_1 = List.length a_1) (k_1 : List.length a_1 ≤ c_1) (r_1 : Rd 1 (eInt .i64) m A_1 a_1) {r : Bool} (e : roadref4_Whole a_0 a_1 = some r) : Run Try.prog 19 #[Value.slice A_0 n_0 c_0, Value.slice A_1 n_1 c_1] h (roadref4_Whole.post W h m r) := by
  unfold roadref4_Whole at e
  subst ne_0
  subst ne_1
  refine f19.run ?_
  unfold f19.runT
  obtain ⟨y1, g2, e⟩ := bind_e e
  refine (roadref4_In.walk (Hold.start (W := No) O.s) rfl k_0 r_0 rfl k_1 r_1 g2).mono ?_
  rintro _ h3 ⟨m4, A7, n8, c9, Q5, rfl, ne10⟩
  have O12 := Hold.nm (O.retC Q5 (vfs_cons (rR_vf (aE_vf (fun _ _ _ _ h => h))) vfs_nil))
  subst ne10
  refine ⟨_, _, _, rfl, ?_⟩
  obtain ⟨y13, g14, e⟩ := bind_e e
  refine (roadref4_Past.walk (Hold.start (W := No) O12.s) rfl k_0 r_0 g14).mono ?_
  rintro _ h15 ⟨m16, A19, n20, c21, Q17, rfl, ne22⟩
  have O24 := Hold.nm (O12.ret Q17)
  subst ne22
  refine ⟨_, _, _, rfl, ?_⟩
  exact roadref4_Whole.l0.walk (O24.pick [0, 1]).nm rfl rfl e
def roadref4_Least.post (W : Nat → Prop) (h0 m0 : Heap) (r : (List Int)) (v : Value) (h : Heap) : Prop := ∃ m A0 n0 c0, Hold W h0 m0 h m [rR (aE (tell_int .i64)) A0 c0 r] ∧ v = .slice A0 n0 c0 ∧ n0 = List.length r
inductive roadref4_Least.l0_k.Pt where
  | l0 (a_0 : List T_api_Event) (a_5 : List Bool) (a_6 : List (List Bool)) (a_7 : List Int) (a_18 : List T_api_Event) (x_19 : Int) (x_20 : Int)
  | l1 (a_0 : List T_api_Event) (a_5 : List Bool) (a_6 : List (List Bool)) (a_7 : List Int) (x_8 : Int) (y_9 : T_api_Event) (b_10 : Bool) (x_11 : Int) (a_18 : List T_api_Event) (x_19 : Int) (x_20 : Int)
  | j0 (a_0 : List T_api_Event) (a_5 : List Bool) (a_6 : List (List Bool)) (a_7 : List Int) (x_8 : Int) (y_9 : T_api_Event) (b_10 : Bool) (x_11 : Int) (a_18 : List T_api_Event) (x_19 : Int) (x_20 : Int)
noncomputable def roadref4_Least.l0_k.body (go : (p : roadref4_Least.l0_k.Pt) → Option ((List Int))) : (p : roadref4_Least.l0_k.Pt) → Option ((List Int))
  | .l0 a_0 a_5 a_6 a_7 a_18 x_19 x_20 => if x_20 < x_19 then (Option.bind (gi a_18 x_20) fun y1 => Option.bind (gi a_5 x_20) fun y14 => (go (.l1 a_0 a_5 a_6 a_7 x_20 y1 y14 (IntKind.wrap .i64 (x_20 + (1 : Int))) a_18 x_19 x_20))) else (some (a_7))
  | .l1 a_0 a_5 a_6 a_7 x_8 y_9 b_10 x_11 a_18 x_19 x_20 => if x_11 < (((List.length a_0) : Nat) : Int) then (if b_10 = true then ((go (.j0 a_0 a_5 a_6 a_7 x_8 y_9 true x_11 a_18 x_19 x_20))) else (Option.bind (gi a_5 x_11) fun y1 => if y1 = true then (Option.bind (gi a_6 x_11) fun y10 => Option.bind (gi y10 x_8) fun y20 => (go (.j0 a_0 a_5 a_6 a_7 x_8 y_9 y20 x_11 a_18 x_19 x_20))) else ((go (.j0 a_0 a_5 a_6 a_7 x_8 y_9 false x_11 a_18 x_19 x_20))))) else (if b_10 = true then (Option.bind (gi a_7 y_9.Place) fun y31 => Option.bind (gi a_7 y_9.Place) fun y38 => Option.bind (some (List.set a_7 (Int.toNat y_9.Place) (IntKind.wrap .i64 (y31 + (1 : Int))))) fun l47 => (go (.l0 a_0 a_5 a_6 l47 a_18 x_19 (IntKind.wrap .i64 (x_20 + (1 : Int)))))) else ((go (.l0 a_0 a_5 a_6 a_7 a_18 x_19 (IntKind.wrap .i64 (x_20 + (1 : Int)))))))
  | .j0 a_0 a_5 a_6 a_7 x_8 y_9 b_10 x_11 a_18 x_19 x_20 => (go (.l1 a_0 a_5 a_6 a_7 x_8 y_9 b_10 (IntKind.wrap .i64 (x_11 + (1 : Int))) a_18 x_19 x_20))
theorem roadref4_Least.l0_k.mono : MonoF (β := fun _ => ((List Int))) roadref4_Least.l0_k.body := fun f g hfg p => match p with
  | .l0 a_0 a_5 a_6 a_7 a_18 x_19 x_20 => LeO.ite (LeO.bind (LeO.refl _) fun y1 => LeO.bind (LeO.refl _) fun y14 => (hfg _)) (LeO.refl _)
  | .l1 a_0 a_5 a_6 a_7 x_8 y_9 b_10 x_11 a_18 x_19 x_20 => LeO.ite (LeO.ite ((hfg _)) (LeO.bind (LeO.refl _) fun y1 => LeO.ite (LeO.bind (LeO.refl _) fun y10 => LeO.bind (LeO.refl _) fun y20 => (hfg _)) ((hfg _)))) (LeO.ite (LeO.bind (LeO.refl _) fun y31 => LeO.bind (LeO.refl _) fun y38 => LeO.bind (LeO.refl _) fun l47 => (hfg _)) ((hfg _)))
  | .j0 a_0 a_5 a_6 a_7 x_8 y_9 b_10 x_11 a_18 x_19 x_20 => (hfg _)
noncomputable def roadref4_Least.l0_k.go (p : roadref4_Least.l0_k.Pt) : Option ((List Int)) := fixF (β := fun _ => ((List Int))) roadref4_Least.l0_k.body p
noncomputable def roadref4_Least.l0 (a_0 : List T_api_Event) (a_5 : List Bool) (a_6 : List (List Bool)) (a_7 : List Int) (a_18 : List T_api_Event) (x_19 : Int) (x_20 : Int) : Option ((List Int)) := roadref4_Least.l0_k.go (.l0 a_0 a_5 a_6 a_7 a_18 x_19 x_20)
noncomputable def roadref4_Least.l1 (a_0 : List T_api_Event) (a_5 : List Bool) (a_6 : List (List Bool)) (a_7 : List Int) (x_8 : Int) (y_9 : T_api_Event) (b_10 : Bool) (x_11 : Int) (a_18 : List T_api_Event) (x_19 : Int) (x_20 : Int) : Option ((List Int)) := roadref4_Least.l0_k.go (.l1 a_0 a_5 a_6 a_7 x_8 y_9 b_10 x_11 a_18 x_19 x_20)
noncomputable def roadref4_Least.j0 (a_0 : List T_api_Event) (a_5 : List Bool) (a_6 : List (List Bool)) (a_7 : List Int) (x_8 : Int) (y_9 : T_api_Event) (b_10 : Bool) (x_11 : Int) (a_18 : List T_api_Event) (x_19 : Int) (x_20 : Int) : Option ((List Int)) := roadref4_Least.l0_k.go (.j0 a_0 a_5 a_6 a_7 x_8 y_9 b_10 x_11 a_18 x_19 x_20)
theorem roadref4_Least.l0_eq (a_0 : List T_api_Event) (a_5 : List Bool) (a_6 : List (List Bool)) (a_7 : List Int) (a_18 : List T_api_Event) (x_19 : Int) (x_20 : Int) : roadref4_Least.l0 a_0 a_5 a_6 a_7 a_18 x_19 x_20 = if x_20 < x_19 then (Option.bind (gi a_18 x_20) fun y1 => Option.bind (gi a_5 x_20) fun y14 => (roadref4_Least.l1 a_0 a_5 a_6 a_7 x_20 y1 y14 (IntKind.wrap .i64 (x_20 + (1 : Int))) a_18 x_19 x_20)) else (some (a_7)) := fixF_eq roadref4_Least.l0_k.mono _
theorem roadref4_Least.l1_eq (a_0 : List T_api_Event) (a_5 : List Bool) (a_6 : List (List Bool)) (a_7 : List Int) (x_8 : Int) (y_9 : T_api_Event) (b_10 : Bool) (x_11 : Int) (a_18 : List T_api_Event) (x_19 : Int) (x_20 : Int) : roadref4_Least.l1 a_0 a_5 a_6 a_7 x_8 y_9 b_10 x_11 a_18 x_19 x_20 = if x_11 < (((List.length a_0) : Nat) : Int) then (if b_10 = true then ((roadref4_Least.j0 a_0 a_5 a_6 a_7 x_8 y_9 true x_11 a_18 x_19 x_20)) else (Option.bind (gi a_5 x_11) fun y1 => if y1 = true then (Option.bind (gi a_6 x_11) fun y10 => Option.bind (gi y10 x_8) fun y20 => (roadref4_Least.j0 a_0 a_5 a_6 a_7 x_8 y_9 y20 x_11 a_18 x_19 x_20)) else ((roadref4_Least.j0 a_0 a_5 a_6 a_7 x_8 y_9 false x_11 a_18 x_19 x_20)))) else (if b_10 = true then (Option.bind (gi a_7 y_9.Place) fun y31 => Option.bind (gi a_7 y_9.Place) fun y38 => Option.bind (some (List.set a_7 (Int.toNat y_9.Place) (IntKind.wrap .i64 (y31 + (1 : Int))))) fun l47 => (roadref4_Least.l0 a_0 a_5 a_6 l47 a_18 x_19 (IntKind.wrap .i64 (x_20 + (1 : Int))))) else ((roadref4_Least.l0 a_0 a_5 a_6 a_7 a_18 x_19 (IntKind.wrap .i64 (x_20 + (1 : Int)))))) := fixF_eq roadref4_Least.l0_k.mono _
theorem roadref4_Least.j0_eq (a_0 : List T_api_Event) (a_5 : List Bool) (a_6 : List (List Bool)) (a_7 : List Int) (x_8 : Int) (y_9 : T_api_Event) (b_10 : Bool) (x_11 : Int) (a_18 : List T_api_Event) (x_19 : Int) (x_20 : Int) : roadref4_Least.j0 a_0 a_5 a_6 a_7 x_8 y_9 b_10 x_11 a_18 x_19 x_20 = (roadref4_Least.l1 a_0 a_5 a_6 a_7 x_8 y_9 b_10 (IntKind.wrap .i64 (x_11 + (1 : Int))) a_18 x_19 x_20) := fixF_eq roadref4_Least.l0_k.mono _
def roadref4_Least.l0_k.I : (p : roadref4_Least.l0_k.Pt) → ((List Int)) → Prop
  | .l0 a_0 a_5 a_6 a_7 a_18 x_19 x_20, r => ∀ (W : Nat → Prop) (h0 m0 h m : Heap) (A_0 : Option Addr) (n_0 c_0 : Nat) (A_5 : Option Addr) (n_5 c_5 : Nat) (A_6 : Option Addr) (n_6 c_6 : Nat) (A_7 : Option Addr) (n_7 c_7 : Nat) (A_18 : Option Addr) (n_18 c_18 : Nat) (O : Hold W h0 m0 h m [rR (aE tell_bool) A_5 c_5 a_5, rR (aRow (aE tell_bool)) A_6 c_6 a_6, rR (aE (tell_int .i64)) A_7 c_7 a_7]) (ne_0 : n_0 = List.length a_0) (k_0 : List.length a_0 ≤ c_0) (r_0 : Rd 3 T_api_Event.E m A_0 a_0) (ne_5 : n_5 = List.length a_5) (ne_6 : n_6 = List.length a_6) (ne_7 : n_7 = List.length a_7) (ne_18 : n_18 = List.length a_18) (k_18 : List.length a_18 ≤ c_18) (r_18 : Rd 3 T_api_Event.E m A_18 a_18), f20.l0 (roadref4_Least.post W h0 m0 r) A_0 n_0 c_0 A_5 n_5 c_5 A_6 n_6 c_6 A_7 n_7 c_7 A_18 n_18 c_18 x_19 x_20 h
  | .l1 a_0 a_5 a_6 a_7 x_8 y_9 b_10 x_11 a_18 x_19 x_20, r => ∀ (W : Nat → Prop) (h0 m0 h m : Heap) (A_0 : Option Addr) (n_0 c_0 : Nat) (A_5 : Option Addr) (n_5 c_5 : Nat) (A_6 : Option Addr) (n_6 c_6 : Nat) (A_7 : Option Addr) (n_7 c_7 : Nat) (bk_9 : Nat) (cs_9 : List Value) (A_18 : Option Addr) (n_18 c_18 : Nat) (O : Hold W h0 m0 h m [rR (aE tell_bool) A_5 c_5 a_5, rR (aRow (aE tell_bool)) A_6 c_6 a_6, rR (aE (tell_int .i64)) A_7 c_7 a_7, rV bk_9 36 cs_9]) (ne_0 : n_0 = List.length a_0) (k_0 : List.length a_0 ≤ c_0) (r_0 : Rd 3 T_api_Event.E m A_0 a_0) (ne_5 : n_5 = List.length a_5) (ne_6 : n_6 = List.length a_6) (ne_7 : n_7 = List.length a_7) (e_9 : T_api_Event.E m y_9 cs_9) (ne_18 : n_18 = List.length a_18) (k_18 : List.length a_18 ≤ c_18) (r_18 : Rd 3 T_api_Event.E m A_18 a_18), f20.l1 (roadref4_Least.post W h0 m0 r) A_0 n_0 c_0 A_5 n_5 c_5 A_6 n_6 c_6 A_7 n_7 c_7 x_8 (⟨bk_9, 0, none⟩ : Addr) b_10 x_11 A_18 n_18 c_18 x_19 x_20 h
  | .j0 a_0 a_5 a_6 a_7 x_8 y_9 b_10 x_11 a_18 x_19 x_20, r => ∀ (W : Nat → Prop) (h0 m0 h m : Heap) (A_0 : Option Addr) (n_0 c_0 : Nat) (A_5 : Option Addr) (n_5 c_5 : Nat) (A_6 : Option Addr) (n_6 c_6 : Nat) (A_7 : Option Addr) (n_7 c_7 : Nat) (bk_9 : Nat) (cs_9 : List Value) (A_18 : Option Addr) (n_18 c_18 : Nat) (O : Hold W h0 m0 h m [rR (aE tell_bool) A_5 c_5 a_5, rR (aRow (aE tell_bool)) A_6 c_6 a_6, rR (aE (tell_int .i64)) A_7 c_7 a_7, rV bk_9 36 cs_9]) (ne_0 : n_0 = List.length a_0) (k_0 : List.length a_0 ≤ c_0) (r_0 : Rd 3 T_api_Event.E m A_0 a_0) (ne_5 : n_5 = List.length a_5) (ne_6 : n_6 = List.length a_6) (ne_7 : n_7 = List.length a_7) (e_9 : T_api_Event.E m y_9 cs_9) (ne_18 : n_18 = List.length a_18) (k_18 : List.length a_18 ≤ c_18) (r_18 : Rd 3 T_api_Event.E m A_18 a_18), f20.j0 (roadref4_Least.post W h0 m0 r) A_0 n_0 c_0 A_5 n_5 c_5 A_6 n_6 c_6 A_7 n_7 c_7 x_8 (⟨bk_9, 0, none⟩ : Addr) b_10 x_11 A_18 n_18 c_18 x_19 x_20 h
set_option maxRecDepth 100000 in
theorem roadref4_Least.l0_k.step_l0 (go : (p : roadref4_Least.l0_k.Pt) → Option ((List Int))) (ih : ∀ p r, go p = some r → roadref4_Least.l0_k.I p r) (a_0 : List T_api_Event) (a_5 : List Bool) (a_6 : List (List Bool)) (a_7 : List Int) (a_18 : List T_api_Event) (x_19 : Int) (x_20 : Int) (r : (List Int)) (e : roadref4_Least.l0_k.body go (.l0 a_0 a_5 a_6 a_7 a_18 x_19 x_20) = some r) : roadref4_Least.l0_k.I (.l0 a_0 a_5 a_6 a_7 a_18 x_19 x_20) r := by
  unfold roadref4_Least.l0_k.body at e
  intro W h0 m0 h m A_0 n_0 c_0 A_5 n_5 c_5 A_6 n_6 c_6 A_7 n_7 c_7 A_18 n_18 c_18 O ne_0 k_0 r_0 ne_5 ne_6 ne_7 ne_18 k_18 r_18
  subst ne_0
  subst ne_5
  subst ne_6
  subst ne_7
  subst ne_18
  refine f20.l0_in ?_
  unfold f20.l0T
  refine split_dec_e e (fun c22 e => ?_) (fun c22 e => ?_)
  · obtain ⟨y1, g2, e⟩ := bind_e e
    refine r_18.addr rfl g2 fun a3 cs4 ha5 hc6 he7 => ?_
    refine ⟨_, ldAn O.s hc6 rfl, ?_⟩
    refine O.new fun h8 x9 O10 => ?_
    refine ⟨_, rfl, (T_api_Event.T.len _ _ _ he7), ?_⟩
    refine O10.stA 3 rfl (T_api_Event.T.len _ _ _ he7) (T_api_Event.T.flat _ _ _ he7) fun h12 O13 => ?_
    obtain ⟨y14, g15, e⟩ := bind_e e
    refine (O13.os 0 rfl).addr rfl g15 fun a16 cs17 ha18 hc19 he20 => ?_
    obtain rfl : cs17 = [(Value.bool y14)] := he20
    refine ⟨_, ld0 (Sub.refl _) hc19 rfl, _, rfl, ?_⟩
    have O21 := O13.nm
    exact (ih _ _ e) _ _ _ _ _ _ _ _ _ _ _ _ _ _ _ _ _ _ _ _ _ _ (O21.pick [0, 1, 2, 3]).nm rfl k_0 r_0 rfl rfl rfl he7 rfl k_18 r_18
  · cases e
    exact ⟨_, _, _, _, O.pick [2], rfl, rfl⟩
set_option maxHeartbeats 4000000 in
set_option maxRecDepth 100000 in
theorem roadref4_Least.l0_k.step_l1 (go : (p : roadref4_Least.l0_k.Pt) → Option ((List Int))) (ih : ∀ p r, go p = some r → roadref4_Least.l0_k.I p r) (a_0 : List T_api_Event) (a_5 : List Bool) (a_6 : List (List Bool)) (a_7 : List Int) (x_8 : Int) (y_9 : T_api_Event) (b_10 : Bool) (x_11 : Int) (a_18 : List T_api_Event) (x_19 : Int) (x_20 : Int) (r : (List Int)) (e : roadref4_Least.l0_k.body go (.l1 a_0 a_5 a_6 a_7 x_8 y_9 b_10 x_11 a_18 x_19 x_20) = some r) : roadref4_Least.l0_k.I (.l1 a_0 a_5 a_6 a_7 x_8 y_9 b_10 x_11 a_18 x_19 x_20) r := by
  unfold roadref4_Least.l0_k.body at e
  intro W h0 m0 h m A_0 n_0 c_0 A_5 n_5 c_5 A_6 n_6 c_6 A_7 n_7 c_7 bk_9 cs_9 A_18 n_18 c_18 O ne_0 k_0 r_0 ne_5 ne_6 ne_7 e_9 ne_18 k_18 r_18
  subst ne_0
  subst ne_5
  subst ne_6
  subst ne_7
  subst ne_18
  refine f20.l1_in ?_
  unfold f20.l1T
  refine split_dec_e e (fun c51 e => ?_) (fun c51 e => ?_)
  · refine split_any_e e (fun c30 e => ?_) (fun c30 e => ?_)
    · exact (ih _ _ e) _ _ _ _ _ _ _ _ _ _ _ _ _ _ _ _ _ _ _ _ _ _ (O.pick [0, 1, 2, 3]).nm rfl k_0 r_0 rfl rfl rfl e_9 rfl k_18 r_18
    · obtain ⟨y1, g2, e⟩ := bind_e e
      refine (O.os 0 rfl).addr rfl g2 fun a3 cs4 ha5 hc6 he7 => ?_
      obtain rfl : cs4 = [(Value.bool y1)] := he7
      refine ⟨_, ld0 (Sub.refl _) hc6 rfl, _, rfl, ?_⟩
      refine split_any_e e (fun c29 e => ?_) (fun c29 e => ?_)
      · obtain ⟨y10, g11, e⟩ := bind_e e
        refine O.adr 1 rfl rfl g11 fun a8 ha9 => ?_
        obtain ⟨hs12, O13⟩ := O.openX 1 rfl g11
        obtain ⟨A14, c15, hx16, hc17, k18⟩ := O13.hdX 1 rfl ha9 g11
        refine ⟨_, ld0 (Sub.refl _) hc17 rfl, _, _, _, rfl, ?_⟩
        obtain ⟨y20, g21, e⟩ := bind_e e
        refine (O13.xos 1 rfl hx16 g11).addr rfl g21 fun a22 cs23 ha24 hc25 he26 => ?_
        obtain rfl : cs23 = [(Value.bool y20)] := he26
        refine ⟨_, ld0 (Sub.refl _) hc25 rfl, _, rfl, ?_⟩
        have O27 := O13.closeX 1 rfl
        have O28 := O27.nm
        exact (ih _ _ e) _ _ _ _ _ _ _ _ _ _ _ _ _ _ _ _ _ _ _ _ _ _ (O28.pick [0, 1, 2, 3]).nm rfl k_0 r_0 rfl rfl rfl e_9 rfl k_18 r_18
      · exact (ih _ _ e) _ _ _ _ _ _ _ _ _ _ _ _ _ _ _ _ _ _ _ _ _ _ (O.pick [0, 1, 2, 3]).nm rfl k_0 r_0 rfl rfl rfl e_9 rfl k_18 r_18
  · refine split_any_e e (fun c50 e => ?_) (fun c50 e => ?_)
    · refine ⟨_, ld0 (Sub.refl _) (O.all 3 rfl) (T_api_Event.g0 e_9), _, rfl, ?_⟩
      obtain ⟨y31, g32, e⟩ := bind_e e
      refine (O.os 2 rfl).addr rfl g32 fun a33 cs34 ha35 hc36 he37 => ?_
      obtain rfl : cs34 = [(Value.int .i64 y31)] := he37
      refine ⟨_, ld0 (Sub.refl _) hc36 rfl, _, rfl, ?_⟩
      obtain ⟨y38, g39, e⟩ := bind_e e
      refine (O.os 2 rfl).addr rfl g39 fun a40 cs41 ha42 hc43 he44 => ?_
      obtain rfl : cs41 = [(Value.int .i64 y38)] := he44
      obtain ⟨l47, g48, e⟩ := bind_e e
      replace g48 := Option.some.inj g48
      refine O.elst0 2 rfl g39 ha42 hc43 (by decide) (y' := (IntKind.wrap .i64 (y31 + (1 : Int)))) rfl trivial g48 fun h45 O46 => ?_
      have O49 := O46.nm
      exact (ih _ _ e) _ _ _ _ _ _ _ _ _ _ _ _ _ _ _ _ _ _ _ _ (O49.pick [0, 1, 2]).nm rfl k_0 r_0 rfl rfl (lset' g48) rfl k_18 r_18
    · exact (ih _ _ e) _ _ _ _ _ _ _ _ _ _ _ _ _ _ _ _ _ _ _ _ (O.pick [0, 1, 2]).nm rfl k_0 r_0 rfl rfl rfl rfl k_18 r_18
set_option maxRecDepth 100000 in
theorem roadref4_Least.l0_k.step_j0 (go : (p : roadref4_Least.l0_k.Pt) → Option ((List Int))) (ih : ∀ p r, go p = some r → roadref4_Least.l0_k.I p r) (a_0 : List T_api_Event) (a_5 : List Bool) (a_6 : List (List Bool)) (a_7 : List Int) (x_8 : Int) (y_9 : T_api_Event) (b_10 : Bool) (x_11 : Int) (a_18 : List T_api_Event) (x_19 : Int) (x_20 : Int) (r : (List Int)) (e : roadref4_Least.l0_k.body go (.j0 a_0 a_5 a_6 a_7 x_8 y_9 b_10 x_11 a_18 x_19 x_20) = some r) : roadref4_Least.l0_k.I (.j0 a_0 a_5 a_6 a_7 x_8 y_9 b_10 x_11 a_18 x_19 x_20) r := by
  unfold roadref4_Least.l0_k.body at e
  intro W h0 m0 h m A_0 n_0 c_0 A_5 n_5 c_5 A_6 n_6 c_6 A_7 n_7 c_7 bk_9 cs_9 A_18 n_18 c_18 O ne_0 k_0 r_0 ne_5 ne_6 ne_7 e_9 ne_18 k_18 r_18
  subst ne_0
  subst ne_5
  subst ne_6
  subst ne_7
  subst ne_18
  refine f20.j0_in ?_
  unfold f20.j0T
  exact (ih _ _ e) _ _ _ _ _ _ _ _ _ _ _ _ _ _ _ _ _ _ _ _ _ _ (O.pick [0, 1, 2, 3]).nm rfl k_0 r_0 rfl rfl rfl e_9 rfl k_18 r_18
theorem roadref4_Least.l0_k.all {p : roadref4_Least.l0_k.Pt} {r : ((List Int))} (e : roadref4_Least.l0_k.go p = some r) : roadref4_Least.l0_k.I p r := fixF_ind (β := fun _ => ((List Int))) roadref4_Least.l0_k.mono (I := roadref4_Least.l0_k.I) (fun go ih p r e => match p with
  | .l0 a_0 a_5 a_6 a_7 a_18 x_19 x_20 => roadref4_Least.l0_k.step_l0 go ih a_0 a_5 a_6 a_7 a_18 x_19 x_20 r e
  | .l1 a_0 a_5 a_6 a_7 x_8 y_9 b_10 x_11 a_18 x_19 x_20 => roadref4_Least.l0_k.step_l1 go ih a_0 a_5 a_6 a_7 x_8 y_9 b_10 x_11 a_18 x_19 x_20 r e
  | .j0 a_0 a_5 a_6 a_7 x_8 y_9 b_10 x_11 a_18 x_19 x_20 => roadref4_Least.l0_k.step_j0 go ih a_0 a_5 a_6 a_7 x_8 y_9 b_10 x_11 a_18 x_19 x_20 r e
  ) e
theorem roadref4_Least.l0.walk {W : Nat → Prop} {h0 m0 h m : Heap} {A_0 : Option Addr} {n_0 c_0 : Nat} {A_5 : Option Addr} {n_5 c_5 : Nat} {A_6 : Option Addr} {n_6 c_6 : Nat} {A_7 : Option Addr} {n_7 c_7 : Nat} {A_18 : Option Addr} {n_18 c_18 : Nat} {a_0 : List T_api_Event} {a_5 : List Bool} {a_6 : List (List Bool)} {a_7 : List Int} {a_18 : List T_api_Event} {x_19 : Int} {x_20 : Int} (O : Hold W h0 m0 h m [rR (aE tell_bool) A_5 c_5 a_5, rR (aRow (aE tell_bool)) A_6 c_6 a_6, rR (aE (tell_int .i64)) A_7 c_7 a_7]) (ne_0 : n_0 = List.length a_0) (k_0 : List.length a_0 ≤ c_0) (r_0 : Rd 3 T_api_Event.E m A_0 a_0) (ne_5 : n_5 = List.length a_5) (ne_6 : n_6 = List.length a_6) (ne_7 : n_7 = List.length a_7) (ne_18 : n_18 = List.length a_18) (k_18 : List.length a_18 ≤ c_18) (r_18 : Rd 3 T_api_Event.E m A_18 a_18) {r : (List Int)} (e : roadref4_Least.l0 a_0 a_5 a_6 a_7 a_18 x_19 x_20 = some r) : f20.l0 (roadref4_Least.post W h0 m0 r) A_0 n_0 c_0 A_5 n_5 c_5 A_6 n_6 c_6 A_7 n_7 c_7 A_18 n_18 c_18 x_19 x_20 h := roadref4_Least.l0_k.all (p := .l0 a_0 a_5 a_6 a_7 a_18 x_19 x_20) e W h0 m0 h m A_0 n_0 c_0 A_5 n_5 c_5 A_6 n_6 c_6 A_7 n_7 c_7 A_18 n_18 c_18 O ne_0 k_0 r_0 ne_5 ne_6 ne_7 ne_18 k_18 r_18
noncomputable def roadref4_Least (a_0 : List T_api_Event) (a_1 : List Int) : Option ((List Int)) :=
  Option.bind (roadref4_In a_0 a_1) fun y1 => Option.bind (roadref4_Past a_0) fun y13 => Option.bind (mks 8 (8 : Int) (0 : Int)) fun l25 => (roadref4_Least.l0 a_0 y1 y13 l25 a_0 (((List.length a_0) : Nat) : Int) (0 : Int))
set_option maxRecDepth 100000 in
theorem roadref4_Least.walk {W : Nat → Prop} {h m : Heap} {A_0 : Option Addr} {n_0 c_0 : Nat} {A_1 : Option Addr} {n_1 c_1 : Nat} {a_0 : List T_api_Event} {a_1 : List Int} (O : Hold W h m h m []) (ne_0 : n_0 = List.length a_0) (k_0 : List.length a_0 ≤ c_0) (r_0 : Rd 3 T_api_Event.E m A_0 a_0) (ne_1 : n_1 = List.length a_1) (k_1 : List.length a_1 ≤ c_1) (r_1 : Rd 1 (eInt .i64) m A_1 a_1) {r : (List Int)} (e : roadref4_Least a_0 a_1 = some r) : Run Try.prog 20 #[Value.slice A_0 n_0 c_0, Value.slice A_1 n_1 c_1] h (roadref4_Least.post W h m r) := by
  unfold roadref4_Least at e
  subst ne_0
  subst ne_1
  refine f20.run ?_
  unfold f20.runT
  obtain ⟨y1, g2, e⟩ := bind_e e
  refine (roadref4_In.walk (Hold.start (W := No) O.s) rfl k_0 r_0 rfl k_1 r_1 g2).mono ?_
  rintro _ h3 ⟨m4, A7, n8, c9, Q5, rfl, ne10⟩
  have O12 := Hold.nm (O.retC Q5 (vfs_cons (rR_vf (aE_vf (fun _ _ _ _ h => h))) vfs_nil))
  subst ne10
  refine ⟨_, _, _, rfl, ?_⟩
  obtain ⟨y13, g14, e⟩ := bind_e e
  refine (roadref4_Past.walk (Hold.start (W := No) O12.s) rfl k_0 r_0 g14).mono ?_
  rintro _ h15 ⟨m16, A19, n20, c21, Q17, rfl, ne22⟩
  have O24 := Hold.nm (O12.ret Q17)
  subst ne22
  refine ⟨_, _, _, rfl, ?_⟩
  obtain ⟨l25, g26, e⟩ := bind_e e
  have q27 := mks_e g26
  refine ⟨q27.1, Int.le_refl _, q27.2.1, q27.2.2.1, ?_⟩
  refine O24.new fun h28 x29 O30 => ?_
  have O31 := O30.made 2 rfl (aE (tell_int .i64)) g26 ⟨rfl, rfl⟩
  try rw [q27.2.2.2.1]
  have O33 := O31.nm
  exact roadref4_Least.l0.walk (O33.pick [0, 1, 2]).nm rfl k_0 (r_0.sub T_api_Event.T Q17.S.up) rfl rfl rfl rfl k_0 (r_0.sub T_api_Event.T Q17.S.up) e
def roadref4_Most.post (W : Nat → Prop) (h0 m0 : Heap) (r : (List Int)) (v : Value) (h : Heap) : Prop := ∃ m A0 n0 c0, Hold W h0 m0 h m [rR (aE (tell_int .i64)) A0 c0 r] ∧ v = .slice A0 n0 c0 ∧ n0 = List.length r
inductive roadref4_Most.l0_k.Pt where
  | l0 (a_5 : List Bool) (a_6 : List (List Bool)) (a_7 : List Int) (a_18 : List T_api_Event) (x_19 : Int) (x_20 : Int)
  | l1 (a_5 : List Bool) (a_6 : List (List Bool)) (a_7 : List Int) (x_8 : Int) (y_9 : T_api_Event) (b_10 : Bool) (a_18 : List T_api_Event) (x_19 : Int) (x_20 : Int) (x_29 : Int) (x_30 : Int)
noncomputable def roadref4_Most.l0_k.body (go : (p : roadref4_Most.l0_k.Pt) → Option ((List Int))) : (p : roadref4_Most.l0_k.Pt) → Option ((List Int))
  | .l0 a_5 a_6 a_7 a_18 x_19 x_20 => if x_20 < x_19 then (Option.bind (gi a_18 x_20) fun y1 => Option.bind (gi a_5 x_20) fun y14 => (go (.l1 a_5 a_6 a_7 x_20 y1 y14 a_18 x_19 x_20 x_20 (0 : Int)))) else (some (a_7))
  | .l1 a_5 a_6 a_7 x_8 y_9 b_10 a_18 x_19 x_20 x_29 x_30 => if x_30 < x_29 then (if b_10 = true then (Option.bind (gi a_5 x_30) fun y1 => if y1 = true then ((go (.l1 a_5 a_6 a_7 x_8 y_9 true a_18 x_19 x_20 x_29 (IntKind.wrap .i64 (x_30 + (1 : Int)))))) else (Option.bind (gi a_6 x_8) fun y10 => Option.bind (gi y10 x_30) fun y20 => (go (.l1 a_5 a_6 a_7 x_8 y_9 (!y20) a_18 x_19 x_20 x_29 (IntKind.wrap .i64 (x_30 + (1 : Int))))))) else ((go (.l1 a_5 a_6 a_7 x_8 y_9 false a_18 x_19 x_20 x_29 (IntKind.wrap .i64 (x_30 + (1 : Int))))))) else (if b_10 = true then (Option.bind (gi a_7 y_9.Place) fun y31 => Option.bind (gi a_7 y_9.Place) fun y38 => Option.bind (some (List.set a_7 (Int.toNat y_9.Place) (IntKind.wrap .i64 (y31 + (1 : Int))))) fun l47 => (go (.l0 a_5 a_6 l47 a_18 x_19 (IntKind.wrap .i64 (x_20 + (1 : Int)))))) else ((go (.l0 a_5 a_6 a_7 a_18 x_19 (IntKind.wrap .i64 (x_20 + (1 : Int)))))))
theorem roadref4_Most.l0_k.mono : MonoF (β := fun _ => ((List Int))) roadref4_Most.l0_k.body := fun f g hfg p => match p with
  | .l0 a_5 a_6 a_7 a_18 x_19 x_20 => LeO.ite (LeO.bind (LeO.refl _) fun y1 => LeO.bind (LeO.refl _) fun y14 => (hfg _)) (LeO.refl _)
  | .l1 a_5 a_6 a_7 x_8 y_9 b_10 a_18 x_19 x_20 x_29 x_30 => LeO.ite (LeO.ite (LeO.bind (LeO.refl _) fun y1 => LeO.ite ((hfg _)) (LeO.bind (LeO.refl _) fun y10 => LeO.bind (LeO.refl _) fun y20 => (hfg _))) ((hfg _))) (LeO.ite (LeO.bind (LeO.refl _) fun y31 => LeO.bind (LeO.refl _) fun y38 => LeO.bind (LeO.refl _) fun l47 => (hfg _)) ((hfg _)))
noncomputable def roadref4_Most.l0_k.go (p : roadref4_Most.l0_k.Pt) : Option ((List Int)) := fixF (β := fun _ => ((List Int))) roadref4_Most.l0_k.body p
noncomputable def roadref4_Most.l0 (a_5 : List Bool) (a_6 : List (List Bool)) (a_7 : List Int) (a_18 : List T_api_Event) (x_19 : Int) (x_20 : Int) : Option ((List Int)) := roadref4_Most.l0_k.go (.l0 a_5 a_6 a_7 a_18 x_19 x_20)
noncomputable def roadref4_Most.l1 (a_5 : List Bool) (a_6 : List (List Bool)) (a_7 : List Int) (x_8 : Int) (y_9 : T_api_Event) (b_10 : Bool) (a_18 : List T_api_Event) (x_19 : Int) (x_20 : Int) (x_29 : Int) (x_30 : Int) : Option ((List Int)) := roadref4_Most.l0_k.go (.l1 a_5 a_6 a_7 x_8 y_9 b_10 a_18 x_19 x_20 x_29 x_30)
theorem roadref4_Most.l0_eq (a_5 : List Bool) (a_6 : List (List Bool)) (a_7 : List Int) (a_18 : List T_api_Event) (x_19 : Int) (x_20 : Int) : roadref4_Most.l0 a_5 a_6 a_7 a_18 x_19 x_20 = if x_20 < x_19 then (Option.bind (gi a_18 x_20) fun y1 => Option.bind (gi a_5 x_20) fun y14 => (roadref4_Most.l1 a_5 a_6 a_7 x_20 y1 y14 a_18 x_19 x_20 x_20 (0 : Int))) else (some (a_7)) := fixF_eq roadref4_Most.l0_k.mono _
theorem roadref4_Most.l1_eq (a_5 : List Bool) (a_6 : List (List Bool)) (a_7 : List Int) (x_8 : Int) (y_9 : T_api_Event) (b_10 : Bool) (a_18 : List T_api_Event) (x_19 : Int) (x_20 : Int) (x_29 : Int) (x_30 : Int) : roadref4_Most.l1 a_5 a_6 a_7 x_8 y_9 b_10 a_18 x_19 x_20 x_29 x_30 = if x_30 < x_29 then (if b_10 = true then (Option.bind (gi a_5 x_30) fun y1 => if y1 = true then ((roadref4_Most.l1 a_5 a_6 a_7 x_8 y_9 true a_18 x_19 x_20 x_29 (IntKind.wrap .i64 (x_30 + (1 : Int))))) else (Option.bind (gi a_6 x_8) fun y10 => Option.bind (gi y10 x_30) fun y20 => (roadref4_Most.l1 a_5 a_6 a_7 x_8 y_9 (!y20) a_18 x_19 x_20 x_29 (IntKind.wrap .i64 (x_30 + (1 : Int)))))) else ((roadref4_Most.l1 a_5 a_6 a_7 x_8 y_9 false a_18 x_19 x_20 x_29 (IntKind.wrap .i64 (x_30 + (1 : Int)))))) else (if b_10 = true then (Option.bind (gi a_7 y_9.Place) fun y31 => Option.bind (gi a_7 y_9.Place) fun y38 => Option.bind (some (List.set a_7 (Int.toNat y_9.Place) (IntKind.wrap .i64 (y31 + (1 : Int))))) fun l47 => (roadref4_Most.l0 a_5 a_6 l47 a_18 x_19 (IntKind.wrap .i64 (x_20 + (1 : Int))))) else ((roadref4_Most.l0 a_5 a_6 a_7 a_18 x_19 (IntKind.wrap .i64 (x_20 + (1 : Int)))))) := fixF_eq roadref4_Most.l0_k.mono _
def roadref4_Most.l0_k.I : (p : roadref4_Most.l0_k.Pt) → ((List Int)) → Prop
  | .l0 a_5 a_6 a_7 a_18 x_19 x_20, r => ∀ (W : Nat → Prop) (h0 m0 h m : Heap) (A_5 : Option Addr) (n_5 c_5 : Nat) (A_6 : Option Addr) (n_6 c_6 : Nat) (A_7 : Option Addr) (n_7 c_7 : Nat) (A_18 : Option Addr) (n_18 c_18 : Nat) (O : Hold W h0 m0 h m [rR (aE tell_bool) A_5 c_5 a_5, rR (aRow (aE tell_bool)) A_6 c_6 a_6, rR (aE (tell_int .i64)) A_7 c_7 a_7]) (ne_5 : n_5 = List.length a_5) (ne_6 : n_6 = List.length a_6) (ne_7 : n_7 = List.length a_7) (ne_18 : n_18 = List.length a_18) (k_18 : List.length a_18 ≤ c_18) (r_18 : Rd 3 T_api_Event.E m A_18 a_18), f21.l0 (roadref4_Most.post W h0 m0 r) A_5 n_5 c_5 A_6 n_6 c_6 A_7 n_7 c_7 A_18 n_18 c_18 x_19 x_20 h
  | .l1 a_5 a_6 a_7 x_8 y_9 b_10 a_18 x_19 x_20 x_29 x_30, r => ∀ (W : Nat → Prop) (h0 m0 h m : Heap) (A_5 : Option Addr) (n_5 c_5 : Nat) (A_6 : Option Addr) (n_6 c_6 : Nat) (A_7 : Option Addr) (n_7 c_7 : Nat) (bk_9 : Nat) (cs_9 : List Value) (A_18 : Option Addr) (n_18 c_18 : Nat) (O : Hold W h0 m0 h m [rR (aE tell_bool) A_5 c_5 a_5, rR (aRow (aE tell_bool)) A_6 c_6 a_6, rR (aE (tell_int .i64)) A_7 c_7 a_7, rV bk_9 36 cs_9]) (ne_5 : n_5 = List.length a_5) (ne_6 : n_6 = List.length a_6) (ne_7 : n_7 = List.length a_7) (e_9 : T_api_Event.E m y_9 cs_9) (ne_18 : n_18 = List.length a_18) (k_18 : List.length a_18 ≤ c_18) (r_18 : Rd 3 T_api_Event.E m A_18 a_18), f21.l1 (roadref4_Most.post W h0 m0 r) A_5 n_5 c_5 A_6 n_6 c_6 A_7 n_7 c_7 x_8 (⟨bk_9, 0, none⟩ : Addr) b_10 A_18 n_18 c_18 x_19 x_20 x_29 x_30 h
set_option maxRecDepth 100000 in
theorem roadref4_Most.l0_k.step_l0 (go : (p : roadref4_Most.l0_k.Pt) → Option ((List Int))) (ih : ∀ p r, go p = some r → roadref4_Most.l0_k.I p r) (a_5 : List Bool) (a_6 : List (List Bool)) (a_7 : List Int) (a_18 : List T_api_Event) (x_19 : Int) (x_20 : Int) (r : (List Int)) (e : roadref4_Most.l0_k.body go (.l0 a_5 a_6 a_7 a_18 x_19 x_20) = some r) : roadref4_Most.l0_k.I (.l0 a_5 a_6 a_7 a_18 x_19 x_20) r := by
  unfold roadref4_Most.l0_k.body at e
  intro W h0 m0 h m A_5 n_5 c_5 A_6 n_6 c_6 A_7 n_7 c_7 A_18 n_18 c_18 O ne_5 ne_6 ne_7 ne_18 k_18 r_18
  subst ne_5
  subst ne_6
  subst ne_7
  subst ne_18
  refine f21.l0_in ?_
  unfold f21.l0T
  refine split_dec_e e (fun c22 e => ?_) (fun c22 e => ?_)
  · obtain ⟨y1, g2, e⟩ := bind_e e
    refine r_18.addr rfl g2 fun a3 cs4 ha5 hc6 he7 => ?_
    refine ⟨_, ldAn O.s hc6 rfl, ?_⟩
    refine O.new fun h8 x9 O10 => ?_
    refine ⟨_, rfl, (T_api_Event.T.len _ _ _ he7), ?_⟩
    refine O10.stA 3 rfl (T_api_Event.T.len _ _ _ he7) (T_api_Event.T.flat _ _ _ he7) fun h12 O13 => ?_
    obtain ⟨y14, g15, e⟩ := bind_e e
    refine (O13.os 0 rfl).addr rfl g15 fun a16 cs17 ha18 hc19 he20 => ?_
    obtain rfl : cs17 = [(Value.bool y14)] := he20
    refine ⟨_, ld0 (Sub.refl _) hc19 rfl, _, rfl, ?_⟩
    have O21 := O13.nm
    exact (ih _ _ e) _ _ _ _ _ _ _ _ _ _ _ _ _ _ _ _ _ _ _ (O21.pick [0, 1, 2, 3]).nm rfl rfl rfl he7 rfl k_18 r_18
  · cases e
    exact ⟨_, _, _, _, O.pick [2], rfl, rfl⟩
set_option maxHeartbeats 4000000 in
set_option maxRecDepth 100000 in
theorem roadref4_Most.l0_k.step_l1 (go : (p : roadref4_Most.l0_k.Pt) → Option ((List Int))) (ih : ∀ p r, go p = some r → roadref4_Most.l0_k.I p r) (a_5 : List Bool) (a_6 : List (List Bool)) (a_7 : List Int) (x_8 : Int) (y_9 : T_api_Event) (b_10 : Bool) (a_18 : List T_api_Event) (x_19 : Int) (x_20 : Int) (x_29 : Int) (x_30 : Int) (r : (List Int)) (e : roadref4_Most.l0_k.body go (.l1 a_5 a_6 a_7 x_8 y_9 b_10 a_18 x_19 x_20 x_29 x_30) = some r) : roadref4_Most.l0_k.I (.l1 a_5 a_6 a_7 x_8 y_9 b_10 a_18 x_19 x_20 x_29 x_30) r := by
  unfold roadref4_Most.l0_k.body at e
  intro W h0 m0 h m A_5 n_5 c_5 A_6 n_6 c_6 A_7 n_7 c_7 bk_9 cs_9 A_18 n_18 c_18 O ne_5 ne_6 ne_7 e_9 ne_18 k_18 r_18
  subst ne_5
  subst ne_6
  subst ne_7
  subst ne_18
  refine f21.l1_in ?_
  unfold f21.l1T
  refine split_dec_e e (fun c51 e => ?_) (fun c51 e => ?_)
  · refine split_any_e e (fun c30 e => ?_) (fun c30 e => ?_)
    · obtain ⟨y1, g2, e⟩ := bind_e e
      refine (O.os 0 rfl).addr rfl g2 fun a3 cs4 ha5 hc6 he7 => ?_
      obtain rfl : cs4 = [(Value.bool y1)] := he7
      refine ⟨_, ld0 (Sub.refl _) hc6 rfl, _, rfl, ?_⟩
      refine split_any_e e (fun c29 e => ?_) (fun c29 e => ?_)
      · exact (ih _ _ e) _ _ _ _ _ _ _ _ _ _ _ _ _ _ _ _ _ _ _ (O.pick [0, 1, 2, 3]).nm rfl rfl rfl e_9 rfl k_18 r_18
      · obtain ⟨y10, g11, e⟩ := bind_e e
        refine O.adr 1 rfl rfl g11 fun a8 ha9 => ?_
        obtain ⟨hs12, O13⟩ := O.openX 1 rfl g11
        obtain ⟨A14, c15, hx16, hc17, k18⟩ := O13.hdX 1 rfl ha9 g11
        refine ⟨_, ld0 (Sub.refl _) hc17 rfl, _, _, _, rfl, ?_⟩
        obtain ⟨y20, g21, e⟩ := bind_e e
        refine (O13.xos 1 rfl hx16 g11).addr rfl g21 fun a22 cs23 ha24 hc25 he26 => ?_
        obtain rfl : cs23 = [(Value.bool y20)] := he26
        refine ⟨_, ld0 (Sub.refl _) hc25 rfl, _, rfl, ?_⟩
        have O27 := O13.closeX 1 rfl
        have O28 := O27.nm
        exact (ih _ _ e) _ _ _ _ _ _ _ _ _ _ _ _ _ _ _ _ _ _ _ (O28.pick [0, 1, 2, 3]).nm rfl rfl rfl e_9 rfl k_18 r_18
    · exact (ih _ _ e) _ _ _ _ _ _ _ _ _ _ _ _ _ _ _ _ _ _ _ (O.pick [0, 1, 2, 3]).nm rfl rfl rfl e_9 rfl k_18 r_18
  · refine split_any_e e (fun c50 e => ?_) (fun c50 e => ?_)
    · refine ⟨_, ld0 (Sub.refl _) (O.all 3 rfl) (T_api_Event.g0 e_9), _, rfl, ?_⟩
      obtain ⟨y31, g32, e⟩ := bind_e e
      refine (O.os 2 rfl).addr rfl g32 fun a33 cs34 ha35 hc36 he37 => ?_
      obtain rfl : cs34 = [(Value.int .i64 y31)] := he37
      refine ⟨_, ld0 (Sub.refl _) hc36 rfl, _, rfl, ?_⟩
      obtain ⟨y38, g39, e⟩ := bind_e e
      refine (O.os 2 rfl).addr rfl g39 fun a40 cs41 ha42 hc43 he44 => ?_
      obtain rfl : cs41 = [(Value.int .i64 y38)] := he44
      obtain ⟨l47, g48, e⟩ := bind_e e
      replace g48 := Option.some.inj g48
      refine O.elst0 2 rfl g39 ha42 hc43 (by decide) (y' := (IntKind.wrap .i64 (y31 + (1 : Int)))) rfl trivial g48 fun h45 O46 => ?_
      have O49 := O46.nm
      exact (ih _ _ e) _ _ _ _ _ _ _ _ _ _ _ _ _ _ _ _ _ (O49.pick [0, 1, 2]).nm rfl rfl (lset' g48) rfl k_18 r_18
    · exact (ih _ _ e) _ _ _ _ _ _ _ _ _ _ _ _ _ _ _ _ _ (O.pick [0, 1, 2]).nm rfl rfl rfl rfl k_18 r_18
theorem roadref4_Most.l0_k.all {p : roadref4_Most.l0_k.Pt} {r : ((List Int))} (e : roadref4_Most.l0_k.go p = some r) : roadref4_Most.l0_k.I p r := fixF_ind (β := fun _ => ((List Int))) roadref4_Most.l0_k.mono (I := roadref4_Most.l0_k.I) (fun go ih p r e => match p with
  | .l0 a_5 a_6 a_7 a_18 x_19 x_20 => roadref4_Most.l0_k.step_l0 go ih a_5 a_6 a_7 a_18 x_19 x_20 r e
  | .l1 a_5 a_6 a_7 x_8 y_9 b_10 a_18 x_19 x_20 x_29 x_30 => roadref4_Most.l0_k.step_l1 go ih a_5 a_6 a_7 x_8 y_9 b_10 a_18 x_19 x_20 x_29 x_30 r e
  ) e
theorem roadref4_Most.l0.walk {W : Nat → Prop} {h0 m0 h m : Heap} {A_5 : Option Addr} {n_5 c_5 : Nat} {A_6 : Option Addr} {n_6 c_6 : Nat} {A_7 : Option Addr} {n_7 c_7 : Nat} {A_18 : Option Addr} {n_18 c_18 : Nat} {a_5 : List Bool} {a_6 : List (List Bool)} {a_7 : List Int} {a_18 : List T_api_Event} {x_19 : Int} {x_20 : Int} (O : Hold W h0 m0 h m [rR (aE tell_bool) A_5 c_5 a_5, rR (aRow (aE tell_bool)) A_6 c_6 a_6, rR (aE (tell_int .i64)) A_7 c_7 a_7]) (ne_5 : n_5 = List.length a_5) (ne_6 : n_6 = List.length a_6) (ne_7 : n_7 = List.length a_7) (ne_18 : n_18 = List.length a_18) (k_18 : List.length a_18 ≤ c_18) (r_18 : Rd 3 T_api_Event.E m A_18 a_18) {r : (List Int)} (e : roadref4_Most.l0 a_5 a_6 a_7 a_18 x_19 x_20 = some r) : f21.l0 (roadref4_Most.post W h0 m0 r) A_5 n_5 c_5 A_6 n_6 c_6 A_7 n_7 c_7 A_18 n_18 c_18 x_19 x_20 h := roadref4_Most.l0_k.all (p := .l0 a_5 a_6 a_7 a_18 x_19 x_20) e W h0 m0 h m A_5 n_5 c_5 A_6 n_6 c_6 A_7 n_7 c_7 A_18 n_18 c_18 O ne_5 ne_6 ne_7 ne_18 k_18 r_18
noncomputable def roadref4_Most (a_0 : List T_api_Event) (a_1 : List Int) : Option ((List Int)) :=
  Option.bind (roadref4_In a_0 a_1) fun y1 => Option.bind (roadref4_Past a_0) fun y13 => Option.bind (mks 8 (8 : Int) (0 : Int)) fun l25 => (roadref4_Most.l0 y1 y13 l25 a_0 (((List.length a_0) : Nat) : Int) (0 : Int))
set_option maxRecDepth 100000 in
theorem roadref4_Most.walk {W : Nat → Prop} {h m : Heap} {A_0 : Option Addr} {n_0 c_0 : Nat} {A_1 : Option Addr} {n_1 c_1 : Nat} {a_0 : List T_api_Event} {a_1 : List Int} (O : Hold W h m h m []) (ne_0 : n_0 = List.length a_0) (k_0 : List.length a_0 ≤ c_0) (r_0 : Rd 3 T_api_Event.E m A_0 a_0) (ne_1 : n_1 = List.length a_1) (k_1 : List.length a_1 ≤ c_1) (r_1 : Rd 1 (eInt .i64) m A_1 a_1) {r : (List Int)} (e : roadref4_Most a_0 a_1 = some r) : Run Try.prog 21 #[Value.slice A_0 n_0 c_0, Value.slice A_1 n_1 c_1] h (roadref4_Most.post W h m r) := by
  unfold roadref4_Most at e
  subst ne_0
  subst ne_1
  refine f21.run ?_
  unfold f21.runT
  obtain ⟨y1, g2, e⟩ := bind_e e
  refine (roadref4_In.walk (Hold.start (W := No) O.s) rfl k_0 r_0 rfl k_1 r_1 g2).mono ?_
  rintro _ h3 ⟨m4, A7, n8, c9, Q5, rfl, ne10⟩
  have O12 := Hold.nm (O.retC Q5 (vfs_cons (rR_vf (aE_vf (fun _ _ _ _ h => h))) vfs_nil))
  subst ne10
  refine ⟨_, _, _, rfl, ?_⟩
  obtain ⟨y13, g14, e⟩ := bind_e e
  refine (roadref4_Past.walk (Hold.start (W := No) O12.s) rfl k_0 r_0 g14).mono ?_
  rintro _ h15 ⟨m16, A19, n20, c21, Q17, rfl, ne22⟩
  have O24 := Hold.nm (O12.ret Q17)
  subst ne22
  refine ⟨_, _, _, rfl, ?_⟩
  obtain ⟨l25, g26, e⟩ := bind_e e
  have q27 := mks_e g26
  refine ⟨q27.1, Int.le_refl _, q27.2.1, q27.2.2.1, ?_⟩
  refine O24.new fun h28 x29 O30 => ?_
  have O31 := O30.made 2 rfl (aE (tell_int .i64)) g26 ⟨rfl, rfl⟩
  try rw [q27.2.2.2.1]
  have O33 := O31.nm
  exact roadref4_Most.l0.walk (O33.pick [0, 1, 2]).nm rfl rfl rfl rfl k_0 (r_0.sub T_api_Event.T Q17.S.up) e
def roadlaw4_CutSays.post (W : Nat → Prop) (h0 m0 : Heap) (r : Bool) (v : Value) (h : Heap) : Prop := ∃ m , Hold W h0 m0 h m [] ∧ v = .bool r
inductive roadlaw4_CutSays.l0_k.Pt where
  | l0 (a_1 : List Int) (a_2 : List Int) (a_19 : List Int) (a_21 : List Int) (x_251 : Int)
noncomputable def roadlaw4_CutSays.l0_k.body (go : (p : roadlaw4_CutSays.l0_k.Pt) → Option (Bool)) : (p : roadlaw4_CutSays.l0_k.Pt) → Option (Bool)
  | .l0 a_1 a_2 a_19 a_21 x_251 => if x_251 < (8 : Int) then (Option.bind (gi a_19 x_251) fun y1 => Option.bind (gi a_1 x_251) fun y8 => Option.bind (gi a_2 x_251) fun y15 => if y1 = (if y15 > y8 then y15 else y8) then (Option.bind (gi a_21 x_251) fun y22 => Option.bind (gi a_1 x_251) fun y29 => Option.bind (gi a_2 x_251) fun y36 => if y22 = (if y36 < y29 then y36 else y29) then ((go (.l0 a_1 a_2 a_19 a_21 (IntKind.wrap .i64 (x_251 + (1 : Int)))))) else (some (false))) else (some (false))) else (some (true))
theorem roadlaw4_CutSays.l0_k.mono : MonoF (β := fun _ => (Bool)) roadlaw4_CutSays.l0_k.body := fun f g hfg p => match p with
  | .l0 a_1 a_2 a_19 a_21 x_251 => LeO.ite (LeO.bind (LeO.refl _) fun y1 => LeO.bind (LeO.refl _) fun y8 => LeO.bind (LeO.refl _) fun y15 => LeO.ite (LeO.bind (LeO.refl _) fun y22 => LeO.bind (LeO.refl _) fun y29 => LeO.bind (LeO.refl _) fun y36 => LeO.ite ((hfg _)) (LeO.refl _)) (LeO.refl _)) (LeO.refl _)
noncomputable def roadlaw4_CutSays.l0_k.go (p : roadlaw4_CutSays.l0_k.Pt) : Option (Bool) := fixF (β := fun _ => (Bool)) roadlaw4_CutSays.l0_k.body p
noncomputable def roadlaw4_CutSays.l0 (a_1 : List Int) (a_2 : List Int) (a_19 : List Int) (a_21 : List Int) (x_251 : Int) : Option (Bool) := roadlaw4_CutSays.l0_k.go (.l0 a_1 a_2 a_19 a_21 x_251)
theorem roadlaw4_CutSays.l0_eq (a_1 : List Int) (a_2 : List Int) (a_19 : List Int) (a_21 : List Int) (x_251 : Int) : roadlaw4_CutSays.l0 a_1 a_2 a_19 a_21 x_251 = if x_251 < (8 : Int) then (Option.bind (gi a_19 x_251) fun y1 => Option.bind (gi a_1 x_251) fun y8 => Option.bind (gi a_2 x_251) fun y15 => if y1 = (if y15 > y8 then y15 else y8) then (Option.bind (gi a_21 x_251) fun y22 => Option.bind (gi a_1 x_251) fun y29 => Option.bind (gi a_2 x_251) fun y36 => if y22 = (if y36 < y29 then y36 else y29) then ((roadlaw4_CutSays.l0 a_1 a_2 a_19 a_21 (IntKind.wrap .i64 (x_251 + (1 : Int))))) else (some (false))) else (some (false))) else (some (true)) := fixF_eq roadlaw4_CutSays.l0_k.mono _
def roadlaw4_CutSays.l0_k.I : (p : roadlaw4_CutSays.l0_k.Pt) → (Bool) → Prop
  | .l0 a_1 a_2 a_19 a_21 x_251, r => ∀ (W : Nat → Prop) (h0 m0 h m : Heap) (A_1 : Option Addr) (n_1 c_1 : Nat) (A_2 : Option Addr) (n_2 c_2 : Nat) (A_19 : Option Addr) (n_19 c_19 : Nat) (A_21 : Option Addr) (n_21 c_21 : Nat) (O : Hold W h0 m0 h m [rR (aE (tell_int .i64)) A_19 c_19 a_19, rR (aE (tell_int .i64)) A_21 c_21 a_21]) (ne_1 : n_1 = List.length a_1) (k_1 : List.length a_1 ≤ c_1) (r_1 : Rd 1 (eInt .i64) m A_1 a_1) (ne_2 : n_2 = List.length a_2) (k_2 : List.length a_2 ≤ c_2) (r_2 : Rd 1 (eInt .i64) m A_2 a_2) (ne_19 : n_19 = List.length a_19) (ne_21 : n_21 = List.length a_21), f3.l0 (roadlaw4_CutSays.post W h0 m0 r) A_1 n_1 c_1 A_2 n_2 c_2 A_19 n_19 c_19 A_21 n_21 c_21 x_251 h
set_option maxHeartbeats 4000000 in
set_option maxRecDepth 100000 in
theorem roadlaw4_CutSays.l0_k.step_l0 (go : (p : roadlaw4_CutSays.l0_k.Pt) → Option (Bool)) (ih : ∀ p r, go p = some r → roadlaw4_CutSays.l0_k.I p r) (a_1 : List Int) (a_2 : List Int) (a_19 : List Int) (a_21 : List Int) (x_251 : Int) (r : Bool) (e : roadlaw4_CutSays.l0_k.body go (.l0 a_1 a_2 a_19 a_21 x_251) = some r) : roadlaw4_CutSays.l0_k.I (.l0 a_1 a_2 a_19 a_21 x_251) r := by
  unfold roadlaw4_CutSays.l0_k.body at e
  intro W h0 m0 h m A_1 n_1 c_1 A_2 n_2 c_2 A_19 n_19 c_19 A_21 n_21 c_21 O ne_1 k_1 r_1 ne_2 k_2 r_2 ne_19 ne_21
  subst ne_1
  subst ne_2
  subst ne_19
  subst ne_21
  refine f3.l0_in ?_
  unfold f3.l0T
  refine split_dec_e e (fun c45 e => ?_) (fun c45 e => ?_)
  · obtain ⟨y1, g2, e⟩ := bind_e e
    refine (O.os 0 rfl).addr rfl g2 fun a3 cs4 ha5 hc6 he7 => ?_
    obtain rfl : cs4 = [(Value.int .i64 y1)] := he7
    obtain ⟨y8, g9, e⟩ := bind_e e
    refine r_1.addr rfl g9 fun a10 cs11 ha12 hc13 he14 => ?_
    obtain rfl : cs11 = [(Value.int .i64 y8)] := he14
    obtain ⟨y15, g16, e⟩ := bind_e e
    refine r_2.addr rfl g16 fun a17 cs18 ha19 hc20 he21 => ?_
    obtain rfl : cs18 = [(Value.int .i64 y15)] := he21
    refine ⟨_, ld0 (Sub.refl _) hc6 rfl, _, rfl, ?_⟩
    refine ⟨_, ld0 O.s hc13 rfl, _, rfl, ?_⟩
    refine ⟨_, ld0 O.s hc20 rfl, _, rfl, ?_⟩
    refine split_ne_e e (fun c44 e => ?_) (fun c44 e => ?_)
    · cases e
      exact ⟨_, O.pick [], rfl⟩
    · obtain ⟨y22, g23, e⟩ := bind_e e
      refine (O.os 1 rfl).addr rfl g23 fun a24 cs25 ha26 hc27 he28 => ?_
      obtain rfl : cs25 = [(Value.int .i64 y22)] := he28
      obtain ⟨y29, g30, e⟩ := bind_e e
      refine r_1.addr rfl g30 fun a31 cs32 ha33 hc34 he35 => ?_
      obtain rfl : cs32 = [(Value.int .i64 y29)] := he35
      obtain ⟨y36, g37, e⟩ := bind_e e
      refine r_2.addr rfl g37 fun a38 cs39 ha40 hc41 he42 => ?_
      obtain rfl : cs39 = [(Value.int .i64 y36)] := he42
      refine ⟨_, ld0 (Sub.refl _) hc27 rfl, _, rfl, ?_⟩
      refine ⟨_, ld0 O.s hc34 rfl, _, rfl, ?_⟩
      refine ⟨_, ld0 O.s hc41 rfl, _, rfl, ?_⟩
      refine split_ne_e e (fun c43 e => ?_) (fun c43 e => ?_)
      · cases e
        exact ⟨_, O.pick [], rfl⟩
      · exact (ih _ _ e) _ _ _ _ _ _ _ _ _ _ _ _ _ _ _ _ _ (O.pick [0, 1]).nm rfl k_1 r_1 rfl k_2 r_2 rfl rfl
  · cases e
    exact ⟨_, O.pick [], rfl⟩
theorem roadlaw4_CutSays.l0_k.all {p : roadlaw4_CutSays.l0_k.Pt} {r : (Bool)} (e : roadlaw4_CutSays.l0_k.go p = some r) : roadlaw4_CutSays.l0_k.I p r := fixF_ind (β := fun _ => (Bool)) roadlaw4_CutSays.l0_k.mono (I := roadlaw4_CutSays.l0_k.I) (fun go ih p r e => match p with
  | .l0 a_1 a_2 a_19 a_21 x_251 => roadlaw4_CutSays.l0_k.step_l0 go ih a_1 a_2 a_19 a_21 x_251 r e
  ) e
theorem roadlaw4_CutSays.l0.walk {W : Nat → Prop} {h0 m0 h m : Heap} {A_1 : Option Addr} {n_1 c_1 : Nat} {A_2 : Option Addr} {n_2 c_2 : Nat} {A_19 : Option Addr} {n_19 c_19 : Nat} {A_21 : Option Addr} {n_21 c_21 : Nat} {a_1 : List Int} {a_2 : List Int} {a_19 : List Int} {a_21 : List Int} {x_251 : Int} (O : Hold W h0 m0 h m [rR (aE (tell_int .i64)) A_19 c_19 a_19, rR (aE (tell_int .i64)) A_21 c_21 a_21]) (ne_1 : n_1 = List.length a_1) (k_1 : List.length a_1 ≤ c_1) (r_1 : Rd 1 (eInt .i64) m A_1 a_1) (ne_2 : n_2 = List.length a_2) (k_2 : List.length a_2 ≤ c_2) (r_2 : Rd 1 (eInt .i64) m A_2 a_2) (ne_19 : n_19 = List.length a_19) (ne_21 : n_21 = List.length a_21) {r : Bool} (e : roadlaw4_CutSays.l0 a_1 a_2 a_19 a_21 x_251 = some r) : f3.l0 (roadlaw4_CutSays.post W h0 m0 r) A_1 n_1 c_1 A_2 n_2 c_2 A_19 n_19 c_19 A_21 n_21 c_21 x_251 h := roadlaw4_CutSays.l0_k.all (p := .l0 a_1 a_2 a_19 a_21 x_251) e W h0 m0 h m A_1 n_1 c_1 A_2 n_2 c_2 A_19 n_19 c_19 A_21 n_21 c_21 O ne_1 k_1 r_1 ne_2 k_2 r_2 ne_19 ne_21
noncomputable def roadlaw4_CutSays.j3 (a_1 : List Int) (a_2 : List Int) (a_19 : List Int) (a_21 : List Int) : Option (Bool) :=
  (roadlaw4_CutSays.l0 a_1 a_2 a_19 a_21 (0 : Int))
set_option maxRecDepth 100000 in
theorem roadlaw4_CutSays.j3.walk {W : Nat → Prop} {h0 m0 h m : Heap} {A_1 : Option Addr} {n_1 c_1 : Nat} {A_2 : Option Addr} {n_2 c_2 : Nat} {A_19 : Option Addr} {n_19 c_19 : Nat} {A_21 : Option Addr} {n_21 c_21 : Nat} {a_1 : List Int} {a_2 : List Int} {a_19 : List Int} {a_21 : List Int} (O : Hold W h0 m0 h m [rR (aE (tell_int .i64)) A_19 c_19 a_19, rR (aE (tell_int .i64)) A_21 c_21 a_21]) (ne_1 : n_1 = List.length a_1) (k_1 : List.length a_1 ≤ c_1) (r_1 : Rd 1 (eInt .i64) m A_1 a_1) (ne_2 : n_2 = List.length a_2) (k_2 : List.length a_2 ≤ c_2) (r_2 : Rd 1 (eInt .i64) m A_2 a_2) (ne_19 : n_19 = List.length a_19) (ne_21 : n_21 = List.length a_21) {r : Bool} (e : roadlaw4_CutSays.j3 a_1 a_2 a_19 a_21 = some r) : f3.j3 (roadlaw4_CutSays.post W h0 m0 r) A_1 n_1 c_1 A_2 n_2 c_2 A_19 n_19 c_19 A_21 n_21 c_21 h := by
  unfold roadlaw4_CutSays.j3 at e
  subst ne_1
  subst ne_2
  subst ne_19
  subst ne_21
  refine f3.j3_in ?_
  unfold f3.j3T
  exact roadlaw4_CutSays.l0.walk (O.pick [0, 1]).nm rfl k_1 r_1 rfl k_2 r_2 rfl rfl e
noncomputable def roadlaw4_CutSays.j2 (a_1 : List Int) (a_2 : List Int) (y_3 : (List T_api_Event)) (a_19 : List Int) (x_20 : Int) (a_21 : List Int) (x_22 : Int) : Option (Bool) :=
  Option.bind (roadref4_Cuts y_3 ([a_1, a_2] : List (List Int))) fun y6 => if y6 = (0 : Int) then (if x_20 = (0 : Int) then (if x_22 = (0 : Int) then (if (((List.length a_19) : Nat) : Int) = (8 : Int) then (if (((List.length a_21) : Nat) : Int) = (8 : Int) then ((roadlaw4_CutSays.j3 a_1 a_2 a_19 a_21)) else (some (false))) else (some (false))) else (some (false))) else (some (false))) else (if x_20 = y6 then (if x_22 = y6 then (if (((List.length a_19) : Nat) : Int) = (0 : Int) then (some (((((List.length a_21) : Nat) : Int) == (0 : Int)))) else (some (false))) else (some (false))) else (some (false)))
set_option maxHeartbeats 4000000 in
set_option maxRecDepth 100000 in
theorem roadlaw4_CutSays.j2.walk {W : Nat → Prop} {h0 m0 h m : Heap} {A_1 : Option Addr} {n_1 c_1 : Nat} {A_2 : Option Addr} {n_2 c_2 : Nat} {bk_3 : Nat} {cs_3 : List Value} {A_19 : Option Addr} {n_19 c_19 : Nat} {A_21 : Option Addr} {n_21 c_21 : Nat} {a_1 : List Int} {a_2 : List Int} {y_3 : (List T_api_Event)} {a_19 : List Int} {x_20 : Int} {a_21 : List Int} {x_22 : Int} (O : Hold W h0 m0 h m [rV bk_3 22 cs_3, rR (aE (tell_int .i64)) A_19 c_19 a_19, rR (aE (tell_int .i64)) A_21 c_21 a_21]) (ne_1 : n_1 = List.length a_1) (k_1 : List.length a_1 ≤ c_1) (r_1 : Rd 1 (eInt .i64) m A_1 a_1) (ne_2 : n_2 = List.length a_2) (k_2 : List.length a_2 ≤ c_2) (r_2 : Rd 1 (eInt .i64) m A_2 a_2) (e_3 : (eRow 3 T_api_Event.E) m y_3 cs_3) (ne_19 : n_19 = List.length a_19) (ne_21 : n_21 = List.length a_21) {r : Bool} (e : roadlaw4_CutSays.j2 a_1 a_2 y_3 a_19 x_20 a_21 x_22 = some r) : f3.j2 (roadlaw4_CutSays.post W h0 m0 r) A_1 n_1 c_1 A_2 n_2 c_2 (⟨bk_3, 0, none⟩ : Addr) A_19 n_19 c_19 x_20 A_21 n_21 c_21 x_22 h := by
  unfold roadlaw4_CutSays.j2 at e
  subst ne_1
  subst ne_2
  obtain ⟨Ae_3_0, ce_3_0, rfl, ke_3_0, re_3_0⟩ := id e_3
  subst ne_19
  subst ne_21
  refine f3.j2_in ?_
  unfold f3.j2T
  refine ⟨_, ld0 (Sub.refl _) (O.all 0 rfl) rfl, _, _, _, rfl, ?_⟩
  refine O.new fun h1 x2 O3 => ?_
  obtain ⟨y6, g7, e⟩ := bind_e e
  have O5 := O3.rowE (l := ([a_1, a_2] : List (List Int))) 3 rfl (tell_row (tell_int .i64)) (show CsE _ _ _ _ _ from (CsE.cons (c1 := [(Value.slice A_1 (List.length a_1) c_1)]) ⟨_, _, rfl, k_1, r_1⟩ rfl (CsE.cons (c1 := [(Value.slice A_2 (List.length a_2) c_2)]) ⟨_, _, rfl, k_2, r_2⟩ rfl CsE.nil))) rfl
  have O12 := O5.nm
  obtain ⟨m13, u14, s19, ⟨⟨r17, k18⟩, _⟩, B15, C16⟩ := O12.lend0 [3]
  replace r17 : Rd 1 (eRow 1 (eInt .i64)) m13 (some ⟨(Array.size h), 0, none⟩) ([a_1, a_2] : List (List Int)) := r17
  replace k18 : List.length ([a_1, a_2] : List (List Int)) ≤ 2 := k18
  refine (roadref4_Cuts.walk (Hold.start (W := No) s19) rfl ke_3_0 (re_3_0.sub T_api_Event.T u14) rfl k18 r17 g7).mono ?_
  rintro _ h8 ⟨m9, Q10, rfl⟩
  have O20 := Hold.nm (C16 Q10 vfs_nil)
  refine ⟨_, rfl, ?_⟩
  refine split_ne_e e (fun c28 e => ?_) (fun c28 e => ?_)
  · refine split_eq_e e (fun c23 e => ?_) (fun c23 e => ?_)
    · refine split_eq_e e (fun c22 e => ?_) (fun c22 e => ?_)
      · refine split_eq_e e (fun c21 e => ?_) (fun c21 e => ?_)
        · cases e
          exact ⟨_, O20.pick [], rfl⟩
        · cases e
          exact ⟨_, O20.pick [], rfl⟩
      · cases e
        exact ⟨_, O20.pick [], rfl⟩
    · cases e
      exact ⟨_, O20.pick [], rfl⟩
  · refine split_ne_e e (fun c27 e => ?_) (fun c27 e => ?_)
    · cases e
      exact ⟨_, O20.pick [], rfl⟩
    · refine split_ne_e e (fun c26 e => ?_) (fun c26 e => ?_)
      · cases e
        exact ⟨_, O20.pick [], rfl⟩
      · refine split_ne_e e (fun c25 e => ?_) (fun c25 e => ?_)
        · cases e
          exact ⟨_, O20.pick [], rfl⟩
        · refine split_ne_e e (fun c24 e => ?_) (fun c24 e => ?_)
          · cases e
            exact ⟨_, O20.pick [], rfl⟩
          · exact roadlaw4_CutSays.j3.walk (O20.pick [1, 2]).nm rfl k_1 r_1 rfl k_2 r_2 rfl rfl e
inductive roadlaw4_CutSays.l1_k.Pt where
  | l1 (a_1 : List Int) (a_2 : List Int) (y_3 : (List T_api_Event)) (b_11 : Bool) (x_12 : Int) (a_13 : List Int) (x_14 : Int) (a_15 : List Int) (x_16 : Int) (a_17 : List Int) (x_18 : Int) (a_19 : List Int) (x_20 : Int) (a_21 : List Int) (x_22 : Int) (y_24 : (List Bool)) (a_25 : List Int) (a_137 : List T_api_Event) (x_138 : Int) (x_139 : Int)
  | j4 (a_1 : List Int) (a_2 : List Int) (y_3 : (List T_api_Event)) (b_11 : Bool) (x_12 : Int) (a_13 : List Int) (x_14 : Int) (a_15 : List Int) (x_16 : Int) (a_17 : List Int) (x_18 : Int) (a_19 : List Int) (x_20 : Int) (a_21 : List Int) (x_22 : Int) (y_24 : (List Bool)) (a_25 : List Int) (y_27 : T_api_Event) (a_137 : List T_api_Event) (x_138 : Int) (x_139 : Int) (b_158 : Bool)
noncomputable def roadlaw4_CutSays.l1_k.body (go : (p : roadlaw4_CutSays.l1_k.Pt) → Option (Bool)) : (p : roadlaw4_CutSays.l1_k.Pt) → Option (Bool)
  | .l1 a_1 a_2 y_3 b_11 x_12 a_13 x_14 a_15 x_16 a_17 x_18 a_19 x_20 a_21 x_22 y_24 a_25 a_137 x_138 x_139 => if x_139 < x_138 then (Option.bind (gi a_137 x_139) fun y1 => Option.bind (gi y_24 x_139) fun y14 => if y14 = true then (if y1.Kind = (2 : Int) then (Option.bind (slices_ContainsFunc_15 y_3 (fun z36 => roadlaw4_CutSays_1 z36 y1 y_3 y_24)) fun y21 => (go (.j4 a_1 a_2 y_3 b_11 x_12 a_13 x_14 a_15 x_16 a_17 x_18 a_19 x_20 a_21 x_22 y_24 a_25 y1 a_137 x_138 x_139 (!y21)))) else ((go (.j4 a_1 a_2 y_3 b_11 x_12 a_13 x_14 a_15 x_16 a_17 x_18 a_19 x_20 a_21 x_22 y_24 a_25 y1 a_137 x_138 x_139 false)))) else ((go (.j4 a_1 a_2 y_3 b_11 x_12 a_13 x_14 a_15 x_16 a_17 x_18 a_19 x_20 a_21 x_22 y_24 a_25 y1 a_137 x_138 x_139 false)))) else (Option.bind (slices_Sort_18 a_25) fun y49 => if x_12 = (0 : Int) then (if x_14 = (0 : Int) then (if x_16 = (0 : Int) then (if x_18 = (0 : Int) then (Option.bind (roadref4_Whole y_3 a_1) fun y61 => if (b_11 == y61) = true then (Option.bind (slices_Equal_8 a_13 y49) fun y68 => if y68 = true then (Option.bind (roadref4_Least y_3 a_1) fun y84 => Option.bind (slices_Equal_8 a_15 y84) fun y96 => if y96 = true then (Option.bind (roadref4_Most y_3 a_1) fun y112 => Option.bind (slices_Equal_8 a_17 y112) fun y124 => if y124 = true then ((roadlaw4_CutSays.j2 a_1 a_2 y_3 a_19 x_20 a_21 x_22)) else (some (false))) else (some (false))) else (some (false))) else (some (false))) else (some (false))) else (some (false))) else (some (false))) else (some (false)))
  | .j4 a_1 a_2 y_3 b_11 x_12 a_13 x_14 a_15 x_16 a_17 x_18 a_19 x_20 a_21 x_22 y_24 a_25 y_27 a_137 x_138 x_139 b_158 => if b_158 = true then (Option.bind (ap 8 a_25 ([y_27.Msg] : List Int)) fun l5 => (go (.l1 a_1 a_2 y_3 b_11 x_12 a_13 x_14 a_15 x_16 a_17 x_18 a_19 x_20 a_21 x_22 y_24 l5 a_137 x_138 (IntKind.wrap .i64 (x_139 + (1 : Int)))))) else ((go (.l1 a_1 a_2 y_3 b_11 x_12 a_13 x_14 a_15 x_16 a_17 x_18 a_19 x_20 a_21 x_22 y_24 a_25 a_137 x_138 (IntKind.wrap .i64 (x_139 + (1 : Int))))))
theorem roadlaw4_CutSays.l1_k.mono : MonoF (β := fun _ => (Bool)) roadlaw4_CutSays.l1_k.body := fun f g hfg p => match p with
  | .l1 a_1 a_2 y_3 b_11 x_12 a_13 x_14 a_15 x_16 a_17 x_18 a_19 x_20 a_21 x_22 y_24 a_25 a_137 x_138 x_139 => LeO.ite (LeO.bind (LeO.refl _) fun y1 => LeO.bind (LeO.refl _) fun y14 => LeO.ite (LeO.ite (LeO.bind (LeO.refl _) fun y21 => (hfg _)) ((hfg _))) ((hfg _))) (LeO.bind (LeO.refl _) fun y49 => LeO.ite (LeO.ite (LeO.ite (LeO.ite (LeO.bind (LeO.refl _) fun y61 => LeO.ite (LeO.bind (LeO.refl _) fun y68 => LeO.ite (LeO.bind (LeO.refl _) fun y84 => LeO.bind (LeO.refl _) fun y96 => LeO.ite (LeO.bind (LeO.refl _) fun y112 => LeO.bind (LeO.refl _) fun y124 => LeO.ite ((LeO.refl _)) (LeO.refl _)) (LeO.refl _)) (LeO.refl _)) (LeO.refl _)) (LeO.refl _)) (LeO.refl _)) (LeO.refl _)) (LeO.refl _))
  | .j4 a_1 a_2 y_3 b_11 x_12 a_13 x_14 a_15 x_16 a_17 x_18 a_19 x_20 a_21 x_22 y_24 a_25 y_27 a_137 x_138 x_139 b_158 => LeO.ite (LeO.bind (LeO.refl _) fun l5 => (hfg _)) ((hfg _))
noncomputable def roadlaw4_CutSays.l1_k.go (p : roadlaw4_CutSays.l1_k.Pt) : Option (Bool) := fixF (β := fun _ => (Bool)) roadlaw4_CutSays.l1_k.body p
noncomputable def roadlaw4_CutSays.l1 (a_1 : List Int) (a_2 : List Int) (y_3 : (List T_api_Event)) (b_11 : Bool) (x_12 : Int) (a_13 : List Int) (x_14 : Int) (a_15 : List Int) (x_16 : Int) (a_17 : List Int) (x_18 : Int) (a_19 : List Int) (x_20 : Int) (a_21 : List Int) (x_22 : Int) (y_24 : (List Bool)) (a_25 : List Int) (a_137 : List T_api_Event) (x_138 : Int) (x_139 : Int) : Option (Bool) := roadlaw4_CutSays.l1_k.go (.l1 a_1 a_2 y_3 b_11 x_12 a_13 x_14 a_15 x_16 a_17 x_18 a_19 x_20 a_21 x_22 y_24 a_25 a_137 x_138 x_139)
noncomputable def roadlaw4_CutSays.j4 (a_1 : List Int) (a_2 : List Int) (y_3 : (List T_api_Event)) (b_11 : Bool) (x_12 : Int) (a_13 : List Int) (x_14 : Int) (a_15 : List Int) (x_16 : Int) (a_17 : List Int) (x_18 : Int) (a_19 : List Int) (x_20 : Int) (a_21 : List Int) (x_22 : Int) (y_24 : (List Bool)) (a_25 : List Int) (y_27 : T_api_Event) (a_137 : List T_api_Event) (x_138 : Int) (x_139 : Int) (b_158 : Bool) : Option (Bool) := roadlaw4_CutSays.l1_k.go (.j4 a_1 a_2 y_3 b_11 x_12 a_13 x_14 a_15 x_16 a_17 x_18 a_19 x_20 a_21 x_22 y_24 a_25 y_27 a_137 x_138 x_139 b_158)
theorem roadlaw4_CutSays.l1_eq (a_1 : List Int) (a_2 : List Int) (y_3 : (List T_api_Event)) (b_11 : Bool) (x_12 : Int) (a_13 : List Int) (x_14 : Int) (a_15 : List Int) (x_16 : Int) (a_17 : List Int) (x_18 : Int) (a_19 : List Int) (x_20 : Int) (a_21 : List Int) (x_22 : Int) (y_24 : (List Bool)) (a_25 : List Int) (a_137 : List T_api_Event) (x_138 : Int) (x_139 : Int) : roadlaw4_CutSays.l1 a_1 a_2 y_3 b_11 x_12 a_13 x_14 a_15 x_16 a_17 x_18 a_19 x_20 a_21 x_22 y_24 a_25 a_137 x_138 x_139 = if x_139 < x_138 then (Option.bind (gi a_137 x_139) fun y1 => Option.bind (gi y_24 x_139) fun y14 => if y14 = true then (if y1.Kind = (2 : Int) then (Option.bind (slices_ContainsFunc_15 y_3 (fun z36 => roadlaw4_CutSays_1 z36 y1 y_3 y_24)) fun y21 => (roadlaw4_CutSays.j4 a_1 a_2 y_3 b_11 x_12 a_13 x_14 a_15 x_16 a_17 x_18 a_19 x_20 a_21 x_22 y_24 a_25 y1 a_137 x_138 x_139 (!y21))) else ((roadlaw4_CutSays.j4 a_1 a_2 y_3 b_11 x_12 a_13 x_14 a_15 x_16 a_17 x_18 a_19 x_20 a_21 x_22 y_24 a_25 y1 a_137 x_138 x_139 false))) else ((roadlaw4_CutSays.j4 a_1 a_2 y_3 b_11 x_12 a_13 x_14 a_15 x_16 a_17 x_18 a_19 x_20 a_21 x_22 y_24 a_25 y1 a_137 x_138 x_139 false))) else (Option.bind (slices_Sort_18 a_25) fun y49 => if x_12 = (0 : Int) then (if x_14 = (0 : Int) then (if x_16 = (0 : Int) then (if x_18 = (0 : Int) then (Option.bind (roadref4_Whole y_3 a_1) fun y61 => if (b_11 == y61) = true then (Option.bind (slices_Equal_8 a_13 y49) fun y68 => if y68 = true then (Option.bind (roadref4_Least y_3 a_1) fun y84 => Option.bind (slices_Equal_8 a_15 y84) fun y96 => if y96 = true then (Option.bind (roadref4_Most y_3 a_1) fun y112 => Option.bind (slices_Equal_8 a_17 y112) fun y124 => if y124 = true then ((roadlaw4_CutSays.j2 a_1 a_2 y_3 a_19 x_20 a_21 x_22)) else (some (false))) else (some (false))) else (some (false))) else (some (false))) else (some (false))) else (some (false))) else (some (false))) else (some (false))) := fixF_eq roadlaw4_CutSays.l1_k.mono _
theorem roadlaw4_CutSays.j4_eq (a_1 : List Int) (a_2 : List Int) (y_3 : (List T_api_Event)) (b_11 : Bool) (x_12 : Int) (a_13 : List Int) (x_14 : Int) (a_15 : List Int) (x_16 : Int) (a_17 : List Int) (x_18 : Int) (a_19 : List Int) (x_20 : Int) (a_21 : List Int) (x_22 : Int) (y_24 : (List Bool)) (a_25 : List Int) (y_27 : T_api_Event) (a_137 : List T_api_Event) (x_138 : Int) (x_139 : Int) (b_158 : Bool) : roadlaw4_CutSays.j4 a_1 a_2 y_3 b_11 x_12 a_13 x_14 a_15 x_16 a_17 x_18 a_19 x_20 a_21 x_22 y_24 a_25 y_27 a_137 x_138 x_139 b_158 = if b_158 = true then (Option.bind (ap 8 a_25 ([y_27.Msg] : List Int)) fun l5 => (roadlaw4_CutSays.l1 a_1 a_2 y_3 b_11 x_12 a_13 x_14 a_15 x_16 a_17 x_18 a_19 x_20 a_21 x_22 y_24 l5 a_137 x_138 (IntKind.wrap .i64 (x_139 + (1 : Int))))) else ((roadlaw4_CutSays.l1 a_1 a_2 y_3 b_11 x_12 a_13 x_14 a_15 x_16 a_17 x_18 a_19 x_20 a_21 x_22 y_24 a_25 a_137 x_138 (IntKind.wrap .i64 (x_139 + (1 : Int))))) := fixF_eq roadlaw4_CutSays.l1_k.mono _
def roadlaw4_CutSays.l1_k.I : (p : roadlaw4_CutSays.l1_k.Pt) → (Bool) → Prop
  | .l1 a_1 a_2 y_3 b_11 x_12 a_13 x_14 a_15 x_16 a_17 x_18 a_19 x_20 a_21 x_22 y_24 a_25 a_137 x_138 x_139, r => ∀ (W : Nat → Prop) (h0 m0 h m : Heap) (A_1 : Option Addr) (n_1 c_1 : Nat) (A_2 : Option Addr) (n_2 c_2 : Nat) (bk_3 : Nat) (cs_3 : List Value) (A_13 : Option Addr) (n_13 c_13 : Nat) (A_15 : Option Addr) (n_15 c_15 : Nat) (A_17 : Option Addr) (n_17 c_17 : Nat) (A_19 : Option Addr) (n_19 c_19 : Nat) (A_21 : Option Addr) (n_21 c_21 : Nat) (bk_24 : Nat) (cs_24 : List Value) (A_25 : Option Addr) (n_25 c_25 : Nat) (A_137 : Option Addr) (n_137 c_137 : Nat) (O : Hold W h0 m0 h m [rV bk_3 22 cs_3, rR (aE (tell_int .i64)) A_13 c_13 a_13, rR (aE (tell_int .i64)) A_15 c_15 a_15, rR (aE (tell_int .i64)) A_17 c_17 a_17, rR (aE (tell_int .i64)) A_19 c_19 a_19, rR (aE (tell_int .i64)) A_21 c_21 a_21, rV bk_24 33 cs_24, rR (aE (tell_int .i64)) A_25 c_25 a_25]) (ne_1 : n_1 = List.length a_1) (k_1 : List.length a_1 ≤ c_1) (r_1 : Rd 1 (eInt .i64) m A_1 a_1) (ne_2 : n_2 = List.length a_2) (k_2 : List.length a_2 ≤ c_2) (r_2 : Rd 1 (eInt .i64) m A_2 a_2) (e_3 : (eRow 3 T_api_Event.E) m y_3 cs_3) (ne_13 : n_13 = List.length a_13) (ne_15 : n_15 = List.length a_15) (ne_17 : n_17 = List.length a_17) (ne_19 : n_19 = List.length a_19) (ne_21 : n_21 = List.length a_21) (e_24 : (eRow 1 eBool) m y_24 cs_24) (ne_25 : n_25 = List.length a_25) (ne_137 : n_137 = List.length a_137) (k_137 : List.length a_137 ≤ c_137) (r_137 : Rd 3 T_api_Event.E m A_137 a_137), f3.l1 (roadlaw4_CutSays.post W h0 m0 r) A_1 n_1 c_1 A_2 n_2 c_2 (⟨bk_3, 0, none⟩ : Addr) b_11 x_12 A_13 n_13 c_13 x_14 A_15 n_15 c_15 x_16 A_17 n_17 c_17 x_18 A_19 n_19 c_19 x_20 A_21 n_21 c_21 x_22 (⟨bk_24, 0, none⟩ : Addr) A_25 n_25 c_25 A_137 n_137 c_137 x_138 x_139 h
  | .j4 a_1 a_2 y_3 b_11 x_12 a_13 x_14 a_15 x_16 a_17 x_18 a_19 x_20 a_21 x_22 y_24 a_25 y_27 a_137 x_138 x_139 b_158, r => ∀ (W : Nat → Prop) (h0 m0 h m : Heap) (A_1 : Option Addr) (n_1 c_1 : Nat) (A_2 : Option Addr) (n_2 c_2 : Nat) (bk_3 : Nat) (cs_3 : List Value) (A_13 : Option Addr) (n_13 c_13 : Nat) (A_15 : Option Addr) (n_15 c_15 : Nat) (A_17 : Option Addr) (n_17 c_17 : Nat) (A_19 : Option Addr) (n_19 c_19 : Nat) (A_21 : Option Addr) (n_21 c_21 : Nat) (bk_24 : Nat) (cs_24 : List Value) (A_25 : Option Addr) (n_25 c_25 : Nat) (bk_27 : Nat) (cs_27 : List Value) (A_137 : Option Addr) (n_137 c_137 : Nat) (O : Hold W h0 m0 h m [rV bk_3 22 cs_3, rR (aE (tell_int .i64)) A_13 c_13 a_13, rR (aE (tell_int .i64)) A_15 c_15 a_15, rR (aE (tell_int .i64)) A_17 c_17 a_17, rR (aE (tell_int .i64)) A_19 c_19 a_19, rR (aE (tell_int .i64)) A_21 c_21 a_21, rV bk_24 33 cs_24, rR (aE (tell_int .i64)) A_25 c_25 a_25, rV bk_27 36 cs_27]) (ne_1 : n_1 = List.length a_1) (k_1 : List.length a_1 ≤ c_1) (r_1 : Rd 1 (eInt .i64) m A_1 a_1) (ne_2 : n_2 = List.length a_2) (k_2 : List.length a_2 ≤ c_2) (r_2 : Rd 1 (eInt .i64) m A_2 a_2) (e_3 : (eRow 3 T_api_Event.E) m y_3 cs_3) (ne_13 : n_13 = List.length a_13) (ne_15 : n_15 = List.length a_15) (ne_17 : n_17 = List.length a_17) (ne_19 : n_19 = List.length a_19) (ne_21 : n_21 = List.length a_21) (e_24 : (eRow 1 eBool) m y_24 cs_24) (ne_25 : n_25 = List.length a_25) (e_27 : T_api_Event.E m y_27 cs_27) (ne_137 : n_137 = List.length a_137) (k_137 : List.length a_137 ≤ c_137) (r_137 : Rd 3 T_api_Event.E m A_137 a_137), f3.j4 (roadlaw4_CutSays.post W h0 m0 r) A_1 n_1 c_1 A_2 n_2 c_2 (⟨bk_3, 0, none⟩ : Addr) b_11 x_12 A_13 n_13 c_13 x_14 A_15 n_15 c_15 x_16 A_17 n_17 c_17 x_18 A_19 n_19 c_19 x_20 A_21 n_21 c_21 x_22 (⟨bk_24, 0, none⟩ : Addr) A_25 n_25 c_25 (⟨bk_27, 0, none⟩ : Addr) A_137 n_137 c_137 x_138 x_139 b_158 h
set_option maxHeartbeats 4000000 in
set_option maxRecDepth 100000 in
theorem roadlaw4_CutSays.l1_k.step_l1 (go : (p : roadlaw4_CutSays.l1_k.Pt) → Option (Bool)) (ih : ∀ p r, go p = some r → roadlaw4_CutSays.l1_k.I p r) (a_1 : List Int) (a_2 : List Int) (y_3 : (List T_api_Event)) (b_11 : Bool) (x_12 : Int) (a_13 : List Int) (x_14 : Int) (a_15 : List Int) (x_16 : Int) (a_17 : List Int) (x_18 : Int) (a_19 : List Int) (x_20 : Int) (a_21 : List Int) (x_22 : Int) (y_24 : (List Bool)) (a_25 : List Int) (a_137 : List T_api_Event) (x_138 : Int) (x_139 : Int) (r : Bool) (e : roadlaw4_CutSays.l1_k.body go (.l1 a_1 a_2 y_3 b_11 x_12 a_13 x_14 a_15 x_16 a_17 x_18 a_19 x_20 a_21 x_22 y_24 a_25 a_137 x_138 x_139) = some r) : roadlaw4_CutSays.l1_k.I (.l1 a_1 a_2 y_3 b_11 x_12 a_13 x_14 a_15 x_16 a_17 x_18 a_19 x_20 a_21 x_22 y_24 a_25 a_137 x_138 x_139) r := by
  unfold roadlaw4_CutSays.l1_k.body at e
  intro W h0 m0 h m A_1 n_1 c_1 A_2 n_2 c_2 bk_3 cs_3 A_13 n_13 c_13 A_15 n_15 c_15 A_17 n_17 c_17 A_19 n_19 c_19 A_21 n_21 c_21 bk_24 cs_24 A_25 n_25 c_25 A_137 n_137 c_137 O ne_1 k_1 r_1 ne_2 k_2 r_2 e_3 ne_13 ne_15 ne_17 ne_19 ne_21 e_24 ne_25 ne_137 k_137 r_137
  subst ne_1
  subst ne_2
  obtain ⟨Ae_3_0, ce_3_0, rfl, ke_3_0, re_3_0⟩ := id e_3
  subst ne_13
  subst ne_15
  subst ne_17
  subst ne_19
  subst ne_21
  obtain ⟨Ae_24_0, ce_24_0, rfl, ke_24_0, re_24_0⟩ := id e_24
  subst ne_25
  subst ne_137
  refine f3.l1_in ?_
  unfold f3.l1T
  refine split_dec_e e (fun c148 e => ?_) (fun c148 e => ?_)
  · obtain ⟨y1, g2, e⟩ := bind_e e
    refine r_137.addr rfl g2 fun a3 cs4 ha5 hc6 he7 => ?_
    refine ⟨_, ldAn O.s hc6 rfl, ?_⟩
    refine O.new fun h8 x9 O10 => ?_
    refine ⟨_, rfl, (T_api_Event.T.len _ _ _ he7), ?_⟩
    refine O10.stA 8 rfl (T_api_Event.T.len _ _ _ he7) (T_api_Event.T.flat _ _ _ he7) fun h12 O13 => ?_
    refine ⟨_, ld0 (Sub.refl _) (O13.all 6 rfl) rfl, _, _, _, rfl, ?_⟩
    obtain ⟨y14, g15, e⟩ := bind_e e
    refine re_24_0.addr rfl g15 fun a16 cs17 ha18 hc19 he20 => ?_
    obtain rfl : cs17 = [(Value.bool y14)] := he20
    refine ⟨_, ld0 O13.s hc19 rfl, _, rfl, ?_⟩
    refine split_any_e e (fun c48 e => ?_) (fun c48 e => ?_)
    · refine ⟨_, ldk (k := 1) (Sub.refl _) (O13.all 8 rfl) (T_api_Event.g1 he7), _, rfl, ?_⟩
      refine split_eq_e e (fun c46 e => ?_) (fun c46 e => ?_)
      · refine ⟨_, ld0 (Sub.refl _) (O13.all 0 rfl) rfl, _, _, _, rfl, ?_⟩
        obtain ⟨y21, g22, e⟩ := bind_e e
        have O27 := O13.nm
        obtain ⟨m28, u29, s35, ⟨hb32, hb33, hb34, _⟩, B30, C31⟩ := O27.lend0 [8, 0, 6]
        refine (slices_ContainsFunc_15.walk (Hold.start (W := No) s35) rfl ke_3_0 (re_3_0.sub T_api_Event.T u29) (fun h37 m38 u39 s40 y43 cs43 he43 r41 e42 => CallF.of [Value.agg cs43.toArray, Value.pointer (some ⟨(Array.size h), 0, none⟩), Value.pointer (some ⟨bk_3, 0, none⟩), Value.pointer (some ⟨bk_24, 0, none⟩)] f16.ok rfl ((roadlaw4_CutSays_1.walk (Hold.start (W := No) s40) he43 (VB.sub (show VB T_api_Event.E _ _ _ from ⟨_, _, hb32, nn_len (T_api_Event.T.len _ _ _ he7), (T_api_Event.T.mono _ _ _ _ u29 he7)⟩) T_api_Event.T u39) (VB.sub (show VB (eRow 3 T_api_Event.E) _ _ _ from ⟨_, _, hb33, nn, ⟨_, _, rfl, ke_3_0, (re_3_0.sub T_api_Event.T u29)⟩⟩) (tell_row T_api_Event.T) u39) (VB.sub (show VB (eRow 1 eBool) _ _ _ from ⟨_, _, hb34, nn, ⟨_, _, rfl, ke_24_0, (re_24_0.sub tell_bool u29)⟩⟩) (tell_row tell_bool) u39) e42).mono (fun _ _ h => let ⟨_, t, e⟩ := h; ⟨e, t.S.ext⟩))) g22).mono ?_
        rintro _ h23 ⟨m24, Q25, rfl⟩
        have O44 := Hold.nm (C31 Q25 vfs_nil)
        refine ⟨_, rfl, ?_⟩
        exact (ih _ _ e) _ _ _ _ _ _ _ _ _ _ _ _ _ _ _ _ _ _ _ _ _ _ _ _ _ _ _ _ _ _ _ _ _ _ _ _ _ _ (O44.pick [0, 1, 2, 3, 4, 5, 6, 7, 8]).nm rfl k_1 r_1 rfl k_2 r_2 ⟨_, _, rfl, ke_3_0, re_3_0⟩ rfl rfl rfl rfl rfl ⟨_, _, rfl, ke_24_0, re_24_0⟩ rfl he7 rfl k_137 r_137
      · have O45 := O13.nm
        exact (ih _ _ e) _ _ _ _ _ _ _ _ _ _ _ _ _ _ _ _ _ _ _ _ _ _ _ _ _ _ _ _ _ _ _ _ _ _ _ _ _ _ (O45.pick [0, 1, 2, 3, 4, 5, 6, 7, 8]).nm rfl k_1 r_1 rfl k_2 r_2 ⟨_, _, rfl, ke_3_0, re_3_0⟩ rfl rfl rfl rfl rfl ⟨_, _, rfl, ke_24_0, re_24_0⟩ rfl he7 rfl k_137 r_137
    · have O47 := O13.nm
      exact (ih _ _ e) _ _ _ _ _ _ _ _ _ _ _ _ _ _ _ _ _ _ _ _ _ _ _ _ _ _ _ _ _ _ _ _ _ _ _ _ _ _ (O47.pick [0, 1, 2, 3, 4, 5, 6, 7, 8]).nm rfl k_1 r_1 rfl k_2 r_2 ⟨_, _, rfl, ke_3_0, re_3_0⟩ rfl rfl rfl rfl rfl ⟨_, _, rfl, ke_24_0, re_24_0⟩ rfl he7 rfl k_137 r_137
  · obtain ⟨y49, g50, e⟩ := bind_e e
    obtain ⟨W55, P56, B57, C58⟩ := O.callC [7]
    refine (slices_Sort_18.walk P56 rfl g50).mono ?_
    rintro _ h51 ⟨m52, Q53, rfl, hl59⟩
    have O60 := Hold.nm (C58 Q53 (vfs_cons (rR_vf (aE_vf (fun _ _ _ _ h => h))) vfs_nil))
    refine ⟨rfl, ?_⟩
    refine split_ne_e e (fun c147 e => ?_) (fun c147 e => ?_)
    · cases e
      exact ⟨_, O60.pick [], rfl⟩
    · refine split_ne_e e (fun c146 e => ?_) (fun c146 e => ?_)
      · cases e
        exact ⟨_, O60.pick [], rfl⟩
      · refine split_ne_e e (fun c145 e => ?_) (fun c145 e => ?_)
        · cases e
          exact ⟨_, O60.pick [], rfl⟩
        · refine split_ne_e e (fun c144 e => ?_) (fun c144 e => ?_)
          · cases e
            exact ⟨_, O60.pick [], rfl⟩
          · refine ⟨_, ld0 (Sub.refl _) (O60.all 0 rfl) rfl, _, _, _, rfl, ?_⟩
            obtain ⟨y61, g62, e⟩ := bind_e e
            refine (roadref4_Whole.walk (Hold.start (W := No) O60.s) rfl ke_3_0 re_3_0 rfl k_1 r_1 g62).mono ?_
            rintro _ h63 ⟨m64, Q65, rfl⟩
            have O67 := Hold.nm (O60.retC Q65 vfs_nil)
            refine ⟨_, rfl, ?_⟩
            refine split_not ?_
            refine split_any_e e (fun c143 e => ?_) (fun c143 e => ?_)
            · obtain ⟨y68, g69, e⟩ := bind_e e
              obtain ⟨m74, u75, s82, ⟨⟨r78, k79⟩, ⟨r80, k81⟩, _⟩, B76, C77⟩ := O67.lend0 [1, 8]
              replace r78 : Rd 1 (eInt .i64) m74 A_13 a_13 := r78
              replace k79 : List.length a_13 ≤ c_13 := k79
              replace r80 : Rd 1 (eInt .i64) m74 A_25 y49 := r80
              replace k81 : List.length y49 ≤ c_25 := k81
              refine (slices_Equal_8.walk (Hold.start (W := No) s82) rfl k79 r78 hl59 k81 r80 g69).mono ?_
              rintro _ h70 ⟨m71, Q72, rfl⟩
              have O83 := Hold.nm (C77 Q72 vfs_nil)
              refine ⟨_, rfl, ?_⟩
              refine split_not ?_
              refine split_any_e e (fun c142 e => ?_) (fun c142 e => ?_)
              · refine ⟨_, ld0 (Sub.refl _) (O83.all 0 rfl) rfl, _, _, _, rfl, ?_⟩
                obtain ⟨y84, g85, e⟩ := bind_e e
                refine (roadref4_Least.walk (Hold.start (W := No) O83.s) rfl ke_3_0 re_3_0 rfl k_1 r_1 g85).mono ?_
                rintro _ h86 ⟨m87, A90, n91, c92, Q88, rfl, ne93⟩
                have O95 := Hold.nm (O83.retC Q88 (vfs_cons (rR_vf (aE_vf (fun _ _ _ _ h => h))) vfs_nil))
                subst ne93
                refine ⟨_, _, _, rfl, ?_⟩
                obtain ⟨y96, g97, e⟩ := bind_e e
                obtain ⟨m102, u103, s110, ⟨⟨r106, k107⟩, ⟨r108, k109⟩, _⟩, B104, C105⟩ := O95.lend0 [2, 9]
                replace r106 : Rd 1 (eInt .i64) m102 A_15 a_15 := r106
                replace k107 : List.length a_15 ≤ c_15 := k107
                replace r108 : Rd 1 (eInt .i64) m102 A90 y84 := r108
                replace k109 : List.length y84 ≤ c92 := k109
                refine (slices_Equal_8.walk (Hold.start (W := No) s110) rfl k107 r106 rfl k109 r108 g97).mono ?_
                rintro _ h98 ⟨m99, Q100, rfl⟩
                have O111 := Hold.nm (C105 Q100 vfs_nil)
                refine ⟨_, rfl, ?_⟩
                refine split_not ?_
                refine split_any_e e (fun c141 e => ?_) (fun c141 e => ?_)
                · refine ⟨_, ld0 (Sub.refl _) (O111.all 0 rfl) rfl, _, _, _, rfl, ?_⟩
                  obtain ⟨y112, g113, e⟩ := bind_e e
                  refine (roadref4_Most.walk (Hold.start (W := No) O111.s) rfl ke_3_0 re_3_0 rfl k_1 r_1 g113).mono ?_
                  rintro _ h114 ⟨m115, A118, n119, c120, Q116, rfl, ne121⟩
                  have O123 := Hold.nm (O111.retC Q116 (vfs_cons (rR_vf (aE_vf (fun _ _ _ _ h => h))) vfs_nil))
                  subst ne121
                  refine ⟨_, _, _, rfl, ?_⟩
                  obtain ⟨y124, g125, e⟩ := bind_e e
                  obtain ⟨m130, u131, s138, ⟨⟨r134, k135⟩, ⟨r136, k137⟩, _⟩, B132, C133⟩ := O123.lend0 [3, 10]
                  replace r134 : Rd 1 (eInt .i64) m130 A_17 a_17 := r134
                  replace k135 : List.length a_17 ≤ c_17 := k135
                  replace r136 : Rd 1 (eInt .i64) m130 A118 y112 := r136
                  replace k137 : List.length y112 ≤ c120 := k137
                  refine (slices_Equal_8.walk (Hold.start (W := No) s138) rfl k135 r134 rfl k137 r136 g125).mono ?_
                  rintro _ h126 ⟨m127, Q128, rfl⟩
                  have O139 := Hold.nm (C133 Q128 vfs_nil)
                  refine ⟨_, rfl, ?_⟩
                  refine split_not ?_
                  refine split_any_e e (fun c140 e => ?_) (fun c140 e => ?_)
                  · exact roadlaw4_CutSays.j2.walk (O139.pick [0, 4, 5]).nm rfl k_1 r_1 rfl k_2 r_2 ⟨_, _, rfl, ke_3_0, re_3_0⟩ rfl rfl e
                  · cases e
                    exact ⟨_, O139.pick [], rfl⟩
                · cases e
                  exact ⟨_, O111.pick [], rfl⟩
              · cases e
                exact ⟨_, O83.pick [], rfl⟩
            · cases e
              exact ⟨_, O67.pick [], rfl⟩
set_option maxRecDepth 100000 in
theorem roadlaw4_CutSays.l1_k.step_j4 (go : (p : roadlaw4_CutSays.l1_k.Pt) → Option (Bool)) (ih : ∀ p r, go p = some r → roadlaw4_CutSays.l1_k.I p r) (a_1 : List Int) (a_2 : List Int) (y_3 : (List T_api_Event)) (b_11 : Bool) (x_12 : Int) (a_13 : List Int) (x_14 : Int) (a_15 : List Int) (x_16 : Int) (a_17 : List Int) (x_18 : Int) (a_19 : List Int) (x_20 : Int) (a_21 : List Int) (x_22 : Int) (y_24 : (List Bool)) (a_25 : List Int) (y_27 : T_api_Event) (a_137 : List T_api_Event) (x_138 : Int) (x_139 : Int) (b_158 : Bool) (r : Bool) (e : roadlaw4_CutSays.l1_k.body go (.j4 a_1 a_2 y_3 b_11 x_12 a_13 x_14 a_15 x_16 a_17 x_18 a_19 x_20 a_21 x_22 y_24 a_25 y_27 a_137 x_138 x_139 b_158) = some r) : roadlaw4_CutSays.l1_k.I (.j4 a_1 a_2 y_3 b_11 x_12 a_13 x_14 a_15 x_16 a_17 x_18 a_19 x_20 a_21 x_22 y_24 a_25 y_27 a_137 x_138 x_139 b_158) r := by
  unfold roadlaw4_CutSays.l1_k.body at e
  intro W h0 m0 h m A_1 n_1 c_1 A_2 n_2 c_2 bk_3 cs_3 A_13 n_13 c_13 A_15 n_15 c_15 A_17 n_17 c_17 A_19 n_19 c_19 A_21 n_21 c_21 bk_24 cs_24 A_25 n_25 c_25 bk_27 cs_27 A_137 n_137 c_137 O ne_1 k_1 r_1 ne_2 k_2 r_2 e_3 ne_13 ne_15 ne_17 ne_19 ne_21 e_24 ne_25 e_27 ne_137 k_137 r_137
  subst ne_1
  subst ne_2
  obtain ⟨Ae_3_0, ce_3_0, rfl, ke_3_0, re_3_0⟩ := id e_3
  subst ne_13
  subst ne_15
  subst ne_17
  subst ne_19
  subst ne_21
  obtain ⟨Ae_24_0, ce_24_0, rfl, ke_24_0, re_24_0⟩ := id e_24
  subst ne_25
  subst ne_137
  refine f3.j4_in ?_
  unfold f3.j4T
  refine split_any_e e (fun c15 e => ?_) (fun c15 e => ?_)
  · refine ⟨_, ldk (k := 2) (Sub.refl _) (O.all 8 rfl) (T_api_Event.g2 e_27), _, rfl, ?_⟩
    refine O.new fun h1 x2 O3 => ?_
    obtain ⟨l5, g6, e⟩ := bind_e e
    have O13 := O3.rowE (l := ([y_27.Msg] : List Int)) 9 rfl (tell_int .i64) (show CsE _ _ _ _ _ from (CsE.cons (c1 := [(Value.int .i64 y_27.Msg)]) rfl rfl CsE.nil)) rfl
    refine O13.app 7 rfl rfl rfl ((O13.os 9 rfl).srcE rfl) (by decide) g6 fun A7 c8 h9 O10 => ?_
    refine ⟨_, _, _, rfl, ?_⟩
    have O14 := O10.nm
    exact (ih _ _ e) _ _ _ _ _ _ _ _ _ _ _ _ _ _ _ _ _ _ _ _ _ _ _ _ _ _ _ _ _ _ _ _ _ _ _ _ (O14.pick [0, 1, 2, 3, 4, 5, 6, 7]).nm rfl k_1 r_1 rfl k_2 r_2 ⟨_, _, rfl, ke_3_0, re_3_0⟩ rfl rfl rfl rfl rfl ⟨_, _, rfl, ke_24_0, re_24_0⟩ rfl rfl k_137 r_137
  · exact (ih _ _ e) _ _ _ _ _ _ _ _ _ _ _ _ _ _ _ _ _ _ _ _ _ _ _ _ _ _ _ _ _ _ _ _ _ _ _ _ (O.pick [0, 1, 2, 3, 4, 5, 6, 7]).nm rfl k_1 r_1 rfl k_2 r_2 ⟨_, _, rfl, ke_3_0, re_3_0⟩ rfl rfl rfl rfl rfl ⟨_, _, rfl, ke_24_0, re_24_0⟩ rfl rfl k_137 r_137
theorem roadlaw4_CutSays.l1_k.all {p : roadlaw4_CutSays.l1_k.Pt} {r : (Bool)} (e : roadlaw4_CutSays.l1_k.go p = some r) : roadlaw4_CutSays.l1_k.I p r := fixF_ind (β := fun _ => (Bool)) roadlaw4_CutSays.l1_k.mono (I := roadlaw4_CutSays.l1_k.I) (fun go ih p r e => match p with
  | .l1 a_1 a_2 y_3 b_11 x_12 a_13 x_14 a_15 x_16 a_17 x_18 a_19 x_20 a_21 x_22 y_24 a_25 a_137 x_138 x_139 => roadlaw4_CutSays.l1_k.step_l1 go ih a_1 a_2 y_3 b_11 x_12 a_13 x_14 a_15 x_16 a_17 x_18 a_19 x_20 a_21 x_22 y_24 a_25 a_137 x_138 x_139 r e
  | .j4 a_1 a_2 y_3 b_11 x_12 a_13 x_14 a_15 x_16 a_17 x_18 a_19 x_20 a_21 x_22 y_24 a_25 y_27 a_137 x_138 x_139 b_158 => roadlaw4_CutSays.l1_k.step_j4 go ih a_1 a_2 y_3 b_11 x_12 a_13 x_14 a_15 x_16 a_17 x_18 a_19 x_20 a_21 x_22 y_24 a_25 y_27 a_137 x_138 x_139 b_158 r e
  ) e
theorem roadlaw4_CutSays.l1.walk {W : Nat → Prop} {h0 m0 h m : Heap} {A_1 : Option Addr} {n_1 c_1 : Nat} {A_2 : Option Addr} {n_2 c_2 : Nat} {bk_3 : Nat} {cs_3 : List Value} {A_13 : Option Addr} {n_13 c_13 : Nat} {A_15 : Option Addr} {n_15 c_15 : Nat} {A_17 : Option Addr} {n_17 c_17 : Nat} {A_19 : Option Addr} {n_19 c_19 : Nat} {A_21 : Option Addr} {n_21 c_21 : Nat} {bk_24 : Nat} {cs_24 : List Value} {A_25 : Option Addr} {n_25 c_25 : Nat} {A_137 : Option Addr} {n_137 c_137 : Nat} {a_1 : List Int} {a_2 : List Int} {y_3 : (List T_api_Event)} {b_11 : Bool} {x_12 : Int} {a_13 : List Int} {x_14 : Int} {a_15 : List Int} {x_16 : Int} {a_17 : List Int} {x_18 : Int} {a_19 : List Int} {x_20 : Int} {a_21 : List Int} {x_22 : Int} {y_24 : (List Bool)} {a_25 : List Int} {a_137 : List T_api_Event} {x_138 : Int} {x_139 : Int} (O : Hold W h0 m0 h m [rV bk_3 22 cs_3, rR (aE (tell_int .i64)) A_13 c_13 a_13, rR (aE (tell_int .i64)) A_15 c_15 a_15, rR (aE (tell_int .i64)) A_17 c_17 a_17, rR (aE (tell_int .i64)) A_19 c_19 a_19, rR (aE (tell_int .i64)) A_21 c_21 a_21, rV bk_24 33 cs_24, rR (aE (tell_int .i64)) A_25 c_25 a_25]) (ne_1 : n_1 = List.length a_1) (k_1 : List.length a_1 ≤ c_1) (r_1 : Rd 1 (eInt .i64) m A_1 a_1) (ne_2 : n_2 = List.length a_2) (k_2 : List.length a_2 ≤ c_2) (r_2 : Rd 1 (eInt .i64) m A_2 a_2) (e_3 : (eRow 3 T_api_Event.E) m y_3 cs_3) (ne_13 : n_13 = List.length a_13) (ne_15 : n_15 = List.length a_15) (ne_17 : n_17 = List.length a_17) (ne_19 : n_19 = List.length a_19) (ne_21 : n_21 = List.length a_21) (e_24 : (eRow 1 eBool) m y_24 cs_24) (ne_25 : n_25 = List.length a_25) (ne_137 : n_137 = List.length a_137) (k_137 : List.length a_137 ≤ c_137) (r_137 : Rd 3 T_api_Event.E m A_137 a_137) {r : Bool} (e : roadlaw4_CutSays.l1 a_1 a_2 y_3 b_11 x_12 a_13 x_14 a_15 x_16 a_17 x_18 a_19 x_20 a_21 x_22 y_24 a_25 a_137 x_138 x_139 = some r) : f3.l1 (roadlaw4_CutSays.post W h0 m0 r) A_1 n_1 c_1 A_2 n_2 c_2 (⟨bk_3, 0, none⟩ : Addr) b_11 x_12 A_13 n_13 c_13 x_14 A_15 n_15 c_15 x_16 A_17 n_17 c_17 x_18 A_19 n_19 c_19 x_20 A_21 n_21 c_21 x_22 (⟨bk_24, 0, none⟩ : Addr) A_25 n_25 c_25 A_137 n_137 c_137 x_138 x_139 h := roadlaw4_CutSays.l1_k.all (p := .l1 a_1 a_2 y_3 b_11 x_12 a_13 x_14 a_15 x_16 a_17 x_18 a_19 x_20 a_21 x_22 y_24 a_25 a_137 x_138 x_139) e W h0 m0 h m A_1 n_1 c_1 A_2 n_2 c_2 bk_3 cs_3 A_13 n_13 c_13 A_15 n_15 c_15 A_17 n_17 c_17 A_19 n_19 c_19 A_21 n_21 c_21 bk_24 cs_24 A_25 n_25 c_25 A_137 n_137 c_137 O ne_1 k_1 r_1 ne_2 k_2 r_2 e_3 ne_13 ne_15 ne_17 ne_19 ne_21 e_24 ne_25 ne_137 k_137 r_137
noncomputable def roadlaw4_CutSays.j1 (a_1 : List Int) (a_2 : List Int) (y_3 : (List T_api_Event)) : Option (Bool) :=
  Option.bind (cut_Whole y_3 a_1) fun y1 => Option.bind (cut_Way y_3 a_1) fun y8 => Option.bind (cut_Least y_3 a_1) fun y20 => Option.bind (cut_Most y_3 a_1) fun y32 => Option.bind (cut_Join y_3 a_1 a_2) fun y44 => Option.bind (cut_Meet y_3 a_1 a_2) fun y56 => Option.bind (roadref4_Cuts y_3 ([a_1] : List (List Int))) fun y73 => if y73 = (0 : Int) then (Option.bind (roadref4_In y_3 a_1) fun y96 => (roadlaw4_CutSays.l1 a_1 a_2 y_3 y1.1 y1.2 y8.1 y8.2 y20.1 y20.2 y32.1 y32.2 y44.1 y44.2 y56.1 y56.2 y96 ([] : List Int) y_3 (((List.length y_3) : Nat) : Int) (0 : Int))) else (if y1.2 = y73 then (if y8.2 = y73 then (if y20.2 = y73 then (if y32.2 = y73 then (if y1.1 = true then (some (false)) else (if (((List.length y8.1) : Nat) : Int) = (0 : Int) then (if (((List.length y20.1) : Nat) : Int) = (0 : Int) then (if (((List.length y32.1) : Nat) : Int) = (0 : Int) then ((roadlaw4_CutSays.j2 a_1 a_2 y_3 y44.1 y44.2 y56.1 y56.2)) else (some (false))) else (some (false))) else (some (false)))) else (some (false))) else (some (false))) else (some (false))) else (some (false)))
set_option maxHeartbeats 4000000 in
set_option maxRecDepth 100000 in
theorem roadlaw4_CutSays.j1.walk {W : Nat → Prop} {h0 m0 h m : Heap} {A_1 : Option Addr} {n_1 c_1 : Nat} {A_2 : Option Addr} {n_2 c_2 : Nat} {bk_3 : Nat} {cs_3 : List Value} {a_1 : List Int} {a_2 : List Int} {y_3 : (List T_api_Event)} (O : Hold W h0 m0 h m [rV bk_3 22 cs_3]) (ne_1 : n_1 = List.length a_1) (k_1 : List.length a_1 ≤ c_1) (r_1 : Rd 1 (eInt .i64) m A_1 a_1) (ne_2 : n_2 = List.length a_2) (k_2 : List.length a_2 ≤ c_2) (r_2 : Rd 1 (eInt .i64) m A_2 a_2) (e_3 : (eRow 3 T_api_Event.E) m y_3 cs_3) {r : Bool} (e : roadlaw4_CutSays.j1 a_1 a_2 y_3 = some r) : f3.j1 (roadlaw4_CutSays.post W h0 m0 r) A_1 n_1 c_1 A_2 n_2 c_2 (⟨bk_3, 0, none⟩ : Addr) h := by
  unfold roadlaw4_CutSays.j1 at e
  subst ne_1
  subst ne_2
  obtain ⟨Ae_3_0, ce_3_0, rfl, ke_3_0, re_3_0⟩ := id e_3
  refine f3.j1_in ?_
  unfold f3.j1T
  refine ⟨_, ld0 (Sub.refl _) (O.all 0 rfl) rfl, _, _, _, rfl, ?_⟩
  obtain ⟨y1, g2, e⟩ := bind_e e
  refine (cut_Whole.walk (Hold.start (W := No) O.s) rfl ke_3_0 re_3_0 rfl k_1 r_1 g2).mono ?_
  rintro _ h3 ⟨m4, Q5, rfl⟩
  have O7 := Hold.nm (O.retC Q5 vfs_nil)
  refine ⟨_, _, rfl, ?_⟩
  refine ⟨_, ld0 (Sub.refl _) (O7.all 0 rfl) rfl, _, _, _, rfl, ?_⟩
  obtain ⟨y8, g9, e⟩ := bind_e e
  refine (cut_Way.walk (Hold.start (W := No) O7.s) rfl ke_3_0 re_3_0 rfl k_1 r_1 g9).mono ?_
  rintro _ h10 ⟨m11, A14, n15, c16, Q12, rfl, ne17⟩
  have O19 := Hold.nm (O7.retC Q12 (vfs_cons (rR_vf (aE_vf (fun _ _ _ _ h => h))) vfs_nil))
  subst ne17
  refine ⟨_, _, _, _, rfl, ?_⟩
  refine ⟨_, ld0 (Sub.refl _) (O19.all 0 rfl) rfl, _, _, _, rfl, ?_⟩
  obtain ⟨y20, g21, e⟩ := bind_e e
  refine (cut_Least.walk (Hold.start (W := No) O19.s) rfl ke_3_0 re_3_0 rfl k_1 r_1 g21).mono ?_
  rintro _ h22 ⟨m23, A26, n27, c28, Q24, rfl, ne29⟩
  have O31 := Hold.nm (O19.retC Q24 (vfs_cons (rR_vf (aE_vf (fun _ _ _ _ h => h))) vfs_nil))
  subst ne29
  refine ⟨_, _, _, _, rfl, ?_⟩
  refine ⟨_, ld0 (Sub.refl _) (O31.all 0 rfl) rfl, _, _, _, rfl, ?_⟩
  obtain ⟨y32, g33, e⟩ := bind_e e
  refine (cut_Most.walk (Hold.start (W := No) O31.s) rfl ke_3_0 re_3_0 rfl k_1 r_1 g33).mono ?_
  rintro _ h34 ⟨m35, A38, n39, c40, Q36, rfl, ne41⟩
  have O43 := Hold.nm (O31.retC Q36 (vfs_cons (rR_vf (aE_vf (fun _ _ _ _ h => h))) vfs_nil))
  subst ne41
  refine ⟨_, _, _, _, rfl, ?_⟩
  refine ⟨_, ld0 (Sub.refl _) (O43.all 0 rfl) rfl, _, _, _, rfl, ?_⟩
  obtain ⟨y44, g45, e⟩ := bind_e e
  refine (cut_Join.walk (Hold.start (W := No) O43.s) rfl ke_3_0 re_3_0 rfl k_1 r_1 rfl k_2 r_2 g45).mono ?_
  rintro _ h46 ⟨m47, A50, n51, c52, Q48, rfl, ne53⟩
  have O55 := Hold.nm (O43.retC Q48 (vfs_cons (rR_vf (aE_vf (fun _ _ _ _ h => h))) vfs_nil))
  subst ne53
  refine ⟨_, _, _, _, rfl, ?_⟩
  refine ⟨_, ld0 (Sub.refl _) (O55.all 0 rfl) rfl, _, _, _, rfl, ?_⟩
  obtain ⟨y56, g57, e⟩ := bind_e e
  refine (cut_Meet.walk (Hold.start (W := No) O55.s) rfl ke_3_0 re_3_0 rfl k_1 r_1 rfl k_2 r_2 g57).mono ?_
  rintro _ h58 ⟨m59, A62, n63, c64, Q60, rfl, ne65⟩
  have O67 := Hold.nm (O55.retC Q60 (vfs_cons (rR_vf (aE_vf (fun _ _ _ _ h => h))) vfs_nil))
  subst ne65
  refine ⟨_, _, _, _, rfl, ?_⟩
  refine ⟨_, ld0 (Sub.refl _) (O67.all 0 rfl) rfl, _, _, _, rfl, ?_⟩
  refine O67.new fun h68 x69 O70 => ?_
  obtain ⟨y73, g74, e⟩ := bind_e e
  have O72 := O70.rowE (l := ([a_1] : List (List Int))) 6 rfl (tell_row (tell_int .i64)) (show CsE _ _ _ _ _ from (CsE.cons (c1 := [(Value.slice A_1 (List.length a_1) c_1)]) ⟨_, _, rfl, k_1, r_1⟩ rfl CsE.nil)) rfl
  have O79 := O72.nm
  obtain ⟨m80, u81, s86, ⟨⟨r84, k85⟩, _⟩, B82, C83⟩ := O79.lend0 [6]
  replace r84 : Rd 1 (eRow 1 (eInt .i64)) m80 (some ⟨(Array.size h58), 0, none⟩) ([a_1] : List (List Int)) := r84
  replace k85 : List.length ([a_1] : List (List Int)) ≤ 1 := k85
  refine (roadref4_Cuts.walk (Hold.start (W := No) s86) rfl ke_3_0 (re_3_0.sub T_api_Event.T u81) rfl k85 r84 g74).mono ?_
  rintro _ h75 ⟨m76, Q77, rfl⟩
  have O87 := Hold.nm (C83 Q77 vfs_nil)
  refine ⟨_, rfl, ?_⟩
  refine split_ne_e e (fun c122 e => ?_) (fun c122 e => ?_)
  · refine split_ne_e e (fun c95 e => ?_) (fun c95 e => ?_)
    · cases e
      exact ⟨_, O87.pick [], rfl⟩
    · refine split_ne_e e (fun c94 e => ?_) (fun c94 e => ?_)
      · cases e
        exact ⟨_, O87.pick [], rfl⟩
      · refine split_ne_e e (fun c93 e => ?_) (fun c93 e => ?_)
        · cases e
          exact ⟨_, O87.pick [], rfl⟩
        · refine split_ne_e e (fun c92 e => ?_) (fun c92 e => ?_)
          · cases e
            exact ⟨_, O87.pick [], rfl⟩
          · refine split_any_e e (fun c91 e => ?_) (fun c91 e => ?_)
            · cases e
              exact ⟨_, O87.pick [], rfl⟩
            · refine split_ne_e e (fun c90 e => ?_) (fun c90 e => ?_)
              · cases e
                exact ⟨_, O87.pick [], rfl⟩
              · refine split_ne_e e (fun c89 e => ?_) (fun c89 e => ?_)
                · cases e
                  exact ⟨_, O87.pick [], rfl⟩
                · refine split_ne_e e (fun c88 e => ?_) (fun c88 e => ?_)
                  · cases e
                    exact ⟨_, O87.pick [], rfl⟩
                  · exact roadlaw4_CutSays.j2.walk (O87.pick [0, 4, 5]).nm rfl k_1 r_1 rfl k_2 r_2 ⟨_, _, rfl, ke_3_0, re_3_0⟩ rfl rfl e
  · refine ⟨_, ld0 (Sub.refl _) (O87.all 0 rfl) rfl, _, _, _, rfl, ?_⟩
    obtain ⟨y96, g97, e⟩ := bind_e e
    refine (roadref4_In.walk (Hold.start (W := No) O87.s) rfl ke_3_0 re_3_0 rfl k_1 r_1 g97).mono ?_
    rintro _ h98 ⟨m99, A102, n103, c104, Q100, rfl, ne105⟩
    have O107 := Hold.nm (O87.retC Q100 (vfs_cons (rR_vf (aE_vf (fun _ _ _ _ h => h))) vfs_nil))
    subst ne105
    refine ⟨_, _, _, rfl, ?_⟩
    refine O107.new fun h108 x109 O110 => ?_
    refine O110.st0 8 rfl (Nat.le_of_ble_eq_true rfl) trivial fun h112 O113 => ?_
    refine ⟨_, ld0 (Sub.refl _) (O113.all 0 rfl) rfl, _, _, _, rfl, ?_⟩
    obtain ⟨m114, u115, ⟨r116, k117⟩, O118⟩ := O113.frz 7 rfl
    replace r116 : Rd 1 eBool m114 A102 y96 := r116
    have O119 := O118.nil (aE (tell_int .i64)) none
    have O121 := O119.nm
    exact roadlaw4_CutSays.l1.walk (O121.pick [0, 1, 2, 3, 4, 5, 8, 9]).nm rfl k_1 (r_1.sub (tell_int .i64) u115) rfl k_2 (r_2.sub (tell_int .i64) u115) ⟨_, _, rfl, ke_3_0, (re_3_0.sub T_api_Event.T u115)⟩ rfl rfl rfl rfl rfl ⟨_, _, rfl, k117, r116⟩ rfl rfl ke_3_0 (re_3_0.sub T_api_Event.T u115) e
noncomputable def roadlaw4_CutSays.j0 (a_1 : List Int) (a_2 : List Int) (y_3 : (List T_api_Event)) : Option (Bool) :=
  Option.bind (roadlaw4_two ) fun y1 => Option.bind (cut_Least y1 ([(0 : Int), (1 : Int), (0 : Int), (0 : Int), (0 : Int), (0 : Int), (0 : Int), (0 : Int)] : List Int)) fun y18 => if y18.2 = (0 : Int) then (Option.bind (slices_Equal_8 y18.1 ([(1 : Int), (1 : Int), (0 : Int), (0 : Int), (0 : Int), (0 : Int), (0 : Int), (0 : Int)] : List Int)) fun y45 => if y45 = true then ((roadlaw4_CutSays.j1 a_1 a_2 y_3)) else (some (false))) else (some (false))
set_option maxHeartbeats 4000000 in
set_option maxRecDepth 100000 in
theorem roadlaw4_CutSays.j0.walk {W : Nat → Prop} {h0 m0 h m : Heap} {A_1 : Option Addr} {n_1 c_1 : Nat} {A_2 : Option Addr} {n_2 c_2 : Nat} {bk_3 : Nat} {cs_3 : List Value} {a_1 : List Int} {a_2 : List Int} {y_3 : (List T_api_Event)} (O : Hold W h0 m0 h m [rV bk_3 22 cs_3]) (ne_1 : n_1 = List.length a_1) (k_1 : List.length a_1 ≤ c_1) (r_1 : Rd 1 (eInt .i64) m A_1 a_1) (ne_2 : n_2 = List.length a_2) (k_2 : List.length a_2 ≤ c_2) (r_2 : Rd 1 (eInt .i64) m A_2 a_2) (e_3 : (eRow 3 T_api_Event.E) m y_3 cs_3) {r : Bool} (e : roadlaw4_CutSays.j0 a_1 a_2 y_3 = some r) : f3.j0 (roadlaw4_CutSays.post W h0 m0 r) A_1 n_1 c_1 A_2 n_2 c_2 (⟨bk_3, 0, none⟩ : Addr) h := by
  unfold roadlaw4_CutSays.j0 at e
  subst ne_1
  subst ne_2
  obtain ⟨Ae_3_0, ce_3_0, rfl, ke_3_0, re_3_0⟩ := id e_3
  refine f3.j0_in ?_
  unfold f3.j0T
  obtain ⟨y1, g2, e⟩ := bind_e e
  refine (roadlaw4_two.walk (Hold.start (W := No) O.s)  g2).mono ?_
  rintro _ h3 ⟨m4, A7, n8, c9, Q5, rfl, ne10⟩
  have O12 := Hold.nm (O.retC Q5 (vfs_cons (rR_vf (aE_vf (fun _ _ _ _ h => T_api_Event.keep h))) vfs_nil))
  subst ne10
  refine ⟨_, _, _, rfl, ?_⟩
  refine O12.new fun h13 x14 O15 => ?_
  obtain ⟨y18, g19, e⟩ := bind_e e
  have O17 := O15.rowE (l := ([(0 : Int), (1 : Int), (0 : Int), (0 : Int), (0 : Int), (0 : Int), (0 : Int), (0 : Int)] : List Int)) 2 rfl (tell_int .i64) (show CsE _ _ _ _ _ from (CsE.cons (c1 := [(Value.int .i64 (0 : Int))]) rfl rfl (CsE.cons (c1 := [(Value.int .i64 (1 : Int))]) rfl rfl (CsE.cons (c1 := [(Value.int .i64 (0 : Int))]) rfl rfl (CsE.cons (c1 := [(Value.int .i64 (0 : Int))]) rfl rfl (CsE.cons (c1 := [(Value.int .i64 (0 : Int))]) rfl rfl (CsE.cons (c1 := [(Value.int .i64 (0 : Int))]) rfl rfl (CsE.cons (c1 := [(Value.int .i64 (0 : Int))]) rfl rfl (CsE.cons (c1 := [(Value.int .i64 (0 : Int))]) rfl rfl CsE.nil))))))))) rfl
  have O24 := O17.nm
  obtain ⟨m25, u26, s33, ⟨⟨r29, k30⟩, ⟨r31, k32⟩, _⟩, B27, C28⟩ := O24.lend0 [1, 2]
  replace r29 : Rd 3 T_api_Event.E m25 A7 y1 := r29
  replace k30 : List.length y1 ≤ c9 := k30
  replace r31 : Rd 1 (eInt .i64) m25 (some ⟨(Array.size h3), 0, none⟩) ([(0 : Int), (1 : Int), (0 : Int), (0 : Int), (0 : Int), (0 : Int), (0 : Int), (0 : Int)] : List Int) := r31
  replace k32 : List.length ([(0 : Int), (1 : Int), (0 : Int), (0 : Int), (0 : Int), (0 : Int), (0 : Int), (0 : Int)] : List Int) ≤ 8 := k32
  refine (cut_Least.walk (Hold.start (W := No) s33) rfl k30 r29 rfl k32 r31 g19).mono ?_
  rintro _ h20 ⟨m21, A34, n35, c36, Q22, rfl, ne37⟩
  have O39 := Hold.nm (C28 Q22 (vfs_cons (rR_vf (aE_vf (fun _ _ _ _ h => h))) vfs_nil))
  subst ne37
  refine ⟨_, _, _, _, rfl, ?_⟩
  refine split_ne_e e (fun c63 e => ?_) (fun c63 e => ?_)
  · cases e
    exact ⟨_, O39.pick [], rfl⟩
  · refine O39.new fun h40 x41 O42 => ?_
    obtain ⟨y45, g46, e⟩ := bind_e e
    have O44 := O42.rowE (l := ([(1 : Int), (1 : Int), (0 : Int), (0 : Int), (0 : Int), (0 : Int), (0 : Int), (0 : Int)] : List Int)) 4 rfl (tell_int .i64) (show CsE _ _ _ _ _ from (CsE.cons (c1 := [(Value.int .i64 (1 : Int))]) rfl rfl (CsE.cons (c1 := [(Value.int .i64 (1 : Int))]) rfl rfl (CsE.cons (c1 := [(Value.int .i64 (0 : Int))]) rfl rfl (CsE.cons (c1 := [(Value.int .i64 (0 : Int))]) rfl rfl (CsE.cons (c1 := [(Value.int .i64 (0 : Int))]) rfl rfl (CsE.cons (c1 := [(Value.int .i64 (0 : Int))]) rfl rfl (CsE.cons (c1 := [(Value.int .i64 (0 : Int))]) rfl rfl (CsE.cons (c1 := [(Value.int .i64 (0 : Int))]) rfl rfl CsE.nil))))))))) rfl
    have O51 := O44.nm
    obtain ⟨m52, u53, s60, ⟨⟨r56, k57⟩, ⟨r58, k59⟩, _⟩, B54, C55⟩ := O51.lend0 [3, 4]
    replace r56 : Rd 1 (eInt .i64) m52 A34 y18.1 := r56
    replace k57 : List.length y18.1 ≤ c36 := k57
    replace r58 : Rd 1 (eInt .i64) m52 (some ⟨(Array.size h20), 0, none⟩) ([(1 : Int), (1 : Int), (0 : Int), (0 : Int), (0 : Int), (0 : Int), (0 : Int), (0 : Int)] : List Int) := r58
    replace k59 : List.length ([(1 : Int), (1 : Int), (0 : Int), (0 : Int), (0 : Int), (0 : Int), (0 : Int), (0 : Int)] : List Int) ≤ 8 := k59
    refine (slices_Equal_8.walk (Hold.start (W := No) s60) rfl k57 r56 rfl k59 r58 g46).mono ?_
    rintro _ h47 ⟨m48, Q49, rfl⟩
    have O61 := Hold.nm (C55 Q49 vfs_nil)
    refine ⟨_, rfl, ?_⟩
    refine split_not ?_
    refine split_any_e e (fun c62 e => ?_) (fun c62 e => ?_)
    · exact roadlaw4_CutSays.j1.walk (O61.pick [0]).nm rfl k_1 r_1 rfl k_2 r_2 ⟨_, _, rfl, ke_3_0, re_3_0⟩ e
    · cases e
      exact ⟨_, O61.pick [], rfl⟩
noncomputable def roadlaw4_CutSays (a_0 : List T_api_Event) (a_1 : List Int) (a_2 : List Int) : Option (Bool) :=
  Option.bind (roadlaw4_two ) fun y5 => Option.bind (cut_Whole y5 ([(0 : Int), (1 : Int), (0 : Int), (0 : Int), (0 : Int), (0 : Int), (0 : Int), (0 : Int)] : List Int)) fun y22 => if y22.2 = (0 : Int) then (if y22.1 = true then (some (false)) else ((roadlaw4_CutSays.j0 a_1 a_2 a_0))) else (some (false))
set_option maxRecDepth 100000 in
theorem roadlaw4_CutSays.walk {W : Nat → Prop} {h m : Heap} {A_0 : Option Addr} {n_0 c_0 : Nat} {A_1 : Option Addr} {n_1 c_1 : Nat} {A_2 : Option Addr} {n_2 c_2 : Nat} {a_0 : List T_api_Event} {a_1 : List Int} {a_2 : List Int} (O : Hold W h m h m []) (ne_0 : n_0 = List.length a_0) (k_0 : List.length a_0 ≤ c_0) (r_0 : Rd 3 T_api_Event.E m A_0 a_0) (ne_1 : n_1 = List.length a_1) (k_1 : List.length a_1 ≤ c_1) (r_1 : Rd 1 (eInt .i64) m A_1 a_1) (ne_2 : n_2 = List.length a_2) (k_2 : List.length a_2 ≤ c_2) (r_2 : Rd 1 (eInt .i64) m A_2 a_2) {r : Bool} (e : roadlaw4_CutSays a_0 a_1 a_2 = some r) : Run Try.prog 3 #[Value.slice A_0 n_0 c_0, Value.slice A_1 n_1 c_1, Value.slice A_2 n_2 c_2] h (roadlaw4_CutSays.post W h m r) := by
  unfold roadlaw4_CutSays at e
  subst ne_0
  subst ne_1
  subst ne_2
  refine f3.run ?_
  unfold f3.runT
  refine O.new fun h1 x2 O3 => ?_
  obtain ⟨y5, g6, e⟩ := bind_e e
  refine (roadlaw4_two.walk (Hold.start (W := No) O3.s)  g6).mono ?_
  rintro _ h7 ⟨m8, A11, n12, c13, Q9, rfl, ne14⟩
  have O16 := Hold.nm (O3.retC Q9 (vfs_cons (rR_vf (aE_vf (fun _ _ _ _ h => T_api_Event.keep h))) vfs_nil))
  subst ne14
  refine ⟨_, _, _, rfl, ?_⟩
  refine O16.new fun h17 x18 O19 => ?_
  obtain ⟨y22, g23, e⟩ := bind_e e
  have O21 := O19.rowE (l := ([(0 : Int), (1 : Int), (0 : Int), (0 : Int), (0 : Int), (0 : Int), (0 : Int), (0 : Int)] : List Int)) 2 rfl (tell_int .i64) (show CsE _ _ _ _ _ from (CsE.cons (c1 := [(Value.int .i64 (0 : Int))]) rfl rfl (CsE.cons (c1 := [(Value.int .i64 (1 : Int))]) rfl rfl (CsE.cons (c1 := [(Value.int .i64 (0 : Int))]) rfl rfl (CsE.cons (c1 := [(Value.int .i64 (0 : Int))]) rfl rfl (CsE.cons (c1 := [(Value.int .i64 (0 : Int))]) rfl rfl (CsE.cons (c1 := [(Value.int .i64 (0 : Int))]) rfl rfl (CsE.cons (c1 := [(Value.int .i64 (0 : Int))]) rfl rfl (CsE.cons (c1 := [(Value.int .i64 (0 : Int))]) rfl rfl CsE.nil))))))))) rfl
  have O28 := O21.nm
  obtain ⟨m29, u30, s37, ⟨⟨r33, k34⟩, ⟨r35, k36⟩, _⟩, B31, C32⟩ := O28.lend0 [1, 2]
  replace r33 : Rd 3 T_api_Event.E m29 A11 y5 := r33
  replace k34 : List.length y5 ≤ c13 := k34
  replace r35 : Rd 1 (eInt .i64) m29 (some ⟨(Array.size h7), 0, none⟩) ([(0 : Int), (1 : Int), (0 : Int), (0 : Int), (0 : Int), (0 : Int), (0 : Int), (0 : Int)] : List Int) := r35
  replace k36 : List.length ([(0 : Int), (1 : Int), (0 : Int), (0 : Int), (0 : Int), (0 : Int), (0 : Int), (0 : Int)] : List Int) ≤ 8 := k36
  refine (cut_Whole.walk (Hold.start (W := No) s37) rfl k34 r33 rfl k36 r35 g23).mono ?_
  rintro _ h24 ⟨m25, Q26, rfl⟩
  have O38 := Hold.nm (C32 Q26 vfs_nil)
  refine ⟨_, _, rfl, ?_⟩
  refine split_ne_e e (fun c40 e => ?_) (fun c40 e => ?_)
  · cases e
    exact ⟨_, O38.pick [], rfl⟩
  · refine split_any_e e (fun c39 e => ?_) (fun c39 e => ?_)
    · cases e
      exact ⟨_, O38.pick [], rfl⟩
    · exact roadlaw4_CutSays.j0.walk (O38.pick [0]).nm rfl k_1 r_1 rfl k_2 r_2 ⟨_, _, rfl, k_0, r_0⟩ e
end Go.Proofs.Ytnlocljmalhddac.Fw

end
section
namespace Go.Proofs.Ytnlocljmalhddac.Fw
open Go Go.Hw Go.Proofs
set_option linter.unusedVariables false
set_option linter.unusedSectionVars false
abbrev Ev := T_api_Event
def has (k : Int) (l : List Ev) (m : Int) : Bool := l.any fun x => x.Kind == k && x.Msg == m
def stepErr (pre : List Ev) (e : Ev) : Int :=
  if e.Kind < 1 ∨ e.Kind > 3 then 3
  else if e.Place < 0 ∨ e.Place > 7 ∨ (e.Kind ≠ 1 ∧ (e.Msg < 0 ∨ e.Msg > 999)) then 1
  else if e.Kind = 2 then (if has 2 pre e.Msg = true then 5 else 0)
  else if e.Kind = 3 then (if has 2 pre e.Msg = true then (if has 3 pre e.Msg = true then 5 else 0) else 4)
  else 0
def hist : List Ev → List Ev → Int
  | _, [] => 0
  | pre, e :: r => if stepErr pre e = 0 then hist (pre ++ [e]) r else stepErr pre e
theorem has_snoc (k : Int) (l : List Ev) (e : Ev) (m : Int) : has k (l ++ [e]) m = (has k l m || (e.Kind == k && e.Msg == m)) := by simp [has]
theorem hist_cons (pre : List Ev) (e : Ev) (r : List Ev) : hist pre (e :: r) = if stepErr pre e = 0 then hist (pre ++ [e]) r else stepErr pre e := rfl
theorem hist_bad {pre : List Ev} {e : Ev} {r : List Ev} {c : Int} (h : stepErr pre e = c) (hc : c ≠ 0) : hist pre (e :: r) = c := by rw [hist_cons, h, if_neg hc]
theorem hist_ok {pre : List Ev} {e : Ev} {r : List Ev} (h : stepErr pre e = 0) : hist pre (e :: r) = hist (pre ++ [e]) r := by rw [hist_cons, if_pos h]
theorem check_loop {l : List Ev} (hl : l.length ≤ 200) : ∀ (r pre : List Ev) (es3 es4 : List (Int × Bool)), (∀ m, pgd es3 m false = has 2 pre m) → (∀ m, pgd es4 m false = has 3 pre m) → l = pre ++ r →
    clock_Check.l0 es3 es4 l (l.length : Int) (pre.length : Int) = some (hist pre r) := by
  intro r
  induction r with
  | nil =>
    intro pre es3 es4 h3 h4 e
    rw [clock_Check.l0_eq, if_neg (by rw [e]; simp)]; rfl
  | cons e r ih =>
    intro pre es3 es4 h3 h4 he
    have hlen : l.length = pre.length + (r.length + 1) := by rw [he]; simp
    have hn : ∀ es3 es4, (∀ m, pgd es3 m false = has 2 (pre ++ [e]) m) → (∀ m, pgd es4 m false = has 3 (pre ++ [e]) m) → clock_Check.l0 es3 es4 l (l.length : Int) (IntKind.wrap .i64 ((pre.length : Int) + 1)) = some (hist (pre ++ [e]) r) := by
      intro a b ha hb
      rw [w_succ (by omega)]
      have := ih (pre ++ [e]) a b ha hb (by simpa using he)
      simpa using this
    rw [clock_Check.l0_eq, if_pos (by omega), gi_some (k := pre.length) rfl (by rw [he]; simp : l[pre.length]? = some e), Option.bind_some]
    by_cases k1 : e.Kind < 1
    · rw [if_pos k1, hist_bad (c := 3) (by rw [stepErr, if_pos (by omega)]) (by decide)]
    rw [if_neg k1]
    by_cases k3 : e.Kind > 3
    · rw [if_pos k3, hist_bad (c := 3) (by rw [stepErr, if_pos (by omega)]) (by decide)]
    rw [if_neg k3, clock_Check.j0_eq]
    by_cases p0 : e.Place < 0
    · rw [if_pos p0, hist_bad (c := 1) (by rw [stepErr, if_neg (by omega), if_pos (by omega)]) (by decide)]
    rw [if_neg p0]
    by_cases p8 : e.Place ≥ 8
    · rw [if_pos p8, hist_bad (c := 1) (by rw [stepErr, if_neg (by omega), if_pos (by omega)]) (by decide)]
    rw [if_neg p8]
    have fin : (e.Kind ≠ 1 → ¬ (e.Msg < 0 ∨ e.Msg > 999)) → clock_Check.j1 es3 es4 e l (l.length : Int) (pre.length : Int) = some (hist pre (e :: r)) := by
      intro hm
      have hm' : ¬ (e.Place < 0 ∨ e.Place > 7 ∨ (e.Kind ≠ 1 ∧ (e.Msg < 0 ∨ e.Msg > 999))) := by omega
      rw [clock_Check.j1_eq, h3, h4]
      by_cases k2 : e.Kind = 2
      · rw [if_pos k2]
        by_cases hs : has 2 pre e.Msg = true
        · rw [if_pos hs, hist_bad (c := 5) (by rw [stepErr, if_neg (by omega), if_neg hm', if_pos k2, if_pos hs]) (by decide)]
        · rw [if_neg hs, hist_ok (by rw [stepErr, if_neg (by omega), if_neg hm', if_pos k2, if_neg hs]), Option.bind_some]
          refine hn _ _ (fun m => ?_) (fun m => ?_)
          · have := h3 m
            unfold pgd at this ⊢
            rw [pget_pset, has_snoc]
            by_cases hme : m = e.Msg
            · rw [if_pos hme]; simp [k2, hme]
            · rw [if_neg hme, this]; simp [Ne.symm hme]
          · rw [h4, has_snoc]; simp [k2]
      · rw [if_neg k2]
        by_cases k3' : e.Kind = 3
        · rw [if_pos k3']
          by_cases hs : has 2 pre e.Msg = true
          · rw [if_pos hs]
            by_cases ht : has 3 pre e.Msg = true
            · rw [if_pos ht, hist_bad (c := 5) (by rw [stepErr, if_neg (by omega), if_neg hm', if_neg k2, if_pos k3', if_pos hs, if_pos ht]) (by decide)]
            · rw [if_neg ht, hist_ok (by rw [stepErr, if_neg (by omega), if_neg hm', if_neg k2, if_pos k3', if_pos hs, if_neg ht]), Option.bind_some]
              refine hn _ _ (fun m => ?_) (fun m => ?_)
              · rw [h3, has_snoc]; simp [k3']
              · have := h4 m
                unfold pgd at this ⊢
                rw [pget_pset, has_snoc]
                by_cases hme : m = e.Msg
                · rw [if_pos hme]; simp [k3', hme]
                · rw [if_neg hme, this]; simp [Ne.symm hme]
          · rw [if_neg hs, hist_bad (c := 4) (by rw [stepErr, if_neg (by omega), if_neg hm', if_neg k2, if_pos k3', if_neg hs]) (by decide)]
        · rw [if_neg k3', hist_ok (by rw [stepErr, if_neg (by omega), if_neg hm', if_neg k2, if_neg k3'])]
          refine hn _ _ (fun m => ?_) (fun m => ?_)
          · rw [h3, has_snoc]; simp [k2]
          · rw [h4, has_snoc]; simp [k3']
    by_cases kk : e.Kind = 1
    · rw [if_pos kk]; exact fin (fun h => absurd kk h)
    rw [if_neg kk]
    by_cases m0 : e.Msg < 0
    · rw [if_pos m0, hist_bad (c := 1) (by rw [stepErr, if_neg (by omega), if_pos (by omega)]) (by decide)]
    rw [if_neg m0]
    by_cases m9 : e.Msg > 999
    · rw [if_pos m9, hist_bad (c := 1) (by rw [stepErr, if_neg (by omega), if_pos (by omega)]) (by decide)]
    rw [if_neg m9]
    exact fin (fun _ => by omega)
def histErr (l : List Ev) : Int := if l.length > 200 then 2 else hist [] l
theorem check_val (l : List Ev) : clock_Check l = some (histErr l) := by
  unfold clock_Check histErr
  by_cases h : l.length > 200
  · rw [if_pos (by omega), if_pos h]
  · rw [if_neg (by omega), if_neg h]
    exact check_loop (by omega) l [] [] [] (fun _ => rfl) (fun _ => rfl) rfl
theorem within_val (x a b : Int) : roadref4_within x a b = some (decide (a ≤ x ∧ x ≤ b)) := by
  unfold roadref4_within
  by_cases h : x ≥ a
  · rw [if_pos h]; congr 1; exact decide_eq_decide.2 ⟨fun k => ⟨h, k⟩, fun k => k.2⟩
  · rw [if_neg h, decide_eq_false (fun k => h k.1)]
theorem hist1_val {l pre r : List Ev} {e : Ev} (hl : l.length ≤ 200) (he : l = pre ++ e :: r) (k : Int) : roadref4_History_1 k l (pre.length : Int) e = some (has k pre e.Msg) := by
  unfold roadref4_History_1
  rw [sls_take (k := pre.length) rfl (by rw [he]; simp), Option.bind_some]
  have ht : l.take pre.length = pre := by rw [he]; simp
  have hpl : pre.length ≤ 200 := by
    have : l.length = pre.length + (r.length + 1) := by rw [he]; simp
    omega
  rw [ht, slices_ContainsFunc_15.val (fun x => x.Kind == k && x.Msg == e.Msg) (fun x _ => ?_) (by omega), Option.bind_some]
  · rfl
  · unfold roadref4_History_1_1
    by_cases h : x.Kind = k
    · rw [if_pos h]; simp [h]
    · rw [if_neg h]; simp [h]
theorem hist_loop {l : List Ev} (hl : l.length ≤ 200) : ∀ (r pre : List Ev), l = pre ++ r → roadref4_History.l0 l l (l.length : Int) (pre.length : Int) = some (hist pre r) := by
  intro r
  induction r with
  | nil =>
    intro pre e
    rw [roadref4_History.l0_eq, if_neg (by rw [e]; simp)]; rfl
  | cons e r ih =>
    intro pre he
    have hlen : l.length = pre.length + (r.length + 1) := by rw [he]; simp
    have hn : roadref4_History.l0 l l (l.length : Int) (IntKind.wrap .i64 ((pre.length : Int) + 1)) = some (hist (pre ++ [e]) r) := by
      rw [w_succ (by omega)]
      have := ih (pre ++ [e]) (by simpa using he)
      simpa using this
    have hv := fun k => hist1_val hl he k
    rw [roadref4_History.l0_eq, if_pos (by omega), gi_some (k := pre.length) rfl (by rw [he]; simp : l[pre.length]? = some e), Option.bind_some, within_val, Option.bind_some]
    by_cases k1 : e.Kind < 1 ∨ e.Kind > 3
    · rw [if_neg (by simp; omega), hist_bad (c := 3) (by rw [stepErr, if_pos (by omega)]) (by decide)]
    rw [if_pos (by simp; omega), within_val, Option.bind_some]
    have hj0 : ∀ b, b = decide (e.Place < 0 ∨ e.Place > 7 ∨ (e.Kind ≠ 1 ∧ (e.Msg < 0 ∨ e.Msg > 999))) → roadref4_History.j0 l e (pre.length : Int) l (l.length : Int) (pre.length : Int) b = some (hist pre (e :: r)) := by
      rintro b rfl
      rw [roadref4_History.j0_eq]
      by_cases hb : e.Place < 0 ∨ e.Place > 7 ∨ (e.Kind ≠ 1 ∧ (e.Msg < 0 ∨ e.Msg > 999))
      · rw [decide_eq_true hb, if_pos rfl, hist_bad (c := 1) (by rw [stepErr, if_neg (by omega), if_pos hb]) (by decide)]
      rw [decide_eq_false hb, if_neg (by decide)]
      by_cases k2 : e.Kind = 2
      · rw [if_pos k2, hv, Option.bind_some, roadref4_History.j1_eq]
        by_cases hs : has 2 pre e.Msg = true
        · rw [if_pos hs, hist_bad (c := 5) (by rw [stepErr, if_neg (by omega), if_neg hb, if_pos k2, if_pos hs]) (by decide)]
        · rw [if_neg hs, if_neg (by omega), roadref4_History.j2_eq, if_neg (by decide), if_neg (by omega), hist_ok (by rw [stepErr, if_neg (by omega), if_neg hb, if_pos k2, if_neg hs])]; exact hn
      · rw [if_neg k2, roadref4_History.j1_eq, if_neg (by decide)]
        by_cases k3 : e.Kind = 3
        · rw [if_pos k3, hv, Option.bind_some, roadref4_History.j2_eq, if_pos k3, hv]
          by_cases hs : has 2 pre e.Msg = true
          · rw [hs, if_neg (by decide), Option.bind_some]
            by_cases ht : has 3 pre e.Msg = true
            · rw [if_pos ht, hist_bad (c := 5) (by rw [stepErr, if_neg (by omega), if_neg hb, if_neg k2, if_pos k3, if_pos hs, if_pos ht]) (by decide)]
            · rw [if_neg ht, hist_ok (by rw [stepErr, if_neg (by omega), if_neg hb, if_neg k2, if_pos k3, if_pos hs, if_neg ht])]; exact hn
          · rw [if_pos (by simpa using hs), hist_bad (c := 4) (by rw [stepErr, if_neg (by omega), if_neg hb, if_neg k2, if_pos k3, if_neg hs]) (by decide)]
        · rw [if_neg k3, roadref4_History.j2_eq, if_neg (by decide), if_neg k3, hist_ok (by rw [stepErr, if_neg (by omega), if_neg hb, if_neg k2, if_neg k3])]; exact hn
    by_cases hp : e.Place < 0 ∨ e.Place > 7
    · rw [decide_eq_false (by omega), if_neg (by decide)]
      exact hj0 _ (by rw [decide_eq_true (by omega)]; rfl)
    · rw [decide_eq_true (by omega), if_pos rfl]
      by_cases hk : e.Kind > 1
      · rw [if_pos hk, within_val, Option.bind_some]
        refine hj0 _ ?_
        rw [← decide_not]
        exact decide_eq_decide.2 ⟨fun h => .inr (.inr ⟨by omega, by omega⟩), fun h => by omega⟩
      · rw [if_neg hk]
        exact hj0 _ (by rw [decide_eq_false (by omega)])
theorem history_val (l : List Ev) : roadref4_History l = some (histErr l) := by
  unfold roadref4_History histErr
  by_cases h : l.length > 200
  · rw [if_pos (by omega), if_pos h]
  · rw [if_neg (by omega), if_neg h]
    exact hist_loop (by omega) l [] rfl
theorem hist_right : ∀ (r pre : List Ev), hist pre r = 0 → ∀ e ∈ r, 1 ≤ e.Kind ∧ e.Kind ≤ 3 ∧ 0 ≤ e.Place ∧ e.Place ≤ 7 ∧ (e.Kind ≠ 1 → 0 ≤ e.Msg ∧ e.Msg ≤ 999) := by
  intro r
  induction r with
  | nil => intro pre _ e he; cases he
  | cons x r ih =>
    intro pre h e he
    rw [hist_cons] at h
    by_cases hs : stepErr pre x = 0
    · rw [if_pos hs] at h
      rcases List.mem_cons.1 he with rfl | he
      · unfold stepErr at hs
        by_cases k1 : e.Kind < 1 ∨ e.Kind > 3
        · rw [if_pos k1] at hs; omega
        rw [if_neg k1] at hs
        by_cases k2 : e.Place < 0 ∨ e.Place > 7 ∨ (e.Kind ≠ 1 ∧ (e.Msg < 0 ∨ e.Msg > 999))
        · rw [if_pos k2] at hs; omega
        omega
      · exact ih _ h e he
    · rw [if_neg hs] at h; exact absurd h hs
theorem histErr_right {l : List Ev} (h : histErr l = 0) : l.length ≤ 200 ∧ ∀ e ∈ l, 1 ≤ e.Kind ∧ e.Kind ≤ 3 ∧ 0 ≤ e.Place ∧ e.Place ≤ 7 ∧ (e.Kind ≠ 1 → 0 ≤ e.Msg ∧ e.Msg ≤ 999) := by
  unfold histErr at h
  by_cases hl : l.length > 200
  · rw [if_pos hl] at h; omega
  · rw [if_neg hl] at h; exact ⟨by omega, hist_right _ _ h⟩
def ev (l : List Ev) (k : Nat) : Ev := (l[k]?).getD ⟨0, 0, 0⟩
abbrev pl (l : List Ev) (k : Nat) : Int := (ev l k).Place
def Dir (a b : Ev) : Prop := b.Place = a.Place ∨ (a.Kind = 3 ∧ b.Kind = 2 ∧ b.Msg = a.Msg)
inductive Pst (l : List Ev) : Nat → Nat → Prop
  | base {i j : Nat} : j < i → Dir (ev l i) (ev l j) → Pst l i j
  | step {i j k : Nat} : j < i → Dir (ev l i) (ev l j) → Pst l j k → Pst l i k
def DS (l : List Ev) (i k : Nat) : Prop := k = i ∨ Pst l i k
theorem pst_iff {l : List Ev} {i k : Nat} : Pst l i k ↔ ∃ j, j < i ∧ Dir (ev l i) (ev l j) ∧ DS l j k := by
  constructor
  · intro h
    cases h with
    | base a b => exact ⟨_, a, b, .inl rfl⟩
    | step a b c => exact ⟨_, a, b, .inr c⟩
  · rintro ⟨j, a, b, rfl | c⟩
    · exact .base a b
    · exact .step a b c
theorem Pst.lt {l : List Ev} {i k : Nat} (h : Pst l i k) : k < i := by
  induction h with
  | base a _ => exact a
  | step a _ _ ih => omega
theorem Pst.trans {l : List Ev} {i j k : Nat} (h : Pst l i j) (g : Pst l j k) : Pst l i k := by
  induction h with
  | base a b => exact .step a b g
  | step a b _ ih => exact .step a b (ih g)
theorem DS.le {l : List Ev} {i k : Nat} (h : DS l i k) : k ≤ i := by
  rcases h with rfl | h
  · exact Nat.le_refl _
  · exact Nat.le_of_lt h.lt
theorem DS.trans {l : List Ev} {i j k : Nat} (h : DS l i j) (g : DS l j k) : DS l i k := by
  rcases h with rfl | h
  · exact g
  · rcases g with rfl | g
    · exact .inr h
    · exact .inr (h.trans g)
def Dc (l : List Ev) (A : Nat → Prop) : Prop := ∀ k k', A k → k' < k → pl l k' = pl l k → A k'
theorem DS.dc {l : List Ev} {i : Nat} : Dc l (DS l i) := fun k k' h hk hp => DS.trans h (.inr (.base hk (.inl hp)))
open Classical in
noncomputable def cn (l : List Ev) (A : Nat → Prop) (q : Int) : Nat := (List.range l.length).countP fun k => decide (A k ∧ pl l k = q)
theorem cn_le {l : List Ev} {A B : Nat → Prop} {q : Int} (h : ∀ k, A k → pl l k = q → B k) : cn l A q ≤ cn l B q := by
  unfold cn
  refine List.countP_mono_left fun k _ hk => ?_
  simp only [decide_eq_true_eq] at hk ⊢
  exact ⟨h k hk.1 hk.2, hk.2⟩
theorem cn_eq {l : List Ev} {A B : Nat → Prop} {q : Int} (h : ∀ k, pl l k = q → (A k ↔ B k)) : cn l A q = cn l B q :=
  Nat.le_antisymm (cn_le fun k a b => (h k b).1 a) (cn_le fun k a b => (h k b).2 a)
theorem cn_bound {l : List Ev} {A : Nat → Prop} {q : Int} : cn l A q ≤ l.length := by
  unfold cn; exact Nat.le_trans List.countP_le_length (by simp)
theorem countP_add {p q : Nat → Bool} {i : Nat} (hq : q i = true) (hp : p i = false) (h : ∀ k, k ≠ i → q k = p k) : ∀ (n : Nat), i < n → (List.range n).countP q = (List.range n).countP p + 1 := by
  intro n
  induction n with
  | zero => intro h; omega
  | succ n ih =>
    intro hi
    rw [List.range_succ, List.countP_append, List.countP_append]
    simp only [List.countP_cons, List.countP_nil]
    by_cases hn : i < n
    · rw [ih hn, h n (by omega)]; omega
    · have : i = n := by omega
      subst this
      rw [hq, hp]
      have : (List.range i).countP q = (List.range i).countP p := by
        refine List.countP_congr fun k hk => ?_
        rw [h k (by have := List.mem_range.1 hk; omega)]
      rw [this]; simp
theorem cn_add {l : List Ev} {A B : Nat → Prop} {i : Nat} (hi : i < l.length) (hb : B i) (ha : ¬ A i) (h : ∀ k, k ≠ i → pl l k = pl l i → (B k ↔ A k)) : cn l B (pl l i) = cn l A (pl l i) + 1 := by
  unfold cn
  refine countP_add (i := i) (by simp [hb]) (by simp [ha]) (fun k hk => ?_) _ hi
  refine decide_eq_decide.2 ⟨fun g => ⟨(h k hk g.2).1 g.1, g.2⟩, fun g => ⟨(h k hk g.2).2 g.1, g.2⟩⟩
theorem cn_or {l : List Ev} {A B : Nat → Prop} {q : Int} (a : Dc l A) (b : Dc l B) : cn l (fun k => A k ∨ B k) q = max (cn l A q) (cn l B q) := by
  have key : (∀ k, A k → pl l k = q → B k) ∨ (∀ k, B k → pl l k = q → A k) := by
    by_cases h : ∀ k, A k → pl l k = q → B k
    · exact .inl h
    · refine .inr fun k hB hk => ?_
      have ⟨x, hx⟩ := Classical.not_forall.1 h
      have ⟨hA, hx⟩ := Classical.not_imp.1 hx
      have ⟨hq, hnB⟩ := Classical.not_imp.1 hx
      by_cases hl : k < x
      · exact a x k hA hl (by rw [hk, hq])
      · by_cases he : k = x
        · subst he; exact hA
        · exact absurd (b k x hB (by omega) (by rw [hk, hq])) hnB
  rcases key with h | h
  · have h1 := cn_le h
    have : cn l (fun k => A k ∨ B k) q = cn l B q := cn_eq fun k hk => ⟨fun g => g.elim (fun g => h k g hk) id, .inr⟩
    omega
  · have h1 := cn_le h
    have : cn l (fun k => A k ∨ B k) q = cn l A q := cn_eq fun k hk => ⟨fun g => g.elim id (fun g => h k g hk), .inl⟩
    omega
noncomputable def Row (l : List Ev) (A : Nat → Prop) : List Int := (List.range 8).map fun (q : Nat) => ((cn l A (q : Int) : Nat) : Int)
theorem row_len {l : List Ev} {A : Nat → Prop} : (Row l A).length = 8 := by simp [Row]
theorem row_at {l : List Ev} {A : Nat → Prop} {q : Nat} (h : q < 8) : (Row l A)[q]? = some (cn l A (q : Int) : Int) := by
  unfold Row; rw [List.getElem?_map, List.getElem?_range h]; rfl
theorem row_ext {l : List Ev} {A B : Nat → Prop} (h : ∀ k, A k ↔ B k) : Row l A = Row l B := by
  have : A = B := funext fun k => propext (h k)
  rw [this]
theorem row_none {l : List Ev} {A : Nat → Prop} (h : ∀ k, ¬ A k) : Row l A = List.replicate 8 0 := by
  have : ∀ q, cn l A q = 0 := fun q => by unfold cn; exact List.countP_eq_zero.2 fun k _ => by simp [h k]
  unfold Row
  simp only [this]
  rfl
theorem row_set {l : List Ev} {A B : Nat → Prop} {i p : Nat} (hi : i < l.length) (hp : pl l i = p) (h8 : p < 8) (ha : ¬ A i) (hb : ∀ k, B k ↔ A k ∨ k = i) :
    (Row l A).set p ((cn l A (p : Int) : Int) + 1) = Row l B := by
  refine List.ext_getElem? fun q => ?_
  by_cases hq : q < 8
  · rw [row_at hq, List.getElem?_set]
    by_cases he : p = q
    · subst he
      rw [if_pos rfl, if_pos (by rw [row_len]; exact hq), ← hp, cn_add (A := A) (B := B) hi ((hb i).2 (.inr rfl)) ha (fun k hk _ => ⟨fun g => ((hb k).1 g).resolve_right hk, fun g => (hb k).2 (.inl g)⟩)]
      rfl
    · rw [if_neg he, row_at hq, cn_eq (A := B) (B := A) fun k hk => ⟨fun g => ((hb k).1 g).resolve_right (fun e => he (by subst e; omega)), fun g => (hb k).2 (.inl g)⟩]
  · rw [List.getElem?_eq_none (by simp [row_len]; omega), List.getElem?_eq_none (by rw [row_len]; omega)]
theorem at_row {l : List Ev} {A : Nat → Prop} {q : Nat} (h : q < 8) : clock_at (Row l A) (q : Int) = some (cn l A (q : Int) : Int) := by
  unfold clock_at
  rw [if_pos (by rw [row_len]; omega), gi_some (k := q) rfl (row_at h), Option.bind_some]
theorem at_nil {q : Nat} : clock_at [] (q : Int) = some 0 := by unfold clock_at; rw [if_neg (by simp)]
theorem join_loop {a0 a1 : List Int} {f g : Nat → Int} (h0 : ∀ q : Nat, q < 8 → clock_at a0 (q : Int) = some (f q)) (h1 : ∀ q : Nat, q < 8 → clock_at a1 (q : Int) = some (g q)) :
    ∀ (d i : Nat) (a : List Int), i + d = 8 → a.length = 8 → (∀ q, q < i → a[q]? = some (if g q > f q then g q else f q)) → clock_Join.l0 a0 a1 a (8 : Int) (i : Int) = some ((List.range 8).map fun q => if g q > f q then g q else f q) := by
  intro d
  induction d with
  | zero =>
    intro i a hi hl ha
    rw [clock_Join.l0_eq, if_neg (by omega)]
    congr 1
    refine List.ext_getElem? fun q => ?_
    by_cases hq : q < 8
    · rw [ha q (by omega), List.getElem?_map, List.getElem?_range hq]; rfl
    · rw [List.getElem?_eq_none (by omega), List.getElem?_eq_none (by simp; omega)]
  | succ d ih =>
    intro i a hi hl ha
    rw [clock_Join.l0_eq, if_pos (by omega), h0 i (by omega), Option.bind_some, h1 i (by omega), Option.bind_some, gi_at (by omega), Option.bind_some, Option.bind_some, w_succ (by omega)]
    refine ih (i + 1) _ (by omega) (by simpa using hl) fun q hq => ?_
    rw [List.getElem?_set]
    by_cases he : i = q
    · subst he; rw [if_pos (by simp), if_pos (by simp; omega)]
    · rw [if_neg (by simpa using he), ha q (by omega)]
theorem join_val {a0 a1 : List Int} {f g : Nat → Int} (h0 : ∀ q : Nat, q < 8 → clock_at a0 (q : Int) = some (f q)) (h1 : ∀ q : Nat, q < 8 → clock_at a1 (q : Int) = some (g q)) (hl : (if (a1.length : Int) > (a0.length : Int) then (a1.length : Int) else (a0.length : Int)) = 8) :
    clock_Join a0 a1 = some ((List.range 8).map fun q => if g q > f q then g q else f q) := by
  unfold clock_Join
  rw [hl, mks_of (k := 8) (x := 8) rfl (by omega) (by omega), Option.bind_some]
  exact join_loop h0 h1 8 0 _ rfl (by simp) (fun q h => absurd h (by omega))
theorem join_rows {l : List Ev} {A B : Nat → Prop} (a : Dc l A) (b : Dc l B) : clock_Join (Row l A) (Row l B) = some (Row l fun k => A k ∨ B k) := by
  rw [join_val (f := fun q => (cn l A (q : Int) : Int)) (g := fun q => (cn l B (q : Int) : Int)) (fun q h => at_row h) (fun q h => at_row h) (by rw [row_len, row_len]; rfl)]
  congr 1
  unfold Row
  refine List.map_congr_left fun q _ => ?_
  rw [cn_or a b]
  split <;> omega
theorem join_nil {l : List Ev} {A : Nat → Prop} : clock_Join (Row l A) [] = some (Row l A) := by
  rw [join_val (f := fun q => (cn l A (q : Int) : Int)) (g := fun _ => 0) (fun q h => at_row h) (fun q h => at_nil) (by rw [row_len]; rfl)]
  refine congrArg some ?_
  unfold Row
  refine List.map_congr_left fun q _ => ?_
  show (if (0 : Int) > _ then _ else _) = _
  rw [if_neg (by omega)]
def Val (l : List Ev) : Prop := l.length ≤ 200 ∧ (∀ i, i < l.length → 0 ≤ pl l i ∧ pl l i ≤ 7) ∧ ∀ i j, i < l.length → j < i → (ev l i).Kind = 2 → (ev l j).Kind = 2 → (ev l j).Msg ≠ (ev l i).Msg
theorem hist_step : ∀ (a pre : List Ev) {e : Ev} {b : List Ev}, hist pre (a ++ e :: b) = 0 → stepErr (pre ++ a) e = 0 := by
  intro a
  induction a with
  | nil =>
    intro pre e b h
    rw [List.nil_append, hist_cons] at h
    rw [List.append_nil]
    by_cases hs : stepErr pre e = 0
    · exact hs
    · rw [if_neg hs] at h; exact absurd h hs
  | cons x a ih =>
    intro pre e b h
    rw [List.cons_append, hist_cons] at h
    by_cases hs : stepErr pre x = 0
    · rw [if_pos hs] at h
      have := ih _ h
      simpa using this
    · rw [if_neg hs] at h; exact absurd h hs
theorem ev_some {l : List Ev} {i : Nat} (h : i < l.length) : l[i]? = some (ev l i) := by unfold ev; rw [List.getElem?_eq_getElem h]; rfl
theorem val_of {l : List Ev} (h : histErr l = 0) : Val l := by
  obtain ⟨hl, hr⟩ := histErr_right h
  refine ⟨hl, fun i hi => ?_, fun i j hi hj k2 k2' hm => ?_⟩
  · have := hr (ev l i) (List.mem_of_getElem? (ev_some hi))
    exact ⟨this.2.2.1, this.2.2.2.1⟩
  · unfold histErr at h
    rw [if_neg (by omega)] at h
    have hs : l = l.take i ++ ev l i :: l.drop (i + 1) := by
      have h2 : l.drop i = ev l i :: l.drop (i + 1) := by
        rw [List.drop_eq_getElem_cons hi]
        have := ev_some hi
        rw [List.getElem?_eq_getElem hi] at this
        rw [Option.some.inj this]
      rw [← h2, List.take_append_drop]
    rw [hs] at h
    have h3 := hist_step _ _ h
    rw [List.nil_append] at h3
    obtain ⟨r1, r2, r3, r4, r5⟩ := hr (ev l i) (List.mem_of_getElem? (ev_some hi))
    have r5' := r5 (by omega)
    unfold stepErr at h3
    rw [if_neg (by omega), if_neg (by omega), if_pos k2] at h3
    have : has 2 (l.take i) (ev l i).Msg = true := by
      unfold has
      refine List.any_eq_true.2 ⟨ev l j, List.mem_of_getElem? (i := j) (by rw [List.getElem?_take_of_lt hj]; exact ev_some (by omega)), ?_⟩
      simp [k2', hm]
    rw [if_pos this] at h3
    exact absurd h3 (by decide)
def Wt (l : List Ev) (i : Nat) (p : Nat) : Nat → Prop := fun k => ∃ j, j < i ∧ pl l j = (p : Int) ∧ DS l j k
def Sn (l : List Ev) (i : Nat) (m : Int) : Nat → Prop := fun k => ∃ j, j < i ∧ (ev l j).Kind = 2 ∧ (ev l j).Msg = m ∧ DS l j k
theorem Wt.dc {l : List Ev} {i p : Nat} : Dc l (Wt l i p) := by
  rintro k k' ⟨j, a, b, c⟩ hk hp
  exact ⟨j, a, b, DS.dc k k' c hk hp⟩
theorem Sn.dc {l : List Ev} {i : Nat} {m : Int} : Dc l (Sn l i m) := by
  rintro k k' ⟨j, a, b, b2, c⟩ hk hp
  exact ⟨j, a, b, b2, DS.dc k k' c hk hp⟩
theorem pst_ws {l : List Ev} {i p k : Nat} (hp : pl l i = (p : Int)) : Pst l i k ↔ Wt l i p k ∨ ((ev l i).Kind = 3 ∧ Sn l i (ev l i).Msg k) := by
  rw [pst_iff]
  constructor
  · rintro ⟨j, a, b | b, c⟩
    · exact .inl ⟨j, a, by show (ev l j).Place = _; rw [b]; exact hp, c⟩
    · exact .inr ⟨b.1, j, a, b.2.1, b.2.2, c⟩
  · rintro (⟨j, a, b, c⟩ | ⟨k3, j, a, b, b2, c⟩)
    · exact ⟨j, a, .inl (by show pl l j = pl l i; rw [b, hp]), c⟩
    · exact ⟨j, a, .inr ⟨k3, b, b2⟩, c⟩
theorem ds_iff {l : List Ev} {i k : Nat} : DS l i k ↔ Pst l i k ∨ k = i := ⟨fun h => h.elim .inr .inl, fun h => h.elim .inr .inl⟩
theorem wt_self {l : List Ev} {i p k : Nat} (hp : pl l i = (p : Int)) : Wt l (i + 1) p k ↔ DS l i k := by
  constructor
  · rintro ⟨j, a, b, c⟩
    by_cases he : j = i
    · subst he; exact c
    · exact DS.trans (.inr (.base (by omega) (.inl (by show pl l j = pl l i; rw [b, hp])))) c
  · exact fun h => ⟨i, by omega, hp, h⟩
theorem wt_other {l : List Ev} {i p k : Nat} (hp : pl l i ≠ (p : Int)) : Wt l (i + 1) p k ↔ Wt l i p k := by
  constructor
  · rintro ⟨j, a, b, c⟩
    have : j ≠ i := fun h => hp (by rw [← h]; exact b)
    exact ⟨j, by omega, b, c⟩
  · rintro ⟨j, a, b, c⟩; exact ⟨j, by omega, b, c⟩
theorem sn_self {l : List Ev} (v : Val l) {i k : Nat} (hi : i < l.length) (h2 : (ev l i).Kind = 2) : Sn l (i + 1) (ev l i).Msg k ↔ DS l i k := by
  constructor
  · rintro ⟨j, a, b, b2, c⟩
    by_cases he : j = i
    · subst he; exact c
    · exact absurd b2 (v.2.2 i j hi (by omega) h2 b)
  · exact fun h => ⟨i, by omega, h2, rfl, h⟩
theorem sn_other {l : List Ev} {i k : Nat} {m : Int} (h : (ev l i).Kind ≠ 2 ∨ (ev l i).Msg ≠ m) : Sn l (i + 1) m k ↔ Sn l i m k := by
  constructor
  · rintro ⟨j, a, b, b2, c⟩
    refine ⟨j, ?_, b, b2, c⟩
    rcases Nat.lt_or_ge j i with h1 | h1
    · exact h1
    · exfalso
      have : j = i := by omega
      subst this
      exact h.elim (fun h => h b) (fun h => h b2)
  · rintro ⟨j, a, b, c⟩; exact ⟨j, by omega, b, c⟩
noncomputable def Cs (l : List Ev) : List (List Int) := (List.range l.length).map fun j => Row l (DS l j)
theorem cs_at {l : List Ev} {i : Nat} (h : i < l.length) : (Cs l)[i]? = some (Row l (DS l i)) := by
  unfold Cs; rw [List.getElem?_map, List.getElem?_range h]; rfl
theorem clone_val {a : List Int} (h : a.length ≤ 1000) : slices_Clone_42 a = some a := by
  unfold slices_Clone_42; exact ap_nil (by omega)
theorem pgd_pset {es : List (Int × List Int)} {k q : Int} {x : List Int} : pgd (pset es k x) q [] = if q = k then x else pgd es q [] := by
  unfold pgd; rw [pget_pset]; split <;> rfl
theorem clocks_loop {l : List Ev} (v : Val l) : ∀ (d i : Nat) (y : List (List Int)) (es : List (Int × List Int)) (a : List (List Int)), i + d = l.length →
    y.length = 8 → (∀ p, p < 8 → y[p]? = some (Row l (Wt l i p))) → (∀ m, pgd es m [] = Row l (Sn l i m) ∨ (pgd es m [] = [] ∧ ∀ k, ¬ Sn l i m k)) → a = (List.range i).map (fun j => Row l (DS l j)) →
    clock_Clocks.l1 y es a l (l.length : Int) (i : Int) = some (Cs l, 0) := by
  have hL := v.1
  intro d
  induction d with
  | zero =>
    intro i y es a hi hy hw hs ha
    rw [clock_Clocks.l1_eq, if_neg (by omega), ha]
    unfold Cs
    rw [show i = l.length by omega]
  | succ d ih =>
    intro i y es a hi hy hw hs ha
    have hlt : i < l.length := by omega
    have hp := v.2.1 i hlt
    obtain ⟨p, hpp⟩ : ∃ p : Nat, pl l i = (p : Int) := ⟨(pl l i).toNat, by omega⟩
    have h8 : p < 8 := by omega
    have hpe : (ev l i).Place = (p : Int) := hpp
    have fin : ∀ (y' : List (List Int)) (es' : List (Int × List Int)), y'.length = 8 → (∀ q, q < 8 → y'[q]? = some (Row l (Wt l (i + 1) q))) → (∀ m, pgd es' m [] = Row l (Sn l (i + 1) m) ∨ (pgd es' m [] = [] ∧ ∀ k, ¬ Sn l (i + 1) m k)) →
        clock_Clocks.j1 y' es' a (Row l (DS l i)) l (l.length : Int) (i : Int) = some (Cs l, 0) := by
      intro y' es' h1 h2 h3
      rw [clock_Clocks.j1_eq, clone_val (by rw [row_len]; omega), Option.bind_some, ap_one (by rw [ha]; simp; omega), Option.bind_some, w_succ (by omega)]
      refine ih (i + 1) _ _ _ (by omega) h1 h2 h3 ?_
      rw [ha, List.range_succ, List.map_append]; rfl
    have step : clock_Clocks.j0 y es a (ev l i) (Row l (Pst l i)) l (l.length : Int) (i : Int) = some (Cs l, 0) := by
      rw [clock_Clocks.j0_eq, hpe, gi_some (k := p) rfl (row_at h8), Option.bind_some, Option.bind_some, Option.bind_some, gi_some (k := p) rfl (hw p h8), Option.bind_some, Option.bind_some,
        wrap_in (by omega) (by have := cn_bound (l := l) (A := Pst l i) (q := (p : Int)); omega), Int.toNat_natCast, row_set (B := DS l i) hlt hpp h8 (fun h => absurd h.lt (by omega)) (fun k => ds_iff)]
      have hy' : ∀ q, q < 8 → (y.set p (Row l (DS l i)))[q]? = some (Row l (Wt l (i + 1) q)) := by
        intro q hq
        rw [List.getElem?_set]
        by_cases he : p = q
        · subst he
          rw [if_pos rfl, if_pos (by omega), row_ext fun k => (wt_self hpp).symm]
        · rw [if_neg he, hw q hq, row_ext fun k => (wt_other (by omega)).symm]
      by_cases k2 : (ev l i).Kind = 2
      · rw [if_pos k2, Option.bind_some]
        refine fin _ _ (by simpa using hy) hy' fun m => ?_
        rw [pgd_pset]
        by_cases hm : m = (ev l i).Msg
        · rw [if_pos hm, hm]; exact .inl (row_ext fun k => (sn_self v hlt k2).symm)
        · rw [if_neg hm]
          rcases hs m with h | ⟨h, g⟩
          · exact .inl (h.trans (row_ext fun k => (sn_other (.inr (Ne.symm hm))).symm))
          · exact .inr ⟨h, fun k hk => g k ((sn_other (.inr (Ne.symm hm))).1 hk)⟩
      · rw [if_neg k2]
        refine fin _ _ (by simpa using hy) hy' fun m => ?_
        rcases hs m with h | ⟨h, g⟩
        · exact .inl (h.trans (row_ext fun k => (sn_other (.inl k2)).symm))
        · exact .inr ⟨h, fun k hk => g k ((sn_other (.inl k2)).1 hk)⟩
    rw [clock_Clocks.l1_eq, if_pos (by omega), gi_some (k := i) rfl (ev_some hlt), Option.bind_some, hpe, gi_some (k := p) rfl (hw p h8), Option.bind_some, clone_val (by rw [row_len]; omega), Option.bind_some]
    by_cases k3 : (ev l i).Kind = 3
    · rw [if_pos k3]
      rcases hs (ev l i).Msg with h | ⟨h, g⟩
      · rw [h, join_rows Wt.dc Sn.dc, Option.bind_some, ← row_ext (A := Pst l i) (fun k => (pst_ws hpp).trans ⟨fun g => g.elim .inl (fun g => .inr g.2), fun g => g.elim .inl (fun g => .inr ⟨k3, g⟩)⟩)]
        exact step
      · rw [h, join_nil, Option.bind_some, ← row_ext (A := Pst l i) (fun k => (pst_ws hpp).trans ⟨fun h => h.elim id (fun h => absurd h.2 (g k)), .inl⟩)]
        exact step
    · rw [if_neg k3, ← row_ext (A := Pst l i) (fun k => (pst_ws hpp).trans ⟨fun h => h.elim id (fun h => absurd h.1 k3), .inl⟩)]
      exact step
theorem clocks_rows {l : List Ev} (v : Val l) : ∀ (d i : Nat) (y : List (List Int)), i + d = 8 → y.length = 8 → (∀ q, q < i → y[q]? = some (List.replicate 8 0)) → clock_Clocks.l0 l y (i : Int) = some (Cs l, 0) := by
  intro d
  induction d with
  | zero =>
    intro i y hi hy hz
    rw [clock_Clocks.l0_eq, if_neg (by omega)]
    exact clocks_loop v l.length 0 y [] [] (by omega) hy (fun p hp => by rw [hz p (by omega), row_none]; rintro k ⟨j, h, _⟩; omega) (fun m => .inr ⟨rfl, by rintro k ⟨j, h, _⟩; omega⟩) rfl
  | succ d ih =>
    intro i y hi hy hz
    rw [clock_Clocks.l0_eq, if_pos (by omega), mks_of (k := 8) (x := 8) rfl (by omega) (by omega), Option.bind_some, gi_at (by omega), Option.bind_some, Option.bind_some, w_succ (by omega), Int.toNat_natCast]
    refine ih (i + 1) _ (by omega) (by simpa using hy) fun q hq => ?_
    rw [List.getElem?_set]
    by_cases he : i = q
    · subst he; rw [if_pos rfl, if_pos (by omega)]
    · rw [if_neg he, hz q (by omega)]
theorem clocks_val {l : List Ev} (h : histErr l = 0) : clock_Clocks l = some (Cs l, 0) := by
  unfold clock_Clocks
  rw [check_val, Option.bind_some, h, if_pos rfl]
  exact clocks_rows (val_of h) 8 0 _ rfl (by simp) (fun q h => absurd h (by omega))
noncomputable def pd (p : Prop) : Bool := @decide p (Classical.propDecidable p)
theorem pd_iff {p : Prop} : pd p = true ↔ p := @decide_eq_true_iff p (Classical.propDecidable p)
theorem pd_t {p : Prop} (h : p) : pd p = true := pd_iff.2 h
theorem pd_f {p : Prop} (h : ¬ p) : pd p = false := Bool.eq_false_iff.2 fun g => h (pd_iff.1 g)
theorem pd_eq {p q : Prop} (h : p ↔ q) : pd p = pd q := Bool.eq_iff_iff.2 (pd_iff.trans (h.trans pd_iff.symm))
noncomputable def PR (l : List Ev) (i : Nat) : List Bool := (List.range l.length).map fun k => pd (Pst l i k)
noncomputable def Ps (l : List Ev) : List (List Bool) := (List.range l.length).map (PR l)
theorem pr_len {l : List Ev} {i : Nat} : (PR l i).length = l.length := by simp [PR]
theorem pr_at {l : List Ev} {i k : Nat} (h : k < l.length) : (PR l i)[k]? = some (pd (Pst l i k)) := by
  unfold PR; rw [List.getElem?_map, List.getElem?_range h]; rfl
theorem ps_at {l : List Ev} {i : Nat} (h : i < l.length) : (Ps l)[i]? = some (PR l i) := by
  unfold Ps; rw [List.getElem?_map, List.getElem?_range h]; rfl
def IsR (l : List Ev) (row : List Bool) (R : Nat → Prop) : Prop := row.length = l.length ∧ ∀ k, k < l.length → row[k]? = some (pd (R k))
theorem IsR.set {l : List Ev} {row : List Bool} {R R' : Nat → Prop} {k0 : Nat} {b : Bool} (h : IsR l row R) (hb : b = true ↔ R' k0) (hr : ∀ k, k ≠ k0 → (R' k ↔ R k)) : IsR l (row.set k0 b) R' := by
  refine ⟨by rw [List.length_set]; exact h.1, fun k hk => ?_⟩
  rw [List.getElem?_set]
  by_cases he : k0 = k
  · subst he
    rw [if_pos rfl, if_pos (by rw [h.1]; exact hk)]
    congr 1
    exact Bool.eq_iff_iff.2 (hb.trans pd_iff.symm)
  · rw [if_neg he, h.2 k hk, pd_eq (hr k (Ne.symm he))]
theorem IsR.ext {l : List Ev} {row : List Bool} {R R' : Nat → Prop} (h : IsR l row R) (e : ∀ k, R k ↔ R' k) : IsR l row R' := by
  have : R = R' := funext fun k => propext (e k)
  rw [← this]; exact h
theorem IsR.pr {l : List Ev} {row : List Bool} {i : Nat} (h : IsR l row (Pst l i)) : row = PR l i := by
  refine List.ext_getElem? fun k => ?_
  by_cases hk : k < l.length
  · rw [h.2 k hk, pr_at hk]
  · rw [List.getElem?_eq_none (by rw [h.1]; omega), List.getElem?_eq_none (by rw [pr_len]; omega)]
def Rows (l : List Ev) (i : Nat) (a : List (List Bool)) (R : Nat → Prop) : Prop := a.length = l.length ∧ (∀ j, j < i → a[j]? = some (PR l j)) ∧ ∃ row, a[i]? = some row ∧ IsR l row R
theorem rows_set {l : List Ev} {i : Nat} {a : List (List Bool)} {R R' : Nat → Prop} {row' : List Bool} (h : Rows l i a R) (hi : i < l.length) (hr : IsR l row' R') : Rows l i (a.set i row') R' := by
  refine ⟨by rw [List.length_set]; exact h.1, fun j hj => ?_, row', ?_, hr⟩
  · rw [List.getElem?_set, if_neg (by omega)]; exact h.2.1 j hj
  · rw [List.getElem?_set, if_pos rfl, if_pos (by rw [h.1]; exact hi)]
theorem past_l2 {l : List Ev} (hL : l.length ≤ 200) {i j : Nat} (hj : j < i) (hi : i < l.length) (e : Ev) {R : Nat → Prop} {r : Option (List (List Bool))}
    (K : ∀ a, Rows l i a (fun k => R k ∨ Pst l j k) → roadref4_Past.j0 l a (i : Int) e (j : Int) l (l.length : Int) (i : Int) = r) : ∀ (d q : Nat) (a : List (List Bool)), q + d = l.length →
    Rows l i a (fun k => R k ∨ (k < q ∧ Pst l j k)) → roadref4_Past.l2 l a (i : Int) e (j : Int) l (l.length : Int) (i : Int) (l.length : Int) (q : Int) (j : Int) (PR l j) = r := by
  intro d
  induction d with
  | zero =>
    intro q a hq h
    rw [roadref4_Past.l2_eq, if_neg (by omega)]
    refine K a ⟨h.1, h.2.1, ?_⟩
    obtain ⟨row, h1, h2⟩ := h.2.2
    refine ⟨row, h1, h2.ext fun k => ⟨fun g => g.imp id And.right, fun g => g.imp id fun g => ⟨by have := g.lt; omega, g⟩⟩⟩
  | succ d ih =>
    intro q a hq h
    obtain ⟨row, h1, h2⟩ := h.2.2
    rw [roadref4_Past.l2_eq, if_pos (by omega), gi_some (k := q) rfl (pr_at (by omega)), Option.bind_some, gi_some (k := i) rfl h1, Option.bind_some, Option.bind_some, gi_some (k := q) rfl (h2.2 q (by omega)), Option.bind_some]
    have go : ∀ b : Bool, (b = true ↔ (R q ∨ (q < q + 1 ∧ Pst l j q))) → roadref4_Past.l2 l (a.set i (row.set q b)) (i : Int) e (j : Int) l (l.length : Int) (i : Int) (l.length : Int) ((q + 1 : Nat) : Int) (j : Int) (PR l j) = r := by
      intro b hb
      refine ih (q + 1) _ (by omega) (rows_set h hi (h2.set hb fun k hk => ?_))
      exact ⟨fun g => g.imp id fun g => ⟨by omega, g.2⟩, fun g => g.imp id fun g => ⟨by omega, g.2⟩⟩
    rw [w_succ (by omega)]
    simp only [Int.toNat_natCast]
    by_cases hr : R q ∨ (q < q ∧ Pst l j q)
    · rw [pd_t hr, if_pos rfl, Option.bind_some, Option.bind_some, if_pos (by omega)]
      exact go true ⟨fun _ => hr.imp id fun g => ⟨by omega, g.2⟩, fun _ => rfl⟩
    · rw [pd_f hr, if_neg (by decide), Option.bind_some, Option.bind_some, if_pos (by omega)]
      refine go _ (pd_iff.trans ⟨fun g => .inr ⟨by omega, g⟩, fun g => g.elim (fun g => absurd (.inl g) hr) And.right⟩)
theorem past_l1 {l : List Ev} (hL : l.length ≤ 200) {i : Nat} (hi : i < l.length) {r : Option (List (List Bool))}
    (K : ∀ a, Rows l i a (Pst l i) → roadref4_Past.l0 l a l (l.length : Int) ((i + 1 : Nat) : Int) = r) : ∀ (n : Nat) (a : List (List Bool)), n ≤ i →
    Rows l i a (fun k => ∃ j, n ≤ j ∧ j < i ∧ Dir (ev l i) (ev l j) ∧ DS l j k) → roadref4_Past.l1 l a (i : Int) (ev l i) ((n : Int) - 1) l (l.length : Int) (i : Int) = r := by
  intro n
  induction n with
  | zero =>
    intro a hn h
    rw [roadref4_Past.l1_eq, if_neg (by omega), w_succ (by omega)]
    refine K a ⟨h.1, h.2.1, ?_⟩
    obtain ⟨row, h1, h2⟩ := h.2.2
    exact ⟨row, h1, h2.ext fun k => ⟨fun ⟨j, _, g⟩ => pst_iff.2 ⟨j, g⟩, fun g => by obtain ⟨j, g⟩ := pst_iff.1 g; exact ⟨j, by omega, g⟩⟩⟩
  | succ n ih =>
    intro a hn h
    rw [roadref4_Past.l1_eq, show ((n + 1 : Nat) : Int) - 1 = (n : Int) by omega, if_pos (by omega), gi_some (k := n) rfl (ev_some (by omega)), Option.bind_some]
    have no : ¬ Dir (ev l i) (ev l n) → roadref4_Past.j1 l a (i : Int) (ev l i) (n : Int) l (l.length : Int) (i : Int) false = r := by
      intro hd
      rw [roadref4_Past.j1_eq, if_neg (by decide), roadref4_Past.j0_eq, wrap_in (by omega) (by omega)]
      refine ih a (by omega) ⟨h.1, h.2.1, ?_⟩
      obtain ⟨row, h1, h2⟩ := h.2.2
      refine ⟨row, h1, h2.ext fun k => ⟨fun ⟨j, a, b⟩ => ⟨j, by omega, b⟩, fun ⟨j, a, b, c, d⟩ => ⟨j, ?_, b, c, d⟩⟩⟩
      have : j ≠ n := fun e => hd (by rw [← e]; exact c)
      omega
    have yes : Dir (ev l i) (ev l n) → roadref4_Past.j1 l a (i : Int) (ev l i) (n : Int) l (l.length : Int) (i : Int) true = r := by
      intro hd
      obtain ⟨row, h1, h2⟩ := h.2.2
      have h3 := rows_set h hi (h2.set (k0 := n) (b := true) (R' := fun k => k = n ∨ ∃ j, n + 1 ≤ j ∧ j < i ∧ Dir (ev l i) (ev l j) ∧ DS l j k) ⟨fun _ => .inl rfl, fun _ => rfl⟩ fun k hk => ⟨fun g => g.resolve_left hk, .inr⟩)
      rw [roadref4_Past.j1_eq, if_pos rfl, gi_some (k := i) rfl h1, Option.bind_some, gi_some (k := n) rfl (h2.2 n (by omega)), Option.bind_some, Option.bind_some]
      simp only [Int.toNat_natCast]
      rw [gi_some (k := n) rfl (h3.2.1 n (by omega)), Option.bind_some, pr_len]
      refine past_l2 hL (by omega) hi (ev l i) (fun a' h' => ?_) l.length 0 _ (by omega) (R := fun k => k = n ∨ ∃ j, n + 1 ≤ j ∧ j < i ∧ Dir (ev l i) (ev l j) ∧ DS l j k) ?_
      · rw [roadref4_Past.j0_eq, wrap_in (by omega) (by omega)]
        refine ih a' (by omega) ⟨h'.1, h'.2.1, ?_⟩
        obtain ⟨row', g1, g2⟩ := h'.2.2
        refine ⟨row', g1, g2.ext fun k => ⟨fun g => ?_, fun ⟨j, a, b, c, d⟩ => ?_⟩⟩
        · rcases g with (g | ⟨j, a, b⟩) | g
          · exact ⟨n, by omega, by omega, hd, .inl g⟩
          · exact ⟨j, by omega, b⟩
          · exact ⟨n, by omega, by omega, hd, .inr g⟩
        · by_cases he : j = n
          · subst he
            rcases d with d | d
            · exact .inl (.inl d)
            · exact .inr d
          · exact .inl (.inr ⟨j, by omega, b, c, d⟩)
      · refine ⟨h3.1, h3.2.1, ?_⟩
        obtain ⟨row', g1, g2⟩ := h3.2.2
        exact ⟨row', g1, g2.ext fun k => ⟨.inl, fun g => g.elim id fun g => absurd g.1 (by omega)⟩⟩
    by_cases p1 : (ev l n).Place = (ev l i).Place
    · rw [if_pos p1]; exact yes (.inl p1)
    rw [if_neg p1]
    by_cases p2 : (ev l i).Kind = 3
    · rw [if_pos p2]
      by_cases p3 : (ev l n).Kind = 2
      · rw [if_pos p3]
        by_cases p4 : (ev l n).Msg = (ev l i).Msg
        · rw [beq_iff_eq.2 p4]; exact yes (.inr ⟨p2, p3, p4⟩)
        · rw [beq_eq_false_iff_ne.2 p4]; exact no (fun h => h.elim p1 fun h => p4 h.2.2)
      · rw [if_neg p3]; exact no (fun h => h.elim p1 fun h => p3 h.2.1)
    · rw [if_neg p2]; exact no (fun h => h.elim p1 fun h => p2 h.1)
theorem past_loop {l : List Ev} (hL : l.length ≤ 200) : ∀ (d i : Nat) (a : List (List Bool)), i + d = l.length → a.length = l.length → (∀ j, j < i → a[j]? = some (PR l j)) → roadref4_Past.l0 l a l (l.length : Int) (i : Int) = some (Ps l) := by
  intro d
  induction d with
  | zero =>
    intro i a hi hl ha
    rw [roadref4_Past.l0_eq, if_neg (by omega)]
    congr 1
    refine List.ext_getElem? fun k => ?_
    by_cases hk : k < l.length
    · rw [ha k (by omega), ps_at hk]
    · rw [List.getElem?_eq_none (by omega), List.getElem?_eq_none (by simp [Ps]; omega)]
  | succ d ih =>
    intro i a hi hl ha
    have hlt : i < l.length := by omega
    rw [roadref4_Past.l0_eq, if_pos (by omega), gi_some (k := i) rfl (ev_some hlt), Option.bind_some, mks_of (k := l.length) rfl (by omega) (by omega), Option.bind_some, gi_at (by omega), Option.bind_some, Option.bind_some, wrap_in (by omega) (by omega), Int.toNat_natCast]
    refine past_l1 hL hlt (fun a' h' => ?_) i _ (Nat.le_refl _) ⟨by simpa using hl, fun j hj => ?_, List.replicate l.length false, ?_, by rw [List.length_replicate], fun k hk => ?_⟩
    · refine ih (i + 1) a' (by omega) h'.1 fun j hj => ?_
      by_cases he : j = i
      · subst he
        obtain ⟨row, g1, g2⟩ := h'.2.2
        rw [g1, g2.pr]
      · exact h'.2.1 j (by omega)
    · rw [List.getElem?_set, if_neg (by omega)]; exact ha j hj
    · rw [List.getElem?_set, if_pos rfl, if_pos (by omega)]
    · rw [List.getElem?_replicate, if_pos hk, pd_f]
      rintro ⟨j, a, b, _⟩; omega
theorem past_val {l : List Ev} (hL : l.length ≤ 200) : roadref4_Past l = some (Ps l) := by
  unfold roadref4_Past
  rw [mks_of (k := l.length) rfl (by omega) (by omega), Option.bind_some]
  exact past_loop hL l.length 0 _ (by omega) (by simp) (fun j h => absurd h (by omega))
theorem gi_ev {l : List Ev} {i : Nat} (h : i < l.length) : gi l (i : Int) = some (ev l i) := by rw [gi_nat]; exact ev_some h
theorem gi_row {l : List Ev} {A : Nat → Prop} {q : Nat} (h : q < 8) : gi (Row l A) (q : Int) = some (cn l A (q : Int) : Int) := by rw [gi_nat]; exact row_at h
def cq (a : List Int) (q : Nat) : Int := (a[q]?).getD 0
theorem gi_cq {a : List Int} (h8 : a.length = 8) {q : Nat} (h : q < 8) : gi a (q : Int) = some (cq a q) := by
  rw [gi_nat]; unfold cq; rw [List.getElem?_eq_getElem (by omega)]; rfl
abbrev bef (i : Nat) : Nat → Prop := fun j => j < i
theorem pl_nat {l : List Ev} (v : Val l) {i : Nat} (hi : i < l.length) : ∃ p : Nat, pl l i = (p : Int) ∧ p < 8 := by
  obtain ⟨h1, h2⟩ := v.2.1 i hi
  obtain ⟨p, hp⟩ := Int.eq_ofNat_of_zero_le h1
  exact ⟨p, hp, by omega⟩
theorem row_bef {l : List Ev} {i p : Nat} (hi : i < l.length) (hp : pl l i = p) (h8 : p < 8) : (Row l (bef i)).set p ((cn l (bef i) (p : Int) : Int) + 1) = Row l (bef (i + 1)) :=
  row_set hi hp h8 (fun h => Nat.lt_irrefl _ h) fun k => by show k < i + 1 ↔ k < i ∨ k = i; omega
theorem cn_bef {l : List Ev} {i p : Nat} (hi : i < l.length) (hp : pl l i = p) : cn l (bef (i + 1)) (p : Int) = cn l (bef i) (p : Int) + 1 := by
  rw [← hp]
  exact cn_add (i := i) hi (show i < i + 1 by omega) (fun h => Nat.lt_irrefl _ h) fun k hk _ => by show k < i + 1 ↔ k < i; omega
theorem cn_bef_ne {l : List Ev} {i : Nat} {q : Int} (hp : pl l i ≠ q) : cn l (bef (i + 1)) q = cn l (bef i) q := cn_eq fun k hk => by
  show k < i + 1 ↔ k < i
  constructor
  · intro h
    by_cases e : k = i
    · subst e; exact absurd hk hp
    · omega
  · intro h; omega
def In (l : List Ev) (a : List Int) (k : Nat) : Prop := k < l.length ∧ (cn l (bef k) (pl l k) : Int) < cq a (pl l k).toNat
noncomputable def BR (l : List Ev) (R : Nat → Prop) : List Bool := (List.range l.length).map fun k => pd (R k)
theorem IsR.br {l : List Ev} {row : List Bool} {R : Nat → Prop} (h : IsR l row R) : row = BR l R := by
  refine List.ext_getElem? fun k => ?_
  rcases Nat.lt_or_ge k l.length with g | g
  · rw [h.2 k g]; unfold BR; rw [List.getElem?_map, List.getElem?_range g]; rfl
  · rw [List.getElem?_eq_none (by rw [h.1]; exact g), List.getElem?_eq_none (by unfold BR; simpa using g)]
theorem br_gi {l : List Ev} {R : Nat → Prop} {k : Nat} (h : k < l.length) : gi (BR l R) (k : Int) = some (pd (R k)) := by
  rw [gi_nat]; unfold BR; rw [List.getElem?_map, List.getElem?_range h]; rfl
section
variable {l : List Ev} (v : Val l)
include v
theorem counts_l0 : ∀ (d i : Nat), i + d = l.length → cut_counts.l0 (Row l (bef i)) l (l.length : Int) (i : Int) = some (Row l (bef l.length)) := by
  intro d
  have hN := v.1
  induction d with
  | zero =>
    intro i hi
    have : i = l.length := by omega
    subst this
    rw [cut_counts.l0_eq, if_neg (by omega)]
  | succ d ih =>
    intro i hi
    have hlt : i < l.length := by omega
    obtain ⟨p, hp, h8⟩ := pl_nat v hlt
    have hc := cn_bound (l := l) (A := bef i) (q := (p : Int))
    rw [cut_counts.l0_eq, if_pos (by omega), gi_ev hlt, Option.bind_some, show (ev l i).Place = (p : Int) from hp, gi_row h8, Option.bind_some, Option.bind_some, Option.bind_some, wrap_in (by omega) (by omega), w_succ (by omega), show Int.toNat (p : Int) = p from rfl, row_bef hlt hp h8]
    exact ih (i + 1) (by omega)
theorem counts_val : cut_counts l = some (Row l (bef l.length)) := by
  unfold cut_counts
  rw [mks_of (k := 8) (x := 8) rfl (by omega) (by omega), Option.bind_some]
  have := counts_l0 v l.length 0 (by omega)
  rw [row_none (A := bef 0) fun k h => Nat.not_lt_zero _ h, show ((0 : Nat) : Int) = 0 from rfl] at this
  exact this
theorem inside_l0 {a : List Int} (h8a : a.length = 8) : ∀ (d i : Nat) (row : List Bool), i + d = l.length → IsR l row (fun k => k < i ∧ In l a k) → cut_inside.l0 a (Row l (bef i)) row l (l.length : Int) (i : Int) = some (BR l (In l a)) := by
  intro d
  have hN := v.1
  induction d with
  | zero =>
    intro i row hi h
    rw [cut_inside.l0_eq, if_neg (by omega), (h.ext (R' := In l a) fun k => ⟨fun g => g.2, fun g => ⟨by have := g.1; omega, g⟩⟩).br]
  | succ d ih =>
    intro i row hi h
    have hlt : i < l.length := by omega
    obtain ⟨p, hp, h8⟩ := pl_nat v hlt
    have hc := cn_bound (l := l) (A := bef i) (q := (p : Int))
    have hrow : gi row (i : Int) = some (pd (i < i ∧ In l a i)) := by rw [gi_nat]; exact h.2 i hlt
    rw [cut_inside.l0_eq, if_pos (by omega), gi_ev hlt, Option.bind_some, show (ev l i).Place = (p : Int) from hp, gi_row h8, Option.bind_some, Option.bind_some, Option.bind_some, wrap_in (by omega) (by omega), show Int.toNat (p : Int) = p from rfl, row_bef hlt hp h8, gi_row h8, Option.bind_some, gi_cq h8a h8, Option.bind_some, hrow, Option.bind_some, Option.bind_some, w_succ (by omega), cn_bef hlt hp, show Int.toNat (i : Int) = i from rfl]
    refine ih (i + 1) _ (by omega) (h.set (k0 := i) ?_ fun k hk => ?_)
    · rw [decide_eq_true_eq]
      have hin : In l a i ↔ (cn l (bef i) (p : Int) : Int) < cq a p := by
        unfold In; rw [hp]; exact ⟨fun g => g.2, fun g => ⟨hlt, g⟩⟩
      rw [hin]; constructor
      · intro g; exact ⟨by omega, by omega⟩
      · intro g; have := g.2; omega
    · exact ⟨fun g => ⟨by have := g.1; omega, g.2⟩, fun g => ⟨by have := g.1; omega, g.2⟩⟩
theorem inside_val {a : List Int} (h8a : a.length = 8) : cut_inside l a = some (BR l (In l a)) := by
  unfold cut_inside
  have hN := v.1
  rw [mks_of rfl (by omega) (by omega), Option.bind_some]
  have := inside_l0 v h8a l.length 0 (List.replicate l.length false) (by omega) ⟨by simp, fun k hk => by rw [List.getElem?_replicate, if_pos hk, pd_f (fun h => Nat.not_lt_zero _ h.1)]⟩
  rw [row_none (A := bef 0) fun k h => Nat.not_lt_zero _ h, show ((0 : Nat) : Int) = 0 from rfl] at this
  exact this
theorem in_l0 {a : List Int} (h8a : a.length = 8) (hpos : ∀ q, q < 8 → 0 ≤ cq a q) (hbig : ∀ q, q < 8 → cq a q ≤ 200) : ∀ (d i : Nat) (rem : List Int) (row : List Bool), i + d = l.length → rem.length = 8 → (∀ q : Nat, q < 8 → rem[q]? = some (if (cn l (bef i) (q : Int) : Int) < cq a q then cq a q - cn l (bef i) (q : Int) else 0)) → IsR l row (fun k => k < i ∧ In l a k) →
    roadref4_In.l0 rem row l (l.length : Int) (i : Int) = some (BR l (In l a)) := by
  intro d
  have hN := v.1
  induction d with
  | zero =>
    intro i rem row hi _ _ h
    rw [roadref4_In.l0_eq, if_neg (by omega), (h.ext (R' := In l a) fun k => ⟨fun g => g.2, fun g => ⟨by have := g.1; omega, g⟩⟩).br]
  | succ d ih =>
    intro i rem row hi hr8 hrem h
    have hlt : i < l.length := by omega
    obtain ⟨p, hp, h8⟩ := pl_nat v hlt
    have hc := cn_bound (l := l) (A := bef i) (q := (p : Int))
    have hg : gi rem (p : Int) = some (if (cn l (bef i) (p : Int) : Int) < cq a p then cq a p - cn l (bef i) (p : Int) else 0) := by rw [gi_nat]; exact hrem p h8
    have hin : In l a i ↔ (cn l (bef i) (p : Int) : Int) < cq a p := by
      unfold In; rw [hp]; exact ⟨fun g => g.2, fun g => ⟨hlt, g⟩⟩
    have hb := hbig p h8
    have hcs := cn_bef (l := l) hlt hp
    have hrow : gi row (i : Int) = some (pd (i < i ∧ In l a i)) := by rw [gi_nat]; exact h.2 i hlt
    rw [roadref4_In.l0_eq, if_pos (by omega), gi_ev hlt, Option.bind_some, show (ev l i).Place = (p : Int) from hp, hg, Option.bind_some]
    by_cases c : (cn l (bef i) (p : Int) : Int) < cq a p
    · rw [if_pos c, if_pos (by omega), Option.bind_some, Option.bind_some, Option.bind_some, hrow, Option.bind_some, Option.bind_some, wrap_in (by omega) (by omega), w_succ (by omega), show Int.toNat (p : Int) = p from rfl, show Int.toNat (i : Int) = i from rfl]
      refine ih (i + 1) _ _ (by omega) (by rw [List.length_set]; exact hr8) (fun q hq => ?_) (h.set (k0 := i) ?_ fun k hk => ?_)
      · rw [List.getElem?_set]
        by_cases e : p = q
        · subst e
          rw [if_pos rfl, if_pos (by omega), hcs]
          congr 1
          by_cases c2 : ((cn l (bef i) (p : Int) + 1 : Nat) : Int) < cq a p
          · rw [if_pos c2]; omega
          · rw [if_neg c2]; omega
        · rw [if_neg e, hrem q hq, cn_bef_ne (by rw [hp]; omega)]
      · exact ⟨fun _ => ⟨by omega, hin.2 c⟩, fun _ => rfl⟩
      · exact ⟨fun g => ⟨by have := g.1; omega, g.2⟩, fun g => ⟨by have := g.1; omega, g.2⟩⟩
    · rw [if_neg c, if_neg (by omega), w_succ (by omega)]
      refine ih (i + 1) _ _ (by omega) hr8 (fun q hq => ?_) (h.ext fun k => ?_)
      · rw [hrem q hq]
        by_cases e : p = q
        · subst e
          rw [if_neg c, hcs, if_neg (by omega)]
        · rw [cn_bef_ne (by rw [hp]; omega)]
      · exact ⟨fun g => ⟨by have := g.1; omega, g.2⟩, fun g => ⟨by
          have := g.1
          by_cases e : k = i
          · subst e; exact absurd (hin.1 g.2) c
          · omega, g.2⟩⟩
theorem in_val' {a : List Int} (h8a : a.length = 8) (hpos : ∀ q, q < 8 → 0 ≤ cq a q) (hbig : ∀ q, q < 8 → cq a q ≤ 200) : roadref4_In l a = some (BR l (In l a)) := by
  unfold roadref4_In
  have hN := v.1
  rw [clone_val (by omega), Option.bind_some, mks_of rfl (by omega) (by omega), Option.bind_some]
  have := in_l0 v h8a hpos hbig l.length 0 a (List.replicate l.length false) (by omega) h8a (fun q hq => by
    have h0 : cn l (bef 0) (q : Int) = 0 := by unfold cn; exact List.countP_eq_zero.2 fun k _ => by simp
    rw [h0]
    have h1 : a[q]? = some (cq a q) := by unfold cq; rw [List.getElem?_eq_getElem (by omega)]; rfl
    rw [h1]; congr 1
    have := hpos q hq
    by_cases c : ((0 : Nat) : Int) < cq a q
    · rw [if_pos c]; omega
    · rw [if_neg c]; omega) ⟨by simp, fun k hk => by rw [List.getElem?_replicate, if_pos hk, pd_f (fun h => Nat.not_lt_zero _ h.1)]⟩
  exact this
omit v in
theorem pgdb_set {es : List (Int × Bool)} {k q : Int} {x : Bool} : pgd (pset es k x) q false = if q = k then x else pgd es q false := by
  unfold pgd; rw [pget_pset]; split <;> rfl
def Snt (l : List Ev) (R : Nat → Prop) (i : Nat) (m : Int) : Prop := ∃ j, j < i ∧ (ev l j).Kind = 2 ∧ (ev l j).Msg = m ∧ R j
def okw (l : List Ev) (R : Nat → Prop) (k : Nat) : Prop := R k → (ev l k).Kind = 3 → Snt l R k (ev l k).Msg
theorem snt_self {R : Nat → Prop} {i : Nat} (hi : i < l.length) (h2 : (ev l i).Kind = 2) : Snt l R (i + 1) (ev l i).Msg ↔ R i := by
  constructor
  · rintro ⟨j, j1, j2, j3, j4⟩
    by_cases e : j = i
    · subst e; exact j4
    · exact absurd j3 (v.2.2 i j hi (by omega) h2 j2)
  · intro h; exact ⟨i, by omega, h2, rfl, h⟩
omit v in
theorem snt_other {R : Nat → Prop} {i : Nat} {m : Int} (h : (ev l i).Kind ≠ 2 ∨ (ev l i).Msg ≠ m) : Snt l R (i + 1) m ↔ Snt l R i m := by
  constructor
  · rintro ⟨j, j1, j2, j3, j4⟩
    by_cases e : j = i
    · subst e; exact h.elim (fun h => absurd j2 h) fun h => absurd j3 h
    · exact ⟨j, by omega, j2, j3, j4⟩
  · rintro ⟨j, j1, j2⟩; exact ⟨j, by omega, j2⟩
theorem es_next {R : Nat → Prop} {i : Nat} (hi : i < l.length) {es : List (Int × Bool)} (he : ∀ m, pgd es m false = true ↔ Snt l R i m) : ∀ es', es' = (if (ev l i).Kind = 2 then pset es (ev l i).Msg (pd (R i)) else es) → ∀ m, pgd es' m false = true ↔ Snt l R (i + 1) m := by
  rintro es' rfl m
  by_cases c : (ev l i).Kind = 2
  · rw [if_pos c, pgdb_set]
    by_cases e : m = (ev l i).Msg
    · rw [if_pos e, pd_iff, e, snt_self v hi c]
    · rw [if_neg e, he, snt_other (.inr fun h => e h.symm)]
  · rw [if_neg c, he, snt_other (.inl c)]
theorem whole_l0 {R : Nat → Prop} : ∀ (d i : Nat) (es : List (Int × Bool)), i + d = l.length → (∀ m, pgd es m false = true ↔ Snt l R i m) → cut_whole.l0 (BR l R) es l (l.length : Int) (i : Int) = some (pd (∀ k, i ≤ k → k < l.length → okw l R k)) := by
  intro d
  have hN := v.1
  induction d with
  | zero =>
    intro i es hi he
    rw [cut_whole.l0_eq, if_neg (by omega), pd_t fun k h1 h2 => by omega]
  | succ d ih =>
    intro i es hi he
    have hlt : i < l.length := by omega
    have hstep : okw l R i → pd (∀ k, i + 1 ≤ k → k < l.length → okw l R k) = pd (∀ k, i ≤ k → k < l.length → okw l R k) := fun h => pd_eq ⟨fun g k h1 h2 => by
      by_cases e : k = i
      · subst e; exact h
      · exact g k (by omega) h2, fun g k h1 h2 => g k (by omega) h2⟩
    have hj0 : ∀ es', es' = (if (ev l i).Kind = 2 then pset es (ev l i).Msg (pd (R i)) else es) → cut_whole.j0 (BR l R) es' (i : Int) (ev l i) l (l.length : Int) (i : Int) = some (pd (∀ k, i ≤ k → k < l.length → okw l R k)) := by
      intro es' hes
      have hn := es_next v hlt he es' hes
      rw [cut_whole.j0_eq]
      by_cases c : (ev l i).Kind = 3
      · rw [if_pos c, br_gi hlt, Option.bind_some]
        have hm : Snt l R (i + 1) (ev l i).Msg ↔ Snt l R i (ev l i).Msg := snt_other (.inl (by omega))
        by_cases g : R i
        · rw [if_pos (pd_t g)]
          by_cases q : Snt l R i (ev l i).Msg
          · rw [if_pos ((hn _).2 (hm.2 q)), w_succ (by omega), ih (i + 1) es' (by omega) hn, hstep fun _ _ => q]
          · rw [if_neg (fun h => q (hm.1 ((hn _).1 h))), pd_f fun h => q (h i (Nat.le_refl _) hlt g c)]
        · rw [if_neg (by rw [pd_f g]; exact Bool.false_ne_true), w_succ (by omega), ih (i + 1) es' (by omega) hn, hstep fun h => absurd h g]
      · rw [if_neg c, w_succ (by omega), ih (i + 1) es' (by omega) hn, hstep fun _ h => absurd h c]
    rw [cut_whole.l0_eq, if_pos (by omega), gi_ev hlt, Option.bind_some]
    by_cases c : (ev l i).Kind = 2
    · rw [if_pos c, br_gi hlt, Option.bind_some, Option.bind_some]; exact hj0 _ (by rw [if_pos c])
    · rw [if_neg c]; exact hj0 _ (by rw [if_neg c])
theorem whole_val {a : List Int} (h8a : a.length = 8) : cut_whole l a = some (pd (∀ k, k < l.length → okw l (In l a) k)) := by
  unfold cut_whole
  rw [inside_val v h8a, Option.bind_some]
  have := whole_l0 v (R := In l a) l.length 0 [] (by omega) (fun m => ⟨fun h => absurd h (by simp [pgd, pget]), fun ⟨j, h, _⟩ => absurd h (Nat.not_lt_zero _)⟩)
  rw [show ((0 : Nat) : Int) = 0 from rfl] at this
  rw [this]; congr 1
  exact pd_eq ⟨fun h k hk => h k (Nat.zero_le _) hk, fun h k _ hk => h k hk⟩
theorem in_dc {a : List Int} : Dc l (In l a) := fun k k' h hk hp => by
  refine ⟨by have := h.1; omega, ?_⟩
  rw [hp]
  have := h.2
  have h2 : cn l (bef k') (pl l k) ≤ cn l (bef k) (pl l k) := cn_le fun j (hj : j < k') _ => show j < k by omega
  omega
theorem past_in {R : Nat → Prop} (hd : Dc l R) (hw : ∀ k, k < l.length → okw l R k) {i k : Nat} (hi : i < l.length) (h : Pst l i k) (hR : R i) : R k := by
  have dir : ∀ {i j : Nat}, i < l.length → j < i → Dir (ev l i) (ev l j) → R i → R j := fun {i j} hi hj hdir hRi => by
    rcases hdir with g | ⟨g1, g2, g3⟩
    · exact hd i j hRi hj g
    · obtain ⟨j', a1, a2, a3, a4⟩ := hw i hi hRi g1
      by_cases e : j' = j
      · subst e; exact a4
      · rcases Nat.lt_or_ge j j' with q | q
        · exact absurd (g3.trans a3.symm) (v.2.2 j' j (by omega) q a2 g2)
        · exact absurd (a3.trans g3.symm) (v.2.2 j j' (by omega) (by omega) g2 a2)
  induction h with
  | base a b => exact dir hi a b hR
  | step a b _ ih => exact ih (by omega) (dir hi a b hR)
end
section
variable {l : List Ev} (v : Val l)
include v
theorem rwhole_l1 {R : Nat → Prop} {i : Nat} (hi : i < l.length) : ∀ (d m : Nat), m + d = i → roadref4_Whole.l1 (BR l R) (Ps l) (i : Int) (l.length : Int) (i : Int) (i : Int) (m : Int) = if pd (∀ k, m ≤ k → k < i → R i → Pst l i k → R k) = true then roadref4_Whole.l0 (BR l R) (Ps l) (l.length : Int) (IntKind.wrap .i64 ((i : Int) + 1)) else some false := by
  intro d
  have hN := v.1
  induction d with
  | zero => intro m hm; rw [roadref4_Whole.l1_eq, if_neg (by omega), if_pos (pd_t fun k h1 h2 => by omega)]
  | succ d ih =>
    intro m hm
    have hmi : m < i := by omega
    have hml : m < l.length := by omega
    have hstep : (R i → Pst l i m → R m) → pd (∀ k, m + 1 ≤ k → k < i → R i → Pst l i k → R k) = pd (∀ k, m ≤ k → k < i → R i → Pst l i k → R k) := fun h => pd_eq ⟨fun g k h1 h2 => by
      by_cases e : k = m
      · subst e; exact h
      · exact g k (by omega) h2, fun g k h1 h2 => g k (by omega) h2⟩
    have hps : gi (Ps l) (i : Int) = some (PR l i) := by rw [gi_nat]; exact ps_at hi
    have hpr : gi (PR l i) (m : Int) = some (pd (Pst l i m)) := by rw [gi_nat]; exact pr_at hml
    rw [roadref4_Whole.l1_eq, if_pos (by omega), br_gi hi, Option.bind_some]
    by_cases a : R i
    · rw [if_pos (pd_t a), hps, Option.bind_some, hpr, Option.bind_some]
      by_cases b : Pst l i m
      · rw [if_pos (pd_t b), br_gi hml, Option.bind_some]
        by_cases c : R m
        · rw [if_pos (pd_t c), w_succ (k := m) (by omega), ih (m + 1) (by omega), hstep fun _ _ => c]
        · rw [if_neg (by rw [pd_f c]; exact Bool.false_ne_true), if_neg (by rw [pd_f fun h => c (h m (Nat.le_refl _) hmi a b)]; exact Bool.false_ne_true)]
      · rw [if_neg (by rw [pd_f b]; exact Bool.false_ne_true), w_succ (k := m) (by omega), ih (m + 1) (by omega), hstep fun _ h => absurd h b]
    · rw [if_neg (by rw [pd_f a]; exact Bool.false_ne_true), w_succ (k := m) (by omega), ih (m + 1) (by omega), hstep fun h => absurd h a]
theorem rwhole_l0 {R : Nat → Prop} : ∀ (d i : Nat), i + d = l.length → roadref4_Whole.l0 (BR l R) (Ps l) (l.length : Int) (i : Int) = some (pd (∀ i', i ≤ i' → i' < l.length → ∀ k, 0 ≤ k → k < i' → R i' → Pst l i' k → R k)) := by
  intro d
  have hN := v.1
  induction d with
  | zero => intro i hi; rw [roadref4_Whole.l0_eq, if_neg (by omega), pd_t fun k h1 h2 => by omega]
  | succ d ih =>
    intro i hi
    have hlt : i < l.length := by omega
    have h1 := rwhole_l1 v (R := R) hlt i 0 (by omega)
    rw [show ((0 : Nat) : Int) = 0 from rfl] at h1
    rw [roadref4_Whole.l0_eq, if_pos (by omega), h1, w_succ (by omega), ih (i + 1) (by omega)]
    by_cases c : ∀ k, 0 ≤ k → k < i → R i → Pst l i k → R k
    · rw [if_pos (pd_t c)]
      congr 1
      refine pd_eq ⟨fun g i' h1 h2 => ?_, fun g i' h1 h2 => g i' (by omega) h2⟩
      by_cases e : i' = i
      · subst e; exact c
      · exact g i' (by omega) h2
    · rw [if_neg (by rw [pd_f c]; exact Bool.false_ne_true), pd_f fun h => c (h i (Nat.le_refl _) hlt)]
def VQ (l : List Ev) (a : List Int) (q : Nat) : Prop := 0 ≤ cq a q ∧ cq a q ≤ (cn l (bef l.length) (q : Int) : Int)
def VC (l : List Ev) (a : List Int) : Prop := a.length = 8 ∧ ∀ q, q < 8 → VQ l a q
theorem check_l1 {cs : List (List Int)} {n : Int} {j : Nat} (hj : j ≤ 1000) {a : List Int} (h8 : a.length = 8) : ∀ (d p : Nat), p + d = 8 → cut_check.l1 (Row l (bef l.length)) cs n (j : Int) a (a.length : Int) (p : Int) = if pd (∀ q, p ≤ q → q < 8 → VQ l a q) = true then cut_check.l0 (Row l (bef l.length)) cs n ((j + 1 : Nat) : Int) else some 1 := by
  intro d
  induction d with
  | zero => intro p hp; rw [cut_check.l1_eq, if_neg (by omega), if_pos (pd_t fun k h1 h2 => by omega), w_succ (by omega)]
  | succ d ih =>
    intro p hp
    have hlt : p < 8 := by omega
    rw [cut_check.l1_eq, if_pos (by omega), gi_cq h8 hlt, Option.bind_some]
    have bad : ¬ VQ l a p → ¬ pd (∀ q, p ≤ q → q < 8 → VQ l a q) = true := fun h g => h (pd_iff.1 g p (Nat.le_refl _) hlt)
    by_cases c1 : cq a p < 0
    · rw [if_pos c1, if_neg (bad fun h => by have := h.1; omega)]
    · rw [if_neg c1, gi_row hlt, Option.bind_some]
      by_cases c2 : cq a p > (cn l (bef l.length) (p : Int) : Int)
      · rw [if_pos c2, if_neg (bad fun h => by have := h.2; omega)]
      · rw [if_neg c2, w_succ (k := p) (by omega), ih (p + 1) (by omega)]
        rw [pd_eq (p := ∀ q, p + 1 ≤ q → q < 8 → VQ l a q) (q := ∀ q, p ≤ q → q < 8 → VQ l a q) ⟨fun g k h1 h2 => by
          by_cases e : k = p
          · subst e; exact ⟨by omega, by omega⟩
          · exact g k (by omega) h2, fun g k h1 h2 => g k (by omega) h2⟩]
theorem cuts_l2 {cs : List (List Int)} {n : Int} {j : Nat} {a : List Int} {p : Nat} (h8 : p < 8) : ∀ (d m : Nat), m + d = l.length → roadref4_Cuts.l2 l (p : Int) (cq a p) (cn l (bef m) (p : Int) : Int) cs n (j : Int) a (a.length : Int) (p : Int) l (l.length : Int) (m : Int) = if pd (VQ l a p) = true then roadref4_Cuts.l1 l cs n (j : Int) a (a.length : Int) ((p + 1 : Nat) : Int) else some 1 := by
  intro d
  have hN := v.1
  induction d with
  | zero =>
    intro m hm
    have : m = l.length := by omega
    subst this
    rw [roadref4_Cuts.l2_eq, if_neg (by omega), within_val, Option.bind_some, w_succ (by omega)]
    by_cases c : VQ l a p
    · rw [if_pos (by rw [decide_eq_true_eq]; exact c), if_pos (pd_t c)]
    · rw [if_neg (show ¬ decide _ = true by rw [decide_eq_true_eq]; exact c), if_neg (by rw [pd_f c]; exact Bool.false_ne_true)]
  | succ d ih =>
    intro m hm
    have hlt : m < l.length := by omega
    have hc := cn_bound (l := l) (A := bef m) (q := (p : Int))
    rw [roadref4_Cuts.l2_eq, if_pos (by omega), gi_ev hlt, Option.bind_some, ← ih (m + 1) (by omega)]
    by_cases c : (ev l m).Place = (p : Int)
    · rw [if_pos c, cn_bef hlt c, w_succ (by omega), w_succ (by omega)]
    · rw [if_neg c, cn_bef_ne c, w_succ (by omega)]
theorem cuts_l1 {cs : List (List Int)} {n : Int} {j : Nat} (hj : j ≤ 1000) {a : List Int} (h8 : a.length = 8) : ∀ (d p : Nat), p + d = 8 → roadref4_Cuts.l1 l cs n (j : Int) a (a.length : Int) (p : Int) = if pd (∀ q, p ≤ q → q < 8 → VQ l a q) = true then roadref4_Cuts.l0 l cs n ((j + 1 : Nat) : Int) else some 1 := by
  intro d
  induction d with
  | zero => intro p hp; rw [roadref4_Cuts.l1_eq, if_neg (by omega), if_pos (pd_t fun k h1 h2 => by omega), w_succ (by omega)]
  | succ d ih =>
    intro p hp
    have hlt : p < 8 := by omega
    have h2 := cuts_l2 v (cs := cs) (n := n) (j := j) (a := a) hlt l.length 0 (by omega)
    have h0 : cn l (bef 0) (p : Int) = 0 := by unfold cn; exact List.countP_eq_zero.2 fun k _ => by simp
    rw [h0, show ((0 : Nat) : Int) = 0 from rfl] at h2
    rw [roadref4_Cuts.l1_eq, if_pos (by omega), gi_cq h8 hlt, Option.bind_some, h2, ih (p + 1) (by omega)]
    by_cases c : VQ l a p
    · rw [if_pos (pd_t c), pd_eq (p := ∀ q, p + 1 ≤ q → q < 8 → VQ l a q) (q := ∀ q, p ≤ q → q < 8 → VQ l a q) ⟨fun g k h1 h2 => by
          by_cases e : k = p
          · subst e; exact c
          · exact g k (by omega) h2, fun g k h1 h2 => g k (by omega) h2⟩]
    · rw [if_neg (by rw [pd_f c]; exact Bool.false_ne_true), if_neg (by rw [pd_f fun g => c (g p (Nat.le_refl _) hlt)]; exact Bool.false_ne_true)]
theorem both_l0 {cs : List (List Int)} (hcs : cs.length ≤ 100) : ∀ (d j : Nat), j + d = cs.length → ∃ c, cut_check.l0 (Row l (bef l.length)) cs (cs.length : Int) (j : Int) = some c ∧ roadref4_Cuts.l0 l cs (cs.length : Int) (j : Int) = some c ∧ (c = 0 ↔ ∀ a ∈ cs.drop j, VC l a) := by
  intro d
  induction d with
  | zero =>
    intro j hj
    refine ⟨0, by rw [cut_check.l0_eq, if_neg (by omega)], by rw [roadref4_Cuts.l0_eq, if_neg (by omega)], fun _ a ha => ?_, fun _ => rfl⟩
    rw [List.drop_eq_nil_of_le (by omega)] at ha; cases ha
  | succ d ih =>
    intro j hj
    have hlt : j < cs.length := by omega
    obtain ⟨c, k1, k2, k3⟩ := ih (j + 1) (by omega)
    rw [cut_check.l0_eq, if_pos (by omega), gi_at hlt, Option.bind_some, roadref4_Cuts.l0_eq, if_pos (show (j : Int) < (cs.length : Int) by omega), gi_at hlt, Option.bind_some, List.drop_eq_getElem_cons hlt]
    have bad : ∀ x : Int, x ≠ 0 → ¬ VC l cs[j] → (x = 0 ↔ ∀ a ∈ cs[j] :: cs.drop (j + 1), VC l a) := fun x hx h => ⟨fun g => absurd g hx, fun g => absurd (g _ (List.mem_cons_self ..)) h⟩
    by_cases h8 : cs[j].length = 8
    · have c1 := check_l1 v (cs := cs) (n := (cs.length : Int)) (j := j) (by omega) h8 8 0 (by omega)
      have c2 := cuts_l1 v (cs := cs) (n := (cs.length : Int)) (j := j) (by omega) h8 8 0 (by omega)
      rw [show ((0 : Nat) : Int) = 0 from rfl] at c1 c2
      rw [if_pos (show (cs[j].length : Int) = 8 by omega), if_pos (show (cs[j].length : Int) = 8 by omega), c1, c2]
      by_cases g : ∀ q, 0 ≤ q → q < 8 → VQ l cs[j] q
      · rw [if_pos (pd_t g), if_pos (pd_t g)]
        refine ⟨c, k1, k2, k3.trans ⟨fun h a ha => ?_, fun h a ha => h a (List.mem_cons_of_mem _ ha)⟩⟩
        rcases List.mem_cons.1 ha with rfl | ha
        · exact ⟨h8, fun q hq => g q (Nat.zero_le _) hq⟩
        · exact h a ha
      · rw [if_neg (by rw [pd_f g]; exact Bool.false_ne_true), if_neg (by rw [pd_f g]; exact Bool.false_ne_true)]
        exact ⟨1, rfl, rfl, bad 1 (by decide) fun h => g fun q _ hq => h.2 q hq⟩
    · rw [if_neg (show ¬ (cs[j].length : Int) = 8 by omega), if_neg (show ¬ (cs[j].length : Int) = 8 by omega)]
      exact ⟨3, rfl, rfl, bad 3 (by decide) fun h => h8 h.1⟩
def Lst (l : List Ev) (a : List Int) (n : Nat) (k : Nat) : Prop := ∃ i, i < n ∧ In l a i ∧ DS l i k
omit v in
theorem lst_dc {a : List Int} {n : Nat} : Dc l (Lst l a n) := fun k k' ⟨i, h1, h2, h3⟩ hk hp => ⟨i, h1, h2, DS.dc k k' h3 hk hp⟩
theorem least_l0 {a : List Int} : ∀ (d i : Nat), i + d = l.length → cut_Least.l0 (Cs l) (BR l (In l a)) (Row l (Lst l a i)) (l.length : Int) (i : Int) = some (Row l (Lst l a l.length), 0) := by
  intro d
  have hN := v.1
  induction d with
  | zero =>
    intro i hi
    have : i = l.length := by omega
    subst this
    rw [cut_Least.l0_eq, if_neg (by omega)]
  | succ d ih =>
    intro i hi
    have hlt : i < l.length := by omega
    have hcs : gi (Cs l) (i : Int) = some (Row l (DS l i)) := by rw [gi_nat]; exact cs_at hlt
    rw [cut_Least.l0_eq, if_pos (by omega), br_gi hlt, Option.bind_some, w_succ (by omega), ← ih (i + 1) (by omega)]
    by_cases c : In l a i
    · rw [if_pos (pd_t c), hcs, Option.bind_some, join_rows lst_dc DS.dc, Option.bind_some]
      congr 1
      refine row_ext fun k => ?_
      constructor
      · rintro (⟨j, h1, h2⟩ | h)
        · exact ⟨j, by omega, h2⟩
        · exact ⟨i, by omega, c, h⟩
      · rintro ⟨j, h1, h2, h3⟩
        by_cases e : j = i
        · subst e; exact .inr h3
        · exact .inl ⟨j, by omega, h2, h3⟩
    · rw [if_neg (by rw [pd_f c]; exact Bool.false_ne_true)]
      congr 1
      refine row_ext fun k => ?_
      constructor
      · rintro ⟨j, h1, h2⟩; exact ⟨j, by omega, h2⟩
      · rintro ⟨j, h1, h2, h3⟩
        by_cases e : j = i
        · subst e; exact absurd h2 c
        · exact ⟨j, by omega, h2, h3⟩
theorem row_step {A : Nat → Prop} {i p : Nat} (hi : i < l.length) (hp : pl l i = (p : Int)) (h8 : p < 8) : (A i → (Row l (fun k => k < i ∧ A k)).set p ((cn l (fun k => k < i ∧ A k) (p : Int) : Int) + 1) = Row l (fun k => k < i + 1 ∧ A k)) ∧ (¬ A i → Row l (fun k => k < i ∧ A k) = Row l (fun k => k < i + 1 ∧ A k)) := by
  refine ⟨fun h => row_set hi hp h8 (fun g => Nat.lt_irrefl _ g.1) fun k => ?_, fun h => row_ext fun k => ?_⟩
  · constructor
    · rintro ⟨g1, g2⟩
      by_cases e : k = i
      · exact .inr e
      · exact .inl ⟨by omega, g2⟩
    · rintro (⟨g1, g2⟩ | rfl)
      · exact ⟨by omega, g2⟩
      · exact ⟨by omega, h⟩
  · constructor
    · rintro ⟨g1, g2⟩; exact ⟨by omega, g2⟩
    · rintro ⟨g1, g2⟩
      refine ⟨?_, g2⟩
      by_cases e : k = i
      · subst e; exact absurd g2 h
      · omega
theorem rleast_l1 {R : Nat → Prop} {out : List Int} {y : Ev} {x : Nat} (hx : x < l.length) {n x20 : Int} : ∀ (d m : Nat) (b : Bool), m + d = l.length → roadref4_Least.l1 l (BR l R) (Ps l) out (x : Int) y b (m : Int) l n x20 = roadref4_Least.l1 l (BR l R) (Ps l) out (x : Int) y (pd (b = true ∨ ∃ k, m ≤ k ∧ k < l.length ∧ R k ∧ Pst l k x)) (l.length : Int) l n x20 := by
  intro d
  have hN := v.1
  induction d with
  | zero =>
    intro m b hm
    have : m = l.length := by omega
    subst this
    have : pd (b = true ∨ ∃ k, l.length ≤ k ∧ k < l.length ∧ R k ∧ Pst l k x) = b := by
      rw [Bool.eq_iff_iff, pd_iff]
      exact ⟨fun h => h.elim id fun ⟨k, h1, h2, _⟩ => by omega, .inl⟩
    rw [this]
  | succ d ih =>
    intro m b hm
    have hml : m < l.length := by omega
    have hps : gi (Ps l) (m : Int) = some (PR l m) := by rw [gi_nat]; exact ps_at hml
    have hpr : gi (PR l m) (x : Int) = some (pd (Pst l m x)) := by rw [gi_nat]; exact pr_at hx
    have hst : ∀ b', (b' = true ↔ b = true ∨ (R m ∧ Pst l m x)) → pd (b' = true ∨ ∃ k, m + 1 ≤ k ∧ k < l.length ∧ R k ∧ Pst l k x) = pd (b = true ∨ ∃ k, m ≤ k ∧ k < l.length ∧ R k ∧ Pst l k x) := fun b' hb => pd_eq ⟨fun g => by
      rcases g with g | ⟨k, g⟩
      · rcases hb.1 g with g | g
        · exact .inl g
        · exact .inr ⟨m, Nat.le_refl _, hml, g⟩
      · exact .inr ⟨k, by omega, g.2⟩, fun g => by
      rcases g with g | ⟨k, g1, g2⟩
      · exact .inl (hb.2 (.inl g))
      · by_cases e : k = m
        · subst e; exact .inl (hb.2 (.inr g2.2))
        · exact .inr ⟨k, by omega, g2⟩⟩
    rw [roadref4_Least.l1_eq, if_pos (by omega)]
    cases b with
    | true => rw [if_pos rfl, roadref4_Least.j0_eq, w_succ (by omega), ih (m + 1) true (by omega), hst true (by simp)]
    | false =>
      rw [if_neg Bool.false_ne_true, br_gi hml, Option.bind_some]
      by_cases c : R m
      · rw [if_pos (pd_t c), hps, Option.bind_some, hpr, Option.bind_some, roadref4_Least.j0_eq, w_succ (by omega), ih (m + 1) _ (by omega), hst _ (by rw [pd_iff]; simp [c])]
      · rw [if_neg (by rw [pd_f c]; exact Bool.false_ne_true), roadref4_Least.j0_eq, w_succ (by omega), ih (m + 1) _ (by omega), hst _ (by simp [c])]
theorem rleast_l0 {R : Nat → Prop} : ∀ (d i : Nat), i + d = l.length → roadref4_Least.l0 l (BR l R) (Ps l) (Row l (fun k => k < i ∧ (R k ∨ ∃ j, k + 1 ≤ j ∧ j < l.length ∧ R j ∧ Pst l j k))) l (l.length : Int) (i : Int) = some (Row l (fun k => k < l.length ∧ (R k ∨ ∃ j, k + 1 ≤ j ∧ j < l.length ∧ R j ∧ Pst l j k))) := by
  intro d
  have hN := v.1
  induction d with
  | zero =>
    intro i hi
    have : i = l.length := by omega
    subst this
    rw [roadref4_Least.l0_eq, if_neg (by omega)]
  | succ d ih =>
    intro i hi
    have hlt : i < l.length := by omega
    obtain ⟨p, hp, h8⟩ := pl_nat v hlt
    have hs := row_step v (A := fun k => R k ∨ ∃ j, k + 1 ≤ j ∧ j < l.length ∧ R j ∧ Pst l j k) hlt hp h8
    have hc := cn_bound (l := l) (A := fun k => k < i ∧ (R k ∨ ∃ j, k + 1 ≤ j ∧ j < l.length ∧ R j ∧ Pst l j k)) (q := (p : Int))
    rw [roadref4_Least.l0_eq, if_pos (by omega), gi_ev hlt, Option.bind_some, br_gi hlt, Option.bind_some, w_succ (k := i) (by omega), rleast_l1 v hlt (l.length - (i + 1)) (i + 1) _ (by omega), roadref4_Least.l1_eq, if_neg (by omega)]
    by_cases c : R i ∨ ∃ j, i + 1 ≤ j ∧ j < l.length ∧ R j ∧ Pst l j i
    · rw [if_pos (pd_t (by rw [pd_iff]; exact c)), show (ev l i).Place = (p : Int) from hp, gi_row h8, Option.bind_some, Option.bind_some, Option.bind_some, wrap_in (by omega) (by omega), w_succ (k := i) (by omega), show Int.toNat (p : Int) = p from rfl, hs.1 c]
      exact ih (i + 1) (by omega)
    · rw [if_neg (by rw [pd_f (by rw [pd_iff]; exact c)]; exact Bool.false_ne_true), w_succ (k := i) (by omega), hs.2 c]
      exact ih (i + 1) (by omega)
end
structure Tks (l : List Ev) : Prop where
  sent : ∀ i, i < l.length → (ev l i).Kind = 3 → ∃ j, j < i ∧ (ev l j).Kind = 2 ∧ (ev l j).Msg = (ev l i).Msg
  once : ∀ i j, i < l.length → j < i → (ev l i).Kind = 3 → (ev l j).Kind = 3 → (ev l j).Msg ≠ (ev l i).Msg
theorem tks_of {l : List Ev} (h : histErr l = 0) : Tks l := by
  obtain ⟨hl, hr⟩ := histErr_right h
  have key : ∀ i, i < l.length → (ev l i).Kind = 3 → has 2 (l.take i) (ev l i).Msg = true ∧ ¬ has 3 (l.take i) (ev l i).Msg = true := by
    intro i hi k3
    unfold histErr at h
    rw [if_neg (by omega)] at h
    have hs : l = l.take i ++ ev l i :: l.drop (i + 1) := by
      have h2 : l.drop i = ev l i :: l.drop (i + 1) := by
        rw [List.drop_eq_getElem_cons hi]
        have := ev_some hi
        rw [List.getElem?_eq_getElem hi] at this
        rw [Option.some.inj this]
      rw [← h2, List.take_append_drop]
    rw [hs] at h
    have h3 := hist_step _ _ h
    rw [List.nil_append] at h3
    obtain ⟨r1, r2, r3, r4, r5⟩ := hr (ev l i) (List.mem_of_getElem? (ev_some hi))
    have r5' := r5 (by omega)
    unfold stepErr at h3
    rw [if_neg (by omega), if_neg (by omega), if_neg (by omega), if_pos k3] at h3
    by_cases a : has 2 (l.take i) (ev l i).Msg = true
    · refine ⟨a, fun b => ?_⟩
      rw [if_pos a, if_pos b] at h3; exact absurd h3 (by decide)
    · rw [if_neg a] at h3; exact absurd h3 (by decide)
  constructor
  · intro i hi k3
    have h1 := (key i hi k3).1
    unfold has at h1
    obtain ⟨x, x1, x2⟩ := List.any_eq_true.1 h1
    obtain ⟨j, hj, rfl⟩ := List.mem_iff_getElem.1 x1
    rw [List.length_take] at hj
    rw [List.getElem_take] at x2
    have e := ev_some (l := l) (i := j) (by omega)
    rw [List.getElem?_eq_getElem (by omega)] at e
    rw [Option.some.inj e] at x2
    simp only [Bool.and_eq_true, beq_iff_eq] at x2
    exact ⟨j, by omega, x2.1, x2.2⟩
  · intro i j hi hj k3 k3' hm
    apply (key i hi k3).2
    unfold has
    refine List.any_eq_true.2 ⟨ev l j, List.mem_of_getElem? (i := j) (by rw [List.getElem?_take_of_lt hj]; exact ev_some (by omega)), ?_⟩
    simp [k3', hm]
def Mst (l : List Ev) (R : Nat → Prop) (k : Nat) : Prop := R k ∧ ∀ j, 0 ≤ j → j < k → Pst l k j → R j
section
variable {l : List Ev} (v : Val l)
include v
theorem rmost_l1 {R : Nat → Prop} {out : List Int} {y : Ev} {x : Nat} (hx : x < l.length) {L : List Ev} {n : Int} : ∀ (d m : Nat) (b : Bool), m + d = x → roadref4_Most.l1 (BR l R) (Ps l) out (x : Int) y b L n (x : Int) (x : Int) (m : Int) = roadref4_Most.l1 (BR l R) (Ps l) out (x : Int) y (pd (b = true ∧ ∀ k, m ≤ k → k < x → Pst l x k → R k)) L n (x : Int) (x : Int) (x : Int) := by
  intro d
  have hN := v.1
  induction d with
  | zero =>
    intro m b hm
    have : m = x := by omega
    subst this
    have : pd (b = true ∧ ∀ k, m ≤ k → k < m → Pst l m k → R k) = b := by
      rw [Bool.eq_iff_iff, pd_iff]
      exact ⟨fun h => h.1, fun h => ⟨h, fun k h1 h2 => by omega⟩⟩
    rw [this]
  | succ d ih =>
    intro m b hm
    have hml : m < l.length := by omega
    have hps : gi (Ps l) (x : Int) = some (PR l x) := by rw [gi_nat]; exact ps_at hx
    have hpr : gi (PR l x) (m : Int) = some (pd (Pst l x m)) := by rw [gi_nat]; exact pr_at hml
    have hst : ∀ b', (b' = true ↔ b = true ∧ (Pst l x m → R m)) → pd (b' = true ∧ ∀ k, m + 1 ≤ k → k < x → Pst l x k → R k) = pd (b = true ∧ ∀ k, m ≤ k → k < x → Pst l x k → R k) := fun b' hb => pd_eq ⟨fun g => ⟨(hb.1 g.1).1, fun k h1 h2 => by
      by_cases e : k = m
      · subst e; exact (hb.1 g.1).2
      · exact g.2 k (by omega) h2⟩, fun g => ⟨hb.2 ⟨g.1, g.2 m (Nat.le_refl _) (by omega)⟩, fun k h1 h2 => g.2 k (by omega) h2⟩⟩
    rw [roadref4_Most.l1_eq, if_pos (by omega)]
    cases b with
    | false => rw [if_neg Bool.false_ne_true, w_succ (by omega), ih (m + 1) false (by omega), hst false (by simp)]
    | true =>
      rw [if_pos rfl, br_gi hml, Option.bind_some]
      by_cases c : R m
      · rw [if_pos (pd_t c), w_succ (by omega), ih (m + 1) true (by omega), hst true (by simp [c])]
      · rw [if_neg (by rw [pd_f c]; exact Bool.false_ne_true), hps, Option.bind_some, hpr, Option.bind_some, w_succ (by omega), ih (m + 1) _ (by omega), hst _ (by
          rw [Bool.not_eq_true']
          constructor
          · intro h; exact ⟨rfl, fun g => absurd (pd_t g) (by rw [h]; exact Bool.false_ne_true)⟩
          · intro h; exact pd_f fun g => c (h.2 g))]
theorem rmost_l0 {R : Nat → Prop} : ∀ (d i : Nat), i + d = l.length → roadref4_Most.l0 (BR l R) (Ps l) (Row l (fun k => k < i ∧ Mst l R k)) l (l.length : Int) (i : Int) = some (Row l (fun k => k < l.length ∧ Mst l R k)) := by
  intro d
  have hN := v.1
  induction d with
  | zero =>
    intro i hi
    have : i = l.length := by omega
    subst this
    rw [roadref4_Most.l0_eq, if_neg (by omega)]
  | succ d ih =>
    intro i hi
    have hlt : i < l.length := by omega
    obtain ⟨p, hp, h8⟩ := pl_nat v hlt
    have hs := row_step v (A := Mst l R) hlt hp h8
    have hc := cn_bound (l := l) (A := fun k => k < i ∧ Mst l R k) (q := (p : Int))
    have h1 := rmost_l1 v (R := R) (out := Row l (fun k => k < i ∧ Mst l R k)) (y := ev l i) hlt (L := l) (n := (l.length : Int)) i 0 (pd (R i)) (by omega)
    rw [show ((0 : Nat) : Int) = 0 from rfl] at h1
    rw [roadref4_Most.l0_eq, if_pos (by omega), gi_ev hlt, Option.bind_some, br_gi hlt, Option.bind_some, h1, roadref4_Most.l1_eq, if_neg (by omega)]
    have hiff : pd (pd (R i) = true ∧ ∀ k, 0 ≤ k → k < i → Pst l i k → R k) = true ↔ Mst l R i := by rw [pd_iff, pd_iff]; exact Iff.rfl
    by_cases c : Mst l R i
    · rw [if_pos (hiff.2 c), show (ev l i).Place = (p : Int) from hp, gi_row h8, Option.bind_some, Option.bind_some, Option.bind_some, wrap_in (by omega) (by omega), w_succ (k := i) (by omega), show Int.toNat (p : Int) = p from rfl, hs.1 c]
      exact ih (i + 1) (by omega)
    · rw [if_neg (fun h => c (hiff.1 h)), w_succ (k := i) (by omega), hs.2 c]
      exact ih (i + 1) (by omega)
omit v in
theorem mst_down {R : Nat → Prop} {k j : Nat} (h : Mst l R k) (hp : Pst l k j) : Mst l R j := ⟨h.2 j (Nat.zero_le _) hp.lt hp, fun m _ _ hm => h.2 m (Nat.zero_le _) (hp.trans hm).lt (hp.trans hm)⟩
omit v in
theorem bef_lt {i k : Nat} {p : Int} (hk : k < i) (hi : i ≤ l.length) (hp : pl l k = p) : cn l (bef k) p < cn l (bef i) p := by
  have h1 : cn l (bef (k + 1)) (pl l k) = cn l (bef k) (pl l k) + 1 := cn_add (i := k) (by omega) (show k < k + 1 by omega) (fun h => Nat.lt_irrefl _ h) fun m hm _ => by show m < k + 1 ↔ m < k; omega
  have h2 : cn l (bef (k + 1)) p ≤ cn l (bef i) p := cn_le fun j (hj : j < k + 1) _ => show j < i by omega
  rw [hp] at h1
  omega
structure Cut (l : List Ev) (o a : List Int) (B : Nat → Prop) : Prop where
  len : a.length = 8
  pos : ∀ q, q < 8 → 0 ≤ cq a q
  le : ∀ q, q < 8 → cq a q ≤ cq o q
  all : ∀ k, B k → In l a k
theorem most_l1 {c : Nat → Prop} (T : Tks l) {o : List Int} (ho : Cut l o o (Mst l c)) (hob : ∀ q, q < 8 → cq o q ≤ 200) : ∀ (d i : Nat) (a : List Int) (es : List (Int × Bool)), i + d = l.length → Cut l o a (Mst l c) → (∀ m, pgd es m false = true ↔ Snt l (In l o) i m) → ((∃ k, k < i ∧ ¬ okw l (In l o) k) → ∃ q, q < 8 ∧ cq a q < cq o q) →
    ∃ a', Cut l o a' (Mst l c) ∧ ((∃ k, k < l.length ∧ ¬ okw l (In l o) k) → ∃ q, q < 8 ∧ cq a' q < cq o q) ∧ cut_Most.l1 l a (BR l (In l o)) es (Row l (bef i)) l (l.length : Int) (i : Int) = cut_Most.l0 l a' := by
  intro d
  have hN := v.1
  induction d with
  | zero =>
    intro i a es hi ha he hb
    have : i = l.length := by omega
    subst this
    exact ⟨a, ha, hb, by rw [cut_Most.l1_eq, if_neg (by omega)]⟩
  | succ d ih =>
    intro i a es hi ha he hb
    have hlt : i < l.length := by omega
    obtain ⟨p, hp, h8⟩ := pl_nat v hlt
    have hc := cn_bound (l := l) (A := bef i) (q := (p : Int))
    have hcs := cn_bef (l := l) hlt hp
    have go : ∀ es', es' = (if (ev l i).Kind = 2 then pset es (ev l i).Msg (pd (In l o i)) else es) → ∃ a', Cut l o a' (Mst l c) ∧ ((∃ k, k < l.length ∧ ¬ okw l (In l o) k) → ∃ q, q < 8 ∧ cq a' q < cq o q) ∧ cut_Most.j0 l a (BR l (In l o)) es' (Row l (bef (i + 1))) (i : Int) (ev l i) l (l.length : Int) (i : Int) = cut_Most.l0 l a' := by
      intro es' hes
      have hn := es_next v hlt he es' hes
      have skip : okw l (In l o) i → ∃ a', Cut l o a' (Mst l c) ∧ ((∃ k, k < l.length ∧ ¬ okw l (In l o) k) → ∃ q, q < 8 ∧ cq a' q < cq o q) ∧ cut_Most.j1 l a (BR l (In l o)) es' (Row l (bef (i + 1))) (ev l i) l (l.length : Int) (i : Int) false = cut_Most.l0 l a' := fun hok => by
        rw [cut_Most.j1_eq, if_neg Bool.false_ne_true, w_succ (by omega)]
        exact ih (i + 1) a es' (by omega) ha hn fun ⟨k, k1, k2⟩ => hb ⟨k, by
          by_cases e : k = i
          · subst e; exact absurd hok k2
          · omega, k2⟩
      rw [cut_Most.j0_eq]
      by_cases k3 : (ev l i).Kind = 3
      · rw [if_pos k3, br_gi hlt, Option.bind_some]
        by_cases g : In l o i
        · have hm : Snt l (In l o) (i + 1) (ev l i).Msg ↔ Snt l (In l o) i (ev l i).Msg := snt_other (.inl (by omega))
          rw [if_pos (pd_t g)]
          by_cases q : Snt l (In l o) i (ev l i).Msg
          · rw [(hn _).2 (hm.2 q)]
            exact skip fun _ _ => q
          · have hf : pgd es' (ev l i).Msg false = false := Bool.eq_false_iff.2 fun h => q (hm.1 ((hn _).1 h))
            have hio : (cn l (bef i) (p : Int) : Int) < cq o p := by have := g.2; rw [hp] at this; exact this
            have hop := hob p h8
            have hap := ha.le p h8
            have hlow : (if (cn l (bef i) (p : Int) : Int) < cq a p then (cn l (bef i) (p : Int) : Int) else cq a p) ≤ (cn l (bef i) (p : Int) : Int) := by split <;> omega
            have hlow2 : (if (cn l (bef i) (p : Int) : Int) < cq a p then (cn l (bef i) (p : Int) : Int) else cq a p) ≤ cq a p := by split <;> omega
            have hlow3 : 0 ≤ (if (cn l (bef i) (p : Int) : Int) < cq a p then (cn l (bef i) (p : Int) : Int) else cq a p) := by have := ha.pos p h8; split <;> omega
            have hset : ∀ z : Int, ∀ r, r < 8 → cq (a.set p z) r = if p = r then z else cq a r := fun z r hr => by
              unfold cq
              rw [List.getElem?_set]
              by_cases e : p = r
              · rw [if_pos e, if_pos (by rw [ha.len]; exact h8), if_pos e]; rfl
              · rw [if_neg e, if_neg e]
            rw [hf, cut_Most.j1_eq, if_pos (by rfl), show (ev l i).Place = (p : Int) from hp, gi_cq ha.len h8, Option.bind_some, gi_row h8, Option.bind_some, Option.bind_some, Option.bind_some, hcs, show IntKind.wrap .i64 (((cn l (bef i) (p : Int) + 1 : Nat) : Int) - 1) = (cn l (bef i) (p : Int) : Int) by rw [wrap_in (by omega) (by omega)]; omega, show Int.toNat (p : Int) = p from rfl, w_succ (by omega)]
            refine ih (i + 1) _ es' (by omega) ⟨by rw [List.length_set]; exact ha.len, fun r hr => ?_, fun r hr => ?_, fun k hk => ?_⟩ hn fun _ => ⟨p, h8, by rw [hset _ _ h8, if_pos rfl]; omega⟩
            · rw [hset _ _ hr]; split
              · exact hlow3
              · exact ha.pos r hr
            · rw [hset _ _ hr]; split
              · subst_vars; omega
              · exact ha.le r hr
            · have hka := ha.all k hk
              have hkl := hka.1
              obtain ⟨q', hq', hq8⟩ := pl_nat v hkl
              have hk2 := hka.2
              rw [hq'] at hk2
              refine ⟨hkl, ?_⟩
              rw [hq', show Int.toNat (q' : Int) = q' from rfl, hset _ _ hq8]
              rw [show Int.toNat (q' : Int) = q' from rfl] at hk2
              by_cases e : p = q'
              · subst e
                rw [if_pos rfl]
                have hki : k < i := by
                  rcases Nat.lt_or_ge k i with h | h
                  · exact h
                  · exfalso
                    have hBi : Mst l c i := by
                      by_cases e2 : k = i
                      · subst e2; exact hk
                      · exact mst_down hk (.base (by omega) (.inl (by rw [show (ev l i).Place = (p : Int) from hp]; exact hq'.symm)))
                    obtain ⟨j, j1, j2, j3⟩ := T.sent i hlt k3
                    exact q ⟨j, j1, j2, j3, ho.all j (mst_down hBi (.base j1 (.inr ⟨k3, j2, j3⟩)))⟩
                have := bef_lt (l := l) hki (by omega) hq'
                split <;> omega
              · rw [if_neg e]; exact hk2
        · rw [if_neg (by rw [pd_f g]; exact Bool.false_ne_true)]
          exact skip fun h => absurd h g
      · rw [if_neg k3]
        exact skip fun _ h => absurd h k3
    rw [cut_Most.l1_eq, if_pos (by omega), gi_ev hlt, Option.bind_some, show (ev l i).Place = (p : Int) from hp, gi_row h8, Option.bind_some, Option.bind_some, Option.bind_some, wrap_in (by omega) (by omega), show Int.toNat (p : Int) = p from rfl, row_bef hlt hp h8]
    by_cases k2 : (ev l i).Kind = 2
    · rw [if_pos k2, br_gi hlt, Option.bind_some, Option.bind_some]; exact go _ (by rw [if_pos k2])
    · rw [if_neg k2]; exact go _ (by rw [if_neg k2])
omit v in
theorem cn_in {a : List Int} {q : Nat} (h0 : 0 ≤ cq a q) (hq : q < 8) : ∀ n, n ≤ l.length → ((cn l (fun k => k < n ∧ In l a k) (q : Int) : Nat) : Int) = if (cn l (bef n) (q : Int) : Int) < cq a q then (cn l (bef n) (q : Int) : Int) else cq a q := by
  intro n
  induction n with
  | zero =>
    intro _
    have h1 : cn l (fun k => k < 0 ∧ In l a k) (q : Int) = 0 := by unfold cn; exact List.countP_eq_zero.2 fun k _ => by simp
    have h2 : cn l (bef 0) (q : Int) = 0 := by unfold cn; exact List.countP_eq_zero.2 fun k _ => by simp
    rw [h1, h2]; split <;> omega
  | succ n ih =>
    intro hn
    have ih := ih (by omega)
    by_cases e : pl l n = (q : Int)
    · have h2 : cn l (bef (n + 1)) (q : Int) = cn l (bef n) (q : Int) + 1 := cn_bef (by omega) e
      by_cases c : In l a n
      · have h1 : cn l (fun k => k < n + 1 ∧ In l a k) (pl l n) = cn l (fun k => k < n ∧ In l a k) (pl l n) + 1 := cn_add (i := n) (by omega) ⟨by omega, c⟩ (fun h => Nat.lt_irrefl _ h.1) fun k hk _ => ⟨fun g => ⟨by have := g.1; omega, g.2⟩, fun g => ⟨by have := g.1; omega, g.2⟩⟩
        rw [e] at h1
        have := c.2
        rw [e, show Int.toNat (q : Int) = q from rfl] at this
        rw [h1, h2]
        rw [if_pos this] at ih
        split <;> omega
      · have h1 : cn l (fun k => k < n + 1 ∧ In l a k) (q : Int) = cn l (fun k => k < n ∧ In l a k) (q : Int) := cn_eq fun k hk => ⟨fun g => ⟨by
          have := g.1
          by_cases e2 : k = n
          · subst e2; exact absurd g.2 c
          · omega, g.2⟩, fun g => ⟨by have := g.1; omega, g.2⟩⟩
        have : ¬ (cn l (bef n) (q : Int) : Int) < cq a q := fun g => c ⟨by omega, by rw [e, show Int.toNat (q : Int) = q from rfl]; exact g⟩
        rw [if_neg this] at ih
        rw [h1, h2, ih, if_neg (by omega)]
    · have h2 : cn l (bef (n + 1)) (q : Int) = cn l (bef n) (q : Int) := cn_bef_ne e
      have h1 : cn l (fun k => k < n + 1 ∧ In l a k) (q : Int) = cn l (fun k => k < n ∧ In l a k) (q : Int) := cn_eq fun k hk => ⟨fun g => ⟨by
          have := g.1
          by_cases e2 : k = n
          · subst e2; exact absurd hk e
          · omega, g.2⟩, fun g => ⟨by have := g.1; omega, g.2⟩⟩
      rw [h1, h2]; exact ih
theorem most_l0 {a0 : List Int} (T : Tks l) (h0 : VC l a0) : ∀ (n : Nat) (o : List Int), Cut l a0 o (Mst l (In l a0)) → (cq o 0 + cq o 1 + cq o 2 + cq o 3 + cq o 4 + cq o 5 + cq o 6 + cq o 7) ≤ n → cut_Most.l0 l o = some (Row l (fun k => k < l.length ∧ Mst l (In l a0) k), 0) := by
  intro n
  have hN := v.1
  induction n using Nat.strongRecOn with
  | ind n ih =>
    intro o ho hn
    have hob : ∀ q, q < 8 → cq o q ≤ 200 := fun q hq => by
      have h1 := ho.le q hq
      have h2 := (h0.2 q hq).2
      have h3 := cn_bound (l := l) (A := bef l.length) (q := (q : Int))
      omega
    rw [cut_Most.l0_eq, whole_val v ho.len, Option.bind_some]
    by_cases c : ∀ k, k < l.length → okw l (In l o) k
    · rw [if_pos (pd_t c)]
      congr 2
      have hB : ∀ k, (k < l.length ∧ Mst l (In l a0) k) ↔ (k < l.length ∧ In l o k) := fun k => by
        refine and_congr_right fun hk => ⟨ho.all k, fun h => ?_⟩
        have hsub : ∀ j, In l o j → In l a0 j := fun j hj => by
          obtain ⟨p, hp, h8⟩ := pl_nat v hj.1
          have := hj.2
          have h2 := ho.le p h8
          refine ⟨hj.1, ?_⟩
          rw [hp, show Int.toNat (p : Int) = p from rfl] at this ⊢
          omega
        exact ⟨hsub k h, fun j _ _ hj => hsub j (past_in v (in_dc v) c hk hj h)⟩
      rw [row_ext hB]
      refine List.ext_getElem? fun q => ?_
      rcases Nat.lt_or_ge q 8 with hq | hq
      · rw [row_at hq, cn_in (ho.pos q hq) hq l.length (Nat.le_refl _)]
        have h1 := ho.le q hq
        have h2 := (h0.2 q hq).2
        have h3 : o[q]? = some (cq o q) := by unfold cq; rw [List.getElem?_eq_getElem (by rw [ho.len]; exact hq)]; rfl
        rw [h3, if_neg (by omega)]
      · rw [List.getElem?_eq_none (by rw [ho.len]; exact hq), List.getElem?_eq_none (by rw [row_len]; exact hq)]
    · have hex : ∃ k, k < l.length ∧ ¬ okw l (In l o) k := by
        obtain ⟨k, hk⟩ := Classical.not_forall.1 c
        obtain ⟨h1, h2⟩ := Classical.not_imp.1 hk
        exact ⟨k, h1, h2⟩
      rw [if_neg (by rw [pd_f c]; exact Bool.false_ne_true), inside_val v ho.len, Option.bind_some]
      obtain ⟨a', k1, k2, k3⟩ := most_l1 v (c := In l a0) T (o := o) ⟨ho.len, ho.pos, fun _ _ => Int.le_refl _, ho.all⟩ hob l.length 0 o [] (by omega) ⟨ho.len, ho.pos, fun _ _ => Int.le_refl _, ho.all⟩ (fun m => ⟨fun h => absurd h (by simp [pgd, pget]), fun ⟨j, h, _⟩ => absurd h (Nat.not_lt_zero _)⟩) (fun ⟨k, h, _⟩ => absurd h (Nat.not_lt_zero _))
      rw [row_none (A := bef 0) fun k h => Nat.not_lt_zero _ h, show ((0 : Nat) : Int) = 0 from rfl] at k3
      rw [show (List.replicate 8 (0 : Int)) = List.replicate 8 0 from rfl, k3]
      obtain ⟨q, q1, q2⟩ := k2 hex
      have e0 := k1.le 0 (by omega)
      have e1 := k1.le 1 (by omega)
      have e2 := k1.le 2 (by omega)
      have e3 := k1.le 3 (by omega)
      have e4 := k1.le 4 (by omega)
      have e5 := k1.le 5 (by omega)
      have e6 := k1.le 6 (by omega)
      have e7 := k1.le 7 (by omega)
      have p0 := k1.pos 0 (by omega)
      have p1 := k1.pos 1 (by omega)
      have p2 := k1.pos 2 (by omega)
      have p3 := k1.pos 3 (by omega)
      have p4 := k1.pos 4 (by omega)
      have p5 := k1.pos 5 (by omega)
      have p6 := k1.pos 6 (by omega)
      have p7 := k1.pos 7 (by omega)
      have hlt : cq a' 0 + cq a' 1 + cq a' 2 + cq a' 3 + cq a' 4 + cq a' 5 + cq a' 6 + cq a' 7 < cq o 0 + cq o 1 + cq o 2 + cq o 3 + cq o 4 + cq o 5 + cq o 6 + cq o 7 := by
        have hq : q = 0 ∨ q = 1 ∨ q = 2 ∨ q = 3 ∨ q = 4 ∨ q = 5 ∨ q = 6 ∨ q = 7 := by omega
        rcases hq with rfl | rfl | rfl | rfl | rfl | rfl | rfl | rfl <;> omega
      exact ih (n - 1) (by omega) a' ⟨k1.len, k1.pos, fun r hr => Int.le_trans (k1.le r hr) (ho.le r hr), k1.all⟩ (by omega)
end
def Tk (l : List Ev) (R : Nat → Prop) (t : Nat) (m : Int) : Prop := ∃ k, k < t ∧ (ev l k).Kind = 3 ∧ (ev l k).Msg = m ∧ R k
noncomputable def Wy (l : List Ev) (R : Nat → Prop) (n t : Nat) : List Int := ((List.range n).filter fun j => pd (R j ∧ (ev l j).Kind = 2 ∧ ¬ Tk l R t (ev l j).Msg)).map fun j => (ev l j).Msg
theorem wy_succ (l : List Ev) (R : Nat → Prop) (n t : Nat) : Wy l R (n + 1) t = if pd (R n ∧ (ev l n).Kind = 2 ∧ ¬ Tk l R t (ev l n).Msg) = true then Wy l R n t ++ [(ev l n).Msg] else Wy l R n t := by
  unfold Wy
  rw [List.range_succ, List.filter_append, List.map_append]
  by_cases c : pd (R n ∧ (ev l n).Kind = 2 ∧ ¬ Tk l R t (ev l n).Msg) = true
  · rw [if_pos c, List.filter_cons_of_pos (p := fun j => pd (R j ∧ (ev l j).Kind = 2 ∧ ¬ Tk l R t (ev l j).Msg)) c]; rfl
  · rw [if_neg c, List.filter_cons_of_neg (p := fun j => pd (R j ∧ (ev l j).Kind = 2 ∧ ¬ Tk l R t (ev l j).Msg)) c]; simp
theorem wy_len {l : List Ev} {R : Nat → Prop} {n t : Nat} : (Wy l R n t).length ≤ n := by
  unfold Wy
  rw [List.length_map]
  exact Nat.le_trans (List.length_filter_le _ _) (by rw [List.length_range]; exact Nat.le_refl _)
theorem wy_same {l : List Ev} {R : Nat → Prop} {n t t' : Nat} (h : ∀ m, Tk l R t m ↔ Tk l R t' m) : Wy l R n t = Wy l R n t' := by
  unfold Wy
  rw [List.filter_congr fun j _ => pd_eq (and_congr_right fun _ => and_congr_right fun _ => not_congr (h _))]
theorem tk_same {l : List Ev} {R : Nat → Prop} {i : Nat} (h : ¬ R i ∨ (ev l i).Kind ≠ 3) (m : Int) : Tk l R i m ↔ Tk l R (i + 1) m := by
  constructor
  · rintro ⟨k, k1, k2⟩; exact ⟨k, by omega, k2⟩
  · rintro ⟨k, k1, k2, k3, k4⟩
    by_cases e : k = i
    · subst e; exact h.elim (fun h => absurd k4 h) fun h => absurd k2 h
    · exact ⟨k, by omega, k2, k3, k4⟩
section
variable {l : List Ev} (v : Val l) (T : Tks l)
include v T
theorem way_l0 {R : Nat → Prop} : ∀ (d i : Nat), i + d = l.length → cut_Way.l0 (BR l R) (Wy l R i i) l (l.length : Int) (i : Int) = (slices_Sort_18 (Wy l R l.length l.length)).bind fun y => (slices_Clone_42 y).bind fun z => some (z, 0) := by
  intro d
  have hN := v.1
  induction d with
  | zero =>
    intro i hi
    have : i = l.length := by omega
    subst this
    rw [cut_Way.l0_eq, if_neg (by omega)]
  | succ d ih =>
    intro i hi
    have hlt : i < l.length := by omega
    have hw := wy_len (l := l) (R := R) (n := i) (t := i)
    rw [cut_Way.l0_eq, if_pos (by omega), gi_ev hlt, Option.bind_some, br_gi hlt, Option.bind_some, ← ih (i + 1) (by omega), w_succ (by omega)]
    by_cases c : R i
    · rw [if_pos (pd_t c)]
      by_cases k2 : (ev l i).Kind = 2
      · have hs : Wy l R i i = Wy l R i (i + 1) := wy_same fun m => tk_same (.inr (by omega)) m
        have hno : ¬ Tk l R (i + 1) (ev l i).Msg := by
          rintro ⟨k, k1, k3, k4, _⟩
          have hki : k < i := by
            by_cases e : k = i
            · subst e; omega
            · omega
          obtain ⟨j, j1, j2, j3⟩ := T.sent k (by omega) k3
          exact v.2.2 i j hlt (by omega) k2 j2 (j3.trans k4)
        rw [if_pos k2, ap_one (by omega), Option.bind_some, wy_succ, if_pos (pd_t ⟨c, k2, hno⟩), hs]
      · rw [if_neg k2]
        have hns : Wy l R (i + 1) (i + 1) = Wy l R i (i + 1) := by rw [wy_succ, if_neg (by rw [pd_f fun h => k2 h.2.1]; exact Bool.false_ne_true)]
        by_cases k3 : (ev l i).Kind = 3
        · rw [if_pos k3, slices_DeleteFunc_40.val (p := fun z49 => cut_Way_1 z49 (ev l i)) (fun z => z == (ev l i).Msg) (fun z _ => rfl) (by omega), Option.bind_some, hns]
          congr 1
          unfold Wy
          rw [List.filter_map, List.filter_filter]
          congr 1
          refine List.filter_congr fun j hj => ?_
          rw [Bool.eq_iff_iff, Bool.and_eq_true, pd_iff, pd_iff]
          show ((!((ev l j).Msg == (ev l i).Msg)) = true ∧ _) ↔ _
          rw [Bool.not_eq_true', beq_eq_false_iff_ne]
          constructor
          · rintro ⟨h1, h2, h3, h4⟩
            refine ⟨h2, h3, ?_⟩
            rintro ⟨k, a1, a2, a3, a4⟩
            by_cases e : k = i
            · subst e; exact h1 a3.symm
            · exact h4 ⟨k, by omega, a2, a3, a4⟩
          · rintro ⟨h2, h3, h4⟩
            exact ⟨fun h => h4 ⟨i, by omega, k3, h.symm, c⟩, h2, h3, fun ⟨k, a1, a2⟩ => h4 ⟨k, by omega, a2⟩⟩
        · rw [if_neg k3, hns]
          rw [wy_same fun m => tk_same (.inr k3) m]
    · rw [if_neg (by rw [pd_f c]; exact Bool.false_ne_true), wy_succ, if_neg (by rw [pd_f fun h => c h.1]; exact Bool.false_ne_true)]
      rw [wy_same fun m => tk_same (.inl c) m]
theorem index_val'' {k : Nat} (hk : k < l.length) (k3 : (ev l k).Kind = 3) : slices_Index_46 l (ev l k) = some (k : Int) := by
  have hN := v.1
  have loop : ∀ (d j : Nat), j + d = k → slices_Index_46.l0 l (ev l k) (l.length : Int) (j : Int) = some (k : Int) := by
    intro d
    induction d with
    | zero =>
      intro j hj
      have : j = k := by omega
      subst this
      rw [slices_Index_46.l0_eq, if_pos (by omega), gi_ev hk, Option.bind_some, if_pos (by simp)]
    | succ d ih =>
      intro j hj
      have hjk : j < k := by omega
      rw [slices_Index_46.l0_eq, if_pos (by omega), gi_ev (by omega), Option.bind_some, if_neg, w_succ (by omega)]
      · exact ih (j + 1) (by omega)
      · intro h
        simp only [Bool.and_eq_true, beq_iff_eq, and_true] at h
        exact T.once k j hk hjk k3 (by rw [← h.2.1]; exact k3) h.2.2.symm
  exact loop k 0 (by omega)
theorem cont_val {R : Nat → Prop} {e : Ev} : slices_ContainsFunc_15 l (fun z36 => roadlaw4_CutSays_1 z36 e l (BR l R)) = some (pd (Tk l R l.length e.Msg)) := by
  have hN := v.1
  rw [slices_ContainsFunc_15.val (p := fun z36 => roadlaw4_CutSays_1 z36 e l (BR l R)) (fun z => pd (z.Kind = 3 ∧ z.Msg = e.Msg ∧ ∃ k, k < l.length ∧ ev l k = z ∧ R k)) (fun z hz => ?_) (by omega)]
  · congr 1
    rw [Bool.eq_iff_iff, List.any_eq_true, pd_iff]
    constructor
    · rintro ⟨z, _, h⟩
      obtain ⟨h1, h2, k, k1, rfl, k3⟩ := pd_iff.1 h
      exact ⟨k, k1, h1, h2, k3⟩
    · rintro ⟨k, k1, k2, k3, k4⟩
      exact ⟨ev l k, List.mem_of_getElem? (ev_some k1), pd_t ⟨k2, k3, k, k1, rfl, k4⟩⟩
  · obtain ⟨k, hk, hz'⟩ := List.mem_iff_getElem.1 hz
    have hz2 : ev l k = z := by
      have := ev_some hk
      rw [List.getElem?_eq_getElem hk] at this
      rw [← Option.some.inj this, hz']
    subst hz2
    show roadlaw4_CutSays_1 (ev l k) e l (BR l R) = _
    unfold roadlaw4_CutSays_1
    by_cases c1 : (ev l k).Kind = 3
    · rw [if_pos c1]
      by_cases c2 : (ev l k).Msg = e.Msg
      · rw [if_pos c2]
        unfold roadlaw4_took
        rw [index_val'' v T hk c1, Option.bind_some, if_pos (by omega), br_gi hk, Option.bind_some, Option.bind_some]
        congr 1
        refine pd_eq ⟨fun h => ⟨c1, c2, k, hk, rfl, h⟩, ?_⟩
        rintro ⟨_, _, j, j1, j2, j3⟩
        have : j = k := by
          rcases Nat.lt_trichotomy j k with g | g | g
          · exact absurd (by rw [j2]) (T.once k j hk g c1 (by rw [j2]; exact c1))
          · exact g
          · exact absurd (by rw [j2]) (T.once j k j1 g (by rw [j2]; exact c1) c1)
        subst this; exact j3
      · rw [if_neg c2, pd_f fun h => c2 h.2.1]
    · rw [if_neg c1, pd_f fun h => c1 h.1]
end
theorem cut_both (l : List Ev) {cs : List (List Int)} (hcs : cs.length ≤ 100) : ∃ c, cut_check l cs = some c ∧ roadref4_Cuts l cs = some c ∧ (c = 0 ↔ histErr l = 0 ∧ ∀ a ∈ cs, VC l a) := by
  unfold cut_check roadref4_Cuts
  rw [check_val, history_val, Option.bind_some, Option.bind_some]
  by_cases h : histErr l = 0
  · have v := val_of h
    rw [if_pos h, if_pos h, counts_val v, Option.bind_some]
    obtain ⟨c, k1, k2, k3⟩ := both_l0 v hcs cs.length 0 (by omega)
    rw [show ((0 : Nat) : Int) = 0 from rfl] at k1 k2
    rw [List.drop_zero] at k3
    exact ⟨c, k1, k2, k3.trans ⟨fun g => ⟨h, g⟩, fun g => g.2⟩⟩
  · rw [if_neg h, if_neg h]
    exact ⟨_, rfl, rfl, ⟨fun g => absurd g h, fun g => absurd g.1 h⟩⟩
def Wh (l : List Ev) (a : List Int) : Prop := ∀ k, k < l.length → okw l (In l a) k
section
variable {l : List Ev} (h : histErr l = 0) {a : List Int} (ha : VC l a) (hc : cut_check l [a] = some 0)
include h ha
theorem vc_big (q : Nat) (hq : q < 8) : cq a q ≤ 200 := by
  have h2 := (ha.2 q hq).2
  have h3 := cn_bound (l := l) (A := bef l.length) (q := (q : Int))
  have := (val_of h).1
  omega
theorem rin_val : roadref4_In l a = some (BR l (In l a)) := in_val' (val_of h) ha.1 (fun q hq => (ha.2 q hq).1) (vc_big h ha)
include hc
theorem Whole_good : cut_Whole l a = some (pd (Wh l a), 0) := by
  unfold cut_Whole
  rw [hc, Option.bind_some, if_pos rfl, whole_val (val_of h) ha.1, Option.bind_some]
  rfl
omit hc in
theorem RWhole_good : roadref4_Whole l a = some (pd (Wh l a)) := by
  have v := val_of h
  unfold roadref4_Whole
  rw [rin_val h ha, Option.bind_some, past_val v.1, Option.bind_some]
  have := rwhole_l0 v (R := In l a) l.length 0 (by omega)
  rw [show ((0 : Nat) : Int) = 0 from rfl] at this
  rw [this]
  congr 1
  refine pd_eq ⟨fun g k hk hR k3 => ?_, fun g i' _ h2 k _ _ hR hp => past_in v (in_dc v) g h2 hp hR⟩
  obtain ⟨j, j1, j2, j3⟩ := (tks_of h).sent k hk k3
  exact ⟨j, j1, j2, j3, g k (Nat.zero_le _) hk j (Nat.zero_le _) j1 hR (.base j1 (.inr ⟨k3, j2, j3⟩))⟩
theorem Least_good : cut_Least l a = some (Row l (Lst l a l.length), 0) := by
  have v := val_of h
  unfold cut_Least
  rw [hc, Option.bind_some, if_pos rfl, clocks_val h, Option.bind_some, inside_val v ha.1, Option.bind_some, mks_of (k := 8) (x := 8) rfl (by omega) (by omega), Option.bind_some]
  have := least_l0 v (a := a) l.length 0 (by omega)
  rw [row_none (A := Lst l a 0) fun k ⟨i, hi, _⟩ => Nat.not_lt_zero _ hi, show ((0 : Nat) : Int) = 0 from rfl] at this
  exact this
omit hc in
theorem RLeast_good : roadref4_Least l a = some (Row l (Lst l a l.length)) := by
  have v := val_of h
  unfold roadref4_Least
  rw [rin_val h ha, Option.bind_some, past_val v.1, Option.bind_some, mks_of (k := 8) (x := 8) rfl (by omega) (by omega), Option.bind_some]
  have := rleast_l0 v (R := In l a) l.length 0 (by omega)
  rw [row_none (A := fun k => k < 0 ∧ _) fun k g => Nat.not_lt_zero _ g.1, show ((0 : Nat) : Int) = 0 from rfl] at this
  rw [this]
  congr 1
  refine row_ext fun k => ⟨?_, ?_⟩
  · rintro ⟨h1, h2 | ⟨j, h2, h3, h4, h5⟩⟩
    · exact ⟨k, h1, h2, .inl rfl⟩
    · exact ⟨j, h3, h4, .inr h5⟩
  · rintro ⟨i, h1, h2, h3⟩
    refine ⟨by have := h3.le; omega, ?_⟩
    rcases h3 with rfl | h3
    · exact .inl h2
    · exact .inr ⟨i, h3.lt, h1, h2, h3⟩
theorem Most_good : cut_Most l a = some (Row l (fun k => k < l.length ∧ Mst l (In l a) k), 0) := by
  have v := val_of h
  unfold cut_Most
  rw [hc, Option.bind_some, if_pos rfl, clone_val (by have := ha.1; omega), Option.bind_some]
  exact most_l0 v (tks_of h) ha _ a ⟨ha.1, fun q hq => (ha.2 q hq).1, fun _ _ => Int.le_refl _, fun k hk => hk.1⟩ (Int.self_le_toNat _)
omit hc in
theorem RMost_good : roadref4_Most l a = some (Row l (fun k => k < l.length ∧ Mst l (In l a) k)) := by
  have v := val_of h
  unfold roadref4_Most
  rw [rin_val h ha, Option.bind_some, past_val v.1, Option.bind_some, mks_of (k := 8) (x := 8) rfl (by omega) (by omega), Option.bind_some]
  have := rmost_l0 v (R := In l a) l.length 0 (by omega)
  rw [row_none (A := fun k => k < 0 ∧ _) fun k g => Nat.not_lt_zero _ g.1, show ((0 : Nat) : Int) = 0 from rfl] at this
  exact this
theorem Way_good {y : List Int} (hy : slices_Sort_18 (Wy l (In l a) l.length l.length) = some y) (hyl : y.length ≤ 200) : cut_Way l a = some (y, 0) := by
  have v := val_of h
  unfold cut_Way
  rw [hc, Option.bind_some, if_pos rfl, inside_val v ha.1, Option.bind_some]
  have := way_l0 v (tks_of h) (R := In l a) l.length 0 (by omega)
  rw [hy, Option.bind_some, clone_val (by omega), Option.bind_some, show ((0 : Nat) : Int) = 0 from rfl] at this
  exact this
end
theorem eq_refl' {y : List Int} (h : y.length ≤ 1000) : slices_Equal_8 y y = some true := by
  obtain ⟨b, b1, b2⟩ := slices_Equal_8.val y y (by omega)
  rw [b1, b2.2 rfl]
theorem law_j2 (l : List Ev) (a b : List Int) : ∃ j e5 m e6, cut_Join l a b = some (j, e5) ∧ cut_Meet l a b = some (m, e6) ∧ roadlaw4_CutSays.j2 a b l j e5 m e6 = some true := by
  obtain ⟨c, k1, k2, k3⟩ := cut_both l (cs := [a, b]) (by simp)
  unfold cut_Join cut_Meet
  rw [k1, Option.bind_some, Option.bind_some]
  by_cases g : c = 0
  · obtain ⟨h, hv⟩ := k3.1 g
    have ha := hv a (by simp)
    have hb := hv b (by simp)
    have a8 := ha.1
    have b8 := hb.1
    have hat : ∀ {x : List Int}, x.length = 8 → ∀ q : Nat, q < 8 → clock_at x (q : Int) = some (cq x q) := fun {x} hx q hq => by
      unfold clock_at
      rw [if_pos (by omega), gi_cq hx hq, Option.bind_some]
    have hj := join_val (hat a8) (hat b8) (by rw [a8, b8]; rfl)
    have meet : ∀ (d i : Nat) (m : List Int), i + d = 8 → m.length = 8 → (∀ q, q < i → cq m q = if cq b q < cq a q then cq b q else cq a q) → (∀ q, i ≤ q → q < 8 → cq m q = cq a q) → ∃ m', cut_Meet.l0 b m (8 : Int) (i : Int) = some (m', 0) ∧ m'.length = 8 ∧ ∀ q, q < 8 → cq m' q = if cq b q < cq a q then cq b q else cq a q := by
      intro d
      induction d with
      | zero => intro i m h1 h2 h3 h4; exact ⟨m, by rw [cut_Meet.l0_eq, if_neg (by omega)], h2, fun q hq => h3 q (by omega)⟩
      | succ d ih =>
        intro i m h1 h2 h3 h4
        have hi : i < 8 := by omega
        have hset : ∀ z : Int, ∀ r, r < 8 → cq (m.set i z) r = if i = r then z else cq m r := fun z r hr => by
          unfold cq
          rw [List.getElem?_set]
          by_cases e : i = r
          · rw [if_pos e, if_pos (by rw [h2]; exact hi), if_pos e]; rfl
          · rw [if_neg e, if_neg e]
        rw [cut_Meet.l0_eq, if_pos (by omega), gi_cq h2 hi, Option.bind_some, gi_cq b8 hi, Option.bind_some, Option.bind_some, Option.bind_some, w_succ (by omega), show Int.toNat (i : Int) = i from rfl, h4 i (Nat.le_refl _) hi]
        refine ih (i + 1) _ (by omega) (by rw [List.length_set]; exact h2) (fun q hq => ?_) (fun q hq hq8 => ?_)
        · rw [hset _ _ (by omega)]
          by_cases e : i = q
          · rw [if_pos e, e]
          · rw [if_neg e]; exact h3 q (by omega)
        · rw [hset _ _ hq8, if_neg (by omega)]; exact h4 q (by omega) hq8
    obtain ⟨m, m1, m2, m3⟩ := meet 8 0 a (by omega) a8 (fun q hq => absurd hq (Nat.not_lt_zero _)) (fun q _ _ => rfl)
    rw [show ((0 : Nat) : Int) = 0 from rfl] at m1
    refine ⟨_, 0, m, 0, by rw [if_pos g, hj, Option.bind_some], by rw [if_pos g, clone_val (by omega), Option.bind_some, a8]; exact m1, ?_⟩
    have hjl : ((List.range 8).map fun q => if cq b q > cq a q then cq b q else cq a q).length = 8 := by rw [List.length_map, List.length_range]
    have hjq : ∀ q, q < 8 → cq ((List.range 8).map fun q => if cq b q > cq a q then cq b q else cq a q) q = if cq b q > cq a q then cq b q else cq a q := fun q hq => by
      show (((List.range 8).map fun q => if cq b q > cq a q then cq b q else cq a q)[q]?).getD 0 = _
      rw [List.getElem?_map, List.getElem?_range hq]; rfl
    unfold roadlaw4_CutSays.j2 roadlaw4_CutSays.j3
    rw [k2, Option.bind_some, if_pos g, if_pos rfl, if_pos rfl, if_pos (by omega), if_pos (by omega)]
    have loop : ∀ (d i : Nat), i + d = 8 → roadlaw4_CutSays.l0 a b ((List.range 8).map fun q => if cq b q > cq a q then cq b q else cq a q) m (i : Int) = some true := by
      intro d
      induction d with
      | zero => intro i hi; rw [roadlaw4_CutSays.l0_eq, if_neg (by omega)]
      | succ d ih =>
        intro i hi
        have hlt : i < 8 := by omega
        rw [roadlaw4_CutSays.l0_eq, if_pos (by omega), gi_cq hjl hlt, Option.bind_some, gi_cq a8 hlt, Option.bind_some, gi_cq b8 hlt, Option.bind_some, if_pos (hjq i hlt), gi_cq m2 hlt, Option.bind_some, Option.bind_some, Option.bind_some, if_pos (m3 i hlt), w_succ (by omega)]
        exact ih (i + 1) (by omega)
    exact loop 8 0 (by omega)
  · refine ⟨[], c, [], c, by rw [if_neg g], by rw [if_neg g], ?_⟩
    unfold roadlaw4_CutSays.j2
    rw [k2, Option.bind_some, if_neg g, if_pos rfl, if_pos rfl, if_pos (by decide)]
    rfl
theorem law_l1 {l : List Ev} (h : histErr l = 0) {a b : List Int} (ha : VC l a) {is : Bool} {e1 e2 e3 e4 e5 e6 : Int} {w low high j m : List Int} : ∀ (d i : Nat), i + d = l.length → roadlaw4_CutSays.l1 a b l is e1 w e2 low e3 high e4 j e5 m e6 (BR l (In l a)) (Wy l (In l a) i l.length) l (l.length : Int) (i : Int) = roadlaw4_CutSays.l1 a b l is e1 w e2 low e3 high e4 j e5 m e6 (BR l (In l a)) (Wy l (In l a) l.length l.length) l (l.length : Int) (l.length : Int) := by
  intro d
  have v := val_of h
  have hN := v.1
  induction d with
  | zero =>
    intro i hi
    have : i = l.length := by omega
    subst this; rfl
  | succ d ih =>
    intro i hi
    have hlt : i < l.length := by omega
    have hw := wy_len (l := l) (R := In l a) (n := i) (t := l.length)
    have hs := wy_succ l (In l a) i l.length
    rw [← ih (i + 1) (by omega), roadlaw4_CutSays.l1_eq, if_pos (by omega), gi_ev hlt, Option.bind_some, br_gi hlt, Option.bind_some]
    have no : ¬ (In l a i ∧ (ev l i).Kind = 2 ∧ ¬ Tk l (In l a) l.length (ev l i).Msg) → roadlaw4_CutSays.j4 a b l is e1 w e2 low e3 high e4 j e5 m e6 (BR l (In l a)) (Wy l (In l a) i l.length) (ev l i) l (l.length : Int) (i : Int) false = roadlaw4_CutSays.l1 a b l is e1 w e2 low e3 high e4 j e5 m e6 (BR l (In l a)) (Wy l (In l a) (i + 1) l.length) l (l.length : Int) ((i + 1 : Nat) : Int) := fun hn => by
      rw [roadlaw4_CutSays.j4_eq, if_neg Bool.false_ne_true, w_succ (by omega), hs, if_neg (by rw [pd_f hn]; exact Bool.false_ne_true)]
    by_cases c : In l a i
    · rw [if_pos (pd_t c)]
      by_cases k2 : (ev l i).Kind = 2
      · rw [if_pos k2, cont_val v (tks_of h), Option.bind_some]
        by_cases t : Tk l (In l a) l.length (ev l i).Msg
        · rw [pd_t t]; exact no fun g => g.2.2 t
        · rw [pd_f t, show (!false) = true from rfl, roadlaw4_CutSays.j4_eq, if_pos rfl, ap_one (by omega), Option.bind_some, w_succ (by omega), hs, if_pos (pd_t ⟨c, k2, t⟩)]
      · rw [if_neg k2]; exact no fun g => k2 g.2.1
    · rw [if_neg (by rw [pd_f c]; exact Bool.false_ne_true)]; exact no fun g => c g.1
theorem law_j1 (l : List Ev) (a b : List Int) : roadlaw4_CutSays.j1 a b l = some true := by
  obtain ⟨j, e5, m, e6, j1, j2, j3⟩ := law_j2 l a b
  obtain ⟨c, k1, k2, k3⟩ := cut_both l (cs := [a]) (by simp)
  unfold roadlaw4_CutSays.j1
  by_cases g : c = 0
  · obtain ⟨h, hv⟩ := k3.1 g
    subst g
    have ha := hv a (by simp)
    have v := val_of h
    have hN := v.1
    have hw := wy_len (l := l) (R := In l a) (n := l.length) (t := l.length)
    obtain ⟨y, y1, y2, _⟩ := slices_Sort_18.val (Wy l (In l a) l.length l.length) (by omega)
    have hyl : y.length ≤ 200 := by rw [y2.length_eq]; omega
    have hl1 := law_l1 h (b := b) ha (is := pd (Wh l a)) (e1 := 0) (e2 := 0) (e3 := 0) (e4 := 0) (e5 := e5) (e6 := e6) (w := y) (low := Row l (Lst l a l.length)) (high := Row l (fun k => k < l.length ∧ Mst l (In l a) k)) (j := j) (m := m) l.length 0 (by omega)
    rw [show Wy l (In l a) 0 l.length = [] from rfl, show ((0 : Nat) : Int) = 0 from rfl] at hl1
    rw [Whole_good h ha k1, Option.bind_some, Way_good h ha k1 y1 hyl, Option.bind_some, Least_good h ha k1, Option.bind_some, Most_good h ha k1, Option.bind_some, j1, Option.bind_some, j2, Option.bind_some, k2, Option.bind_some, if_pos rfl, rin_val h ha, Option.bind_some]
    refine hl1.trans ?_
    rw [roadlaw4_CutSays.l1_eq, if_neg (by omega), y1, Option.bind_some, if_pos rfl, if_pos rfl, if_pos rfl, if_pos rfl, RWhole_good h ha, Option.bind_some, if_pos (beq_self_eq_true _), eq_refl' (by omega), Option.bind_some, if_pos rfl, RLeast_good h ha, Option.bind_some, eq_refl' (by rw [row_len]; omega), Option.bind_some, if_pos rfl, RMost_good h ha, Option.bind_some, eq_refl' (by rw [row_len]; omega), Option.bind_some, if_pos rfl]
    exact j3
  · have h1 : cut_Whole l a = some (false, c) := by unfold cut_Whole; rw [k1, Option.bind_some, if_neg g]
    have h2 : cut_Way l a = some ([], c) := by unfold cut_Way; rw [k1, Option.bind_some, if_neg g]
    have h3 : cut_Least l a = some ([], c) := by unfold cut_Least; rw [k1, Option.bind_some, if_neg g]
    have h4 : cut_Most l a = some ([], c) := by unfold cut_Most; rw [k1, Option.bind_some, if_neg g]
    rw [h1, Option.bind_some, h2, Option.bind_some, h3, Option.bind_some, h4, Option.bind_some, j1, Option.bind_some, j2, Option.bind_some, k2, Option.bind_some, if_neg g, if_pos rfl, if_pos rfl, if_pos rfl, if_pos rfl, if_neg Bool.false_ne_true, if_pos (by rfl), if_pos (by rfl), if_pos (by rfl)]
    exact j3
abbrev two : List Ev := [(T_api_Event.mk 0 2 5), (T_api_Event.mk 1 3 5)]
abbrev cc : List Int := [0, 1, 0, 0, 0, 0, 0, 0]
theorem two_err : histErr two = 0 := by decide
theorem two_b0 (q : Int) : cn two (bef 0) q = 0 := by unfold cn; exact List.countP_eq_zero.2 fun k _ => by simp
theorem two_b1 : cn two (bef 1) 1 = 0 := by rw [cn_bef_ne (i := 0) (by decide), two_b0]
theorem two_b2 : cn two (bef 2) 1 = 1 := by
  have := cn_bef (l := two) (i := 1) (p := 1) (by decide) rfl
  rw [show ((1 : Nat) : Int) = 1 from rfl, two_b1] at this
  exact this
theorem two_vc : VC two cc := by
  refine ⟨rfl, fun q hq => ?_⟩
  have hz : q = 0 ∨ q = 1 ∨ q = 2 ∨ q = 3 ∨ q = 4 ∨ q = 5 ∨ q = 6 ∨ q = 7 := by omega
  rcases hz with rfl | rfl | rfl | rfl | rfl | rfl | rfl | rfl
  case inr.inl => exact ⟨by decide, by show (1 : Int) ≤ (cn two (bef 2) 1 : Int); rw [two_b2]; decide⟩
  all_goals exact ⟨by decide, Int.natCast_nonneg _⟩
theorem two_in1 : In two cc 1 := ⟨by decide, by show (cn two (bef 1) 1 : Int) < 1; rw [two_b1]; decide⟩
theorem two_in0 : ¬ In two cc 0 := fun h => by
  have h2 : (cn two (bef 0) 0 : Int) < 0 := h.2
  rw [two_b0] at h2
  exact absurd h2 (by decide)
theorem two_check : cut_check two [cc] = some 0 := by
  obtain ⟨c, k1, _, k3⟩ := cut_both two (cs := [cc]) (by decide)
  rw [k1, k3.2 ⟨two_err, fun a ha => by rw [List.mem_singleton.1 ha]; exact two_vc⟩]
theorem two_whole : ¬ Wh two cc := fun h => by
  obtain ⟨j, j1, _, _, j4⟩ := h 1 (by decide) two_in1 rfl
  have : j = 0 := by omega
  subst this
  exact two_in0 j4
theorem two_least : Row two (Lst two cc two.length) = [1, 1, 0, 0, 0, 0, 0, 0] := by
  have e : ∀ k, Lst two cc two.length k ↔ bef 2 k := fun k => by
    constructor
    · rintro ⟨i, h1, _, h3⟩
      have h1 : i < 2 := h1
      have := h3.le
      show k < 2
      omega
    · intro hk
      have hk : k < 2 := hk
      refine ⟨1, by decide, two_in1, ?_⟩
      by_cases e : k = 1
      · exact .inl e
      · have : k = 0 := by omega
        subst this
        exact .inr (.base (by omega) (.inr ⟨rfl, rfl, rfl⟩))
  rw [row_ext e]
  have r0 : Row two (bef 0) = List.replicate 8 0 := row_none fun k h => Nat.not_lt_zero _ h
  have r1 := row_bef (l := two) (i := 0) (p := 0) (by decide) rfl (by decide)
  have r2 := row_bef (l := two) (i := 1) (p := 1) (by decide) rfl (by decide)
  rw [r0, two_b0] at r1
  rw [← r1, show ((1 : Nat) : Int) = 1 from rfl, two_b1] at r2
  exact r2.symm
theorem CutSays (l : List Ev) (a b : List Int) (q0 : l.length * 24 ≤ 140737488351232 ∧ ∀ z ∈ l, T_api_Event.Q z) (q1 : a.length * 8 ≤ 140737488351232 ∧ ∀ x ∈ a, (-9223372036854775808 ≤ x ∧ x ≤ 9223372036854775807)) (q2 : b.length * 8 ≤ 140737488351232 ∧ ∀ x ∈ b, (-9223372036854775808 ≤ x ∧ x ≤ 9223372036854775807)) : roadlaw4_CutSays l a b = some true := by
  unfold roadlaw4_CutSays roadlaw4_CutSays.j0 roadlaw4_two
  have hw := Whole_good two_err two_vc two_check
  have hl := Least_good two_err two_vc two_check
  rw [pd_f two_whole] at hw
  rw [two_least] at hl
  rw [Option.bind_some, hw, Option.bind_some, if_pos rfl, if_neg Bool.false_ne_true, Option.bind_some, hl, Option.bind_some, if_pos rfl, eq_refl' (by decide), Option.bind_some, if_pos rfl]
  exact law_j1 l a b
end Go.Proofs.Ytnlocljmalhddac.Fw

end
section
namespace Go.Proofs.Ytnlocljmalhddac.cutSays
open Go Go.Hw Go.ChangeShapes Go.WideShapes Go.ChangeAt Go.RowKit Go.Proofs.Ytnlocljmalhddac.Fw
open Go.ChangeMaps (open_string shut_string)
set_option linter.unusedVariables false
theorem own : ownKnob Try.prog.godebug = none := by kernel_rfl
theorem laidOut : laidOutB Try.prog = true := by kernel_rfl
set_option maxRecDepth 100000 in
theorem lifted (os : Os) (started : os.Started) (H : Type) (enc : TypeId × Value → H) :
    ReturnsInHanded {} Try.checked os 3 .any (Rows.cutSaysSpec.pre6 enc Try.prog Try.f3 Rows.cutSaysRow.domain false) (Rows.cutSaysSpec.post enc Try.prog Try.f3 false true false false) := by
  refine returnsInHanded_of_change_sized (C := Try.checked) own started (by kernel_rfl) Try.func3
    (ChangeSpec.witness6 (enc := enc) (C := Try.checked) false ⟨#[], #[(.slice none 0 0), (.slice none 0 0), (.slice none 0 0)], []⟩ 8 (by kernel_rfl) (by kernel_rfl) (by kernel_rfl) (by kernel_rfl)) ?_
  intro W base args ds gs before hval0 hW hcnd hsz0 _
  have hsz : (DataW.weightsEach Try.prog (Try.f3.params.toList ++ Rows.cutSaysSpec.plain.varTypes Try.prog) (ds ++ gs)).all (· ≤ reachBytes) = true := hsz0
  have hval : ∀ (j : Nat) t v, Try.f3.params[j]? = some t → args[j]? = some v → Value.okWide Try.prog W .any base t v := hval0
  have hW' := hW
  obtain ⟨p, q, hA0, hV, rfl, hfz, hnd⟩ := hW
  have hA : DataW.TrodAll enc Try.prog W 0 (fun _ => true) true Try.f3.params.toList args.toList ds p := hA0
  rw [Try.params3] at hA hval hsz
  obtain ⟨v0, vs0, d0, ds0, p0, q0_, hargs, rfl, rfl, h0, r0_⟩ := trodAll_cons hA
  obtain ⟨v1, vs1, d1, ds1, p1, q1_, rfl, rfl, rfl, h1, r1_⟩ := trodAll_cons r0_
  obtain ⟨v2, vs2, d2, ds2, p2, q2_, rfl, rfl, rfl, h2, r2_⟩ := trodAll_cons r1_
  obtain ⟨rfl, rfl, rfl⟩ := trodAll_nil r2_
  obtain rfl : args = #[v0, v1, v2] := by cases args; simp_all
  obtain ⟨rfl, rfl⟩ := trodVars_none hV
  have hs : (DataW.weightsEach Try.prog [22, 23, 23] [d0, d1, d2]).all (· ≤ reachBytes) = true := hsz
  simp only [DataW.weightsEach, List.append_nil, List.all_append, Bool.and_eq_true] at hs
  obtain ⟨hw0, hw1, hw2⟩ := hs
  have k0 := h0
  have lt0 : ∀ x ∈ p0, x.block < W.heap.size := by obtain ⟨m, hm⟩ := k0; exact DataW.trod_lt m _ _ _ hm
  obtain ⟨A0, n0, c0, rfl⟩ := okWide_slice (show Try.prog.underlying 22 = some (.slice 36) by kernel_rfl) (hval 0 22 v0 rfl rfl)
  obtain ⟨fuel0, hf0⟩ := h0
  obtain ⟨l0, ⟨A0', c0', hcs0, hle0, r0⟩, q0⟩ := (tells_sliceL (t := 22) (e := 36) (sz := 3) (B := 24) (by kernel_rfl) (by kernel_rfl) (by kernel_rfl) T_api_Event.tells) fuel0 _ _ hf0 hw0
  simp only [Value.cells, List.cons.injEq, Value.slice.injEq, and_true] at hcs0
  obtain ⟨rfl, rfl, rfl⟩ := hcs0
  have k1 := h1
  have lt1 : ∀ x ∈ p1, x.block < W.heap.size := by obtain ⟨m, hm⟩ := k1; exact DataW.trod_lt m _ _ _ hm
  obtain ⟨A1, n1, c1, rfl⟩ := okWide_slice (show Try.prog.underlying 23 = some (.slice 3) by kernel_rfl) (hval 1 23 v1 rfl rfl)
  obtain ⟨fuel1, hf1⟩ := h1
  obtain ⟨l1, ⟨A1', c1', hcs1, hle1, r1⟩, q1⟩ := (tells_sliceL (t := 23) (e := 3) (sz := 1) (B := 8) (by kernel_rfl) (by kernel_rfl) (by kernel_rfl) (tells_i64 (t := 3) (by kernel_rfl))) fuel1 _ _ hf1 hw1
  simp only [Value.cells, List.cons.injEq, Value.slice.injEq, and_true] at hcs1
  obtain ⟨rfl, rfl, rfl⟩ := hcs1
  have k2 := h2
  have lt2 : ∀ x ∈ p2, x.block < W.heap.size := by obtain ⟨m, hm⟩ := k2; exact DataW.trod_lt m _ _ _ hm
  obtain ⟨A2, n2, c2, rfl⟩ := okWide_slice (show Try.prog.underlying 23 = some (.slice 3) by kernel_rfl) (hval 2 23 v2 rfl rfl)
  obtain ⟨fuel2, hf2⟩ := h2
  obtain ⟨l2, ⟨A2', c2', hcs2, hle2, r2⟩, q2⟩ := (tells_sliceL (t := 23) (e := 3) (sz := 1) (B := 8) (by kernel_rfl) (by kernel_rfl) (by kernel_rfl) (tells_i64 (t := 3) (by kernel_rfl))) fuel2 _ _ hf2 hw2
  simp only [Value.cells, List.cons.injEq, Value.slice.injEq, and_true] at hcs2
  obtain ⟨rfl, rfl, rfl⟩ := hcs2
  refine ((Run.mono (R' := fun v h' => v = Value.bool true ∧ Ext W.heap h') (Fw.roadlaw4_CutSays.walk (W := No) (Hold.start (Sub.refl _)) rfl hle0 r0 rfl hle1 r1 rfl hle2 r2 (Fw.CutSays l0 l1 l2 q0 q1 q2)) (fun v h' hp => by obtain ⟨m', st, hv⟩ := hp; exact ⟨hv, st.S.ext⟩)) W rfl).mono fun e W' he => ?_
  obtain ⟨v, rfl, ⟨rfl, ext⟩, same⟩ := he
  have bel := below_of ext same
  exact ⟨_, rfl, _, _, _, [], _, [], hW', trodAll_mk1 (shut_bool (show Try.prog.underlying 4 = some .bool by kernel_rfl) _), (trodAll_cons_mk (Below.trod laidOut (by kernel_rfl) (of_decide_eq_true (by kernel_rfl)) k0 bel lt0) (trodAll_cons_mk (Below.trod laidOut (by kernel_rfl) (of_decide_eq_true (by kernel_rfl)) k1 bel lt1) (trodAll_cons_mk (Below.trod laidOut (by kernel_rfl) (of_decide_eq_true (by kernel_rfl)) k2 bel lt2) trodAll_mk0))), rfl, bel.frame _, fun h => by cases h⟩
theorem over : Rows.cutSaysRow.holds Try.pinned (OpenSpec.ofChange Rows.cutSaysSpec) :=
  OpenClaim.holds_of_wide 3 Try.f3 rfl rfl rfl rfl rfl rfl rfl ⟨rfl, rfl, rfl, rfl, rfl⟩ rfl rfl rfl rfl rfl (by kernel_rfl) Try.func3 (by kernel_rfl)
    (of_decide_eq_true (by kernel_rfl)) (by unfold Func.isWrapper; first | (rw [if_pos (by decide +kernel)]; kernel_rfl) | (rw [if_neg (by decide +kernel)]; exact ⟨rfl, rfl⟩))
    (fun os started H enc _ => lifted os started H enc)
end Go.Proofs.Ytnlocljmalhddac.cutSays
namespace Go.Proofs.Ytnlocljmalhddac
theorem cutSays_holds : Rows.CutSaysSaid := cutSays.over
end Go.Proofs.Ytnlocljmalhddac

end
