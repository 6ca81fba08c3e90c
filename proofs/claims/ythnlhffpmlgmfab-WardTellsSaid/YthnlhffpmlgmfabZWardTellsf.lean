/- Part 6: what the law WardTells needs, put together out of texts of this session. -/
import Derived.Test.YthnlhffpmlgmfabZWardTellse
section
namespace Go.Proofs.Ythnlhffpmlgmfab.Fw
open Go Go.Hw Go.Proofs
set_option linter.unusedVariables false
set_option synthInstance.maxHeartbeats 400000
set_option synthInstance.maxSize 1000
def roadref3_Fallen.post (W : Nat → Prop) (h0 m0 : Heap) (r : T_ward_Ward × T_ward_Plan) (v : Value) (h : Heap) : Prop := ∃ m cs0 cs1, Hold W h0 m0 h m [] ∧ v = .tuple #[.agg cs0.toArray, .agg cs1.toArray] ∧ T_ward_Ward.E m r.1 cs0 ∧ T_ward_Plan.E m r.2 cs1
noncomputable def roadref3_Fallen.j2 (y_8 : T_ward_Ward) (y_9 : T_ward_Plan) (y_10 : T_ward_Ward) (y_12 : T_ward_Plan) : Option (T_ward_Ward × T_ward_Plan) :=
  some (y_10, y_12)
set_option maxRecDepth 100000 in
theorem roadref3_Fallen.j2.walk {W : Nat → Prop} {h0 m0 h m : Heap} {bk_8 : Nat} {cs_8 : List Value} {bk_9 : Nat} {cs_9 : List Value} {bk_10 : Nat} {cs_10 : List Value} {bk_12 : Nat} {cs_12 : List Value} {y_8 : T_ward_Ward} {y_9 : T_ward_Plan} {y_10 : T_ward_Ward} {y_12 : T_ward_Plan} (O : Hold W h0 m0 h m [rV bk_8 25 cs_8, rV bk_9 31 cs_9, rV bk_10 25 cs_10, rV bk_12 31 cs_12]) (e_8 : T_ward_Ward.E m y_8 cs_8) (e_9 : T_ward_Plan.E m y_9 cs_9) (e_10 : T_ward_Ward.E m y_10 cs_10) (e_12 : T_ward_Plan.E m y_12 cs_12) {r : T_ward_Ward × T_ward_Plan} (e : roadref3_Fallen.j2 y_8 y_9 y_10 y_12 = some r) : f56.j2 (roadref3_Fallen.post W h0 m0 r) (⟨bk_8, 0, none⟩ : Addr) (⟨bk_9, 0, none⟩ : Addr) (⟨bk_10, 0, none⟩ : Addr) (⟨bk_12, 0, none⟩ : Addr) h := by
  unfold roadref3_Fallen.j2 at e
  refine f56.j2_in ?_
  unfold f56.j2T
  refine ⟨_, ldAn (Sub.refl _) (O.all 2 rfl) (T_ward_Ward.T.len _ _ _ e_10), ?_⟩
  refine ⟨?_, ?_⟩
  · refine ⟨_, ldAn (Sub.refl _) (O.all 3 rfl) (T_ward_Plan.T.len _ _ _ e_12), ?_⟩
    refine ⟨Ext.refl _, ?_⟩
    refine ⟨_, rfl, (T_ward_Ward.T.len _ _ _ e_10), ?_⟩
    refine O.stA 0 rfl ((T_ward_Ward.T.len _ _ _ e_10).trans ((T_ward_Ward.T.len _ _ _ e_8)).symm) (T_ward_Ward.T.flat _ _ _ e_10) fun h6 O7 => ?_
    refine ⟨_, rfl, (T_ward_Plan.T.len _ _ _ e_12), ?_⟩
    refine O7.stA 1 rfl ((T_ward_Plan.T.len _ _ _ e_12).trans ((T_ward_Plan.T.len _ _ _ e_9)).symm) (T_ward_Plan.T.flat _ _ _ e_12) fun h8 O9 => ?_
    refine ⟨_, ldAn (Sub.refl _) (O9.all 0 rfl) (T_ward_Ward.T.len _ _ _ e_10), ?_⟩
    refine ⟨_, ldAn (Sub.refl _) (O9.all 1 rfl) (T_ward_Plan.T.len _ _ _ e_12), ?_⟩
    have O10 := O9.nm
    cases e
    exact ⟨_, _, _, O10.pick [], rfl, e_10, e_12⟩
  · refine ⟨_, rfl, (T_ward_Ward.T.len _ _ _ e_10), ?_⟩
    refine O.stA 0 rfl ((T_ward_Ward.T.len _ _ _ e_10).trans ((T_ward_Ward.T.len _ _ _ e_8)).symm) (T_ward_Ward.T.flat _ _ _ e_10) fun h11 O12 => ?_
    refine ⟨_, ldAn (Sub.refl _) (O12.all 3 rfl) (T_ward_Plan.T.len _ _ _ e_12), ?_⟩
    refine ⟨Ext.refl _, ?_⟩
    refine ⟨_, rfl, (T_ward_Plan.T.len _ _ _ e_12), ?_⟩
    refine O12.stA 1 rfl ((T_ward_Plan.T.len _ _ _ e_12).trans ((T_ward_Plan.T.len _ _ _ e_9)).symm) (T_ward_Plan.T.flat _ _ _ e_12) fun h13 O14 => ?_
    refine ⟨_, ldAn (Sub.refl _) (O14.all 0 rfl) (T_ward_Ward.T.len _ _ _ e_10), ?_⟩
    refine ⟨_, ldAn (Sub.refl _) (O14.all 1 rfl) (T_ward_Plan.T.len _ _ _ e_12), ?_⟩
    have O15 := O14.nm
    cases e
    exact ⟨_, _, _, O15.pick [], rfl, e_10, e_12⟩
inductive roadref3_Fallen.l3_k.Pt where
  | l3 (x_3 : Int) (y_8 : T_ward_Ward) (y_9 : T_ward_Plan) (x_10_0 : Int) (x_10_1 : Int) (x_10_2 : Int) (a_10_3 : (List T_ward_Child)) (a_10_4 : (List Int)) (a_12_0 : (List Int)) (a_12_1 : (List Int)) (b_12_2 : Bool) (a_17 : List Int) (x_21 : Int)
noncomputable def roadref3_Fallen.l3_k.body (go : (p : roadref3_Fallen.l3_k.Pt) → Option (T_ward_Ward × T_ward_Plan)) : (p : roadref3_Fallen.l3_k.Pt) → Option (T_ward_Ward × T_ward_Plan)
  | .l3 x_3 y_8 y_9 x_10_0 x_10_1 x_10_2 a_10_3 a_10_4 a_12_0 a_12_1 b_12_2 a_17 x_21 => if x_21 ≥ (0 : Int) then (Option.bind (gi a_17 x_21) fun y1 => Option.bind (ap 8 a_12_1 ([y1] : List Int)) fun l12 => (go (.l3 x_3 y_8 y_9 x_10_0 x_10_1 x_10_2 a_10_3 a_10_4 a_12_0 l12 b_12_2 a_17 (IntKind.wrap .i64 (x_21 - (1 : Int)))))) else (if b_12_2 = true then ((roadref3_Fallen.j2 y_8 y_9 (T_ward_Ward.mk x_10_0 x_10_1 x_10_2 a_10_3 a_10_4) (T_ward_Plan.mk a_12_0 a_12_1 b_12_2))) else (Option.bind (ap 8 a_10_4 ([x_3] : List Int)) fun l39 => (roadref3_Fallen.j2 y_8 y_9 (T_ward_Ward.mk x_10_0 x_10_1 x_10_2 a_10_3 l39) (T_ward_Plan.mk a_12_0 a_12_1 b_12_2))))
theorem roadref3_Fallen.l3_k.mono : MonoF (β := fun _ => (T_ward_Ward × T_ward_Plan)) roadref3_Fallen.l3_k.body := fun f g hfg p => match p with
  | .l3 x_3 y_8 y_9 x_10_0 x_10_1 x_10_2 a_10_3 a_10_4 a_12_0 a_12_1 b_12_2 a_17 x_21 => LeO.ite (LeO.bind (LeO.refl _) fun y1 => LeO.bind (LeO.refl _) fun l12 => (hfg _)) (LeO.ite ((LeO.refl _)) (LeO.bind (LeO.refl _) fun l39 => (LeO.refl _)))
noncomputable def roadref3_Fallen.l3_k.go (p : roadref3_Fallen.l3_k.Pt) : Option (T_ward_Ward × T_ward_Plan) := fixF (β := fun _ => (T_ward_Ward × T_ward_Plan)) roadref3_Fallen.l3_k.body p
noncomputable def roadref3_Fallen.l3 (x_3 : Int) (y_8 : T_ward_Ward) (y_9 : T_ward_Plan) (x_10_0 : Int) (x_10_1 : Int) (x_10_2 : Int) (a_10_3 : (List T_ward_Child)) (a_10_4 : (List Int)) (a_12_0 : (List Int)) (a_12_1 : (List Int)) (b_12_2 : Bool) (a_17 : List Int) (x_21 : Int) : Option (T_ward_Ward × T_ward_Plan) := roadref3_Fallen.l3_k.go (.l3 x_3 y_8 y_9 x_10_0 x_10_1 x_10_2 a_10_3 a_10_4 a_12_0 a_12_1 b_12_2 a_17 x_21)
theorem roadref3_Fallen.l3_eq (x_3 : Int) (y_8 : T_ward_Ward) (y_9 : T_ward_Plan) (x_10_0 : Int) (x_10_1 : Int) (x_10_2 : Int) (a_10_3 : (List T_ward_Child)) (a_10_4 : (List Int)) (a_12_0 : (List Int)) (a_12_1 : (List Int)) (b_12_2 : Bool) (a_17 : List Int) (x_21 : Int) : roadref3_Fallen.l3 x_3 y_8 y_9 x_10_0 x_10_1 x_10_2 a_10_3 a_10_4 a_12_0 a_12_1 b_12_2 a_17 x_21 = if x_21 ≥ (0 : Int) then (Option.bind (gi a_17 x_21) fun y1 => Option.bind (ap 8 a_12_1 ([y1] : List Int)) fun l12 => (roadref3_Fallen.l3 x_3 y_8 y_9 x_10_0 x_10_1 x_10_2 a_10_3 a_10_4 a_12_0 l12 b_12_2 a_17 (IntKind.wrap .i64 (x_21 - (1 : Int))))) else (if b_12_2 = true then ((roadref3_Fallen.j2 y_8 y_9 (T_ward_Ward.mk x_10_0 x_10_1 x_10_2 a_10_3 a_10_4) (T_ward_Plan.mk a_12_0 a_12_1 b_12_2))) else (Option.bind (ap 8 a_10_4 ([x_3] : List Int)) fun l39 => (roadref3_Fallen.j2 y_8 y_9 (T_ward_Ward.mk x_10_0 x_10_1 x_10_2 a_10_3 l39) (T_ward_Plan.mk a_12_0 a_12_1 b_12_2)))) := fixF_eq roadref3_Fallen.l3_k.mono _
def roadref3_Fallen.l3_k.I : (p : roadref3_Fallen.l3_k.Pt) → (T_ward_Ward × T_ward_Plan) → Prop
  | .l3 x_3 y_8 y_9 x_10_0 x_10_1 x_10_2 a_10_3 a_10_4 a_12_0 a_12_1 b_12_2 a_17 x_21, r => ∀ (W : Nat → Prop) (h0 m0 h m : Heap) (bk_8 : Nat) (cs_8 : List Value) (bk_9 : Nat) (cs_9 : List Value) (bk_10 : Nat) (A_10_3_0 : Option Addr) (n_10_3_0 : Nat) (c_10_3_0 : Nat) (A_10_4_0 : Option Addr) (n_10_4_0 : Nat) (c_10_4_0 : Nat) (bk_12 : Nat) (A_12_0_0 : Option Addr) (n_12_0_0 : Nat) (c_12_0_0 : Nat) (A_12_1_0 : Option Addr) (n_12_1_0 : Nat) (c_12_1_0 : Nat) (A_17 : Option Addr) (n_17 c_17 : Nat) (O : Hold W h0 m0 h m [rV bk_8 25 cs_8, rV bk_9 31 cs_9, rV bk_10 25 [(Value.int .i64 x_10_0), (Value.int .i64 x_10_1), (Value.int .i64 x_10_2), (Value.slice A_10_3_0 n_10_3_0 c_10_3_0), (Value.slice A_10_4_0 n_10_4_0 c_10_4_0)], rR (aE (tell_int .i64)) A_10_4_0 c_10_4_0 a_10_4, rV bk_12 31 [(Value.slice A_12_0_0 n_12_0_0 c_12_0_0), (Value.slice A_12_1_0 n_12_1_0 c_12_1_0), (Value.bool b_12_2)], rR (aE (tell_int .i64)) A_12_1_0 c_12_1_0 a_12_1, rR (aE (tell_int .i64)) A_17 c_17 a_17]) (e_8 : T_ward_Ward.E m y_8 cs_8) (e_9 : T_ward_Plan.E m y_9 cs_9) (ne_10_3_0 : n_10_3_0 = List.length a_10_3) (k_10_3_0 : List.length a_10_3 ≤ c_10_3_0) (r_10_3_0 : Rd 3 T_ward_Child.E m A_10_3_0 a_10_3) (ne_10_4_0 : n_10_4_0 = List.length a_10_4) (ne_12_0_0 : n_12_0_0 = List.length a_12_0) (k_12_0_0 : List.length a_12_0 ≤ c_12_0_0) (r_12_0_0 : Rd 1 (eInt .i64) m A_12_0_0 a_12_0) (ne_12_1_0 : n_12_1_0 = List.length a_12_1) (ne_17 : n_17 = List.length a_17), f56.l3 (roadref3_Fallen.post W h0 m0 r) x_3 (⟨bk_8, 0, none⟩ : Addr) (⟨bk_9, 0, none⟩ : Addr) (⟨bk_10, 0, none⟩ : Addr) (⟨bk_12, 0, none⟩ : Addr) A_17 n_17 c_17 x_21 h
set_option maxHeartbeats 4000000 in
set_option maxRecDepth 100000 in
theorem roadref3_Fallen.l3_k.step_l3 (go : (p : roadref3_Fallen.l3_k.Pt) → Option (T_ward_Ward × T_ward_Plan)) (ih : ∀ p r, go p = some r → roadref3_Fallen.l3_k.I p r) (x_3 : Int) (y_8 : T_ward_Ward) (y_9 : T_ward_Plan) (x_10_0 : Int) (x_10_1 : Int) (x_10_2 : Int) (a_10_3 : (List T_ward_Child)) (a_10_4 : (List Int)) (a_12_0 : (List Int)) (a_12_1 : (List Int)) (b_12_2 : Bool) (a_17 : List Int) (x_21 : Int) (r : T_ward_Ward × T_ward_Plan) (e : roadref3_Fallen.l3_k.body go (.l3 x_3 y_8 y_9 x_10_0 x_10_1 x_10_2 a_10_3 a_10_4 a_12_0 a_12_1 b_12_2 a_17 x_21) = some r) : roadref3_Fallen.l3_k.I (.l3 x_3 y_8 y_9 x_10_0 x_10_1 x_10_2 a_10_3 a_10_4 a_12_0 a_12_1 b_12_2 a_17 x_21) r := by
  unfold roadref3_Fallen.l3_k.body at e
  intro W h0 m0 h m bk_8 cs_8 bk_9 cs_9 bk_10 A_10_3_0 n_10_3_0 c_10_3_0 A_10_4_0 n_10_4_0 c_10_4_0 bk_12 A_12_0_0 n_12_0_0 c_12_0_0 A_12_1_0 n_12_1_0 c_12_1_0 A_17 n_17 c_17 O e_8 e_9 ne_10_3_0 k_10_3_0 r_10_3_0 ne_10_4_0 ne_12_0_0 k_12_0_0 r_12_0_0 ne_12_1_0 ne_17
  subst ne_10_3_0
  subst ne_10_4_0
  subst ne_12_0_0
  subst ne_12_1_0
  subst ne_17
  refine f56.l3_in ?_
  unfold f56.l3T
  refine split_dec_e e (fun c62 e => ?_) (fun c62 e => ?_)
  · obtain ⟨y1, g2, e⟩ := bind_e e
    refine (O.os 6 rfl).addr rfl g2 fun a3 cs4 ha5 hc6 he7 => ?_
    obtain rfl : cs4 = [(Value.int .i64 y1)] := he7
    refine ⟨_, ldk (k := 1) (Sub.refl _) (O.all 4 rfl) rfl, _, _, _, rfl, ?_⟩
    refine ⟨_, ld0 (Sub.refl _) hc6 rfl, _, rfl, ?_⟩
    refine O.new fun h8 x9 O10 => ?_
    refine ⟨x9, ?_⟩
    obtain ⟨l12, g13, e⟩ := bind_e e
    have O20 := O10.rowE (l := ([y1] : List Int)) 7 rfl (tell_int .i64) (show CsE _ _ _ _ _ from (CsE.cons (c1 := [(Value.int .i64 y1)]) rfl rfl CsE.nil)) rfl
    refine O20.app 5 rfl rfl rfl ((O20.os 7 rfl).srcE rfl) (by decide) g13 fun A14 c15 h16 O17 => ?_
    refine ⟨_, _, _, rfl, ?_⟩
    refine O17.st 4 rfl 1 (Nat.le_of_ble_eq_true rfl) trivial fun h21 O22 => ?_
    have O23 := O22.nm
    exact (ih _ _ e) _ _ _ _ _ _ _ _ _ _ _ _ _ _ _ _ _ _ _ _ _ _ _ _ _ _ (O23.pick [0, 1, 2, 3, 4, 5, 6]).nm e_8 e_9 rfl k_10_3_0 r_10_3_0 rfl rfl k_12_0_0 r_12_0_0 rfl rfl
  · refine ⟨_, ldk (k := 2) (Sub.refl _) (O.all 4 rfl) rfl, _, rfl, ?_⟩
    refine split_not ?_
    refine split_any_e e (fun c61 e => ?_) (fun c61 e => ?_)
    · obtain ⟨m24, u25, ⟨r26, k27⟩, O28⟩ := O.frz 3 rfl
      replace r26 : Rd 1 (eInt .i64) m24 A_10_4_0 a_10_4 := r26
      obtain ⟨m29, u30, ⟨r31, k32⟩, O33⟩ := O28.frz 5 rfl
      replace r31 : Rd 1 (eInt .i64) m29 A_12_1_0 a_12_1 := r31
      have O34 := O33.nm
      exact roadref3_Fallen.j2.walk (O34.pick [0, 1, 2, 4]).nm (T_ward_Ward.T.mono _ _ _ _ (u25.trans u30) e_8) (T_ward_Plan.T.mono _ _ _ _ (u25.trans u30) e_9) (show T_ward_Ward.E _ (T_ward_Ward.mk x_10_0 x_10_1 x_10_2 a_10_3 a_10_4) [(Value.int .i64 x_10_0), (Value.int .i64 x_10_1), (Value.int .i64 x_10_2), (Value.slice A_10_3_0 (List.length a_10_3) c_10_3_0), (Value.slice A_10_4_0 (List.length a_10_4) c_10_4_0)] from ⟨_, _, _, _, rfl, k_10_3_0, (r_10_3_0.sub T_ward_Child.T (u25.trans u30)), k27, (r26.sub (tell_int .i64) u30)⟩) (show T_ward_Plan.E _ (T_ward_Plan.mk a_12_0 a_12_1 b_12_2) [(Value.slice A_12_0_0 (List.length a_12_0) c_12_0_0), (Value.slice A_12_1_0 (List.length a_12_1) c_12_1_0), (Value.bool b_12_2)] from ⟨_, _, _, _, rfl, k_12_0_0, (r_12_0_0.sub (tell_int .i64) (u25.trans u30)), k32, r31⟩) e
    · refine ⟨_, ldk (k := 4) (Sub.refl _) (O.all 2 rfl) rfl, _, _, _, rfl, ?_⟩
      refine O.new fun h35 x36 O37 => ?_
      obtain ⟨l39, g40, e⟩ := bind_e e
      have O47 := O37.rowE (l := ([x_3] : List Int)) 7 rfl (tell_int .i64) (show CsE _ _ _ _ _ from (CsE.cons (c1 := [(Value.int .i64 x_3)]) rfl rfl CsE.nil)) rfl
      refine O47.app 3 rfl rfl rfl ((O47.os 7 rfl).srcE rfl) (by decide) g40 fun A41 c42 h43 O44 => ?_
      refine ⟨_, _, _, rfl, ?_⟩
      refine O44.st 2 rfl 4 (Nat.le_of_ble_eq_true rfl) trivial fun h48 O49 => ?_
      obtain ⟨m50, u51, ⟨r52, k53⟩, O54⟩ := O49.frz 3 rfl
      replace r52 : Rd 1 (eInt .i64) m50 A41 l39 := r52
      obtain ⟨m55, u56, ⟨r57, k58⟩, O59⟩ := O54.frz 5 rfl
      replace r57 : Rd 1 (eInt .i64) m55 A_12_1_0 a_12_1 := r57
      have O60 := O59.nm
      exact roadref3_Fallen.j2.walk (O60.pick [0, 1, 2, 4]).nm (T_ward_Ward.T.mono _ _ _ _ (u51.trans u56) e_8) (T_ward_Plan.T.mono _ _ _ _ (u51.trans u56) e_9) (show T_ward_Ward.E _ (T_ward_Ward.mk x_10_0 x_10_1 x_10_2 a_10_3 l39) [(Value.int .i64 x_10_0), (Value.int .i64 x_10_1), (Value.int .i64 x_10_2), (Value.slice A_10_3_0 (List.length a_10_3) c_10_3_0), (Value.slice A41 (List.length l39) c42)] from ⟨_, _, _, _, rfl, k_10_3_0, (r_10_3_0.sub T_ward_Child.T (u51.trans u56)), k53, (r52.sub (tell_int .i64) u56)⟩) (show T_ward_Plan.E _ (T_ward_Plan.mk a_12_0 a_12_1 b_12_2) [(Value.slice A_12_0_0 (List.length a_12_0) c_12_0_0), (Value.slice A_12_1_0 (List.length a_12_1) c_12_1_0), (Value.bool b_12_2)] from ⟨_, _, _, _, rfl, k_12_0_0, (r_12_0_0.sub (tell_int .i64) (u51.trans u56)), k58, r57⟩) e
theorem roadref3_Fallen.l3_k.all {p : roadref3_Fallen.l3_k.Pt} {r : (T_ward_Ward × T_ward_Plan)} (e : roadref3_Fallen.l3_k.go p = some r) : roadref3_Fallen.l3_k.I p r := fixF_ind (β := fun _ => (T_ward_Ward × T_ward_Plan)) roadref3_Fallen.l3_k.mono (I := roadref3_Fallen.l3_k.I) (fun go ih p r e => match p with
  | .l3 x_3 y_8 y_9 x_10_0 x_10_1 x_10_2 a_10_3 a_10_4 a_12_0 a_12_1 b_12_2 a_17 x_21 => roadref3_Fallen.l3_k.step_l3 go ih x_3 y_8 y_9 x_10_0 x_10_1 x_10_2 a_10_3 a_10_4 a_12_0 a_12_1 b_12_2 a_17 x_21 r e
  ) e
theorem roadref3_Fallen.l3.walk {W : Nat → Prop} {h0 m0 h m : Heap} {bk_8 : Nat} {cs_8 : List Value} {bk_9 : Nat} {cs_9 : List Value} {bk_10 : Nat} {A_10_3_0 : Option Addr} {n_10_3_0 : Nat} {c_10_3_0 : Nat} {A_10_4_0 : Option Addr} {n_10_4_0 : Nat} {c_10_4_0 : Nat} {bk_12 : Nat} {A_12_0_0 : Option Addr} {n_12_0_0 : Nat} {c_12_0_0 : Nat} {A_12_1_0 : Option Addr} {n_12_1_0 : Nat} {c_12_1_0 : Nat} {A_17 : Option Addr} {n_17 c_17 : Nat} {x_3 : Int} {y_8 : T_ward_Ward} {y_9 : T_ward_Plan} {x_10_0 : Int} {x_10_1 : Int} {x_10_2 : Int} {a_10_3 : (List T_ward_Child)} {a_10_4 : (List Int)} {a_12_0 : (List Int)} {a_12_1 : (List Int)} {b_12_2 : Bool} {a_17 : List Int} {x_21 : Int} (O : Hold W h0 m0 h m [rV bk_8 25 cs_8, rV bk_9 31 cs_9, rV bk_10 25 [(Value.int .i64 x_10_0), (Value.int .i64 x_10_1), (Value.int .i64 x_10_2), (Value.slice A_10_3_0 n_10_3_0 c_10_3_0), (Value.slice A_10_4_0 n_10_4_0 c_10_4_0)], rR (aE (tell_int .i64)) A_10_4_0 c_10_4_0 a_10_4, rV bk_12 31 [(Value.slice A_12_0_0 n_12_0_0 c_12_0_0), (Value.slice A_12_1_0 n_12_1_0 c_12_1_0), (Value.bool b_12_2)], rR (aE (tell_int .i64)) A_12_1_0 c_12_1_0 a_12_1, rR (aE (tell_int .i64)) A_17 c_17 a_17]) (e_8 : T_ward_Ward.E m y_8 cs_8) (e_9 : T_ward_Plan.E m y_9 cs_9) (ne_10_3_0 : n_10_3_0 = List.length a_10_3) (k_10_3_0 : List.length a_10_3 ≤ c_10_3_0) (r_10_3_0 : Rd 3 T_ward_Child.E m A_10_3_0 a_10_3) (ne_10_4_0 : n_10_4_0 = List.length a_10_4) (ne_12_0_0 : n_12_0_0 = List.length a_12_0) (k_12_0_0 : List.length a_12_0 ≤ c_12_0_0) (r_12_0_0 : Rd 1 (eInt .i64) m A_12_0_0 a_12_0) (ne_12_1_0 : n_12_1_0 = List.length a_12_1) (ne_17 : n_17 = List.length a_17) {r : T_ward_Ward × T_ward_Plan} (e : roadref3_Fallen.l3 x_3 y_8 y_9 x_10_0 x_10_1 x_10_2 a_10_3 a_10_4 a_12_0 a_12_1 b_12_2 a_17 x_21 = some r) : f56.l3 (roadref3_Fallen.post W h0 m0 r) x_3 (⟨bk_8, 0, none⟩ : Addr) (⟨bk_9, 0, none⟩ : Addr) (⟨bk_10, 0, none⟩ : Addr) (⟨bk_12, 0, none⟩ : Addr) A_17 n_17 c_17 x_21 h := roadref3_Fallen.l3_k.all (p := .l3 x_3 y_8 y_9 x_10_0 x_10_1 x_10_2 a_10_3 a_10_4 a_12_0 a_12_1 b_12_2 a_17 x_21) e W h0 m0 h m bk_8 cs_8 bk_9 cs_9 bk_10 A_10_3_0 n_10_3_0 c_10_3_0 A_10_4_0 n_10_4_0 c_10_4_0 bk_12 A_12_0_0 n_12_0_0 c_12_0_0 A_12_1_0 n_12_1_0 c_12_1_0 A_17 n_17 c_17 O e_8 e_9 ne_10_3_0 k_10_3_0 r_10_3_0 ne_10_4_0 ne_12_0_0 k_12_0_0 r_12_0_0 ne_12_1_0 ne_17
inductive roadref3_Fallen.l2_k.Pt where
  | l2 (x_3 : Int) (y_8 : T_ward_Ward) (y_9 : T_ward_Plan) (x_10_0 : Int) (x_10_1 : Int) (x_10_2 : Int) (a_10_3 : (List T_ward_Child)) (a_10_4 : (List Int)) (y_11 : Int) (a_12_0 : (List Int)) (a_12_1 : (List Int)) (b_12_2 : Bool) (y_16_c_1 : T_ward_Ward) (a_17 : List Int) (x_18 : Int)
  | j5 (x_3 : Int) (y_8 : T_ward_Ward) (y_9 : T_ward_Plan) (x_10_0 : Int) (x_10_1 : Int) (x_10_2 : Int) (a_10_3 : (List T_ward_Child)) (a_10_4 : (List Int)) (y_11 : Int) (a_12_0 : (List Int)) (a_12_1 : (List Int)) (b_12_2 : Bool) (y_16_c_1 : T_ward_Ward) (a_17 : List Int) (x_18 : Int) (b_20 : Bool) (b_124 : Bool) (x_19 : Int) (y_19 : T_ward_Child)
  | j4 (x_3 : Int) (y_8 : T_ward_Ward) (y_9 : T_ward_Plan) (x_10_0 : Int) (x_10_1 : Int) (x_10_2 : Int) (a_10_3 : (List T_ward_Child)) (a_10_4 : (List Int)) (y_11 : Int) (a_12_0 : (List Int)) (a_12_1 : (List Int)) (b_12_2 : Bool) (y_16_c_1 : T_ward_Ward) (a_17 : List Int) (x_18 : Int) (b_20 : Bool) (x_19 : Int) (y_19 : T_ward_Child)
  | j6 (x_3 : Int) (y_8 : T_ward_Ward) (y_9 : T_ward_Plan) (x_10_0 : Int) (x_10_1 : Int) (x_10_2 : Int) (a_10_3 : (List T_ward_Child)) (a_10_4 : (List Int)) (y_11 : Int) (a_12_0 : (List Int)) (a_12_1 : (List Int)) (b_12_2 : Bool) (y_16_c_1 : T_ward_Ward) (a_17 : List Int) (x_18 : Int) (b_152 : Bool) (x_19 : Int) (y_19 : T_ward_Child)
  | j3 (x_3 : Int) (y_8 : T_ward_Ward) (y_9 : T_ward_Plan) (x_10_0 : Int) (x_10_1 : Int) (x_10_2 : Int) (a_10_3 : (List T_ward_Child)) (a_10_4 : (List Int)) (y_11 : Int) (a_12_0 : (List Int)) (a_12_1 : (List Int)) (b_12_2 : Bool) (y_16_c_1 : T_ward_Ward) (a_17 : List Int) (x_18 : Int)
noncomputable def roadref3_Fallen.l2_k.body (go : (p : roadref3_Fallen.l2_k.Pt) → Option (T_ward_Ward × T_ward_Plan)) : (p : roadref3_Fallen.l2_k.Pt) → Option (T_ward_Ward × T_ward_Plan)
  | .l2 x_3 y_8 y_9 x_10_0 x_10_1 x_10_2 a_10_3 a_10_4 y_11 a_12_0 a_12_1 b_12_2 y_16_c_1 a_17 x_18 => if x_18 ≥ (0 : Int) then (Option.bind (gi a_10_3 x_18) fun y1 => if y1.Lives = true then (if b_12_2 = true then ((go (.j5 x_3 y_8 y_9 x_10_0 x_10_1 x_10_2 a_10_3 a_10_4 y_11 a_12_0 a_12_1 b_12_2 y_16_c_1 a_17 x_18 y1.Lives true x_18 y1))) else (Option.bind (roadref3_Fallen_1 x_18 y_11 y_16_c_1) fun y8 => (go (.j5 x_3 y_8 y_9 x_10_0 x_10_1 x_10_2 a_10_3 a_10_4 y_11 a_12_0 a_12_1 b_12_2 y_16_c_1 a_17 x_18 y1.Lives y8 x_18 y1)))) else ((go (.j5 x_3 y_8 y_9 x_10_0 x_10_1 x_10_2 a_10_3 a_10_4 y_11 a_12_0 a_12_1 b_12_2 y_16_c_1 a_17 x_18 y1.Lives false x_18 y1)))) else ((roadref3_Fallen.l3 x_3 y_8 y_9 x_10_0 x_10_1 x_10_2 a_10_3 a_10_4 a_12_0 a_12_1 b_12_2 a_17 (IntKind.wrap .i64 ((((List.length a_17) : Nat) : Int) - (1 : Int)))))
  | .j5 x_3 y_8 y_9 x_10_0 x_10_1 x_10_2 a_10_3 a_10_4 y_11 a_12_0 a_12_1 b_12_2 y_16_c_1 a_17 x_18 b_20 b_124 x_19 y_19 => if b_124 = true then (Option.bind (ap 8 a_12_0 ([y_19.Id] : List Int)) fun l10 => Option.bind (some (List.set a_10_3 (Int.toNat x_19) ({ y_19 with Lives := false }))) fun l28 => (go (.j4 x_3 y_8 y_9 x_10_0 x_10_1 x_10_2 l28 a_10_4 y_11 l10 a_12_1 b_12_2 y_16_c_1 a_17 x_18 b_20 x_19 ({ y_19 with Lives := false })))) else ((go (.j4 x_3 y_8 y_9 x_10_0 x_10_1 x_10_2 a_10_3 a_10_4 y_11 a_12_0 a_12_1 b_12_2 y_16_c_1 a_17 x_18 b_20 x_19 y_19)))
  | .j4 x_3 y_8 y_9 x_10_0 x_10_1 x_10_2 a_10_3 a_10_4 y_11 a_12_0 a_12_1 b_12_2 y_16_c_1 a_17 x_18 b_20 x_19 y_19 => if b_12_2 = true then ((go (.j6 x_3 y_8 y_9 x_10_0 x_10_1 x_10_2 a_10_3 a_10_4 y_11 a_12_0 a_12_1 b_12_2 y_16_c_1 a_17 x_18 false x_19 y_19))) else (Option.bind (roadref3_Fallen_1 x_18 y_11 y_16_c_1) fun y1 => if y1 = true then (if b_20 = true then ((go (.j6 x_3 y_8 y_9 x_10_0 x_10_1 x_10_2 a_10_3 a_10_4 y_11 a_12_0 a_12_1 b_12_2 y_16_c_1 a_17 x_18 true x_19 y_19))) else ((go (.j6 x_3 y_8 y_9 x_10_0 x_10_1 x_10_2 a_10_3 a_10_4 y_11 a_12_0 a_12_1 b_12_2 y_16_c_1 a_17 x_18 (x_18 == y_11) x_19 y_19)))) else ((go (.j6 x_3 y_8 y_9 x_10_0 x_10_1 x_10_2 a_10_3 a_10_4 y_11 a_12_0 a_12_1 b_12_2 y_16_c_1 a_17 x_18 false x_19 y_19))))
  | .j6 x_3 y_8 y_9 x_10_0 x_10_1 x_10_2 a_10_3 a_10_4 y_11 a_12_0 a_12_1 b_12_2 y_16_c_1 a_17 x_18 b_152 x_19 y_19 => if b_152 = true then (Option.bind (ap 8 a_17 ([y_19.Id] : List Int)) fun l10 => Option.bind (some (List.set a_10_3 (Int.toNat x_19) ({ y_19 with Lives := true }))) fun l26 => (go (.j3 x_3 y_8 y_9 x_10_0 x_10_1 x_10_2 l26 a_10_4 y_11 a_12_0 a_12_1 b_12_2 y_16_c_1 l10 x_18))) else ((go (.j3 x_3 y_8 y_9 x_10_0 x_10_1 x_10_2 a_10_3 a_10_4 y_11 a_12_0 a_12_1 b_12_2 y_16_c_1 a_17 x_18)))
  | .j3 x_3 y_8 y_9 x_10_0 x_10_1 x_10_2 a_10_3 a_10_4 y_11 a_12_0 a_12_1 b_12_2 y_16_c_1 a_17 x_18 => (go (.l2 x_3 y_8 y_9 x_10_0 x_10_1 x_10_2 a_10_3 a_10_4 y_11 a_12_0 a_12_1 b_12_2 y_16_c_1 a_17 (IntKind.wrap .i64 (x_18 - (1 : Int)))))
theorem roadref3_Fallen.l2_k.mono : MonoF (β := fun _ => (T_ward_Ward × T_ward_Plan)) roadref3_Fallen.l2_k.body := fun f g hfg p => match p with
  | .l2 x_3 y_8 y_9 x_10_0 x_10_1 x_10_2 a_10_3 a_10_4 y_11 a_12_0 a_12_1 b_12_2 y_16_c_1 a_17 x_18 => LeO.ite (LeO.bind (LeO.refl _) fun y1 => LeO.ite (LeO.ite ((hfg _)) (LeO.bind (LeO.refl _) fun y8 => (hfg _))) ((hfg _))) ((LeO.refl _))
  | .j5 x_3 y_8 y_9 x_10_0 x_10_1 x_10_2 a_10_3 a_10_4 y_11 a_12_0 a_12_1 b_12_2 y_16_c_1 a_17 x_18 b_20 b_124 x_19 y_19 => LeO.ite (LeO.bind (LeO.refl _) fun l10 => LeO.bind (LeO.refl _) fun l28 => (hfg _)) ((hfg _))
  | .j4 x_3 y_8 y_9 x_10_0 x_10_1 x_10_2 a_10_3 a_10_4 y_11 a_12_0 a_12_1 b_12_2 y_16_c_1 a_17 x_18 b_20 x_19 y_19 => LeO.ite ((hfg _)) (LeO.bind (LeO.refl _) fun y1 => LeO.ite (LeO.ite ((hfg _)) ((hfg _))) ((hfg _)))
  | .j6 x_3 y_8 y_9 x_10_0 x_10_1 x_10_2 a_10_3 a_10_4 y_11 a_12_0 a_12_1 b_12_2 y_16_c_1 a_17 x_18 b_152 x_19 y_19 => LeO.ite (LeO.bind (LeO.refl _) fun l10 => LeO.bind (LeO.refl _) fun l26 => (hfg _)) ((hfg _))
  | .j3 x_3 y_8 y_9 x_10_0 x_10_1 x_10_2 a_10_3 a_10_4 y_11 a_12_0 a_12_1 b_12_2 y_16_c_1 a_17 x_18 => (hfg _)
noncomputable def roadref3_Fallen.l2_k.go (p : roadref3_Fallen.l2_k.Pt) : Option (T_ward_Ward × T_ward_Plan) := fixF (β := fun _ => (T_ward_Ward × T_ward_Plan)) roadref3_Fallen.l2_k.body p
noncomputable def roadref3_Fallen.l2 (x_3 : Int) (y_8 : T_ward_Ward) (y_9 : T_ward_Plan) (x_10_0 : Int) (x_10_1 : Int) (x_10_2 : Int) (a_10_3 : (List T_ward_Child)) (a_10_4 : (List Int)) (y_11 : Int) (a_12_0 : (List Int)) (a_12_1 : (List Int)) (b_12_2 : Bool) (y_16_c_1 : T_ward_Ward) (a_17 : List Int) (x_18 : Int) : Option (T_ward_Ward × T_ward_Plan) := roadref3_Fallen.l2_k.go (.l2 x_3 y_8 y_9 x_10_0 x_10_1 x_10_2 a_10_3 a_10_4 y_11 a_12_0 a_12_1 b_12_2 y_16_c_1 a_17 x_18)
noncomputable def roadref3_Fallen.j5 (x_3 : Int) (y_8 : T_ward_Ward) (y_9 : T_ward_Plan) (x_10_0 : Int) (x_10_1 : Int) (x_10_2 : Int) (a_10_3 : (List T_ward_Child)) (a_10_4 : (List Int)) (y_11 : Int) (a_12_0 : (List Int)) (a_12_1 : (List Int)) (b_12_2 : Bool) (y_16_c_1 : T_ward_Ward) (a_17 : List Int) (x_18 : Int) (b_20 : Bool) (b_124 : Bool) (x_19 : Int) (y_19 : T_ward_Child) : Option (T_ward_Ward × T_ward_Plan) := roadref3_Fallen.l2_k.go (.j5 x_3 y_8 y_9 x_10_0 x_10_1 x_10_2 a_10_3 a_10_4 y_11 a_12_0 a_12_1 b_12_2 y_16_c_1 a_17 x_18 b_20 b_124 x_19 y_19)
noncomputable def roadref3_Fallen.j4 (x_3 : Int) (y_8 : T_ward_Ward) (y_9 : T_ward_Plan) (x_10_0 : Int) (x_10_1 : Int) (x_10_2 : Int) (a_10_3 : (List T_ward_Child)) (a_10_4 : (List Int)) (y_11 : Int) (a_12_0 : (List Int)) (a_12_1 : (List Int)) (b_12_2 : Bool) (y_16_c_1 : T_ward_Ward) (a_17 : List Int) (x_18 : Int) (b_20 : Bool) (x_19 : Int) (y_19 : T_ward_Child) : Option (T_ward_Ward × T_ward_Plan) := roadref3_Fallen.l2_k.go (.j4 x_3 y_8 y_9 x_10_0 x_10_1 x_10_2 a_10_3 a_10_4 y_11 a_12_0 a_12_1 b_12_2 y_16_c_1 a_17 x_18 b_20 x_19 y_19)
noncomputable def roadref3_Fallen.j6 (x_3 : Int) (y_8 : T_ward_Ward) (y_9 : T_ward_Plan) (x_10_0 : Int) (x_10_1 : Int) (x_10_2 : Int) (a_10_3 : (List T_ward_Child)) (a_10_4 : (List Int)) (y_11 : Int) (a_12_0 : (List Int)) (a_12_1 : (List Int)) (b_12_2 : Bool) (y_16_c_1 : T_ward_Ward) (a_17 : List Int) (x_18 : Int) (b_152 : Bool) (x_19 : Int) (y_19 : T_ward_Child) : Option (T_ward_Ward × T_ward_Plan) := roadref3_Fallen.l2_k.go (.j6 x_3 y_8 y_9 x_10_0 x_10_1 x_10_2 a_10_3 a_10_4 y_11 a_12_0 a_12_1 b_12_2 y_16_c_1 a_17 x_18 b_152 x_19 y_19)
noncomputable def roadref3_Fallen.j3 (x_3 : Int) (y_8 : T_ward_Ward) (y_9 : T_ward_Plan) (x_10_0 : Int) (x_10_1 : Int) (x_10_2 : Int) (a_10_3 : (List T_ward_Child)) (a_10_4 : (List Int)) (y_11 : Int) (a_12_0 : (List Int)) (a_12_1 : (List Int)) (b_12_2 : Bool) (y_16_c_1 : T_ward_Ward) (a_17 : List Int) (x_18 : Int) : Option (T_ward_Ward × T_ward_Plan) := roadref3_Fallen.l2_k.go (.j3 x_3 y_8 y_9 x_10_0 x_10_1 x_10_2 a_10_3 a_10_4 y_11 a_12_0 a_12_1 b_12_2 y_16_c_1 a_17 x_18)
theorem roadref3_Fallen.l2_eq (x_3 : Int) (y_8 : T_ward_Ward) (y_9 : T_ward_Plan) (x_10_0 : Int) (x_10_1 : Int) (x_10_2 : Int) (a_10_3 : (List T_ward_Child)) (a_10_4 : (List Int)) (y_11 : Int) (a_12_0 : (List Int)) (a_12_1 : (List Int)) (b_12_2 : Bool) (y_16_c_1 : T_ward_Ward) (a_17 : List Int) (x_18 : Int) : roadref3_Fallen.l2 x_3 y_8 y_9 x_10_0 x_10_1 x_10_2 a_10_3 a_10_4 y_11 a_12_0 a_12_1 b_12_2 y_16_c_1 a_17 x_18 = if x_18 ≥ (0 : Int) then (Option.bind (gi a_10_3 x_18) fun y1 => if y1.Lives = true then (if b_12_2 = true then ((roadref3_Fallen.j5 x_3 y_8 y_9 x_10_0 x_10_1 x_10_2 a_10_3 a_10_4 y_11 a_12_0 a_12_1 b_12_2 y_16_c_1 a_17 x_18 y1.Lives true x_18 y1)) else (Option.bind (roadref3_Fallen_1 x_18 y_11 y_16_c_1) fun y8 => (roadref3_Fallen.j5 x_3 y_8 y_9 x_10_0 x_10_1 x_10_2 a_10_3 a_10_4 y_11 a_12_0 a_12_1 b_12_2 y_16_c_1 a_17 x_18 y1.Lives y8 x_18 y1))) else ((roadref3_Fallen.j5 x_3 y_8 y_9 x_10_0 x_10_1 x_10_2 a_10_3 a_10_4 y_11 a_12_0 a_12_1 b_12_2 y_16_c_1 a_17 x_18 y1.Lives false x_18 y1))) else ((roadref3_Fallen.l3 x_3 y_8 y_9 x_10_0 x_10_1 x_10_2 a_10_3 a_10_4 a_12_0 a_12_1 b_12_2 a_17 (IntKind.wrap .i64 ((((List.length a_17) : Nat) : Int) - (1 : Int))))) := fixF_eq roadref3_Fallen.l2_k.mono _
theorem roadref3_Fallen.j5_eq (x_3 : Int) (y_8 : T_ward_Ward) (y_9 : T_ward_Plan) (x_10_0 : Int) (x_10_1 : Int) (x_10_2 : Int) (a_10_3 : (List T_ward_Child)) (a_10_4 : (List Int)) (y_11 : Int) (a_12_0 : (List Int)) (a_12_1 : (List Int)) (b_12_2 : Bool) (y_16_c_1 : T_ward_Ward) (a_17 : List Int) (x_18 : Int) (b_20 : Bool) (b_124 : Bool) (x_19 : Int) (y_19 : T_ward_Child) : roadref3_Fallen.j5 x_3 y_8 y_9 x_10_0 x_10_1 x_10_2 a_10_3 a_10_4 y_11 a_12_0 a_12_1 b_12_2 y_16_c_1 a_17 x_18 b_20 b_124 x_19 y_19 = if b_124 = true then (Option.bind (ap 8 a_12_0 ([y_19.Id] : List Int)) fun l10 => Option.bind (some (List.set a_10_3 (Int.toNat x_19) ({ y_19 with Lives := false }))) fun l28 => (roadref3_Fallen.j4 x_3 y_8 y_9 x_10_0 x_10_1 x_10_2 l28 a_10_4 y_11 l10 a_12_1 b_12_2 y_16_c_1 a_17 x_18 b_20 x_19 ({ y_19 with Lives := false }))) else ((roadref3_Fallen.j4 x_3 y_8 y_9 x_10_0 x_10_1 x_10_2 a_10_3 a_10_4 y_11 a_12_0 a_12_1 b_12_2 y_16_c_1 a_17 x_18 b_20 x_19 y_19)) := fixF_eq roadref3_Fallen.l2_k.mono _
theorem roadref3_Fallen.j4_eq (x_3 : Int) (y_8 : T_ward_Ward) (y_9 : T_ward_Plan) (x_10_0 : Int) (x_10_1 : Int) (x_10_2 : Int) (a_10_3 : (List T_ward_Child)) (a_10_4 : (List Int)) (y_11 : Int) (a_12_0 : (List Int)) (a_12_1 : (List Int)) (b_12_2 : Bool) (y_16_c_1 : T_ward_Ward) (a_17 : List Int) (x_18 : Int) (b_20 : Bool) (x_19 : Int) (y_19 : T_ward_Child) : roadref3_Fallen.j4 x_3 y_8 y_9 x_10_0 x_10_1 x_10_2 a_10_3 a_10_4 y_11 a_12_0 a_12_1 b_12_2 y_16_c_1 a_17 x_18 b_20 x_19 y_19 = if b_12_2 = true then ((roadref3_Fallen.j6 x_3 y_8 y_9 x_10_0 x_10_1 x_10_2 a_10_3 a_10_4 y_11 a_12_0 a_12_1 b_12_2 y_16_c_1 a_17 x_18 false x_19 y_19)) else (Option.bind (roadref3_Fallen_1 x_18 y_11 y_16_c_1) fun y1 => if y1 = true then (if b_20 = true then ((roadref3_Fallen.j6 x_3 y_8 y_9 x_10_0 x_10_1 x_10_2 a_10_3 a_10_4 y_11 a_12_0 a_12_1 b_12_2 y_16_c_1 a_17 x_18 true x_19 y_19)) else ((roadref3_Fallen.j6 x_3 y_8 y_9 x_10_0 x_10_1 x_10_2 a_10_3 a_10_4 y_11 a_12_0 a_12_1 b_12_2 y_16_c_1 a_17 x_18 (x_18 == y_11) x_19 y_19))) else ((roadref3_Fallen.j6 x_3 y_8 y_9 x_10_0 x_10_1 x_10_2 a_10_3 a_10_4 y_11 a_12_0 a_12_1 b_12_2 y_16_c_1 a_17 x_18 false x_19 y_19))) := fixF_eq roadref3_Fallen.l2_k.mono _
theorem roadref3_Fallen.j6_eq (x_3 : Int) (y_8 : T_ward_Ward) (y_9 : T_ward_Plan) (x_10_0 : Int) (x_10_1 : Int) (x_10_2 : Int) (a_10_3 : (List T_ward_Child)) (a_10_4 : (List Int)) (y_11 : Int) (a_12_0 : (List Int)) (a_12_1 : (List Int)) (b_12_2 : Bool) (y_16_c_1 : T_ward_Ward) (a_17 : List Int) (x_18 : Int) (b_152 : Bool) (x_19 : Int) (y_19 : T_ward_Child) : roadref3_Fallen.j6 x_3 y_8 y_9 x_10_0 x_10_1 x_10_2 a_10_3 a_10_4 y_11 a_12_0 a_12_1 b_12_2 y_16_c_1 a_17 x_18 b_152 x_19 y_19 = if b_152 = true then (Option.bind (ap 8 a_17 ([y_19.Id] : List Int)) fun l10 => Option.bind (some (List.set a_10_3 (Int.toNat x_19) ({ y_19 with Lives := true }))) fun l26 => (roadref3_Fallen.j3 x_3 y_8 y_9 x_10_0 x_10_1 x_10_2 l26 a_10_4 y_11 a_12_0 a_12_1 b_12_2 y_16_c_1 l10 x_18)) else ((roadref3_Fallen.j3 x_3 y_8 y_9 x_10_0 x_10_1 x_10_2 a_10_3 a_10_4 y_11 a_12_0 a_12_1 b_12_2 y_16_c_1 a_17 x_18)) := fixF_eq roadref3_Fallen.l2_k.mono _
theorem roadref3_Fallen.j3_eq (x_3 : Int) (y_8 : T_ward_Ward) (y_9 : T_ward_Plan) (x_10_0 : Int) (x_10_1 : Int) (x_10_2 : Int) (a_10_3 : (List T_ward_Child)) (a_10_4 : (List Int)) (y_11 : Int) (a_12_0 : (List Int)) (a_12_1 : (List Int)) (b_12_2 : Bool) (y_16_c_1 : T_ward_Ward) (a_17 : List Int) (x_18 : Int) : roadref3_Fallen.j3 x_3 y_8 y_9 x_10_0 x_10_1 x_10_2 a_10_3 a_10_4 y_11 a_12_0 a_12_1 b_12_2 y_16_c_1 a_17 x_18 = (roadref3_Fallen.l2 x_3 y_8 y_9 x_10_0 x_10_1 x_10_2 a_10_3 a_10_4 y_11 a_12_0 a_12_1 b_12_2 y_16_c_1 a_17 (IntKind.wrap .i64 (x_18 - (1 : Int)))) := fixF_eq roadref3_Fallen.l2_k.mono _
def roadref3_Fallen.l2_k.I : (p : roadref3_Fallen.l2_k.Pt) → (T_ward_Ward × T_ward_Plan) → Prop
  | .l2 x_3 y_8 y_9 x_10_0 x_10_1 x_10_2 a_10_3 a_10_4 y_11 a_12_0 a_12_1 b_12_2 y_16_c_1 a_17 x_18, r => ∀ (W : Nat → Prop) (h0 m0 h m : Heap) (bk_8 : Nat) (cs_8 : List Value) (bk_9 : Nat) (cs_9 : List Value) (bk_10 : Nat) (A_10_3_0 : Option Addr) (n_10_3_0 : Nat) (c_10_3_0 : Nat) (A_10_4_0 : Option Addr) (n_10_4_0 : Nat) (c_10_4_0 : Nat) (bk_11 : Nat) (cs_11 : List Value) (bk_12 : Nat) (A_12_0_0 : Option Addr) (n_12_0_0 : Nat) (c_12_0_0 : Nat) (A_12_1_0 : Option Addr) (n_12_1_0 : Nat) (c_12_1_0 : Nat) (bk_16_c_1 : Nat) (cs_16_c_1 : List Value) (A_17 : Option Addr) (n_17 c_17 : Nat) (O : Hold W h0 m0 h m [rV bk_8 25 cs_8, rV bk_9 31 cs_9, rV bk_10 25 [(Value.int .i64 x_10_0), (Value.int .i64 x_10_1), (Value.int .i64 x_10_2), (Value.slice A_10_3_0 n_10_3_0 c_10_3_0), (Value.slice A_10_4_0 n_10_4_0 c_10_4_0)], rR (aE T_ward_Child.T) A_10_3_0 c_10_3_0 a_10_3, rR (aE (tell_int .i64)) A_10_4_0 c_10_4_0 a_10_4, rV bk_11 3 cs_11, rV bk_12 31 [(Value.slice A_12_0_0 n_12_0_0 c_12_0_0), (Value.slice A_12_1_0 n_12_1_0 c_12_1_0), (Value.bool b_12_2)], rR (aE (tell_int .i64)) A_12_0_0 c_12_0_0 a_12_0, rR (aE (tell_int .i64)) A_12_1_0 c_12_1_0 a_12_1, rV bk_16_c_1 25 cs_16_c_1, rR (aE (tell_int .i64)) A_17 c_17 a_17]) (e_8 : T_ward_Ward.E m y_8 cs_8) (e_9 : T_ward_Plan.E m y_9 cs_9) (ne_10_3_0 : n_10_3_0 = List.length a_10_3) (ne_10_4_0 : n_10_4_0 = List.length a_10_4) (e_11 : (eInt .i64) m y_11 cs_11) (ne_12_0_0 : n_12_0_0 = List.length a_12_0) (ne_12_1_0 : n_12_1_0 = List.length a_12_1) (e_16_c_1 : T_ward_Ward.E m y_16_c_1 cs_16_c_1) (ne_17 : n_17 = List.length a_17), f56.l2 (roadref3_Fallen.post W h0 m0 r) x_3 (⟨bk_8, 0, none⟩ : Addr) (⟨bk_9, 0, none⟩ : Addr) (⟨bk_10, 0, none⟩ : Addr) (⟨bk_11, 0, none⟩ : Addr) (⟨bk_12, 0, none⟩ : Addr) (⟨bk_11, 0, none⟩ : Addr) (⟨bk_16_c_1, 0, none⟩ : Addr) A_17 n_17 c_17 x_18 h
  | .j5 x_3 y_8 y_9 x_10_0 x_10_1 x_10_2 a_10_3 a_10_4 y_11 a_12_0 a_12_1 b_12_2 y_16_c_1 a_17 x_18 b_20 b_124 x_19 y_19, r => ∀ (W : Nat → Prop) (h0 m0 h m : Heap) (bk_8 : Nat) (cs_8 : List Value) (bk_9 : Nat) (cs_9 : List Value) (bk_10 : Nat) (A_10_3_0 : Option Addr) (n_10_3_0 : Nat) (c_10_3_0 : Nat) (A_10_4_0 : Option Addr) (n_10_4_0 : Nat) (c_10_4_0 : Nat) (bk_11 : Nat) (cs_11 : List Value) (bk_12 : Nat) (A_12_0_0 : Option Addr) (n_12_0_0 : Nat) (c_12_0_0 : Nat) (A_12_1_0 : Option Addr) (n_12_1_0 : Nat) (c_12_1_0 : Nat) (bk_16_c_1 : Nat) (cs_16_c_1 : List Value) (A_17 : Option Addr) (n_17 c_17 : Nat) (aa_19 : Addr) (O : Hold W h0 m0 h m [rV bk_8 25 cs_8, rV bk_9 31 cs_9, rV bk_10 25 [(Value.int .i64 x_10_0), (Value.int .i64 x_10_1), (Value.int .i64 x_10_2), (Value.slice A_10_3_0 n_10_3_0 c_10_3_0), (Value.slice A_10_4_0 n_10_4_0 c_10_4_0)], rR (aE T_ward_Child.T) A_10_3_0 c_10_3_0 a_10_3, rR (aE (tell_int .i64)) A_10_4_0 c_10_4_0 a_10_4, rV bk_11 3 cs_11, rV bk_12 31 [(Value.slice A_12_0_0 n_12_0_0 c_12_0_0), (Value.slice A_12_1_0 n_12_1_0 c_12_1_0), (Value.bool b_12_2)], rR (aE (tell_int .i64)) A_12_0_0 c_12_0_0 a_12_0, rR (aE (tell_int .i64)) A_12_1_0 c_12_1_0 a_12_1, rV bk_16_c_1 25 cs_16_c_1, rR (aE (tell_int .i64)) A_17 c_17 a_17]) (e_8 : T_ward_Ward.E m y_8 cs_8) (e_9 : T_ward_Plan.E m y_9 cs_9) (ne_10_3_0 : n_10_3_0 = List.length a_10_3) (ne_10_4_0 : n_10_4_0 = List.length a_10_4) (e_11 : (eInt .i64) m y_11 cs_11) (ne_12_0_0 : n_12_0_0 = List.length a_12_0) (ne_12_1_0 : n_12_1_0 = List.length a_12_1) (e_16_c_1 : T_ward_Ward.E m y_16_c_1 cs_16_c_1) (ne_17 : n_17 = List.length a_17) (ha_19 : A_10_3_0 = some aa_19) (g_19 : gi a_10_3 x_19 = some y_19), f56.j5 (roadref3_Fallen.post W h0 m0 r) x_3 (⟨bk_8, 0, none⟩ : Addr) (⟨bk_9, 0, none⟩ : Addr) (⟨bk_10, 0, none⟩ : Addr) (⟨bk_11, 0, none⟩ : Addr) (⟨bk_12, 0, none⟩ : Addr) (⟨bk_11, 0, none⟩ : Addr) (⟨bk_16_c_1, 0, none⟩ : Addr) A_17 n_17 c_17 x_18 (Addr.add aa_19 (Int.toNat x_19 * 3)) b_20 b_124 h
  | .j4 x_3 y_8 y_9 x_10_0 x_10_1 x_10_2 a_10_3 a_10_4 y_11 a_12_0 a_12_1 b_12_2 y_16_c_1 a_17 x_18 b_20 x_19 y_19, r => ∀ (W : Nat → Prop) (h0 m0 h m : Heap) (bk_8 : Nat) (cs_8 : List Value) (bk_9 : Nat) (cs_9 : List Value) (bk_10 : Nat) (A_10_3_0 : Option Addr) (n_10_3_0 : Nat) (c_10_3_0 : Nat) (A_10_4_0 : Option Addr) (n_10_4_0 : Nat) (c_10_4_0 : Nat) (bk_11 : Nat) (cs_11 : List Value) (bk_12 : Nat) (A_12_0_0 : Option Addr) (n_12_0_0 : Nat) (c_12_0_0 : Nat) (A_12_1_0 : Option Addr) (n_12_1_0 : Nat) (c_12_1_0 : Nat) (bk_16_c_1 : Nat) (cs_16_c_1 : List Value) (A_17 : Option Addr) (n_17 c_17 : Nat) (aa_19 : Addr) (O : Hold W h0 m0 h m [rV bk_8 25 cs_8, rV bk_9 31 cs_9, rV bk_10 25 [(Value.int .i64 x_10_0), (Value.int .i64 x_10_1), (Value.int .i64 x_10_2), (Value.slice A_10_3_0 n_10_3_0 c_10_3_0), (Value.slice A_10_4_0 n_10_4_0 c_10_4_0)], rR (aE T_ward_Child.T) A_10_3_0 c_10_3_0 a_10_3, rR (aE (tell_int .i64)) A_10_4_0 c_10_4_0 a_10_4, rV bk_11 3 cs_11, rV bk_12 31 [(Value.slice A_12_0_0 n_12_0_0 c_12_0_0), (Value.slice A_12_1_0 n_12_1_0 c_12_1_0), (Value.bool b_12_2)], rR (aE (tell_int .i64)) A_12_0_0 c_12_0_0 a_12_0, rR (aE (tell_int .i64)) A_12_1_0 c_12_1_0 a_12_1, rV bk_16_c_1 25 cs_16_c_1, rR (aE (tell_int .i64)) A_17 c_17 a_17]) (e_8 : T_ward_Ward.E m y_8 cs_8) (e_9 : T_ward_Plan.E m y_9 cs_9) (ne_10_3_0 : n_10_3_0 = List.length a_10_3) (ne_10_4_0 : n_10_4_0 = List.length a_10_4) (e_11 : (eInt .i64) m y_11 cs_11) (ne_12_0_0 : n_12_0_0 = List.length a_12_0) (ne_12_1_0 : n_12_1_0 = List.length a_12_1) (e_16_c_1 : T_ward_Ward.E m y_16_c_1 cs_16_c_1) (ne_17 : n_17 = List.length a_17) (ha_19 : A_10_3_0 = some aa_19) (g_19 : gi a_10_3 x_19 = some y_19), f56.j4 (roadref3_Fallen.post W h0 m0 r) x_3 (⟨bk_8, 0, none⟩ : Addr) (⟨bk_9, 0, none⟩ : Addr) (⟨bk_10, 0, none⟩ : Addr) (⟨bk_11, 0, none⟩ : Addr) (⟨bk_12, 0, none⟩ : Addr) (⟨bk_11, 0, none⟩ : Addr) (⟨bk_16_c_1, 0, none⟩ : Addr) A_17 n_17 c_17 x_18 (Addr.add aa_19 (Int.toNat x_19 * 3)) b_20 h
  | .j6 x_3 y_8 y_9 x_10_0 x_10_1 x_10_2 a_10_3 a_10_4 y_11 a_12_0 a_12_1 b_12_2 y_16_c_1 a_17 x_18 b_152 x_19 y_19, r => ∀ (W : Nat → Prop) (h0 m0 h m : Heap) (bk_8 : Nat) (cs_8 : List Value) (bk_9 : Nat) (cs_9 : List Value) (bk_10 : Nat) (A_10_3_0 : Option Addr) (n_10_3_0 : Nat) (c_10_3_0 : Nat) (A_10_4_0 : Option Addr) (n_10_4_0 : Nat) (c_10_4_0 : Nat) (bk_11 : Nat) (cs_11 : List Value) (bk_12 : Nat) (A_12_0_0 : Option Addr) (n_12_0_0 : Nat) (c_12_0_0 : Nat) (A_12_1_0 : Option Addr) (n_12_1_0 : Nat) (c_12_1_0 : Nat) (bk_16_c_1 : Nat) (cs_16_c_1 : List Value) (A_17 : Option Addr) (n_17 c_17 : Nat) (aa_19 : Addr) (O : Hold W h0 m0 h m [rV bk_8 25 cs_8, rV bk_9 31 cs_9, rV bk_10 25 [(Value.int .i64 x_10_0), (Value.int .i64 x_10_1), (Value.int .i64 x_10_2), (Value.slice A_10_3_0 n_10_3_0 c_10_3_0), (Value.slice A_10_4_0 n_10_4_0 c_10_4_0)], rR (aE T_ward_Child.T) A_10_3_0 c_10_3_0 a_10_3, rR (aE (tell_int .i64)) A_10_4_0 c_10_4_0 a_10_4, rV bk_11 3 cs_11, rV bk_12 31 [(Value.slice A_12_0_0 n_12_0_0 c_12_0_0), (Value.slice A_12_1_0 n_12_1_0 c_12_1_0), (Value.bool b_12_2)], rR (aE (tell_int .i64)) A_12_0_0 c_12_0_0 a_12_0, rR (aE (tell_int .i64)) A_12_1_0 c_12_1_0 a_12_1, rV bk_16_c_1 25 cs_16_c_1, rR (aE (tell_int .i64)) A_17 c_17 a_17]) (e_8 : T_ward_Ward.E m y_8 cs_8) (e_9 : T_ward_Plan.E m y_9 cs_9) (ne_10_3_0 : n_10_3_0 = List.length a_10_3) (ne_10_4_0 : n_10_4_0 = List.length a_10_4) (e_11 : (eInt .i64) m y_11 cs_11) (ne_12_0_0 : n_12_0_0 = List.length a_12_0) (ne_12_1_0 : n_12_1_0 = List.length a_12_1) (e_16_c_1 : T_ward_Ward.E m y_16_c_1 cs_16_c_1) (ne_17 : n_17 = List.length a_17) (ha_19 : A_10_3_0 = some aa_19) (g_19 : gi a_10_3 x_19 = some y_19), f56.j6 (roadref3_Fallen.post W h0 m0 r) x_3 (⟨bk_8, 0, none⟩ : Addr) (⟨bk_9, 0, none⟩ : Addr) (⟨bk_10, 0, none⟩ : Addr) (⟨bk_11, 0, none⟩ : Addr) (⟨bk_12, 0, none⟩ : Addr) (⟨bk_11, 0, none⟩ : Addr) (⟨bk_16_c_1, 0, none⟩ : Addr) A_17 n_17 c_17 x_18 (Addr.add aa_19 (Int.toNat x_19 * 3)) b_152 h
  | .j3 x_3 y_8 y_9 x_10_0 x_10_1 x_10_2 a_10_3 a_10_4 y_11 a_12_0 a_12_1 b_12_2 y_16_c_1 a_17 x_18, r => ∀ (W : Nat → Prop) (h0 m0 h m : Heap) (bk_8 : Nat) (cs_8 : List Value) (bk_9 : Nat) (cs_9 : List Value) (bk_10 : Nat) (A_10_3_0 : Option Addr) (n_10_3_0 : Nat) (c_10_3_0 : Nat) (A_10_4_0 : Option Addr) (n_10_4_0 : Nat) (c_10_4_0 : Nat) (bk_11 : Nat) (cs_11 : List Value) (bk_12 : Nat) (A_12_0_0 : Option Addr) (n_12_0_0 : Nat) (c_12_0_0 : Nat) (A_12_1_0 : Option Addr) (n_12_1_0 : Nat) (c_12_1_0 : Nat) (bk_16_c_1 : Nat) (cs_16_c_1 : List Value) (A_17 : Option Addr) (n_17 c_17 : Nat) (O : Hold W h0 m0 h m [rV bk_8 25 cs_8, rV bk_9 31 cs_9, rV bk_10 25 [(Value.int .i64 x_10_0), (Value.int .i64 x_10_1), (Value.int .i64 x_10_2), (Value.slice A_10_3_0 n_10_3_0 c_10_3_0), (Value.slice A_10_4_0 n_10_4_0 c_10_4_0)], rR (aE T_ward_Child.T) A_10_3_0 c_10_3_0 a_10_3, rR (aE (tell_int .i64)) A_10_4_0 c_10_4_0 a_10_4, rV bk_11 3 cs_11, rV bk_12 31 [(Value.slice A_12_0_0 n_12_0_0 c_12_0_0), (Value.slice A_12_1_0 n_12_1_0 c_12_1_0), (Value.bool b_12_2)], rR (aE (tell_int .i64)) A_12_0_0 c_12_0_0 a_12_0, rR (aE (tell_int .i64)) A_12_1_0 c_12_1_0 a_12_1, rV bk_16_c_1 25 cs_16_c_1, rR (aE (tell_int .i64)) A_17 c_17 a_17]) (e_8 : T_ward_Ward.E m y_8 cs_8) (e_9 : T_ward_Plan.E m y_9 cs_9) (ne_10_3_0 : n_10_3_0 = List.length a_10_3) (ne_10_4_0 : n_10_4_0 = List.length a_10_4) (e_11 : (eInt .i64) m y_11 cs_11) (ne_12_0_0 : n_12_0_0 = List.length a_12_0) (ne_12_1_0 : n_12_1_0 = List.length a_12_1) (e_16_c_1 : T_ward_Ward.E m y_16_c_1 cs_16_c_1) (ne_17 : n_17 = List.length a_17), f56.j3 (roadref3_Fallen.post W h0 m0 r) x_3 (⟨bk_8, 0, none⟩ : Addr) (⟨bk_9, 0, none⟩ : Addr) (⟨bk_10, 0, none⟩ : Addr) (⟨bk_11, 0, none⟩ : Addr) (⟨bk_12, 0, none⟩ : Addr) (⟨bk_11, 0, none⟩ : Addr) (⟨bk_16_c_1, 0, none⟩ : Addr) A_17 n_17 c_17 x_18 h
set_option maxRecDepth 100000 in
theorem roadref3_Fallen.l2_k.step_l2 (go : (p : roadref3_Fallen.l2_k.Pt) → Option (T_ward_Ward × T_ward_Plan)) (ih : ∀ p r, go p = some r → roadref3_Fallen.l2_k.I p r) (x_3 : Int) (y_8 : T_ward_Ward) (y_9 : T_ward_Plan) (x_10_0 : Int) (x_10_1 : Int) (x_10_2 : Int) (a_10_3 : (List T_ward_Child)) (a_10_4 : (List Int)) (y_11 : Int) (a_12_0 : (List Int)) (a_12_1 : (List Int)) (b_12_2 : Bool) (y_16_c_1 : T_ward_Ward) (a_17 : List Int) (x_18 : Int) (r : T_ward_Ward × T_ward_Plan) (e : roadref3_Fallen.l2_k.body go (.l2 x_3 y_8 y_9 x_10_0 x_10_1 x_10_2 a_10_3 a_10_4 y_11 a_12_0 a_12_1 b_12_2 y_16_c_1 a_17 x_18) = some r) : roadref3_Fallen.l2_k.I (.l2 x_3 y_8 y_9 x_10_0 x_10_1 x_10_2 a_10_3 a_10_4 y_11 a_12_0 a_12_1 b_12_2 y_16_c_1 a_17 x_18) r := by
  unfold roadref3_Fallen.l2_k.body at e
  intro W h0 m0 h m bk_8 cs_8 bk_9 cs_9 bk_10 A_10_3_0 n_10_3_0 c_10_3_0 A_10_4_0 n_10_4_0 c_10_4_0 bk_11 cs_11 bk_12 A_12_0_0 n_12_0_0 c_12_0_0 A_12_1_0 n_12_1_0 c_12_1_0 bk_16_c_1 cs_16_c_1 A_17 n_17 c_17 O e_8 e_9 ne_10_3_0 ne_10_4_0 e_11 ne_12_0_0 ne_12_1_0 e_16_c_1 ne_17
  subst ne_10_3_0
  subst ne_10_4_0
  obtain rfl : cs_11 = [(Value.int .i64 y_11)] := e_11
  subst ne_12_0_0
  subst ne_12_1_0
  subst ne_17
  refine f56.l2_in ?_
  unfold f56.l2T
  refine split_dec_e e (fun c35 e => ?_) (fun c35 e => ?_)
  · refine ⟨_, ldk (k := 3) (Sub.refl _) (O.all 2 rfl) rfl, _, _, _, rfl, ?_⟩
    obtain ⟨y1, g2, e⟩ := bind_e e
    refine (O.os 3 rfl).addr rfl g2 fun a3 cs4 ha5 hc6 he7 => ?_
    refine ⟨_, ldk (k := 2) (Sub.refl _) hc6 (T_ward_Child.g2 he7), _, rfl, ?_⟩
    refine split_any_e e (fun c23 e => ?_) (fun c23 e => ?_)
    · refine ⟨_, ldk (k := 2) (Sub.refl _) (O.all 6 rfl) rfl, _, rfl, ?_⟩
      refine split_any_e e (fun c22 e => ?_) (fun c22 e => ?_)
      · exact (ih _ _ e) _ _ _ _ _ _ _ _ _ _ _ _ _ _ _ _ _ _ _ _ _ _ _ _ _ _ _ _ _ _ _ (O.pick [0, 1, 2, 3, 4, 5, 6, 7, 8, 9, 10]).nm e_8 e_9 rfl rfl rfl rfl rfl e_16_c_1 rfl ha5 g2
      · obtain ⟨y8, g9, e⟩ := bind_e e
        obtain ⟨m14, u15, s20, ⟨hb18, hb19, _⟩, B16, C17⟩ := O.lend0 [5, 9]
        refine (roadref3_Fallen_1.walk (Hold.start (W := No) s20) ⟨_, _, hb18, nn, rfl⟩ ⟨_, _, hb19, nn_len (T_ward_Ward.T.len _ _ _ e_16_c_1), (T_ward_Ward.T.mono _ _ _ _ u15 e_16_c_1)⟩ g9).mono ?_
        rintro _ h10 ⟨m11, Q12, rfl⟩
        have O21 := Hold.nm (C17 Q12 vfs_nil)
        refine ⟨_, rfl, ?_⟩
        exact (ih _ _ e) _ _ _ _ _ _ _ _ _ _ _ _ _ _ _ _ _ _ _ _ _ _ _ _ _ _ _ _ _ _ _ (O21.pick [0, 1, 2, 3, 4, 5, 6, 7, 8, 9, 10]).nm e_8 e_9 rfl rfl rfl rfl rfl e_16_c_1 rfl ha5 g2
    · exact (ih _ _ e) _ _ _ _ _ _ _ _ _ _ _ _ _ _ _ _ _ _ _ _ _ _ _ _ _ _ _ _ _ _ _ (O.pick [0, 1, 2, 3, 4, 5, 6, 7, 8, 9, 10]).nm e_8 e_9 rfl rfl rfl rfl rfl e_16_c_1 rfl ha5 g2
  · obtain ⟨m24, u25, ⟨r26, k27⟩, O28⟩ := O.frz 3 rfl
    replace r26 : Rd 3 T_ward_Child.E m24 A_10_3_0 a_10_3 := r26
    obtain ⟨m29, u30, ⟨r31, k32⟩, O33⟩ := O28.frz 7 rfl
    replace r31 : Rd 1 (eInt .i64) m29 A_12_0_0 a_12_0 := r31
    have O34 := O33.nm
    exact roadref3_Fallen.l3.walk (O34.pick [0, 1, 2, 4, 6, 8, 10]).nm (T_ward_Ward.T.mono _ _ _ _ (u25.trans u30) e_8) (T_ward_Plan.T.mono _ _ _ _ (u25.trans u30) e_9) rfl k27 (r26.sub T_ward_Child.T u30) rfl rfl k32 r31 rfl rfl e
set_option maxRecDepth 100000 in
theorem roadref3_Fallen.l2_k.step_j5 (go : (p : roadref3_Fallen.l2_k.Pt) → Option (T_ward_Ward × T_ward_Plan)) (ih : ∀ p r, go p = some r → roadref3_Fallen.l2_k.I p r) (x_3 : Int) (y_8 : T_ward_Ward) (y_9 : T_ward_Plan) (x_10_0 : Int) (x_10_1 : Int) (x_10_2 : Int) (a_10_3 : (List T_ward_Child)) (a_10_4 : (List Int)) (y_11 : Int) (a_12_0 : (List Int)) (a_12_1 : (List Int)) (b_12_2 : Bool) (y_16_c_1 : T_ward_Ward) (a_17 : List Int) (x_18 : Int) (b_20 : Bool) (b_124 : Bool) (x_19 : Int) (y_19 : T_ward_Child) (r : T_ward_Ward × T_ward_Plan) (e : roadref3_Fallen.l2_k.body go (.j5 x_3 y_8 y_9 x_10_0 x_10_1 x_10_2 a_10_3 a_10_4 y_11 a_12_0 a_12_1 b_12_2 y_16_c_1 a_17 x_18 b_20 b_124 x_19 y_19) = some r) : roadref3_Fallen.l2_k.I (.j5 x_3 y_8 y_9 x_10_0 x_10_1 x_10_2 a_10_3 a_10_4 y_11 a_12_0 a_12_1 b_12_2 y_16_c_1 a_17 x_18 b_20 b_124 x_19 y_19) r := by
  unfold roadref3_Fallen.l2_k.body at e
  intro W h0 m0 h m bk_8 cs_8 bk_9 cs_9 bk_10 A_10_3_0 n_10_3_0 c_10_3_0 A_10_4_0 n_10_4_0 c_10_4_0 bk_11 cs_11 bk_12 A_12_0_0 n_12_0_0 c_12_0_0 A_12_1_0 n_12_1_0 c_12_1_0 bk_16_c_1 cs_16_c_1 A_17 n_17 c_17 aa_19 O e_8 e_9 ne_10_3_0 ne_10_4_0 e_11 ne_12_0_0 ne_12_1_0 e_16_c_1 ne_17 ha_19 g_19
  subst ne_10_3_0
  subst ne_10_4_0
  obtain rfl : cs_11 = [(Value.int .i64 y_11)] := e_11
  subst ne_12_0_0
  subst ne_12_1_0
  subst ne_17
  refine f56.j5_in ?_
  unfold f56.j5T
  refine split_any_e e (fun c31 e => ?_) (fun c31 e => ?_)
  · refine ⟨_, ld0 (Sub.refl _) (O.all 6 rfl) rfl, _, _, _, rfl, ?_⟩
    obtain ⟨a1, cs2, ha5, hc3, he4⟩ := (O.os 3 rfl).cellsAt g_19
    cases ha_19.symm.trans ha5
    refine ⟨_, ld0 (Sub.refl _) hc3 (T_ward_Child.g0 he4), _, rfl, ?_⟩
    refine O.new fun h6 x7 O8 => ?_
    refine ⟨x7, ?_⟩
    obtain ⟨l10, g11, e⟩ := bind_e e
    have O18 := O8.rowE (l := ([y_19.Id] : List Int)) 11 rfl (tell_int .i64) (show CsE _ _ _ _ _ from (CsE.cons (c1 := [(Value.int .i64 y_19.Id)]) rfl rfl CsE.nil)) rfl
    refine O18.app 7 rfl rfl rfl ((O18.os 11 rfl).srcE rfl) (by decide) g11 fun A12 c13 h14 O15 => ?_
    refine ⟨_, _, _, rfl, ?_⟩
    refine O15.st0 6 rfl (Nat.le_of_ble_eq_true rfl) trivial fun h19 O20 => ?_
    obtain ⟨l28, g29, e⟩ := bind_e e
    obtain ⟨a21, cs22, ha25, hc23, he24⟩ := (O20.os 3 rfl).cellsAt g_19
    cases ha_19.symm.trans ha25
    replace g29 := Option.some.inj g29
    refine O20.elst 3 rfl g_19 ha_19 hc23 2 (by decide) (y' := ({ y_19 with Lives := false })) (T_ward_Child.s2 he24 false) trivial g29 fun h26 O27 => ?_
    have O30 := O27.nm
    exact (ih _ _ e) _ _ _ _ _ _ _ _ _ _ _ _ _ _ _ _ _ _ _ _ _ _ _ _ _ _ _ _ _ _ _ (O30.pick [0, 1, 2, 3, 4, 5, 6, 7, 8, 9, 10]).nm e_8 e_9 (lset' g29) rfl rfl rfl rfl e_16_c_1 rfl ha_19 (gi_put g_19 g29)
  · exact (ih _ _ e) _ _ _ _ _ _ _ _ _ _ _ _ _ _ _ _ _ _ _ _ _ _ _ _ _ _ _ _ _ _ _ (O.pick [0, 1, 2, 3, 4, 5, 6, 7, 8, 9, 10]).nm e_8 e_9 rfl rfl rfl rfl rfl e_16_c_1 rfl ha_19 g_19
set_option maxRecDepth 100000 in
theorem roadref3_Fallen.l2_k.step_j4 (go : (p : roadref3_Fallen.l2_k.Pt) → Option (T_ward_Ward × T_ward_Plan)) (ih : ∀ p r, go p = some r → roadref3_Fallen.l2_k.I p r) (x_3 : Int) (y_8 : T_ward_Ward) (y_9 : T_ward_Plan) (x_10_0 : Int) (x_10_1 : Int) (x_10_2 : Int) (a_10_3 : (List T_ward_Child)) (a_10_4 : (List Int)) (y_11 : Int) (a_12_0 : (List Int)) (a_12_1 : (List Int)) (b_12_2 : Bool) (y_16_c_1 : T_ward_Ward) (a_17 : List Int) (x_18 : Int) (b_20 : Bool) (x_19 : Int) (y_19 : T_ward_Child) (r : T_ward_Ward × T_ward_Plan) (e : roadref3_Fallen.l2_k.body go (.j4 x_3 y_8 y_9 x_10_0 x_10_1 x_10_2 a_10_3 a_10_4 y_11 a_12_0 a_12_1 b_12_2 y_16_c_1 a_17 x_18 b_20 x_19 y_19) = some r) : roadref3_Fallen.l2_k.I (.j4 x_3 y_8 y_9 x_10_0 x_10_1 x_10_2 a_10_3 a_10_4 y_11 a_12_0 a_12_1 b_12_2 y_16_c_1 a_17 x_18 b_20 x_19 y_19) r := by
  unfold roadref3_Fallen.l2_k.body at e
  intro W h0 m0 h m bk_8 cs_8 bk_9 cs_9 bk_10 A_10_3_0 n_10_3_0 c_10_3_0 A_10_4_0 n_10_4_0 c_10_4_0 bk_11 cs_11 bk_12 A_12_0_0 n_12_0_0 c_12_0_0 A_12_1_0 n_12_1_0 c_12_1_0 bk_16_c_1 cs_16_c_1 A_17 n_17 c_17 aa_19 O e_8 e_9 ne_10_3_0 ne_10_4_0 e_11 ne_12_0_0 ne_12_1_0 e_16_c_1 ne_17 ha_19 g_19
  subst ne_10_3_0
  subst ne_10_4_0
  obtain rfl : cs_11 = [(Value.int .i64 y_11)] := e_11
  subst ne_12_0_0
  subst ne_12_1_0
  subst ne_17
  refine f56.j4_in ?_
  unfold f56.j4T
  refine ⟨_, ldk (k := 2) (Sub.refl _) (O.all 6 rfl) rfl, _, rfl, ?_⟩
  refine split_not ?_
  refine split_any_e e (fun c17 e => ?_) (fun c17 e => ?_)
  · exact (ih _ _ e) _ _ _ _ _ _ _ _ _ _ _ _ _ _ _ _ _ _ _ _ _ _ _ _ _ _ _ _ _ _ _ (O.pick [0, 1, 2, 3, 4, 5, 6, 7, 8, 9, 10]).nm e_8 e_9 rfl rfl rfl rfl rfl e_16_c_1 rfl ha_19 g_19
  · obtain ⟨y1, g2, e⟩ := bind_e e
    obtain ⟨m7, u8, s13, ⟨hb11, hb12, _⟩, B9, C10⟩ := O.lend0 [5, 9]
    refine (roadref3_Fallen_1.walk (Hold.start (W := No) s13) ⟨_, _, hb11, nn, rfl⟩ ⟨_, _, hb12, nn_len (T_ward_Ward.T.len _ _ _ e_16_c_1), (T_ward_Ward.T.mono _ _ _ _ u8 e_16_c_1)⟩ g2).mono ?_
    rintro _ h3 ⟨m4, Q5, rfl⟩
    have O14 := Hold.nm (C10 Q5 vfs_nil)
    refine ⟨_, rfl, ?_⟩
    refine split_any_e e (fun c16 e => ?_) (fun c16 e => ?_)
    · refine split_any_e e (fun c15 e => ?_) (fun c15 e => ?_)
      · exact (ih _ _ e) _ _ _ _ _ _ _ _ _ _ _ _ _ _ _ _ _ _ _ _ _ _ _ _ _ _ _ _ _ _ _ (O14.pick [0, 1, 2, 3, 4, 5, 6, 7, 8, 9, 10]).nm e_8 e_9 rfl rfl rfl rfl rfl e_16_c_1 rfl ha_19 g_19
      · refine ⟨_, ld0 (Sub.refl _) (O14.all 5 rfl) rfl, _, rfl, ?_⟩
        exact (ih _ _ e) _ _ _ _ _ _ _ _ _ _ _ _ _ _ _ _ _ _ _ _ _ _ _ _ _ _ _ _ _ _ _ (O14.pick [0, 1, 2, 3, 4, 5, 6, 7, 8, 9, 10]).nm e_8 e_9 rfl rfl rfl rfl rfl e_16_c_1 rfl ha_19 g_19
    · exact (ih _ _ e) _ _ _ _ _ _ _ _ _ _ _ _ _ _ _ _ _ _ _ _ _ _ _ _ _ _ _ _ _ _ _ (O14.pick [0, 1, 2, 3, 4, 5, 6, 7, 8, 9, 10]).nm e_8 e_9 rfl rfl rfl rfl rfl e_16_c_1 rfl ha_19 g_19
set_option maxRecDepth 100000 in
theorem roadref3_Fallen.l2_k.step_j6 (go : (p : roadref3_Fallen.l2_k.Pt) → Option (T_ward_Ward × T_ward_Plan)) (ih : ∀ p r, go p = some r → roadref3_Fallen.l2_k.I p r) (x_3 : Int) (y_8 : T_ward_Ward) (y_9 : T_ward_Plan) (x_10_0 : Int) (x_10_1 : Int) (x_10_2 : Int) (a_10_3 : (List T_ward_Child)) (a_10_4 : (List Int)) (y_11 : Int) (a_12_0 : (List Int)) (a_12_1 : (List Int)) (b_12_2 : Bool) (y_16_c_1 : T_ward_Ward) (a_17 : List Int) (x_18 : Int) (b_152 : Bool) (x_19 : Int) (y_19 : T_ward_Child) (r : T_ward_Ward × T_ward_Plan) (e : roadref3_Fallen.l2_k.body go (.j6 x_3 y_8 y_9 x_10_0 x_10_1 x_10_2 a_10_3 a_10_4 y_11 a_12_0 a_12_1 b_12_2 y_16_c_1 a_17 x_18 b_152 x_19 y_19) = some r) : roadref3_Fallen.l2_k.I (.j6 x_3 y_8 y_9 x_10_0 x_10_1 x_10_2 a_10_3 a_10_4 y_11 a_12_0 a_12_1 b_12_2 y_16_c_1 a_17 x_18 b_152 x_19 y_19) r := by
  unfold roadref3_Fallen.l2_k.body at e
  intro W h0 m0 h m bk_8 cs_8 bk_9 cs_9 bk_10 A_10_3_0 n_10_3_0 c_10_3_0 A_10_4_0 n_10_4_0 c_10_4_0 bk_11 cs_11 bk_12 A_12_0_0 n_12_0_0 c_12_0_0 A_12_1_0 n_12_1_0 c_12_1_0 bk_16_c_1 cs_16_c_1 A_17 n_17 c_17 aa_19 O e_8 e_9 ne_10_3_0 ne_10_4_0 e_11 ne_12_0_0 ne_12_1_0 e_16_c_1 ne_17 ha_19 g_19
  subst ne_10_3_0
  subst ne_10_4_0
  obtain rfl : cs_11 = [(Value.int .i64 y_11)] := e_11
  subst ne_12_0_0
  subst ne_12_1_0
  subst ne_17
  refine f56.j6_in ?_
  unfold f56.j6T
  refine split_any_e e (fun c29 e => ?_) (fun c29 e => ?_)
  · obtain ⟨a1, cs2, ha5, hc3, he4⟩ := (O.os 3 rfl).cellsAt g_19
    cases ha_19.symm.trans ha5
    refine ⟨_, ld0 (Sub.refl _) hc3 (T_ward_Child.g0 he4), _, rfl, ?_⟩
    refine O.new fun h6 x7 O8 => ?_
    obtain ⟨l10, g11, e⟩ := bind_e e
    have O18 := O8.rowE (l := ([y_19.Id] : List Int)) 11 rfl (tell_int .i64) (show CsE _ _ _ _ _ from (CsE.cons (c1 := [(Value.int .i64 y_19.Id)]) rfl rfl CsE.nil)) rfl
    refine O18.app 10 rfl rfl rfl ((O18.os 11 rfl).srcE rfl) (by decide) g11 fun A12 c13 h14 O15 => ?_
    refine ⟨_, _, _, rfl, ?_⟩
    obtain ⟨l26, g27, e⟩ := bind_e e
    obtain ⟨a19, cs20, ha23, hc21, he22⟩ := (O15.os 3 rfl).cellsAt g_19
    cases ha_19.symm.trans ha23
    replace g27 := Option.some.inj g27
    refine O15.elst 3 rfl g_19 ha_19 hc21 2 (by decide) (y' := ({ y_19 with Lives := true })) (T_ward_Child.s2 he22 true) trivial g27 fun h24 O25 => ?_
    have O28 := O25.nm
    exact (ih _ _ e) _ _ _ _ _ _ _ _ _ _ _ _ _ _ _ _ _ _ _ _ _ _ _ _ _ _ _ _ _ _ (O28.pick [0, 1, 2, 3, 4, 5, 6, 7, 8, 9, 10]).nm e_8 e_9 (lset' g27) rfl rfl rfl rfl e_16_c_1 rfl
  · exact (ih _ _ e) _ _ _ _ _ _ _ _ _ _ _ _ _ _ _ _ _ _ _ _ _ _ _ _ _ _ _ _ _ _ (O.pick [0, 1, 2, 3, 4, 5, 6, 7, 8, 9, 10]).nm e_8 e_9 rfl rfl rfl rfl rfl e_16_c_1 rfl
set_option maxRecDepth 100000 in
theorem roadref3_Fallen.l2_k.step_j3 (go : (p : roadref3_Fallen.l2_k.Pt) → Option (T_ward_Ward × T_ward_Plan)) (ih : ∀ p r, go p = some r → roadref3_Fallen.l2_k.I p r) (x_3 : Int) (y_8 : T_ward_Ward) (y_9 : T_ward_Plan) (x_10_0 : Int) (x_10_1 : Int) (x_10_2 : Int) (a_10_3 : (List T_ward_Child)) (a_10_4 : (List Int)) (y_11 : Int) (a_12_0 : (List Int)) (a_12_1 : (List Int)) (b_12_2 : Bool) (y_16_c_1 : T_ward_Ward) (a_17 : List Int) (x_18 : Int) (r : T_ward_Ward × T_ward_Plan) (e : roadref3_Fallen.l2_k.body go (.j3 x_3 y_8 y_9 x_10_0 x_10_1 x_10_2 a_10_3 a_10_4 y_11 a_12_0 a_12_1 b_12_2 y_16_c_1 a_17 x_18) = some r) : roadref3_Fallen.l2_k.I (.j3 x_3 y_8 y_9 x_10_0 x_10_1 x_10_2 a_10_3 a_10_4 y_11 a_12_0 a_12_1 b_12_2 y_16_c_1 a_17 x_18) r := by
  unfold roadref3_Fallen.l2_k.body at e
  intro W h0 m0 h m bk_8 cs_8 bk_9 cs_9 bk_10 A_10_3_0 n_10_3_0 c_10_3_0 A_10_4_0 n_10_4_0 c_10_4_0 bk_11 cs_11 bk_12 A_12_0_0 n_12_0_0 c_12_0_0 A_12_1_0 n_12_1_0 c_12_1_0 bk_16_c_1 cs_16_c_1 A_17 n_17 c_17 O e_8 e_9 ne_10_3_0 ne_10_4_0 e_11 ne_12_0_0 ne_12_1_0 e_16_c_1 ne_17
  subst ne_10_3_0
  subst ne_10_4_0
  obtain rfl : cs_11 = [(Value.int .i64 y_11)] := e_11
  subst ne_12_0_0
  subst ne_12_1_0
  subst ne_17
  refine f56.j3_in ?_
  unfold f56.j3T
  exact (ih _ _ e) _ _ _ _ _ _ _ _ _ _ _ _ _ _ _ _ _ _ _ _ _ _ _ _ _ _ _ _ _ _ (O.pick [0, 1, 2, 3, 4, 5, 6, 7, 8, 9, 10]).nm e_8 e_9 rfl rfl rfl rfl rfl e_16_c_1 rfl
theorem roadref3_Fallen.l2_k.all {p : roadref3_Fallen.l2_k.Pt} {r : (T_ward_Ward × T_ward_Plan)} (e : roadref3_Fallen.l2_k.go p = some r) : roadref3_Fallen.l2_k.I p r := fixF_ind (β := fun _ => (T_ward_Ward × T_ward_Plan)) roadref3_Fallen.l2_k.mono (I := roadref3_Fallen.l2_k.I) (fun go ih p r e => match p with
  | .l2 x_3 y_8 y_9 x_10_0 x_10_1 x_10_2 a_10_3 a_10_4 y_11 a_12_0 a_12_1 b_12_2 y_16_c_1 a_17 x_18 => roadref3_Fallen.l2_k.step_l2 go ih x_3 y_8 y_9 x_10_0 x_10_1 x_10_2 a_10_3 a_10_4 y_11 a_12_0 a_12_1 b_12_2 y_16_c_1 a_17 x_18 r e
  | .j5 x_3 y_8 y_9 x_10_0 x_10_1 x_10_2 a_10_3 a_10_4 y_11 a_12_0 a_12_1 b_12_2 y_16_c_1 a_17 x_18 b_20 b_124 x_19 y_19 => roadref3_Fallen.l2_k.step_j5 go ih x_3 y_8 y_9 x_10_0 x_10_1 x_10_2 a_10_3 a_10_4 y_11 a_12_0 a_12_1 b_12_2 y_16_c_1 a_17 x_18 b_20 b_124 x_19 y_19 r e
  | .j4 x_3 y_8 y_9 x_10_0 x_10_1 x_10_2 a_10_3 a_10_4 y_11 a_12_0 a_12_1 b_12_2 y_16_c_1 a_17 x_18 b_20 x_19 y_19 => roadref3_Fallen.l2_k.step_j4 go ih x_3 y_8 y_9 x_10_0 x_10_1 x_10_2 a_10_3 a_10_4 y_11 a_12_0 a_12_1 b_12_2 y_16_c_1 a_17 x_18 b_20 x_19 y_19 r e
  | .j6 x_3 y_8 y_9 x_10_0 x_10_1 x_10_2 a_10_3 a_10_4 y_11 a_12_0 a_12_1 b_12_2 y_16_c_1 a_17 x_18 b_152 x_19 y_19 => roadref3_Fallen.l2_k.step_j6 go ih x_3 y_8 y_9 x_10_0 x_10_1 x_10_2 a_10_3 a_10_4 y_11 a_12_0 a_12_1 b_12_2 y_16_c_1 a_17 x_18 b_152 x_19 y_19 r e
  | .j3 x_3 y_8 y_9 x_10_0 x_10_1 x_10_2 a_10_3 a_10_4 y_11 a_12_0 a_12_1 b_12_2 y_16_c_1 a_17 x_18 => roadref3_Fallen.l2_k.step_j3 go ih x_3 y_8 y_9 x_10_0 x_10_1 x_10_2 a_10_3 a_10_4 y_11 a_12_0 a_12_1 b_12_2 y_16_c_1 a_17 x_18 r e
  ) e
theorem roadref3_Fallen.l2.walk {W : Nat → Prop} {h0 m0 h m : Heap} {bk_8 : Nat} {cs_8 : List Value} {bk_9 : Nat} {cs_9 : List Value} {bk_10 : Nat} {A_10_3_0 : Option Addr} {n_10_3_0 : Nat} {c_10_3_0 : Nat} {A_10_4_0 : Option Addr} {n_10_4_0 : Nat} {c_10_4_0 : Nat} {bk_11 : Nat} {cs_11 : List Value} {bk_12 : Nat} {A_12_0_0 : Option Addr} {n_12_0_0 : Nat} {c_12_0_0 : Nat} {A_12_1_0 : Option Addr} {n_12_1_0 : Nat} {c_12_1_0 : Nat} {bk_16_c_1 : Nat} {cs_16_c_1 : List Value} {A_17 : Option Addr} {n_17 c_17 : Nat} {x_3 : Int} {y_8 : T_ward_Ward} {y_9 : T_ward_Plan} {x_10_0 : Int} {x_10_1 : Int} {x_10_2 : Int} {a_10_3 : (List T_ward_Child)} {a_10_4 : (List Int)} {y_11 : Int} {a_12_0 : (List Int)} {a_12_1 : (List Int)} {b_12_2 : Bool} {y_16_c_1 : T_ward_Ward} {a_17 : List Int} {x_18 : Int} (O : Hold W h0 m0 h m [rV bk_8 25 cs_8, rV bk_9 31 cs_9, rV bk_10 25 [(Value.int .i64 x_10_0), (Value.int .i64 x_10_1), (Value.int .i64 x_10_2), (Value.slice A_10_3_0 n_10_3_0 c_10_3_0), (Value.slice A_10_4_0 n_10_4_0 c_10_4_0)], rR (aE T_ward_Child.T) A_10_3_0 c_10_3_0 a_10_3, rR (aE (tell_int .i64)) A_10_4_0 c_10_4_0 a_10_4, rV bk_11 3 cs_11, rV bk_12 31 [(Value.slice A_12_0_0 n_12_0_0 c_12_0_0), (Value.slice A_12_1_0 n_12_1_0 c_12_1_0), (Value.bool b_12_2)], rR (aE (tell_int .i64)) A_12_0_0 c_12_0_0 a_12_0, rR (aE (tell_int .i64)) A_12_1_0 c_12_1_0 a_12_1, rV bk_16_c_1 25 cs_16_c_1, rR (aE (tell_int .i64)) A_17 c_17 a_17]) (e_8 : T_ward_Ward.E m y_8 cs_8) (e_9 : T_ward_Plan.E m y_9 cs_9) (ne_10_3_0 : n_10_3_0 = List.length a_10_3) (ne_10_4_0 : n_10_4_0 = List.length a_10_4) (e_11 : (eInt .i64) m y_11 cs_11) (ne_12_0_0 : n_12_0_0 = List.length a_12_0) (ne_12_1_0 : n_12_1_0 = List.length a_12_1) (e_16_c_1 : T_ward_Ward.E m y_16_c_1 cs_16_c_1) (ne_17 : n_17 = List.length a_17) {r : T_ward_Ward × T_ward_Plan} (e : roadref3_Fallen.l2 x_3 y_8 y_9 x_10_0 x_10_1 x_10_2 a_10_3 a_10_4 y_11 a_12_0 a_12_1 b_12_2 y_16_c_1 a_17 x_18 = some r) : f56.l2 (roadref3_Fallen.post W h0 m0 r) x_3 (⟨bk_8, 0, none⟩ : Addr) (⟨bk_9, 0, none⟩ : Addr) (⟨bk_10, 0, none⟩ : Addr) (⟨bk_11, 0, none⟩ : Addr) (⟨bk_12, 0, none⟩ : Addr) (⟨bk_11, 0, none⟩ : Addr) (⟨bk_16_c_1, 0, none⟩ : Addr) A_17 n_17 c_17 x_18 h := roadref3_Fallen.l2_k.all (p := .l2 x_3 y_8 y_9 x_10_0 x_10_1 x_10_2 a_10_3 a_10_4 y_11 a_12_0 a_12_1 b_12_2 y_16_c_1 a_17 x_18) e W h0 m0 h m bk_8 cs_8 bk_9 cs_9 bk_10 A_10_3_0 n_10_3_0 c_10_3_0 A_10_4_0 n_10_4_0 c_10_4_0 bk_11 cs_11 bk_12 A_12_0_0 n_12_0_0 c_12_0_0 A_12_1_0 n_12_1_0 c_12_1_0 bk_16_c_1 cs_16_c_1 A_17 n_17 c_17 O e_8 e_9 ne_10_3_0 ne_10_4_0 e_11 ne_12_0_0 ne_12_1_0 e_16_c_1 ne_17
inductive roadref3_Fallen.l1_k.Pt where
  | l1 (x_3 : Int) (y_4 : T_ward_Ward) (y_8 : T_ward_Ward) (y_9 : T_ward_Plan) (x_10_0 : Int) (x_10_1 : Int) (x_10_2 : Int) (a_10_3 : (List T_ward_Child)) (a_10_4 : (List Int)) (y_11 : Int) (a_12_0 : (List Int)) (a_12_1 : (List Int)) (b_12_2 : Bool) (a_72 : List Int) (x_73 : Int) (x_74 : Int)
noncomputable def roadref3_Fallen.l1_k.body (go : (p : roadref3_Fallen.l1_k.Pt) → Option (T_ward_Ward × T_ward_Plan)) : (p : roadref3_Fallen.l1_k.Pt) → Option (T_ward_Ward × T_ward_Plan)
  | .l1 x_3 y_4 y_8 y_9 x_10_0 x_10_1 x_10_2 a_10_3 a_10_4 y_11 a_12_0 a_12_1 b_12_2 a_72 x_73 x_74 => if x_74 < x_73 then (Option.bind (gi a_72 x_74) fun y1 => if (IntKind.wrap .i64 (x_3 - y1)) < y_4.Window then (Option.bind (ap 8 a_10_4 ([y1] : List Int)) fun l12 => (go (.l1 x_3 y_4 y_8 y_9 x_10_0 x_10_1 x_10_2 a_10_3 l12 y_11 a_12_0 a_12_1 b_12_2 a_72 x_73 (IntKind.wrap .i64 (x_74 + (1 : Int)))))) else ((go (.l1 x_3 y_4 y_8 y_9 x_10_0 x_10_1 x_10_2 a_10_3 a_10_4 y_11 a_12_0 a_12_1 b_12_2 a_72 x_73 (IntKind.wrap .i64 (x_74 + (1 : Int))))))) else ((roadref3_Fallen.l2 x_3 y_8 y_9 x_10_0 x_10_1 x_10_2 a_10_3 a_10_4 y_11 a_12_0 a_12_1 (decide ((((List.length a_10_4) : Nat) : Int) ≥ y_4.Most)) y_4 ([] : List Int) (IntKind.wrap .i64 ((((List.length a_10_3) : Nat) : Int) - (1 : Int)))))
theorem roadref3_Fallen.l1_k.mono : MonoF (β := fun _ => (T_ward_Ward × T_ward_Plan)) roadref3_Fallen.l1_k.body := fun f g hfg p => match p with
  | .l1 x_3 y_4 y_8 y_9 x_10_0 x_10_1 x_10_2 a_10_3 a_10_4 y_11 a_12_0 a_12_1 b_12_2 a_72 x_73 x_74 => LeO.ite (LeO.bind (LeO.refl _) fun y1 => LeO.ite (LeO.bind (LeO.refl _) fun l12 => (hfg _)) ((hfg _))) ((LeO.refl _))
noncomputable def roadref3_Fallen.l1_k.go (p : roadref3_Fallen.l1_k.Pt) : Option (T_ward_Ward × T_ward_Plan) := fixF (β := fun _ => (T_ward_Ward × T_ward_Plan)) roadref3_Fallen.l1_k.body p
noncomputable def roadref3_Fallen.l1 (x_3 : Int) (y_4 : T_ward_Ward) (y_8 : T_ward_Ward) (y_9 : T_ward_Plan) (x_10_0 : Int) (x_10_1 : Int) (x_10_2 : Int) (a_10_3 : (List T_ward_Child)) (a_10_4 : (List Int)) (y_11 : Int) (a_12_0 : (List Int)) (a_12_1 : (List Int)) (b_12_2 : Bool) (a_72 : List Int) (x_73 : Int) (x_74 : Int) : Option (T_ward_Ward × T_ward_Plan) := roadref3_Fallen.l1_k.go (.l1 x_3 y_4 y_8 y_9 x_10_0 x_10_1 x_10_2 a_10_3 a_10_4 y_11 a_12_0 a_12_1 b_12_2 a_72 x_73 x_74)
theorem roadref3_Fallen.l1_eq (x_3 : Int) (y_4 : T_ward_Ward) (y_8 : T_ward_Ward) (y_9 : T_ward_Plan) (x_10_0 : Int) (x_10_1 : Int) (x_10_2 : Int) (a_10_3 : (List T_ward_Child)) (a_10_4 : (List Int)) (y_11 : Int) (a_12_0 : (List Int)) (a_12_1 : (List Int)) (b_12_2 : Bool) (a_72 : List Int) (x_73 : Int) (x_74 : Int) : roadref3_Fallen.l1 x_3 y_4 y_8 y_9 x_10_0 x_10_1 x_10_2 a_10_3 a_10_4 y_11 a_12_0 a_12_1 b_12_2 a_72 x_73 x_74 = if x_74 < x_73 then (Option.bind (gi a_72 x_74) fun y1 => if (IntKind.wrap .i64 (x_3 - y1)) < y_4.Window then (Option.bind (ap 8 a_10_4 ([y1] : List Int)) fun l12 => (roadref3_Fallen.l1 x_3 y_4 y_8 y_9 x_10_0 x_10_1 x_10_2 a_10_3 l12 y_11 a_12_0 a_12_1 b_12_2 a_72 x_73 (IntKind.wrap .i64 (x_74 + (1 : Int))))) else ((roadref3_Fallen.l1 x_3 y_4 y_8 y_9 x_10_0 x_10_1 x_10_2 a_10_3 a_10_4 y_11 a_12_0 a_12_1 b_12_2 a_72 x_73 (IntKind.wrap .i64 (x_74 + (1 : Int)))))) else ((roadref3_Fallen.l2 x_3 y_8 y_9 x_10_0 x_10_1 x_10_2 a_10_3 a_10_4 y_11 a_12_0 a_12_1 (decide ((((List.length a_10_4) : Nat) : Int) ≥ y_4.Most)) y_4 ([] : List Int) (IntKind.wrap .i64 ((((List.length a_10_3) : Nat) : Int) - (1 : Int))))) := fixF_eq roadref3_Fallen.l1_k.mono _
def roadref3_Fallen.l1_k.I : (p : roadref3_Fallen.l1_k.Pt) → (T_ward_Ward × T_ward_Plan) → Prop
  | .l1 x_3 y_4 y_8 y_9 x_10_0 x_10_1 x_10_2 a_10_3 a_10_4 y_11 a_12_0 a_12_1 b_12_2 a_72 x_73 x_74, r => ∀ (W : Nat → Prop) (h0 m0 h m : Heap) (bk_4 : Nat) (cs_4 : List Value) (bk_8 : Nat) (cs_8 : List Value) (bk_9 : Nat) (cs_9 : List Value) (bk_10 : Nat) (A_10_3_0 : Option Addr) (n_10_3_0 : Nat) (c_10_3_0 : Nat) (A_10_4_0 : Option Addr) (n_10_4_0 : Nat) (c_10_4_0 : Nat) (bk_11 : Nat) (cs_11 : List Value) (bk_12 : Nat) (A_12_0_0 : Option Addr) (n_12_0_0 : Nat) (c_12_0_0 : Nat) (A_12_1_0 : Option Addr) (n_12_1_0 : Nat) (c_12_1_0 : Nat) (A_72 : Option Addr) (n_72 c_72 : Nat) (O : Hold W h0 m0 h m [rV bk_4 25 cs_4, rV bk_8 25 cs_8, rV bk_9 31 cs_9, rV bk_10 25 [(Value.int .i64 x_10_0), (Value.int .i64 x_10_1), (Value.int .i64 x_10_2), (Value.slice A_10_3_0 n_10_3_0 c_10_3_0), (Value.slice A_10_4_0 n_10_4_0 c_10_4_0)], rR (aE T_ward_Child.T) A_10_3_0 c_10_3_0 a_10_3, rR (aE (tell_int .i64)) A_10_4_0 c_10_4_0 a_10_4, rV bk_11 3 cs_11, rV bk_12 31 [(Value.slice A_12_0_0 n_12_0_0 c_12_0_0), (Value.slice A_12_1_0 n_12_1_0 c_12_1_0), (Value.bool b_12_2)], rR (aE (tell_int .i64)) A_12_0_0 c_12_0_0 a_12_0, rR (aE (tell_int .i64)) A_12_1_0 c_12_1_0 a_12_1]) (e_4 : T_ward_Ward.E m y_4 cs_4) (e_8 : T_ward_Ward.E m y_8 cs_8) (e_9 : T_ward_Plan.E m y_9 cs_9) (ne_10_3_0 : n_10_3_0 = List.length a_10_3) (ne_10_4_0 : n_10_4_0 = List.length a_10_4) (e_11 : (eInt .i64) m y_11 cs_11) (ne_12_0_0 : n_12_0_0 = List.length a_12_0) (ne_12_1_0 : n_12_1_0 = List.length a_12_1) (ne_72 : n_72 = List.length a_72) (k_72 : List.length a_72 ≤ c_72) (r_72 : Rd 1 (eInt .i64) m A_72 a_72), f56.l1 (roadref3_Fallen.post W h0 m0 r) x_3 (⟨bk_4, 0, none⟩ : Addr) (⟨bk_8, 0, none⟩ : Addr) (⟨bk_9, 0, none⟩ : Addr) (⟨bk_10, 0, none⟩ : Addr) (⟨bk_11, 0, none⟩ : Addr) (⟨bk_12, 0, none⟩ : Addr) A_72 n_72 c_72 x_73 x_74 h
set_option maxRecDepth 100000 in
theorem roadref3_Fallen.l1_k.step_l1 (go : (p : roadref3_Fallen.l1_k.Pt) → Option (T_ward_Ward × T_ward_Plan)) (ih : ∀ p r, go p = some r → roadref3_Fallen.l1_k.I p r) (x_3 : Int) (y_4 : T_ward_Ward) (y_8 : T_ward_Ward) (y_9 : T_ward_Plan) (x_10_0 : Int) (x_10_1 : Int) (x_10_2 : Int) (a_10_3 : (List T_ward_Child)) (a_10_4 : (List Int)) (y_11 : Int) (a_12_0 : (List Int)) (a_12_1 : (List Int)) (b_12_2 : Bool) (a_72 : List Int) (x_73 : Int) (x_74 : Int) (r : T_ward_Ward × T_ward_Plan) (e : roadref3_Fallen.l1_k.body go (.l1 x_3 y_4 y_8 y_9 x_10_0 x_10_1 x_10_2 a_10_3 a_10_4 y_11 a_12_0 a_12_1 b_12_2 a_72 x_73 x_74) = some r) : roadref3_Fallen.l1_k.I (.l1 x_3 y_4 y_8 y_9 x_10_0 x_10_1 x_10_2 a_10_3 a_10_4 y_11 a_12_0 a_12_1 b_12_2 a_72 x_73 x_74) r := by
  unfold roadref3_Fallen.l1_k.body at e
  intro W h0 m0 h m bk_4 cs_4 bk_8 cs_8 bk_9 cs_9 bk_10 A_10_3_0 n_10_3_0 c_10_3_0 A_10_4_0 n_10_4_0 c_10_4_0 bk_11 cs_11 bk_12 A_12_0_0 n_12_0_0 c_12_0_0 A_12_1_0 n_12_1_0 c_12_1_0 A_72 n_72 c_72 O e_4 e_8 e_9 ne_10_3_0 ne_10_4_0 e_11 ne_12_0_0 ne_12_1_0 ne_72 k_72 r_72
  subst ne_10_3_0
  subst ne_10_4_0
  obtain rfl : cs_11 = [(Value.int .i64 y_11)] := e_11
  subst ne_12_0_0
  subst ne_12_1_0
  subst ne_72
  refine f56.l1_in ?_
  unfold f56.l1T
  refine split_dec_e e (fun c30 e => ?_) (fun c30 e => ?_)
  · obtain ⟨y1, g2, e⟩ := bind_e e
    refine r_72.addr rfl g2 fun a3 cs4 ha5 hc6 he7 => ?_
    obtain rfl : cs4 = [(Value.int .i64 y1)] := he7
    refine ⟨_, ld0 O.s hc6 rfl, _, rfl, ?_⟩
    refine ⟨_, ldk (k := 2) (Sub.refl _) (O.all 0 rfl) (T_ward_Ward.g2 e_4), _, rfl, ?_⟩
    refine split_dec_e e (fun c24 e => ?_) (fun c24 e => ?_)
    · refine ⟨_, ldk (k := 4) (Sub.refl _) (O.all 3 rfl) rfl, _, _, _, rfl, ?_⟩
      refine O.new fun h8 x9 O10 => ?_
      obtain ⟨l12, g13, e⟩ := bind_e e
      have O20 := O10.rowE (l := ([y1] : List Int)) 10 rfl (tell_int .i64) (show CsE _ _ _ _ _ from (CsE.cons (c1 := [(Value.int .i64 y1)]) rfl rfl CsE.nil)) rfl
      refine O20.app 5 rfl rfl rfl ((O20.os 10 rfl).srcE rfl) (by decide) g13 fun A14 c15 h16 O17 => ?_
      refine ⟨_, _, _, rfl, ?_⟩
      refine O17.st 3 rfl 4 (Nat.le_of_ble_eq_true rfl) trivial fun h21 O22 => ?_
      have O23 := O22.nm
      exact (ih _ _ e) _ _ _ _ _ _ _ _ _ _ _ _ _ _ _ _ _ _ _ _ _ _ _ _ _ _ _ _ _ _ (O23.pick [0, 1, 2, 3, 4, 5, 6, 7, 8, 9]).nm e_4 e_8 e_9 rfl rfl rfl rfl rfl rfl k_72 r_72
    · exact (ih _ _ e) _ _ _ _ _ _ _ _ _ _ _ _ _ _ _ _ _ _ _ _ _ _ _ _ _ _ _ _ _ _ (O.pick [0, 1, 2, 3, 4, 5, 6, 7, 8, 9]).nm e_4 e_8 e_9 rfl rfl rfl rfl rfl rfl k_72 r_72
  · refine ⟨_, ldk (k := 4) (Sub.refl _) (O.all 3 rfl) rfl, _, _, _, rfl, ?_⟩
    refine ⟨_, ldk (k := 1) (Sub.refl _) (O.all 0 rfl) (T_ward_Ward.g1 e_4), _, rfl, ?_⟩
    refine O.st 7 rfl 2 (Nat.le_of_ble_eq_true rfl) trivial fun h25 O26 => ?_
    refine ⟨_, ldk (k := 3) (Sub.refl _) (O26.all 3 rfl) rfl, _, _, _, rfl, ?_⟩
    have O27 := O26.nil (aE (tell_int .i64)) none
    have O29 := O27.nm
    exact roadref3_Fallen.l2.walk (O29.pick [1, 2, 3, 4, 5, 6, 7, 8, 9, 0, 10]).nm e_8 e_9 rfl rfl rfl rfl rfl e_4 rfl e
theorem roadref3_Fallen.l1_k.all {p : roadref3_Fallen.l1_k.Pt} {r : (T_ward_Ward × T_ward_Plan)} (e : roadref3_Fallen.l1_k.go p = some r) : roadref3_Fallen.l1_k.I p r := fixF_ind (β := fun _ => (T_ward_Ward × T_ward_Plan)) roadref3_Fallen.l1_k.mono (I := roadref3_Fallen.l1_k.I) (fun go ih p r e => match p with
  | .l1 x_3 y_4 y_8 y_9 x_10_0 x_10_1 x_10_2 a_10_3 a_10_4 y_11 a_12_0 a_12_1 b_12_2 a_72 x_73 x_74 => roadref3_Fallen.l1_k.step_l1 go ih x_3 y_4 y_8 y_9 x_10_0 x_10_1 x_10_2 a_10_3 a_10_4 y_11 a_12_0 a_12_1 b_12_2 a_72 x_73 x_74 r e
  ) e
theorem roadref3_Fallen.l1.walk {W : Nat → Prop} {h0 m0 h m : Heap} {bk_4 : Nat} {cs_4 : List Value} {bk_8 : Nat} {cs_8 : List Value} {bk_9 : Nat} {cs_9 : List Value} {bk_10 : Nat} {A_10_3_0 : Option Addr} {n_10_3_0 : Nat} {c_10_3_0 : Nat} {A_10_4_0 : Option Addr} {n_10_4_0 : Nat} {c_10_4_0 : Nat} {bk_11 : Nat} {cs_11 : List Value} {bk_12 : Nat} {A_12_0_0 : Option Addr} {n_12_0_0 : Nat} {c_12_0_0 : Nat} {A_12_1_0 : Option Addr} {n_12_1_0 : Nat} {c_12_1_0 : Nat} {A_72 : Option Addr} {n_72 c_72 : Nat} {x_3 : Int} {y_4 : T_ward_Ward} {y_8 : T_ward_Ward} {y_9 : T_ward_Plan} {x_10_0 : Int} {x_10_1 : Int} {x_10_2 : Int} {a_10_3 : (List T_ward_Child)} {a_10_4 : (List Int)} {y_11 : Int} {a_12_0 : (List Int)} {a_12_1 : (List Int)} {b_12_2 : Bool} {a_72 : List Int} {x_73 : Int} {x_74 : Int} (O : Hold W h0 m0 h m [rV bk_4 25 cs_4, rV bk_8 25 cs_8, rV bk_9 31 cs_9, rV bk_10 25 [(Value.int .i64 x_10_0), (Value.int .i64 x_10_1), (Value.int .i64 x_10_2), (Value.slice A_10_3_0 n_10_3_0 c_10_3_0), (Value.slice A_10_4_0 n_10_4_0 c_10_4_0)], rR (aE T_ward_Child.T) A_10_3_0 c_10_3_0 a_10_3, rR (aE (tell_int .i64)) A_10_4_0 c_10_4_0 a_10_4, rV bk_11 3 cs_11, rV bk_12 31 [(Value.slice A_12_0_0 n_12_0_0 c_12_0_0), (Value.slice A_12_1_0 n_12_1_0 c_12_1_0), (Value.bool b_12_2)], rR (aE (tell_int .i64)) A_12_0_0 c_12_0_0 a_12_0, rR (aE (tell_int .i64)) A_12_1_0 c_12_1_0 a_12_1]) (e_4 : T_ward_Ward.E m y_4 cs_4) (e_8 : T_ward_Ward.E m y_8 cs_8) (e_9 : T_ward_Plan.E m y_9 cs_9) (ne_10_3_0 : n_10_3_0 = List.length a_10_3) (ne_10_4_0 : n_10_4_0 = List.length a_10_4) (e_11 : (eInt .i64) m y_11 cs_11) (ne_12_0_0 : n_12_0_0 = List.length a_12_0) (ne_12_1_0 : n_12_1_0 = List.length a_12_1) (ne_72 : n_72 = List.length a_72) (k_72 : List.length a_72 ≤ c_72) (r_72 : Rd 1 (eInt .i64) m A_72 a_72) {r : T_ward_Ward × T_ward_Plan} (e : roadref3_Fallen.l1 x_3 y_4 y_8 y_9 x_10_0 x_10_1 x_10_2 a_10_3 a_10_4 y_11 a_12_0 a_12_1 b_12_2 a_72 x_73 x_74 = some r) : f56.l1 (roadref3_Fallen.post W h0 m0 r) x_3 (⟨bk_4, 0, none⟩ : Addr) (⟨bk_8, 0, none⟩ : Addr) (⟨bk_9, 0, none⟩ : Addr) (⟨bk_10, 0, none⟩ : Addr) (⟨bk_11, 0, none⟩ : Addr) (⟨bk_12, 0, none⟩ : Addr) A_72 n_72 c_72 x_73 x_74 h := roadref3_Fallen.l1_k.all (p := .l1 x_3 y_4 y_8 y_9 x_10_0 x_10_1 x_10_2 a_10_3 a_10_4 y_11 a_12_0 a_12_1 b_12_2 a_72 x_73 x_74) e W h0 m0 h m bk_4 cs_4 bk_8 cs_8 bk_9 cs_9 bk_10 A_10_3_0 n_10_3_0 c_10_3_0 A_10_4_0 n_10_4_0 c_10_4_0 bk_11 cs_11 bk_12 A_12_0_0 n_12_0_0 c_12_0_0 A_12_1_0 n_12_1_0 c_12_1_0 A_72 n_72 c_72 O e_4 e_8 e_9 ne_10_3_0 ne_10_4_0 e_11 ne_12_0_0 ne_12_1_0 ne_72 k_72 r_72
noncomputable def roadref3_Fallen.j0 (x_3 : Int) (y_4 : T_ward_Ward) (y_8 : T_ward_Ward) (y_9 : T_ward_Plan) (x_10_0 : Int) (x_10_1 : Int) (x_10_2 : Int) (a_10_3 : (List T_ward_Child)) (a_10_4 : (List Int)) (y_11 : Int) (a_12_0 : (List Int)) (a_12_1 : (List Int)) (b_12_2 : Bool) : Option (T_ward_Ward × T_ward_Plan) :=
  (roadref3_Fallen.l1 x_3 y_4 y_8 y_9 x_10_0 x_10_1 x_10_2 a_10_3 a_10_4 y_11 a_12_0 a_12_1 b_12_2 y_4.Times (((List.length y_4.Times) : Nat) : Int) (0 : Int))
set_option maxRecDepth 100000 in
theorem roadref3_Fallen.j0.walk {W : Nat → Prop} {h0 m0 h m : Heap} {bk_4 : Nat} {cs_4 : List Value} {bk_8 : Nat} {cs_8 : List Value} {bk_9 : Nat} {cs_9 : List Value} {bk_10 : Nat} {A_10_3_0 : Option Addr} {n_10_3_0 : Nat} {c_10_3_0 : Nat} {A_10_4_0 : Option Addr} {n_10_4_0 : Nat} {c_10_4_0 : Nat} {bk_11 : Nat} {cs_11 : List Value} {bk_12 : Nat} {A_12_0_0 : Option Addr} {n_12_0_0 : Nat} {c_12_0_0 : Nat} {A_12_1_0 : Option Addr} {n_12_1_0 : Nat} {c_12_1_0 : Nat} {x_3 : Int} {y_4 : T_ward_Ward} {y_8 : T_ward_Ward} {y_9 : T_ward_Plan} {x_10_0 : Int} {x_10_1 : Int} {x_10_2 : Int} {a_10_3 : (List T_ward_Child)} {a_10_4 : (List Int)} {y_11 : Int} {a_12_0 : (List Int)} {a_12_1 : (List Int)} {b_12_2 : Bool} (O : Hold W h0 m0 h m [rV bk_4 25 cs_4, rV bk_8 25 cs_8, rV bk_9 31 cs_9, rV bk_10 25 [(Value.int .i64 x_10_0), (Value.int .i64 x_10_1), (Value.int .i64 x_10_2), (Value.slice A_10_3_0 n_10_3_0 c_10_3_0), (Value.slice A_10_4_0 n_10_4_0 c_10_4_0)], rR (aE T_ward_Child.T) A_10_3_0 c_10_3_0 a_10_3, rR (aE (tell_int .i64)) A_10_4_0 c_10_4_0 a_10_4, rV bk_11 3 cs_11, rV bk_12 31 [(Value.slice A_12_0_0 n_12_0_0 c_12_0_0), (Value.slice A_12_1_0 n_12_1_0 c_12_1_0), (Value.bool b_12_2)], rR (aE (tell_int .i64)) A_12_0_0 c_12_0_0 a_12_0, rR (aE (tell_int .i64)) A_12_1_0 c_12_1_0 a_12_1]) (e_4 : T_ward_Ward.E m y_4 cs_4) (e_8 : T_ward_Ward.E m y_8 cs_8) (e_9 : T_ward_Plan.E m y_9 cs_9) (ne_10_3_0 : n_10_3_0 = List.length a_10_3) (ne_10_4_0 : n_10_4_0 = List.length a_10_4) (e_11 : (eInt .i64) m y_11 cs_11) (ne_12_0_0 : n_12_0_0 = List.length a_12_0) (ne_12_1_0 : n_12_1_0 = List.length a_12_1) {r : T_ward_Ward × T_ward_Plan} (e : roadref3_Fallen.j0 x_3 y_4 y_8 y_9 x_10_0 x_10_1 x_10_2 a_10_3 a_10_4 y_11 a_12_0 a_12_1 b_12_2 = some r) : f56.j0 (roadref3_Fallen.post W h0 m0 r) x_3 (⟨bk_4, 0, none⟩ : Addr) (⟨bk_8, 0, none⟩ : Addr) (⟨bk_9, 0, none⟩ : Addr) (⟨bk_10, 0, none⟩ : Addr) (⟨bk_11, 0, none⟩ : Addr) (⟨bk_12, 0, none⟩ : Addr) h := by
  unfold roadref3_Fallen.j0 at e
  subst ne_10_3_0
  subst ne_10_4_0
  obtain rfl : cs_11 = [(Value.int .i64 y_11)] := e_11
  subst ne_12_0_0
  subst ne_12_1_0
  refine f56.j0_in ?_
  unfold f56.j0T
  obtain ⟨A1, c2, q3, k4, r5⟩ := T_ward_Ward.g4 e_4
  refine ⟨_, ldk (k := 4) (Sub.refl _) (O.all 0 rfl) q3, _, _, _, rfl, ?_⟩
  exact roadref3_Fallen.l1.walk (O.pick [0, 1, 2, 3, 4, 5, 6, 7, 8, 9]).nm e_4 e_8 e_9 rfl rfl rfl rfl rfl rfl k4 r5 e
noncomputable def roadref3_Fallen.j1 (x_3 : Int) (y_4 : T_ward_Ward) (y_8 : T_ward_Ward) (y_9 : T_ward_Plan) (x_10_0 : Int) (x_10_1 : Int) (x_10_2 : Int) (a_10_3 : (List T_ward_Child)) (a_10_4 : (List Int)) (y_11 : Int) (a_12_0 : (List Int)) (a_12_1 : (List Int)) (b_12_2 : Bool) (b_62 : Bool) : Option (T_ward_Ward × T_ward_Plan) :=
  if b_62 = true then (Option.bind (ap 8 a_10_4 y_4.Times) fun l6 => some ((T_ward_Ward.mk x_10_0 x_10_1 x_10_2 a_10_3 l6), (T_ward_Plan.mk a_12_0 a_12_1 b_12_2))) else ((roadref3_Fallen.j0 x_3 y_4 y_8 y_9 x_10_0 x_10_1 x_10_2 a_10_3 a_10_4 y_11 a_12_0 a_12_1 b_12_2))
set_option maxHeartbeats 4000000 in
set_option maxRecDepth 100000 in
theorem roadref3_Fallen.j1.walk {W : Nat → Prop} {h0 m0 h m : Heap} {bk_4 : Nat} {cs_4 : List Value} {bk_8 : Nat} {cs_8 : List Value} {bk_9 : Nat} {cs_9 : List Value} {bk_10 : Nat} {A_10_3_0 : Option Addr} {n_10_3_0 : Nat} {c_10_3_0 : Nat} {A_10_4_0 : Option Addr} {n_10_4_0 : Nat} {c_10_4_0 : Nat} {bk_11 : Nat} {cs_11 : List Value} {bk_12 : Nat} {A_12_0_0 : Option Addr} {n_12_0_0 : Nat} {c_12_0_0 : Nat} {A_12_1_0 : Option Addr} {n_12_1_0 : Nat} {c_12_1_0 : Nat} {x_3 : Int} {y_4 : T_ward_Ward} {y_8 : T_ward_Ward} {y_9 : T_ward_Plan} {x_10_0 : Int} {x_10_1 : Int} {x_10_2 : Int} {a_10_3 : (List T_ward_Child)} {a_10_4 : (List Int)} {y_11 : Int} {a_12_0 : (List Int)} {a_12_1 : (List Int)} {b_12_2 : Bool} {b_62 : Bool} (O : Hold W h0 m0 h m [rV bk_4 25 cs_4, rV bk_8 25 cs_8, rV bk_9 31 cs_9, rV bk_10 25 [(Value.int .i64 x_10_0), (Value.int .i64 x_10_1), (Value.int .i64 x_10_2), (Value.slice A_10_3_0 n_10_3_0 c_10_3_0), (Value.slice A_10_4_0 n_10_4_0 c_10_4_0)], rR (aE T_ward_Child.T) A_10_3_0 c_10_3_0 a_10_3, rR (aE (tell_int .i64)) A_10_4_0 c_10_4_0 a_10_4, rV bk_11 3 cs_11, rV bk_12 31 [(Value.slice A_12_0_0 n_12_0_0 c_12_0_0), (Value.slice A_12_1_0 n_12_1_0 c_12_1_0), (Value.bool b_12_2)], rR (aE (tell_int .i64)) A_12_0_0 c_12_0_0 a_12_0, rR (aE (tell_int .i64)) A_12_1_0 c_12_1_0 a_12_1]) (e_4 : T_ward_Ward.E m y_4 cs_4) (e_8 : T_ward_Ward.E m y_8 cs_8) (e_9 : T_ward_Plan.E m y_9 cs_9) (ne_10_3_0 : n_10_3_0 = List.length a_10_3) (ne_10_4_0 : n_10_4_0 = List.length a_10_4) (e_11 : (eInt .i64) m y_11 cs_11) (ne_12_0_0 : n_12_0_0 = List.length a_12_0) (ne_12_1_0 : n_12_1_0 = List.length a_12_1) {r : T_ward_Ward × T_ward_Plan} (e : roadref3_Fallen.j1 x_3 y_4 y_8 y_9 x_10_0 x_10_1 x_10_2 a_10_3 a_10_4 y_11 a_12_0 a_12_1 b_12_2 b_62 = some r) : f56.j1 (roadref3_Fallen.post W h0 m0 r) x_3 (⟨bk_4, 0, none⟩ : Addr) (⟨bk_8, 0, none⟩ : Addr) (⟨bk_9, 0, none⟩ : Addr) (⟨bk_10, 0, none⟩ : Addr) (⟨bk_11, 0, none⟩ : Addr) (⟨bk_12, 0, none⟩ : Addr) b_62 h := by
  unfold roadref3_Fallen.j1 at e
  subst ne_10_3_0
  subst ne_10_4_0
  obtain rfl : cs_11 = [(Value.int .i64 y_11)] := e_11
  subst ne_12_0_0
  subst ne_12_1_0
  refine f56.j1_in ?_
  unfold f56.j1T
  refine split_any_e e (fun c91 e => ?_) (fun c91 e => ?_)
  · refine ⟨_, ldk (k := 4) (Sub.refl _) (O.all 3 rfl) rfl, _, _, _, rfl, ?_⟩
    obtain ⟨A1, c2, q3, k4, r5⟩ := T_ward_Ward.g4 e_4
    refine ⟨_, ldk (k := 4) (Sub.refl _) (O.all 0 rfl) q3, _, _, _, rfl, ?_⟩
    obtain ⟨l6, g7, e⟩ := bind_e e
    refine O.app 5 rfl rfl rfl (Rd.srcE r5 (tell_int .i64) O.s rfl) (by decide) g7 fun A8 c9 h10 O11 => ?_
    refine ⟨_, _, _, rfl, ?_⟩
    refine O11.st 3 rfl 4 (Nat.le_of_ble_eq_true rfl) trivial fun h14 O15 => ?_
    refine ⟨_, ldAn (Sub.refl _) (O15.all 3 rfl) rfl, ?_⟩
    refine ⟨?_, ?_⟩
    · refine ⟨_, ldAn (Sub.refl _) (O15.all 7 rfl) rfl, ?_⟩
      refine ⟨Ext.refl _, ?_⟩
      refine ⟨_, rfl, rfl, ?_⟩
      refine O15.stA 1 rfl ((T_ward_Ward.T.len _ _ _ e_8)).symm (Flats.cons trivial (Flats.cons trivial (Flats.cons trivial (Flats.cons trivial (Flats.cons trivial Flats.nil))))) fun h41 O42 => ?_
      refine ⟨_, rfl, rfl, ?_⟩
      refine O42.stA 2 rfl ((T_ward_Plan.T.len _ _ _ e_9)).symm (Flats.cons trivial (Flats.cons trivial (Flats.cons trivial Flats.nil))) fun h43 O44 => ?_
      refine ⟨_, ldAn (Sub.refl _) (O44.all 1 rfl) rfl, ?_⟩
      refine ⟨_, ldAn (Sub.refl _) (O44.all 2 rfl) rfl, ?_⟩
      obtain ⟨m45, u46, ⟨r47, k48⟩, O49⟩ := O44.frz 4 rfl
      replace r47 : Rd 3 T_ward_Child.E m45 A_10_3_0 a_10_3 := r47
      obtain ⟨m50, u51, ⟨r52, k53⟩, O54⟩ := O49.frz 5 rfl
      replace r52 : Rd 1 (eInt .i64) m50 A8 l6 := r52
      obtain ⟨m55, u56, ⟨r57, k58⟩, O59⟩ := O54.frz 8 rfl
      replace r57 : Rd 1 (eInt .i64) m55 A_12_0_0 a_12_0 := r57
      obtain ⟨m60, u61, ⟨r62, k63⟩, O64⟩ := O59.frz 9 rfl
      replace r62 : Rd 1 (eInt .i64) m60 A_12_1_0 a_12_1 := r62
      have O65 := O64.nm
      cases e
      exact ⟨_, _, _, O65.pick [], rfl, (show T_ward_Ward.E _ (T_ward_Ward.mk x_10_0 x_10_1 x_10_2 a_10_3 l6) [(Value.int .i64 x_10_0), (Value.int .i64 x_10_1), (Value.int .i64 x_10_2), (Value.slice A_10_3_0 (List.length a_10_3) c_10_3_0), (Value.slice A8 (List.length l6) c9)] from ⟨_, _, _, _, rfl, k48, (r47.sub T_ward_Child.T (u51.trans (u56.trans u61))), k53, (r52.sub (tell_int .i64) (u56.trans u61))⟩), (show T_ward_Plan.E _ (T_ward_Plan.mk a_12_0 a_12_1 b_12_2) [(Value.slice A_12_0_0 (List.length a_12_0) c_12_0_0), (Value.slice A_12_1_0 (List.length a_12_1) c_12_1_0), (Value.bool b_12_2)] from ⟨_, _, _, _, rfl, k58, (r57.sub (tell_int .i64) u61), k63, r62⟩)⟩
    · refine ⟨_, rfl, rfl, ?_⟩
      refine O15.stA 1 rfl ((T_ward_Ward.T.len _ _ _ e_8)).symm (Flats.cons trivial (Flats.cons trivial (Flats.cons trivial (Flats.cons trivial (Flats.cons trivial Flats.nil))))) fun h66 O67 => ?_
      refine ⟨_, ldAn (Sub.refl _) (O67.all 7 rfl) rfl, ?_⟩
      refine ⟨Ext.refl _, ?_⟩
      refine ⟨_, rfl, rfl, ?_⟩
      refine O67.stA 2 rfl ((T_ward_Plan.T.len _ _ _ e_9)).symm (Flats.cons trivial (Flats.cons trivial (Flats.cons trivial Flats.nil))) fun h68 O69 => ?_
      refine ⟨_, ldAn (Sub.refl _) (O69.all 1 rfl) rfl, ?_⟩
      refine ⟨_, ldAn (Sub.refl _) (O69.all 2 rfl) rfl, ?_⟩
      obtain ⟨m70, u71, ⟨r72, k73⟩, O74⟩ := O69.frz 4 rfl
      replace r72 : Rd 3 T_ward_Child.E m70 A_10_3_0 a_10_3 := r72
      obtain ⟨m75, u76, ⟨r77, k78⟩, O79⟩ := O74.frz 5 rfl
      replace r77 : Rd 1 (eInt .i64) m75 A8 l6 := r77
      obtain ⟨m80, u81, ⟨r82, k83⟩, O84⟩ := O79.frz 8 rfl
      replace r82 : Rd 1 (eInt .i64) m80 A_12_0_0 a_12_0 := r82
      obtain ⟨m85, u86, ⟨r87, k88⟩, O89⟩ := O84.frz 9 rfl
      replace r87 : Rd 1 (eInt .i64) m85 A_12_1_0 a_12_1 := r87
      have O90 := O89.nm
      cases e
      exact ⟨_, _, _, O90.pick [], rfl, (show T_ward_Ward.E _ (T_ward_Ward.mk x_10_0 x_10_1 x_10_2 a_10_3 l6) [(Value.int .i64 x_10_0), (Value.int .i64 x_10_1), (Value.int .i64 x_10_2), (Value.slice A_10_3_0 (List.length a_10_3) c_10_3_0), (Value.slice A8 (List.length l6) c9)] from ⟨_, _, _, _, rfl, k73, (r72.sub T_ward_Child.T (u76.trans (u81.trans u86))), k78, (r77.sub (tell_int .i64) (u81.trans u86))⟩), (show T_ward_Plan.E _ (T_ward_Plan.mk a_12_0 a_12_1 b_12_2) [(Value.slice A_12_0_0 (List.length a_12_0) c_12_0_0), (Value.slice A_12_1_0 (List.length a_12_1) c_12_1_0), (Value.bool b_12_2)] from ⟨_, _, _, _, rfl, k83, (r82.sub (tell_int .i64) u86), k88, r87⟩)⟩
  · exact roadref3_Fallen.j0.walk (O.pick [0, 1, 2, 3, 4, 5, 6, 7, 8, 9]).nm e_4 e_8 e_9 rfl rfl rfl rfl rfl e
inductive roadref3_Fallen.l0_k.Pt where
  | l0 (x_1 : Int) (b_2 : Bool) (x_3 : Int) (y_4 : T_ward_Ward) (y_8 : T_ward_Ward) (y_9 : T_ward_Plan) (x_10_0 : Int) (x_10_1 : Int) (x_10_2 : Int) (a_10_3 : (List T_ward_Child)) (a_10_4 : (List Int)) (y_11 : Int)
noncomputable def roadref3_Fallen.l0_k.body (go : (p : roadref3_Fallen.l0_k.Pt) → Option (T_ward_Ward × T_ward_Plan)) : (p : roadref3_Fallen.l0_k.Pt) → Option (T_ward_Ward × T_ward_Plan)
  | .l0 x_1 b_2 x_3 y_4 y_8 y_9 x_10_0 x_10_1 x_10_2 a_10_3 a_10_4 y_11 => Option.bind (gi a_10_3 y_11) fun y1 => if y1.Id = x_1 then (Option.bind (gi a_10_3 y_11) fun y11 => Option.bind (some (List.set a_10_3 (Int.toNat y_11) ({ y11 with Lives := false }))) fun l20 => Option.bind (gi l20 y_11) fun y26 => if y26.When = (3 : Int) then ((roadref3_Fallen.j1 x_3 y_4 y_8 y_9 x_10_0 x_10_1 x_10_2 l20 a_10_4 y_11 ([] : List Int) ([] : List Int) false true)) else (if y26.When = (2 : Int) then ((roadref3_Fallen.j1 x_3 y_4 y_8 y_9 x_10_0 x_10_1 x_10_2 l20 a_10_4 y_11 ([] : List Int) ([] : List Int) false (!b_2))) else ((roadref3_Fallen.j1 x_3 y_4 y_8 y_9 x_10_0 x_10_1 x_10_2 l20 a_10_4 y_11 ([] : List Int) ([] : List Int) false false)))) else ((go (.l0 x_1 b_2 x_3 y_4 y_8 y_9 x_10_0 x_10_1 x_10_2 a_10_3 a_10_4 (IntKind.wrap .i64 (y_11 + (1 : Int))))))
theorem roadref3_Fallen.l0_k.mono : MonoF (β := fun _ => (T_ward_Ward × T_ward_Plan)) roadref3_Fallen.l0_k.body := fun f g hfg p => match p with
  | .l0 x_1 b_2 x_3 y_4 y_8 y_9 x_10_0 x_10_1 x_10_2 a_10_3 a_10_4 y_11 => LeO.bind (LeO.refl _) fun y1 => LeO.ite (LeO.bind (LeO.refl _) fun y11 => LeO.bind (LeO.refl _) fun l20 => LeO.bind (LeO.refl _) fun y26 => LeO.ite ((LeO.refl _)) (LeO.ite ((LeO.refl _)) ((LeO.refl _)))) ((hfg _))
noncomputable def roadref3_Fallen.l0_k.go (p : roadref3_Fallen.l0_k.Pt) : Option (T_ward_Ward × T_ward_Plan) := fixF (β := fun _ => (T_ward_Ward × T_ward_Plan)) roadref3_Fallen.l0_k.body p
noncomputable def roadref3_Fallen.l0 (x_1 : Int) (b_2 : Bool) (x_3 : Int) (y_4 : T_ward_Ward) (y_8 : T_ward_Ward) (y_9 : T_ward_Plan) (x_10_0 : Int) (x_10_1 : Int) (x_10_2 : Int) (a_10_3 : (List T_ward_Child)) (a_10_4 : (List Int)) (y_11 : Int) : Option (T_ward_Ward × T_ward_Plan) := roadref3_Fallen.l0_k.go (.l0 x_1 b_2 x_3 y_4 y_8 y_9 x_10_0 x_10_1 x_10_2 a_10_3 a_10_4 y_11)
theorem roadref3_Fallen.l0_eq (x_1 : Int) (b_2 : Bool) (x_3 : Int) (y_4 : T_ward_Ward) (y_8 : T_ward_Ward) (y_9 : T_ward_Plan) (x_10_0 : Int) (x_10_1 : Int) (x_10_2 : Int) (a_10_3 : (List T_ward_Child)) (a_10_4 : (List Int)) (y_11 : Int) : roadref3_Fallen.l0 x_1 b_2 x_3 y_4 y_8 y_9 x_10_0 x_10_1 x_10_2 a_10_3 a_10_4 y_11 = Option.bind (gi a_10_3 y_11) fun y1 => if y1.Id = x_1 then (Option.bind (gi a_10_3 y_11) fun y11 => Option.bind (some (List.set a_10_3 (Int.toNat y_11) ({ y11 with Lives := false }))) fun l20 => Option.bind (gi l20 y_11) fun y26 => if y26.When = (3 : Int) then ((roadref3_Fallen.j1 x_3 y_4 y_8 y_9 x_10_0 x_10_1 x_10_2 l20 a_10_4 y_11 ([] : List Int) ([] : List Int) false true)) else (if y26.When = (2 : Int) then ((roadref3_Fallen.j1 x_3 y_4 y_8 y_9 x_10_0 x_10_1 x_10_2 l20 a_10_4 y_11 ([] : List Int) ([] : List Int) false (!b_2))) else ((roadref3_Fallen.j1 x_3 y_4 y_8 y_9 x_10_0 x_10_1 x_10_2 l20 a_10_4 y_11 ([] : List Int) ([] : List Int) false false)))) else ((roadref3_Fallen.l0 x_1 b_2 x_3 y_4 y_8 y_9 x_10_0 x_10_1 x_10_2 a_10_3 a_10_4 (IntKind.wrap .i64 (y_11 + (1 : Int))))) := fixF_eq roadref3_Fallen.l0_k.mono _
def roadref3_Fallen.l0_k.I : (p : roadref3_Fallen.l0_k.Pt) → (T_ward_Ward × T_ward_Plan) → Prop
  | .l0 x_1 b_2 x_3 y_4 y_8 y_9 x_10_0 x_10_1 x_10_2 a_10_3 a_10_4 y_11, r => ∀ (W : Nat → Prop) (h0 m0 h m : Heap) (bk_4 : Nat) (cs_4 : List Value) (bk_8 : Nat) (cs_8 : List Value) (bk_9 : Nat) (cs_9 : List Value) (bk_10 : Nat) (A_10_3_0 : Option Addr) (n_10_3_0 : Nat) (c_10_3_0 : Nat) (A_10_4_0 : Option Addr) (n_10_4_0 : Nat) (c_10_4_0 : Nat) (bk_11 : Nat) (cs_11 : List Value) (O : Hold W h0 m0 h m [rV bk_4 25 cs_4, rV bk_8 25 cs_8, rV bk_9 31 cs_9, rV bk_10 25 [(Value.int .i64 x_10_0), (Value.int .i64 x_10_1), (Value.int .i64 x_10_2), (Value.slice A_10_3_0 n_10_3_0 c_10_3_0), (Value.slice A_10_4_0 n_10_4_0 c_10_4_0)], rR (aE T_ward_Child.T) A_10_3_0 c_10_3_0 a_10_3, rR (aE (tell_int .i64)) A_10_4_0 c_10_4_0 a_10_4, rV bk_11 3 cs_11]) (e_4 : T_ward_Ward.E m y_4 cs_4) (e_8 : T_ward_Ward.E m y_8 cs_8) (e_9 : T_ward_Plan.E m y_9 cs_9) (ne_10_3_0 : n_10_3_0 = List.length a_10_3) (ne_10_4_0 : n_10_4_0 = List.length a_10_4) (e_11 : (eInt .i64) m y_11 cs_11), f56.l0 (roadref3_Fallen.post W h0 m0 r) x_1 b_2 x_3 (⟨bk_4, 0, none⟩ : Addr) (⟨bk_8, 0, none⟩ : Addr) (⟨bk_9, 0, none⟩ : Addr) (⟨bk_10, 0, none⟩ : Addr) (⟨bk_11, 0, none⟩ : Addr) h
set_option maxHeartbeats 4000000 in
set_option maxRecDepth 100000 in
theorem roadref3_Fallen.l0_k.step_l0 (go : (p : roadref3_Fallen.l0_k.Pt) → Option (T_ward_Ward × T_ward_Plan)) (ih : ∀ p r, go p = some r → roadref3_Fallen.l0_k.I p r) (x_1 : Int) (b_2 : Bool) (x_3 : Int) (y_4 : T_ward_Ward) (y_8 : T_ward_Ward) (y_9 : T_ward_Plan) (x_10_0 : Int) (x_10_1 : Int) (x_10_2 : Int) (a_10_3 : (List T_ward_Child)) (a_10_4 : (List Int)) (y_11 : Int) (r : T_ward_Ward × T_ward_Plan) (e : roadref3_Fallen.l0_k.body go (.l0 x_1 b_2 x_3 y_4 y_8 y_9 x_10_0 x_10_1 x_10_2 a_10_3 a_10_4 y_11) = some r) : roadref3_Fallen.l0_k.I (.l0 x_1 b_2 x_3 y_4 y_8 y_9 x_10_0 x_10_1 x_10_2 a_10_3 a_10_4 y_11) r := by
  unfold roadref3_Fallen.l0_k.body at e
  intro W h0 m0 h m bk_4 cs_4 bk_8 cs_8 bk_9 cs_9 bk_10 A_10_3_0 n_10_3_0 c_10_3_0 A_10_4_0 n_10_4_0 c_10_4_0 bk_11 cs_11 O e_4 e_8 e_9 ne_10_3_0 ne_10_4_0 e_11
  subst ne_10_3_0
  subst ne_10_4_0
  obtain rfl : cs_11 = [(Value.int .i64 y_11)] := e_11
  refine f56.l0_in ?_
  unfold f56.l0T
  refine ⟨_, ldk (k := 3) (Sub.refl _) (O.all 3 rfl) rfl, _, _, _, rfl, ?_⟩
  refine ⟨_, ld0 (Sub.refl _) (O.all 6 rfl) rfl, _, rfl, ?_⟩
  obtain ⟨y1, g2, e⟩ := bind_e e
  refine (O.os 4 rfl).addr rfl g2 fun a3 cs4 ha5 hc6 he7 => ?_
  refine ⟨_, ld0 (Sub.refl _) hc6 (T_ward_Child.g0 he7), _, rfl, ?_⟩
  refine split_ne_e e (fun c50 e => ?_) (fun c50 e => ?_)
  · refine ⟨_, ld0 (Sub.refl _) (O.all 6 rfl) rfl, _, rfl, ?_⟩
    refine O.st0 6 rfl (Nat.le_of_ble_eq_true rfl) trivial fun h8 O9 => ?_
    have O10 := O9.nm
    exact (ih _ _ e) _ _ _ _ _ _ _ _ _ _ _ _ _ _ _ _ _ _ _ _ (O10.pick [0, 1, 2, 3, 4, 5, 6]).nm e_4 e_8 e_9 rfl rfl rfl
  · refine ⟨_, ldk (k := 3) (Sub.refl _) (O.all 3 rfl) rfl, _, _, _, rfl, ?_⟩
    refine ⟨_, ld0 (Sub.refl _) (O.all 6 rfl) rfl, _, rfl, ?_⟩
    obtain ⟨y11, g12, e⟩ := bind_e e
    refine (O.os 4 rfl).addr rfl g12 fun a13 cs14 ha15 hc16 he17 => ?_
    obtain ⟨l20, g21, e⟩ := bind_e e
    replace g21 := Option.some.inj g21
    refine O.elst 4 rfl g12 ha15 hc16 2 (by decide) (y' := ({ y11 with Lives := false })) (T_ward_Child.s2 he17 false) trivial g21 fun h18 O19 => ?_
    refine O19.new fun h22 x23 O24 => ?_
    refine ⟨_, ldk (k := 3) (Sub.refl _) (O24.all 3 rfl) rfl, _, _, _, rfl, ?_⟩
    refine ⟨_, ld0 (Sub.refl _) (O24.all 6 rfl) rfl, _, rfl, ?_⟩
    obtain ⟨y26, g27, e⟩ := bind_e e
    refine (O24.os 4 rfl).addr (lset' g21) g27 fun a28 cs29 ha30 hc31 he32 => ?_
    refine ⟨_, ldk (k := 1) (Sub.refl _) hc31 (T_ward_Child.g1 he32), _, rfl, ?_⟩
    refine split_eq_e e (fun c49 e => ?_) (fun c49 e => ?_)
    · have O33 := O24.nil (aE (tell_int .i64)) none
      have O35 := O33.nil (aE (tell_int .i64)) none
      have O37 := O35.nm
      exact roadref3_Fallen.j1.walk (O37.pick [0, 1, 2, 3, 4, 5, 6, 7, 8, 9]).nm e_4 e_8 e_9 (lset' g21) rfl rfl rfl rfl e
    · refine split_eq_e e (fun c48 e => ?_) (fun c48 e => ?_)
      · have O38 := O24.nil (aE (tell_int .i64)) none
        have O40 := O38.nil (aE (tell_int .i64)) none
        have O42 := O40.nm
        exact roadref3_Fallen.j1.walk (O42.pick [0, 1, 2, 3, 4, 5, 6, 7, 8, 9]).nm e_4 e_8 e_9 (lset' g21) rfl rfl rfl rfl e
      · have O43 := O24.nil (aE (tell_int .i64)) none
        have O45 := O43.nil (aE (tell_int .i64)) none
        have O47 := O45.nm
        exact roadref3_Fallen.j1.walk (O47.pick [0, 1, 2, 3, 4, 5, 6, 7, 8, 9]).nm e_4 e_8 e_9 (lset' g21) rfl rfl rfl rfl e
theorem roadref3_Fallen.l0_k.all {p : roadref3_Fallen.l0_k.Pt} {r : (T_ward_Ward × T_ward_Plan)} (e : roadref3_Fallen.l0_k.go p = some r) : roadref3_Fallen.l0_k.I p r := fixF_ind (β := fun _ => (T_ward_Ward × T_ward_Plan)) roadref3_Fallen.l0_k.mono (I := roadref3_Fallen.l0_k.I) (fun go ih p r e => match p with
  | .l0 x_1 b_2 x_3 y_4 y_8 y_9 x_10_0 x_10_1 x_10_2 a_10_3 a_10_4 y_11 => roadref3_Fallen.l0_k.step_l0 go ih x_1 b_2 x_3 y_4 y_8 y_9 x_10_0 x_10_1 x_10_2 a_10_3 a_10_4 y_11 r e
  ) e
theorem roadref3_Fallen.l0.walk {W : Nat → Prop} {h0 m0 h m : Heap} {bk_4 : Nat} {cs_4 : List Value} {bk_8 : Nat} {cs_8 : List Value} {bk_9 : Nat} {cs_9 : List Value} {bk_10 : Nat} {A_10_3_0 : Option Addr} {n_10_3_0 : Nat} {c_10_3_0 : Nat} {A_10_4_0 : Option Addr} {n_10_4_0 : Nat} {c_10_4_0 : Nat} {bk_11 : Nat} {cs_11 : List Value} {x_1 : Int} {b_2 : Bool} {x_3 : Int} {y_4 : T_ward_Ward} {y_8 : T_ward_Ward} {y_9 : T_ward_Plan} {x_10_0 : Int} {x_10_1 : Int} {x_10_2 : Int} {a_10_3 : (List T_ward_Child)} {a_10_4 : (List Int)} {y_11 : Int} (O : Hold W h0 m0 h m [rV bk_4 25 cs_4, rV bk_8 25 cs_8, rV bk_9 31 cs_9, rV bk_10 25 [(Value.int .i64 x_10_0), (Value.int .i64 x_10_1), (Value.int .i64 x_10_2), (Value.slice A_10_3_0 n_10_3_0 c_10_3_0), (Value.slice A_10_4_0 n_10_4_0 c_10_4_0)], rR (aE T_ward_Child.T) A_10_3_0 c_10_3_0 a_10_3, rR (aE (tell_int .i64)) A_10_4_0 c_10_4_0 a_10_4, rV bk_11 3 cs_11]) (e_4 : T_ward_Ward.E m y_4 cs_4) (e_8 : T_ward_Ward.E m y_8 cs_8) (e_9 : T_ward_Plan.E m y_9 cs_9) (ne_10_3_0 : n_10_3_0 = List.length a_10_3) (ne_10_4_0 : n_10_4_0 = List.length a_10_4) (e_11 : (eInt .i64) m y_11 cs_11) {r : T_ward_Ward × T_ward_Plan} (e : roadref3_Fallen.l0 x_1 b_2 x_3 y_4 y_8 y_9 x_10_0 x_10_1 x_10_2 a_10_3 a_10_4 y_11 = some r) : f56.l0 (roadref3_Fallen.post W h0 m0 r) x_1 b_2 x_3 (⟨bk_4, 0, none⟩ : Addr) (⟨bk_8, 0, none⟩ : Addr) (⟨bk_9, 0, none⟩ : Addr) (⟨bk_10, 0, none⟩ : Addr) (⟨bk_11, 0, none⟩ : Addr) h := roadref3_Fallen.l0_k.all (p := .l0 x_1 b_2 x_3 y_4 y_8 y_9 x_10_0 x_10_1 x_10_2 a_10_3 a_10_4 y_11) e W h0 m0 h m bk_4 cs_4 bk_8 cs_8 bk_9 cs_9 bk_10 A_10_3_0 n_10_3_0 c_10_3_0 A_10_4_0 n_10_4_0 c_10_4_0 bk_11 cs_11 O e_4 e_8 e_9 ne_10_3_0 ne_10_4_0 e_11
noncomputable def roadref3_Fallen (y_0 : T_ward_Ward) (x_1 : Int) (b_2 : Bool) (x_3 : Int) : Option (T_ward_Ward × T_ward_Plan) :=
  Option.bind (ap 24 ([] : List T_ward_Child) y_0.Children) fun l18 => (roadref3_Fallen.l0 x_1 b_2 x_3 y_0 (T_ward_Ward.mk (0 : Int) (0 : Int) (0 : Int) ([] : List T_ward_Child) ([] : List Int)) (T_ward_Plan.mk ([] : List Int) ([] : List Int) false) y_0.How y_0.Most y_0.Window l18 ([] : List Int) (0 : Int))
end Go.Proofs.Ythnlhffpmlgmfab.Fw

end
