/- Last part: what the law WardTells needs, put together out of texts of this session. -/
import Derived.Test.YthnlhffpmlgmfabRows
import Derived.WalkKit
import Derived.Test.YthnlhffpmlgmfabZWardTellsg
section
namespace Go.Proofs.Ythnlhffpmlgmfab.Fw
open Go Go.Hw Go.Proofs
set_option linter.unusedVariables false
set_option synthInstance.maxHeartbeats 400000
set_option synthInstance.maxSize 1000
def roadlaw3_fallen.post (W : Nat → Prop) (h0 m0 : Heap) (r : T_ward_Ward × T_ward_Plan × Int) (v : Value) (h : Heap) : Prop := ∃ m cs0 cs1, Hold W h0 m0 h m [] ∧ v = .tuple #[.agg cs0.toArray, .agg cs1.toArray, .int .i64 r.2.2] ∧ T_ward_Ward.E m r.1 cs0 ∧ T_ward_Plan.E m r.2.1 cs1
noncomputable def roadlaw3_fallen.j0 (y_2 : T_ward_Ward) (y_3 : T_ward_Fall) (y_4 : T_ward_Ward) (y_5 : T_ward_Plan) (x_7 : Int) (x_8 : Int) : Option (T_ward_Ward × T_ward_Plan × Int) :=
  if x_7 < (0 : Int) then (some ((T_ward_Ward.mk (0 : Int) (0 : Int) (0 : Int) ([] : List T_ward_Child) ([] : List Int)), (T_ward_Plan.mk ([] : List Int) ([] : List Int) false), (4 : Int))) else (Option.bind (gi y_2.Children x_7) fun y11 => if y11.Lives = true then (Option.bind (roadref3_In y_3.Now x_8 (1099511627776 : Int)) fun y18 => if y18 = true then (Option.bind (roadref3_Fallen y_2 y_3.Id y_3.Failed y_3.Now) fun y25 => some (y25.1, y25.2, (0 : Int))) else (some ((T_ward_Ward.mk (0 : Int) (0 : Int) (0 : Int) ([] : List T_ward_Child) ([] : List Int)), (T_ward_Plan.mk ([] : List Int) ([] : List Int) false), (21 : Int)))) else (some ((T_ward_Ward.mk (0 : Int) (0 : Int) (0 : Int) ([] : List T_ward_Child) ([] : List Int)), (T_ward_Plan.mk ([] : List Int) ([] : List Int) false), (8 : Int))))
set_option maxHeartbeats 4000000 in
set_option maxRecDepth 100000 in
theorem roadlaw3_fallen.j0.walk {W : Nat → Prop} {h0 m0 h m : Heap} {bk_2 : Nat} {cs_2 : List Value} {bk_3 : Nat} {cs_3 : List Value} {bk_4 : Nat} {cs_4 : List Value} {bk_5 : Nat} {cs_5 : List Value} {y_2 : T_ward_Ward} {y_3 : T_ward_Fall} {y_4 : T_ward_Ward} {y_5 : T_ward_Plan} {x_7 : Int} {x_8 : Int} (O : Hold W h0 m0 h m [rV bk_2 25 cs_2, rV bk_3 45 cs_3, rV bk_4 25 cs_4, rV bk_5 31 cs_5]) (e_2 : T_ward_Ward.E m y_2 cs_2) (e_3 : T_ward_Fall.E m y_3 cs_3) (e_4 : T_ward_Ward.E m y_4 cs_4) (e_5 : T_ward_Plan.E m y_5 cs_5) {r : T_ward_Ward × T_ward_Plan × Int} (e : roadlaw3_fallen.j0 y_2 y_3 y_4 y_5 x_7 x_8 = some r) : f15.j0 (roadlaw3_fallen.post W h0 m0 r) (⟨bk_2, 0, none⟩ : Addr) (⟨bk_3, 0, none⟩ : Addr) (⟨bk_4, 0, none⟩ : Addr) (⟨bk_5, 0, none⟩ : Addr) x_7 x_8 h := by
  unfold roadlaw3_fallen.j0 at e
  refine f15.j0_in ?_
  unfold f15.j0T
  refine split_dec_e e (fun c80 e => ?_) (fun c80 e => ?_)
  · refine ⟨_, rfl, rfl, ?_⟩
    refine O.stA 2 rfl ((T_ward_Ward.T.len _ _ _ e_4)).symm (Flats.cons trivial (Flats.cons trivial (Flats.cons trivial (Flats.cons trivial (Flats.cons trivial Flats.nil))))) fun h1 O2 => ?_
    refine ⟨_, rfl, rfl, ?_⟩
    refine O2.stA 3 rfl ((T_ward_Plan.T.len _ _ _ e_5)).symm (Flats.cons trivial (Flats.cons trivial (Flats.cons trivial Flats.nil))) fun h3 O4 => ?_
    refine ⟨_, ldAn (Sub.refl _) (O4.all 2 rfl) rfl, ?_⟩
    refine ⟨_, ldAn (Sub.refl _) (O4.all 3 rfl) rfl, ?_⟩
    have O5 := O4.nm
    cases e
    exact ⟨_, _, _, O5.pick [], rfl, (show T_ward_Ward.E _ (T_ward_Ward.mk (0 : Int) (0 : Int) (0 : Int) ([] : List T_ward_Child) ([] : List Int)) [(Value.int .i64 (0 : Int)), (Value.int .i64 (0 : Int)), (Value.int .i64 (0 : Int)), (Value.slice none 0 0), (Value.slice none 0 0)] from ⟨_, _, _, _, rfl, (by exact Nat.le_refl 0), Rd.nil, (by exact Nat.le_refl 0), Rd.nil⟩), (show T_ward_Plan.E _ (T_ward_Plan.mk ([] : List Int) ([] : List Int) false) [(Value.slice none 0 0), (Value.slice none 0 0), (Value.bool false)] from ⟨_, _, _, _, rfl, (by exact Nat.le_refl 0), Rd.nil, (by exact Nat.le_refl 0), Rd.nil⟩)⟩
  · obtain ⟨A6, c7, q8, k9, r10⟩ := T_ward_Ward.g3 e_2
    refine ⟨_, ldk (k := 3) (Sub.refl _) (O.all 0 rfl) q8, _, _, _, rfl, ?_⟩
    obtain ⟨y11, g12, e⟩ := bind_e e
    refine r10.addr rfl g12 fun a13 cs14 ha15 hc16 he17 => ?_
    refine ⟨_, ldk (k := 2) O.s hc16 (T_ward_Child.g2 he17), _, rfl, ?_⟩
    refine split_not ?_
    refine split_any_e e (fun c79 e => ?_) (fun c79 e => ?_)
    · refine ⟨_, ldk (k := 2) (Sub.refl _) (O.all 1 rfl) (T_ward_Fall.g2 e_3), _, rfl, ?_⟩
      obtain ⟨y18, g19, e⟩ := bind_e e
      refine (roadref3_In.walk (Hold.start (W := No) O.s)  g19).mono ?_
      rintro _ h20 ⟨m21, Q22, rfl⟩
      have O24 := Hold.nm (O.retC Q22 vfs_nil)
      refine ⟨_, rfl, ?_⟩
      refine split_not ?_
      refine split_any_e e (fun c73 e => ?_) (fun c73 e => ?_)
      · refine ⟨_, ldAn (Sub.refl _) (O24.all 0 rfl) (T_ward_Ward.T.len _ _ _ e_2), ?_⟩
        refine ⟨_, ld0 (Sub.refl _) (O24.all 1 rfl) (T_ward_Fall.g0 e_3), _, rfl, ?_⟩
        refine ⟨_, ldk (k := 1) (Sub.refl _) (O24.all 1 rfl) (T_ward_Fall.g1 e_3), _, rfl, ?_⟩
        refine ⟨_, ldk (k := 2) (Sub.refl _) (O24.all 1 rfl) (T_ward_Fall.g2 e_3), _, rfl, ?_⟩
        obtain ⟨y25, g26, e⟩ := bind_e e
        refine (roadref3_Fallen.walk (Hold.start (W := No) O24.s) e_2 g26).mono ?_
        rintro _ h27 ⟨m28, cs32, cs35, Q29, rfl, he33, he36⟩
        have O37 := Hold.nm (O24.ret Q29)
        refine ⟨_, _, rfl, ?_⟩
        refine O37.new fun h38 x39 O40 => ?_
        refine O40.new fun h42 x43 O44 => ?_
        refine ⟨_, rfl, (T_ward_Ward.T.len _ _ _ he33), ?_⟩
        refine O44.stA 4 rfl (T_ward_Ward.T.len _ _ _ he33) (T_ward_Ward.T.flat _ _ _ he33) fun h46 O47 => ?_
        refine ⟨_, rfl, (T_ward_Plan.T.len _ _ _ he36), ?_⟩
        refine O47.stA 5 rfl (T_ward_Plan.T.len _ _ _ he36) (T_ward_Plan.T.flat _ _ _ he36) fun h48 O49 => ?_
        refine ⟨_, ldAn (Sub.refl _) (O49.all 4 rfl) (T_ward_Ward.T.len _ _ _ he33), ?_⟩
        refine ⟨?_, ?_⟩
        · refine ⟨_, ldAn (Sub.refl _) (O49.all 5 rfl) (T_ward_Plan.T.len _ _ _ he36), ?_⟩
          refine ⟨Ext.refl _, ?_⟩
          refine ⟨_, rfl, (T_ward_Ward.T.len _ _ _ he33), ?_⟩
          refine O49.stA 2 rfl ((T_ward_Ward.T.len _ _ _ he33).trans ((T_ward_Ward.T.len _ _ _ e_4)).symm) (T_ward_Ward.T.flat _ _ _ he33) fun h56 O57 => ?_
          have O58 := O57.nm
          refine ⟨_, rfl, (T_ward_Plan.T.len _ _ _ he36), ?_⟩
          refine O58.stA 3 rfl ((T_ward_Plan.T.len _ _ _ he36).trans ((T_ward_Plan.T.len _ _ _ e_5)).symm) (T_ward_Plan.T.flat _ _ _ he36) fun h59 O60 => ?_
          refine ⟨_, ldAn (Sub.refl _) (O60.all 2 rfl) (T_ward_Ward.T.len _ _ _ he33), ?_⟩
          refine ⟨_, ldAn (Sub.refl _) (O60.all 3 rfl) (T_ward_Plan.T.len _ _ _ he36), ?_⟩
          have O61 := O60.nm
          cases e
          exact ⟨_, _, _, O61.pick [], rfl, he33, he36⟩
        · refine ⟨_, rfl, (T_ward_Ward.T.len _ _ _ he33), ?_⟩
          refine O49.stA 2 rfl ((T_ward_Ward.T.len _ _ _ he33).trans ((T_ward_Ward.T.len _ _ _ e_4)).symm) (T_ward_Ward.T.flat _ _ _ he33) fun h62 O63 => ?_
          have O64 := O63.nm
          refine ⟨_, ldAn (Sub.refl _) (O64.all 5 rfl) (T_ward_Plan.T.len _ _ _ he36), ?_⟩
          refine ⟨Ext.refl _, ?_⟩
          refine ⟨_, rfl, (T_ward_Plan.T.len _ _ _ he36), ?_⟩
          refine O64.stA 3 rfl ((T_ward_Plan.T.len _ _ _ he36).trans ((T_ward_Plan.T.len _ _ _ e_5)).symm) (T_ward_Plan.T.flat _ _ _ he36) fun h65 O66 => ?_
          refine ⟨_, ldAn (Sub.refl _) (O66.all 2 rfl) (T_ward_Ward.T.len _ _ _ he33), ?_⟩
          refine ⟨_, ldAn (Sub.refl _) (O66.all 3 rfl) (T_ward_Plan.T.len _ _ _ he36), ?_⟩
          have O67 := O66.nm
          cases e
          exact ⟨_, _, _, O67.pick [], rfl, he33, he36⟩
      · refine ⟨_, rfl, rfl, ?_⟩
        refine O24.stA 2 rfl ((T_ward_Ward.T.len _ _ _ e_4)).symm (Flats.cons trivial (Flats.cons trivial (Flats.cons trivial (Flats.cons trivial (Flats.cons trivial Flats.nil))))) fun h68 O69 => ?_
        refine ⟨_, rfl, rfl, ?_⟩
        refine O69.stA 3 rfl ((T_ward_Plan.T.len _ _ _ e_5)).symm (Flats.cons trivial (Flats.cons trivial (Flats.cons trivial Flats.nil))) fun h70 O71 => ?_
        refine ⟨_, ldAn (Sub.refl _) (O71.all 2 rfl) rfl, ?_⟩
        refine ⟨_, ldAn (Sub.refl _) (O71.all 3 rfl) rfl, ?_⟩
        have O72 := O71.nm
        cases e
        exact ⟨_, _, _, O72.pick [], rfl, (show T_ward_Ward.E _ (T_ward_Ward.mk (0 : Int) (0 : Int) (0 : Int) ([] : List T_ward_Child) ([] : List Int)) [(Value.int .i64 (0 : Int)), (Value.int .i64 (0 : Int)), (Value.int .i64 (0 : Int)), (Value.slice none 0 0), (Value.slice none 0 0)] from ⟨_, _, _, _, rfl, (by exact Nat.le_refl 0), Rd.nil, (by exact Nat.le_refl 0), Rd.nil⟩), (show T_ward_Plan.E _ (T_ward_Plan.mk ([] : List Int) ([] : List Int) false) [(Value.slice none 0 0), (Value.slice none 0 0), (Value.bool false)] from ⟨_, _, _, _, rfl, (by exact Nat.le_refl 0), Rd.nil, (by exact Nat.le_refl 0), Rd.nil⟩)⟩
    · refine ⟨_, rfl, rfl, ?_⟩
      refine O.stA 2 rfl ((T_ward_Ward.T.len _ _ _ e_4)).symm (Flats.cons trivial (Flats.cons trivial (Flats.cons trivial (Flats.cons trivial (Flats.cons trivial Flats.nil))))) fun h74 O75 => ?_
      refine ⟨_, rfl, rfl, ?_⟩
      refine O75.stA 3 rfl ((T_ward_Plan.T.len _ _ _ e_5)).symm (Flats.cons trivial (Flats.cons trivial (Flats.cons trivial Flats.nil))) fun h76 O77 => ?_
      refine ⟨_, ldAn (Sub.refl _) (O77.all 2 rfl) rfl, ?_⟩
      refine ⟨_, ldAn (Sub.refl _) (O77.all 3 rfl) rfl, ?_⟩
      have O78 := O77.nm
      cases e
      exact ⟨_, _, _, O78.pick [], rfl, (show T_ward_Ward.E _ (T_ward_Ward.mk (0 : Int) (0 : Int) (0 : Int) ([] : List T_ward_Child) ([] : List Int)) [(Value.int .i64 (0 : Int)), (Value.int .i64 (0 : Int)), (Value.int .i64 (0 : Int)), (Value.slice none 0 0), (Value.slice none 0 0)] from ⟨_, _, _, _, rfl, (by exact Nat.le_refl 0), Rd.nil, (by exact Nat.le_refl 0), Rd.nil⟩), (show T_ward_Plan.E _ (T_ward_Plan.mk ([] : List Int) ([] : List Int) false) [(Value.slice none 0 0), (Value.slice none 0 0), (Value.bool false)] from ⟨_, _, _, _, rfl, (by exact Nat.le_refl 0), Rd.nil, (by exact Nat.le_refl 0), Rd.nil⟩)⟩
noncomputable def roadlaw3_fallen (y_0 : T_ward_Ward) (y_1 : T_ward_Fall) : Option (T_ward_Ward × T_ward_Plan × Int) :=
  Option.bind (slices_IndexFunc_54 y_0.Children (fun z35 => roadlaw3_fallen_1 z35 y_1)) fun y22 => if (((List.length y_0.Times) : Nat) : Int) > (0 : Int) then (Option.bind (gi y_0.Times (IntKind.wrap .i64 ((((List.length y_0.Times) : Nat) : Int) - (1 : Int)))) fun y54 => (roadlaw3_fallen.j0 y_0 y_1 (T_ward_Ward.mk (0 : Int) (0 : Int) (0 : Int) ([] : List T_ward_Child) ([] : List Int)) (T_ward_Plan.mk ([] : List Int) ([] : List Int) false) y22 y54)) else ((roadlaw3_fallen.j0 y_0 y_1 (T_ward_Ward.mk (0 : Int) (0 : Int) (0 : Int) ([] : List T_ward_Child) ([] : List Int)) (T_ward_Plan.mk ([] : List Int) ([] : List Int) false) y22 (0 : Int)))
set_option maxRecDepth 100000 in
theorem roadlaw3_fallen.walk {W : Nat → Prop} {h m : Heap} {cs_0 : List Value} {cs_1 : List Value} {y_0 : T_ward_Ward} {y_1 : T_ward_Fall} (O : Hold W h m h m []) (e_0 : T_ward_Ward.E m y_0 cs_0) (e_1 : T_ward_Fall.E m y_1 cs_1) {r : T_ward_Ward × T_ward_Plan × Int} (e : roadlaw3_fallen y_0 y_1 = some r) : Run Try.prog 15 #[Value.agg cs_0.toArray, Value.agg cs_1.toArray] h (roadlaw3_fallen.post W h m r) := by
  unfold roadlaw3_fallen at e
  refine f15.run ?_
  unfold f15.runT
  refine O.new fun h1 x2 O3 => ?_
  refine O3.new fun h5 x6 O7 => ?_
  refine O7.new fun h9 x10 O11 => ?_
  refine O11.new fun h13 x14 O15 => ?_
  obtain ⟨A17, c18, q19, k20, r21⟩ := T_ward_Ward.g3 e_0
  refine ⟨_, ldk (k := 3) (Sub.refl _) (O15.all 0 rfl) q19, _, _, _, rfl, ?_⟩
  obtain ⟨y22, g23, e⟩ := bind_e e
  have O28 := O15.nm
  obtain ⟨m29, u30, s34, ⟨hb33, _⟩, B31, C32⟩ := O28.lend0 [1]
  refine (slices_IndexFunc_54.walk (Hold.start (W := No) s34) rfl k20 (r21.sub T_ward_Child.T u30) (fun h36 m37 u38 s39 y42 cs42 he42 r40 e41 => CallF.of [Value.agg cs42.toArray, Value.pointer (some ⟨(Array.size h1), 0, none⟩)] f55.ok rfl ((roadlaw3_fallen_1.walk (Hold.start (W := No) s39) he42 (VB.sub (show VB T_ward_Fall.E _ _ _ from ⟨_, _, hb33, nn_len (T_ward_Fall.T.len _ _ _ e_1), (T_ward_Fall.T.mono _ _ _ _ u30 e_1)⟩) T_ward_Fall.T u38) e41).mono (fun _ _ h => let ⟨_, t, e⟩ := h; ⟨e, t.S.ext⟩))) g23).mono ?_
  rintro _ h24 ⟨m25, Q26, rfl⟩
  have O43 := Hold.nm (C32 Q26 vfs_nil)
  refine ⟨_, rfl, ?_⟩
  obtain ⟨A44, c45, q46, k47, r48⟩ := T_ward_Ward.g4 e_0
  refine ⟨_, ldk (k := 4) (Sub.refl _) (O43.all 0 rfl) q46, _, _, _, rfl, ?_⟩
  refine split_dec_e e (fun c61 e => ?_) (fun c61 e => ?_)
  · obtain ⟨A49, c50, q51, k52, r53⟩ := T_ward_Ward.g4 e_0
    refine ⟨_, ldk (k := 4) (Sub.refl _) (O43.all 0 rfl) q51, _, _, _, rfl, ?_⟩
    obtain ⟨y54, g55, e⟩ := bind_e e
    refine r53.addr rfl g55 fun a56 cs57 ha58 hc59 he60 => ?_
    obtain rfl : cs57 = [(Value.int .i64 y54)] := he60
    refine ⟨_, ld0 O43.s hc59 rfl, _, rfl, ?_⟩
    exact roadlaw3_fallen.j0.walk (O43.pick [0, 1, 2, 3]).nm e_0 e_1 (show T_ward_Ward.E _ (T_ward_Ward.mk (0 : Int) (0 : Int) (0 : Int) ([] : List T_ward_Child) ([] : List Int)) [(Value.int .i64 (0 : Int)), (Value.int .i64 (0 : Int)), (Value.int .i64 (0 : Int)), (Value.slice none 0 0), (Value.slice none 0 0)] from ⟨_, _, _, _, rfl, (by exact Nat.le_refl 0), Rd.nil, (by exact Nat.le_refl 0), Rd.nil⟩) (show T_ward_Plan.E _ (T_ward_Plan.mk ([] : List Int) ([] : List Int) false) [(Value.slice none 0 0), (Value.slice none 0 0), (Value.bool false)] from ⟨_, _, _, _, rfl, (by exact Nat.le_refl 0), Rd.nil, (by exact Nat.le_refl 0), Rd.nil⟩) e
  · exact roadlaw3_fallen.j0.walk (O43.pick [0, 1, 2, 3]).nm e_0 e_1 (show T_ward_Ward.E _ (T_ward_Ward.mk (0 : Int) (0 : Int) (0 : Int) ([] : List T_ward_Child) ([] : List Int)) [(Value.int .i64 (0 : Int)), (Value.int .i64 (0 : Int)), (Value.int .i64 (0 : Int)), (Value.slice none 0 0), (Value.slice none 0 0)] from ⟨_, _, _, _, rfl, (by exact Nat.le_refl 0), Rd.nil, (by exact Nat.le_refl 0), Rd.nil⟩) (show T_ward_Plan.E _ (T_ward_Plan.mk ([] : List Int) ([] : List Int) false) [(Value.slice none 0 0), (Value.slice none 0 0), (Value.bool false)] from ⟨_, _, _, _, rfl, (by exact Nat.le_refl 0), Rd.nil, (by exact Nat.le_refl 0), Rd.nil⟩) e
def slices_EqualFunc_16.post (W : Nat → Prop) (h0 m0 : Heap) (r : Bool) (v : Value) (h : Heap) : Prop := ∃ m , Hold W h0 m0 h m [] ∧ v = .bool r
inductive slices_EqualFunc_16.l0_k.Pt where
  | l0 (a_1 : List T_ward_Plan) (p_2 : T_ward_Plan → T_ward_Plan → Option Bool) (a_15 : List T_ward_Plan) (x_16 : Int) (x_17 : Int)
noncomputable def slices_EqualFunc_16.l0_k.body (go : (p : slices_EqualFunc_16.l0_k.Pt) → Option (Bool)) : (p : slices_EqualFunc_16.l0_k.Pt) → Option (Bool)
  | .l0 a_1 p_2 a_15 x_16 x_17 => if x_17 < x_16 then (Option.bind (gi a_15 x_17) fun y1 => Option.bind (gi a_1 x_17) fun y14 => Option.bind (p_2 y1 y14) fun y27 => if y27 = true then ((go (.l0 a_1 p_2 a_15 x_16 (IntKind.wrap .i64 (x_17 + (1 : Int)))))) else (some (false))) else (some (true))
theorem slices_EqualFunc_16.l0_k.mono : MonoF (β := fun _ => (Bool)) slices_EqualFunc_16.l0_k.body := fun f g hfg p => match p with
  | .l0 a_1 p_2 a_15 x_16 x_17 => LeO.ite (LeO.bind (LeO.refl _) fun y1 => LeO.bind (LeO.refl _) fun y14 => LeO.bind (LeO.refl _) fun y27 => LeO.ite ((hfg _)) (LeO.refl _)) (LeO.refl _)
noncomputable def slices_EqualFunc_16.l0_k.go (p : slices_EqualFunc_16.l0_k.Pt) : Option (Bool) := fixF (β := fun _ => (Bool)) slices_EqualFunc_16.l0_k.body p
noncomputable def slices_EqualFunc_16.l0 (a_1 : List T_ward_Plan) (p_2 : T_ward_Plan → T_ward_Plan → Option Bool) (a_15 : List T_ward_Plan) (x_16 : Int) (x_17 : Int) : Option (Bool) := slices_EqualFunc_16.l0_k.go (.l0 a_1 p_2 a_15 x_16 x_17)
theorem slices_EqualFunc_16.l0_eq (a_1 : List T_ward_Plan) (p_2 : T_ward_Plan → T_ward_Plan → Option Bool) (a_15 : List T_ward_Plan) (x_16 : Int) (x_17 : Int) : slices_EqualFunc_16.l0 a_1 p_2 a_15 x_16 x_17 = if x_17 < x_16 then (Option.bind (gi a_15 x_17) fun y1 => Option.bind (gi a_1 x_17) fun y14 => Option.bind (p_2 y1 y14) fun y27 => if y27 = true then ((slices_EqualFunc_16.l0 a_1 p_2 a_15 x_16 (IntKind.wrap .i64 (x_17 + (1 : Int))))) else (some (false))) else (some (true)) := fixF_eq slices_EqualFunc_16.l0_k.mono _
def slices_EqualFunc_16.l0_k.I : (p : slices_EqualFunc_16.l0_k.Pt) → (Bool) → Prop
  | .l0 a_1 p_2 a_15 x_16 x_17, r => ∀ (W : Nat → Prop) (h0 m0 h m : Heap) (A_1 : Option Addr) (n_1 c_1 : Nat) (fv_2 : Value) (A_15 : Option Addr) (n_15 c_15 : Nat) (O : Hold W h0 m0 h m []) (ne_1 : n_1 = List.length a_1) (k_1 : List.length a_1 ≤ c_1) (r_1 : Rd 3 T_ward_Plan.E m A_1 a_1) (f_2 : ∀ h' m', Sub m0 m' → Sub m' h' → ∀ (y0 : T_ward_Plan) (cs0 : List Value) (_ : T_ward_Plan.E m' y0 cs0) (y1 : T_ward_Plan) (cs1 : List Value) (_ : T_ward_Plan.E m' y1 cs1) (r : Bool), p_2 y0 y1 = some r → CallF Try.prog fv_2 [.agg cs0.toArray, .agg cs1.toArray] h' (fun v h'' => v = .bool r ∧ Ext h' h'')) (ne_15 : n_15 = List.length a_15) (k_15 : List.length a_15 ≤ c_15) (r_15 : Rd 3 T_ward_Plan.E m A_15 a_15), f16.l0 (slices_EqualFunc_16.post W h0 m0 r) A_1 n_1 c_1 fv_2 A_15 n_15 c_15 x_16 x_17 h
set_option maxRecDepth 100000 in
theorem slices_EqualFunc_16.l0_k.step_l0 (go : (p : slices_EqualFunc_16.l0_k.Pt) → Option (Bool)) (ih : ∀ p r, go p = some r → slices_EqualFunc_16.l0_k.I p r) (a_1 : List T_ward_Plan) (p_2 : T_ward_Plan → T_ward_Plan → Option Bool) (a_15 : List T_ward_Plan) (x_16 : Int) (x_17 : Int) (r : Bool) (e : slices_EqualFunc_16.l0_k.body go (.l0 a_1 p_2 a_15 x_16 x_17) = some r) : slices_EqualFunc_16.l0_k.I (.l0 a_1 p_2 a_15 x_16 x_17) r := by
  unfold slices_EqualFunc_16.l0_k.body at e
  intro W h0 m0 h m A_1 n_1 c_1 fv_2 A_15 n_15 c_15 O ne_1 k_1 r_1 f_2 ne_15 k_15 r_15
  subst ne_1
  subst ne_15
  refine f16.l0_in ?_
  unfold f16.l0T
  refine split_dec_e e (fun c35 e => ?_) (fun c35 e => ?_)
  · obtain ⟨y1, g2, e⟩ := bind_e e
    refine r_15.addr rfl g2 fun a3 cs4 ha5 hc6 he7 => ?_
    refine ⟨_, ldAn O.s hc6 rfl, ?_⟩
    refine O.new fun h8 x9 O10 => ?_
    refine ⟨_, rfl, (T_ward_Plan.T.len _ _ _ he7), ?_⟩
    refine O10.stA 0 rfl (T_ward_Plan.T.len _ _ _ he7) (T_ward_Plan.T.flat _ _ _ he7) fun h12 O13 => ?_
    obtain ⟨y14, g15, e⟩ := bind_e e
    refine r_1.addr rfl g15 fun a16 cs17 ha18 hc19 he20 => ?_
    refine ⟨_, ldAn O13.s hc19 rfl, ?_⟩
    refine O13.new fun h21 x22 O23 => ?_
    refine ⟨_, rfl, (T_ward_Plan.T.len _ _ _ he20), ?_⟩
    refine O23.stA 1 rfl (T_ward_Plan.T.len _ _ _ he20) (T_ward_Plan.T.flat _ _ _ he20) fun h25 O26 => ?_
    refine ⟨_, ldAn (Sub.refl _) (O26.all 0 rfl) (T_ward_Plan.T.len _ _ _ he7), ?_⟩
    refine ⟨_, ldAn (Sub.refl _) (O26.all 1 rfl) (T_ward_Plan.T.len _ _ _ he20), ?_⟩
    obtain ⟨y27, g28, e⟩ := bind_e e
    refine CallF.mono (f_2 _ _ O.up O26.s _ _ he7 _ _ he20 _ g28) ?_
    rintro _ h29 ⟨rfl, x30⟩
    have O31 := O26.ext x30
    refine ⟨_, rfl, ?_⟩
    refine split_not ?_
    refine split_any_e e (fun c34 e => ?_) (fun c34 e => ?_)
    · have O32 := O31.nm
      exact (ih _ _ e) _ _ _ _ _ _ _ _ _ _ _ _ (O32.pick []).nm rfl k_1 r_1 f_2 rfl k_15 r_15
    · have O33 := O31.nm
      cases e
      exact ⟨_, O33.pick [], rfl⟩
  · cases e
    exact ⟨_, O.pick [], rfl⟩
theorem slices_EqualFunc_16.l0_k.all {p : slices_EqualFunc_16.l0_k.Pt} {r : (Bool)} (e : slices_EqualFunc_16.l0_k.go p = some r) : slices_EqualFunc_16.l0_k.I p r := fixF_ind (β := fun _ => (Bool)) slices_EqualFunc_16.l0_k.mono (I := slices_EqualFunc_16.l0_k.I) (fun go ih p r e => match p with
  | .l0 a_1 p_2 a_15 x_16 x_17 => slices_EqualFunc_16.l0_k.step_l0 go ih a_1 p_2 a_15 x_16 x_17 r e
  ) e
theorem slices_EqualFunc_16.l0.walk {W : Nat → Prop} {h0 m0 h m : Heap} {A_1 : Option Addr} {n_1 c_1 : Nat} {fv_2 : Value} {A_15 : Option Addr} {n_15 c_15 : Nat} {a_1 : List T_ward_Plan} {p_2 : T_ward_Plan → T_ward_Plan → Option Bool} {a_15 : List T_ward_Plan} {x_16 : Int} {x_17 : Int} (O : Hold W h0 m0 h m []) (ne_1 : n_1 = List.length a_1) (k_1 : List.length a_1 ≤ c_1) (r_1 : Rd 3 T_ward_Plan.E m A_1 a_1) (f_2 : ∀ h' m', Sub m0 m' → Sub m' h' → ∀ (y0 : T_ward_Plan) (cs0 : List Value) (_ : T_ward_Plan.E m' y0 cs0) (y1 : T_ward_Plan) (cs1 : List Value) (_ : T_ward_Plan.E m' y1 cs1) (r : Bool), p_2 y0 y1 = some r → CallF Try.prog fv_2 [.agg cs0.toArray, .agg cs1.toArray] h' (fun v h'' => v = .bool r ∧ Ext h' h'')) (ne_15 : n_15 = List.length a_15) (k_15 : List.length a_15 ≤ c_15) (r_15 : Rd 3 T_ward_Plan.E m A_15 a_15) {r : Bool} (e : slices_EqualFunc_16.l0 a_1 p_2 a_15 x_16 x_17 = some r) : f16.l0 (slices_EqualFunc_16.post W h0 m0 r) A_1 n_1 c_1 fv_2 A_15 n_15 c_15 x_16 x_17 h := slices_EqualFunc_16.l0_k.all (p := .l0 a_1 p_2 a_15 x_16 x_17) e W h0 m0 h m A_1 n_1 c_1 fv_2 A_15 n_15 c_15 O ne_1 k_1 r_1 f_2 ne_15 k_15 r_15
noncomputable def slices_EqualFunc_16 (a_0 : List T_ward_Plan) (a_1 : List T_ward_Plan) (p_2 : T_ward_Plan → T_ward_Plan → Option Bool) : Option (Bool) :=
  if (((List.length a_0) : Nat) : Int) = (((List.length a_1) : Nat) : Int) then ((slices_EqualFunc_16.l0 a_1 p_2 a_0 (((List.length a_0) : Nat) : Int) (0 : Int))) else (some (false))
set_option maxRecDepth 100000 in
theorem slices_EqualFunc_16.walk {W : Nat → Prop} {h m : Heap} {A_0 : Option Addr} {n_0 c_0 : Nat} {A_1 : Option Addr} {n_1 c_1 : Nat} {fv_2 : Value} {a_0 : List T_ward_Plan} {a_1 : List T_ward_Plan} {p_2 : T_ward_Plan → T_ward_Plan → Option Bool} (O : Hold W h m h m []) (ne_0 : n_0 = List.length a_0) (k_0 : List.length a_0 ≤ c_0) (r_0 : Rd 3 T_ward_Plan.E m A_0 a_0) (ne_1 : n_1 = List.length a_1) (k_1 : List.length a_1 ≤ c_1) (r_1 : Rd 3 T_ward_Plan.E m A_1 a_1) (f_2 : ∀ h' m', Sub m m' → Sub m' h' → ∀ (y0 : T_ward_Plan) (cs0 : List Value) (_ : T_ward_Plan.E m' y0 cs0) (y1 : T_ward_Plan) (cs1 : List Value) (_ : T_ward_Plan.E m' y1 cs1) (r : Bool), p_2 y0 y1 = some r → CallF Try.prog fv_2 [.agg cs0.toArray, .agg cs1.toArray] h' (fun v h'' => v = .bool r ∧ Ext h' h'')) {r : Bool} (e : slices_EqualFunc_16 a_0 a_1 p_2 = some r) : Run Try.prog 16 #[Value.slice A_0 n_0 c_0, Value.slice A_1 n_1 c_1, fv_2] h (slices_EqualFunc_16.post W h m r) := by
  unfold slices_EqualFunc_16 at e
  subst ne_0
  subst ne_1
  refine f16.run ?_
  unfold f16.runT
  refine split_ne_e e (fun c1 e => ?_) (fun c1 e => ?_)
  · cases e
    exact ⟨_, O.pick [], rfl⟩
  · exact slices_EqualFunc_16.l0.walk (O.pick []).nm rfl k_1 r_1 f_2 rfl k_0 r_0 e
def roadlaw3_WardTells.post (W : Nat → Prop) (h0 m0 : Heap) (r : Bool) (v : Value) (h : Heap) : Prop := ∃ m , Hold W h0 m0 h m [] ∧ v = .bool r
noncomputable def roadlaw3_WardTells.j2 (y_17 : T_ward_Ward) (a_18 : List T_ward_Plan) (x_19 : Int) (y_28 : T_ward_Ward) (a_29 : List T_ward_Plan) : Option (Bool) :=
  Option.bind (roadref3_SameWard y_17 y_28) fun y1 => if y1 = true then (Option.bind (slices_EqualFunc_16 a_18 a_29 (fun z23 z24 => roadref3_SamePlan z23 z24)) fun y8 => if y8 = true then (some ((x_19 == (0 : Int)))) else (some (false))) else (some (false))
set_option maxRecDepth 100000 in
theorem roadlaw3_WardTells.j2.walk {W : Nat → Prop} {h0 m0 h m : Heap} {bk_17 : Nat} {cs_17 : List Value} {A_18 : Option Addr} {n_18 c_18 : Nat} {bk_28 : Nat} {cs_28 : List Value} {A_29 : Option Addr} {n_29 c_29 : Nat} {y_17 : T_ward_Ward} {a_18 : List T_ward_Plan} {x_19 : Int} {y_28 : T_ward_Ward} {a_29 : List T_ward_Plan} (O : Hold W h0 m0 h m [rV bk_17 25 cs_17, rR (aE T_ward_Plan.T) A_18 c_18 a_18, rV bk_28 25 cs_28, rR (aE T_ward_Plan.T) A_29 c_29 a_29]) (e_17 : T_ward_Ward.E m y_17 cs_17) (ne_18 : n_18 = List.length a_18) (e_28 : T_ward_Ward.E m y_28 cs_28) (ne_29 : n_29 = List.length a_29) {r : Bool} (e : roadlaw3_WardTells.j2 y_17 a_18 x_19 y_28 a_29 = some r) : f3.j2 (roadlaw3_WardTells.post W h0 m0 r) (⟨bk_17, 0, none⟩ : Addr) A_18 n_18 c_18 x_19 (⟨bk_28, 0, none⟩ : Addr) A_29 n_29 c_29 h := by
  unfold roadlaw3_WardTells.j2 at e
  subst ne_18
  subst ne_29
  refine f3.j2_in ?_
  unfold f3.j2T
  refine ⟨_, ldAn (Sub.refl _) (O.all 0 rfl) (T_ward_Ward.T.len _ _ _ e_17), ?_⟩
  refine ⟨_, ldAn (Sub.refl _) (O.all 2 rfl) (T_ward_Ward.T.len _ _ _ e_28), ?_⟩
  obtain ⟨y1, g2, e⟩ := bind_e e
  refine (roadref3_SameWard.walk (Hold.start (W := No) O.s) e_17 e_28 g2).mono ?_
  rintro _ h3 ⟨m4, Q5, rfl⟩
  have O7 := Hold.nm (O.retC Q5 vfs_nil)
  refine ⟨_, rfl, ?_⟩
  refine split_any_e e (fun c35 e => ?_) (fun c35 e => ?_)
  · obtain ⟨y8, g9, e⟩ := bind_e e
    obtain ⟨m14, u15, s22, ⟨⟨r18, k19⟩, ⟨r20, k21⟩, _⟩, B16, C17⟩ := O7.lend0 [1, 3]
    replace r18 : Rd 3 T_ward_Plan.E m14 A_18 a_18 := r18
    replace k19 : List.length a_18 ≤ c_18 := k19
    replace r20 : Rd 3 T_ward_Plan.E m14 A_29 a_29 := r20
    replace k21 : List.length a_29 ≤ c_29 := k21
    refine (slices_EqualFunc_16.walk (Hold.start (W := No) s22) rfl k19 r18 rfl k21 r20 (fun h25 m26 u27 s28 y31 cs31 he31 y32 cs32 he32 r29 e30 => CallF.of [Value.agg cs31.toArray, Value.agg cs32.toArray] f13.ok rfl ((roadref3_SamePlan.walk (Hold.start (W := No) s28) he31 he32 e30).mono (fun _ _ h => let ⟨_, t, e⟩ := h; ⟨e, t.S.ext⟩))) g9).mono ?_
    rintro _ h10 ⟨m11, Q12, rfl⟩
    have O33 := Hold.nm (C17 Q12 vfs_nil)
    refine ⟨_, rfl, ?_⟩
    refine split_any_e e (fun c34 e => ?_) (fun c34 e => ?_)
    · cases e
      exact ⟨_, O33.pick [], rfl⟩
    · cases e
      exact ⟨_, O33.pick [], rfl⟩
  · cases e
    exact ⟨_, O7.pick [], rfl⟩
inductive roadlaw3_WardTells.l1_k.Pt where
  | l1 (y_17 : T_ward_Ward) (a_18 : List T_ward_Plan) (x_19 : Int) (y_20 : T_ward_Ward) (y_28 : T_ward_Ward) (a_29 : List T_ward_Plan) (a_196 : List T_ward_Fall) (x_197 : Int) (x_198 : Int)
noncomputable def roadlaw3_WardTells.l1_k.body (go : (p : roadlaw3_WardTells.l1_k.Pt) → Option (Bool)) : (p : roadlaw3_WardTells.l1_k.Pt) → Option (Bool)
  | .l1 y_17 a_18 x_19 y_20 y_28 a_29 a_196 x_197 x_198 => if x_198 < x_197 then (Option.bind (gi a_196 x_198) fun y1 => Option.bind (roadlaw3_fallen y_28 y1) fun y14 => if y14.2.2 = (0 : Int) then (Option.bind (ap 56 a_29 ([y14.2.1] : List T_ward_Plan)) fun l54 => if y14.2.1.GaveUp = true then ((roadlaw3_WardTells.j2 y_17 a_18 x_19 y14.1 l54)) else ((go (.l1 y_17 a_18 x_19 y_20 y14.1 l54 a_196 x_197 (IntKind.wrap .i64 (x_198 + (1 : Int))))))) else (Option.bind (roadref3_SameWard y_17 y_20) fun y39 => if y39 = true then (if (((List.length a_18) : Nat) : Int) = (0 : Int) then (some ((x_19 == y14.2.2))) else (some (false))) else (some (false)))) else ((roadlaw3_WardTells.j2 y_17 a_18 x_19 y_28 a_29))
theorem roadlaw3_WardTells.l1_k.mono : MonoF (β := fun _ => (Bool)) roadlaw3_WardTells.l1_k.body := fun f g hfg p => match p with
  | .l1 y_17 a_18 x_19 y_20 y_28 a_29 a_196 x_197 x_198 => LeO.ite (LeO.bind (LeO.refl _) fun y1 => LeO.bind (LeO.refl _) fun y14 => LeO.ite (LeO.bind (LeO.refl _) fun l54 => LeO.ite ((LeO.refl _)) ((hfg _))) (LeO.bind (LeO.refl _) fun y39 => LeO.ite (LeO.ite (LeO.refl _) (LeO.refl _)) (LeO.refl _))) ((LeO.refl _))
noncomputable def roadlaw3_WardTells.l1_k.go (p : roadlaw3_WardTells.l1_k.Pt) : Option (Bool) := fixF (β := fun _ => (Bool)) roadlaw3_WardTells.l1_k.body p
noncomputable def roadlaw3_WardTells.l1 (y_17 : T_ward_Ward) (a_18 : List T_ward_Plan) (x_19 : Int) (y_20 : T_ward_Ward) (y_28 : T_ward_Ward) (a_29 : List T_ward_Plan) (a_196 : List T_ward_Fall) (x_197 : Int) (x_198 : Int) : Option (Bool) := roadlaw3_WardTells.l1_k.go (.l1 y_17 a_18 x_19 y_20 y_28 a_29 a_196 x_197 x_198)
theorem roadlaw3_WardTells.l1_eq (y_17 : T_ward_Ward) (a_18 : List T_ward_Plan) (x_19 : Int) (y_20 : T_ward_Ward) (y_28 : T_ward_Ward) (a_29 : List T_ward_Plan) (a_196 : List T_ward_Fall) (x_197 : Int) (x_198 : Int) : roadlaw3_WardTells.l1 y_17 a_18 x_19 y_20 y_28 a_29 a_196 x_197 x_198 = if x_198 < x_197 then (Option.bind (gi a_196 x_198) fun y1 => Option.bind (roadlaw3_fallen y_28 y1) fun y14 => if y14.2.2 = (0 : Int) then (Option.bind (ap 56 a_29 ([y14.2.1] : List T_ward_Plan)) fun l54 => if y14.2.1.GaveUp = true then ((roadlaw3_WardTells.j2 y_17 a_18 x_19 y14.1 l54)) else ((roadlaw3_WardTells.l1 y_17 a_18 x_19 y_20 y14.1 l54 a_196 x_197 (IntKind.wrap .i64 (x_198 + (1 : Int)))))) else (Option.bind (roadref3_SameWard y_17 y_20) fun y39 => if y39 = true then (if (((List.length a_18) : Nat) : Int) = (0 : Int) then (some ((x_19 == y14.2.2))) else (some (false))) else (some (false)))) else ((roadlaw3_WardTells.j2 y_17 a_18 x_19 y_28 a_29)) := fixF_eq roadlaw3_WardTells.l1_k.mono _
def roadlaw3_WardTells.l1_k.I : (p : roadlaw3_WardTells.l1_k.Pt) → (Bool) → Prop
  | .l1 y_17 a_18 x_19 y_20 y_28 a_29 a_196 x_197 x_198, r => ∀ (W : Nat → Prop) (h0 m0 h m : Heap) (bk_17 : Nat) (cs_17 : List Value) (A_18 : Option Addr) (n_18 c_18 : Nat) (bk_20 : Nat) (cs_20 : List Value) (bk_28 : Nat) (cs_28 : List Value) (A_29 : Option Addr) (n_29 c_29 : Nat) (A_196 : Option Addr) (n_196 c_196 : Nat) (O : Hold W h0 m0 h m [rV bk_17 25 cs_17, rR (aE T_ward_Plan.T) A_18 c_18 a_18, rV bk_20 25 cs_20, rV bk_28 25 cs_28, rR (aE T_ward_Plan.T) A_29 c_29 a_29]) (e_17 : T_ward_Ward.E m y_17 cs_17) (ne_18 : n_18 = List.length a_18) (e_20 : T_ward_Ward.E m y_20 cs_20) (e_28 : T_ward_Ward.E m y_28 cs_28) (ne_29 : n_29 = List.length a_29) (ne_196 : n_196 = List.length a_196) (k_196 : List.length a_196 ≤ c_196) (r_196 : Rd 3 T_ward_Fall.E m A_196 a_196), f3.l1 (roadlaw3_WardTells.post W h0 m0 r) (⟨bk_17, 0, none⟩ : Addr) A_18 n_18 c_18 x_19 (⟨bk_20, 0, none⟩ : Addr) (⟨bk_28, 0, none⟩ : Addr) A_29 n_29 c_29 A_196 n_196 c_196 x_197 x_198 h
set_option maxHeartbeats 4000000 in
set_option maxRecDepth 100000 in
theorem roadlaw3_WardTells.l1_k.step_l1 (go : (p : roadlaw3_WardTells.l1_k.Pt) → Option (Bool)) (ih : ∀ p r, go p = some r → roadlaw3_WardTells.l1_k.I p r) (y_17 : T_ward_Ward) (a_18 : List T_ward_Plan) (x_19 : Int) (y_20 : T_ward_Ward) (y_28 : T_ward_Ward) (a_29 : List T_ward_Plan) (a_196 : List T_ward_Fall) (x_197 : Int) (x_198 : Int) (r : Bool) (e : roadlaw3_WardTells.l1_k.body go (.l1 y_17 a_18 x_19 y_20 y_28 a_29 a_196 x_197 x_198) = some r) : roadlaw3_WardTells.l1_k.I (.l1 y_17 a_18 x_19 y_20 y_28 a_29 a_196 x_197 x_198) r := by
  unfold roadlaw3_WardTells.l1_k.body at e
  intro W h0 m0 h m bk_17 cs_17 A_18 n_18 c_18 bk_20 cs_20 bk_28 cs_28 A_29 n_29 c_29 A_196 n_196 c_196 O e_17 ne_18 e_20 e_28 ne_29 ne_196 k_196 r_196
  subst ne_18
  subst ne_29
  subst ne_196
  refine f3.l1_in ?_
  unfold f3.l1T
  refine split_dec_e e (fun c124 e => ?_) (fun c124 e => ?_)
  · obtain ⟨y1, g2, e⟩ := bind_e e
    refine r_196.addr rfl g2 fun a3 cs4 ha5 hc6 he7 => ?_
    refine ⟨_, ldAn O.s hc6 rfl, ?_⟩
    refine O.new fun h8 x9 O10 => ?_
    refine ⟨_, rfl, (T_ward_Fall.T.len _ _ _ he7), ?_⟩
    refine O10.stA 5 rfl (T_ward_Fall.T.len _ _ _ he7) (T_ward_Fall.T.flat _ _ _ he7) fun h12 O13 => ?_
    refine ⟨_, ldAn (Sub.refl _) (O13.all 3 rfl) (T_ward_Ward.T.len _ _ _ e_28), ?_⟩
    refine ⟨_, ldAn (Sub.refl _) (O13.all 5 rfl) (T_ward_Fall.T.len _ _ _ he7), ?_⟩
    obtain ⟨y14, g15, e⟩ := bind_e e
    refine (roadlaw3_fallen.walk (Hold.start (W := No) O13.s) e_28 he7 g15).mono ?_
    rintro _ h16 ⟨m17, cs21, cs24, Q18, rfl, he22, he25⟩
    have O26 := Hold.nm (O13.ret Q18)
    refine ⟨_, _, _, rfl, ?_⟩
    refine O26.new fun h27 x28 O29 => ?_
    refine O29.new fun h31 x32 O33 => ?_
    refine ⟨_, rfl, (T_ward_Ward.T.len _ _ _ he22), ?_⟩
    refine O33.stA 6 rfl (T_ward_Ward.T.len _ _ _ he22) (T_ward_Ward.T.flat _ _ _ he22) fun h35 O36 => ?_
    refine ⟨_, rfl, (T_ward_Plan.T.len _ _ _ he25), ?_⟩
    refine O36.stA 7 rfl (T_ward_Plan.T.len _ _ _ he25) (T_ward_Plan.T.flat _ _ _ he25) fun h37 O38 => ?_
    refine split_ne_e e (fun c123 e => ?_) (fun c123 e => ?_)
    · refine ⟨_, ldAn (Sub.refl _) (O38.all 0 rfl) (T_ward_Ward.T.len _ _ _ e_17), ?_⟩
      refine ⟨_, ldAn (Sub.refl _) (O38.all 2 rfl) (T_ward_Ward.T.len _ _ _ e_20), ?_⟩
      obtain ⟨y39, g40, e⟩ := bind_e e
      refine (roadref3_SameWard.walk (Hold.start (W := No) O38.s) (T_ward_Ward.T.mono _ _ _ _ Q18.S.up e_17) (T_ward_Ward.T.mono _ _ _ _ Q18.S.up e_20) g40).mono ?_
      rintro _ h41 ⟨m42, Q43, rfl⟩
      have O45 := Hold.nm (O38.retC Q43 vfs_nil)
      refine ⟨_, rfl, ?_⟩
      refine split_any_e e (fun c47 e => ?_) (fun c47 e => ?_)
      · refine split_eq_e e (fun c46 e => ?_) (fun c46 e => ?_)
        · cases e
          exact ⟨_, O45.pick [], rfl⟩
        · cases e
          exact ⟨_, O45.pick [], rfl⟩
      · cases e
        exact ⟨_, O45.pick [], rfl⟩
    · obtain ⟨l54, g55, e⟩ := bind_e e
      refine ⟨_, ldAn (Sub.refl _) (O38.all 7 rfl) (T_ward_Plan.T.len _ _ _ he25), ?_⟩
      refine ⟨?_, ?_⟩
      · refine ⟨_, ldAn (Sub.refl _) (O38.all 6 rfl) (T_ward_Ward.T.len _ _ _ he22), ?_⟩
        refine ⟨Ext.refl _, ?_⟩
        refine ⟨cs24, rfl, (T_ward_Plan.T.len _ _ _ he25), ?_⟩
        refine O38.new fun h68 x69 O70 => ?_
        have O72 := O70.recell 8 rfl (cs' := cs24 ++ []) rfl
        have O73 := O72.nm
        have O82 := O73.rowE (l := ([y14.2.1] : List T_ward_Plan)) 8 rfl T_ward_Plan.T (show CsE _ _ _ _ _ from (CsE.cons he25 (T_ward_Plan.T.len _ _ _ he25) CsE.nil)) rfl
        refine O82.app 4 rfl rfl rfl ((O82.os 8 rfl).srcE rfl) (by decide) g55 fun A76 c77 h78 O79 => ?_
        refine ⟨_, _, _, rfl, ?_⟩
        refine ⟨_, rfl, (T_ward_Ward.T.len _ _ _ he22), ?_⟩
        refine O79.stA 3 rfl ((T_ward_Ward.T.len _ _ _ he22).trans ((T_ward_Ward.T.len _ _ _ e_28)).symm) (T_ward_Ward.T.flat _ _ _ he22) fun h83 O84 => ?_
        refine ⟨_, ldk (k := 2) (Sub.refl _) (O84.all 7 rfl) (T_ward_Plan.g2 he25), _, rfl, ?_⟩
        refine split_any_e e (fun c87 e => ?_) (fun c87 e => ?_)
        · have O85 := O84.nm
          exact roadlaw3_WardTells.j2.walk (O85.pick [0, 1, 3, 4]).nm (T_ward_Ward.T.mono _ _ _ _ Q18.S.up e_17) rfl he22 rfl e
        · have O86 := O84.nm
          exact (ih _ _ e) _ _ _ _ _ _ _ _ _ _ _ _ _ _ _ _ _ _ _ _ (O86.pick [0, 1, 2, 3, 4]).nm (T_ward_Ward.T.mono _ _ _ _ Q18.S.up e_17) rfl (T_ward_Ward.T.mono _ _ _ _ Q18.S.up e_20) he22 rfl rfl k_196 (r_196.sub T_ward_Fall.T Q18.S.up)
      · refine ⟨cs24, rfl, (T_ward_Plan.T.len _ _ _ he25), ?_⟩
        refine O38.new fun h88 x89 O90 => ?_
        have O92 := O90.recell 8 rfl (cs' := cs24 ++ []) rfl
        refine ⟨?_, ?_⟩
        · have O93 := O92.nm
          refine ⟨_, ldAn (Sub.refl _) (O93.all 6 rfl) (T_ward_Ward.T.len _ _ _ he22), ?_⟩
          refine ⟨Ext.refl _, ?_⟩
          have O102 := O93.rowE (l := ([y14.2.1] : List T_ward_Plan)) 8 rfl T_ward_Plan.T (show CsE _ _ _ _ _ from (CsE.cons he25 (T_ward_Plan.T.len _ _ _ he25) CsE.nil)) rfl
          refine O102.app 4 rfl rfl rfl ((O102.os 8 rfl).srcE rfl) (by decide) g55 fun A96 c97 h98 O99 => ?_
          refine ⟨_, _, _, rfl, ?_⟩
          refine ⟨_, rfl, (T_ward_Ward.T.len _ _ _ he22), ?_⟩
          refine O99.stA 3 rfl ((T_ward_Ward.T.len _ _ _ he22).trans ((T_ward_Ward.T.len _ _ _ e_28)).symm) (T_ward_Ward.T.flat _ _ _ he22) fun h103 O104 => ?_
          refine ⟨_, ldk (k := 2) (Sub.refl _) (O104.all 7 rfl) (T_ward_Plan.g2 he25), _, rfl, ?_⟩
          refine split_any_e e (fun c107 e => ?_) (fun c107 e => ?_)
          · have O105 := O104.nm
            exact roadlaw3_WardTells.j2.walk (O105.pick [0, 1, 3, 4]).nm (T_ward_Ward.T.mono _ _ _ _ Q18.S.up e_17) rfl he22 rfl e
          · have O106 := O104.nm
            exact (ih _ _ e) _ _ _ _ _ _ _ _ _ _ _ _ _ _ _ _ _ _ _ _ (O106.pick [0, 1, 2, 3, 4]).nm (T_ward_Ward.T.mono _ _ _ _ Q18.S.up e_17) rfl (T_ward_Ward.T.mono _ _ _ _ Q18.S.up e_20) he22 rfl rfl k_196 (r_196.sub T_ward_Fall.T Q18.S.up)
        · have O108 := O92.nm
          have O117 := O108.rowE (l := ([y14.2.1] : List T_ward_Plan)) 8 rfl T_ward_Plan.T (show CsE _ _ _ _ _ from (CsE.cons he25 (T_ward_Plan.T.len _ _ _ he25) CsE.nil)) rfl
          refine O117.app 4 rfl rfl rfl ((O117.os 8 rfl).srcE rfl) (by decide) g55 fun A111 c112 h113 O114 => ?_
          refine ⟨_, _, _, rfl, ?_⟩
          refine ⟨_, ldAn (Sub.refl _) (O114.all 6 rfl) (T_ward_Ward.T.len _ _ _ he22), ?_⟩
          refine ⟨Ext.refl _, ?_⟩
          refine ⟨_, rfl, (T_ward_Ward.T.len _ _ _ he22), ?_⟩
          refine O114.stA 3 rfl ((T_ward_Ward.T.len _ _ _ he22).trans ((T_ward_Ward.T.len _ _ _ e_28)).symm) (T_ward_Ward.T.flat _ _ _ he22) fun h118 O119 => ?_
          refine ⟨_, ldk (k := 2) (Sub.refl _) (O119.all 7 rfl) (T_ward_Plan.g2 he25), _, rfl, ?_⟩
          refine split_any_e e (fun c122 e => ?_) (fun c122 e => ?_)
          · have O120 := O119.nm
            exact roadlaw3_WardTells.j2.walk (O120.pick [0, 1, 3, 4]).nm (T_ward_Ward.T.mono _ _ _ _ Q18.S.up e_17) rfl he22 rfl e
          · have O121 := O119.nm
            exact (ih _ _ e) _ _ _ _ _ _ _ _ _ _ _ _ _ _ _ _ _ _ _ _ (O121.pick [0, 1, 2, 3, 4]).nm (T_ward_Ward.T.mono _ _ _ _ Q18.S.up e_17) rfl (T_ward_Ward.T.mono _ _ _ _ Q18.S.up e_20) he22 rfl rfl k_196 (r_196.sub T_ward_Fall.T Q18.S.up)
  · exact roadlaw3_WardTells.j2.walk (O.pick [0, 1, 3, 4]).nm e_17 rfl e_28 rfl e
theorem roadlaw3_WardTells.l1_k.all {p : roadlaw3_WardTells.l1_k.Pt} {r : (Bool)} (e : roadlaw3_WardTells.l1_k.go p = some r) : roadlaw3_WardTells.l1_k.I p r := fixF_ind (β := fun _ => (Bool)) roadlaw3_WardTells.l1_k.mono (I := roadlaw3_WardTells.l1_k.I) (fun go ih p r e => match p with
  | .l1 y_17 a_18 x_19 y_20 y_28 a_29 a_196 x_197 x_198 => roadlaw3_WardTells.l1_k.step_l1 go ih y_17 a_18 x_19 y_20 y_28 a_29 a_196 x_197 x_198 r e
  ) e
theorem roadlaw3_WardTells.l1.walk {W : Nat → Prop} {h0 m0 h m : Heap} {bk_17 : Nat} {cs_17 : List Value} {A_18 : Option Addr} {n_18 c_18 : Nat} {bk_20 : Nat} {cs_20 : List Value} {bk_28 : Nat} {cs_28 : List Value} {A_29 : Option Addr} {n_29 c_29 : Nat} {A_196 : Option Addr} {n_196 c_196 : Nat} {y_17 : T_ward_Ward} {a_18 : List T_ward_Plan} {x_19 : Int} {y_20 : T_ward_Ward} {y_28 : T_ward_Ward} {a_29 : List T_ward_Plan} {a_196 : List T_ward_Fall} {x_197 : Int} {x_198 : Int} (O : Hold W h0 m0 h m [rV bk_17 25 cs_17, rR (aE T_ward_Plan.T) A_18 c_18 a_18, rV bk_20 25 cs_20, rV bk_28 25 cs_28, rR (aE T_ward_Plan.T) A_29 c_29 a_29]) (e_17 : T_ward_Ward.E m y_17 cs_17) (ne_18 : n_18 = List.length a_18) (e_20 : T_ward_Ward.E m y_20 cs_20) (e_28 : T_ward_Ward.E m y_28 cs_28) (ne_29 : n_29 = List.length a_29) (ne_196 : n_196 = List.length a_196) (k_196 : List.length a_196 ≤ c_196) (r_196 : Rd 3 T_ward_Fall.E m A_196 a_196) {r : Bool} (e : roadlaw3_WardTells.l1 y_17 a_18 x_19 y_20 y_28 a_29 a_196 x_197 x_198 = some r) : f3.l1 (roadlaw3_WardTells.post W h0 m0 r) (⟨bk_17, 0, none⟩ : Addr) A_18 n_18 c_18 x_19 (⟨bk_20, 0, none⟩ : Addr) (⟨bk_28, 0, none⟩ : Addr) A_29 n_29 c_29 A_196 n_196 c_196 x_197 x_198 h := roadlaw3_WardTells.l1_k.all (p := .l1 y_17 a_18 x_19 y_20 y_28 a_29 a_196 x_197 x_198) e W h0 m0 h m bk_17 cs_17 A_18 n_18 c_18 bk_20 cs_20 bk_28 cs_28 A_29 n_29 c_29 A_196 n_196 c_196 O e_17 ne_18 e_20 e_28 ne_29 ne_196 k_196 r_196
noncomputable def roadlaw3_WardTells.j1 (a_4 : List T_ward_Fall) (y_5 : T_ward_Ward) (y_17 : T_ward_Ward) (a_18 : List T_ward_Plan) (x_19 : Int) (y_20 : T_ward_Ward) : Option (Bool) :=
  if (((List.length a_4) : Nat) : Int) > (50 : Int) then (Option.bind (roadref3_SameWard y_17 y_20) fun y1 => if y1 = true then (if (((List.length a_18) : Nat) : Int) = (0 : Int) then (some ((x_19 == (2 : Int)))) else (some (false))) else (some (false))) else ((roadlaw3_WardTells.l1 y_17 a_18 x_19 y_20 y_5 ([] : List T_ward_Plan) a_4 (((List.length a_4) : Nat) : Int) (0 : Int)))
set_option maxRecDepth 100000 in
theorem roadlaw3_WardTells.j1.walk {W : Nat → Prop} {h0 m0 h m : Heap} {A_4 : Option Addr} {n_4 c_4 : Nat} {bk_5 : Nat} {cs_5 : List Value} {bk_17 : Nat} {cs_17 : List Value} {A_18 : Option Addr} {n_18 c_18 : Nat} {bk_20 : Nat} {cs_20 : List Value} {a_4 : List T_ward_Fall} {y_5 : T_ward_Ward} {y_17 : T_ward_Ward} {a_18 : List T_ward_Plan} {x_19 : Int} {y_20 : T_ward_Ward} (O : Hold W h0 m0 h m [rV bk_5 25 cs_5, rV bk_17 25 cs_17, rR (aE T_ward_Plan.T) A_18 c_18 a_18, rV bk_20 25 cs_20]) (ne_4 : n_4 = List.length a_4) (k_4 : List.length a_4 ≤ c_4) (r_4 : Rd 3 T_ward_Fall.E m A_4 a_4) (e_5 : T_ward_Ward.E m y_5 cs_5) (e_17 : T_ward_Ward.E m y_17 cs_17) (ne_18 : n_18 = List.length a_18) (e_20 : T_ward_Ward.E m y_20 cs_20) {r : Bool} (e : roadlaw3_WardTells.j1 a_4 y_5 y_17 a_18 x_19 y_20 = some r) : f3.j1 (roadlaw3_WardTells.post W h0 m0 r) A_4 n_4 c_4 (⟨bk_5, 0, none⟩ : Addr) (⟨bk_17, 0, none⟩ : Addr) A_18 n_18 c_18 x_19 (⟨bk_20, 0, none⟩ : Addr) h := by
  unfold roadlaw3_WardTells.j1 at e
  subst ne_4
  subst ne_18
  refine f3.j1_in ?_
  unfold f3.j1T
  refine split_dec_e e (fun c19 e => ?_) (fun c19 e => ?_)
  · refine ⟨_, ldAn (Sub.refl _) (O.all 1 rfl) (T_ward_Ward.T.len _ _ _ e_17), ?_⟩
    refine ⟨_, ldAn (Sub.refl _) (O.all 3 rfl) (T_ward_Ward.T.len _ _ _ e_20), ?_⟩
    obtain ⟨y1, g2, e⟩ := bind_e e
    refine (roadref3_SameWard.walk (Hold.start (W := No) O.s) e_17 e_20 g2).mono ?_
    rintro _ h3 ⟨m4, Q5, rfl⟩
    have O7 := Hold.nm (O.retC Q5 vfs_nil)
    refine ⟨_, rfl, ?_⟩
    refine split_any_e e (fun c9 e => ?_) (fun c9 e => ?_)
    · refine split_eq_e e (fun c8 e => ?_) (fun c8 e => ?_)
      · cases e
        exact ⟨_, O7.pick [], rfl⟩
      · cases e
        exact ⟨_, O7.pick [], rfl⟩
    · cases e
      exact ⟨_, O7.pick [], rfl⟩
  · refine ⟨_, ldAn (Sub.refl _) (O.all 0 rfl) (T_ward_Ward.T.len _ _ _ e_5), ?_⟩
    refine O.new fun h10 x11 O12 => ?_
    refine ⟨_, rfl, (T_ward_Ward.T.len _ _ _ e_5), ?_⟩
    refine O12.stA 4 rfl (T_ward_Ward.T.len _ _ _ e_5) (T_ward_Ward.T.flat _ _ _ e_5) fun h14 O15 => ?_
    have O16 := O15.nil (aE T_ward_Plan.T) none
    have O18 := O16.nm
    exact roadlaw3_WardTells.l1.walk (O18.pick [1, 2, 3, 4, 5]).nm e_17 rfl e_20 e_5 rfl rfl k_4 r_4 e
noncomputable def roadlaw3_WardTells.j0 (x_1 : Int) (b_2 : Bool) (x_3 : Int) (a_4 : List T_ward_Fall) (y_5 : T_ward_Ward) (y_14 : T_ward_Ward) (y_15 : T_ward_Plan) (x_16 : Int) (y_17 : T_ward_Ward) (a_18 : List T_ward_Plan) (x_19 : Int) (y_20 : T_ward_Ward) : Option (Bool) :=
  Option.bind (roadlaw3_fallen y_5 (T_ward_Fall.mk x_1 b_2 x_3)) fun y1 => Option.bind (roadref3_SameWard y_14 y1.1) fun y26 => if y26 = true then (Option.bind (roadref3_SamePlan y_15 y1.2.1) fun y33 => if y33 = true then (if x_16 = y1.2.2 then ((roadlaw3_WardTells.j1 a_4 y_5 y_17 a_18 x_19 y_20)) else (some (false))) else (some (false))) else (some (false))
set_option maxHeartbeats 4000000 in
set_option maxRecDepth 100000 in
theorem roadlaw3_WardTells.j0.walk {W : Nat → Prop} {h0 m0 h m : Heap} {A_4 : Option Addr} {n_4 c_4 : Nat} {bk_5 : Nat} {cs_5 : List Value} {bk_14 : Nat} {cs_14 : List Value} {bk_15 : Nat} {cs_15 : List Value} {bk_17 : Nat} {cs_17 : List Value} {A_18 : Option Addr} {n_18 c_18 : Nat} {bk_20 : Nat} {cs_20 : List Value} {x_1 : Int} {b_2 : Bool} {x_3 : Int} {a_4 : List T_ward_Fall} {y_5 : T_ward_Ward} {y_14 : T_ward_Ward} {y_15 : T_ward_Plan} {x_16 : Int} {y_17 : T_ward_Ward} {a_18 : List T_ward_Plan} {x_19 : Int} {y_20 : T_ward_Ward} (O : Hold W h0 m0 h m [rV bk_5 25 cs_5, rV bk_14 25 cs_14, rV bk_15 31 cs_15, rV bk_17 25 cs_17, rR (aE T_ward_Plan.T) A_18 c_18 a_18, rV bk_20 25 cs_20]) (ne_4 : n_4 = List.length a_4) (k_4 : List.length a_4 ≤ c_4) (r_4 : Rd 3 T_ward_Fall.E m A_4 a_4) (e_5 : T_ward_Ward.E m y_5 cs_5) (e_14 : T_ward_Ward.E m y_14 cs_14) (e_15 : T_ward_Plan.E m y_15 cs_15) (e_17 : T_ward_Ward.E m y_17 cs_17) (ne_18 : n_18 = List.length a_18) (e_20 : T_ward_Ward.E m y_20 cs_20) {r : Bool} (e : roadlaw3_WardTells.j0 x_1 b_2 x_3 a_4 y_5 y_14 y_15 x_16 y_17 a_18 x_19 y_20 = some r) : f3.j0 (roadlaw3_WardTells.post W h0 m0 r) x_1 b_2 x_3 A_4 n_4 c_4 (⟨bk_5, 0, none⟩ : Addr) (⟨bk_14, 0, none⟩ : Addr) (⟨bk_15, 0, none⟩ : Addr) x_16 (⟨bk_17, 0, none⟩ : Addr) A_18 n_18 c_18 x_19 (⟨bk_20, 0, none⟩ : Addr) h := by
  unfold roadlaw3_WardTells.j0 at e
  subst ne_4
  subst ne_18
  refine f3.j0_in ?_
  unfold f3.j0T
  refine ⟨_, ldAn (Sub.refl _) (O.all 0 rfl) (T_ward_Ward.T.len _ _ _ e_5), ?_⟩
  obtain ⟨y1, g2, e⟩ := bind_e e
  refine (roadlaw3_fallen.walk (Hold.start (W := No) O.s) e_5 (show T_ward_Fall.E _ (T_ward_Fall.mk x_1 b_2 x_3) [(Value.int .i64 x_1), (Value.bool b_2), (Value.int .i64 x_3)] from rfl) g2).mono ?_
  rintro _ h3 ⟨m4, cs8, cs11, Q5, rfl, he9, he12⟩
  have O13 := Hold.nm (O.ret Q5)
  refine ⟨_, _, _, rfl, ?_⟩
  refine O13.new fun h14 x15 O16 => ?_
  refine O16.new fun h18 x19 O20 => ?_
  refine ⟨_, rfl, (T_ward_Ward.T.len _ _ _ he9), ?_⟩
  refine O20.stA 6 rfl (T_ward_Ward.T.len _ _ _ he9) (T_ward_Ward.T.flat _ _ _ he9) fun h22 O23 => ?_
  refine ⟨_, rfl, (T_ward_Plan.T.len _ _ _ he12), ?_⟩
  refine O23.stA 7 rfl (T_ward_Plan.T.len _ _ _ he12) (T_ward_Plan.T.flat _ _ _ he12) fun h24 O25 => ?_
  refine ⟨_, ldAn (Sub.refl _) (O25.all 1 rfl) (T_ward_Ward.T.len _ _ _ e_14), ?_⟩
  refine ⟨_, ldAn (Sub.refl _) (O25.all 6 rfl) (T_ward_Ward.T.len _ _ _ he9), ?_⟩
  obtain ⟨y26, g27, e⟩ := bind_e e
  refine (roadref3_SameWard.walk (Hold.start (W := No) O25.s) (T_ward_Ward.T.mono _ _ _ _ Q5.S.up e_14) he9 g27).mono ?_
  rintro _ h28 ⟨m29, Q30, rfl⟩
  have O32 := Hold.nm (O25.retC Q30 vfs_nil)
  refine ⟨_, rfl, ?_⟩
  refine split_not ?_
  refine split_any_e e (fun c42 e => ?_) (fun c42 e => ?_)
  · refine ⟨_, ldAn (Sub.refl _) (O32.all 2 rfl) (T_ward_Plan.T.len _ _ _ e_15), ?_⟩
    refine ⟨_, ldAn (Sub.refl _) (O32.all 7 rfl) (T_ward_Plan.T.len _ _ _ he12), ?_⟩
    obtain ⟨y33, g34, e⟩ := bind_e e
    refine (roadref3_SamePlan.walk (Hold.start (W := No) O32.s) (T_ward_Plan.T.mono _ _ _ _ Q5.S.up e_15) he12 g34).mono ?_
    rintro _ h35 ⟨m36, Q37, rfl⟩
    have O39 := Hold.nm (O32.retC Q37 vfs_nil)
    refine ⟨_, rfl, ?_⟩
    refine split_not ?_
    refine split_any_e e (fun c41 e => ?_) (fun c41 e => ?_)
    · refine split_ne_e e (fun c40 e => ?_) (fun c40 e => ?_)
      · cases e
        exact ⟨_, O39.pick [], rfl⟩
      · exact roadlaw3_WardTells.j1.walk (O39.pick [0, 3, 4, 5]).nm rfl k_4 (r_4.sub T_ward_Fall.T Q5.S.up) (T_ward_Ward.T.mono _ _ _ _ Q5.S.up e_5) (T_ward_Ward.T.mono _ _ _ _ Q5.S.up e_17) rfl (T_ward_Ward.T.mono _ _ _ _ Q5.S.up e_20) e
    · cases e
      exact ⟨_, O39.pick [], rfl⟩
  · cases e
    exact ⟨_, O32.pick [], rfl⟩
inductive roadlaw3_WardTells.l0_k.Pt where
  | l0 (x_1 : Int) (b_2 : Bool) (x_3 : Int) (a_4 : List T_ward_Fall) (y_5 : T_ward_Ward) (y_11 : T_ward_Ward) (a_12 : List Int) (x_13 : Int) (y_14 : T_ward_Ward) (y_15 : T_ward_Plan) (x_16 : Int) (y_17 : T_ward_Ward) (a_18 : List T_ward_Plan) (x_19 : Int) (y_20 : T_ward_Ward) (x_22_0 : Int) (x_22_1 : Int) (x_22_2 : Int) (a_22_3 : (List T_ward_Child)) (a_22_4 : (List Int)) (a_23 : List Int) (a_119 : List T_ward_Child) (x_120 : Int) (x_121 : Int)
  | j3 (x_1 : Int) (b_2 : Bool) (x_3 : Int) (a_4 : List T_ward_Fall) (y_5 : T_ward_Ward) (y_11 : T_ward_Ward) (a_12 : List Int) (x_13 : Int) (y_14 : T_ward_Ward) (y_15 : T_ward_Plan) (x_16 : Int) (y_17 : T_ward_Ward) (a_18 : List T_ward_Plan) (x_19 : Int) (y_20 : T_ward_Ward) (x_22_0 : Int) (x_22_1 : Int) (x_22_2 : Int) (a_22_3 : (List T_ward_Child)) (a_22_4 : (List Int)) (a_23 : List Int) (y_25 : T_ward_Child) (a_119 : List T_ward_Child) (x_120 : Int) (x_121 : Int)
noncomputable def roadlaw3_WardTells.l0_k.body (go : (p : roadlaw3_WardTells.l0_k.Pt) → Option (Bool)) : (p : roadlaw3_WardTells.l0_k.Pt) → Option (Bool)
  | .l0 x_1 b_2 x_3 a_4 y_5 y_11 a_12 x_13 y_14 y_15 x_16 y_17 a_18 x_19 y_20 x_22_0 x_22_1 x_22_2 a_22_3 a_22_4 a_23 a_119 x_120 x_121 => if x_121 < x_120 then (Option.bind (gi a_119 x_121) fun y1 => if y1.Lives = true then ((go (.j3 x_1 b_2 x_3 a_4 y_5 y_11 a_12 x_13 y_14 y_15 x_16 y_17 a_18 x_19 y_20 x_22_0 x_22_1 x_22_2 a_22_3 a_22_4 a_23 y1 a_119 x_120 x_121))) else (Option.bind (ap 8 a_23 ([y1.Id] : List Int)) fun l19 => (go (.j3 x_1 b_2 x_3 a_4 y_5 y_11 a_12 x_13 y_14 y_15 x_16 y_17 a_18 x_19 y_20 x_22_0 x_22_1 x_22_2 a_22_3 a_22_4 l19 y1 a_119 x_120 x_121)))) else (Option.bind (roadref3_SameWard y_11 (T_ward_Ward.mk x_22_0 x_22_1 x_22_2 a_22_3 a_22_4)) fun y30 => if y30 = true then (Option.bind (slices_Equal_14 a_12 a_23) fun y44 => if y44 = true then (if x_13 = (0 : Int) then ((roadlaw3_WardTells.j0 x_1 b_2 x_3 a_4 y_5 y_14 y_15 x_16 y_17 a_18 x_19 y_20)) else (some (false))) else (some (false))) else (some (false)))
  | .j3 x_1 b_2 x_3 a_4 y_5 y_11 a_12 x_13 y_14 y_15 x_16 y_17 a_18 x_19 y_20 x_22_0 x_22_1 x_22_2 a_22_3 a_22_4 a_23 y_25 a_119 x_120 x_121 => Option.bind (ap 24 a_22_3 ([({ y_25 with Lives := true })] : List T_ward_Child)) fun l10 => (go (.l0 x_1 b_2 x_3 a_4 y_5 y_11 a_12 x_13 y_14 y_15 x_16 y_17 a_18 x_19 y_20 x_22_0 x_22_1 x_22_2 l10 a_22_4 a_23 a_119 x_120 (IntKind.wrap .i64 (x_121 + (1 : Int)))))
theorem roadlaw3_WardTells.l0_k.mono : MonoF (β := fun _ => (Bool)) roadlaw3_WardTells.l0_k.body := fun f g hfg p => match p with
  | .l0 x_1 b_2 x_3 a_4 y_5 y_11 a_12 x_13 y_14 y_15 x_16 y_17 a_18 x_19 y_20 x_22_0 x_22_1 x_22_2 a_22_3 a_22_4 a_23 a_119 x_120 x_121 => LeO.ite (LeO.bind (LeO.refl _) fun y1 => LeO.ite ((hfg _)) (LeO.bind (LeO.refl _) fun l19 => (hfg _))) (LeO.bind (LeO.refl _) fun y30 => LeO.ite (LeO.bind (LeO.refl _) fun y44 => LeO.ite (LeO.ite ((LeO.refl _)) (LeO.refl _)) (LeO.refl _)) (LeO.refl _))
  | .j3 x_1 b_2 x_3 a_4 y_5 y_11 a_12 x_13 y_14 y_15 x_16 y_17 a_18 x_19 y_20 x_22_0 x_22_1 x_22_2 a_22_3 a_22_4 a_23 y_25 a_119 x_120 x_121 => LeO.bind (LeO.refl _) fun l10 => (hfg _)
noncomputable def roadlaw3_WardTells.l0_k.go (p : roadlaw3_WardTells.l0_k.Pt) : Option (Bool) := fixF (β := fun _ => (Bool)) roadlaw3_WardTells.l0_k.body p
noncomputable def roadlaw3_WardTells.l0 (x_1 : Int) (b_2 : Bool) (x_3 : Int) (a_4 : List T_ward_Fall) (y_5 : T_ward_Ward) (y_11 : T_ward_Ward) (a_12 : List Int) (x_13 : Int) (y_14 : T_ward_Ward) (y_15 : T_ward_Plan) (x_16 : Int) (y_17 : T_ward_Ward) (a_18 : List T_ward_Plan) (x_19 : Int) (y_20 : T_ward_Ward) (x_22_0 : Int) (x_22_1 : Int) (x_22_2 : Int) (a_22_3 : (List T_ward_Child)) (a_22_4 : (List Int)) (a_23 : List Int) (a_119 : List T_ward_Child) (x_120 : Int) (x_121 : Int) : Option (Bool) := roadlaw3_WardTells.l0_k.go (.l0 x_1 b_2 x_3 a_4 y_5 y_11 a_12 x_13 y_14 y_15 x_16 y_17 a_18 x_19 y_20 x_22_0 x_22_1 x_22_2 a_22_3 a_22_4 a_23 a_119 x_120 x_121)
noncomputable def roadlaw3_WardTells.j3 (x_1 : Int) (b_2 : Bool) (x_3 : Int) (a_4 : List T_ward_Fall) (y_5 : T_ward_Ward) (y_11 : T_ward_Ward) (a_12 : List Int) (x_13 : Int) (y_14 : T_ward_Ward) (y_15 : T_ward_Plan) (x_16 : Int) (y_17 : T_ward_Ward) (a_18 : List T_ward_Plan) (x_19 : Int) (y_20 : T_ward_Ward) (x_22_0 : Int) (x_22_1 : Int) (x_22_2 : Int) (a_22_3 : (List T_ward_Child)) (a_22_4 : (List Int)) (a_23 : List Int) (y_25 : T_ward_Child) (a_119 : List T_ward_Child) (x_120 : Int) (x_121 : Int) : Option (Bool) := roadlaw3_WardTells.l0_k.go (.j3 x_1 b_2 x_3 a_4 y_5 y_11 a_12 x_13 y_14 y_15 x_16 y_17 a_18 x_19 y_20 x_22_0 x_22_1 x_22_2 a_22_3 a_22_4 a_23 y_25 a_119 x_120 x_121)
theorem roadlaw3_WardTells.l0_eq (x_1 : Int) (b_2 : Bool) (x_3 : Int) (a_4 : List T_ward_Fall) (y_5 : T_ward_Ward) (y_11 : T_ward_Ward) (a_12 : List Int) (x_13 : Int) (y_14 : T_ward_Ward) (y_15 : T_ward_Plan) (x_16 : Int) (y_17 : T_ward_Ward) (a_18 : List T_ward_Plan) (x_19 : Int) (y_20 : T_ward_Ward) (x_22_0 : Int) (x_22_1 : Int) (x_22_2 : Int) (a_22_3 : (List T_ward_Child)) (a_22_4 : (List Int)) (a_23 : List Int) (a_119 : List T_ward_Child) (x_120 : Int) (x_121 : Int) : roadlaw3_WardTells.l0 x_1 b_2 x_3 a_4 y_5 y_11 a_12 x_13 y_14 y_15 x_16 y_17 a_18 x_19 y_20 x_22_0 x_22_1 x_22_2 a_22_3 a_22_4 a_23 a_119 x_120 x_121 = if x_121 < x_120 then (Option.bind (gi a_119 x_121) fun y1 => if y1.Lives = true then ((roadlaw3_WardTells.j3 x_1 b_2 x_3 a_4 y_5 y_11 a_12 x_13 y_14 y_15 x_16 y_17 a_18 x_19 y_20 x_22_0 x_22_1 x_22_2 a_22_3 a_22_4 a_23 y1 a_119 x_120 x_121)) else (Option.bind (ap 8 a_23 ([y1.Id] : List Int)) fun l19 => (roadlaw3_WardTells.j3 x_1 b_2 x_3 a_4 y_5 y_11 a_12 x_13 y_14 y_15 x_16 y_17 a_18 x_19 y_20 x_22_0 x_22_1 x_22_2 a_22_3 a_22_4 l19 y1 a_119 x_120 x_121))) else (Option.bind (roadref3_SameWard y_11 (T_ward_Ward.mk x_22_0 x_22_1 x_22_2 a_22_3 a_22_4)) fun y30 => if y30 = true then (Option.bind (slices_Equal_14 a_12 a_23) fun y44 => if y44 = true then (if x_13 = (0 : Int) then ((roadlaw3_WardTells.j0 x_1 b_2 x_3 a_4 y_5 y_14 y_15 x_16 y_17 a_18 x_19 y_20)) else (some (false))) else (some (false))) else (some (false))) := fixF_eq roadlaw3_WardTells.l0_k.mono _
theorem roadlaw3_WardTells.j3_eq (x_1 : Int) (b_2 : Bool) (x_3 : Int) (a_4 : List T_ward_Fall) (y_5 : T_ward_Ward) (y_11 : T_ward_Ward) (a_12 : List Int) (x_13 : Int) (y_14 : T_ward_Ward) (y_15 : T_ward_Plan) (x_16 : Int) (y_17 : T_ward_Ward) (a_18 : List T_ward_Plan) (x_19 : Int) (y_20 : T_ward_Ward) (x_22_0 : Int) (x_22_1 : Int) (x_22_2 : Int) (a_22_3 : (List T_ward_Child)) (a_22_4 : (List Int)) (a_23 : List Int) (y_25 : T_ward_Child) (a_119 : List T_ward_Child) (x_120 : Int) (x_121 : Int) : roadlaw3_WardTells.j3 x_1 b_2 x_3 a_4 y_5 y_11 a_12 x_13 y_14 y_15 x_16 y_17 a_18 x_19 y_20 x_22_0 x_22_1 x_22_2 a_22_3 a_22_4 a_23 y_25 a_119 x_120 x_121 = Option.bind (ap 24 a_22_3 ([({ y_25 with Lives := true })] : List T_ward_Child)) fun l10 => (roadlaw3_WardTells.l0 x_1 b_2 x_3 a_4 y_5 y_11 a_12 x_13 y_14 y_15 x_16 y_17 a_18 x_19 y_20 x_22_0 x_22_1 x_22_2 l10 a_22_4 a_23 a_119 x_120 (IntKind.wrap .i64 (x_121 + (1 : Int)))) := fixF_eq roadlaw3_WardTells.l0_k.mono _
def roadlaw3_WardTells.l0_k.I : (p : roadlaw3_WardTells.l0_k.Pt) → (Bool) → Prop
  | .l0 x_1 b_2 x_3 a_4 y_5 y_11 a_12 x_13 y_14 y_15 x_16 y_17 a_18 x_19 y_20 x_22_0 x_22_1 x_22_2 a_22_3 a_22_4 a_23 a_119 x_120 x_121, r => ∀ (W : Nat → Prop) (h0 m0 h m : Heap) (A_4 : Option Addr) (n_4 c_4 : Nat) (bk_5 : Nat) (cs_5 : List Value) (bk_11 : Nat) (cs_11 : List Value) (A_12 : Option Addr) (n_12 c_12 : Nat) (bk_14 : Nat) (cs_14 : List Value) (bk_15 : Nat) (cs_15 : List Value) (bk_17 : Nat) (cs_17 : List Value) (A_18 : Option Addr) (n_18 c_18 : Nat) (bk_20 : Nat) (cs_20 : List Value) (bk_22 : Nat) (A_22_3_0 : Option Addr) (n_22_3_0 : Nat) (c_22_3_0 : Nat) (A_22_4_0 : Option Addr) (n_22_4_0 : Nat) (c_22_4_0 : Nat) (A_23 : Option Addr) (n_23 c_23 : Nat) (A_119 : Option Addr) (n_119 c_119 : Nat) (O : Hold W h0 m0 h m [rV bk_5 25 cs_5, rV bk_11 25 cs_11, rR (aE (tell_int .i64)) A_12 c_12 a_12, rV bk_14 25 cs_14, rV bk_15 31 cs_15, rV bk_17 25 cs_17, rR (aE T_ward_Plan.T) A_18 c_18 a_18, rV bk_20 25 cs_20, rV bk_22 25 [(Value.int .i64 x_22_0), (Value.int .i64 x_22_1), (Value.int .i64 x_22_2), (Value.slice A_22_3_0 n_22_3_0 c_22_3_0), (Value.slice A_22_4_0 n_22_4_0 c_22_4_0)], rR (aE T_ward_Child.T) A_22_3_0 c_22_3_0 a_22_3, rR (aE (tell_int .i64)) A_23 c_23 a_23]) (ne_4 : n_4 = List.length a_4) (k_4 : List.length a_4 ≤ c_4) (r_4 : Rd 3 T_ward_Fall.E m A_4 a_4) (e_5 : T_ward_Ward.E m y_5 cs_5) (e_11 : T_ward_Ward.E m y_11 cs_11) (ne_12 : n_12 = List.length a_12) (e_14 : T_ward_Ward.E m y_14 cs_14) (e_15 : T_ward_Plan.E m y_15 cs_15) (e_17 : T_ward_Ward.E m y_17 cs_17) (ne_18 : n_18 = List.length a_18) (e_20 : T_ward_Ward.E m y_20 cs_20) (ne_22_3_0 : n_22_3_0 = List.length a_22_3) (ne_22_4_0 : n_22_4_0 = List.length a_22_4) (k_22_4_0 : List.length a_22_4 ≤ c_22_4_0) (r_22_4_0 : Rd 1 (eInt .i64) m A_22_4_0 a_22_4) (ne_23 : n_23 = List.length a_23) (ne_119 : n_119 = List.length a_119) (k_119 : List.length a_119 ≤ c_119) (r_119 : Rd 3 T_ward_Child.E m A_119 a_119), f3.l0 (roadlaw3_WardTells.post W h0 m0 r) x_1 b_2 x_3 A_4 n_4 c_4 (⟨bk_5, 0, none⟩ : Addr) (⟨bk_11, 0, none⟩ : Addr) A_12 n_12 c_12 x_13 (⟨bk_14, 0, none⟩ : Addr) (⟨bk_15, 0, none⟩ : Addr) x_16 (⟨bk_17, 0, none⟩ : Addr) A_18 n_18 c_18 x_19 (⟨bk_20, 0, none⟩ : Addr) (⟨bk_22, 0, none⟩ : Addr) A_23 n_23 c_23 A_119 n_119 c_119 x_120 x_121 h
  | .j3 x_1 b_2 x_3 a_4 y_5 y_11 a_12 x_13 y_14 y_15 x_16 y_17 a_18 x_19 y_20 x_22_0 x_22_1 x_22_2 a_22_3 a_22_4 a_23 y_25 a_119 x_120 x_121, r => ∀ (W : Nat → Prop) (h0 m0 h m : Heap) (A_4 : Option Addr) (n_4 c_4 : Nat) (bk_5 : Nat) (cs_5 : List Value) (bk_11 : Nat) (cs_11 : List Value) (A_12 : Option Addr) (n_12 c_12 : Nat) (bk_14 : Nat) (cs_14 : List Value) (bk_15 : Nat) (cs_15 : List Value) (bk_17 : Nat) (cs_17 : List Value) (A_18 : Option Addr) (n_18 c_18 : Nat) (bk_20 : Nat) (cs_20 : List Value) (bk_22 : Nat) (A_22_3_0 : Option Addr) (n_22_3_0 : Nat) (c_22_3_0 : Nat) (A_22_4_0 : Option Addr) (n_22_4_0 : Nat) (c_22_4_0 : Nat) (A_23 : Option Addr) (n_23 c_23 : Nat) (bk_25 : Nat) (cs_25 : List Value) (A_119 : Option Addr) (n_119 c_119 : Nat) (O : Hold W h0 m0 h m [rV bk_5 25 cs_5, rV bk_11 25 cs_11, rR (aE (tell_int .i64)) A_12 c_12 a_12, rV bk_14 25 cs_14, rV bk_15 31 cs_15, rV bk_17 25 cs_17, rR (aE T_ward_Plan.T) A_18 c_18 a_18, rV bk_20 25 cs_20, rV bk_22 25 [(Value.int .i64 x_22_0), (Value.int .i64 x_22_1), (Value.int .i64 x_22_2), (Value.slice A_22_3_0 n_22_3_0 c_22_3_0), (Value.slice A_22_4_0 n_22_4_0 c_22_4_0)], rR (aE T_ward_Child.T) A_22_3_0 c_22_3_0 a_22_3, rR (aE (tell_int .i64)) A_23 c_23 a_23, rV bk_25 41 cs_25]) (ne_4 : n_4 = List.length a_4) (k_4 : List.length a_4 ≤ c_4) (r_4 : Rd 3 T_ward_Fall.E m A_4 a_4) (e_5 : T_ward_Ward.E m y_5 cs_5) (e_11 : T_ward_Ward.E m y_11 cs_11) (ne_12 : n_12 = List.length a_12) (e_14 : T_ward_Ward.E m y_14 cs_14) (e_15 : T_ward_Plan.E m y_15 cs_15) (e_17 : T_ward_Ward.E m y_17 cs_17) (ne_18 : n_18 = List.length a_18) (e_20 : T_ward_Ward.E m y_20 cs_20) (ne_22_3_0 : n_22_3_0 = List.length a_22_3) (ne_22_4_0 : n_22_4_0 = List.length a_22_4) (k_22_4_0 : List.length a_22_4 ≤ c_22_4_0) (r_22_4_0 : Rd 1 (eInt .i64) m A_22_4_0 a_22_4) (ne_23 : n_23 = List.length a_23) (e_25 : T_ward_Child.E m y_25 cs_25) (ne_119 : n_119 = List.length a_119) (k_119 : List.length a_119 ≤ c_119) (r_119 : Rd 3 T_ward_Child.E m A_119 a_119), f3.j3 (roadlaw3_WardTells.post W h0 m0 r) x_1 b_2 x_3 A_4 n_4 c_4 (⟨bk_5, 0, none⟩ : Addr) (⟨bk_11, 0, none⟩ : Addr) A_12 n_12 c_12 x_13 (⟨bk_14, 0, none⟩ : Addr) (⟨bk_15, 0, none⟩ : Addr) x_16 (⟨bk_17, 0, none⟩ : Addr) A_18 n_18 c_18 x_19 (⟨bk_20, 0, none⟩ : Addr) (⟨bk_22, 0, none⟩ : Addr) A_23 n_23 c_23 (⟨bk_25, 0, none⟩ : Addr) A_119 n_119 c_119 x_120 x_121 h
set_option maxHeartbeats 4000000 in
set_option maxRecDepth 100000 in
theorem roadlaw3_WardTells.l0_k.step_l0 (go : (p : roadlaw3_WardTells.l0_k.Pt) → Option (Bool)) (ih : ∀ p r, go p = some r → roadlaw3_WardTells.l0_k.I p r) (x_1 : Int) (b_2 : Bool) (x_3 : Int) (a_4 : List T_ward_Fall) (y_5 : T_ward_Ward) (y_11 : T_ward_Ward) (a_12 : List Int) (x_13 : Int) (y_14 : T_ward_Ward) (y_15 : T_ward_Plan) (x_16 : Int) (y_17 : T_ward_Ward) (a_18 : List T_ward_Plan) (x_19 : Int) (y_20 : T_ward_Ward) (x_22_0 : Int) (x_22_1 : Int) (x_22_2 : Int) (a_22_3 : (List T_ward_Child)) (a_22_4 : (List Int)) (a_23 : List Int) (a_119 : List T_ward_Child) (x_120 : Int) (x_121 : Int) (r : Bool) (e : roadlaw3_WardTells.l0_k.body go (.l0 x_1 b_2 x_3 a_4 y_5 y_11 a_12 x_13 y_14 y_15 x_16 y_17 a_18 x_19 y_20 x_22_0 x_22_1 x_22_2 a_22_3 a_22_4 a_23 a_119 x_120 x_121) = some r) : roadlaw3_WardTells.l0_k.I (.l0 x_1 b_2 x_3 a_4 y_5 y_11 a_12 x_13 y_14 y_15 x_16 y_17 a_18 x_19 y_20 x_22_0 x_22_1 x_22_2 a_22_3 a_22_4 a_23 a_119 x_120 x_121) r := by
  unfold roadlaw3_WardTells.l0_k.body at e
  intro W h0 m0 h m A_4 n_4 c_4 bk_5 cs_5 bk_11 cs_11 A_12 n_12 c_12 bk_14 cs_14 bk_15 cs_15 bk_17 cs_17 A_18 n_18 c_18 bk_20 cs_20 bk_22 A_22_3_0 n_22_3_0 c_22_3_0 A_22_4_0 n_22_4_0 c_22_4_0 A_23 n_23 c_23 A_119 n_119 c_119 O ne_4 k_4 r_4 e_5 e_11 ne_12 e_14 e_15 e_17 ne_18 e_20 ne_22_3_0 ne_22_4_0 k_22_4_0 r_22_4_0 ne_23 ne_119 k_119 r_119
  subst ne_4
  subst ne_12
  subst ne_18
  subst ne_22_3_0
  subst ne_22_4_0
  subst ne_23
  subst ne_119
  refine f3.l0_in ?_
  unfold f3.l0T
  refine split_dec_e e (fun c63 e => ?_) (fun c63 e => ?_)
  · obtain ⟨y1, g2, e⟩ := bind_e e
    refine r_119.addr rfl g2 fun a3 cs4 ha5 hc6 he7 => ?_
    refine ⟨_, ldAn O.s hc6 rfl, ?_⟩
    refine O.new fun h8 x9 O10 => ?_
    refine ⟨_, rfl, (T_ward_Child.T.len _ _ _ he7), ?_⟩
    refine O10.stA 11 rfl (T_ward_Child.T.len _ _ _ he7) (T_ward_Child.T.flat _ _ _ he7) fun h12 O13 => ?_
    refine ⟨_, ldk (k := 2) (Sub.refl _) (O13.all 11 rfl) (T_ward_Child.g2 he7), _, rfl, ?_⟩
    refine split_not ?_
    refine split_any_e e (fun c29 e => ?_) (fun c29 e => ?_)
    · have O14 := O13.nm
      exact (ih _ _ e) _ _ _ _ _ _ _ _ _ _ _ _ _ _ _ _ _ _ _ _ _ _ _ _ _ _ _ _ _ _ _ _ _ _ _ _ _ _ _ _ _ (O14.pick [0, 1, 2, 3, 4, 5, 6, 7, 8, 9, 10, 11]).nm rfl k_4 r_4 e_5 e_11 rfl e_14 e_15 e_17 rfl e_20 rfl rfl k_22_4_0 r_22_4_0 rfl he7 rfl k_119 r_119
    · refine ⟨_, ld0 (Sub.refl _) (O13.all 11 rfl) (T_ward_Child.g0 he7), _, rfl, ?_⟩
      refine O13.new fun h15 x16 O17 => ?_
      obtain ⟨l19, g20, e⟩ := bind_e e
      have O27 := O17.rowE (l := ([y1.Id] : List Int)) 12 rfl (tell_int .i64) (show CsE _ _ _ _ _ from (CsE.cons (c1 := [(Value.int .i64 y1.Id)]) rfl rfl CsE.nil)) rfl
      refine O27.app 10 rfl rfl rfl ((O27.os 12 rfl).srcE rfl) (by decide) g20 fun A21 c22 h23 O24 => ?_
      refine ⟨_, _, _, rfl, ?_⟩
      have O28 := O24.nm
      exact (ih _ _ e) _ _ _ _ _ _ _ _ _ _ _ _ _ _ _ _ _ _ _ _ _ _ _ _ _ _ _ _ _ _ _ _ _ _ _ _ _ _ _ _ _ (O28.pick [0, 1, 2, 3, 4, 5, 6, 7, 8, 9, 10, 11]).nm rfl k_4 r_4 e_5 e_11 rfl e_14 e_15 e_17 rfl e_20 rfl rfl k_22_4_0 r_22_4_0 rfl he7 rfl k_119 r_119
  · refine ⟨_, ldAn (Sub.refl _) (O.all 1 rfl) (T_ward_Ward.T.len _ _ _ e_11), ?_⟩
    refine ⟨_, ldAn (Sub.refl _) (O.all 8 rfl) rfl, ?_⟩
    obtain ⟨y30, g31, e⟩ := bind_e e
    obtain ⟨m36, u37, s42, ⟨⟨r40, k41⟩, _⟩, B38, C39⟩ := O.lend0 [9]
    replace r40 : Rd 3 T_ward_Child.E m36 A_22_3_0 a_22_3 := r40
    replace k41 : List.length a_22_3 ≤ c_22_3_0 := k41
    refine (roadref3_SameWard.walk (Hold.start (W := No) s42) (T_ward_Ward.T.mono _ _ _ _ u37 e_11) (show T_ward_Ward.E _ (T_ward_Ward.mk x_22_0 x_22_1 x_22_2 a_22_3 a_22_4) [(Value.int .i64 x_22_0), (Value.int .i64 x_22_1), (Value.int .i64 x_22_2), (Value.slice A_22_3_0 (List.length a_22_3) c_22_3_0), (Value.slice A_22_4_0 (List.length a_22_4) c_22_4_0)] from ⟨_, _, _, _, rfl, k41, r40, k_22_4_0, (r_22_4_0.sub (tell_int .i64) u37)⟩) g31).mono ?_
    rintro _ h32 ⟨m33, Q34, rfl⟩
    have O43 := Hold.nm (C39 Q34 vfs_nil)
    refine ⟨_, rfl, ?_⟩
    refine split_not ?_
    refine split_any_e e (fun c62 e => ?_) (fun c62 e => ?_)
    · obtain ⟨y44, g45, e⟩ := bind_e e
      obtain ⟨m50, u51, s58, ⟨⟨r54, k55⟩, ⟨r56, k57⟩, _⟩, B52, C53⟩ := O43.lend0 [2, 10]
      replace r54 : Rd 1 (eInt .i64) m50 A_12 a_12 := r54
      replace k55 : List.length a_12 ≤ c_12 := k55
      replace r56 : Rd 1 (eInt .i64) m50 A_23 a_23 := r56
      replace k57 : List.length a_23 ≤ c_23 := k57
      refine (slices_Equal_14.walk (Hold.start (W := No) s58) rfl k55 r54 rfl k57 r56 g45).mono ?_
      rintro _ h46 ⟨m47, Q48, rfl⟩
      have O59 := Hold.nm (C53 Q48 vfs_nil)
      refine ⟨_, rfl, ?_⟩
      refine split_not ?_
      refine split_any_e e (fun c61 e => ?_) (fun c61 e => ?_)
      · refine split_ne_e e (fun c60 e => ?_) (fun c60 e => ?_)
        · cases e
          exact ⟨_, O59.pick [], rfl⟩
        · exact roadlaw3_WardTells.j0.walk (O59.pick [0, 3, 4, 5, 6, 7]).nm rfl k_4 r_4 e_5 e_14 e_15 e_17 rfl e_20 e
      · cases e
        exact ⟨_, O59.pick [], rfl⟩
    · cases e
      exact ⟨_, O43.pick [], rfl⟩
set_option maxRecDepth 100000 in
theorem roadlaw3_WardTells.l0_k.step_j3 (go : (p : roadlaw3_WardTells.l0_k.Pt) → Option (Bool)) (ih : ∀ p r, go p = some r → roadlaw3_WardTells.l0_k.I p r) (x_1 : Int) (b_2 : Bool) (x_3 : Int) (a_4 : List T_ward_Fall) (y_5 : T_ward_Ward) (y_11 : T_ward_Ward) (a_12 : List Int) (x_13 : Int) (y_14 : T_ward_Ward) (y_15 : T_ward_Plan) (x_16 : Int) (y_17 : T_ward_Ward) (a_18 : List T_ward_Plan) (x_19 : Int) (y_20 : T_ward_Ward) (x_22_0 : Int) (x_22_1 : Int) (x_22_2 : Int) (a_22_3 : (List T_ward_Child)) (a_22_4 : (List Int)) (a_23 : List Int) (y_25 : T_ward_Child) (a_119 : List T_ward_Child) (x_120 : Int) (x_121 : Int) (r : Bool) (e : roadlaw3_WardTells.l0_k.body go (.j3 x_1 b_2 x_3 a_4 y_5 y_11 a_12 x_13 y_14 y_15 x_16 y_17 a_18 x_19 y_20 x_22_0 x_22_1 x_22_2 a_22_3 a_22_4 a_23 y_25 a_119 x_120 x_121) = some r) : roadlaw3_WardTells.l0_k.I (.j3 x_1 b_2 x_3 a_4 y_5 y_11 a_12 x_13 y_14 y_15 x_16 y_17 a_18 x_19 y_20 x_22_0 x_22_1 x_22_2 a_22_3 a_22_4 a_23 y_25 a_119 x_120 x_121) r := by
  unfold roadlaw3_WardTells.l0_k.body at e
  intro W h0 m0 h m A_4 n_4 c_4 bk_5 cs_5 bk_11 cs_11 A_12 n_12 c_12 bk_14 cs_14 bk_15 cs_15 bk_17 cs_17 A_18 n_18 c_18 bk_20 cs_20 bk_22 A_22_3_0 n_22_3_0 c_22_3_0 A_22_4_0 n_22_4_0 c_22_4_0 A_23 n_23 c_23 bk_25 cs_25 A_119 n_119 c_119 O ne_4 k_4 r_4 e_5 e_11 ne_12 e_14 e_15 e_17 ne_18 e_20 ne_22_3_0 ne_22_4_0 k_22_4_0 r_22_4_0 ne_23 e_25 ne_119 k_119 r_119
  subst ne_4
  subst ne_12
  subst ne_18
  subst ne_22_3_0
  subst ne_22_4_0
  subst ne_23
  subst ne_119
  refine f3.j3_in ?_
  unfold f3.j3T
  refine O.stE 11 rfl 2 (lt_len (T_ward_Child.T.len _ _ _ e_25) (by decide)) trivial (T_ward_Child.s2 e_25 true) fun h1 cs3 e4 O2 => ?_
  refine ⟨_, ldk (k := 3) (Sub.refl _) (O2.all 8 rfl) rfl, _, _, _, rfl, ?_⟩
  refine ⟨_, ldAn (Sub.refl _) (O2.all 11 rfl) (T_ward_Child.T.len _ _ _ e4), ?_⟩
  refine ⟨cs3, rfl, (T_ward_Child.T.len _ _ _ e4), ?_⟩
  refine O2.new fun h5 x6 O7 => ?_
  have O9 := O7.recell 12 rfl (cs' := cs3 ++ []) rfl
  obtain ⟨l10, g11, e⟩ := bind_e e
  have O18 := O9.rowE (l := ([({ y_25 with Lives := true })] : List T_ward_Child)) 12 rfl T_ward_Child.T (show CsE _ _ _ _ _ from (CsE.cons e4 (T_ward_Child.T.len _ _ _ e4) CsE.nil)) rfl
  refine O18.app 9 rfl rfl rfl ((O18.os 12 rfl).srcE rfl) (by decide) g11 fun A12 c13 h14 O15 => ?_
  refine ⟨_, _, _, rfl, ?_⟩
  refine O15.st 8 rfl 3 (Nat.le_of_ble_eq_true rfl) trivial fun h19 O20 => ?_
  have O21 := O20.nm
  exact (ih _ _ e) _ _ _ _ _ _ _ _ _ _ _ _ _ _ _ _ _ _ _ _ _ _ _ _ _ _ _ _ _ _ _ _ _ _ _ _ _ _ _ (O21.pick [0, 1, 2, 3, 4, 5, 6, 7, 8, 9, 10]).nm rfl k_4 r_4 e_5 e_11 rfl e_14 e_15 e_17 rfl e_20 rfl rfl k_22_4_0 r_22_4_0 rfl rfl k_119 r_119
theorem roadlaw3_WardTells.l0_k.all {p : roadlaw3_WardTells.l0_k.Pt} {r : (Bool)} (e : roadlaw3_WardTells.l0_k.go p = some r) : roadlaw3_WardTells.l0_k.I p r := fixF_ind (β := fun _ => (Bool)) roadlaw3_WardTells.l0_k.mono (I := roadlaw3_WardTells.l0_k.I) (fun go ih p r e => match p with
  | .l0 x_1 b_2 x_3 a_4 y_5 y_11 a_12 x_13 y_14 y_15 x_16 y_17 a_18 x_19 y_20 x_22_0 x_22_1 x_22_2 a_22_3 a_22_4 a_23 a_119 x_120 x_121 => roadlaw3_WardTells.l0_k.step_l0 go ih x_1 b_2 x_3 a_4 y_5 y_11 a_12 x_13 y_14 y_15 x_16 y_17 a_18 x_19 y_20 x_22_0 x_22_1 x_22_2 a_22_3 a_22_4 a_23 a_119 x_120 x_121 r e
  | .j3 x_1 b_2 x_3 a_4 y_5 y_11 a_12 x_13 y_14 y_15 x_16 y_17 a_18 x_19 y_20 x_22_0 x_22_1 x_22_2 a_22_3 a_22_4 a_23 y_25 a_119 x_120 x_121 => roadlaw3_WardTells.l0_k.step_j3 go ih x_1 b_2 x_3 a_4 y_5 y_11 a_12 x_13 y_14 y_15 x_16 y_17 a_18 x_19 y_20 x_22_0 x_22_1 x_22_2 a_22_3 a_22_4 a_23 y_25 a_119 x_120 x_121 r e
  ) e
theorem roadlaw3_WardTells.l0.walk {W : Nat → Prop} {h0 m0 h m : Heap} {A_4 : Option Addr} {n_4 c_4 : Nat} {bk_5 : Nat} {cs_5 : List Value} {bk_11 : Nat} {cs_11 : List Value} {A_12 : Option Addr} {n_12 c_12 : Nat} {bk_14 : Nat} {cs_14 : List Value} {bk_15 : Nat} {cs_15 : List Value} {bk_17 : Nat} {cs_17 : List Value} {A_18 : Option Addr} {n_18 c_18 : Nat} {bk_20 : Nat} {cs_20 : List Value} {bk_22 : Nat} {A_22_3_0 : Option Addr} {n_22_3_0 : Nat} {c_22_3_0 : Nat} {A_22_4_0 : Option Addr} {n_22_4_0 : Nat} {c_22_4_0 : Nat} {A_23 : Option Addr} {n_23 c_23 : Nat} {A_119 : Option Addr} {n_119 c_119 : Nat} {x_1 : Int} {b_2 : Bool} {x_3 : Int} {a_4 : List T_ward_Fall} {y_5 : T_ward_Ward} {y_11 : T_ward_Ward} {a_12 : List Int} {x_13 : Int} {y_14 : T_ward_Ward} {y_15 : T_ward_Plan} {x_16 : Int} {y_17 : T_ward_Ward} {a_18 : List T_ward_Plan} {x_19 : Int} {y_20 : T_ward_Ward} {x_22_0 : Int} {x_22_1 : Int} {x_22_2 : Int} {a_22_3 : (List T_ward_Child)} {a_22_4 : (List Int)} {a_23 : List Int} {a_119 : List T_ward_Child} {x_120 : Int} {x_121 : Int} (O : Hold W h0 m0 h m [rV bk_5 25 cs_5, rV bk_11 25 cs_11, rR (aE (tell_int .i64)) A_12 c_12 a_12, rV bk_14 25 cs_14, rV bk_15 31 cs_15, rV bk_17 25 cs_17, rR (aE T_ward_Plan.T) A_18 c_18 a_18, rV bk_20 25 cs_20, rV bk_22 25 [(Value.int .i64 x_22_0), (Value.int .i64 x_22_1), (Value.int .i64 x_22_2), (Value.slice A_22_3_0 n_22_3_0 c_22_3_0), (Value.slice A_22_4_0 n_22_4_0 c_22_4_0)], rR (aE T_ward_Child.T) A_22_3_0 c_22_3_0 a_22_3, rR (aE (tell_int .i64)) A_23 c_23 a_23]) (ne_4 : n_4 = List.length a_4) (k_4 : List.length a_4 ≤ c_4) (r_4 : Rd 3 T_ward_Fall.E m A_4 a_4) (e_5 : T_ward_Ward.E m y_5 cs_5) (e_11 : T_ward_Ward.E m y_11 cs_11) (ne_12 : n_12 = List.length a_12) (e_14 : T_ward_Ward.E m y_14 cs_14) (e_15 : T_ward_Plan.E m y_15 cs_15) (e_17 : T_ward_Ward.E m y_17 cs_17) (ne_18 : n_18 = List.length a_18) (e_20 : T_ward_Ward.E m y_20 cs_20) (ne_22_3_0 : n_22_3_0 = List.length a_22_3) (ne_22_4_0 : n_22_4_0 = List.length a_22_4) (k_22_4_0 : List.length a_22_4 ≤ c_22_4_0) (r_22_4_0 : Rd 1 (eInt .i64) m A_22_4_0 a_22_4) (ne_23 : n_23 = List.length a_23) (ne_119 : n_119 = List.length a_119) (k_119 : List.length a_119 ≤ c_119) (r_119 : Rd 3 T_ward_Child.E m A_119 a_119) {r : Bool} (e : roadlaw3_WardTells.l0 x_1 b_2 x_3 a_4 y_5 y_11 a_12 x_13 y_14 y_15 x_16 y_17 a_18 x_19 y_20 x_22_0 x_22_1 x_22_2 a_22_3 a_22_4 a_23 a_119 x_120 x_121 = some r) : f3.l0 (roadlaw3_WardTells.post W h0 m0 r) x_1 b_2 x_3 A_4 n_4 c_4 (⟨bk_5, 0, none⟩ : Addr) (⟨bk_11, 0, none⟩ : Addr) A_12 n_12 c_12 x_13 (⟨bk_14, 0, none⟩ : Addr) (⟨bk_15, 0, none⟩ : Addr) x_16 (⟨bk_17, 0, none⟩ : Addr) A_18 n_18 c_18 x_19 (⟨bk_20, 0, none⟩ : Addr) (⟨bk_22, 0, none⟩ : Addr) A_23 n_23 c_23 A_119 n_119 c_119 x_120 x_121 h := roadlaw3_WardTells.l0_k.all (p := .l0 x_1 b_2 x_3 a_4 y_5 y_11 a_12 x_13 y_14 y_15 x_16 y_17 a_18 x_19 y_20 x_22_0 x_22_1 x_22_2 a_22_3 a_22_4 a_23 a_119 x_120 x_121) e W h0 m0 h m A_4 n_4 c_4 bk_5 cs_5 bk_11 cs_11 A_12 n_12 c_12 bk_14 cs_14 bk_15 cs_15 bk_17 cs_17 A_18 n_18 c_18 bk_20 cs_20 bk_22 A_22_3_0 n_22_3_0 c_22_3_0 A_22_4_0 n_22_4_0 c_22_4_0 A_23 n_23 c_23 A_119 n_119 c_119 O ne_4 k_4 r_4 e_5 e_11 ne_12 e_14 e_15 e_17 ne_18 e_20 ne_22_3_0 ne_22_4_0 k_22_4_0 r_22_4_0 ne_23 ne_119 k_119 r_119
noncomputable def roadlaw3_WardTells (y_0 : T_ward_Ward) (x_1 : Int) (b_2 : Bool) (x_3 : Int) (a_4 : List T_ward_Fall) : Option (Bool) :=
  Option.bind (ward_Begin y_0) fun y5 => Option.bind (ward_Down y_0 x_1 b_2 x_3) fun y26 => Option.bind (ward_Play y_0 a_4) fun y51 => Option.bind (roadref3_WardFault y_0) fun y78 => Option.bind (ward_Check y_0) fun y85 => if y85 = y78 then (if y78 = (0 : Int) then ((roadlaw3_WardTells.l0 x_1 b_2 x_3 a_4 y_0 y5.1 y5.2.1 y5.2.2 y26.1 y26.2.1 y26.2.2 y51.1 y51.2.1 y51.2.2 (T_ward_Ward.mk (0 : Int) (0 : Int) (0 : Int) ([] : List T_ward_Child) ([] : List Int)) y_0.How y_0.Most y_0.Window ([] : List T_ward_Child) y_0.Times ([] : List Int) y_0.Children (((List.length y_0.Children) : Nat) : Int) (0 : Int))) else (Option.bind (roadref3_SameWard y5.1 (T_ward_Ward.mk (0 : Int) (0 : Int) (0 : Int) ([] : List T_ward_Child) ([] : List Int))) fun y92 => if y92 = true then (if (((List.length y5.2.1) : Nat) : Int) = (0 : Int) then (if y5.2.2 = y78 then (Option.bind (roadref3_SameWard y26.1 (T_ward_Ward.mk (0 : Int) (0 : Int) (0 : Int) ([] : List T_ward_Child) ([] : List Int))) fun y99 => if y99 = true then (Option.bind (roadref3_SamePlan y26.2.1 (T_ward_Plan.mk ([] : List Int) ([] : List Int) false)) fun y106 => if y106 = true then (if y26.2.2 = y78 then (Option.bind (roadref3_SameWard y51.1 (T_ward_Ward.mk (0 : Int) (0 : Int) (0 : Int) ([] : List T_ward_Child) ([] : List Int))) fun y113 => if y113 = true then (if (((List.length y51.2.1) : Nat) : Int) = (0 : Int) then (some ((y51.2.2 == y78))) else (some (false))) else (some (false))) else (some (false))) else (some (false))) else (some (false))) else (some (false))) else (some (false))) else (some (false)))) else (some (false))
set_option maxHeartbeats 4000000 in
set_option maxRecDepth 100000 in
theorem roadlaw3_WardTells.walk {W : Nat → Prop} {h m : Heap} {cs_0 : List Value} {A_4 : Option Addr} {n_4 c_4 : Nat} {y_0 : T_ward_Ward} {x_1 : Int} {b_2 : Bool} {x_3 : Int} {a_4 : List T_ward_Fall} (O : Hold W h m h m []) (e_0 : T_ward_Ward.E m y_0 cs_0) (ne_4 : n_4 = List.length a_4) (k_4 : List.length a_4 ≤ c_4) (r_4 : Rd 3 T_ward_Fall.E m A_4 a_4) {r : Bool} (e : roadlaw3_WardTells y_0 x_1 b_2 x_3 a_4 = some r) : Run Try.prog 3 #[Value.agg cs_0.toArray, Value.int .i64 x_1, Value.bool b_2, Value.int .i64 x_3, Value.slice A_4 n_4 c_4] h (roadlaw3_WardTells.post W h m r) := by
  unfold roadlaw3_WardTells at e
  subst ne_4
  refine f3.run ?_
  unfold f3.runT
  refine O.new fun h1 x2 O3 => ?_
  refine ⟨_, ldAn (Sub.refl _) (O3.all 0 rfl) (T_ward_Ward.T.len _ _ _ e_0), ?_⟩
  obtain ⟨y5, g6, e⟩ := bind_e e
  refine (ward_Begin.walk (Hold.start (W := No) O3.s) e_0 g6).mono ?_
  rintro _ h7 ⟨m8, cs12, A14, n15, c16, Q9, rfl, he13, ne17⟩
  have O19 := Hold.nm (O3.ret Q9)
  subst ne17
  refine ⟨_, _, _, _, _, rfl, ?_⟩
  refine O19.new fun h20 x21 O22 => ?_
  refine ⟨_, rfl, (T_ward_Ward.T.len _ _ _ he13), ?_⟩
  refine O22.stA 2 rfl (T_ward_Ward.T.len _ _ _ he13) (T_ward_Ward.T.flat _ _ _ he13) fun h24 O25 => ?_
  refine ⟨_, ldAn (Sub.refl _) (O25.all 0 rfl) (T_ward_Ward.T.len _ _ _ e_0), ?_⟩
  obtain ⟨y26, g27, e⟩ := bind_e e
  refine (ward_Down.walk (Hold.start (W := No) O25.s) (T_ward_Ward.T.mono _ _ _ _ Q9.S.up e_0) g27).mono ?_
  rintro _ h28 ⟨m29, cs33, cs36, Q30, rfl, he34, he37⟩
  have O38 := Hold.nm (O25.ret Q30)
  refine ⟨_, _, _, rfl, ?_⟩
  refine O38.new fun h39 x40 O41 => ?_
  refine O41.new fun h43 x44 O45 => ?_
  refine ⟨_, rfl, (T_ward_Ward.T.len _ _ _ he34), ?_⟩
  refine O45.stA 3 rfl (T_ward_Ward.T.len _ _ _ he34) (T_ward_Ward.T.flat _ _ _ he34) fun h47 O48 => ?_
  refine ⟨_, rfl, (T_ward_Plan.T.len _ _ _ he37), ?_⟩
  refine O48.stA 4 rfl (T_ward_Plan.T.len _ _ _ he37) (T_ward_Plan.T.flat _ _ _ he37) fun h49 O50 => ?_
  refine ⟨_, ldAn (Sub.refl _) (O50.all 0 rfl) (T_ward_Ward.T.len _ _ _ e_0), ?_⟩
  obtain ⟨y51, g52, e⟩ := bind_e e
  refine (ward_Play.walk (Hold.start (W := No) O50.s) (T_ward_Ward.T.mono _ _ _ _ (Q9.S.up.trans Q30.S.up) e_0) rfl k_4 (r_4.sub T_ward_Fall.T (Q9.S.up.trans Q30.S.up)) g52).mono ?_
  rintro _ h53 ⟨m54, cs58, A60, n61, c62, Q55, rfl, he59, ne63⟩
  have O65 := Hold.nm (O50.ret Q55)
  subst ne63
  refine ⟨_, _, _, _, _, rfl, ?_⟩
  refine O65.new fun h66 x67 O68 => ?_
  refine ⟨_, rfl, (T_ward_Ward.T.len _ _ _ he59), ?_⟩
  refine O68.stA 6 rfl (T_ward_Ward.T.len _ _ _ he59) (T_ward_Ward.T.flat _ _ _ he59) fun h70 O71 => ?_
  refine O71.new fun h72 x73 O74 => ?_
  refine ⟨_, rfl, rfl, ?_⟩
  refine O74.stA 7 rfl rfl (Flats.cons trivial (Flats.cons trivial (Flats.cons trivial (Flats.cons trivial (Flats.cons trivial Flats.nil))))) fun h76 O77 => ?_
  refine ⟨_, ldAn (Sub.refl _) (O77.all 0 rfl) (T_ward_Ward.T.len _ _ _ e_0), ?_⟩
  obtain ⟨y78, g79, e⟩ := bind_e e
  refine (roadref3_WardFault.walk (Hold.start (W := No) O77.s) (T_ward_Ward.T.mono _ _ _ _ (Q9.S.up.trans (Q30.S.up.trans Q55.S.up)) e_0) g79).mono ?_
  rintro _ h80 ⟨m81, Q82, rfl⟩
  have O84 := Hold.nm (O77.retC Q82 vfs_nil)
  refine ⟨_, rfl, ?_⟩
  refine ⟨_, ldAn (Sub.refl _) (O84.all 0 rfl) (T_ward_Ward.T.len _ _ _ e_0), ?_⟩
  obtain ⟨y85, g86, e⟩ := bind_e e
  refine (ward_Check.walk (Hold.start (W := No) O84.s) (T_ward_Ward.T.mono _ _ _ _ (Q9.S.up.trans (Q30.S.up.trans Q55.S.up)) e_0) g86).mono ?_
  rintro _ h87 ⟨m88, Q89, rfl⟩
  have O91 := Hold.nm (O84.retC Q89 vfs_nil)
  refine ⟨_, rfl, ?_⟩
  refine split_ne_e e (fun c150 e => ?_) (fun c150 e => ?_)
  · cases e
    exact ⟨_, O91.pick [], rfl⟩
  · refine split_ne_e e (fun c149 e => ?_) (fun c149 e => ?_)
    · refine ⟨_, ldAn (Sub.refl _) (O91.all 2 rfl) (T_ward_Ward.T.len _ _ _ he13), ?_⟩
      refine ⟨_, ldAn (Sub.refl _) (O91.all 7 rfl) rfl, ?_⟩
      obtain ⟨y92, g93, e⟩ := bind_e e
      refine (roadref3_SameWard.walk (Hold.start (W := No) O91.s) (T_ward_Ward.T.mono _ _ _ _ (Q30.S.up.trans Q55.S.up) he13) (show T_ward_Ward.E _ (T_ward_Ward.mk (0 : Int) (0 : Int) (0 : Int) ([] : List T_ward_Child) ([] : List Int)) [(Value.int .i64 (0 : Int)), (Value.int .i64 (0 : Int)), (Value.int .i64 (0 : Int)), (Value.slice none 0 0), (Value.slice none 0 0)] from ⟨_, _, _, _, rfl, (by exact Nat.le_refl 0), Rd.nil, (by exact Nat.le_refl 0), Rd.nil⟩) g93).mono ?_
      rintro _ h94 ⟨m95, Q96, rfl⟩
      have O98 := Hold.nm (O91.retC Q96 vfs_nil)
      refine ⟨_, rfl, ?_⟩
      refine split_any_e e (fun c127 e => ?_) (fun c127 e => ?_)
      · refine split_eq_e e (fun c126 e => ?_) (fun c126 e => ?_)
        · refine split_eq_e e (fun c125 e => ?_) (fun c125 e => ?_)
          · refine ⟨_, ldAn (Sub.refl _) (O98.all 3 rfl) (T_ward_Ward.T.len _ _ _ he34), ?_⟩
            refine ⟨_, ldAn (Sub.refl _) (O98.all 7 rfl) rfl, ?_⟩
            obtain ⟨y99, g100, e⟩ := bind_e e
            refine (roadref3_SameWard.walk (Hold.start (W := No) O98.s) (T_ward_Ward.T.mono _ _ _ _ Q55.S.up he34) (show T_ward_Ward.E _ (T_ward_Ward.mk (0 : Int) (0 : Int) (0 : Int) ([] : List T_ward_Child) ([] : List Int)) [(Value.int .i64 (0 : Int)), (Value.int .i64 (0 : Int)), (Value.int .i64 (0 : Int)), (Value.slice none 0 0), (Value.slice none 0 0)] from ⟨_, _, _, _, rfl, (by exact Nat.le_refl 0), Rd.nil, (by exact Nat.le_refl 0), Rd.nil⟩) g100).mono ?_
            rintro _ h101 ⟨m102, Q103, rfl⟩
            have O105 := Hold.nm (O98.retC Q103 vfs_nil)
            refine ⟨_, rfl, ?_⟩
            refine split_any_e e (fun c124 e => ?_) (fun c124 e => ?_)
            · refine ⟨_, ldAn (Sub.refl _) (O105.all 4 rfl) (T_ward_Plan.T.len _ _ _ he37), ?_⟩
              obtain ⟨y106, g107, e⟩ := bind_e e
              refine (roadref3_SamePlan.walk (Hold.start (W := No) O105.s) (T_ward_Plan.T.mono _ _ _ _ Q55.S.up he37) (show T_ward_Plan.E _ (T_ward_Plan.mk ([] : List Int) ([] : List Int) false) [(Value.slice none 0 0), (Value.slice none 0 0), (Value.bool false)] from ⟨_, _, _, _, rfl, (by exact Nat.le_refl 0), Rd.nil, (by exact Nat.le_refl 0), Rd.nil⟩) g107).mono ?_
              rintro _ h108 ⟨m109, Q110, rfl⟩
              have O112 := Hold.nm (O105.retC Q110 vfs_nil)
              refine ⟨_, rfl, ?_⟩
              refine split_any_e e (fun c123 e => ?_) (fun c123 e => ?_)
              · refine split_eq_e e (fun c122 e => ?_) (fun c122 e => ?_)
                · refine ⟨_, ldAn (Sub.refl _) (O112.all 6 rfl) (T_ward_Ward.T.len _ _ _ he59), ?_⟩
                  refine ⟨_, ldAn (Sub.refl _) (O112.all 7 rfl) rfl, ?_⟩
                  obtain ⟨y113, g114, e⟩ := bind_e e
                  refine (roadref3_SameWard.walk (Hold.start (W := No) O112.s) he59 (show T_ward_Ward.E _ (T_ward_Ward.mk (0 : Int) (0 : Int) (0 : Int) ([] : List T_ward_Child) ([] : List Int)) [(Value.int .i64 (0 : Int)), (Value.int .i64 (0 : Int)), (Value.int .i64 (0 : Int)), (Value.slice none 0 0), (Value.slice none 0 0)] from ⟨_, _, _, _, rfl, (by exact Nat.le_refl 0), Rd.nil, (by exact Nat.le_refl 0), Rd.nil⟩) g114).mono ?_
                  rintro _ h115 ⟨m116, Q117, rfl⟩
                  have O119 := Hold.nm (O112.retC Q117 vfs_nil)
                  refine ⟨_, rfl, ?_⟩
                  refine split_any_e e (fun c121 e => ?_) (fun c121 e => ?_)
                  · refine split_eq_e e (fun c120 e => ?_) (fun c120 e => ?_)
                    · cases e
                      exact ⟨_, O119.pick [], rfl⟩
                    · cases e
                      exact ⟨_, O119.pick [], rfl⟩
                  · cases e
                    exact ⟨_, O119.pick [], rfl⟩
                · cases e
                  exact ⟨_, O112.pick [], rfl⟩
              · cases e
                exact ⟨_, O112.pick [], rfl⟩
            · cases e
              exact ⟨_, O105.pick [], rfl⟩
          · cases e
            exact ⟨_, O98.pick [], rfl⟩
        · cases e
          exact ⟨_, O98.pick [], rfl⟩
      · cases e
        exact ⟨_, O98.pick [], rfl⟩
    · refine ⟨_, ld0 (Sub.refl _) (O91.all 0 rfl) (T_ward_Ward.g0 e_0), _, rfl, ?_⟩
      refine ⟨_, ldk (k := 1) (Sub.refl _) (O91.all 0 rfl) (T_ward_Ward.g1 e_0), _, rfl, ?_⟩
      refine ⟨_, ldk (k := 2) (Sub.refl _) (O91.all 0 rfl) (T_ward_Ward.g2 e_0), _, rfl, ?_⟩
      obtain ⟨A128, c129, q130, k131, r132⟩ := T_ward_Ward.g4 e_0
      refine ⟨_, ldk (k := 4) (Sub.refl _) (O91.all 0 rfl) q130, _, _, _, rfl, ?_⟩
      refine O91.new fun h133 x134 O135 => ?_
      refine ⟨_, rfl, rfl, ?_⟩
      refine O135.stA 8 rfl rfl (Flats.cons trivial (Flats.cons trivial (Flats.cons trivial (Flats.cons trivial (Flats.cons trivial Flats.nil))))) fun h137 O138 => ?_
      obtain ⟨A139, c140, q141, k142, r143⟩ := T_ward_Ward.g3 e_0
      refine ⟨_, ldk (k := 3) (Sub.refl _) (O138.all 0 rfl) q141, _, _, _, rfl, ?_⟩
      have O144 := O138.nil (aE T_ward_Child.T) none
      have O146 := O144.nil (aE (tell_int .i64)) none
      have O148 := O146.nm
      exact roadlaw3_WardTells.l0.walk (O148.pick [0, 2, 1, 3, 4, 6, 5, 7, 8, 9, 10]).nm rfl k_4 (r_4.sub T_ward_Fall.T (Q9.S.up.trans (Q30.S.up.trans Q55.S.up))) (T_ward_Ward.T.mono _ _ _ _ (Q9.S.up.trans (Q30.S.up.trans Q55.S.up)) e_0) (T_ward_Ward.T.mono _ _ _ _ (Q30.S.up.trans Q55.S.up) he13) rfl (T_ward_Ward.T.mono _ _ _ _ Q55.S.up he34) (T_ward_Plan.T.mono _ _ _ _ Q55.S.up he37) he59 rfl (show T_ward_Ward.E _ (T_ward_Ward.mk (0 : Int) (0 : Int) (0 : Int) ([] : List T_ward_Child) ([] : List Int)) [(Value.int .i64 (0 : Int)), (Value.int .i64 (0 : Int)), (Value.int .i64 (0 : Int)), (Value.slice none 0 0), (Value.slice none 0 0)] from ⟨_, _, _, _, rfl, (by exact Nat.le_refl 0), Rd.nil, (by exact Nat.le_refl 0), Rd.nil⟩) rfl rfl k131 (r132.sub (tell_int .i64) (Q9.S.up.trans (Q30.S.up.trans Q55.S.up))) rfl rfl k142 (r143.sub T_ward_Child.T (Q9.S.up.trans (Q30.S.up.trans Q55.S.up))) e
end Go.Proofs.Ythnlhffpmlgmfab.Fw

end
section
namespace Go.Proofs.Ythnlhffpmlgmfab.Fw
open Go Go.Hw Go.Proofs
set_option linter.unusedVariables false
set_option linter.unusedSectionVars false
abbrev Wd := T_ward_Ward
abbrev Ch := T_ward_Child
abbrev Pl := T_ward_Plan
abbrev Fa := T_ward_Fall
def w0 : Wd := T_ward_Ward.mk 0 0 0 [] []
def p0 : Pl := T_ward_Plan.mk [] [] false
def on (c : Ch) : Ch := { c with Lives := true }
def off (c : Ch) : Ch := { c with Lives := false }
theorem same_ints {l : List Int} (h : l.length ≤ 4611686018427387904) : roadref3_SameInts l l = some true := by
  unfold roadref3_SameInts
  rw [if_pos rfl]
  have loop : ∀ (d i : Nat), i + d = l.length → roadref3_SameInts.l0 l l (l.length : Int) (i : Int) = some true := by
    intro d
    induction d with
    | zero => intro i hi; rw [roadref3_SameInts.l0_eq, if_neg (by omega)]
    | succ d ih =>
      intro i hi
      have hlt : i < l.length := by omega
      rw [roadref3_SameInts.l0_eq, if_pos (by omega), gi_at hlt, Option.bind_some, Option.bind_some, if_pos rfl, w_succ (by omega)]
      exact ih (i + 1) (by omega)
  exact loop _ 0 (Nat.zero_add _)
theorem same_ward {w : Wd} (h1 : w.Children.length ≤ 4611686018427387904) (h2 : w.Times.length ≤ 4611686018427387904) : roadref3_SameWard w w = some true := by
  unfold roadref3_SameWard
  rw [if_pos rfl, if_pos rfl, if_pos rfl, if_pos rfl, same_ints h2, Option.bind_some, if_pos rfl]
  unfold roadref3_SameWard.j0
  have loop : ∀ (d i : Nat), i + d = w.Children.length → roadref3_SameWard.l0 w w (w.Children.length : Int) (i : Int) = some true := by
    intro d
    induction d with
    | zero => intro i hi; rw [roadref3_SameWard.l0_eq, if_neg (by omega)]
    | succ d ih =>
      intro i hi
      have hlt : i < w.Children.length := by omega
      rw [roadref3_SameWard.l0_eq, if_pos (by omega), gi_at hlt, Option.bind_some, Option.bind_some, if_pos (by simp), w_succ (by omega)]
      exact ih (i + 1) (by omega)
  exact loop _ 0 (Nat.zero_add _)
theorem same_plan {p : Pl} (h1 : p.Stop.length ≤ 4611686018427387904) (h2 : p.Start.length ≤ 4611686018427387904) : roadref3_SamePlan p p = some true := by
  unfold roadref3_SamePlan
  rw [if_pos (beq_self_eq_true _), same_ints h1, Option.bind_some, if_pos rfl, same_ints h2, Option.bind_some]
theorem same_w0 : roadref3_SameWard w0 w0 = some true := same_ward (by decide) (by decide)
theorem same_p0 : roadref3_SamePlan p0 p0 = some true := same_plan (by decide) (by decide)
theorem in_val (x a b : Int) : roadref3_In x a b = some (decide (a ≤ x ∧ x ≤ b)) := by
  unfold roadref3_In
  by_cases h : x ≥ a
  · rw [if_pos h]; congr 1; by_cases h2 : x ≤ b <;> simp [h2] <;> omega
  · rw [if_neg h]; congr 1; symm; rw [decide_eq_false_iff_not]; omega
def ca (w : Wd) (k : Nat) : Ch := match w.Children[k]? with | some c => c | none => ⟨0, 0, false⟩
def ti (w : Wd) (k : Nat) : Int := match w.Times[k]? with | some t => t | none => 0
theorem ca_at {w : Wd} {k : Nat} (h : k < w.Children.length) : w.Children[k] = ca w k := by unfold ca; rw [List.getElem?_eq_getElem h]
theorem ti_at {w : Wd} {k : Nat} (h : k < w.Times.length) : w.Times[k] = ti w k := by unfold ti; rw [List.getElem?_eq_getElem h]
def okC (w : Wd) (k : Nat) : Prop := 1 ≤ (ca w k).When ∧ (ca w k).When ≤ 3 ∧ ∀ j, j < k → (ca w j).Id ≠ (ca w k).Id
def okT (w : Wd) (k : Nat) : Prop := 0 ≤ ti w k ∧ ti w k ≤ 1099511627776 ∧ (0 < k → ti w (k - 1) ≤ ti w k)
structure Good (w : Wd) : Prop where
  how : 1 ≤ w.How ∧ w.How ≤ 3
  most : 0 ≤ w.Most ∧ w.Most ≤ 50
  win : 1 ≤ w.Window ∧ w.Window ≤ 1099511627776
  nc : w.Children.length ≤ 20
  nt : w.Times.length ≤ 50
  c : ∀ k, k < w.Children.length → okC w k
  t : ∀ k, k < w.Times.length → okT w k
theorem times_both {w : Wd} (hn : w.Times.length ≤ 50) : ∀ (d i : Nat), i + d = w.Times.length → (∀ k, k < i → okT w k) →
    ∃ c, ward_Check.l1 w w.Times (w.Times.length : Int) (i : Int) = some c ∧ roadref3_WardFault.l1 (if i = 0 then 0 else ti w (i - 1)) w.Times (w.Times.length : Int) (i : Int) = some c ∧ (c = 0 ↔ ∀ k, k < w.Times.length → okT w k) := by
  intro d
  induction d with
  | zero =>
    intro i hi h
    refine ⟨0, by rw [ward_Check.l1_eq, if_neg (by omega)], by rw [roadref3_WardFault.l1_eq, if_neg (by omega)], fun _ k hk => h k (by omega), fun _ => rfl⟩
  | succ d ih =>
    intro i hi h
    have hlt : i < w.Times.length := by omega
    have bad : ¬ okT w i → ((21 : Int) = 0 ↔ ∀ k, k < w.Times.length → okT w k) := fun hb => ⟨fun h => absurd h (by decide), fun h => absurd (h i hlt) hb⟩
    have hlast : 0 ≤ (if i = 0 then 0 else ti w (i - 1)) ∧ (0 < i → (if i = 0 then 0 else ti w (i - 1)) = ti w (i - 1)) := by
      by_cases e : i = 0
      · rw [if_pos e]; exact ⟨by omega, fun g => by omega⟩
      · rw [if_neg e]; exact ⟨(h (i - 1) (by omega)).1, fun _ => rfl⟩
    rw [ward_Check.l1_eq, if_pos (by omega), gi_at hlt, Option.bind_some, ti_at hlt, roadref3_WardFault.l1_eq, if_pos (show (i : Int) < (w.Times.length : Int) by omega), gi_at hlt, Option.bind_some, ti_at hlt, in_val, Option.bind_some]
    by_cases c1 : ti w i < 0
    · refine ⟨21, by rw [if_pos c1], by rw [if_neg (show ¬ decide _ = true by rw [decide_eq_true_eq]; omega)], bad fun g => by have := g.1; omega⟩
    · by_cases c2 : ti w i > 1099511627776
      · refine ⟨21, by rw [if_neg c1, if_pos c2], by rw [if_neg (show ¬ decide _ = true by rw [decide_eq_true_eq]; omega)], bad fun g => by have := g.2.1; omega⟩
      · by_cases c3 : 0 < i ∧ ti w (i - 1) > ti w i
        · refine ⟨21, ?_, by rw [if_neg (show ¬ decide _ = true by rw [decide_eq_true_eq]; have := hlast.2 c3.1; omega)], bad fun g => by have := g.2.2 c3.1; omega⟩
          rw [if_neg c1, if_neg c2, if_pos (by omega), show IntKind.wrap .i64 ((i : Int) - 1) = ((i - 1 : Nat) : Int) by rw [wrap_in (by omega) (by omega)]; omega, gi_at (show i - 1 < w.Times.length by omega), Option.bind_some, ti_at, if_pos c3.2]
        · have hok : okT w i := ⟨by omega, by omega, fun g => by
            rcases Int.lt_or_le (ti w i) (ti w (i - 1)) with q | q
            · exact absurd ⟨g, q⟩ c3
            · exact q⟩
          have hin : (if i = 0 then 0 else ti w (i - 1)) ≤ ti w i := by
            by_cases e : i = 0
            · rw [if_pos e]; omega
            · rw [if_neg e]; exact hok.2.2 (by omega)
          obtain ⟨c, k1, k2, k3⟩ := ih (i + 1) (by omega) (fun k hk => by
            by_cases e : k = i
            · subst e; exact hok
            · exact h k (by omega))
          rw [if_neg (by omega), show i + 1 - 1 = i by omega] at k2
          refine ⟨c, ?_, by rw [if_pos (decide_eq_true ⟨hin, by omega⟩), w_succ (by omega)]; exact k2, k3⟩
          rw [if_neg c1, if_neg c2, w_succ (by omega)]
          by_cases e : i = 0
          · rw [if_neg (by omega)]; exact k1
          · rw [if_pos (by omega), show IntKind.wrap .i64 ((i : Int) - 1) = ((i - 1 : Nat) : Int) by rw [wrap_in (by omega) (by omega)]; omega, gi_at (show i - 1 < w.Times.length by omega), Option.bind_some, ti_at, if_neg (by have := hok.2.2 (by omega); omega)]
            exact k1
theorem any_id {w : Wd} {i : Nat} (hi : i < w.Children.length) {v : Int} : ((w.Children.take i).any fun z => z.Id == v) = true ↔ ∃ j, j < i ∧ (ca w j).Id = v := by
  rw [List.any_eq_true]
  constructor
  · rintro ⟨z, z1, z2⟩
    obtain ⟨j, j1, rfl⟩ := List.mem_iff_getElem.1 z1
    rw [List.length_take] at j1
    refine ⟨j, by omega, ?_⟩
    rw [List.getElem_take, ca_at] at z2
    simpa using z2
  · rintro ⟨j, j1, j2⟩
    refine ⟨w.Children[j], ?_, by rw [ca_at]; simpa using j2⟩
    exact List.mem_take_iff_getElem.2 ⟨j, by omega, rfl⟩
theorem dup_l2 {w : Wd} (hn : w.Children.length ≤ 20) {i : Nat} (hi : i < w.Children.length) {y : Ch} {x38 : Int} : ∀ (d j : Nat), j + d = i → (∀ k, k < j → (ca w k).Id ≠ y.Id) →
    roadref3_WardFault.l2 w y w.Children x38 (i : Int) (w.Children.take i) ((w.Children.take i).length : Int) (j : Int) = if ((w.Children.take i).any fun z => z.Id == y.Id) = true then some 5 else roadref3_WardFault.l0 w w.Children x38 (IntKind.wrap .i64 ((i : Int) + 1)) := by
  intro d
  have hl : (w.Children.take i).length = i := by rw [List.length_take]; omega
  induction d with
  | zero =>
    intro j hj h
    rw [roadref3_WardFault.l2_eq, if_neg (by omega), if_neg]
    rw [any_id hi]
    rintro ⟨k, k1, k2⟩
    exact h k (by omega) k2
  | succ d ih =>
    intro j hj h
    have hj' : j < (w.Children.take i).length := by omega
    rw [roadref3_WardFault.l2_eq, if_pos (by omega), gi_at hj', Option.bind_some, List.getElem_take, ca_at]
    by_cases c : (ca w j).Id = y.Id
    · rw [if_pos c, if_pos ((any_id hi).2 ⟨j, by omega, c⟩)]
    · rw [if_neg c, w_succ (by omega)]
      exact ih (j + 1) (by omega) (fun k hk => by
        by_cases e : k = j
        · subst e; exact c
        · exact h k (by omega))
theorem kids_both {w : Wd} (hn : w.Children.length ≤ 20) (ht : w.Times.length ≤ 50) : ∀ (d i : Nat), i + d = w.Children.length → (∀ k, k < i → okC w k) →
    ∃ c, ward_Check.l0 w w.Children (w.Children.length : Int) (i : Int) = some c ∧ roadref3_WardFault.l0 w w.Children (w.Children.length : Int) (i : Int) = some c ∧ (c = 0 ↔ (∀ k, k < w.Children.length → okC w k) ∧ ∀ k, k < w.Times.length → okT w k) := by
  intro d
  induction d with
  | zero =>
    intro i hi h
    obtain ⟨c, k1, k2, k3⟩ := times_both ht w.Times.length 0 (by omega) (fun k hk => absurd hk (Nat.not_lt_zero _))
    rw [if_pos rfl] at k2
    refine ⟨c, by rw [ward_Check.l0_eq, if_neg (by omega)]; exact k1, by rw [roadref3_WardFault.l0_eq, if_neg (by omega)]; exact k2, ?_⟩
    rw [k3]
    exact ⟨fun g => ⟨fun k hk => h k (by omega), g⟩, fun g => g.2⟩
  | succ d ih =>
    intro i hi h
    have hlt : i < w.Children.length := by omega
    have bad : ∀ v : Int, v ≠ 0 → ¬ okC w i → (v = 0 ↔ (∀ k, k < w.Children.length → okC w k) ∧ ∀ k, k < w.Times.length → okT w k) := fun v hv hb => ⟨fun h => absurd h hv, fun h => absurd (h.1 i hlt) hb⟩
    rw [ward_Check.l0_eq, if_pos (by omega), gi_at hlt, Option.bind_some, ca_at, roadref3_WardFault.l0_eq, if_pos (show (i : Int) < (w.Children.length : Int) by omega), gi_at hlt, Option.bind_some, ca_at, in_val, Option.bind_some]
    by_cases c1 : 1 ≤ (ca w i).When ∧ (ca w i).When ≤ 3
    · have hf := slices_IndexFunc_54.val (l := w.Children.take i) (p := fun z18 => ward_find_1 z18 (ca w i).Id) (fun z => z.Id == (ca w i).Id) (fun z _ => rfl) (by rw [List.length_take]; omega)
      have hfind : ward_find (w.Children.take i) (ca w i).Id = some (idxOf (fun z => z.Id == (ca w i).Id) (w.Children.take i)) := by
        unfold ward_find; rw [hf, Option.bind_some]
      have hge := idxOf_ge (fun z : Ch => z.Id == (ca w i).Id) (w.Children.take i)
      have h2 := dup_l2 hn hlt (y := ca w i) (x38 := (w.Children.length : Int)) i 0 (by omega) (fun k hk => absurd hk (Nat.not_lt_zero _))
      rw [show ((0 : Nat) : Int) = 0 from rfl] at h2
      rw [if_neg (by omega), show decide ((ca w i).When > 3) = false from decide_eq_false (by omega), ward_Check.j2_eq, if_neg (by decide), sls_take rfl (by omega), Option.bind_some, hfind, Option.bind_some, if_pos (decide_eq_true c1), Option.bind_some, h2]
      by_cases c2 : ((w.Children.take i).any fun z => z.Id == (ca w i).Id) = true
      · have : idxOf (fun z : Ch => z.Id == (ca w i).Id) (w.Children.take i) ≥ 0 := by rw [← hge] at c2; exact of_decide_eq_true c2
        obtain ⟨j, j1, j2⟩ := (any_id hlt).1 c2
        exact ⟨5, by rw [if_pos this], by rw [if_pos c2], bad 5 (by decide) fun g => g.2.2 j j1 j2⟩
      · have : ¬ idxOf (fun z : Ch => z.Id == (ca w i).Id) (w.Children.take i) ≥ 0 := fun g => by rw [← hge] at c2; exact c2 (decide_eq_true g)
        obtain ⟨c, k1, k2, k3⟩ := ih (i + 1) (by omega) (fun k hk => by
          by_cases e : k = i
          · subst e; exact ⟨c1.1, c1.2, fun j hj e => c2 ((any_id hlt).2 ⟨j, hj, e⟩)⟩
          · exact h k (by omega))
        rw [if_neg this, if_neg c2, w_succ (by omega)]
        exact ⟨c, k1, k2, k3⟩
    · refine ⟨1, ?_, by rw [if_neg (show ¬ decide _ = true by rw [decide_eq_true_eq]; exact c1)], bad 1 (by decide) fun g => c1 ⟨g.1, g.2.1⟩⟩
      by_cases e : (ca w i).When < 1
      · rw [if_pos e, ward_Check.j2_eq, if_pos rfl]
      · rw [if_neg e, show decide ((ca w i).When > 3) = true from decide_eq_true (by omega), ward_Check.j2_eq, if_pos rfl]
theorem check_both (w : Wd) : ∃ c, ward_Check w = some c ∧ roadref3_WardFault w = some c ∧ (c = 0 ↔ Good w) := by
  have hj1 : ward_Check.j1 w true = some 1 := by unfold ward_Check.j1; rw [if_pos rfl]
  have bad : ∀ v : Int, v ≠ 0 → ¬ Good w → (v = 0 ↔ Good w) := fun v hv hb => ⟨fun h => absurd h hv, fun h => absurd h hb⟩
  unfold ward_Check roadref3_WardFault
  rw [in_val, in_val, in_val, Option.bind_some, Option.bind_some, Option.bind_some, hj1]
  by_cases c : (1 ≤ w.How ∧ w.How ≤ 3) ∧ (0 ≤ w.Most ∧ w.Most ≤ 50) ∧ (1 ≤ w.Window ∧ w.Window ≤ 1099511627776)
  · obtain ⟨c1, c2, c3⟩ := c
    rw [if_neg (by omega), if_neg (by omega), if_neg (by omega), if_neg (by omega), if_neg (by omega), show decide (w.Window > 1099511627776) = false from decide_eq_false (by omega), if_pos (decide_eq_true c1), if_pos (decide_eq_true c2), if_pos (decide_eq_true c3)]
    unfold ward_Check.j1 roadref3_WardFault.j0
    rw [if_neg (by decide)]
    by_cases n1 : ((w.Children.length : Nat) : Int) > 20
    · rw [if_pos n1, if_pos n1]; exact ⟨2, rfl, rfl, bad 2 (by decide) fun g => by have := g.nc; omega⟩
    · rw [if_neg n1, if_neg n1]
      by_cases n2 : ((w.Times.length : Nat) : Int) > 50
      · rw [if_pos n2, if_pos n2]; exact ⟨2, rfl, rfl, bad 2 (by decide) fun g => by have := g.nt; omega⟩
      · rw [if_neg n2, if_neg n2]
        obtain ⟨v, k1, k2, k3⟩ := kids_both (w := w) (by omega) (by omega) w.Children.length 0 (by omega) (fun k hk => absurd hk (Nat.not_lt_zero _))
        refine ⟨v, k1, k2, ?_⟩
        rw [k3]
        exact ⟨fun g => ⟨c1, c2, c3, by omega, by omega, g.1, g.2⟩, fun g => ⟨g.c, g.t⟩⟩
  · refine ⟨1, ?_, ?_, bad 1 (by decide) fun g => c ⟨g.how, g.most, g.win⟩⟩
    · by_cases a1 : w.How < 1
      · rw [if_pos a1]
      · rw [if_neg a1]
        by_cases a2 : w.How > 3
        · rw [if_pos a2]
        · rw [if_neg a2]
          by_cases a3 : w.Most < 0
          · rw [if_pos a3]
          · rw [if_neg a3]
            by_cases a4 : w.Most > 50
            · rw [if_pos a4]
            · rw [if_neg a4]
              by_cases a5 : w.Window < 1
              · rw [if_pos a5]
              · rw [if_neg a5, show decide (w.Window > 1099511627776) = true from decide_eq_true (by omega), hj1]
    · by_cases a1 : 1 ≤ w.How ∧ w.How ≤ 3
      · rw [if_pos (decide_eq_true a1)]
        by_cases a2 : 0 ≤ w.Most ∧ w.Most ≤ 50
        · rw [if_pos (decide_eq_true a2), if_neg (show ¬ decide _ = true by rw [decide_eq_true_eq]; exact fun a3 => c ⟨a1, a2, a3⟩)]
        · rw [if_neg (show ¬ decide _ = true by rw [decide_eq_true_eq]; exact a2)]
      · rw [if_neg (show ¬ decide _ = true by rw [decide_eq_true_eq]; exact a1)]
theorem check_good {w : Wd} (h : Good w) : ward_Check w = some 0 := by
  obtain ⟨c, k1, _, k3⟩ := check_both w
  rw [k1, k3.2 h]
def mkL {α : Type} (n : Nat) (g : Nat → α) : List α := (List.range n).map g
theorem mkL_len {α : Type} {n : Nat} {g : Nat → α} : (mkL n g).length = n := by unfold mkL; rw [List.length_map, List.length_range]
theorem mkL_get {α : Type} {n k : Nat} {g : Nat → α} (h : k < n) : (mkL n g)[k]? = some (g k) := by unfold mkL; rw [List.getElem?_map, List.getElem?_range h]; rfl
def IsL {α : Type} (n : Nat) (a : List α) (g : Nat → α) : Prop := a.length = n ∧ ∀ k, k < n → a[k]? = some (g k)
theorem IsL.eq {α : Type} {n : Nat} {a : List α} {g : Nat → α} (h : IsL n a g) : a = mkL n g := by
  refine List.ext_getElem? fun k => ?_
  rcases Nat.lt_or_ge k n with c | c
  · rw [h.2 k c, mkL_get c]
  · rw [List.getElem?_eq_none (by rw [h.1]; exact c), List.getElem?_eq_none (by rw [mkL_len]; exact c)]
theorem IsL.gi {α : Type} {n : Nat} {a : List α} {g : Nat → α} (h : IsL n a g) {k : Nat} (hk : k < n) : gi a (k : Int) = some (g k) := by rw [gi_nat]; exact h.2 k hk
theorem IsL.set {α : Type} {n : Nat} {a : List α} {g : Nat → α} (h : IsL n a g) {q : Nat} (v : α) {g' : Nat → α} (hq : q < n) (h1 : g' q = v) (h2 : ∀ k, k < n → k ≠ q → g' k = g k) : IsL n (a.set q v) g' := by
  refine ⟨by rw [List.length_set]; exact h.1, fun k hk => ?_⟩
  rw [List.getElem?_set]
  by_cases c : q = k
  · subst c; rw [if_pos rfl, if_pos (by rw [h.1]; exact hq), h1]
  · rw [if_neg c, h.2 k hk, h2 k hk (fun e => c e.symm)]
theorem IsL.congr {α : Type} {n : Nat} {a : List α} {g g' : Nat → α} (h : IsL n a g) (e : ∀ k, k < n → g' k = g k) : IsL n a g' := ⟨h.1, fun k hk => by rw [h.2 k hk, e k hk]⟩
theorem isL_kids (w : Wd) : IsL w.Children.length w.Children (ca w) := ⟨rfl, fun k hk => by rw [List.getElem?_eq_getElem hk, ca_at]⟩
def sd (p : Nat → Bool) (f : Nat → Int) : Nat → List Int
  | 0 => []
  | k + 1 => (if p k = true then [f k] else []) ++ sd p f k
theorem sd_len {p : Nat → Bool} {f : Nat → Int} : ∀ k, (sd p f k).length ≤ k := by
  intro k
  induction k with
  | zero => exact Nat.le_refl _
  | succ k ih => unfold sd; rw [List.length_append]; split <;> simp <;> omega
theorem sd_none {p : Nat → Bool} {f : Nat → Int} : ∀ k, (∀ j, j < k → p j = false) → sd p f k = [] := by
  intro k
  induction k with
  | zero => intro _; rfl
  | succ k ih => intro h; unfold sd; rw [if_neg (by rw [h k (by omega)]; exact Bool.false_ne_true), ih fun j hj => h j (by omega)]; rfl
theorem sd_hi {p : Nat → Bool} {f : Nat → Int} {m : Nat} : ∀ k, m ≤ k → (∀ j, m ≤ j → j < k → p j = false) → sd p f k = sd p f m := by
  intro k
  induction k with
  | zero => intro h _; have : m = 0 := by omega
            subst this; rfl
  | succ k ih =>
    intro h hp
    by_cases c : m = k + 1
    · subst c; rfl
    · rw [← ih (by omega) fun j h1 h2 => hp j h1 (by omega)]
      show (if p k = true then [f k] else []) ++ sd p f k = _
      rw [if_neg (by rw [hp k (by omega) (by omega)]; exact Bool.false_ne_true)]; rfl
theorem sd_congr {p q : Nat → Bool} {f : Nat → Int} : ∀ k, (∀ j, j < k → p j = q j) → sd p f k = sd q f k := by
  intro k
  induction k with
  | zero => intro _; rfl
  | succ k ih => intro h; unfold sd; rw [h k (by omega), ih fun j hj => h j (by omega)]
theorem w_pred (x : Nat) (h : x ≤ 1000000) : IntKind.wrap .i64 ((x : Int) - 1) = (x : Int) - 1 := wrap_in (by omega) (by omega)
theorem on_lives {c : Ch} (h : c.Lives = true) : on c = c := by cases c; simp [on] at *; exact h
theorem off_dead {c : Ch} (h : ¬ c.Lives = true) : off c = c := by cases c; simp [off] at *; exact h
theorem stop_l0 {H M W : Int} {T s : List Int} {b : Bool} {y2 : Wd} {y3 : Pl} {n : Nat} (hn : n ≤ 20) {c : Nat → Ch} : ∀ (x : Nat) (a : List Ch) (acc : List Int), x ≤ n → IsL n a (fun k => if x ≤ k then off (c k) else c k) → acc.length + x ≤ 100 →
    ward_stop.l0 H M W a T y2 y3 acc s b ((x : Int) - 1) = some (T_ward_Ward.mk H M W (mkL n fun k => off (c k)) T, T_ward_Plan.mk (acc ++ sd (fun k => (c k).Lives) (fun k => (c k).Id) x) s b, 0) := by
  intro x
  induction x with
  | zero =>
    intro a acc hx ha hl
    rw [ward_stop.l0_eq, if_neg (by omega), (ha.congr (g' := fun k => off (c k)) fun k hk => by rw [if_pos (Nat.zero_le _)]).eq]
    rw [show sd (fun k => (c k).Lives) (fun k => (c k).Id) 0 = [] from rfl, List.append_nil]
  | succ x ih =>
    intro a acc hx ha hl
    have hg : gi a (x : Int) = some (c x) := by rw [ha.gi (by omega), if_neg (by omega)]
    rw [ward_stop.l0_eq, show (((x + 1 : Nat) : Int) - 1) = (x : Int) by omega, if_pos (by omega), hg, Option.bind_some]
    have hs : sd (fun k => (c k).Lives) (fun k => (c k).Id) (x + 1) = (if (c x).Lives = true then [(c x).Id] else []) ++ sd (fun k => (c k).Lives) (fun k => (c k).Id) x := rfl
    by_cases g : (c x).Lives = true
    · rw [if_pos g, ap_one (by omega), Option.bind_some, Option.bind_some, ward_stop.j0_eq, w_pred x (by omega), show Int.toNat (x : Int) = x from rfl, hs, if_pos g, ← List.append_assoc]
      exact ih _ _ (by omega) (ha.set (off (c x)) (by omega) (by rw [if_pos (Nat.le_refl _)]) fun k hk hkx => by
        by_cases q : x ≤ k
        · rw [if_pos q, if_pos (by omega)]
        · rw [if_neg q, if_neg (by omega)]) (by rw [List.length_append, List.length_singleton]; omega)
    · rw [if_neg g, ward_stop.j0_eq, w_pred x (by omega), hs, if_neg g, List.nil_append]
      exact ih _ _ (by omega) (ha.congr fun k hk => by
        by_cases q : k = x
        · subst q; rw [if_pos (Nat.le_refl _), if_neg (by omega), off_dead g]
        · by_cases q2 : x ≤ k
          · rw [if_pos q2, if_pos (by omega)]
          · rw [if_neg q2, if_neg (by omega)]) (by omega)
theorem again_l0 {H M W : Int} {T s : List Int} {b : Bool} {y4 : Pl} {i : Int} {to : Int} {n fr : Nat} (hn : n ≤ 20) {a : List Ch} {c : Nat → Ch} (ha : IsL n a c) : ∀ (d x : Nat) (acc : List Int), fr + d = x → x ≤ n → acc.length + x ≤ 100 →
    ward_again.l0 i H M W a T y4 (fr : Int) to acc s b ((x : Int) - 1) = ward_again.l1 i H M W a T y4 to (acc ++ sd (fun k => decide (fr ≤ k) && (c k).Lives) (fun k => (c k).Id) x) s b (fr : Int) := by
  intro d
  induction d with
  | zero =>
    intro x acc h1 h2 h3
    have : x = fr := by omega
    subst this
    rw [ward_again.l0_eq, if_neg (by omega), sd_none x (fun j hj => by rw [show decide (x ≤ j) = false from decide_eq_false (by omega)]; rfl), List.append_nil]
  | succ d ih =>
    intro x acc h1 h2 h3
    obtain ⟨z, rfl⟩ : ∃ z, x = z + 1 := ⟨x - 1, by omega⟩
    rw [ward_again.l0_eq, show (((z + 1 : Nat) : Int) - 1) = (z : Int) by omega, if_pos (by omega), ha.gi (by omega), Option.bind_some]
    have hs : sd (fun k => decide (fr ≤ k) && (c k).Lives) (fun k => (c k).Id) (z + 1) = (if (decide (fr ≤ z) && (c z).Lives) = true then [(c z).Id] else []) ++ sd (fun k => decide (fr ≤ k) && (c k).Lives) (fun k => (c k).Id) z := rfl
    rw [hs, show decide (fr ≤ z) = true from decide_eq_true (by omega), Bool.true_and]
    by_cases g : (c z).Lives = true
    · rw [if_pos g, ap_one (by omega), Option.bind_some, ward_again.j1_eq, w_pred z (by omega), if_pos g, ← List.append_assoc]
      exact ih z _ (by omega) (by omega) (by rw [List.length_append, List.length_singleton]; omega)
    · rw [if_neg g, ward_again.j1_eq, w_pred z (by omega), if_neg g, List.nil_append]
      exact ih z _ (by omega) (by omega) (by omega)
theorem again_l1 {H M W : Int} {T s : List Int} {b : Bool} {y4 : Pl} {i : Nat} {n fr to : Nat} (hn : n ≤ 20) (hto : to ≤ n) {c : Nat → Ch} : ∀ (d x : Nat) (a : List Ch), x + d = to → fr ≤ x → IsL n a (fun k => if k = i ∧ k < x then on (c k) else c k) → (i < fr → False) →
    ward_again.l1 (i : Int) H M W a T y4 (to : Int) s (sd (fun k => decide (fr ≤ k) && ((c k).Lives || decide (k = i))) (fun k => (c k).Id) x).reverse b (x : Int) = some (T_ward_Plan.mk s (sd (fun k => decide (fr ≤ k) && ((c k).Lives || decide (k = i))) (fun k => (c k).Id) to).reverse b, mkL n fun k => if k = i ∧ k < to then on (c k) else c k) := by
  intro d
  induction d with
  | zero =>
    intro x a h1 h2 ha _
    have : x = to := by omega
    subst this
    rw [ward_again.l1_eq, if_neg (by omega), ha.eq]
  | succ d ih =>
    intro x a h1 h2 ha hf
    have hx : x < n := by omega
    have hs : sd (fun k => decide (fr ≤ k) && ((c k).Lives || decide (k = i))) (fun k => (c k).Id) (x + 1) = (if (decide (fr ≤ x) && ((c x).Lives || decide (x = i))) = true then [(c x).Id] else []) ++ sd (fun k => decide (fr ≤ k) && ((c k).Lives || decide (k = i))) (fun k => (c k).Id) x := rfl
    have hl := sd_len (p := fun k => decide (fr ≤ k) && ((c k).Lives || decide (k = i))) (f := fun k => (c k).Id) x
    have hih := fun a' h => ih (x + 1) a' (by omega) (by omega) h hf
    rw [hs, show decide (fr ≤ x) = true from decide_eq_true h2, Bool.true_and] at hih
    have hg : gi a (x : Int) = some (c x) := by rw [ha.gi hx, if_neg (by omega)]
    have yes : ((c x).Lives || decide (x = i)) = true → ward_again.j3 (i : Int) H M W a T y4 (to : Int) s (sd (fun k => decide (fr ≤ k) && ((c k).Lives || decide (k = i))) (fun k => (c k).Id) x).reverse b (x : Int) true (x : Int) (c x) = some (T_ward_Plan.mk s (sd (fun k => decide (fr ≤ k) && ((c k).Lives || decide (k = i))) (fun k => (c k).Id) to).reverse b, mkL n fun k => if k = i ∧ k < to then on (c k) else c k) := by
      intro hq
      rw [ward_again.j3_eq, if_pos rfl, ap_one (by rw [List.length_reverse]; omega), Option.bind_some, Option.bind_some, ward_again.j2_eq, w_succ (by omega), show Int.toNat (x : Int) = x from rfl]
      rw [if_pos hq] at hih
      rw [show ∀ l : List Int, l.reverse ++ [(c x).Id] = ([(c x).Id] ++ l).reverse from fun l => by simp]
      refine hih _ (ha.set (on (c x)) hx ?_ fun k hk hkx => ?_)
      · by_cases e : x = i
        · rw [if_pos ⟨e, by omega⟩]
        · rw [if_neg (fun h => e h.1), on_lives]
          rw [Bool.or_eq_true] at hq
          rcases hq with h | h
          · exact h
          · exact absurd (of_decide_eq_true h) e
      · by_cases e : k = i ∧ k < x
        · rw [if_pos e, if_pos ⟨e.1, by omega⟩]
        · rw [if_neg e, if_neg (fun h => e ⟨h.1, by omega⟩)]
    rw [ward_again.l1_eq, if_pos (by omega), hg, Option.bind_some]
    by_cases g : (c x).Lives = true
    · rw [if_pos g]; exact yes (by rw [g]; rfl)
    · rw [if_neg g]
      by_cases e : x = i
      · rw [show ((x : Int) == (i : Int)) = true by rw [e]; exact beq_self_eq_true _]
        exact yes (by rw [decide_eq_true e, Bool.or_true])
      · rw [show ((x : Int) == (i : Int)) = false by simpa using (fun h => e (by omega)), ward_again.j3_eq, if_neg (by decide), ward_again.j2_eq, w_succ (by omega)]
        rw [if_neg (by rw [Bool.eq_false_iff.2 g, decide_eq_false e]; decide), List.nil_append] at hih
        refine hih _ (ha.congr fun k hk => ?_)
        by_cases q : k = i ∧ k < x
        · rw [if_pos q, if_pos ⟨q.1, by omega⟩]
        · rw [if_neg q, if_neg (fun h => q ⟨h.1, by
            have : k ≠ x := fun e2 => e (e2 ▸ h.1)
            omega⟩)]
def tch (w : Wd) (i k : Nat) : Bool := decide (k = i) || (decide (w.How = 2) || (decide (w.How = 3) && decide (i < k)))
def c1 (w : Wd) (i k : Nat) : Ch := if k = i then off (ca w k) else ca w k
def Tf (w : Wd) (now : Int) : List Int := w.Times.filter fun t => decide (now - t < w.Window)
def skp (w : Wd) (i : Nat) (failed : Bool) : Bool := decide ((ca w i).When = 3) || (decide ((ca w i).When = 2) && !failed)
def idk (w : Wd) (i k : Nat) : Int := (c1 w i k).Id
def spec (w : Wd) (i : Nat) (failed : Bool) (now : Int) : Wd × Pl :=
  if skp w i failed = true then (T_ward_Ward.mk w.How w.Most w.Window (mkL w.Children.length (c1 w i)) w.Times, p0)
  else if w.Most ≤ ((Tf w now).length : Int) then (T_ward_Ward.mk w.How w.Most w.Window (mkL w.Children.length fun k => off (c1 w i k)) (Tf w now), T_ward_Plan.mk (sd (fun k => (c1 w i k).Lives) (idk w i) w.Children.length) [] true)
  else (T_ward_Ward.mk w.How w.Most w.Window (mkL w.Children.length fun k => if k = i then on (c1 w i k) else c1 w i k) (Tf w now ++ [now]), T_ward_Plan.mk (sd (fun k => tch w i k && (c1 w i k).Lives) (idk w i) w.Children.length) (sd (fun k => tch w i k && ((c1 w i k).Lives || decide (k = i))) (idk w i) w.Children.length).reverse false)
theorem Tf_len (w : Wd) (now : Int) : (Tf w now).length ≤ w.Times.length := List.length_filter_le _ _
section
variable {w : Wd} (G : Good w) {i : Nat} (hi : i < w.Children.length) {now : Int} (hnow : 0 ≤ now ∧ now ≤ 1099511627776)
include G hi hnow
theorem recent_val {a : List Ch} : ward_recent (T_ward_Ward.mk w.How w.Most w.Window a w.Times) now = some (Tf w now) := by
  have hw := G.win
  unfold ward_recent
  have := slices_DeleteFunc_86.val (l := w.Times) (p := fun z24 => ward_recent_1 z24 now w.How w.Most w.Window) (fun t => decide (t ≤ IntKind.wrap .i64 (now - w.Window))) (fun t _ => rfl) (by have := G.nt; omega)
  show (Option.bind (slices_DeleteFunc_86 w.Times fun z24 => ward_recent_1 z24 now w.How w.Most w.Window) _) = _
  rw [this, Option.bind_some]
  congr 1
  unfold Tf
  refine List.filter_congr fun t _ => ?_
  rw [wrap_in (by omega) (by omega)]
  by_cases e : t ≤ now - w.Window
  · rw [decide_eq_true e, decide_eq_false (by omega)]; rfl
  · rw [decide_eq_false e, decide_eq_true (by omega)]; rfl
theorem again_val {T : List Int} {a : List Ch} (ha : IsL w.Children.length a (c1 w i)) : ward_again (T_ward_Ward.mk w.How w.Most w.Window a T) (i : Int) = some (T_ward_Plan.mk (sd (fun k => tch w i k && (c1 w i k).Lives) (idk w i) w.Children.length) (sd (fun k => tch w i k && ((c1 w i k).Lives || decide (k = i))) (idk w i) w.Children.length).reverse false, mkL w.Children.length fun k => if k = i then on (c1 w i k) else c1 w i k) := by
  have hn := G.nc
  have key : ∀ (fr to : Nat), fr ≤ i → i < to → to ≤ w.Children.length → (∀ k, k < w.Children.length → tch w i k = (decide (fr ≤ k) && decide (k < to))) →
      ward_again.j0 (i : Int) w.How w.Most w.Window a T p0 (fr : Int) (to : Int) = some (T_ward_Plan.mk (sd (fun k => tch w i k && (c1 w i k).Lives) (idk w i) w.Children.length) (sd (fun k => tch w i k && ((c1 w i k).Lives || decide (k = i))) (idk w i) w.Children.length).reverse false, mkL w.Children.length fun k => if k = i then on (c1 w i k) else c1 w i k) := by
    intro fr to h1 h2 h3 ht
    have e1 : ∀ (b : Nat → Bool), sd (fun k => decide (fr ≤ k) && b k) (idk w i) to = sd (fun k => tch w i k && b k) (idk w i) w.Children.length := fun b => by
      rw [sd_hi (m := to) w.Children.length h3 fun j j1 j2 => by rw [ht j j2, show decide (j < to) = false from decide_eq_false (by omega), Bool.and_false, Bool.false_and]]
      refine sd_congr to fun j hj => ?_
      rw [ht j (by omega), show decide (j < to) = true from decide_eq_true hj, Bool.and_true]
    unfold ward_again.j0
    rw [w_pred to (by omega), again_l0 hn ha (to - fr) to [] (by omega) h3 (by simp; omega), List.nil_append]
    have h := again_l1 (H := w.How) (M := w.Most) (W := w.Window) (T := T) (s := sd (fun k => decide (fr ≤ k) && (c1 w i k).Lives) (fun k => (c1 w i k).Id) to) (b := false) (y4 := p0) (i := i) (fr := fr) hn h3 (c := c1 w i) (to - fr) fr a (by omega) (Nat.le_refl _) (ha.congr fun k hk => by rw [if_neg (by omega)]) (fun h => by omega)
    rw [sd_none fr (fun j hj => by rw [show decide (fr ≤ j) = false from decide_eq_false (by omega), Bool.false_and])] at h
    refine h.trans ?_
    rw [show (fun k => (c1 w i k).Id) = idk w i from rfl, e1, e1]
    congr 2
    unfold mkL
    refine List.map_congr_left fun k hk => ?_
    by_cases e : k = i
    · rw [if_pos ⟨e, by omega⟩, if_pos e]
    · rw [if_neg (fun h => e h.1), if_neg e]
  unfold ward_again
  show (if w.How = 2 then ward_again.j0 (i : Int) w.How w.Most w.Window a T p0 0 ((a.length : Nat) : Int) else if w.How = 3 then ward_again.j0 (i : Int) w.How w.Most w.Window a T p0 (i : Int) ((a.length : Nat) : Int) else ward_again.j0 (i : Int) w.How w.Most w.Window a T p0 (i : Int) (IntKind.wrap .i64 ((i : Int) + 1))) = _
  rw [ha.1]
  by_cases h2 : w.How = 2
  · rw [if_pos h2]
    exact key 0 w.Children.length (Nat.zero_le _) hi (Nat.le_refl _) fun k hk => by
      unfold tch
      rw [decide_eq_true h2, Bool.true_or, Bool.or_true, show decide (0 ≤ k) = true from decide_eq_true (Nat.zero_le _), show decide (k < w.Children.length) = true from decide_eq_true hk]; rfl
  · rw [if_neg h2]
    by_cases h3 : w.How = 3
    · rw [if_pos h3]
      exact key i w.Children.length (Nat.le_refl _) hi (Nat.le_refl _) fun k hk => by
        unfold tch
        rw [decide_eq_false h2, decide_eq_true h3, Bool.false_or, Bool.true_and, show decide (k < w.Children.length) = true from decide_eq_true hk, Bool.and_true, Bool.eq_iff_iff, Bool.or_eq_true, decide_eq_true_eq, decide_eq_true_eq, decide_eq_true_eq]; omega
    · rw [if_neg h3, w_succ (by omega)]
      exact key i (i + 1) (Nat.le_refl _) (by omega) (by omega) fun k hk => by
        unfold tch
        rw [decide_eq_false h2, decide_eq_false h3, Bool.false_or, Bool.false_and, Bool.or_false, Bool.eq_iff_iff, Bool.and_eq_true, decide_eq_true_eq, decide_eq_true_eq, decide_eq_true_eq]; omega
theorem c1_is : IsL w.Children.length (w.Children.set i (off (ca w i))) (c1 w i) := (isL_kids w).set (off (ca w i)) hi (by unfold c1; rw [if_pos rfl]) fun k hk hne => by unfold c1; rw [if_neg hne]
theorem down_j0 (failed : Bool) : ward_Down.j0 failed now w w0 p0 (i : Int) = some ((spec w i failed now).1, (spec w i failed now).2, 0) := by
  have hn := G.nc
  have ht := G.nt
  have hc := c1_is G hi hnow
  have hwh : (c1 w i i).When = (ca w i).When := by unfold c1; rw [if_pos rfl]; rfl
  have hown : ward_own w = some w := by
    unfold ward_own
    rw [slices_Clone_83.val _ (by omega), Option.bind_some, slices_Clone_84.val _ (by omega), Option.bind_some]
  have go : ∀ b, b = skp w i failed → ward_Down.j2 now w.How w.Most w.Window (w.Children.set i (off (ca w i))) w.Times w0 p0 (i : Int) b = some ((spec w i failed now).1, (spec w i failed now).2, 0) := by
    rintro b rfl
    unfold ward_Down.j2 spec
    by_cases c : skp w i failed = true
    · rw [if_pos c, if_pos c, hc.eq]; rfl
    · rw [if_neg c, if_neg c]
      unfold ward_Down.j1
      rw [recent_val G hi hnow, Option.bind_some]
      by_cases m : w.Most ≤ ((Tf w now).length : Int)
      · rw [if_pos m, if_pos m]
        unfold ward_stop
        show (Option.bind (ward_stop.l0 w.How w.Most w.Window (w.Children.set i (off (ca w i))) (Tf w now) w0 p0 [] [] true (IntKind.wrap .i64 (((w.Children.set i (off (ca w i))).length : Int) - 1))) _) = _
        rw [List.length_set, w_pred _ (by omega), stop_l0 hn w.Children.length _ [] (Nat.le_refl _) (hc.congr fun k hk => by rw [if_neg (by omega)]) (by simp; omega), Option.bind_some]
        rfl
      · have := Tf_len w now
        rw [if_neg m, if_neg m, ap_one (by omega), Option.bind_some, again_val G hi hnow hc, Option.bind_some]
  unfold ward_Down.j0
  rw [hown, Option.bind_some, gi_at hi, Option.bind_some, ca_at, Option.bind_some, show Int.toNat (i : Int) = i from rfl]
  show (Option.bind (gi (w.Children.set i (off (ca w i))) (i : Int)) _) = _
  rw [hc.gi hi, Option.bind_some, hwh]
  by_cases h3 : (ca w i).When = 3
  · rw [if_pos h3]; exact go _ (by unfold skp; rw [decide_eq_true h3]; rfl)
  · rw [if_neg h3]
    by_cases h2 : (ca w i).When = 2
    · rw [if_pos h2]; exact go _ (by unfold skp; rw [decide_eq_false h3, decide_eq_true h2]; rfl)
    · rw [if_neg h2]; exact go _ (by unfold skp; rw [decide_eq_false h3, decide_eq_false h2]; rfl)
end
theorem fell_l3 {now : Int} {H M W : Int} {a : List Ch} {T stop q : List Int} {b : Bool} (hq : q.length ≤ 20) : ∀ (x : Nat) (acc : List Int), x ≤ q.length → acc.length + x ≤ 100 →
    roadref3_Fallen.l3 now w0 p0 H M W a T stop acc b q ((x : Int) - 1) = roadref3_Fallen.l3 now w0 p0 H M W a T stop (acc ++ (q.take x).reverse) b q (-1) := by
  intro x
  induction x with
  | zero => intro acc _ _; rw [List.take_zero, List.reverse_nil, List.append_nil]; rfl
  | succ x ih =>
    intro acc hx hl
    have hlt : x < q.length := by omega
    rw [roadref3_Fallen.l3_eq, show (((x + 1 : Nat) : Int) - 1) = (x : Int) by omega, if_pos (by omega), gi_at hlt, Option.bind_some, ap_one (by omega), Option.bind_some, w_pred x (by omega), ih _ (by omega) (by rw [List.length_append, List.length_singleton]; omega), List.take_succ_eq_append_getElem hlt, List.reverse_append, List.append_assoc]
    rfl
theorem touch_val (w : Wd) (x i : Nat) : roadref3_Fallen_1 (x : Int) (i : Int) w = some (tch w i x) := by
  unfold roadref3_Fallen_1 tch
  by_cases e : x = i
  · rw [if_pos (by omega), decide_eq_true e]; rfl
  · rw [if_neg (by omega), decide_eq_false e, Bool.false_or]
    by_cases h2 : w.How = 2
    · rw [if_pos h2, decide_eq_true h2]; rfl
    · rw [if_neg h2, decide_eq_false h2, Bool.false_or]
      by_cases h3 : w.How = 3
      · rw [if_pos h3, decide_eq_true h3, Bool.true_and]
        congr 1
        rw [Bool.eq_iff_iff, decide_eq_true_eq, decide_eq_true_eq]; omega
      · rw [if_neg h3, decide_eq_false h3, Bool.false_and]
section
variable {w : Wd} (G : Good w) {i : Nat} (hi : i < w.Children.length) {now : Int} (hnow : 0 ≤ now ∧ now ≤ 1099511627776)
include G hi hnow
theorem fell_up {T q : List Int} : ∀ (x : Nat) (a : List Ch) (acc : List Int), x ≤ w.Children.length → IsL w.Children.length a (fun k => if x ≤ k then off (c1 w i k) else c1 w i k) → acc.length + x ≤ 100 →
    roadref3_Fallen.l2 now w0 p0 w.How w.Most w.Window a T (i : Int) acc [] true w q ((x : Int) - 1) = roadref3_Fallen.l3 now w0 p0 w.How w.Most w.Window (mkL w.Children.length fun k => off (c1 w i k)) T (acc ++ sd (fun k => (c1 w i k).Lives) (idk w i) x) [] true q (IntKind.wrap .i64 ((q.length : Int) - 1)) := by
  intro x
  have hn := G.nc
  induction x with
  | zero =>
    intro a acc hx ha hl
    rw [roadref3_Fallen.l2_eq, if_neg (by omega), (ha.congr (g' := fun k => off (c1 w i k)) fun k hk => by rw [if_pos (Nat.zero_le _)]).eq, show sd (fun k => (c1 w i k).Lives) (idk w i) 0 = [] from rfl, List.append_nil]
  | succ x ih =>
    intro a acc hx ha hl
    have hg : gi a (x : Int) = some (c1 w i x) := by rw [ha.gi (by omega), if_neg (by omega)]
    have hs : sd (fun k => (c1 w i k).Lives) (idk w i) (x + 1) = (if (c1 w i x).Lives = true then [(c1 w i x).Id] else []) ++ sd (fun k => (c1 w i k).Lives) (idk w i) x := rfl
    rw [roadref3_Fallen.l2_eq, show (((x + 1 : Nat) : Int) - 1) = (x : Int) by omega, if_pos (by omega), hg, Option.bind_some]
    by_cases g : (c1 w i x).Lives = true
    · rw [if_pos g, if_pos rfl, roadref3_Fallen.j5_eq, if_pos rfl, ap_one (by omega), Option.bind_some, Option.bind_some, roadref3_Fallen.j4_eq, if_pos rfl, roadref3_Fallen.j6_eq, if_neg (by decide), roadref3_Fallen.j3_eq, w_pred x (by omega), show Int.toNat (x : Int) = x from rfl, hs, if_pos g, ← List.append_assoc]
      exact ih _ _ (by omega) (ha.set (off (c1 w i x)) (by omega) (by rw [if_pos (Nat.le_refl _)]) fun k hk hkx => by
        by_cases q : x ≤ k
        · rw [if_pos q, if_pos (by omega)]
        · rw [if_neg q, if_neg (by omega)]) (by rw [List.length_append, List.length_singleton]; omega)
    · rw [if_neg g, roadref3_Fallen.j5_eq, if_neg (by decide), roadref3_Fallen.j4_eq, if_pos rfl, roadref3_Fallen.j6_eq, if_neg (by decide), roadref3_Fallen.j3_eq, w_pred x (by omega), hs, if_neg g, List.nil_append]
      exact ih _ _ (by omega) (ha.congr fun k hk => by
        by_cases q : k = x
        · subst q; rw [if_pos (Nat.le_refl _), if_neg (by omega), off_dead g]
        · by_cases q2 : x ≤ k
          · rw [if_pos q2, if_pos (by omega)]
          · rw [if_neg q2, if_neg (by omega)]) (by omega)
theorem fell_go {T : List Int} : ∀ (x : Nat) (a : List Ch) (acc st : List Int), x ≤ w.Children.length → IsL w.Children.length a (fun k => if k = i ∧ x ≤ k then on (c1 w i k) else c1 w i k) → acc.length + x ≤ 100 → st.length + x ≤ 100 →
    ∃ a', IsL w.Children.length a' (fun k => if k = i then on (c1 w i k) else c1 w i k) ∧ roadref3_Fallen.l2 now w0 p0 w.How w.Most w.Window a T (i : Int) acc [] false w st ((x : Int) - 1) = roadref3_Fallen.l3 now w0 p0 w.How w.Most w.Window a' T (acc ++ sd (fun k => tch w i k && (c1 w i k).Lives) (idk w i) x) [] false (st ++ sd (fun k => tch w i k && ((c1 w i k).Lives || decide (k = i))) (idk w i) x) (IntKind.wrap .i64 (((st ++ sd (fun k => tch w i k && ((c1 w i k).Lives || decide (k = i))) (idk w i) x).length : Int) - 1)) := by
  intro x
  have hn := G.nc
  induction x with
  | zero =>
    intro a acc st hx ha hl hl2
    refine ⟨a, ha.congr fun k hk => by
      by_cases e : k = i
      · rw [if_pos e, if_pos ⟨e, Nat.zero_le _⟩]
      · rw [if_neg e, if_neg (fun h => e h.1)], ?_⟩
    rw [roadref3_Fallen.l2_eq, if_neg (by omega)]
    simp only [sd, List.append_nil]
  | succ x ih =>
    intro a acc st hx ha hl hl2
    have hg : gi a (x : Int) = some (c1 w i x) := by rw [ha.gi (by omega), if_neg (by omega)]
    have hs1 : sd (fun k => tch w i k && (c1 w i k).Lives) (idk w i) (x + 1) = (if (tch w i x && (c1 w i x).Lives) = true then [(c1 w i x).Id] else []) ++ sd (fun k => tch w i k && (c1 w i k).Lives) (idk w i) x := rfl
    have hs2 : sd (fun k => tch w i k && ((c1 w i k).Lives || decide (k = i))) (idk w i) (x + 1) = (if (tch w i x && ((c1 w i x).Lives || decide (x = i))) = true then [(c1 w i x).Id] else []) ++ sd (fun k => tch w i k && ((c1 w i k).Lives || decide (k = i))) (idk w i) x := rfl
    have hset : (fun k => if k = i ∧ x ≤ k then on (c1 w i k) else c1 w i k) x = (if x = i then on (c1 w i x) else c1 w i x) := by
      show (if x = i ∧ x ≤ x then on (c1 w i x) else c1 w i x) = _
      by_cases e : x = i
      · rw [if_pos e, if_pos ⟨e, Nat.le_refl _⟩]
      · rw [if_neg e, if_neg (fun h => e h.1)]
    have hoth : ∀ k, k < w.Children.length → k ≠ x → (fun k => if k = i ∧ x ≤ k then on (c1 w i k) else c1 w i k) k = (fun k => if k = i ∧ x + 1 ≤ k then on (c1 w i k) else c1 w i k) k := fun k hk hne => by
      show (if k = i ∧ x ≤ k then on (c1 w i k) else c1 w i k) = (if k = i ∧ x + 1 ≤ k then on (c1 w i k) else c1 w i k)
      by_cases e : k = i ∧ x ≤ k
      · rw [if_pos e, if_pos ⟨e.1, by omega⟩]
      · rw [if_neg e, if_neg (fun h => e ⟨h.1, by omega⟩)]
    rw [roadref3_Fallen.l2_eq, show (((x + 1 : Nat) : Int) - 1) = (x : Int) by omega, if_pos (by omega), hg, Option.bind_some, hs1, hs2]
    by_cases g : (c1 w i x).Lives = true
    · have hxi : x ≠ i := fun e => by unfold c1 at g; rw [if_pos e] at g; cases g
      rw [if_pos g, if_neg Bool.false_ne_true, touch_val, Option.bind_some, roadref3_Fallen.j5_eq]
      by_cases t : tch w i x = true
      · rw [if_pos t, ap_one (by omega), Option.bind_some, Option.bind_some, roadref3_Fallen.j4_eq, if_neg Bool.false_ne_true, touch_val, Option.bind_some, if_pos t, if_pos g, roadref3_Fallen.j6_eq, if_pos rfl]
        rw [if_pos (show (tch w i x && (c1 w i x).Lives) = true by rw [t, g]; rfl), if_pos (show (tch w i x && ((c1 w i x).Lives || decide (x = i))) = true by rw [t, g]; rfl)]
        show ∃ a', _ ∧ (Option.bind (ap 8 st [(c1 w i x).Id]) fun l10 => Option.bind (some (((a.set (Int.toNat (x : Int)) (off (c1 w i x))).set (Int.toNat (x : Int)) (on (c1 w i x))))) fun l26 => roadref3_Fallen.j3 now w0 p0 w.How w.Most w.Window l26 T (i : Int) (acc ++ [(c1 w i x).Id]) [] false w l10 (x : Int)) = _
        rw [ap_one (by omega), Option.bind_some, Option.bind_some, roadref3_Fallen.j3_eq, w_pred x (by omega), show Int.toNat (x : Int) = x from rfl, List.set_set, on_lives g, ← List.append_assoc, ← List.append_assoc]
        exact ih _ _ _ (by omega) (ha.set (c1 w i x) (by omega) (hset.trans (if_neg hxi)) hoth) (by rw [List.length_append, List.length_singleton]; omega) (by rw [List.length_append, List.length_singleton]; omega)
      · rw [if_neg t, roadref3_Fallen.j4_eq, if_neg Bool.false_ne_true, touch_val, Option.bind_some, if_neg t, roadref3_Fallen.j6_eq, if_neg Bool.false_ne_true, roadref3_Fallen.j3_eq, w_pred x (by omega)]
        rw [if_neg (show ¬ (tch w i x && (c1 w i x).Lives) = true by rw [Bool.eq_false_iff.2 t]; exact Bool.false_ne_true), if_neg (show ¬ (tch w i x && ((c1 w i x).Lives || decide (x = i))) = true by rw [Bool.eq_false_iff.2 t]; exact Bool.false_ne_true), List.nil_append, List.nil_append]
        exact ih _ _ _ (by omega) (ha.congr fun k hk => by
          by_cases e : k = x
          · subst e
            show (if k = i ∧ k ≤ k then on (c1 w i k) else c1 w i k) = (if k = i ∧ k + 1 ≤ k then on (c1 w i k) else c1 w i k)
            rw [if_neg (fun h => hxi h.1), if_neg (fun h => hxi h.1)]
          · exact hoth k hk e) (by omega) (by omega)
    · rw [if_neg g, roadref3_Fallen.j5_eq, if_neg Bool.false_ne_true, roadref3_Fallen.j4_eq, if_neg Bool.false_ne_true, touch_val, Option.bind_some]
      rw [if_neg (show ¬ (tch w i x && (c1 w i x).Lives) = true by rw [Bool.eq_false_iff.2 g, Bool.and_false]; exact Bool.false_ne_true), List.nil_append]
      by_cases e : x = i
      · have t : tch w i x = true := by unfold tch; rw [decide_eq_true e]; rfl
        rw [if_pos t, if_neg g, roadref3_Fallen.j6_eq, if_pos (show ((x : Int) == (i : Int)) = true by rw [e]; exact beq_self_eq_true _), ap_one (by omega), Option.bind_some, Option.bind_some, roadref3_Fallen.j3_eq, w_pred x (by omega), show Int.toNat (x : Int) = x from rfl]
        rw [if_pos (show (tch w i x && ((c1 w i x).Lives || decide (x = i))) = true by rw [t, decide_eq_true e, Bool.or_true]; rfl), ← List.append_assoc]
        exact ih _ _ _ (by omega) (ha.set (on (c1 w i x)) (by omega) (hset.trans (if_pos e)) hoth) (by omega) (by rw [List.length_append, List.length_singleton]; omega)
      · have hno : (tch w i x && ((c1 w i x).Lives || decide (x = i))) = false := by rw [Bool.eq_false_iff.2 g, decide_eq_false e, Bool.or_false, Bool.and_false]
        rw [if_neg (show ¬ (tch w i x && ((c1 w i x).Lives || decide (x = i))) = true by rw [hno]; exact Bool.false_ne_true), List.nil_append]
        have hcong : IsL w.Children.length a (fun k => if k = i ∧ x ≤ k then on (c1 w i k) else c1 w i k) := ha.congr fun k hk => by
          by_cases e2 : k = x
          · subst e2
            show (if k = i ∧ k ≤ k then on (c1 w i k) else c1 w i k) = (if k = i ∧ k + 1 ≤ k then on (c1 w i k) else c1 w i k)
            rw [if_neg (fun h => e h.1), if_neg (fun h => e h.1)]
          · exact hoth k hk e2
        have hx6 : ((x : Int) == (i : Int)) = false := by simpa using (fun h => e (by omega))
        by_cases t : tch w i x = true
        · rw [if_pos t, if_neg g, hx6, roadref3_Fallen.j6_eq, if_neg Bool.false_ne_true, roadref3_Fallen.j3_eq, w_pred x (by omega)]
          exact ih _ _ _ (by omega) hcong (by omega) (by omega)
        · rw [if_neg t, roadref3_Fallen.j6_eq, if_neg Bool.false_ne_true, roadref3_Fallen.j3_eq, w_pred x (by omega)]
          exact ih _ _ _ (by omega) hcong (by omega) (by omega)
theorem fell_l1 {a : List Ch} {b : Bool} : ∀ (d j : Nat), j + d = w.Times.length →
    roadref3_Fallen.l1 now w w0 p0 w.How w.Most w.Window a ((w.Times.take j).filter fun t => decide (now - t < w.Window)) (i : Int) [] [] b w.Times (w.Times.length : Int) (j : Int) = roadref3_Fallen.l1 now w w0 p0 w.How w.Most w.Window a (Tf w now) (i : Int) [] [] b w.Times (w.Times.length : Int) (w.Times.length : Int) := by
  intro d
  have hn := G.nt
  have hw := G.win
  induction d with
  | zero =>
    intro j hj
    have : j = w.Times.length := by omega
    subst this
    rw [List.take_length]; rfl
  | succ d ih =>
    intro j hj
    have hlt : j < w.Times.length := by omega
    obtain ⟨t1, t2, _⟩ := G.t j hlt
    rw [← ti_at hlt] at t1 t2
    have hf : ((w.Times.take j).filter fun t => decide (now - t < w.Window)).length ≤ j := Nat.le_trans (List.length_filter_le _ _) (by rw [List.length_take]; omega)
    rw [← ih (j + 1) (by omega), roadref3_Fallen.l1_eq, if_pos (by omega), gi_at hlt, Option.bind_some, List.take_succ_eq_append_getElem hlt, List.filter_append, wrap_in (by omega) (by omega)]
    by_cases c : now - w.Times[j] < w.Window
    · rw [if_pos c, ap_one (by omega), Option.bind_some, w_succ (by omega)]; simp [c]
    · rw [if_neg c, w_succ (by omega)]; simp [c]
theorem fell_val {id : Int} (hid : (ca w i).Id = id) (hfst : ∀ j, j < i → (ca w j).Id ≠ id) (failed : Bool) : roadref3_Fallen w id failed now = some (spec w i failed now) := by
  have hn := G.nc
  have ht := G.nt
  have hc := c1_is G hi hnow
  have hwh : (c1 w i i).When = (ca w i).When := by unfold c1; rw [if_pos rfl]; rfl
  have hT := Tf_len w now
  have go : ∀ b, b = skp w i failed → roadref3_Fallen.j1 now w w0 p0 w.How w.Most w.Window (w.Children.set i (off (ca w i))) [] (i : Int) [] [] false b = some (spec w i failed now) := by
    rintro b rfl
    unfold roadref3_Fallen.j1 spec
    by_cases c : skp w i failed = true
    · rw [if_pos c, if_pos c, ap_nil (by omega), Option.bind_some, hc.eq]; rfl
    · rw [if_neg c, if_neg c]
      unfold roadref3_Fallen.j0
      have h1 := fell_l1 G hi hnow (a := w.Children.set i (off (ca w i))) (b := false) w.Times.length 0 (by omega)
      rw [List.take_zero, List.filter_nil, show ((0 : Nat) : Int) = 0 from rfl] at h1
      rw [h1, roadref3_Fallen.l1_eq, if_neg (by omega), List.length_set, w_pred _ (by omega)]
      by_cases m : w.Most ≤ ((Tf w now).length : Int)
      · rw [if_pos m, show decide (((Tf w now).length : Int) ≥ w.Most) = true from decide_eq_true m, fell_up G hi hnow w.Children.length _ [] (Nat.le_refl _) (hc.congr fun k hk => by rw [if_neg (by omega)]) (by simp; omega), roadref3_Fallen.l3_eq, if_neg (by decide), if_pos rfl]
        rfl
      · obtain ⟨a', k1, k2⟩ := fell_go G hi hnow (T := Tf w now) w.Children.length _ [] [] (Nat.le_refl _) (hc.congr fun k hk => by rw [if_neg (by omega)]) (by simp; omega) (by simp; omega)
        have hq := sd_len (p := fun k => tch w i k && ((c1 w i k).Lives || decide (k = i))) (f := idk w i) w.Children.length
        rw [if_neg m, show decide (((Tf w now).length : Int) ≥ w.Most) = false from decide_eq_false m, k2, List.nil_append, List.nil_append, w_pred _ (by omega), fell_l3 (by omega) _ [] (Nat.le_refl _) (by simp; omega), List.take_length, List.nil_append, roadref3_Fallen.l3_eq, if_neg (by decide), if_neg Bool.false_ne_true, ap_one (by omega), Option.bind_some, k1.eq]
        rfl
  have loop : ∀ (d j : Nat), j + d = i → roadref3_Fallen.l0 id failed now w w0 p0 w.How w.Most w.Window w.Children [] (j : Int) = some (spec w i failed now) := by
    intro d
    induction d with
    | zero =>
      intro j hj
      have : j = i := by omega
      subst this
      rw [roadref3_Fallen.l0_eq, gi_at hi, Option.bind_some, ca_at, if_pos hid, Option.bind_some, Option.bind_some, show Int.toNat (j : Int) = j from rfl]
      show (Option.bind (gi (w.Children.set j (off (ca w j))) (j : Int)) _) = _
      rw [hc.gi hi, Option.bind_some, hwh]
      by_cases h3 : (ca w j).When = 3
      · rw [if_pos h3]; exact go _ (by unfold skp; rw [decide_eq_true h3]; rfl)
      · rw [if_neg h3]
        by_cases h2 : (ca w j).When = 2
        · rw [if_pos h2]; exact go _ (by unfold skp; rw [decide_eq_false h3, decide_eq_true h2]; rfl)
        · rw [if_neg h2]; exact go _ (by unfold skp; rw [decide_eq_false h3, decide_eq_false h2]; rfl)
    | succ d ih =>
      intro j hj
      have hlt : j < w.Children.length := by omega
      rw [roadref3_Fallen.l0_eq, gi_at hlt, Option.bind_some, ca_at, if_neg (hfst j (by omega)), w_succ (by omega)]
      exact ih (j + 1) (by omega)
  unfold roadref3_Fallen
  rw [ap_nil (by omega), Option.bind_some]
  exact loop i 0 (by omega)
end
theorem okT_pw {w : Wd} (h : ∀ k, k < w.Times.length → okT w k) : w.Times.Pairwise (· ≤ ·) ∧ ∀ t ∈ w.Times, 0 ≤ t ∧ t ≤ 1099511627776 := by
  constructor
  · refine List.pairwise_iff_getElem.2 fun i j hi hj hij => ?_
    rw [ti_at, ti_at]
    have : ∀ d, i + d < w.Times.length → ti w i ≤ ti w (i + d) := by
      intro d
      induction d with
      | zero => intro _; exact Int.le_refl _
      | succ d ih =>
        intro hd
        have h1 := ih (by omega)
        have h2 := (h (i + (d + 1)) hd).2.2 (by omega)
        rw [show i + (d + 1) - 1 = i + d by omega] at h2
        omega
    have := this (j - i) (by omega)
    rwa [show i + (j - i) = j by omega] at this
  · intro t ht
    obtain ⟨k, hk, rfl⟩ := List.mem_iff_getElem.1 ht
    rw [ti_at]
    exact ⟨(h k hk).1, (h k hk).2.1⟩
theorem pw_okT {w : Wd} (h1 : w.Times.Pairwise (· ≤ ·)) (h2 : ∀ t ∈ w.Times, 0 ≤ t ∧ t ≤ 1099511627776) : ∀ k, k < w.Times.length → okT w k := by
  intro k hk
  have := h2 _ (List.getElem_mem hk)
  rw [ti_at] at this
  refine ⟨this.1, this.2, fun hpos => ?_⟩
  have := List.pairwise_iff_getElem.1 h1 (k - 1) k (by omega) hk (by omega)
  rwa [ti_at, ti_at] at this
theorem good_new {w : Wd} (G : Good w) {g : Nat → Ch} (hg : ∀ k, k < w.Children.length → (g k).Id = (ca w k).Id ∧ (g k).When = (ca w k).When) {T : List Int} (hT : T.length ≤ 50) (h1 : T.Pairwise (· ≤ ·)) (h2 : ∀ t ∈ T, 0 ≤ t ∧ t ≤ 1099511627776) : Good (T_ward_Ward.mk w.How w.Most w.Window (mkL w.Children.length g) T) := by
  have hc : ∀ k, k < w.Children.length → ca (T_ward_Ward.mk w.How w.Most w.Window (mkL w.Children.length g) T) k = g k := fun k hk => by
    unfold ca
    show (match (mkL w.Children.length g)[k]? with | some c => c | none => _) = _
    rw [mkL_get hk]
  refine ⟨G.how, G.most, G.win, by show (mkL w.Children.length g).length ≤ 20; rw [mkL_len]; exact G.nc, hT, fun k hk => ?_, pw_okT h1 h2⟩
  have hk : k < w.Children.length := by rw [← mkL_len (n := w.Children.length) (g := g)]; exact hk
  obtain ⟨a, b, c⟩ := G.c k hk
  unfold okC
  rw [hc k hk, (hg k hk).1, (hg k hk).2]
  exact ⟨a, b, fun j hj => by rw [hc j (by omega), (hg j (by omega)).1]; exact c j hj⟩
theorem spec_good {w : Wd} (G : Good w) {i : Nat} {now : Int} (hnow : 0 ≤ now ∧ now ≤ 1099511627776) (hlast : ∀ t ∈ w.Times, t ≤ now) (failed : Bool) : Good (spec w i failed now).1 := by
  obtain ⟨p1, p2⟩ := okT_pw G.t
  have hc1 : ∀ k, (c1 w i k).Id = (ca w k).Id ∧ (c1 w i k).When = (ca w k).When := fun k => by unfold c1; split <;> exact ⟨rfl, rfl⟩
  have hTl := Tf_len w now
  have hm : ∀ t ∈ Tf w now, 0 ≤ t ∧ t ≤ 1099511627776 := fun t ht => p2 t (List.mem_filter.1 ht).1
  have hp : (Tf w now).Pairwise (· ≤ ·) := p1.filter _
  have := G.nt
  have := G.most
  unfold spec
  split
  · exact good_new G (fun k _ => hc1 k) G.nt p1 p2
  · split
    · exact good_new G (g := fun k => off (c1 w i k)) (fun k _ => hc1 k) (by omega) hp hm
    · refine good_new G (g := fun k => if k = i then on (c1 w i k) else c1 w i k) (fun k _ => by split <;> exact hc1 k) (by rw [List.length_append, List.length_singleton]; omega) ?_ ?_
      · rw [List.pairwise_append]
        exact ⟨hp, List.pairwise_singleton _ _, fun a ha b hb => by rw [List.mem_singleton.1 hb]; exact hlast a (List.mem_filter.1 ha).1⟩
      · intro t ht
        rcases List.mem_append.1 ht with ht | ht
        · exact hm t ht
        · rw [List.mem_singleton.1 ht]; exact hnow
def small (w : Wd) (p : Pl) : Prop := w.Children.length ≤ 100 ∧ w.Times.length ≤ 100 ∧ p.Stop.length ≤ 100 ∧ p.Start.length ≤ 100
theorem spec_small {w : Wd} (G : Good w) {i : Nat} {now : Int} (hnow : 0 ≤ now ∧ now ≤ 1099511627776) (hlast : ∀ t ∈ w.Times, t ≤ now) (failed : Bool) : small (spec w i failed now).1 (spec w i failed now).2 := by
  have h := spec_good G hnow hlast (i := i) failed
  refine ⟨by have := h.nc; omega, by have := h.nt; omega, ?_⟩
  have hn := G.nc
  unfold spec
  split
  · exact ⟨Nat.zero_le _, Nat.zero_le _⟩
  · split
    · exact ⟨Nat.le_trans (sd_len _) (by omega), Nat.zero_le _⟩
    · refine ⟨Nat.le_trans (sd_len _) (by omega), ?_⟩
      show ((sd _ _ _).reverse).length ≤ 100
      rw [List.length_reverse]
      exact Nat.le_trans (sd_len _) (by omega)
theorem same_of {w : Wd} {p : Pl} (h : small w p) : roadref3_SameWard w w = some true ∧ roadref3_SamePlan p p = some true := by
  obtain ⟨a, b, c, d⟩ := h
  exact ⟨same_ward (by omega) (by omega), same_plan (by omega) (by omega)⟩
theorem down_val {w : Wd} (G : Good w) (id : Int) (failed : Bool) (now : Int) : ∃ r, ward_Down w id failed now = some r ∧ roadlaw3_fallen w (T_ward_Fall.mk id failed now) = some r ∧ (r.2.2 = 0 → Good r.1) ∧ small r.1 r.2.1 := by
  have hn := G.nc
  have ht := G.nt
  have hf := slices_IndexFunc_54.val (l := w.Children) (p := fun z18 => ward_find_1 z18 id) (fun z => z.Id == id) (fun z _ => rfl) (by omega)
  have hf2 := slices_IndexFunc_54.val (l := w.Children) (p := fun z35 => roadlaw3_fallen_1 z35 (T_ward_Fall.mk id failed now)) (fun z => z.Id == id) (fun z _ => rfl) (by omega)
  have hfind : ward_find w.Children id = some (idxOf (fun z => z.Id == id) w.Children) := by unfold ward_find; rw [hf, Option.bind_some]
  obtain ⟨last, l1, l2, l3⟩ : ∃ last : Int, 0 ≤ last ∧ (∀ t ∈ w.Times, t ≤ last) ∧ (∀ (K : Int → Option (Wd × Pl × Int)), (if ((w.Times.length : Nat) : Int) > 0 then (Option.bind (gi w.Times (IntKind.wrap .i64 (((w.Times.length : Nat) : Int) - 1))) fun y54 => K y54) else K 0) = K last) ∧ True := by
    by_cases c : w.Times.length = 0
    · refine ⟨0, Int.le_refl _, fun t ht => ?_, fun K => by rw [if_neg (by omega)], trivial⟩
      rw [List.length_eq_zero_iff.1 c] at ht; cases ht
    · obtain ⟨p1, p2⟩ := okT_pw G.t
      refine ⟨ti w (w.Times.length - 1), (G.t _ (by omega)).1, fun t ht => ?_, fun K => ?_, trivial⟩
      · obtain ⟨k, hk, rfl⟩ := List.mem_iff_getElem.1 ht
        by_cases e : k = w.Times.length - 1
        · subst e; rw [ti_at]; exact Int.le_refl _
        · have := List.pairwise_iff_getElem.1 p1 k (w.Times.length - 1) hk (by omega) (by omega)
          rwa [ti_at (show w.Times.length - 1 < w.Times.length by omega)] at this
      · rw [if_pos (by omega), show IntKind.wrap .i64 (((w.Times.length : Nat) : Int) - 1) = ((w.Times.length - 1 : Nat) : Int) by rw [wrap_in (by omega) (by omega)]; omega, gi_at (show w.Times.length - 1 < w.Times.length by omega), Option.bind_some, ti_at]
  have l3 := l3.1
  have hfall : roadlaw3_fallen w (T_ward_Fall.mk id failed now) = roadlaw3_fallen.j0 w (T_ward_Fall.mk id failed now) w0 p0 (idxOf (fun z => z.Id == id) w.Children) last := by
    unfold roadlaw3_fallen
    rw [hf2, Option.bind_some]
    exact l3 fun v => roadlaw3_fallen.j0 w (T_ward_Fall.mk id failed now) w0 p0 (idxOf (fun z => z.Id == id) w.Children) v
  have no : ∀ v : Int, v ≠ 0 → ((w0, p0, v) : Wd × Pl × Int).2.2 = 0 → Good w0 := fun v hv h => absurd h hv
  have sm : small w0 p0 := ⟨by decide, by decide, by decide, by decide⟩
  rw [hfall]
  cases hfi : w.Children.findIdx? (fun z => z.Id == id) with
  | none =>
    have hid : idxOf (fun z : Ch => z.Id == id) w.Children = -1 := by unfold idxOf; rw [hfi]
    unfold ward_Down roadlaw3_fallen.j0
    rw [check_good G, Option.bind_some, if_pos rfl, hfind, Option.bind_some, hid, if_pos (by decide), if_pos (by decide)]
    exact ⟨(w0, p0, 4), rfl, rfl, no 4 (by decide), sm⟩
  | some i =>
    have hid : idxOf (fun z : Ch => z.Id == id) w.Children = (i : Int) := by unfold idxOf; rw [hfi]
    obtain ⟨hi, q2, q3⟩ := List.findIdx?_eq_some_iff_getElem.1 hfi
    have hidi : (ca w i).Id = id := by rw [← ca_at hi]; simpa using q2
    have hfst : ∀ j, j < i → (ca w j).Id ≠ id := fun j hj => by
      have := q3 j hj
      rw [ca_at (by omega)] at this
      simpa using this
    by_cases g : (ca w i).Lives = true
    · have h3t : ward_Down.j3 failed now w w0 p0 (i : Int) true = some (w0, p0, 21) := by unfold ward_Down.j3; rw [if_pos rfl]; rfl
      have hD : ward_Down w id failed now = if last ≤ now ∧ now ≤ 1099511627776 then ward_Down.j0 failed now w w0 p0 (i : Int) else some (w0, p0, 21) := by
        unfold ward_Down
        rw [check_good G, Option.bind_some, if_pos rfl, hfind, Option.bind_some, hid, if_neg (by omega), gi_at hi, Option.bind_some, ca_at, if_pos g]
        by_cases a1 : now < 0
        · rw [if_pos a1, if_neg (show ¬ (last ≤ now ∧ now ≤ 1099511627776) by omega)]; exact h3t
        · rw [if_neg a1]
          by_cases a2 : now > 1099511627776
          · rw [if_pos a2, if_neg (show ¬ (last ≤ now ∧ now ≤ 1099511627776) by omega)]; exact h3t
          · rw [if_neg a2]
            have h : (if ((w.Times.length : Nat) : Int) > 0 then (Option.bind (gi w.Times (IntKind.wrap .i64 (((w.Times.length : Nat) : Int) - 1))) fun y54 => ward_Down.j3 failed now w w0 p0 (i : Int) (decide (now < y54))) else ward_Down.j3 failed now w w0 p0 (i : Int) (decide (now < 0))) = ward_Down.j3 failed now w w0 p0 (i : Int) (decide (now < last)) := l3 fun v => ward_Down.j3 failed now w w0 p0 (i : Int) (decide (now < v))
            rw [decide_eq_false a1] at h
            refine h.trans ?_
            by_cases a3 : now < last
            · rw [decide_eq_true a3, if_neg (show ¬ (last ≤ now ∧ now ≤ 1099511627776) by omega)]; exact h3t
            · rw [decide_eq_false a3, if_pos (show last ≤ now ∧ now ≤ 1099511627776 by omega)]
              unfold ward_Down.j3
              rw [if_neg Bool.false_ne_true]
      have hF : roadlaw3_fallen.j0 w (T_ward_Fall.mk id failed now) w0 p0 (idxOf (fun z => z.Id == id) w.Children) last = if last ≤ now ∧ now ≤ 1099511627776 then (Option.bind (roadref3_Fallen w id failed now) fun y25 => some (y25.1, y25.2, (0 : Int))) else some (w0, p0, 21) := by
        unfold roadlaw3_fallen.j0
        rw [hid, if_neg (by omega), gi_at hi, Option.bind_some, ca_at, if_pos g]
        show (Option.bind (roadref3_In now last 1099511627776) fun y18 => if y18 = true then (Option.bind (roadref3_Fallen w id failed now) fun y25 => some (y25.1, y25.2, (0 : Int))) else some (w0, p0, 21)) = _
        rw [in_val, Option.bind_some]
        by_cases a : last ≤ now ∧ now ≤ 1099511627776
        · rw [if_pos (decide_eq_true a), if_pos a]
        · rw [if_neg (show ¬ decide _ = true by rw [decide_eq_true_eq]; exact a), if_neg a]
      rw [hD, hF]
      by_cases a : last ≤ now ∧ now ≤ 1099511627776
      · have hnow : 0 ≤ now ∧ now ≤ 1099511627776 := by omega
        have hlast : ∀ t ∈ w.Times, t ≤ now := fun t ht => Int.le_trans (l2 t ht) a.1
        rw [if_pos a, if_pos a, down_j0 G hi hnow failed, fell_val G hi hnow hidi hfst failed, Option.bind_some]
        exact ⟨_, rfl, rfl, fun _ => spec_good G hnow hlast failed, spec_small G hnow hlast failed⟩
      · rw [if_neg a, if_neg a]
        exact ⟨(w0, p0, 21), rfl, rfl, no 21 (by decide), sm⟩
    · unfold ward_Down roadlaw3_fallen.j0
      rw [check_good G, Option.bind_some, if_pos rfl, hfind, Option.bind_some, hid, if_neg (show ¬ (i : Int) < 0 by omega), if_neg (show ¬ (i : Int) < 0 by omega), gi_at hi, Option.bind_some, Option.bind_some, ca_at, if_neg g, if_neg g]
      exact ⟨(w0, p0, 8), rfl, rfl, no 8 (by decide), sm⟩
theorem begin_l0 {w : Wd} (hn : w.Children.length ≤ 20) {H M W : Int} {T : List Int} : ∀ (d x : Nat) (a : List Ch), x + d = w.Children.length → IsL w.Children.length a (fun k => if k < x then on (ca w k) else ca w k) →
    ward_Begin.l0 H M W a T w0 (sd (fun k => !(ca w k).Lives) (fun k => (ca w k).Id) x).reverse (w.Children.length : Int) (x : Int) = some (T_ward_Ward.mk H M W (mkL w.Children.length fun k => on (ca w k)) T, (sd (fun k => !(ca w k).Lives) (fun k => (ca w k).Id) w.Children.length).reverse, 0) := by
  intro d
  induction d with
  | zero =>
    intro x a h1 ha
    have : x = w.Children.length := by omega
    subst this
    rw [ward_Begin.l0_eq, if_neg (by omega), (ha.congr (g' := fun k => on (ca w k)) fun k hk => by rw [if_pos hk]).eq]
  | succ d ih =>
    intro x a h1 ha
    have hx : x < w.Children.length := by omega
    have hl := sd_len (p := fun k => !(ca w k).Lives) (f := fun k => (ca w k).Id) x
    have hs : sd (fun k => !(ca w k).Lives) (fun k => (ca w k).Id) (x + 1) = (if (!(ca w x).Lives) = true then [(ca w x).Id] else []) ++ sd (fun k => !(ca w k).Lives) (fun k => (ca w k).Id) x := rfl
    have hih := fun a' h => ih (x + 1) a' (by omega) h
    rw [hs] at hih
    rw [ward_Begin.l0_eq, if_pos (by omega), ha.gi hx, if_neg (by omega), Option.bind_some]
    by_cases g : (ca w x).Lives = true
    · rw [if_pos g, w_succ (by omega)]
      rw [if_neg (by rw [g]; decide), List.nil_append] at hih
      exact hih _ (ha.congr fun k hk => by
        by_cases e : k = x
        · subst e; rw [if_pos (by omega), if_neg (by omega), on_lives g]
        · by_cases e2 : k < x
          · rw [if_pos e2, if_pos (by omega)]
          · rw [if_neg e2, if_neg (by omega)])
    · rw [if_neg g, Option.bind_some]
      show (Option.bind (ap 8 (sd (fun k => !(ca w k).Lives) (fun k => (ca w k).Id) x).reverse [(ca w x).Id]) _) = _
      rw [ap_one (by rw [List.length_reverse]; omega), Option.bind_some, w_succ (by omega), show Int.toNat (x : Int) = x from rfl]
      rw [if_pos (by rw [Bool.eq_false_iff.2 g]; rfl)] at hih
      rw [show ∀ l : List Int, l.reverse ++ [(ca w x).Id] = ([(ca w x).Id] ++ l).reverse from fun l => by simp]
      exact hih _ (ha.set (on (ca w x)) hx (by rw [if_pos (by omega)]) fun k hk hne => by
        by_cases e2 : k < x
        · rw [if_pos e2, if_pos (by omega)]
        · rw [if_neg e2, if_neg (by omega)])
theorem begin_val {w : Wd} (G : Good w) : ward_Begin w = some (T_ward_Ward.mk w.How w.Most w.Window (mkL w.Children.length fun k => on (ca w k)) w.Times, (sd (fun k => !(ca w k).Lives) (fun k => (ca w k).Id) w.Children.length).reverse, 0) := by
  have hn := G.nc
  have ht := G.nt
  have hown : ward_own w = some w := by
    unfold ward_own
    rw [slices_Clone_83.val _ (by omega), Option.bind_some, slices_Clone_84.val _ (by omega), Option.bind_some]
  unfold ward_Begin
  rw [check_good G, Option.bind_some, if_pos rfl, hown, Option.bind_some]
  exact begin_l0 hn w.Children.length 0 w.Children (by omega) ((isL_kids w).congr fun k hk => by rw [if_neg (Nat.not_lt_zero _)])
theorem eqp_val {l : List Pl} (hl : l.length ≤ 60) (h : ∀ p ∈ l, p.Stop.length ≤ 100 ∧ p.Start.length ≤ 100) : slices_EqualFunc_16 l l (fun z23 z24 => roadref3_SamePlan z23 z24) = some true := by
  unfold slices_EqualFunc_16
  rw [if_pos rfl]
  have loop : ∀ (d i : Nat), i + d = l.length → slices_EqualFunc_16.l0 l (fun z23 z24 => roadref3_SamePlan z23 z24) l (l.length : Int) (i : Int) = some true := by
    intro d
    induction d with
    | zero => intro i hi; rw [slices_EqualFunc_16.l0_eq, if_neg (by omega)]
    | succ d ih =>
      intro i hi
      have hlt : i < l.length := by omega
      obtain ⟨a, b⟩ := h _ (List.getElem_mem hlt)
      rw [slices_EqualFunc_16.l0_eq, if_pos (by omega), gi_at hlt, Option.bind_some, Option.bind_some, same_plan (by omega) (by omega), Option.bind_some, if_pos rfl, w_succ (by omega)]
      exact ih (i + 1) (by omega)
  exact loop _ 0 (Nat.zero_add _)
theorem j2_val {w : Wd} {l : List Pl} (h1 : w.Children.length ≤ 100) (h2 : w.Times.length ≤ 100) (hl : l.length ≤ 60) (h : ∀ p ∈ l, p.Stop.length ≤ 100 ∧ p.Start.length ≤ 100) : roadlaw3_WardTells.j2 w l 0 w l = some true := by
  unfold roadlaw3_WardTells.j2
  rw [same_ward (by omega) (by omega), Option.bind_some, if_pos rfl, eqp_val hl h, Option.bind_some, if_pos rfl]
  rfl
theorem play_loop {l : List Fa} (hl : l.length ≤ 50) : ∀ (d i : Nat) (y : Wd) (pl : List Pl), i + d = l.length → Good y → pl.length ≤ i → (∀ p ∈ pl, p.Stop.length ≤ 100 ∧ p.Start.length ≤ 100) →
    ∃ R, ward_Play.l0 y w0 pl l (l.length : Int) (i : Int) = some R ∧ roadlaw3_WardTells.l1 R.1 R.2.1 R.2.2 w0 y pl l (l.length : Int) (i : Int) = some true := by
  intro d
  induction d with
  | zero =>
    intro i y pl hi hy hpl hp
    have := hy.nc
    have := hy.nt
    rw [ward_Play.l0_eq, if_neg (by omega)]
    refine ⟨(y, pl, 0), rfl, ?_⟩
    rw [roadlaw3_WardTells.l1_eq, if_neg (by omega)]
    exact j2_val (w := y) (l := pl) (by omega) (by omega) (by omega) hp
  | succ d ih =>
    intro i y pl hi hy hpl hp
    have hlt : i < l.length := by omega
    obtain ⟨r, r1, r2, r3, r4⟩ := down_val hy l[i].Id l[i].Failed l[i].Now
    have r2 : roadlaw3_fallen y l[i] = some r := r2
    rw [ward_Play.l0_eq, if_pos (by omega), gi_at hlt, Option.bind_some, r1, Option.bind_some]
    by_cases c : r.2.2 = 0
    · have hp' : ∀ p ∈ pl ++ [r.2.1], p.Stop.length ≤ 100 ∧ p.Start.length ≤ 100 := fun p hpm => by
        rcases List.mem_append.1 hpm with h | h
        · exact hp p h
        · rw [List.mem_singleton.1 h]; exact ⟨r4.2.2.1, r4.2.2.2⟩
      rw [if_pos c, ap_one (by omega), Option.bind_some]
      by_cases g : r.2.1.GaveUp = true
      · rw [if_pos g]
        refine ⟨(r.1, pl ++ [r.2.1], 0), rfl, ?_⟩
        rw [roadlaw3_WardTells.l1_eq, if_pos (by omega), gi_at hlt, Option.bind_some, r2, Option.bind_some, if_pos c, ap_one (by omega), Option.bind_some, if_pos g]
        exact j2_val r4.1 r4.2.1 (by rw [List.length_append, List.length_singleton]; omega) hp'
      · rw [if_neg g, w_succ (by omega)]
        obtain ⟨R, k1, k2⟩ := ih (i + 1) r.1 (pl ++ [r.2.1]) (by omega) (r3 c) (by rw [List.length_append, List.length_singleton]; omega) hp'
        refine ⟨R, k1, ?_⟩
        rw [roadlaw3_WardTells.l1_eq, if_pos (by omega), gi_at hlt, Option.bind_some, r2, Option.bind_some, if_pos c, ap_one (by omega), Option.bind_some, if_neg g, w_succ (by omega)]
        exact k2
    · rw [if_neg c]
      refine ⟨(w0, [], r.2.2), rfl, ?_⟩
      rw [roadlaw3_WardTells.l1_eq, if_pos (by omega), gi_at hlt, Option.bind_some, r2, Option.bind_some, if_neg c]
      show (Option.bind (roadref3_SameWard w0 w0) fun y39 => if y39 = true then (if (([] : List Pl).length : Int) = 0 then some (r.2.2 == r.2.2) else some false) else some false) = some true
      rw [same_w0, Option.bind_some, if_pos rfl, if_pos (by decide), beq_self_eq_true]
theorem law_l0 {w : Wd} (G : Good w) {id now : Int} {failed : Bool} {l : List Fa} {b c : Wd} {p : Pl} {all : List Pl} {e2 e3 : Int} {started : List Int} {a : Wd} (ha : a = T_ward_Ward.mk w.How w.Most w.Window (mkL w.Children.length fun k => on (ca w k)) w.Times) (hs : started = (sd (fun k => !(ca w k).Lives) (fun k => (ca w k).Id) w.Children.length).reverse)
    (next : roadlaw3_WardTells.j0 id failed now l w b p e2 c all e3 w0 = some true) : ∀ (d x : Nat), x + d = w.Children.length →
    roadlaw3_WardTells.l0 id failed now l w a started 0 b p e2 c all e3 w0 w.How w.Most w.Window (mkL x fun k => on (ca w k)) w.Times (sd (fun k => !(ca w k).Lives) (fun k => (ca w k).Id) x).reverse w.Children (w.Children.length : Int) (x : Int) = some true := by
  have hn := G.nc
  have ht := G.nt
  intro d
  induction d with
  | zero =>
    intro x h1
    have : x = w.Children.length := by omega
    subst this
    have hl := sd_len (p := fun k => !(ca w k).Lives) (f := fun k => (ca w k).Id) w.Children.length
    obtain ⟨t, t1, t2⟩ := slices_Equal_14.val (sd (fun k => !(ca w k).Lives) (fun k => (ca w k).Id) w.Children.length).reverse (sd (fun k => !(ca w k).Lives) (fun k => (ca w k).Id) w.Children.length).reverse (by rw [List.length_reverse]; omega)
    obtain rfl : t = true := t2.2 rfl
    rw [roadlaw3_WardTells.l0_eq, if_neg (by omega), ha, hs, same_ward (by show (mkL _ _).length ≤ _; rw [mkL_len]; omega) (by show w.Times.length ≤ _; omega), Option.bind_some, if_pos rfl, t1, Option.bind_some, if_pos rfl, if_pos rfl]
    exact next
  | succ d ih =>
    intro x h1
    have hx : x < w.Children.length := by omega
    have hl := sd_len (p := fun k => !(ca w k).Lives) (f := fun k => (ca w k).Id) x
    have hsd : sd (fun k => !(ca w k).Lives) (fun k => (ca w k).Id) (x + 1) = (if (!(ca w x).Lives) = true then [(ca w x).Id] else []) ++ sd (fun k => !(ca w k).Lives) (fun k => (ca w k).Id) x := rfl
    have hmk : mkL (x + 1) (fun k => on (ca w k)) = mkL x (fun k => on (ca w k)) ++ [on (ca w x)] := by unfold mkL; rw [List.range_succ, List.map_append]; rfl
    have hih := ih (x + 1) (by omega)
    rw [hsd, hmk] at hih
    rw [roadlaw3_WardTells.l0_eq, if_pos (by omega), gi_at hx, Option.bind_some, ca_at]
    by_cases g : (ca w x).Lives = true
    · rw [if_neg (by rw [g]; decide), List.nil_append] at hih
      rw [if_pos g, roadlaw3_WardTells.j3_eq, ap_one (by rw [mkL_len]; omega), Option.bind_some, w_succ (by omega)]
      exact hih
    · rw [if_pos (by rw [Bool.eq_false_iff.2 g]; rfl)] at hih
      rw [if_neg g, ap_one (by rw [List.length_reverse]; omega), Option.bind_some, roadlaw3_WardTells.j3_eq, ap_one (by rw [mkL_len]; omega), Option.bind_some, w_succ (by omega), show ∀ l : List Int, l.reverse ++ [(ca w x).Id] = ([(ca w x).Id] ++ l).reverse from fun l => by simp]
      exact hih
theorem WardTells (w : Wd) (id : Int) (failed : Bool) (now : Int) (l : List Fa) (hw : T_ward_Ward.Q w) (hid : -9223372036854775808 ≤ id ∧ id ≤ 9223372036854775807) (hf : True) (hnow : -9223372036854775808 ≤ now ∧ now ≤ 9223372036854775807) (hl : l.length * 24 ≤ 140737488351232 ∧ ∀ z ∈ l, T_ward_Fall.Q z) : roadlaw3_WardTells w id failed now l = some true := by
  obtain ⟨v, v1, v2, v3⟩ := check_both w
  unfold roadlaw3_WardTells
  by_cases c : v = 0
  · have G := v3.1 c
    have hn := G.nc
    have ht := G.nt
    obtain ⟨r, r1, r2, r3, r4⟩ := down_val G id failed now
    obtain ⟨s1, s2⟩ := same_of r4
    have hown : ward_own w = some w := by
      unfold ward_own
      rw [slices_Clone_83.val _ (by omega), Option.bind_some, slices_Clone_84.val _ (by omega), Option.bind_some]
    have hplay : ∃ R, ward_Play w l = some R ∧ roadlaw3_WardTells.j1 l w R.1 R.2.1 R.2.2 w0 = some true := by
      unfold ward_Play roadlaw3_WardTells.j1
      rw [check_good G, Option.bind_some, if_pos rfl]
      by_cases n : ((l.length : Nat) : Int) > 50
      · rw [if_pos n]
        refine ⟨(w0, [], 2), rfl, ?_⟩
        rw [if_pos n]
        show (Option.bind (roadref3_SameWard w0 w0) fun y1 => if y1 = true then (if (([] : List Pl).length : Int) = 0 then some ((2 : Int) == 2) else some false) else some false) = some true
        rw [same_w0, Option.bind_some, if_pos rfl, if_pos (by decide), beq_self_eq_true]
      · rw [if_neg n, hown, Option.bind_some]
        obtain ⟨R, k1, k2⟩ := play_loop (l := l) (by omega) l.length 0 w [] (by omega) G (Nat.le_refl _) (fun p hp => by cases hp)
        rw [show ((0 : Nat) : Int) = 0 from rfl] at k1 k2
        refine ⟨R, k1, ?_⟩
        rw [if_neg n]
        exact k2
    obtain ⟨R, k1, k2⟩ := hplay
    rw [begin_val G, Option.bind_some, r1, Option.bind_some, k1, Option.bind_some, v2, Option.bind_some, v1, Option.bind_some, if_pos rfl, if_pos c]
    refine law_l0 G rfl rfl ?_ w.Children.length 0 (by omega)
    unfold roadlaw3_WardTells.j0
    rw [r2, Option.bind_some, s1, Option.bind_some, if_pos rfl, s2, Option.bind_some, if_pos rfl, if_pos rfl]
    exact k2
  · have hb : ward_Begin w = some (w0, [], v) := by
      unfold ward_Begin; rw [v1, Option.bind_some, if_neg c]; rfl
    have hd : ward_Down w id failed now = some (w0, p0, v) := by
      unfold ward_Down; rw [v1, Option.bind_some, if_neg c]; rfl
    have hp : ward_Play w l = some (w0, [], v) := by
      unfold ward_Play; rw [v1, Option.bind_some, if_neg c]; rfl
    rw [hb, Option.bind_some, hd, Option.bind_some, hp, Option.bind_some, v2, Option.bind_some, v1, Option.bind_some, if_pos rfl, if_neg c]
    show (Option.bind (roadref3_SameWard w0 w0) fun y92 => if y92 = true then (if (([] : List Int).length : Int) = 0 then (if v = v then (Option.bind (roadref3_SameWard w0 w0) fun y99 => if y99 = true then (Option.bind (roadref3_SamePlan p0 p0) fun y106 => if y106 = true then (if v = v then (Option.bind (roadref3_SameWard w0 w0) fun y113 => if y113 = true then (if (([] : List Pl).length : Int) = 0 then some (v == v) else some false) else some false) else some false) else some false) else some false) else some false) else some false) else some false) = some true
    rw [same_w0, Option.bind_some, if_pos rfl, if_pos (by decide), if_pos rfl, Option.bind_some, if_pos rfl, same_p0, Option.bind_some, if_pos rfl, if_pos rfl, Option.bind_some, if_pos rfl, if_pos (by decide), beq_self_eq_true]
end Go.Proofs.Ythnlhffpmlgmfab.Fw

end
section
namespace Go.Proofs.Ythnlhffpmlgmfab.wardTells
open Go Go.Hw Go.ChangeShapes Go.WideShapes Go.ChangeAt Go.RowKit Go.Proofs.Ythnlhffpmlgmfab.Fw
open Go.ChangeMaps (open_string shut_string)
set_option linter.unusedVariables false
theorem own : ownKnob Try.prog.godebug = none := by kernel_rfl
theorem laidOut : laidOutB Try.prog = true := by kernel_rfl
set_option maxRecDepth 100000 in
theorem lifted (os : Os) (started : os.Started) (H : Type) (enc : TypeId × Value → H) :
    ReturnsInHanded {} Try.checked os 3 .any (Rows.wardTellsSpec.pre6 enc Try.prog Try.f3 Rows.wardTellsRow.domain false) (Rows.wardTellsSpec.post enc Try.prog Try.f3 false true false false) := by
  refine returnsInHanded_of_change_sized (C := Try.checked) own started (by kernel_rfl) Try.func3
    (ChangeSpec.witness6 (enc := enc) (C := Try.checked) false ⟨#[], #[(.agg #[(.int .i64 (0 : Int)), (.int .i64 (0 : Int)), (.int .i64 (0 : Int)), (.slice none 0 0), (.slice none 0 0)]), (.int .i64 (0 : Int)), (.bool false), (.int .i64 (0 : Int)), (.slice none 0 0)], []⟩ 8 (by kernel_rfl) (by kernel_rfl) (by kernel_rfl) (by kernel_rfl)) ?_
  intro W base args ds gs before hval0 hW hcnd hsz0 _
  have hsz : (DataW.weightsEach Try.prog (Try.f3.params.toList ++ Rows.wardTellsSpec.plain.varTypes Try.prog) (ds ++ gs)).all (· ≤ reachBytes) = true := hsz0
  have hval : ∀ (j : Nat) t v, Try.f3.params[j]? = some t → args[j]? = some v → Value.okWide Try.prog W .any base t v := hval0
  have hW' := hW
  obtain ⟨p, q, hA0, hV, rfl, hfz, hnd⟩ := hW
  have hA : DataW.TrodAll enc Try.prog W 0 (fun _ => true) true Try.f3.params.toList args.toList ds p := hA0
  rw [Try.params3] at hA hval hsz
  obtain ⟨v0, vs0, d0, ds0, p0, q0_, hargs, rfl, rfl, h0, r0_⟩ := trodAll_cons hA
  obtain ⟨v1, vs1, d1, ds1, p1, q1_, rfl, rfl, rfl, h1, r1_⟩ := trodAll_cons r0_
  obtain ⟨v2, vs2, d2, ds2, p2, q2_, rfl, rfl, rfl, h2, r2_⟩ := trodAll_cons r1_
  obtain ⟨v3, vs3, d3, ds3, p3, q3_, rfl, rfl, rfl, h3, r3_⟩ := trodAll_cons r2_
  obtain ⟨v4, vs4, d4, ds4, p4, q4_, rfl, rfl, rfl, h4, r4_⟩ := trodAll_cons r3_
  obtain ⟨rfl, rfl, rfl⟩ := trodAll_nil r4_
  obtain rfl : args = #[v0, v1, v2, v3, v4] := by cases args; simp_all
  obtain ⟨rfl, rfl⟩ := trodVars_none hV
  have hs : (DataW.weightsEach Try.prog [25, 3, 4, 3, 26] [d0, d1, d2, d3, d4]).all (· ≤ reachBytes) = true := hsz
  simp only [DataW.weightsEach, List.append_nil, List.all_append, Bool.and_eq_true] at hs
  obtain ⟨hw0, hw1, hw2, hw3, hw4⟩ := hs
  have k0 := h0
  have lt0 : ∀ x ∈ p0, x.block < W.heap.size := by obtain ⟨m, hm⟩ := k0; exact DataW.trod_lt m _ _ _ hm
  obtain ⟨cs0, rfl⟩ : ∃ cs : List Value, v0 = .agg cs.toArray := okWide_agg_of (show shapeOf Try.prog 25 = some [(3, 0), (3, 1), (3, 2), (22, 3), (23, 4)] by kernel_rfl) (hval 0 25 v0 rfl rfl)
  obtain ⟨fuel0, hf0⟩ := h0
  obtain ⟨x0, e0, q0⟩ := T_ward_Ward.tells fuel0 _ _ hf0 hw0
  have e0 : T_ward_Ward.E W.heap x0 cs0 := by simpa [Value.cells] using e0
  have k1 := h1
  have lt1 : ∀ x ∈ p1, x.block < W.heap.size := by obtain ⟨m, hm⟩ := k1; exact DataW.trod_lt m _ _ _ hm
  obtain ⟨a1, rfl, rfl, rfl, w1⟩ := open_int (show Try.prog.underlying 3 = some (.int .i64) by kernel_rfl) (hval 1 3 v1 rfl rfl) h1
  have k2 := h2
  have lt2 : ∀ x ∈ p2, x.block < W.heap.size := by obtain ⟨m, hm⟩ := k2; exact DataW.trod_lt m _ _ _ hm
  obtain ⟨b2, rfl, rfl, rfl⟩ := open_bool (show Try.prog.underlying 4 = some .bool by kernel_rfl) (hval 2 4 v2 rfl rfl) h2
  have k3 := h3
  have lt3 : ∀ x ∈ p3, x.block < W.heap.size := by obtain ⟨m, hm⟩ := k3; exact DataW.trod_lt m _ _ _ hm
  obtain ⟨a3, rfl, rfl, rfl, w3⟩ := open_int (show Try.prog.underlying 3 = some (.int .i64) by kernel_rfl) (hval 3 3 v3 rfl rfl) h3
  have k4 := h4
  have lt4 : ∀ x ∈ p4, x.block < W.heap.size := by obtain ⟨m, hm⟩ := k4; exact DataW.trod_lt m _ _ _ hm
  obtain ⟨A4, n4, c4, rfl⟩ := okWide_slice (show Try.prog.underlying 26 = some (.slice 45) by kernel_rfl) (hval 4 26 v4 rfl rfl)
  obtain ⟨fuel4, hf4⟩ := h4
  obtain ⟨l4, ⟨A4', c4', hcs4, hle4, r4⟩, q4⟩ := (tells_sliceL (t := 26) (e := 45) (sz := 3) (B := 24) (by kernel_rfl) (by kernel_rfl) (by kernel_rfl) T_ward_Fall.tells) fuel4 _ _ hf4 hw4
  simp only [Value.cells, List.cons.injEq, Value.slice.injEq, and_true] at hcs4
  obtain ⟨rfl, rfl, rfl⟩ := hcs4
  refine ((Run.mono (R' := fun v h' => v = Value.bool true ∧ Ext W.heap h') (Fw.roadlaw3_WardTells.walk (W := No) (Hold.start (Sub.refl _)) e0 rfl hle4 r4 (Fw.WardTells x0 a1 b2 a3 l4 q0 (wf_i64 w1) trivial (wf_i64 w3) q4)) (fun v h' hp => by obtain ⟨m', st, hv⟩ := hp; exact ⟨hv, st.S.ext⟩)) W rfl).mono fun e W' he => ?_
  obtain ⟨v, rfl, ⟨rfl, ext⟩, same⟩ := he
  have bel := below_of ext same
  exact ⟨_, rfl, _, _, _, [], _, [], hW', trodAll_mk1 (shut_bool (show Try.prog.underlying 4 = some .bool by kernel_rfl) _), (trodAll_cons_mk (Below.trod laidOut (by kernel_rfl) (of_decide_eq_true (by kernel_rfl)) k0 bel lt0) (trodAll_cons_mk (Below.trod laidOut (by kernel_rfl) (of_decide_eq_true (by kernel_rfl)) k1 bel lt1) (trodAll_cons_mk (Below.trod laidOut (by kernel_rfl) (of_decide_eq_true (by kernel_rfl)) k2 bel lt2) (trodAll_cons_mk (Below.trod laidOut (by kernel_rfl) (of_decide_eq_true (by kernel_rfl)) k3 bel lt3) (trodAll_cons_mk (Below.trod laidOut (by kernel_rfl) (of_decide_eq_true (by kernel_rfl)) k4 bel lt4) trodAll_mk0))))), rfl, bel.frame _, fun h => by cases h⟩
theorem over : Rows.wardTellsRow.holds Try.pinned (OpenSpec.ofChange Rows.wardTellsSpec) :=
  OpenClaim.holds_of_wide 3 Try.f3 rfl rfl rfl rfl rfl rfl rfl ⟨rfl, rfl, rfl, rfl, rfl⟩ rfl rfl rfl rfl rfl (by kernel_rfl) Try.func3 (by kernel_rfl)
    (of_decide_eq_true (by kernel_rfl)) (by unfold Func.isWrapper; first | (rw [if_pos (by decide +kernel)]; kernel_rfl) | (rw [if_neg (by decide +kernel)]; exact ⟨rfl, rfl⟩))
    (fun os started H enc _ => lifted os started H enc)
end Go.Proofs.Ythnlhffpmlgmfab.wardTells
namespace Go.Proofs.Ythnlhffpmlgmfab
theorem wardTells_holds : Rows.WardTellsSaid := wardTells.over
end Go.Proofs.Ythnlhffpmlgmfab

end
