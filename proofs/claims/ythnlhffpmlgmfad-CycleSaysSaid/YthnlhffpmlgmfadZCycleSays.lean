/- Last part: what the law CycleSays needs, put together out of texts of this session. -/
import Derived.Test.YthnlhffpmlgmfadRows
import Derived.WalkKit
import Derived.Test.YthnlhffpmlgmfadZCycleSaysd
section
namespace Go.Proofs.Ythnlhffpmlgmfad.Fw
open Go Go.Hw Go.Proofs
set_option linter.unusedVariables false
set_option synthInstance.maxHeartbeats 400000
set_option synthInstance.maxSize 1000
def cycle_index.post (W : Nat → Prop) (h0 m0 : Heap) (r : (Option (List (Int × Int))) × Int) (v : Value) (h : Heap) : Prop := ∃ m p0, Sub m0 m ∧ Sub m h ∧ v = .tuple #[.map p0, .int .i64 r.2] ∧ ((r.1 = none ∧ p0 = none ∧ Hold W h0 m0 h m []) ∨ ∃ z b , r.1 = some z ∧ p0 = some b ∧ Hold W h0 m0 h m [rM (monoV0 (tell_int .i64)) (fun n : Int => Value.int .i64 n) b z] ∧ True)
inductive cycle_index.l0_k.Pt where
  | l0 (es_4 : (List (Int × Int))) (a_13 : List T_api_Know) (x_14 : Int) (x_15 : Int)
noncomputable def cycle_index.l0_k.body (go : (p : cycle_index.l0_k.Pt) → Option ((Option (List (Int × Int))) × Int)) : (p : cycle_index.l0_k.Pt) → Option ((Option (List (Int × Int))) × Int)
  | .l0 es_4 a_13 x_14 x_15 => if x_15 < x_14 then (Option.bind (gi a_13 x_15) fun y1 => if (Option.isSome (pget es_4 y1.Ref)) = true then (some ((none : Option (List (Int × Int))), (5 : Int))) else (Option.bind (some (pset es_4 y1.Ref x_15)) fun l19 => (go (.l0 l19 a_13 x_14 (IntKind.wrap .i64 (x_15 + (1 : Int))))))) else (some (some es_4, (0 : Int)))
theorem cycle_index.l0_k.mono : MonoF (β := fun _ => ((Option (List (Int × Int))) × Int)) cycle_index.l0_k.body := fun f g hfg p => match p with
  | .l0 es_4 a_13 x_14 x_15 => LeO.ite (LeO.bind (LeO.refl _) fun y1 => LeO.ite (LeO.refl _) (LeO.bind (LeO.refl _) fun l19 => (hfg _))) (LeO.refl _)
noncomputable def cycle_index.l0_k.go (p : cycle_index.l0_k.Pt) : Option ((Option (List (Int × Int))) × Int) := fixF (β := fun _ => ((Option (List (Int × Int))) × Int)) cycle_index.l0_k.body p
noncomputable def cycle_index.l0 (es_4 : (List (Int × Int))) (a_13 : List T_api_Know) (x_14 : Int) (x_15 : Int) : Option ((Option (List (Int × Int))) × Int) := cycle_index.l0_k.go (.l0 es_4 a_13 x_14 x_15)
theorem cycle_index.l0_eq (es_4 : (List (Int × Int))) (a_13 : List T_api_Know) (x_14 : Int) (x_15 : Int) : cycle_index.l0 es_4 a_13 x_14 x_15 = if x_15 < x_14 then (Option.bind (gi a_13 x_15) fun y1 => if (Option.isSome (pget es_4 y1.Ref)) = true then (some ((none : Option (List (Int × Int))), (5 : Int))) else (Option.bind (some (pset es_4 y1.Ref x_15)) fun l19 => (cycle_index.l0 l19 a_13 x_14 (IntKind.wrap .i64 (x_15 + (1 : Int)))))) else (some (some es_4, (0 : Int))) := fixF_eq cycle_index.l0_k.mono _
def cycle_index.l0_k.I : (p : cycle_index.l0_k.Pt) → ((Option (List (Int × Int))) × Int) → Prop
  | .l0 es_4 a_13 x_14 x_15, r => ∀ (W : Nat → Prop) (h0 m0 h m : Heap) (bk_4 : Nat) (A_13 : Option Addr) (n_13 c_13 : Nat) (O : Hold W h0 m0 h m [rM (monoV0 (tell_int .i64)) (fun n : Int => Value.int .i64 n) bk_4 es_4]) (ne_13 : n_13 = List.length a_13) (k_13 : List.length a_13 ≤ c_13) (r_13 : Rd 4 T_api_Know.E m A_13 a_13), f76.l0 (cycle_index.post W h0 m0 r) (Value.map (some bk_4)) A_13 n_13 c_13 x_14 x_15 h
set_option maxRecDepth 100000 in
theorem cycle_index.l0_k.step_l0 (go : (p : cycle_index.l0_k.Pt) → Option ((Option (List (Int × Int))) × Int)) (ih : ∀ p r, go p = some r → cycle_index.l0_k.I p r) (es_4 : (List (Int × Int))) (a_13 : List T_api_Know) (x_14 : Int) (x_15 : Int) (r : (Option (List (Int × Int))) × Int) (e : cycle_index.l0_k.body go (.l0 es_4 a_13 x_14 x_15) = some r) : cycle_index.l0_k.I (.l0 es_4 a_13 x_14 x_15) r := by
  unfold cycle_index.l0_k.body at e
  intro W h0 m0 h m bk_4 A_13 n_13 c_13 O ne_13 k_13 r_13
  subst ne_13
  refine f76.l0_in ?_
  unfold f76.l0T
  refine split_dec_e e (fun c23 e => ?_) (fun c23 e => ?_)
  · obtain ⟨y1, g2, e⟩ := bind_e e
    refine r_13.addr rfl g2 fun a3 cs4 ha5 hc6 he7 => ?_
    refine ⟨_, ldAn O.s hc6 rfl, ?_⟩
    refine O.new fun h8 x9 O10 => ?_
    refine ⟨_, rfl, (T_api_Know.T.len _ _ _ he7), ?_⟩
    refine O10.stA 1 rfl (T_api_Know.T.len _ _ _ he7) (T_api_Know.T.flat _ _ _ he7) fun h12 O13 => ?_
    refine ⟨_, ld0 (Sub.refl _) (O13.all 1 rfl) (T_api_Know.g0 he7), _, rfl, ?_⟩
    refine (O13.om 0 rfl).look2 (zv := (0 : Int)) (z := (Value.int .i64 (0 : Int))) (keyOk_int (key := 3) (elem := 3) (by kernel_rfl) (by kernel_rfl)) y1.Ref (by kernel_rfl) rfl (fun v14 hv15 => ?_)
    obtain rfl : v14 = (Value.int .i64 (pgd es_4 y1.Ref (0 : Int))) := (List.cons.inj (show [v14] = [(Value.int .i64 (pgd es_4 y1.Ref (0 : Int)))] from hv15)).1
    refine ⟨_, _, rfl, ?_⟩
    refine split_any_e e (fun c22 e => ?_) (fun c22 e => ?_)
    · have O16 := O13.nm
      cases e
      exact ⟨_, _, O16.up, O16.s, rfl, .inl ⟨rfl, rfl, O16.pick []⟩⟩
    · refine ⟨_, ld0 (Sub.refl _) (O13.all 1 rfl) (T_api_Know.g0 he7), _, rfl, ?_⟩
      obtain ⟨l19, g20, e⟩ := bind_e e
      replace g20 := Option.some.inj g20
      refine O13.mapUpd (x := x_15) (v := (Value.int .i64 x_15)) 0 rfl (keyOk_int (key := 3) (elem := 3) (by kernel_rfl) (by kernel_rfl)) y1.Ref (show (eV0 (eInt .i64)) m x_15 (Value.int .i64 x_15) from rfl) g20 fun h17 O18 => ?_
      have O21 := O18.nm
      exact (ih _ _ e) _ _ _ _ _ _ _ _ _ (O21.pick [0]).nm rfl k_13 r_13
  · cases e
    exact ⟨_, _, O.up, O.s, rfl, .inr ⟨_, _, rfl, rfl, O.pick [0], trivial⟩⟩
theorem cycle_index.l0_k.all {p : cycle_index.l0_k.Pt} {r : ((Option (List (Int × Int))) × Int)} (e : cycle_index.l0_k.go p = some r) : cycle_index.l0_k.I p r := fixF_ind (β := fun _ => ((Option (List (Int × Int))) × Int)) cycle_index.l0_k.mono (I := cycle_index.l0_k.I) (fun go ih p r e => match p with
  | .l0 es_4 a_13 x_14 x_15 => cycle_index.l0_k.step_l0 go ih es_4 a_13 x_14 x_15 r e
  ) e
theorem cycle_index.l0.walk {W : Nat → Prop} {h0 m0 h m : Heap} {bk_4 : Nat} {A_13 : Option Addr} {n_13 c_13 : Nat} {es_4 : (List (Int × Int))} {a_13 : List T_api_Know} {x_14 : Int} {x_15 : Int} (O : Hold W h0 m0 h m [rM (monoV0 (tell_int .i64)) (fun n : Int => Value.int .i64 n) bk_4 es_4]) (ne_13 : n_13 = List.length a_13) (k_13 : List.length a_13 ≤ c_13) (r_13 : Rd 4 T_api_Know.E m A_13 a_13) {r : (Option (List (Int × Int))) × Int} (e : cycle_index.l0 es_4 a_13 x_14 x_15 = some r) : f76.l0 (cycle_index.post W h0 m0 r) (Value.map (some bk_4)) A_13 n_13 c_13 x_14 x_15 h := cycle_index.l0_k.all (p := .l0 es_4 a_13 x_14 x_15) e W h0 m0 h m bk_4 A_13 n_13 c_13 O ne_13 k_13 r_13
noncomputable def cycle_index (a_0 : List T_api_Know) : Option ((Option (List (Int × Int))) × Int) :=
  if (((List.length a_0) : Nat) : Int) > (480 : Int) then (some ((none : Option (List (Int × Int))), (2 : Int))) else ((cycle_index.l0 ([] : (List (Int × Int))) a_0 (((List.length a_0) : Nat) : Int) (0 : Int)))
set_option maxRecDepth 100000 in
theorem cycle_index.walk {W : Nat → Prop} {h m : Heap} {A_0 : Option Addr} {n_0 c_0 : Nat} {a_0 : List T_api_Know} (O : Hold W h m h m []) (ne_0 : n_0 = List.length a_0) (k_0 : List.length a_0 ≤ c_0) (r_0 : Rd 4 T_api_Know.E m A_0 a_0) {r : (Option (List (Int × Int))) × Int} (e : cycle_index a_0 = some r) : Run Try.prog 76 #[Value.slice A_0 n_0 c_0] h (cycle_index.post W h m r) := by
  unfold cycle_index at e
  subst ne_0
  refine f76.run ?_
  unfold f76.runT
  refine split_dec_e e (fun c6 e => ?_) (fun c6 e => ?_)
  · cases e
    exact ⟨_, _, O.up, O.s, rfl, .inl ⟨rfl, rfl, O.pick []⟩⟩
  · refine O.mkMap (ν := Int) (monoV0 (tell_int .i64)) (fun n : Int => Value.int .i64 n) fun h1 x2 O3 => ?_
    have O5 := O3.nm
    exact cycle_index.l0.walk (O5.pick [0]).nm rfl k_0 r_0 e
def cycle_Passes.post (W : Nat → Prop) (h0 m0 : Heap) (r : (List (List Int)) × Int) (v : Value) (h : Heap) : Prop := ∃ m A0 n0 c0, Hold W h0 m0 h m [rR (aE (tell_row (tell_int .i64))) A0 c0 r.1] ∧ v = .tuple #[.slice A0 n0 c0, .int .i64 r.2] ∧ n0 = List.length r.1
inductive cycle_Passes.l1_k.Pt where
  | l1 (a_0 : List T_api_Know) (es_4 : (List (Int × Int))) (es_6 : (List (Int × Bool))) (a_7 : List Int) (a_10 : List (List Int))
  | l2 (a_0 : List T_api_Know) (es_4 : (List (Int × Int))) (es_6 : (List (Int × Bool))) (a_10 : List (List Int)) (a_11 : List Int) (a_57 : List Int) (x_58 : Int) (x_59 : Int)
  | l3 (a_0 : List T_api_Know) (es_4 : (List (Int × Int))) (es_6 : (List (Int × Bool))) (a_10 : List (List Int)) (a_11 : List Int) (a_57 : List Int) (x_58 : Int) (x_59 : Int) (a_69 : List Int) (x_70 : Int) (x_71 : Int)
  | j1 (a_0 : List T_api_Know) (es_4 : (List (Int × Int))) (es_6 : (List (Int × Bool))) (a_10 : List (List Int)) (a_11 : List Int) (x_15 : Int) (a_57 : List Int) (x_58 : Int) (x_59 : Int) (a_69 : List Int) (x_70 : Int) (x_71 : Int) (b_87 : Bool)
noncomputable def cycle_Passes.l1_k.body (go : (p : cycle_Passes.l1_k.Pt) → Option ((List (List Int)) × Int)) : (p : cycle_Passes.l1_k.Pt) → Option ((List (List Int)) × Int)
  | .l1 a_0 es_4 es_6 a_7 a_10 => if (((List.length a_7) : Nat) : Int) > (0 : Int) then (Option.bind (slices_Sort_14 a_7) fun y1 => Option.bind (ap 24 a_10 ([y1] : List (List Int))) fun l17 => (go (.l2 a_0 es_4 es_6 l17 ([] : List Int) y1 (((List.length a_7) : Nat) : Int) (0 : Int)))) else (some (a_10, (0 : Int)))
  | .l2 a_0 es_4 es_6 a_10 a_11 a_57 x_58 x_59 => if x_59 < x_58 then (Option.bind (gi a_57 x_59) fun y1 => Option.bind (gi a_0 (pgd es_4 y1 (0 : Int))) fun y10 => (go (.l3 a_0 es_4 es_6 a_10 a_11 a_57 x_58 x_59 y10.Refs (((List.length y10.Refs) : Nat) : Int) (0 : Int)))) else ((go (.l1 a_0 es_4 es_6 a_11 a_10)))
  | .l3 a_0 es_4 es_6 a_10 a_11 a_57 x_58 x_59 a_69 x_70 x_71 => if x_71 < x_70 then (Option.bind (gi a_69 x_71) fun y1 => if (Option.isSome (pget es_4 y1)) = true then ((go (.j1 a_0 es_4 es_6 a_10 a_11 y1 a_57 x_58 x_59 a_69 x_70 x_71 (!(pgd es_6 y1 false))))) else ((go (.j1 a_0 es_4 es_6 a_10 a_11 y1 a_57 x_58 x_59 a_69 x_70 x_71 false)))) else ((go (.l2 a_0 es_4 es_6 a_10 a_11 a_57 x_58 (IntKind.wrap .i64 (x_59 + (1 : Int))))))
  | .j1 a_0 es_4 es_6 a_10 a_11 x_15 a_57 x_58 x_59 a_69 x_70 x_71 b_87 => if b_87 = true then (Option.bind (some (pset es_6 x_15 true)) fun l3 => Option.bind (ap 8 a_11 ([x_15] : List Int)) fun l9 => (go (.l3 a_0 es_4 l3 a_10 l9 a_57 x_58 x_59 a_69 x_70 (IntKind.wrap .i64 (x_71 + (1 : Int)))))) else ((go (.l3 a_0 es_4 es_6 a_10 a_11 a_57 x_58 x_59 a_69 x_70 (IntKind.wrap .i64 (x_71 + (1 : Int))))))
theorem cycle_Passes.l1_k.mono : MonoF (β := fun _ => ((List (List Int)) × Int)) cycle_Passes.l1_k.body := fun f g hfg p => match p with
  | .l1 a_0 es_4 es_6 a_7 a_10 => LeO.ite (LeO.bind (LeO.refl _) fun y1 => LeO.bind (LeO.refl _) fun l17 => (hfg _)) (LeO.refl _)
  | .l2 a_0 es_4 es_6 a_10 a_11 a_57 x_58 x_59 => LeO.ite (LeO.bind (LeO.refl _) fun y1 => LeO.bind (LeO.refl _) fun y10 => (hfg _)) ((hfg _))
  | .l3 a_0 es_4 es_6 a_10 a_11 a_57 x_58 x_59 a_69 x_70 x_71 => LeO.ite (LeO.bind (LeO.refl _) fun y1 => LeO.ite ((hfg _)) ((hfg _))) ((hfg _))
  | .j1 a_0 es_4 es_6 a_10 a_11 x_15 a_57 x_58 x_59 a_69 x_70 x_71 b_87 => LeO.ite (LeO.bind (LeO.refl _) fun l3 => LeO.bind (LeO.refl _) fun l9 => (hfg _)) ((hfg _))
noncomputable def cycle_Passes.l1_k.go (p : cycle_Passes.l1_k.Pt) : Option ((List (List Int)) × Int) := fixF (β := fun _ => ((List (List Int)) × Int)) cycle_Passes.l1_k.body p
noncomputable def cycle_Passes.l1 (a_0 : List T_api_Know) (es_4 : (List (Int × Int))) (es_6 : (List (Int × Bool))) (a_7 : List Int) (a_10 : List (List Int)) : Option ((List (List Int)) × Int) := cycle_Passes.l1_k.go (.l1 a_0 es_4 es_6 a_7 a_10)
noncomputable def cycle_Passes.l2 (a_0 : List T_api_Know) (es_4 : (List (Int × Int))) (es_6 : (List (Int × Bool))) (a_10 : List (List Int)) (a_11 : List Int) (a_57 : List Int) (x_58 : Int) (x_59 : Int) : Option ((List (List Int)) × Int) := cycle_Passes.l1_k.go (.l2 a_0 es_4 es_6 a_10 a_11 a_57 x_58 x_59)
noncomputable def cycle_Passes.l3 (a_0 : List T_api_Know) (es_4 : (List (Int × Int))) (es_6 : (List (Int × Bool))) (a_10 : List (List Int)) (a_11 : List Int) (a_57 : List Int) (x_58 : Int) (x_59 : Int) (a_69 : List Int) (x_70 : Int) (x_71 : Int) : Option ((List (List Int)) × Int) := cycle_Passes.l1_k.go (.l3 a_0 es_4 es_6 a_10 a_11 a_57 x_58 x_59 a_69 x_70 x_71)
noncomputable def cycle_Passes.j1 (a_0 : List T_api_Know) (es_4 : (List (Int × Int))) (es_6 : (List (Int × Bool))) (a_10 : List (List Int)) (a_11 : List Int) (x_15 : Int) (a_57 : List Int) (x_58 : Int) (x_59 : Int) (a_69 : List Int) (x_70 : Int) (x_71 : Int) (b_87 : Bool) : Option ((List (List Int)) × Int) := cycle_Passes.l1_k.go (.j1 a_0 es_4 es_6 a_10 a_11 x_15 a_57 x_58 x_59 a_69 x_70 x_71 b_87)
theorem cycle_Passes.l1_eq (a_0 : List T_api_Know) (es_4 : (List (Int × Int))) (es_6 : (List (Int × Bool))) (a_7 : List Int) (a_10 : List (List Int)) : cycle_Passes.l1 a_0 es_4 es_6 a_7 a_10 = if (((List.length a_7) : Nat) : Int) > (0 : Int) then (Option.bind (slices_Sort_14 a_7) fun y1 => Option.bind (ap 24 a_10 ([y1] : List (List Int))) fun l17 => (cycle_Passes.l2 a_0 es_4 es_6 l17 ([] : List Int) y1 (((List.length a_7) : Nat) : Int) (0 : Int))) else (some (a_10, (0 : Int))) := fixF_eq cycle_Passes.l1_k.mono _
theorem cycle_Passes.l2_eq (a_0 : List T_api_Know) (es_4 : (List (Int × Int))) (es_6 : (List (Int × Bool))) (a_10 : List (List Int)) (a_11 : List Int) (a_57 : List Int) (x_58 : Int) (x_59 : Int) : cycle_Passes.l2 a_0 es_4 es_6 a_10 a_11 a_57 x_58 x_59 = if x_59 < x_58 then (Option.bind (gi a_57 x_59) fun y1 => Option.bind (gi a_0 (pgd es_4 y1 (0 : Int))) fun y10 => (cycle_Passes.l3 a_0 es_4 es_6 a_10 a_11 a_57 x_58 x_59 y10.Refs (((List.length y10.Refs) : Nat) : Int) (0 : Int))) else ((cycle_Passes.l1 a_0 es_4 es_6 a_11 a_10)) := fixF_eq cycle_Passes.l1_k.mono _
theorem cycle_Passes.l3_eq (a_0 : List T_api_Know) (es_4 : (List (Int × Int))) (es_6 : (List (Int × Bool))) (a_10 : List (List Int)) (a_11 : List Int) (a_57 : List Int) (x_58 : Int) (x_59 : Int) (a_69 : List Int) (x_70 : Int) (x_71 : Int) : cycle_Passes.l3 a_0 es_4 es_6 a_10 a_11 a_57 x_58 x_59 a_69 x_70 x_71 = if x_71 < x_70 then (Option.bind (gi a_69 x_71) fun y1 => if (Option.isSome (pget es_4 y1)) = true then ((cycle_Passes.j1 a_0 es_4 es_6 a_10 a_11 y1 a_57 x_58 x_59 a_69 x_70 x_71 (!(pgd es_6 y1 false)))) else ((cycle_Passes.j1 a_0 es_4 es_6 a_10 a_11 y1 a_57 x_58 x_59 a_69 x_70 x_71 false))) else ((cycle_Passes.l2 a_0 es_4 es_6 a_10 a_11 a_57 x_58 (IntKind.wrap .i64 (x_59 + (1 : Int))))) := fixF_eq cycle_Passes.l1_k.mono _
theorem cycle_Passes.j1_eq (a_0 : List T_api_Know) (es_4 : (List (Int × Int))) (es_6 : (List (Int × Bool))) (a_10 : List (List Int)) (a_11 : List Int) (x_15 : Int) (a_57 : List Int) (x_58 : Int) (x_59 : Int) (a_69 : List Int) (x_70 : Int) (x_71 : Int) (b_87 : Bool) : cycle_Passes.j1 a_0 es_4 es_6 a_10 a_11 x_15 a_57 x_58 x_59 a_69 x_70 x_71 b_87 = if b_87 = true then (Option.bind (some (pset es_6 x_15 true)) fun l3 => Option.bind (ap 8 a_11 ([x_15] : List Int)) fun l9 => (cycle_Passes.l3 a_0 es_4 l3 a_10 l9 a_57 x_58 x_59 a_69 x_70 (IntKind.wrap .i64 (x_71 + (1 : Int))))) else ((cycle_Passes.l3 a_0 es_4 es_6 a_10 a_11 a_57 x_58 x_59 a_69 x_70 (IntKind.wrap .i64 (x_71 + (1 : Int))))) := fixF_eq cycle_Passes.l1_k.mono _
def cycle_Passes.l1_k.I : (p : cycle_Passes.l1_k.Pt) → ((List (List Int)) × Int) → Prop
  | .l1 a_0 es_4 es_6 a_7 a_10, r => ∀ (W : Nat → Prop) (h0 m0 h m : Heap) (A_0 : Option Addr) (n_0 c_0 : Nat) (bk_4 : Nat) (bk_6 : Nat) (A_7 : Option Addr) (n_7 c_7 : Nat) (A_10 : Option Addr) (n_10 c_10 : Nat) (O : Hold W h0 m0 h m [rM (monoV0 (tell_int .i64)) (fun n : Int => Value.int .i64 n) bk_4 es_4, rM (monoV0 tell_bool) (fun n : Int => Value.int .i64 n) bk_6 es_6, rR (aE (tell_int .i64)) A_7 c_7 a_7, rR (aE (tell_row (tell_int .i64))) A_10 c_10 a_10]) (ne_0 : n_0 = List.length a_0) (k_0 : List.length a_0 ≤ c_0) (r_0 : Rd 4 T_api_Know.E m A_0 a_0) (ne_7 : n_7 = List.length a_7) (ne_10 : n_10 = List.length a_10), f11.l1 (cycle_Passes.post W h0 m0 r) A_0 n_0 c_0 (Value.map (some bk_4)) (Value.map (some bk_6)) A_7 n_7 c_7 A_10 n_10 c_10 h
  | .l2 a_0 es_4 es_6 a_10 a_11 a_57 x_58 x_59, r => ∀ (W : Nat → Prop) (h0 m0 h m : Heap) (A_0 : Option Addr) (n_0 c_0 : Nat) (bk_4 : Nat) (bk_6 : Nat) (A_10 : Option Addr) (n_10 c_10 : Nat) (A_11 : Option Addr) (n_11 c_11 : Nat) (A_57 : Option Addr) (n_57 c_57 : Nat) (O : Hold W h0 m0 h m [rM (monoV0 (tell_int .i64)) (fun n : Int => Value.int .i64 n) bk_4 es_4, rM (monoV0 tell_bool) (fun n : Int => Value.int .i64 n) bk_6 es_6, rR (aE (tell_row (tell_int .i64))) A_10 c_10 a_10, rR (aE (tell_int .i64)) A_11 c_11 a_11]) (ne_0 : n_0 = List.length a_0) (k_0 : List.length a_0 ≤ c_0) (r_0 : Rd 4 T_api_Know.E m A_0 a_0) (ne_10 : n_10 = List.length a_10) (ne_11 : n_11 = List.length a_11) (ne_57 : n_57 = List.length a_57) (k_57 : List.length a_57 ≤ c_57) (r_57 : Rd 1 (eInt .i64) m A_57 a_57), f11.l2 (cycle_Passes.post W h0 m0 r) A_0 n_0 c_0 (Value.map (some bk_4)) (Value.map (some bk_6)) A_10 n_10 c_10 A_11 n_11 c_11 A_57 n_57 c_57 x_58 x_59 h
  | .l3 a_0 es_4 es_6 a_10 a_11 a_57 x_58 x_59 a_69 x_70 x_71, r => ∀ (W : Nat → Prop) (h0 m0 h m : Heap) (A_0 : Option Addr) (n_0 c_0 : Nat) (bk_4 : Nat) (bk_6 : Nat) (A_10 : Option Addr) (n_10 c_10 : Nat) (A_11 : Option Addr) (n_11 c_11 : Nat) (A_57 : Option Addr) (n_57 c_57 : Nat) (A_69 : Option Addr) (n_69 c_69 : Nat) (O : Hold W h0 m0 h m [rM (monoV0 (tell_int .i64)) (fun n : Int => Value.int .i64 n) bk_4 es_4, rM (monoV0 tell_bool) (fun n : Int => Value.int .i64 n) bk_6 es_6, rR (aE (tell_row (tell_int .i64))) A_10 c_10 a_10, rR (aE (tell_int .i64)) A_11 c_11 a_11]) (ne_0 : n_0 = List.length a_0) (k_0 : List.length a_0 ≤ c_0) (r_0 : Rd 4 T_api_Know.E m A_0 a_0) (ne_10 : n_10 = List.length a_10) (ne_11 : n_11 = List.length a_11) (ne_57 : n_57 = List.length a_57) (k_57 : List.length a_57 ≤ c_57) (r_57 : Rd 1 (eInt .i64) m A_57 a_57) (ne_69 : n_69 = List.length a_69) (k_69 : List.length a_69 ≤ c_69) (r_69 : Rd 1 (eInt .i64) m A_69 a_69), f11.l3 (cycle_Passes.post W h0 m0 r) A_0 n_0 c_0 (Value.map (some bk_4)) (Value.map (some bk_6)) A_10 n_10 c_10 A_11 n_11 c_11 A_57 n_57 c_57 x_58 x_59 A_69 n_69 c_69 x_70 x_71 h
  | .j1 a_0 es_4 es_6 a_10 a_11 x_15 a_57 x_58 x_59 a_69 x_70 x_71 b_87, r => ∀ (W : Nat → Prop) (h0 m0 h m : Heap) (A_0 : Option Addr) (n_0 c_0 : Nat) (bk_4 : Nat) (bk_6 : Nat) (A_10 : Option Addr) (n_10 c_10 : Nat) (A_11 : Option Addr) (n_11 c_11 : Nat) (A_57 : Option Addr) (n_57 c_57 : Nat) (A_69 : Option Addr) (n_69 c_69 : Nat) (O : Hold W h0 m0 h m [rM (monoV0 (tell_int .i64)) (fun n : Int => Value.int .i64 n) bk_4 es_4, rM (monoV0 tell_bool) (fun n : Int => Value.int .i64 n) bk_6 es_6, rR (aE (tell_row (tell_int .i64))) A_10 c_10 a_10, rR (aE (tell_int .i64)) A_11 c_11 a_11]) (ne_0 : n_0 = List.length a_0) (k_0 : List.length a_0 ≤ c_0) (r_0 : Rd 4 T_api_Know.E m A_0 a_0) (ne_10 : n_10 = List.length a_10) (ne_11 : n_11 = List.length a_11) (ne_57 : n_57 = List.length a_57) (k_57 : List.length a_57 ≤ c_57) (r_57 : Rd 1 (eInt .i64) m A_57 a_57) (ne_69 : n_69 = List.length a_69) (k_69 : List.length a_69 ≤ c_69) (r_69 : Rd 1 (eInt .i64) m A_69 a_69), f11.j1 (cycle_Passes.post W h0 m0 r) A_0 n_0 c_0 (Value.map (some bk_4)) (Value.map (some bk_6)) A_10 n_10 c_10 A_11 n_11 c_11 x_15 A_57 n_57 c_57 x_58 x_59 A_69 n_69 c_69 x_70 x_71 b_87 h
set_option maxRecDepth 100000 in
theorem cycle_Passes.l1_k.step_l1 (go : (p : cycle_Passes.l1_k.Pt) → Option ((List (List Int)) × Int)) (ih : ∀ p r, go p = some r → cycle_Passes.l1_k.I p r) (a_0 : List T_api_Know) (es_4 : (List (Int × Int))) (es_6 : (List (Int × Bool))) (a_7 : List Int) (a_10 : List (List Int)) (r : (List (List Int)) × Int) (e : cycle_Passes.l1_k.body go (.l1 a_0 es_4 es_6 a_7 a_10) = some r) : cycle_Passes.l1_k.I (.l1 a_0 es_4 es_6 a_7 a_10) r := by
  unfold cycle_Passes.l1_k.body at e
  intro W h0 m0 h m A_0 n_0 c_0 bk_4 bk_6 A_7 n_7 c_7 A_10 n_10 c_10 O ne_0 k_0 r_0 ne_7 ne_10
  subst ne_0
  subst ne_7
  subst ne_10
  refine f11.l1_in ?_
  unfold f11.l1T
  refine split_dec_e e (fun c34 e => ?_) (fun c34 e => ?_)
  · obtain ⟨y1, g2, e⟩ := bind_e e
    obtain ⟨W7, P8, B9, C10⟩ := O.callC [2]
    refine (slices_Sort_14.walk P8 rfl g2).mono ?_
    rintro _ h3 ⟨m4, Q5, rfl, hl11⟩
    have O12 := Hold.nm (C10 Q5 (vfs_cons (rR_vf (aE_vf (fun _ _ _ _ h => h))) vfs_nil))
    refine ⟨rfl, ?_⟩
    refine O12.new fun h13 x14 O15 => ?_
    obtain ⟨l17, g18, e⟩ := bind_e e
    obtain ⟨m25, u26, ⟨r27, k28⟩, O29⟩ := O15.frz 4 rfl
    replace r27 : Rd 1 (eInt .i64) m25 A_7 y1 := r27
    have O30 := O29.rowE (l := ([y1] : List (List Int))) 5 rfl (tell_row (tell_int .i64)) (show CsE _ _ _ _ _ from (CsE.cons (c1 := [(Value.slice A_7 (List.length a_7) c_7)]) ⟨_, _, by rw [hl11], k28, r27⟩ rfl CsE.nil)) rfl
    refine O30.app 3 rfl rfl rfl ((O30.os 5 rfl).srcE rfl) (by decide) g18 fun A19 c20 h21 O22 => ?_
    refine ⟨_, _, _, rfl, ?_⟩
    have O31 := O22.nil (aE (tell_int .i64)) none
    have O33 := O31.nm
    exact (ih _ _ e) _ _ _ _ _ _ _ _ _ _ _ _ _ _ _ _ _ _ _ (O33.pick [0, 1, 3, 6]).nm rfl k_0 (r_0.sub T_api_Know.T u26) rfl rfl hl11 k28 r27
  · cases e
    exact ⟨_, _, _, _, O.pick [3], rfl, rfl⟩
set_option maxRecDepth 100000 in
theorem cycle_Passes.l1_k.step_l2 (go : (p : cycle_Passes.l1_k.Pt) → Option ((List (List Int)) × Int)) (ih : ∀ p r, go p = some r → cycle_Passes.l1_k.I p r) (a_0 : List T_api_Know) (es_4 : (List (Int × Int))) (es_6 : (List (Int × Bool))) (a_10 : List (List Int)) (a_11 : List Int) (a_57 : List Int) (x_58 : Int) (x_59 : Int) (r : (List (List Int)) × Int) (e : cycle_Passes.l1_k.body go (.l2 a_0 es_4 es_6 a_10 a_11 a_57 x_58 x_59) = some r) : cycle_Passes.l1_k.I (.l2 a_0 es_4 es_6 a_10 a_11 a_57 x_58 x_59) r := by
  unfold cycle_Passes.l1_k.body at e
  intro W h0 m0 h m A_0 n_0 c_0 bk_4 bk_6 A_10 n_10 c_10 A_11 n_11 c_11 A_57 n_57 c_57 O ne_0 k_0 r_0 ne_10 ne_11 ne_57 k_57 r_57
  subst ne_0
  subst ne_10
  subst ne_11
  subst ne_57
  refine f11.l2_in ?_
  unfold f11.l2T
  refine split_dec_e e (fun c22 e => ?_) (fun c22 e => ?_)
  · obtain ⟨y1, g2, e⟩ := bind_e e
    refine r_57.addr rfl g2 fun a3 cs4 ha5 hc6 he7 => ?_
    obtain rfl : cs4 = [(Value.int .i64 y1)] := he7
    refine ⟨_, ld0 O.s hc6 rfl, _, rfl, ?_⟩
    refine (O.om 0 rfl).look (zv := (0 : Int)) (z := (Value.int .i64 (0 : Int))) (keyOk_int (key := 3) (elem := 3) (by kernel_rfl) (by kernel_rfl)) y1 (by kernel_rfl) rfl (fun v8 hv9 => ?_)
    obtain rfl : v8 = (Value.int .i64 (pgd es_4 y1 (0 : Int))) := (List.cons.inj (show [v8] = [(Value.int .i64 (pgd es_4 y1 (0 : Int)))] from hv9)).1
    refine ⟨_, rfl, ?_⟩
    obtain ⟨y10, g11, e⟩ := bind_e e
    refine r_0.addr rfl g11 fun a12 cs13 ha14 hc15 he16 => ?_
    obtain ⟨A17, c18, q19, k20, r21⟩ := T_api_Know.g3 he16
    refine ⟨_, ldk (k := 3) O.s hc15 q19, _, _, _, rfl, ?_⟩
    exact (ih _ _ e) _ _ _ _ _ _ _ _ _ _ _ _ _ _ _ _ _ _ _ _ _ _ (O.pick [0, 1, 2, 3]).nm rfl k_0 r_0 rfl rfl rfl k_57 r_57 rfl k20 r21
  · exact (ih _ _ e) _ _ _ _ _ _ _ _ _ _ _ _ _ _ _ _ (O.pick [0, 1, 3, 2]).nm rfl k_0 r_0 rfl rfl
set_option maxRecDepth 100000 in
theorem cycle_Passes.l1_k.step_l3 (go : (p : cycle_Passes.l1_k.Pt) → Option ((List (List Int)) × Int)) (ih : ∀ p r, go p = some r → cycle_Passes.l1_k.I p r) (a_0 : List T_api_Know) (es_4 : (List (Int × Int))) (es_6 : (List (Int × Bool))) (a_10 : List (List Int)) (a_11 : List Int) (a_57 : List Int) (x_58 : Int) (x_59 : Int) (a_69 : List Int) (x_70 : Int) (x_71 : Int) (r : (List (List Int)) × Int) (e : cycle_Passes.l1_k.body go (.l3 a_0 es_4 es_6 a_10 a_11 a_57 x_58 x_59 a_69 x_70 x_71) = some r) : cycle_Passes.l1_k.I (.l3 a_0 es_4 es_6 a_10 a_11 a_57 x_58 x_59 a_69 x_70 x_71) r := by
  unfold cycle_Passes.l1_k.body at e
  intro W h0 m0 h m A_0 n_0 c_0 bk_4 bk_6 A_10 n_10 c_10 A_11 n_11 c_11 A_57 n_57 c_57 A_69 n_69 c_69 O ne_0 k_0 r_0 ne_10 ne_11 ne_57 k_57 r_57 ne_69 k_69 r_69
  subst ne_0
  subst ne_10
  subst ne_11
  subst ne_57
  subst ne_69
  refine f11.l3_in ?_
  unfold f11.l3T
  refine split_dec_e e (fun c13 e => ?_) (fun c13 e => ?_)
  · obtain ⟨y1, g2, e⟩ := bind_e e
    refine r_69.addr rfl g2 fun a3 cs4 ha5 hc6 he7 => ?_
    obtain rfl : cs4 = [(Value.int .i64 y1)] := he7
    refine ⟨_, ld0 O.s hc6 rfl, _, rfl, ?_⟩
    refine (O.om 0 rfl).look2 (zv := (0 : Int)) (z := (Value.int .i64 (0 : Int))) (keyOk_int (key := 3) (elem := 3) (by kernel_rfl) (by kernel_rfl)) y1 (by kernel_rfl) rfl (fun v8 hv9 => ?_)
    obtain rfl : v8 = (Value.int .i64 (pgd es_4 y1 (0 : Int))) := (List.cons.inj (show [v8] = [(Value.int .i64 (pgd es_4 y1 (0 : Int)))] from hv9)).1
    refine ⟨_, _, rfl, ?_⟩
    refine split_any_e e (fun c12 e => ?_) (fun c12 e => ?_)
    · refine (O.om 1 rfl).look (zv := false) (z := (Value.bool false)) (keyOk_int (key := 3) (elem := 4) (by kernel_rfl) (by kernel_rfl)) y1 (by kernel_rfl) rfl (fun v10 hv11 => ?_)
      obtain rfl : v10 = (Value.bool (pgd es_6 y1 false)) := (List.cons.inj (show [v10] = [(Value.bool (pgd es_6 y1 false))] from hv11)).1
      refine ⟨_, rfl, ?_⟩
      exact (ih _ _ e) _ _ _ _ _ _ _ _ _ _ _ _ _ _ _ _ _ _ _ _ _ _ (O.pick [0, 1, 2, 3]).nm rfl k_0 r_0 rfl rfl rfl k_57 r_57 rfl k_69 r_69
    · exact (ih _ _ e) _ _ _ _ _ _ _ _ _ _ _ _ _ _ _ _ _ _ _ _ _ _ (O.pick [0, 1, 2, 3]).nm rfl k_0 r_0 rfl rfl rfl k_57 r_57 rfl k_69 r_69
  · exact (ih _ _ e) _ _ _ _ _ _ _ _ _ _ _ _ _ _ _ _ _ _ _ (O.pick [0, 1, 2, 3]).nm rfl k_0 r_0 rfl rfl rfl k_57 r_57
set_option maxRecDepth 100000 in
theorem cycle_Passes.l1_k.step_j1 (go : (p : cycle_Passes.l1_k.Pt) → Option ((List (List Int)) × Int)) (ih : ∀ p r, go p = some r → cycle_Passes.l1_k.I p r) (a_0 : List T_api_Know) (es_4 : (List (Int × Int))) (es_6 : (List (Int × Bool))) (a_10 : List (List Int)) (a_11 : List Int) (x_15 : Int) (a_57 : List Int) (x_58 : Int) (x_59 : Int) (a_69 : List Int) (x_70 : Int) (x_71 : Int) (b_87 : Bool) (r : (List (List Int)) × Int) (e : cycle_Passes.l1_k.body go (.j1 a_0 es_4 es_6 a_10 a_11 x_15 a_57 x_58 x_59 a_69 x_70 x_71 b_87) = some r) : cycle_Passes.l1_k.I (.j1 a_0 es_4 es_6 a_10 a_11 x_15 a_57 x_58 x_59 a_69 x_70 x_71 b_87) r := by
  unfold cycle_Passes.l1_k.body at e
  intro W h0 m0 h m A_0 n_0 c_0 bk_4 bk_6 A_10 n_10 c_10 A_11 n_11 c_11 A_57 n_57 c_57 A_69 n_69 c_69 O ne_0 k_0 r_0 ne_10 ne_11 ne_57 k_57 r_57 ne_69 k_69 r_69
  subst ne_0
  subst ne_10
  subst ne_11
  subst ne_57
  subst ne_69
  refine f11.j1_in ?_
  unfold f11.j1T
  refine split_any_e e (fun c19 e => ?_) (fun c19 e => ?_)
  · obtain ⟨l3, g4, e⟩ := bind_e e
    replace g4 := Option.some.inj g4
    refine O.mapUpd (x := true) (v := (Value.bool true)) 1 rfl (keyOk_int (key := 3) (elem := 4) (by kernel_rfl) (by kernel_rfl)) x_15 (show (eV0 eBool) m true (Value.bool true) from rfl) g4 fun h1 O2 => ?_
    refine O2.new fun h5 x6 O7 => ?_
    obtain ⟨l9, g10, e⟩ := bind_e e
    have O17 := O7.rowE (l := ([x_15] : List Int)) 4 rfl (tell_int .i64) (show CsE _ _ _ _ _ from (CsE.cons (c1 := [(Value.int .i64 x_15)]) rfl rfl CsE.nil)) rfl
    refine O17.app 3 rfl rfl rfl ((O17.os 4 rfl).srcE rfl) (by decide) g10 fun A11 c12 h13 O14 => ?_
    refine ⟨_, _, _, rfl, ?_⟩
    have O18 := O14.nm
    exact (ih _ _ e) _ _ _ _ _ _ _ _ _ _ _ _ _ _ _ _ _ _ _ _ _ _ (O18.pick [0, 1, 2, 3]).nm rfl k_0 r_0 rfl rfl rfl k_57 r_57 rfl k_69 r_69
  · exact (ih _ _ e) _ _ _ _ _ _ _ _ _ _ _ _ _ _ _ _ _ _ _ _ _ _ (O.pick [0, 1, 2, 3]).nm rfl k_0 r_0 rfl rfl rfl k_57 r_57 rfl k_69 r_69
theorem cycle_Passes.l1_k.all {p : cycle_Passes.l1_k.Pt} {r : ((List (List Int)) × Int)} (e : cycle_Passes.l1_k.go p = some r) : cycle_Passes.l1_k.I p r := fixF_ind (β := fun _ => ((List (List Int)) × Int)) cycle_Passes.l1_k.mono (I := cycle_Passes.l1_k.I) (fun go ih p r e => match p with
  | .l1 a_0 es_4 es_6 a_7 a_10 => cycle_Passes.l1_k.step_l1 go ih a_0 es_4 es_6 a_7 a_10 r e
  | .l2 a_0 es_4 es_6 a_10 a_11 a_57 x_58 x_59 => cycle_Passes.l1_k.step_l2 go ih a_0 es_4 es_6 a_10 a_11 a_57 x_58 x_59 r e
  | .l3 a_0 es_4 es_6 a_10 a_11 a_57 x_58 x_59 a_69 x_70 x_71 => cycle_Passes.l1_k.step_l3 go ih a_0 es_4 es_6 a_10 a_11 a_57 x_58 x_59 a_69 x_70 x_71 r e
  | .j1 a_0 es_4 es_6 a_10 a_11 x_15 a_57 x_58 x_59 a_69 x_70 x_71 b_87 => cycle_Passes.l1_k.step_j1 go ih a_0 es_4 es_6 a_10 a_11 x_15 a_57 x_58 x_59 a_69 x_70 x_71 b_87 r e
  ) e
theorem cycle_Passes.l1.walk {W : Nat → Prop} {h0 m0 h m : Heap} {A_0 : Option Addr} {n_0 c_0 : Nat} {bk_4 : Nat} {bk_6 : Nat} {A_7 : Option Addr} {n_7 c_7 : Nat} {A_10 : Option Addr} {n_10 c_10 : Nat} {a_0 : List T_api_Know} {es_4 : (List (Int × Int))} {es_6 : (List (Int × Bool))} {a_7 : List Int} {a_10 : List (List Int)} (O : Hold W h0 m0 h m [rM (monoV0 (tell_int .i64)) (fun n : Int => Value.int .i64 n) bk_4 es_4, rM (monoV0 tell_bool) (fun n : Int => Value.int .i64 n) bk_6 es_6, rR (aE (tell_int .i64)) A_7 c_7 a_7, rR (aE (tell_row (tell_int .i64))) A_10 c_10 a_10]) (ne_0 : n_0 = List.length a_0) (k_0 : List.length a_0 ≤ c_0) (r_0 : Rd 4 T_api_Know.E m A_0 a_0) (ne_7 : n_7 = List.length a_7) (ne_10 : n_10 = List.length a_10) {r : (List (List Int)) × Int} (e : cycle_Passes.l1 a_0 es_4 es_6 a_7 a_10 = some r) : f11.l1 (cycle_Passes.post W h0 m0 r) A_0 n_0 c_0 (Value.map (some bk_4)) (Value.map (some bk_6)) A_7 n_7 c_7 A_10 n_10 c_10 h := cycle_Passes.l1_k.all (p := .l1 a_0 es_4 es_6 a_7 a_10) e W h0 m0 h m A_0 n_0 c_0 bk_4 bk_6 A_7 n_7 c_7 A_10 n_10 c_10 O ne_0 k_0 r_0 ne_7 ne_10
inductive cycle_Passes.l0_k.Pt where
  | l0 (a_0 : List T_api_Know) (es_4 : (List (Int × Int))) (es_6 : (List (Int × Bool))) (a_7 : List Int) (a_27 : List T_api_Know) (x_28 : Int) (x_29 : Int)
  | j0 (a_0 : List T_api_Know) (es_4 : (List (Int × Int))) (es_6 : (List (Int × Bool))) (a_7 : List Int) (y_9 : T_api_Know) (a_27 : List T_api_Know) (x_28 : Int) (x_29 : Int) (b_38 : Bool)
noncomputable def cycle_Passes.l0_k.body (go : (p : cycle_Passes.l0_k.Pt) → Option ((List (List Int)) × Int)) : (p : cycle_Passes.l0_k.Pt) → Option ((List (List Int)) × Int)
  | .l0 a_0 es_4 es_6 a_7 a_27 x_28 x_29 => if x_29 < x_28 then (Option.bind (gi a_27 x_29) fun y1 => if y1.Root = true then ((go (.j0 a_0 es_4 es_6 a_7 y1 a_27 x_28 x_29 true))) else ((go (.j0 a_0 es_4 es_6 a_7 y1 a_27 x_28 x_29 y1.Awake)))) else ((cycle_Passes.l1 a_0 es_4 es_6 a_7 ([] : List (List Int))))
  | .j0 a_0 es_4 es_6 a_7 y_9 a_27 x_28 x_29 b_38 => if b_38 = true then (Option.bind (ap 8 a_7 ([y_9.Ref] : List Int)) fun l5 => Option.bind (some (pset es_6 y_9.Ref true)) fun l16 => (go (.l0 a_0 es_4 l16 l5 a_27 x_28 (IntKind.wrap .i64 (x_29 + (1 : Int)))))) else ((go (.l0 a_0 es_4 es_6 a_7 a_27 x_28 (IntKind.wrap .i64 (x_29 + (1 : Int))))))
theorem cycle_Passes.l0_k.mono : MonoF (β := fun _ => ((List (List Int)) × Int)) cycle_Passes.l0_k.body := fun f g hfg p => match p with
  | .l0 a_0 es_4 es_6 a_7 a_27 x_28 x_29 => LeO.ite (LeO.bind (LeO.refl _) fun y1 => LeO.ite ((hfg _)) ((hfg _))) ((LeO.refl _))
  | .j0 a_0 es_4 es_6 a_7 y_9 a_27 x_28 x_29 b_38 => LeO.ite (LeO.bind (LeO.refl _) fun l5 => LeO.bind (LeO.refl _) fun l16 => (hfg _)) ((hfg _))
noncomputable def cycle_Passes.l0_k.go (p : cycle_Passes.l0_k.Pt) : Option ((List (List Int)) × Int) := fixF (β := fun _ => ((List (List Int)) × Int)) cycle_Passes.l0_k.body p
noncomputable def cycle_Passes.l0 (a_0 : List T_api_Know) (es_4 : (List (Int × Int))) (es_6 : (List (Int × Bool))) (a_7 : List Int) (a_27 : List T_api_Know) (x_28 : Int) (x_29 : Int) : Option ((List (List Int)) × Int) := cycle_Passes.l0_k.go (.l0 a_0 es_4 es_6 a_7 a_27 x_28 x_29)
noncomputable def cycle_Passes.j0 (a_0 : List T_api_Know) (es_4 : (List (Int × Int))) (es_6 : (List (Int × Bool))) (a_7 : List Int) (y_9 : T_api_Know) (a_27 : List T_api_Know) (x_28 : Int) (x_29 : Int) (b_38 : Bool) : Option ((List (List Int)) × Int) := cycle_Passes.l0_k.go (.j0 a_0 es_4 es_6 a_7 y_9 a_27 x_28 x_29 b_38)
theorem cycle_Passes.l0_eq (a_0 : List T_api_Know) (es_4 : (List (Int × Int))) (es_6 : (List (Int × Bool))) (a_7 : List Int) (a_27 : List T_api_Know) (x_28 : Int) (x_29 : Int) : cycle_Passes.l0 a_0 es_4 es_6 a_7 a_27 x_28 x_29 = if x_29 < x_28 then (Option.bind (gi a_27 x_29) fun y1 => if y1.Root = true then ((cycle_Passes.j0 a_0 es_4 es_6 a_7 y1 a_27 x_28 x_29 true)) else ((cycle_Passes.j0 a_0 es_4 es_6 a_7 y1 a_27 x_28 x_29 y1.Awake))) else ((cycle_Passes.l1 a_0 es_4 es_6 a_7 ([] : List (List Int)))) := fixF_eq cycle_Passes.l0_k.mono _
theorem cycle_Passes.j0_eq (a_0 : List T_api_Know) (es_4 : (List (Int × Int))) (es_6 : (List (Int × Bool))) (a_7 : List Int) (y_9 : T_api_Know) (a_27 : List T_api_Know) (x_28 : Int) (x_29 : Int) (b_38 : Bool) : cycle_Passes.j0 a_0 es_4 es_6 a_7 y_9 a_27 x_28 x_29 b_38 = if b_38 = true then (Option.bind (ap 8 a_7 ([y_9.Ref] : List Int)) fun l5 => Option.bind (some (pset es_6 y_9.Ref true)) fun l16 => (cycle_Passes.l0 a_0 es_4 l16 l5 a_27 x_28 (IntKind.wrap .i64 (x_29 + (1 : Int))))) else ((cycle_Passes.l0 a_0 es_4 es_6 a_7 a_27 x_28 (IntKind.wrap .i64 (x_29 + (1 : Int))))) := fixF_eq cycle_Passes.l0_k.mono _
def cycle_Passes.l0_k.I : (p : cycle_Passes.l0_k.Pt) → ((List (List Int)) × Int) → Prop
  | .l0 a_0 es_4 es_6 a_7 a_27 x_28 x_29, r => ∀ (W : Nat → Prop) (h0 m0 h m : Heap) (A_0 : Option Addr) (n_0 c_0 : Nat) (bk_4 : Nat) (bk_6 : Nat) (A_7 : Option Addr) (n_7 c_7 : Nat) (A_27 : Option Addr) (n_27 c_27 : Nat) (O : Hold W h0 m0 h m [rM (monoV0 (tell_int .i64)) (fun n : Int => Value.int .i64 n) bk_4 es_4, rM (monoV0 tell_bool) (fun n : Int => Value.int .i64 n) bk_6 es_6, rR (aE (tell_int .i64)) A_7 c_7 a_7]) (ne_0 : n_0 = List.length a_0) (k_0 : List.length a_0 ≤ c_0) (r_0 : Rd 4 T_api_Know.E m A_0 a_0) (ne_7 : n_7 = List.length a_7) (ne_27 : n_27 = List.length a_27) (k_27 : List.length a_27 ≤ c_27) (r_27 : Rd 4 T_api_Know.E m A_27 a_27), f11.l0 (cycle_Passes.post W h0 m0 r) A_0 n_0 c_0 (Value.map (some bk_4)) (Value.map (some bk_6)) A_7 n_7 c_7 A_27 n_27 c_27 x_28 x_29 h
  | .j0 a_0 es_4 es_6 a_7 y_9 a_27 x_28 x_29 b_38, r => ∀ (W : Nat → Prop) (h0 m0 h m : Heap) (A_0 : Option Addr) (n_0 c_0 : Nat) (bk_4 : Nat) (bk_6 : Nat) (A_7 : Option Addr) (n_7 c_7 : Nat) (bk_9 : Nat) (cs_9 : List Value) (A_27 : Option Addr) (n_27 c_27 : Nat) (O : Hold W h0 m0 h m [rM (monoV0 (tell_int .i64)) (fun n : Int => Value.int .i64 n) bk_4 es_4, rM (monoV0 tell_bool) (fun n : Int => Value.int .i64 n) bk_6 es_6, rR (aE (tell_int .i64)) A_7 c_7 a_7, rV bk_9 28 cs_9]) (ne_0 : n_0 = List.length a_0) (k_0 : List.length a_0 ≤ c_0) (r_0 : Rd 4 T_api_Know.E m A_0 a_0) (ne_7 : n_7 = List.length a_7) (e_9 : T_api_Know.E m y_9 cs_9) (ne_27 : n_27 = List.length a_27) (k_27 : List.length a_27 ≤ c_27) (r_27 : Rd 4 T_api_Know.E m A_27 a_27), f11.j0 (cycle_Passes.post W h0 m0 r) A_0 n_0 c_0 (Value.map (some bk_4)) (Value.map (some bk_6)) A_7 n_7 c_7 (⟨bk_9, 0, none⟩ : Addr) A_27 n_27 c_27 x_28 x_29 b_38 h
set_option maxRecDepth 100000 in
theorem cycle_Passes.l0_k.step_l0 (go : (p : cycle_Passes.l0_k.Pt) → Option ((List (List Int)) × Int)) (ih : ∀ p r, go p = some r → cycle_Passes.l0_k.I p r) (a_0 : List T_api_Know) (es_4 : (List (Int × Int))) (es_6 : (List (Int × Bool))) (a_7 : List Int) (a_27 : List T_api_Know) (x_28 : Int) (x_29 : Int) (r : (List (List Int)) × Int) (e : cycle_Passes.l0_k.body go (.l0 a_0 es_4 es_6 a_7 a_27 x_28 x_29) = some r) : cycle_Passes.l0_k.I (.l0 a_0 es_4 es_6 a_7 a_27 x_28 x_29) r := by
  unfold cycle_Passes.l0_k.body at e
  intro W h0 m0 h m A_0 n_0 c_0 bk_4 bk_6 A_7 n_7 c_7 A_27 n_27 c_27 O ne_0 k_0 r_0 ne_7 ne_27 k_27 r_27
  subst ne_0
  subst ne_7
  subst ne_27
  refine f11.l0_in ?_
  unfold f11.l0T
  refine split_dec_e e (fun c20 e => ?_) (fun c20 e => ?_)
  · obtain ⟨y1, g2, e⟩ := bind_e e
    refine r_27.addr rfl g2 fun a3 cs4 ha5 hc6 he7 => ?_
    refine ⟨_, ldAn O.s hc6 rfl, ?_⟩
    refine O.new fun h8 x9 O10 => ?_
    refine ⟨_, rfl, (T_api_Know.T.len _ _ _ he7), ?_⟩
    refine O10.stA 3 rfl (T_api_Know.T.len _ _ _ he7) (T_api_Know.T.flat _ _ _ he7) fun h12 O13 => ?_
    refine ⟨_, ldk (k := 2) (Sub.refl _) (O13.all 3 rfl) (T_api_Know.g2 he7), _, rfl, ?_⟩
    refine split_any_e e (fun c16 e => ?_) (fun c16 e => ?_)
    · have O14 := O13.nm
      exact (ih _ _ e) _ _ _ _ _ _ _ _ _ _ _ _ _ _ _ _ _ _ (O14.pick [0, 1, 2, 3]).nm rfl k_0 r_0 rfl he7 rfl k_27 r_27
    · refine ⟨_, ldk (k := 1) (Sub.refl _) (O13.all 3 rfl) (T_api_Know.g1 he7), _, rfl, ?_⟩
      have O15 := O13.nm
      exact (ih _ _ e) _ _ _ _ _ _ _ _ _ _ _ _ _ _ _ _ _ _ (O15.pick [0, 1, 2, 3]).nm rfl k_0 r_0 rfl he7 rfl k_27 r_27
  · have O17 := O.nil (aE (tell_row (tell_int .i64))) none
    have O19 := O17.nm
    exact cycle_Passes.l1.walk (O19.pick [0, 1, 2, 3]).nm rfl k_0 r_0 rfl rfl e
set_option maxRecDepth 100000 in
theorem cycle_Passes.l0_k.step_j0 (go : (p : cycle_Passes.l0_k.Pt) → Option ((List (List Int)) × Int)) (ih : ∀ p r, go p = some r → cycle_Passes.l0_k.I p r) (a_0 : List T_api_Know) (es_4 : (List (Int × Int))) (es_6 : (List (Int × Bool))) (a_7 : List Int) (y_9 : T_api_Know) (a_27 : List T_api_Know) (x_28 : Int) (x_29 : Int) (b_38 : Bool) (r : (List (List Int)) × Int) (e : cycle_Passes.l0_k.body go (.j0 a_0 es_4 es_6 a_7 y_9 a_27 x_28 x_29 b_38) = some r) : cycle_Passes.l0_k.I (.j0 a_0 es_4 es_6 a_7 y_9 a_27 x_28 x_29 b_38) r := by
  unfold cycle_Passes.l0_k.body at e
  intro W h0 m0 h m A_0 n_0 c_0 bk_4 bk_6 A_7 n_7 c_7 bk_9 cs_9 A_27 n_27 c_27 O ne_0 k_0 r_0 ne_7 e_9 ne_27 k_27 r_27
  subst ne_0
  subst ne_7
  subst ne_27
  refine f11.j0_in ?_
  unfold f11.j0T
  refine split_any_e e (fun c19 e => ?_) (fun c19 e => ?_)
  · refine ⟨_, ld0 (Sub.refl _) (O.all 3 rfl) (T_api_Know.g0 e_9), _, rfl, ?_⟩
    refine O.new fun h1 x2 O3 => ?_
    obtain ⟨l5, g6, e⟩ := bind_e e
    have O13 := O3.rowE (l := ([y_9.Ref] : List Int)) 4 rfl (tell_int .i64) (show CsE _ _ _ _ _ from (CsE.cons (c1 := [(Value.int .i64 y_9.Ref)]) rfl rfl CsE.nil)) rfl
    refine O13.app 2 rfl rfl rfl ((O13.os 4 rfl).srcE rfl) (by decide) g6 fun A7 c8 h9 O10 => ?_
    refine ⟨_, _, _, rfl, ?_⟩
    refine ⟨_, ld0 (Sub.refl _) (O10.all 3 rfl) (T_api_Know.g0 e_9), _, rfl, ?_⟩
    obtain ⟨l16, g17, e⟩ := bind_e e
    replace g17 := Option.some.inj g17
    refine O10.mapUpd (x := true) (v := (Value.bool true)) 1 rfl (keyOk_int (key := 3) (elem := 4) (by kernel_rfl) (by kernel_rfl)) y_9.Ref (show (eV0 eBool) m true (Value.bool true) from rfl) g17 fun h14 O15 => ?_
    have O18 := O15.nm
    exact (ih _ _ e) _ _ _ _ _ _ _ _ _ _ _ _ _ _ _ _ (O18.pick [0, 1, 2]).nm rfl k_0 r_0 rfl rfl k_27 r_27
  · exact (ih _ _ e) _ _ _ _ _ _ _ _ _ _ _ _ _ _ _ _ (O.pick [0, 1, 2]).nm rfl k_0 r_0 rfl rfl k_27 r_27
theorem cycle_Passes.l0_k.all {p : cycle_Passes.l0_k.Pt} {r : ((List (List Int)) × Int)} (e : cycle_Passes.l0_k.go p = some r) : cycle_Passes.l0_k.I p r := fixF_ind (β := fun _ => ((List (List Int)) × Int)) cycle_Passes.l0_k.mono (I := cycle_Passes.l0_k.I) (fun go ih p r e => match p with
  | .l0 a_0 es_4 es_6 a_7 a_27 x_28 x_29 => cycle_Passes.l0_k.step_l0 go ih a_0 es_4 es_6 a_7 a_27 x_28 x_29 r e
  | .j0 a_0 es_4 es_6 a_7 y_9 a_27 x_28 x_29 b_38 => cycle_Passes.l0_k.step_j0 go ih a_0 es_4 es_6 a_7 y_9 a_27 x_28 x_29 b_38 r e
  ) e
theorem cycle_Passes.l0.walk {W : Nat → Prop} {h0 m0 h m : Heap} {A_0 : Option Addr} {n_0 c_0 : Nat} {bk_4 : Nat} {bk_6 : Nat} {A_7 : Option Addr} {n_7 c_7 : Nat} {A_27 : Option Addr} {n_27 c_27 : Nat} {a_0 : List T_api_Know} {es_4 : (List (Int × Int))} {es_6 : (List (Int × Bool))} {a_7 : List Int} {a_27 : List T_api_Know} {x_28 : Int} {x_29 : Int} (O : Hold W h0 m0 h m [rM (monoV0 (tell_int .i64)) (fun n : Int => Value.int .i64 n) bk_4 es_4, rM (monoV0 tell_bool) (fun n : Int => Value.int .i64 n) bk_6 es_6, rR (aE (tell_int .i64)) A_7 c_7 a_7]) (ne_0 : n_0 = List.length a_0) (k_0 : List.length a_0 ≤ c_0) (r_0 : Rd 4 T_api_Know.E m A_0 a_0) (ne_7 : n_7 = List.length a_7) (ne_27 : n_27 = List.length a_27) (k_27 : List.length a_27 ≤ c_27) (r_27 : Rd 4 T_api_Know.E m A_27 a_27) {r : (List (List Int)) × Int} (e : cycle_Passes.l0 a_0 es_4 es_6 a_7 a_27 x_28 x_29 = some r) : f11.l0 (cycle_Passes.post W h0 m0 r) A_0 n_0 c_0 (Value.map (some bk_4)) (Value.map (some bk_6)) A_7 n_7 c_7 A_27 n_27 c_27 x_28 x_29 h := cycle_Passes.l0_k.all (p := .l0 a_0 es_4 es_6 a_7 a_27 x_28 x_29) e W h0 m0 h m A_0 n_0 c_0 bk_4 bk_6 A_7 n_7 c_7 A_27 n_27 c_27 O ne_0 k_0 r_0 ne_7 ne_27 k_27 r_27
noncomputable def cycle_Passes (a_0 : List T_api_Know) : Option ((List (List Int)) × Int) :=
  Option.bind (cycle_index a_0) fun y1 => Option.elim y1.1 (if y1.2 = (0 : Int) then ((none : Option _)) else (some (([] : List (List Int)), y1.2))) fun z12 => if y1.2 = (0 : Int) then ((cycle_Passes.l0 a_0 z12 ([] : (List (Int × Bool))) ([] : List Int) a_0 (((List.length a_0) : Nat) : Int) (0 : Int))) else (some (([] : List (List Int)), y1.2))
set_option maxRecDepth 100000 in
theorem cycle_Passes.walk {W : Nat → Prop} {h m : Heap} {A_0 : Option Addr} {n_0 c_0 : Nat} {a_0 : List T_api_Know} (O : Hold W h m h m []) (ne_0 : n_0 = List.length a_0) (k_0 : List.length a_0 ≤ c_0) (r_0 : Rd 4 T_api_Know.E m A_0 a_0) {r : (List (List Int)) × Int} (e : cycle_Passes a_0 = some r) : Run Try.prog 11 #[Value.slice A_0 n_0 c_0] h (cycle_Passes.post W h m r) := by
  unfold cycle_Passes at e
  subst ne_0
  refine f11.run ?_
  unfold f11.runT
  obtain ⟨y1, g2, e⟩ := bind_e e
  refine (cycle_index.walk (Hold.start (W := No) O.s) rfl k_0 r_0 g2).mono ?_
  rintro _ h3 ⟨m4, p7, u9, s10, rfl, hp8⟩
  rcases hp8 with ⟨q11, rfl, Q14⟩ | ⟨z12, b13, q11, rfl, Q15, _⟩
  · have e := elim_none_e e q11
    have O16 := Hold.nm (O.retC Q14 vfs_nil)
    refine ⟨_, _, rfl, ?_⟩
    refine split_ne_e e (fun c24 e => ?_) (fun c24 e => ?_)
    · have O17 := O16.nil (aE (tell_row (tell_int .i64))) none
      have O19 := O17.nm
      cases e
      exact ⟨_, _, _, _, O19.pick [0], rfl, rfl⟩
    · refine O16.mkMap (ν := Bool) (monoV0 tell_bool) (fun n : Int => Value.int .i64 n) fun h20 x21 O22 => ?_
      cases e
  · have e := elim_some_e e q11
    have O26 := Hold.nm (O.retC Q15 (vfs_cons (rM_vf (fun _ _ _ _ h => h)) vfs_nil))
    refine ⟨_, _, rfl, ?_⟩
    refine split_ne_e e (fun c37 e => ?_) (fun c37 e => ?_)
    · have O27 := O26.nil (aE (tell_row (tell_int .i64))) none
      have O29 := O27.nm
      cases e
      exact ⟨_, _, _, _, O29.pick [1], rfl, rfl⟩
    · refine O26.mkMap (ν := Bool) (monoV0 tell_bool) (fun n : Int => Value.int .i64 n) fun h30 x31 O32 => ?_
      have O34 := O32.nil (aE (tell_int .i64)) none
      have O36 := O34.nm
      exact cycle_Passes.l0.walk (O36.pick [0, 1, 2]).nm rfl k_0 r_0 rfl rfl k_0 r_0 e
def cycle_Garbage.post (W : Nat → Prop) (h0 m0 : Heap) (r : (List Int) × Int) (v : Value) (h : Heap) : Prop := ∃ m A0 n0 c0, Hold W h0 m0 h m [rR (aE (tell_int .i64)) A0 c0 r.1] ∧ v = .tuple #[.slice A0 n0 c0, .int .i64 r.2] ∧ n0 = List.length r.1
inductive cycle_Garbage.l1_k.Pt where
  | l1 (es_6 : (List (Int × Bool))) (a_11 : List Int) (a_39 : List T_api_Know) (x_40 : Int) (x_41 : Int)
noncomputable def cycle_Garbage.l1_k.body (go : (p : cycle_Garbage.l1_k.Pt) → Option ((List Int) × Int)) : (p : cycle_Garbage.l1_k.Pt) → Option ((List Int) × Int)
  | .l1 es_6 a_11 a_39 x_40 x_41 => if x_41 < x_40 then (Option.bind (gi a_39 x_41) fun y1 => if (pgd es_6 y1.Ref false) = true then ((go (.l1 es_6 a_11 a_39 x_40 (IntKind.wrap .i64 (x_41 + (1 : Int)))))) else (Option.bind (ap 8 a_11 ([y1.Ref] : List Int)) fun l21 => (go (.l1 es_6 l21 a_39 x_40 (IntKind.wrap .i64 (x_41 + (1 : Int))))))) else (Option.bind (slices_Sort_14 a_11) fun y32 => some (y32, (0 : Int)))
theorem cycle_Garbage.l1_k.mono : MonoF (β := fun _ => ((List Int) × Int)) cycle_Garbage.l1_k.body := fun f g hfg p => match p with
  | .l1 es_6 a_11 a_39 x_40 x_41 => LeO.ite (LeO.bind (LeO.refl _) fun y1 => LeO.ite ((hfg _)) (LeO.bind (LeO.refl _) fun l21 => (hfg _))) (LeO.bind (LeO.refl _) fun y32 => LeO.refl _)
noncomputable def cycle_Garbage.l1_k.go (p : cycle_Garbage.l1_k.Pt) : Option ((List Int) × Int) := fixF (β := fun _ => ((List Int) × Int)) cycle_Garbage.l1_k.body p
noncomputable def cycle_Garbage.l1 (es_6 : (List (Int × Bool))) (a_11 : List Int) (a_39 : List T_api_Know) (x_40 : Int) (x_41 : Int) : Option ((List Int) × Int) := cycle_Garbage.l1_k.go (.l1 es_6 a_11 a_39 x_40 x_41)
theorem cycle_Garbage.l1_eq (es_6 : (List (Int × Bool))) (a_11 : List Int) (a_39 : List T_api_Know) (x_40 : Int) (x_41 : Int) : cycle_Garbage.l1 es_6 a_11 a_39 x_40 x_41 = if x_41 < x_40 then (Option.bind (gi a_39 x_41) fun y1 => if (pgd es_6 y1.Ref false) = true then ((cycle_Garbage.l1 es_6 a_11 a_39 x_40 (IntKind.wrap .i64 (x_41 + (1 : Int))))) else (Option.bind (ap 8 a_11 ([y1.Ref] : List Int)) fun l21 => (cycle_Garbage.l1 es_6 l21 a_39 x_40 (IntKind.wrap .i64 (x_41 + (1 : Int)))))) else (Option.bind (slices_Sort_14 a_11) fun y32 => some (y32, (0 : Int))) := fixF_eq cycle_Garbage.l1_k.mono _
def cycle_Garbage.l1_k.I : (p : cycle_Garbage.l1_k.Pt) → ((List Int) × Int) → Prop
  | .l1 es_6 a_11 a_39 x_40 x_41, r => ∀ (W : Nat → Prop) (h0 m0 h m : Heap) (bk_6 : Nat) (A_11 : Option Addr) (n_11 c_11 : Nat) (A_39 : Option Addr) (n_39 c_39 : Nat) (O : Hold W h0 m0 h m [rM (monoV0 tell_bool) (fun n : Int => Value.int .i64 n) bk_6 es_6, rR (aE (tell_int .i64)) A_11 c_11 a_11]) (ne_11 : n_11 = List.length a_11) (ne_39 : n_39 = List.length a_39) (k_39 : List.length a_39 ≤ c_39) (r_39 : Rd 4 T_api_Know.E m A_39 a_39), f9.l1 (cycle_Garbage.post W h0 m0 r) (Value.map (some bk_6)) A_11 n_11 c_11 A_39 n_39 c_39 x_40 x_41 h
set_option maxHeartbeats 4000000 in
set_option maxRecDepth 100000 in
theorem cycle_Garbage.l1_k.step_l1 (go : (p : cycle_Garbage.l1_k.Pt) → Option ((List Int) × Int)) (ih : ∀ p r, go p = some r → cycle_Garbage.l1_k.I p r) (es_6 : (List (Int × Bool))) (a_11 : List Int) (a_39 : List T_api_Know) (x_40 : Int) (x_41 : Int) (r : (List Int) × Int) (e : cycle_Garbage.l1_k.body go (.l1 es_6 a_11 a_39 x_40 x_41) = some r) : cycle_Garbage.l1_k.I (.l1 es_6 a_11 a_39 x_40 x_41) r := by
  unfold cycle_Garbage.l1_k.body at e
  intro W h0 m0 h m bk_6 A_11 n_11 c_11 A_39 n_39 c_39 O ne_11 ne_39 k_39 r_39
  subst ne_11
  subst ne_39
  refine f9.l1_in ?_
  unfold f9.l1T
  refine split_dec_e e (fun c44 e => ?_) (fun c44 e => ?_)
  · obtain ⟨y1, g2, e⟩ := bind_e e
    refine r_39.addr rfl g2 fun a3 cs4 ha5 hc6 he7 => ?_
    refine ⟨_, ldAn O.s hc6 rfl, ?_⟩
    refine O.new fun h8 x9 O10 => ?_
    refine ⟨_, rfl, (T_api_Know.T.len _ _ _ he7), ?_⟩
    refine O10.stA 2 rfl (T_api_Know.T.len _ _ _ he7) (T_api_Know.T.flat _ _ _ he7) fun h12 O13 => ?_
    refine ⟨_, ld0 (Sub.refl _) (O13.all 2 rfl) (T_api_Know.g0 he7), _, rfl, ?_⟩
    refine (O13.om 0 rfl).look (zv := false) (z := (Value.bool false)) (keyOk_int (key := 3) (elem := 4) (by kernel_rfl) (by kernel_rfl)) y1.Ref (by kernel_rfl) rfl (fun v14 hv15 => ?_)
    obtain rfl : v14 = (Value.bool (pgd es_6 y1.Ref false)) := (List.cons.inj (show [v14] = [(Value.bool (pgd es_6 y1.Ref false))] from hv15)).1
    refine ⟨_, rfl, ?_⟩
    refine split_not ?_
    refine split_any_e e (fun c31 e => ?_) (fun c31 e => ?_)
    · have O16 := O13.nm
      exact (ih _ _ e) _ _ _ _ _ _ _ _ _ _ _ _ (O16.pick [0, 1]).nm rfl rfl k_39 r_39
    · refine ⟨_, ld0 (Sub.refl _) (O13.all 2 rfl) (T_api_Know.g0 he7), _, rfl, ?_⟩
      refine O13.new fun h17 x18 O19 => ?_
      obtain ⟨l21, g22, e⟩ := bind_e e
      have O29 := O19.rowE (l := ([y1.Ref] : List Int)) 3 rfl (tell_int .i64) (show CsE _ _ _ _ _ from (CsE.cons (c1 := [(Value.int .i64 y1.Ref)]) rfl rfl CsE.nil)) rfl
      refine O29.app 1 rfl rfl rfl ((O29.os 3 rfl).srcE rfl) (by decide) g22 fun A23 c24 h25 O26 => ?_
      refine ⟨_, _, _, rfl, ?_⟩
      have O30 := O26.nm
      exact (ih _ _ e) _ _ _ _ _ _ _ _ _ _ _ _ (O30.pick [0, 1]).nm rfl rfl k_39 r_39
  · obtain ⟨y32, g33, e⟩ := bind_e e
    obtain ⟨W38, P39, B40, C41⟩ := O.callC [1]
    refine (slices_Sort_14.walk P39 rfl g33).mono ?_
    rintro _ h34 ⟨m35, Q36, rfl, hl42⟩
    have O43 := Hold.nm (C41 Q36 (vfs_cons (rR_vf (aE_vf (fun _ _ _ _ h => h))) vfs_nil))
    refine ⟨rfl, ?_⟩
    cases e
    exact ⟨_, _, _, _, O43.pick [2], rfl, hl42⟩
theorem cycle_Garbage.l1_k.all {p : cycle_Garbage.l1_k.Pt} {r : ((List Int) × Int)} (e : cycle_Garbage.l1_k.go p = some r) : cycle_Garbage.l1_k.I p r := fixF_ind (β := fun _ => ((List Int) × Int)) cycle_Garbage.l1_k.mono (I := cycle_Garbage.l1_k.I) (fun go ih p r e => match p with
  | .l1 es_6 a_11 a_39 x_40 x_41 => cycle_Garbage.l1_k.step_l1 go ih es_6 a_11 a_39 x_40 x_41 r e
  ) e
theorem cycle_Garbage.l1.walk {W : Nat → Prop} {h0 m0 h m : Heap} {bk_6 : Nat} {A_11 : Option Addr} {n_11 c_11 : Nat} {A_39 : Option Addr} {n_39 c_39 : Nat} {es_6 : (List (Int × Bool))} {a_11 : List Int} {a_39 : List T_api_Know} {x_40 : Int} {x_41 : Int} (O : Hold W h0 m0 h m [rM (monoV0 tell_bool) (fun n : Int => Value.int .i64 n) bk_6 es_6, rR (aE (tell_int .i64)) A_11 c_11 a_11]) (ne_11 : n_11 = List.length a_11) (ne_39 : n_39 = List.length a_39) (k_39 : List.length a_39 ≤ c_39) (r_39 : Rd 4 T_api_Know.E m A_39 a_39) {r : (List Int) × Int} (e : cycle_Garbage.l1 es_6 a_11 a_39 x_40 x_41 = some r) : f9.l1 (cycle_Garbage.post W h0 m0 r) (Value.map (some bk_6)) A_11 n_11 c_11 A_39 n_39 c_39 x_40 x_41 h := cycle_Garbage.l1_k.all (p := .l1 es_6 a_11 a_39 x_40 x_41) e W h0 m0 h m bk_6 A_11 n_11 c_11 A_39 n_39 c_39 O ne_11 ne_39 k_39 r_39
inductive cycle_Garbage.l0_k.Pt where
  | l0 (a_0 : List T_api_Know) (es_6 : (List (Int × Bool))) (a_23 : List (List Int)) (x_24 : Int) (x_25 : Int)
  | l2 (a_0 : List T_api_Know) (es_6 : (List (Int × Bool))) (a_23 : List (List Int)) (x_24 : Int) (x_25 : Int) (a_29 : List Int) (x_30 : Int) (x_31 : Int)
noncomputable def cycle_Garbage.l0_k.body (go : (p : cycle_Garbage.l0_k.Pt) → Option ((List Int) × Int)) : (p : cycle_Garbage.l0_k.Pt) → Option ((List Int) × Int)
  | .l0 a_0 es_6 a_23 x_24 x_25 => if x_25 < x_24 then (Option.bind (gi a_23 x_25) fun y1 => (go (.l2 a_0 es_6 a_23 x_24 x_25 y1 (((List.length y1) : Nat) : Int) (0 : Int)))) else ((cycle_Garbage.l1 es_6 ([] : List Int) a_0 (((List.length a_0) : Nat) : Int) (0 : Int)))
  | .l2 a_0 es_6 a_23 x_24 x_25 a_29 x_30 x_31 => if x_31 < x_30 then (Option.bind (gi a_29 x_31) fun y1 => Option.bind (some (pset es_6 y1 true)) fun l10 => (go (.l2 a_0 l10 a_23 x_24 x_25 a_29 x_30 (IntKind.wrap .i64 (x_31 + (1 : Int)))))) else ((go (.l0 a_0 es_6 a_23 x_24 (IntKind.wrap .i64 (x_25 + (1 : Int))))))
theorem cycle_Garbage.l0_k.mono : MonoF (β := fun _ => ((List Int) × Int)) cycle_Garbage.l0_k.body := fun f g hfg p => match p with
  | .l0 a_0 es_6 a_23 x_24 x_25 => LeO.ite (LeO.bind (LeO.refl _) fun y1 => (hfg _)) ((LeO.refl _))
  | .l2 a_0 es_6 a_23 x_24 x_25 a_29 x_30 x_31 => LeO.ite (LeO.bind (LeO.refl _) fun y1 => LeO.bind (LeO.refl _) fun l10 => (hfg _)) ((hfg _))
noncomputable def cycle_Garbage.l0_k.go (p : cycle_Garbage.l0_k.Pt) : Option ((List Int) × Int) := fixF (β := fun _ => ((List Int) × Int)) cycle_Garbage.l0_k.body p
noncomputable def cycle_Garbage.l0 (a_0 : List T_api_Know) (es_6 : (List (Int × Bool))) (a_23 : List (List Int)) (x_24 : Int) (x_25 : Int) : Option ((List Int) × Int) := cycle_Garbage.l0_k.go (.l0 a_0 es_6 a_23 x_24 x_25)
noncomputable def cycle_Garbage.l2 (a_0 : List T_api_Know) (es_6 : (List (Int × Bool))) (a_23 : List (List Int)) (x_24 : Int) (x_25 : Int) (a_29 : List Int) (x_30 : Int) (x_31 : Int) : Option ((List Int) × Int) := cycle_Garbage.l0_k.go (.l2 a_0 es_6 a_23 x_24 x_25 a_29 x_30 x_31)
theorem cycle_Garbage.l0_eq (a_0 : List T_api_Know) (es_6 : (List (Int × Bool))) (a_23 : List (List Int)) (x_24 : Int) (x_25 : Int) : cycle_Garbage.l0 a_0 es_6 a_23 x_24 x_25 = if x_25 < x_24 then (Option.bind (gi a_23 x_25) fun y1 => (cycle_Garbage.l2 a_0 es_6 a_23 x_24 x_25 y1 (((List.length y1) : Nat) : Int) (0 : Int))) else ((cycle_Garbage.l1 es_6 ([] : List Int) a_0 (((List.length a_0) : Nat) : Int) (0 : Int))) := fixF_eq cycle_Garbage.l0_k.mono _
theorem cycle_Garbage.l2_eq (a_0 : List T_api_Know) (es_6 : (List (Int × Bool))) (a_23 : List (List Int)) (x_24 : Int) (x_25 : Int) (a_29 : List Int) (x_30 : Int) (x_31 : Int) : cycle_Garbage.l2 a_0 es_6 a_23 x_24 x_25 a_29 x_30 x_31 = if x_31 < x_30 then (Option.bind (gi a_29 x_31) fun y1 => Option.bind (some (pset es_6 y1 true)) fun l10 => (cycle_Garbage.l2 a_0 l10 a_23 x_24 x_25 a_29 x_30 (IntKind.wrap .i64 (x_31 + (1 : Int))))) else ((cycle_Garbage.l0 a_0 es_6 a_23 x_24 (IntKind.wrap .i64 (x_25 + (1 : Int))))) := fixF_eq cycle_Garbage.l0_k.mono _
def cycle_Garbage.l0_k.I : (p : cycle_Garbage.l0_k.Pt) → ((List Int) × Int) → Prop
  | .l0 a_0 es_6 a_23 x_24 x_25, r => ∀ (W : Nat → Prop) (h0 m0 h m : Heap) (A_0 : Option Addr) (n_0 c_0 : Nat) (bk_6 : Nat) (A_23 : Option Addr) (n_23 c_23 : Nat) (O : Hold W h0 m0 h m [rM (monoV0 tell_bool) (fun n : Int => Value.int .i64 n) bk_6 es_6, rR (aE (tell_row (tell_int .i64))) A_23 c_23 a_23]) (ne_0 : n_0 = List.length a_0) (k_0 : List.length a_0 ≤ c_0) (r_0 : Rd 4 T_api_Know.E m A_0 a_0) (ne_23 : n_23 = List.length a_23), f9.l0 (cycle_Garbage.post W h0 m0 r) A_0 n_0 c_0 (Value.map (some bk_6)) A_23 n_23 c_23 x_24 x_25 h
  | .l2 a_0 es_6 a_23 x_24 x_25 a_29 x_30 x_31, r => ∀ (W : Nat → Prop) (h0 m0 h m : Heap) (A_0 : Option Addr) (n_0 c_0 : Nat) (bk_6 : Nat) (A_23 : Option Addr) (n_23 c_23 : Nat) (A_29 : Option Addr) (n_29 c_29 : Nat) (O : Hold W h0 m0 h m [rM (monoV0 tell_bool) (fun n : Int => Value.int .i64 n) bk_6 es_6, rR (aE (tell_row (tell_int .i64))) A_23 c_23 a_23]) (ne_0 : n_0 = List.length a_0) (k_0 : List.length a_0 ≤ c_0) (r_0 : Rd 4 T_api_Know.E m A_0 a_0) (ne_23 : n_23 = List.length a_23) (ne_29 : n_29 = List.length a_29) (k_29 : List.length a_29 ≤ c_29) (r_29 : Rd 1 (eInt .i64) m A_29 a_29), f9.l2 (cycle_Garbage.post W h0 m0 r) A_0 n_0 c_0 (Value.map (some bk_6)) A_23 n_23 c_23 x_24 x_25 A_29 n_29 c_29 x_30 x_31 h
set_option maxRecDepth 100000 in
theorem cycle_Garbage.l0_k.step_l0 (go : (p : cycle_Garbage.l0_k.Pt) → Option ((List Int) × Int)) (ih : ∀ p r, go p = some r → cycle_Garbage.l0_k.I p r) (a_0 : List T_api_Know) (es_6 : (List (Int × Bool))) (a_23 : List (List Int)) (x_24 : Int) (x_25 : Int) (r : (List Int) × Int) (e : cycle_Garbage.l0_k.body go (.l0 a_0 es_6 a_23 x_24 x_25) = some r) : cycle_Garbage.l0_k.I (.l0 a_0 es_6 a_23 x_24 x_25) r := by
  unfold cycle_Garbage.l0_k.body at e
  intro W h0 m0 h m A_0 n_0 c_0 bk_6 A_23 n_23 c_23 O ne_0 k_0 r_0 ne_23
  subst ne_0
  subst ne_23
  refine f9.l0_in ?_
  unfold f9.l0T
  refine split_dec_e e (fun c11 e => ?_) (fun c11 e => ?_)
  · obtain ⟨y1, g2, e⟩ := bind_e e
    refine (O.os 1 rfl).addr rfl g2 fun a3 cs4 ha5 hc6 he7 => ?_
    obtain ⟨Acs4_0, ccs4_0, rfl, kcs4_0, rcs4_0⟩ := id he7
    refine ⟨_, ld0 (Sub.refl _) hc6 rfl, _, _, _, rfl, ?_⟩
    exact (ih _ _ e) _ _ _ _ _ _ _ _ _ _ _ _ _ _ _ (O.pick [0, 1]).nm rfl k_0 r_0 rfl rfl kcs4_0 rcs4_0
  · have O8 := O.nil (aE (tell_int .i64)) none
    have O10 := O8.nm
    exact cycle_Garbage.l1.walk (O10.pick [0, 2]).nm rfl rfl k_0 r_0 e
set_option maxRecDepth 100000 in
theorem cycle_Garbage.l0_k.step_l2 (go : (p : cycle_Garbage.l0_k.Pt) → Option ((List Int) × Int)) (ih : ∀ p r, go p = some r → cycle_Garbage.l0_k.I p r) (a_0 : List T_api_Know) (es_6 : (List (Int × Bool))) (a_23 : List (List Int)) (x_24 : Int) (x_25 : Int) (a_29 : List Int) (x_30 : Int) (x_31 : Int) (r : (List Int) × Int) (e : cycle_Garbage.l0_k.body go (.l2 a_0 es_6 a_23 x_24 x_25 a_29 x_30 x_31) = some r) : cycle_Garbage.l0_k.I (.l2 a_0 es_6 a_23 x_24 x_25 a_29 x_30 x_31) r := by
  unfold cycle_Garbage.l0_k.body at e
  intro W h0 m0 h m A_0 n_0 c_0 bk_6 A_23 n_23 c_23 A_29 n_29 c_29 O ne_0 k_0 r_0 ne_23 ne_29 k_29 r_29
  subst ne_0
  subst ne_23
  subst ne_29
  refine f9.l2_in ?_
  unfold f9.l2T
  refine split_dec_e e (fun c13 e => ?_) (fun c13 e => ?_)
  · obtain ⟨y1, g2, e⟩ := bind_e e
    refine r_29.addr rfl g2 fun a3 cs4 ha5 hc6 he7 => ?_
    obtain rfl : cs4 = [(Value.int .i64 y1)] := he7
    refine ⟨_, ld0 O.s hc6 rfl, _, rfl, ?_⟩
    obtain ⟨l10, g11, e⟩ := bind_e e
    replace g11 := Option.some.inj g11
    refine O.mapUpd (x := true) (v := (Value.bool true)) 0 rfl (keyOk_int (key := 3) (elem := 4) (by kernel_rfl) (by kernel_rfl)) y1 (show (eV0 eBool) m true (Value.bool true) from rfl) g11 fun h8 O9 => ?_
    have O12 := O9.nm
    exact (ih _ _ e) _ _ _ _ _ _ _ _ _ _ _ _ _ _ _ (O12.pick [0, 1]).nm rfl k_0 r_0 rfl rfl k_29 r_29
  · exact (ih _ _ e) _ _ _ _ _ _ _ _ _ _ _ _ (O.pick [0, 1]).nm rfl k_0 r_0 rfl
theorem cycle_Garbage.l0_k.all {p : cycle_Garbage.l0_k.Pt} {r : ((List Int) × Int)} (e : cycle_Garbage.l0_k.go p = some r) : cycle_Garbage.l0_k.I p r := fixF_ind (β := fun _ => ((List Int) × Int)) cycle_Garbage.l0_k.mono (I := cycle_Garbage.l0_k.I) (fun go ih p r e => match p with
  | .l0 a_0 es_6 a_23 x_24 x_25 => cycle_Garbage.l0_k.step_l0 go ih a_0 es_6 a_23 x_24 x_25 r e
  | .l2 a_0 es_6 a_23 x_24 x_25 a_29 x_30 x_31 => cycle_Garbage.l0_k.step_l2 go ih a_0 es_6 a_23 x_24 x_25 a_29 x_30 x_31 r e
  ) e
theorem cycle_Garbage.l0.walk {W : Nat → Prop} {h0 m0 h m : Heap} {A_0 : Option Addr} {n_0 c_0 : Nat} {bk_6 : Nat} {A_23 : Option Addr} {n_23 c_23 : Nat} {a_0 : List T_api_Know} {es_6 : (List (Int × Bool))} {a_23 : List (List Int)} {x_24 : Int} {x_25 : Int} (O : Hold W h0 m0 h m [rM (monoV0 tell_bool) (fun n : Int => Value.int .i64 n) bk_6 es_6, rR (aE (tell_row (tell_int .i64))) A_23 c_23 a_23]) (ne_0 : n_0 = List.length a_0) (k_0 : List.length a_0 ≤ c_0) (r_0 : Rd 4 T_api_Know.E m A_0 a_0) (ne_23 : n_23 = List.length a_23) {r : (List Int) × Int} (e : cycle_Garbage.l0 a_0 es_6 a_23 x_24 x_25 = some r) : f9.l0 (cycle_Garbage.post W h0 m0 r) A_0 n_0 c_0 (Value.map (some bk_6)) A_23 n_23 c_23 x_24 x_25 h := cycle_Garbage.l0_k.all (p := .l0 a_0 es_6 a_23 x_24 x_25) e W h0 m0 h m A_0 n_0 c_0 bk_6 A_23 n_23 c_23 O ne_0 k_0 r_0 ne_23
noncomputable def cycle_Garbage (a_0 : List T_api_Know) : Option ((List Int) × Int) :=
  Option.bind (cycle_Passes a_0) fun y1 => if y1.2 = (0 : Int) then ((cycle_Garbage.l0 a_0 ([] : (List (Int × Bool))) y1.1 (((List.length y1.1) : Nat) : Int) (0 : Int))) else (some (([] : List Int), y1.2))
set_option maxRecDepth 100000 in
theorem cycle_Garbage.walk {W : Nat → Prop} {h m : Heap} {A_0 : Option Addr} {n_0 c_0 : Nat} {a_0 : List T_api_Know} (O : Hold W h m h m []) (ne_0 : n_0 = List.length a_0) (k_0 : List.length a_0 ≤ c_0) (r_0 : Rd 4 T_api_Know.E m A_0 a_0) {r : (List Int) × Int} (e : cycle_Garbage a_0 = some r) : Run Try.prog 9 #[Value.slice A_0 n_0 c_0] h (cycle_Garbage.post W h m r) := by
  unfold cycle_Garbage at e
  subst ne_0
  refine f9.run ?_
  unfold f9.runT
  obtain ⟨y1, g2, e⟩ := bind_e e
  refine (cycle_Passes.walk (Hold.start (W := No) O.s) rfl k_0 r_0 g2).mono ?_
  rintro _ h3 ⟨m4, A7, n8, c9, Q5, rfl, ne10⟩
  have O12 := Hold.nm (O.ret Q5)
  subst ne10
  refine ⟨_, _, _, _, rfl, ?_⟩
  refine split_ne_e e (fun c21 e => ?_) (fun c21 e => ?_)
  · have O13 := O12.nil (aE (tell_int .i64)) none
    have O15 := O13.nm
    cases e
    exact ⟨_, _, _, _, O15.pick [1], rfl, rfl⟩
  · refine O12.mkMap (ν := Bool) (monoV0 tell_bool) (fun n : Int => Value.int .i64 n) fun h16 x17 O18 => ?_
    have O20 := O18.nm
    exact cycle_Garbage.l0.walk (O20.pick [1, 0]).nm rfl k_0 (r_0.sub T_api_Know.T Q5.S.up) rfl e
def slices_Equal_10.post (W : Nat → Prop) (h0 m0 : Heap) (r : Bool) (v : Value) (h : Heap) : Prop := ∃ m , Hold W h0 m0 h m [] ∧ v = .bool r
inductive slices_Equal_10.l0_k.Pt where
  | l0 (a_0 : List Int) (a_1 : List Int) (x_12 : Int) (x_13 : Int)
noncomputable def slices_Equal_10.l0_k.body (go : (p : slices_Equal_10.l0_k.Pt) → Option (Bool)) : (p : slices_Equal_10.l0_k.Pt) → Option (Bool)
  | .l0 a_0 a_1 x_12 x_13 => if x_13 < x_12 then (Option.bind (gi a_0 x_13) fun y1 => Option.bind (gi a_1 x_13) fun y8 => if y1 = y8 then ((go (.l0 a_0 a_1 x_12 (IntKind.wrap .i64 (x_13 + (1 : Int)))))) else (some (false))) else (some (true))
theorem slices_Equal_10.l0_k.mono : MonoF (β := fun _ => (Bool)) slices_Equal_10.l0_k.body := fun f g hfg p => match p with
  | .l0 a_0 a_1 x_12 x_13 => LeO.ite (LeO.bind (LeO.refl _) fun y1 => LeO.bind (LeO.refl _) fun y8 => LeO.ite ((hfg _)) (LeO.refl _)) (LeO.refl _)
noncomputable def slices_Equal_10.l0_k.go (p : slices_Equal_10.l0_k.Pt) : Option (Bool) := fixF (β := fun _ => (Bool)) slices_Equal_10.l0_k.body p
noncomputable def slices_Equal_10.l0 (a_0 : List Int) (a_1 : List Int) (x_12 : Int) (x_13 : Int) : Option (Bool) := slices_Equal_10.l0_k.go (.l0 a_0 a_1 x_12 x_13)
theorem slices_Equal_10.l0_eq (a_0 : List Int) (a_1 : List Int) (x_12 : Int) (x_13 : Int) : slices_Equal_10.l0 a_0 a_1 x_12 x_13 = if x_13 < x_12 then (Option.bind (gi a_0 x_13) fun y1 => Option.bind (gi a_1 x_13) fun y8 => if y1 = y8 then ((slices_Equal_10.l0 a_0 a_1 x_12 (IntKind.wrap .i64 (x_13 + (1 : Int))))) else (some (false))) else (some (true)) := fixF_eq slices_Equal_10.l0_k.mono _
def slices_Equal_10.l0_k.I : (p : slices_Equal_10.l0_k.Pt) → (Bool) → Prop
  | .l0 a_0 a_1 x_12 x_13, r => ∀ (W : Nat → Prop) (h0 m0 h m : Heap) (A_0 : Option Addr) (n_0 c_0 : Nat) (A_1 : Option Addr) (n_1 c_1 : Nat) (O : Hold W h0 m0 h m []) (ne_0 : n_0 = List.length a_0) (k_0 : List.length a_0 ≤ c_0) (r_0 : Rd 1 (eInt .i64) m A_0 a_0) (ne_1 : n_1 = List.length a_1) (k_1 : List.length a_1 ≤ c_1) (r_1 : Rd 1 (eInt .i64) m A_1 a_1), f10.l0 (slices_Equal_10.post W h0 m0 r) A_0 n_0 c_0 A_1 n_1 c_1 x_12 x_13 h
set_option maxRecDepth 100000 in
theorem slices_Equal_10.l0_k.step_l0 (go : (p : slices_Equal_10.l0_k.Pt) → Option (Bool)) (ih : ∀ p r, go p = some r → slices_Equal_10.l0_k.I p r) (a_0 : List Int) (a_1 : List Int) (x_12 : Int) (x_13 : Int) (r : Bool) (e : slices_Equal_10.l0_k.body go (.l0 a_0 a_1 x_12 x_13) = some r) : slices_Equal_10.l0_k.I (.l0 a_0 a_1 x_12 x_13) r := by
  unfold slices_Equal_10.l0_k.body at e
  intro W h0 m0 h m A_0 n_0 c_0 A_1 n_1 c_1 O ne_0 k_0 r_0 ne_1 k_1 r_1
  subst ne_0
  subst ne_1
  refine f10.l0_in ?_
  unfold f10.l0T
  refine split_dec_e e (fun c16 e => ?_) (fun c16 e => ?_)
  · obtain ⟨y1, g2, e⟩ := bind_e e
    refine r_0.addr rfl g2 fun a3 cs4 ha5 hc6 he7 => ?_
    obtain rfl : cs4 = [(Value.int .i64 y1)] := he7
    obtain ⟨y8, g9, e⟩ := bind_e e
    refine r_1.addr rfl g9 fun a10 cs11 ha12 hc13 he14 => ?_
    obtain rfl : cs11 = [(Value.int .i64 y8)] := he14
    refine ⟨_, ld0 O.s hc6 rfl, _, rfl, ?_⟩
    refine ⟨_, ld0 O.s hc13 rfl, _, rfl, ?_⟩
    refine split_ne_e e (fun c15 e => ?_) (fun c15 e => ?_)
    · cases e
      exact ⟨_, O.pick [], rfl⟩
    · exact (ih _ _ e) _ _ _ _ _ _ _ _ _ _ _ (O.pick []).nm rfl k_0 r_0 rfl k_1 r_1
  · cases e
    exact ⟨_, O.pick [], rfl⟩
theorem slices_Equal_10.l0_k.all {p : slices_Equal_10.l0_k.Pt} {r : (Bool)} (e : slices_Equal_10.l0_k.go p = some r) : slices_Equal_10.l0_k.I p r := fixF_ind (β := fun _ => (Bool)) slices_Equal_10.l0_k.mono (I := slices_Equal_10.l0_k.I) (fun go ih p r e => match p with
  | .l0 a_0 a_1 x_12 x_13 => slices_Equal_10.l0_k.step_l0 go ih a_0 a_1 x_12 x_13 r e
  ) e
theorem slices_Equal_10.l0.walk {W : Nat → Prop} {h0 m0 h m : Heap} {A_0 : Option Addr} {n_0 c_0 : Nat} {A_1 : Option Addr} {n_1 c_1 : Nat} {a_0 : List Int} {a_1 : List Int} {x_12 : Int} {x_13 : Int} (O : Hold W h0 m0 h m []) (ne_0 : n_0 = List.length a_0) (k_0 : List.length a_0 ≤ c_0) (r_0 : Rd 1 (eInt .i64) m A_0 a_0) (ne_1 : n_1 = List.length a_1) (k_1 : List.length a_1 ≤ c_1) (r_1 : Rd 1 (eInt .i64) m A_1 a_1) {r : Bool} (e : slices_Equal_10.l0 a_0 a_1 x_12 x_13 = some r) : f10.l0 (slices_Equal_10.post W h0 m0 r) A_0 n_0 c_0 A_1 n_1 c_1 x_12 x_13 h := slices_Equal_10.l0_k.all (p := .l0 a_0 a_1 x_12 x_13) e W h0 m0 h m A_0 n_0 c_0 A_1 n_1 c_1 O ne_0 k_0 r_0 ne_1 k_1 r_1
noncomputable def slices_Equal_10 (a_0 : List Int) (a_1 : List Int) : Option (Bool) :=
  if (((List.length a_0) : Nat) : Int) = (((List.length a_1) : Nat) : Int) then ((slices_Equal_10.l0 a_0 a_1 (((List.length a_0) : Nat) : Int) (0 : Int))) else (some (false))
set_option maxRecDepth 100000 in
theorem slices_Equal_10.walk {W : Nat → Prop} {h m : Heap} {A_0 : Option Addr} {n_0 c_0 : Nat} {A_1 : Option Addr} {n_1 c_1 : Nat} {a_0 : List Int} {a_1 : List Int} (O : Hold W h m h m []) (ne_0 : n_0 = List.length a_0) (k_0 : List.length a_0 ≤ c_0) (r_0 : Rd 1 (eInt .i64) m A_0 a_0) (ne_1 : n_1 = List.length a_1) (k_1 : List.length a_1 ≤ c_1) (r_1 : Rd 1 (eInt .i64) m A_1 a_1) {r : Bool} (e : slices_Equal_10 a_0 a_1 = some r) : Run Try.prog 10 #[Value.slice A_0 n_0 c_0, Value.slice A_1 n_1 c_1] h (slices_Equal_10.post W h m r) := by
  unfold slices_Equal_10 at e
  subst ne_0
  subst ne_1
  refine f10.run ?_
  unfold f10.runT
  refine split_ne_e e (fun c1 e => ?_) (fun c1 e => ?_)
  · cases e
    exact ⟨_, O.pick [], rfl⟩
  · exact slices_Equal_10.l0.walk (O.pick []).nm rfl k_0 r_0 rfl k_1 r_1 e
theorem slices_Equal_10.val (l m : List Int) (hl : l.length ≤ 4611686018427387904) : ∃ b, slices_Equal_10 l m = some b ∧ (b = true ↔ l = m) := equal_val (R := fun x y => x = y) (fun a b n i => slices_Equal_10.l0_eq a b n i) (fun _ _ => rfl) (fun _ _ => Iff.rfl) l m hl
def slices_IndexFunc_21.post (W : Nat → Prop) (h0 m0 : Heap) (r : Int) (v : Value) (h : Heap) : Prop := ∃ m , Hold W h0 m0 h m [] ∧ v = .int .i64 r
inductive slices_IndexFunc_21.l0_k.Pt where
  | l0 (a_0 : List T_api_Know) (p_1 : T_api_Know → Option Bool) (x_7 : Int) (x_8 : Int)
noncomputable def slices_IndexFunc_21.l0_k.body (go : (p : slices_IndexFunc_21.l0_k.Pt) → Option (Int)) : (p : slices_IndexFunc_21.l0_k.Pt) → Option (Int)
  | .l0 a_0 p_1 x_7 x_8 => if x_8 < x_7 then (Option.bind (gi a_0 x_8) fun y1 => Option.bind (p_1 y1) fun y8 => if y8 = true then (some (x_8)) else ((go (.l0 a_0 p_1 x_7 (IntKind.wrap .i64 (x_8 + (1 : Int))))))) else (some ((-1 : Int)))
theorem slices_IndexFunc_21.l0_k.mono : MonoF (β := fun _ => (Int)) slices_IndexFunc_21.l0_k.body := fun f g hfg p => match p with
  | .l0 a_0 p_1 x_7 x_8 => LeO.ite (LeO.bind (LeO.refl _) fun y1 => LeO.bind (LeO.refl _) fun y8 => LeO.ite (LeO.refl _) ((hfg _))) (LeO.refl _)
noncomputable def slices_IndexFunc_21.l0_k.go (p : slices_IndexFunc_21.l0_k.Pt) : Option (Int) := fixF (β := fun _ => (Int)) slices_IndexFunc_21.l0_k.body p
noncomputable def slices_IndexFunc_21.l0 (a_0 : List T_api_Know) (p_1 : T_api_Know → Option Bool) (x_7 : Int) (x_8 : Int) : Option (Int) := slices_IndexFunc_21.l0_k.go (.l0 a_0 p_1 x_7 x_8)
theorem slices_IndexFunc_21.l0_eq (a_0 : List T_api_Know) (p_1 : T_api_Know → Option Bool) (x_7 : Int) (x_8 : Int) : slices_IndexFunc_21.l0 a_0 p_1 x_7 x_8 = if x_8 < x_7 then (Option.bind (gi a_0 x_8) fun y1 => Option.bind (p_1 y1) fun y8 => if y8 = true then (some (x_8)) else ((slices_IndexFunc_21.l0 a_0 p_1 x_7 (IntKind.wrap .i64 (x_8 + (1 : Int)))))) else (some ((-1 : Int))) := fixF_eq slices_IndexFunc_21.l0_k.mono _
def slices_IndexFunc_21.l0_k.I : (p : slices_IndexFunc_21.l0_k.Pt) → (Int) → Prop
  | .l0 a_0 p_1 x_7 x_8, r => ∀ (W : Nat → Prop) (h0 m0 h m : Heap) (A_0 : Option Addr) (n_0 c_0 : Nat) (fv_1 : Value) (O : Hold W h0 m0 h m []) (ne_0 : n_0 = List.length a_0) (k_0 : List.length a_0 ≤ c_0) (r_0 : Rd 4 T_api_Know.E m A_0 a_0) (f_1 : ∀ h' m', Sub m0 m' → Sub m' h' → ∀ (y0 : T_api_Know) (cs0 : List Value) (_ : T_api_Know.E m' y0 cs0) (r : Bool), p_1 y0 = some r → CallF Try.prog fv_1 [.agg cs0.toArray] h' (fun v h'' => v = .bool r ∧ Ext h' h'')), f21.l0 (slices_IndexFunc_21.post W h0 m0 r) A_0 n_0 c_0 fv_1 x_7 x_8 h
set_option maxRecDepth 100000 in
theorem slices_IndexFunc_21.l0_k.step_l0 (go : (p : slices_IndexFunc_21.l0_k.Pt) → Option (Int)) (ih : ∀ p r, go p = some r → slices_IndexFunc_21.l0_k.I p r) (a_0 : List T_api_Know) (p_1 : T_api_Know → Option Bool) (x_7 : Int) (x_8 : Int) (r : Int) (e : slices_IndexFunc_21.l0_k.body go (.l0 a_0 p_1 x_7 x_8) = some r) : slices_IndexFunc_21.l0_k.I (.l0 a_0 p_1 x_7 x_8) r := by
  unfold slices_IndexFunc_21.l0_k.body at e
  intro W h0 m0 h m A_0 n_0 c_0 fv_1 O ne_0 k_0 r_0 f_1
  subst ne_0
  refine f21.l0_in ?_
  unfold f21.l0T
  refine split_dec_e e (fun c14 e => ?_) (fun c14 e => ?_)
  · obtain ⟨y1, g2, e⟩ := bind_e e
    refine r_0.addr rfl g2 fun a3 cs4 ha5 hc6 he7 => ?_
    refine ⟨_, ldAn O.s hc6 rfl, ?_⟩
    obtain ⟨y8, g9, e⟩ := bind_e e
    refine CallF.mono (f_1 _ _ O.up O.s _ _ he7 _ g9) ?_
    rintro _ h10 ⟨rfl, x11⟩
    have O12 := O.ext x11
    refine ⟨_, rfl, ?_⟩
    refine split_any_e e (fun c13 e => ?_) (fun c13 e => ?_)
    · cases e
      exact ⟨_, O12.pick [], rfl⟩
    · exact (ih _ _ e) _ _ _ _ _ _ _ _ _ (O12.pick []).nm rfl k_0 r_0 f_1
  · cases e
    exact ⟨_, O.pick [], rfl⟩
theorem slices_IndexFunc_21.l0_k.all {p : slices_IndexFunc_21.l0_k.Pt} {r : (Int)} (e : slices_IndexFunc_21.l0_k.go p = some r) : slices_IndexFunc_21.l0_k.I p r := fixF_ind (β := fun _ => (Int)) slices_IndexFunc_21.l0_k.mono (I := slices_IndexFunc_21.l0_k.I) (fun go ih p r e => match p with
  | .l0 a_0 p_1 x_7 x_8 => slices_IndexFunc_21.l0_k.step_l0 go ih a_0 p_1 x_7 x_8 r e
  ) e
theorem slices_IndexFunc_21.l0.walk {W : Nat → Prop} {h0 m0 h m : Heap} {A_0 : Option Addr} {n_0 c_0 : Nat} {fv_1 : Value} {a_0 : List T_api_Know} {p_1 : T_api_Know → Option Bool} {x_7 : Int} {x_8 : Int} (O : Hold W h0 m0 h m []) (ne_0 : n_0 = List.length a_0) (k_0 : List.length a_0 ≤ c_0) (r_0 : Rd 4 T_api_Know.E m A_0 a_0) (f_1 : ∀ h' m', Sub m0 m' → Sub m' h' → ∀ (y0 : T_api_Know) (cs0 : List Value) (_ : T_api_Know.E m' y0 cs0) (r : Bool), p_1 y0 = some r → CallF Try.prog fv_1 [.agg cs0.toArray] h' (fun v h'' => v = .bool r ∧ Ext h' h'')) {r : Int} (e : slices_IndexFunc_21.l0 a_0 p_1 x_7 x_8 = some r) : f21.l0 (slices_IndexFunc_21.post W h0 m0 r) A_0 n_0 c_0 fv_1 x_7 x_8 h := slices_IndexFunc_21.l0_k.all (p := .l0 a_0 p_1 x_7 x_8) e W h0 m0 h m A_0 n_0 c_0 fv_1 O ne_0 k_0 r_0 f_1
noncomputable def slices_IndexFunc_21 (a_0 : List T_api_Know) (p_1 : T_api_Know → Option Bool) : Option (Int) :=
  (slices_IndexFunc_21.l0 a_0 p_1 (((List.length a_0) : Nat) : Int) (0 : Int))
set_option maxRecDepth 100000 in
theorem slices_IndexFunc_21.walk {W : Nat → Prop} {h m : Heap} {A_0 : Option Addr} {n_0 c_0 : Nat} {fv_1 : Value} {a_0 : List T_api_Know} {p_1 : T_api_Know → Option Bool} (O : Hold W h m h m []) (ne_0 : n_0 = List.length a_0) (k_0 : List.length a_0 ≤ c_0) (r_0 : Rd 4 T_api_Know.E m A_0 a_0) (f_1 : ∀ h' m', Sub m m' → Sub m' h' → ∀ (y0 : T_api_Know) (cs0 : List Value) (_ : T_api_Know.E m' y0 cs0) (r : Bool), p_1 y0 = some r → CallF Try.prog fv_1 [.agg cs0.toArray] h' (fun v h'' => v = .bool r ∧ Ext h' h'')) {r : Int} (e : slices_IndexFunc_21 a_0 p_1 = some r) : Run Try.prog 21 #[Value.slice A_0 n_0 c_0, fv_1] h (slices_IndexFunc_21.post W h m r) := by
  unfold slices_IndexFunc_21 at e
  subst ne_0
  refine f21.run ?_
  unfold f21.runT
  exact slices_IndexFunc_21.l0.walk (O.pick []).nm rfl k_0 r_0 f_1 e
def slices_ContainsFunc_25.post (W : Nat → Prop) (h0 m0 : Heap) (r : Bool) (v : Value) (h : Heap) : Prop := ∃ m , Hold W h0 m0 h m [] ∧ v = .bool r
noncomputable def slices_ContainsFunc_25 (a_0 : List T_api_Know) (p_1 : T_api_Know → Option Bool) : Option (Bool) :=
  Option.bind (slices_IndexFunc_21 a_0 p_1) fun y1 => some ((decide (y1 ≥ (0 : Int))))
set_option maxRecDepth 100000 in
theorem slices_ContainsFunc_25.walk {W : Nat → Prop} {h m : Heap} {A_0 : Option Addr} {n_0 c_0 : Nat} {fv_1 : Value} {a_0 : List T_api_Know} {p_1 : T_api_Know → Option Bool} (O : Hold W h m h m []) (ne_0 : n_0 = List.length a_0) (k_0 : List.length a_0 ≤ c_0) (r_0 : Rd 4 T_api_Know.E m A_0 a_0) (f_1 : ∀ h' m', Sub m m' → Sub m' h' → ∀ (y0 : T_api_Know) (cs0 : List Value) (_ : T_api_Know.E m' y0 cs0) (r : Bool), p_1 y0 = some r → CallF Try.prog fv_1 [.agg cs0.toArray] h' (fun v h'' => v = .bool r ∧ Ext h' h'')) {r : Bool} (e : slices_ContainsFunc_25 a_0 p_1 = some r) : Run Try.prog 25 #[Value.slice A_0 n_0 c_0, fv_1] h (slices_ContainsFunc_25.post W h m r) := by
  unfold slices_ContainsFunc_25 at e
  subst ne_0
  refine f25.run ?_
  unfold f25.runT
  obtain ⟨y1, g2, e⟩ := bind_e e
  refine (slices_IndexFunc_21.walk (Hold.start (W := No) O.s) rfl k_0 r_0 f_1 g2).mono ?_
  rintro _ h3 ⟨m4, Q5, rfl⟩
  have O7 := Hold.nm (O.retC Q5 vfs_nil)
  refine ⟨_, rfl, ?_⟩
  cases e
  exact ⟨_, O7.pick [], rfl⟩
theorem slices_ContainsFunc_25.val {l : List T_api_Know} {p : T_api_Know → Option Bool} (q : T_api_Know → Bool) (hp : ∀ x ∈ l, p x = some (q x)) (hl : l.length ≤ 4611686018427387904) : slices_ContainsFunc_25 l p = some (l.any q) := findB_val (fun a p n i => slices_IndexFunc_21.l0_eq a p n i) (fun _ _ => rfl) (fun _ _ => rfl) q hp hl
def roadref4_Knows_1.post (W : Nat → Prop) (h0 m0 : Heap) (r : Bool) (v : Value) (h : Heap) : Prop := ∃ m , Hold W h0 m0 h m [] ∧ v = .bool r
noncomputable def roadref4_Knows_1 (y_0 : T_api_Know) (y_1 : T_api_Know) : Option (Bool) :=
  some ((y_0.Ref == y_1.Ref))
set_option maxRecDepth 100000 in
theorem roadref4_Knows_1.walk {W : Nat → Prop} {h m : Heap} {cs_0 : List Value} {bk_1 : Nat} {y_0 : T_api_Know} {y_1 : T_api_Know} (O : Hold W h m h m []) (e_0 : T_api_Know.E m y_0 cs_0) (v_1 : VB T_api_Know.E m bk_1 y_1) {r : Bool} (e : roadref4_Knows_1 y_0 y_1 = some r) : Run Try.prog 77 #[Value.agg cs_0.toArray, Value.pointer (some ⟨bk_1, 0, none⟩)] h (roadref4_Knows_1.post W h m r) := by
  unfold roadref4_Knows_1 at e
  obtain ⟨cs_1, t_1, hb_1, nn_1, e_1⟩ := id v_1
  refine f77.run ?_
  unfold f77.runT
  refine O.new fun h1 x2 O3 => ?_
  refine ⟨_, ld0 (Sub.refl _) (O3.all 0 rfl) (T_api_Know.g0 e_0), _, rfl, ?_⟩
  refine ⟨_, ld0 O3.s (Blk.all' hb_1) (T_api_Know.g0 e_1), _, rfl, ?_⟩
  have O5 := O3.nm
  cases e
  exact ⟨_, O5.pick [], rfl⟩
def roadref4_Knows.post (W : Nat → Prop) (h0 m0 : Heap) (r : Int) (v : Value) (h : Heap) : Prop := ∃ m , Hold W h0 m0 h m [] ∧ v = .int .i64 r
inductive roadref4_Knows.l0_k.Pt where
  | l0 (a_0 : List T_api_Know) (a_8 : List T_api_Know) (x_9 : Int) (x_10 : Int)
noncomputable def roadref4_Knows.l0_k.body (go : (p : roadref4_Knows.l0_k.Pt) → Option (Int)) : (p : roadref4_Knows.l0_k.Pt) → Option (Int)
  | .l0 a_0 a_8 x_9 x_10 => if x_10 < x_9 then (Option.bind (gi a_8 x_10) fun y1 => Option.bind (sls a_0 (0 : Int) x_10) fun l14 => Option.bind (slices_ContainsFunc_25 l14 (fun z32 => roadref4_Knows_1 z32 y1)) fun y19 => if y19 = true then (some ((5 : Int))) else ((go (.l0 a_0 a_8 x_9 (IntKind.wrap .i64 (x_10 + (1 : Int))))))) else (some ((0 : Int)))
attribute [local irreducible] roadref4_Knows_1 in
theorem roadref4_Knows.l0_k.mono : MonoF (β := fun _ => (Int)) roadref4_Knows.l0_k.body := fun f g hfg p => match p with
  | .l0 a_0 a_8 x_9 x_10 => LeO.ite (LeO.bind (LeO.refl _) fun y1 => LeO.bind (LeO.refl _) fun l14 => LeO.bind (LeO.refl _) fun y19 => LeO.ite (LeO.refl _) ((hfg _))) (LeO.refl _)
noncomputable def roadref4_Knows.l0_k.go (p : roadref4_Knows.l0_k.Pt) : Option (Int) := fixF (β := fun _ => (Int)) roadref4_Knows.l0_k.body p
noncomputable def roadref4_Knows.l0 (a_0 : List T_api_Know) (a_8 : List T_api_Know) (x_9 : Int) (x_10 : Int) : Option (Int) := roadref4_Knows.l0_k.go (.l0 a_0 a_8 x_9 x_10)
theorem roadref4_Knows.l0_eq (a_0 : List T_api_Know) (a_8 : List T_api_Know) (x_9 : Int) (x_10 : Int) : roadref4_Knows.l0 a_0 a_8 x_9 x_10 = if x_10 < x_9 then (Option.bind (gi a_8 x_10) fun y1 => Option.bind (sls a_0 (0 : Int) x_10) fun l14 => Option.bind (slices_ContainsFunc_25 l14 (fun z32 => roadref4_Knows_1 z32 y1)) fun y19 => if y19 = true then (some ((5 : Int))) else ((roadref4_Knows.l0 a_0 a_8 x_9 (IntKind.wrap .i64 (x_10 + (1 : Int)))))) else (some ((0 : Int))) := fixF_eq roadref4_Knows.l0_k.mono _
def roadref4_Knows.l0_k.I : (p : roadref4_Knows.l0_k.Pt) → (Int) → Prop
  | .l0 a_0 a_8 x_9 x_10, r => ∀ (W : Nat → Prop) (h0 m0 h m : Heap) (A_0 : Option Addr) (n_0 c_0 : Nat) (A_8 : Option Addr) (n_8 c_8 : Nat) (O : Hold W h0 m0 h m []) (ne_0 : n_0 = List.length a_0) (k_0 : List.length a_0 ≤ c_0) (r_0 : Rd 4 T_api_Know.E m A_0 a_0) (ne_8 : n_8 = List.length a_8) (k_8 : List.length a_8 ≤ c_8) (r_8 : Rd 4 T_api_Know.E m A_8 a_8), f12.l0 (roadref4_Knows.post W h0 m0 r) A_0 n_0 c_0 A_8 n_8 c_8 x_9 x_10 h
set_option maxRecDepth 100000 in
theorem roadref4_Knows.l0_k.step_l0 (go : (p : roadref4_Knows.l0_k.Pt) → Option (Int)) (ih : ∀ p r, go p = some r → roadref4_Knows.l0_k.I p r) (a_0 : List T_api_Know) (a_8 : List T_api_Know) (x_9 : Int) (x_10 : Int) (r : Int) (e : roadref4_Knows.l0_k.body go (.l0 a_0 a_8 x_9 x_10) = some r) : roadref4_Knows.l0_k.I (.l0 a_0 a_8 x_9 x_10) r := by
  unfold roadref4_Knows.l0_k.body at e
  intro W h0 m0 h m A_0 n_0 c_0 A_8 n_8 c_8 O ne_0 k_0 r_0 ne_8 k_8 r_8
  subst ne_0
  subst ne_8
  refine f12.l0_in ?_
  unfold f12.l0T
  refine split_dec_e e (fun c42 e => ?_) (fun c42 e => ?_)
  · obtain ⟨y1, g2, e⟩ := bind_e e
    refine r_8.addr rfl g2 fun a3 cs4 ha5 hc6 he7 => ?_
    refine ⟨_, ldAn O.s hc6 rfl, ?_⟩
    refine O.new fun h8 x9 O10 => ?_
    refine ⟨_, rfl, (T_api_Know.T.len _ _ _ he7), ?_⟩
    refine O10.stA 0 rfl (T_api_Know.T.len _ _ _ he7) (T_api_Know.T.flat _ _ _ he7) fun h12 O13 => ?_
    obtain ⟨l14, g15, e⟩ := bind_e e
    have q16 := sls_e g15
    refine ⟨q16.1, q16.2.1, cap_in q16.2.2.1 k_0, ?_⟩
    try rw [q16.2.2.2.1]
    have k17 : List.length l14 ≤ (c_0 - Int.toNat (0 : Int)) := sls_cap g15 k_0
    have r18 := r_0.sls g15 (le_mx q16.2.2.1 k_0)
    obtain ⟨y19, g20, e⟩ := bind_e e
    have O25 := O13.nm
    obtain ⟨m26, u27, s31, ⟨hb30, _⟩, B28, C29⟩ := O25.lend0 [0]
    refine (slices_ContainsFunc_25.walk (Hold.start (W := No) s31) rfl k17 (r18.sub T_api_Know.T u27) (fun h33 m34 u35 s36 y39 cs39 he39 r37 e38 => CallF.of [Value.agg cs39.toArray, Value.pointer (some ⟨(Array.size h), 0, none⟩)] f77.ok rfl ((roadref4_Knows_1.walk (Hold.start (W := No) s36) he39 (VB.sub (show VB T_api_Know.E _ _ _ from ⟨_, _, hb30, nn_len (T_api_Know.T.len _ _ _ he7), (T_api_Know.T.mono _ _ _ _ u27 he7)⟩) T_api_Know.T u35) e38).mono (fun _ _ h => let ⟨_, t, e⟩ := h; ⟨e, t.S.ext⟩))) g20).mono ?_
    rintro _ h21 ⟨m22, Q23, rfl⟩
    have O40 := Hold.nm (C29 Q23 vfs_nil)
    refine ⟨_, rfl, ?_⟩
    refine split_any_e e (fun c41 e => ?_) (fun c41 e => ?_)
    · cases e
      exact ⟨_, O40.pick [], rfl⟩
    · exact (ih _ _ e) _ _ _ _ _ _ _ _ _ _ _ (O40.pick []).nm rfl k_0 r_0 rfl k_8 r_8
  · cases e
    exact ⟨_, O.pick [], rfl⟩
theorem roadref4_Knows.l0_k.all {p : roadref4_Knows.l0_k.Pt} {r : (Int)} (e : roadref4_Knows.l0_k.go p = some r) : roadref4_Knows.l0_k.I p r := fixF_ind (β := fun _ => (Int)) roadref4_Knows.l0_k.mono (I := roadref4_Knows.l0_k.I) (fun go ih p r e => match p with
  | .l0 a_0 a_8 x_9 x_10 => roadref4_Knows.l0_k.step_l0 go ih a_0 a_8 x_9 x_10 r e
  ) e
theorem roadref4_Knows.l0.walk {W : Nat → Prop} {h0 m0 h m : Heap} {A_0 : Option Addr} {n_0 c_0 : Nat} {A_8 : Option Addr} {n_8 c_8 : Nat} {a_0 : List T_api_Know} {a_8 : List T_api_Know} {x_9 : Int} {x_10 : Int} (O : Hold W h0 m0 h m []) (ne_0 : n_0 = List.length a_0) (k_0 : List.length a_0 ≤ c_0) (r_0 : Rd 4 T_api_Know.E m A_0 a_0) (ne_8 : n_8 = List.length a_8) (k_8 : List.length a_8 ≤ c_8) (r_8 : Rd 4 T_api_Know.E m A_8 a_8) {r : Int} (e : roadref4_Knows.l0 a_0 a_8 x_9 x_10 = some r) : f12.l0 (roadref4_Knows.post W h0 m0 r) A_0 n_0 c_0 A_8 n_8 c_8 x_9 x_10 h := roadref4_Knows.l0_k.all (p := .l0 a_0 a_8 x_9 x_10) e W h0 m0 h m A_0 n_0 c_0 A_8 n_8 c_8 O ne_0 k_0 r_0 ne_8 k_8 r_8
noncomputable def roadref4_Knows (a_0 : List T_api_Know) : Option (Int) :=
  if (((List.length a_0) : Nat) : Int) > (480 : Int) then (some ((2 : Int))) else ((roadref4_Knows.l0 a_0 a_0 (((List.length a_0) : Nat) : Int) (0 : Int)))
set_option maxRecDepth 100000 in
theorem roadref4_Knows.walk {W : Nat → Prop} {h m : Heap} {A_0 : Option Addr} {n_0 c_0 : Nat} {a_0 : List T_api_Know} (O : Hold W h m h m []) (ne_0 : n_0 = List.length a_0) (k_0 : List.length a_0 ≤ c_0) (r_0 : Rd 4 T_api_Know.E m A_0 a_0) {r : Int} (e : roadref4_Knows a_0 = some r) : Run Try.prog 12 #[Value.slice A_0 n_0 c_0] h (roadref4_Knows.post W h m r) := by
  unfold roadref4_Knows at e
  subst ne_0
  refine f12.run ?_
  unfold f12.runT
  refine split_dec_e e (fun c1 e => ?_) (fun c1 e => ?_)
  · cases e
    exact ⟨_, O.pick [], rfl⟩
  · exact roadref4_Knows.l0.walk (O.pick []).nm rfl k_0 r_0 rfl k_0 r_0 e
def slices_Index_82.post (W : Nat → Prop) (h0 m0 : Heap) (r : Int) (v : Value) (h : Heap) : Prop := ∃ m , Hold W h0 m0 h m [] ∧ v = .int .i64 r
inductive slices_Index_82.l0_k.Pt where
  | l0 (a_0 : List Int) (x_1 : Int) (x_7 : Int) (x_8 : Int)
noncomputable def slices_Index_82.l0_k.body (go : (p : slices_Index_82.l0_k.Pt) → Option (Int)) : (p : slices_Index_82.l0_k.Pt) → Option (Int)
  | .l0 a_0 x_1 x_7 x_8 => if x_8 < x_7 then (Option.bind (gi a_0 x_8) fun y1 => if x_1 = y1 then (some (x_8)) else ((go (.l0 a_0 x_1 x_7 (IntKind.wrap .i64 (x_8 + (1 : Int))))))) else (some ((-1 : Int)))
theorem slices_Index_82.l0_k.mono : MonoF (β := fun _ => (Int)) slices_Index_82.l0_k.body := fun f g hfg p => match p with
  | .l0 a_0 x_1 x_7 x_8 => LeO.ite (LeO.bind (LeO.refl _) fun y1 => LeO.ite (LeO.refl _) ((hfg _))) (LeO.refl _)
noncomputable def slices_Index_82.l0_k.go (p : slices_Index_82.l0_k.Pt) : Option (Int) := fixF (β := fun _ => (Int)) slices_Index_82.l0_k.body p
noncomputable def slices_Index_82.l0 (a_0 : List Int) (x_1 : Int) (x_7 : Int) (x_8 : Int) : Option (Int) := slices_Index_82.l0_k.go (.l0 a_0 x_1 x_7 x_8)
theorem slices_Index_82.l0_eq (a_0 : List Int) (x_1 : Int) (x_7 : Int) (x_8 : Int) : slices_Index_82.l0 a_0 x_1 x_7 x_8 = if x_8 < x_7 then (Option.bind (gi a_0 x_8) fun y1 => if x_1 = y1 then (some (x_8)) else ((slices_Index_82.l0 a_0 x_1 x_7 (IntKind.wrap .i64 (x_8 + (1 : Int)))))) else (some ((-1 : Int))) := fixF_eq slices_Index_82.l0_k.mono _
def slices_Index_82.l0_k.I : (p : slices_Index_82.l0_k.Pt) → (Int) → Prop
  | .l0 a_0 x_1 x_7 x_8, r => ∀ (W : Nat → Prop) (h0 m0 h m : Heap) (A_0 : Option Addr) (n_0 c_0 : Nat) (O : Hold W h0 m0 h m []) (ne_0 : n_0 = List.length a_0) (k_0 : List.length a_0 ≤ c_0) (r_0 : Rd 1 (eInt .i64) m A_0 a_0), f82.l0 (slices_Index_82.post W h0 m0 r) A_0 n_0 c_0 x_1 x_7 x_8 h
set_option maxRecDepth 100000 in
theorem slices_Index_82.l0_k.step_l0 (go : (p : slices_Index_82.l0_k.Pt) → Option (Int)) (ih : ∀ p r, go p = some r → slices_Index_82.l0_k.I p r) (a_0 : List Int) (x_1 : Int) (x_7 : Int) (x_8 : Int) (r : Int) (e : slices_Index_82.l0_k.body go (.l0 a_0 x_1 x_7 x_8) = some r) : slices_Index_82.l0_k.I (.l0 a_0 x_1 x_7 x_8) r := by
  unfold slices_Index_82.l0_k.body at e
  intro W h0 m0 h m A_0 n_0 c_0 O ne_0 k_0 r_0
  subst ne_0
  refine f82.l0_in ?_
  unfold f82.l0T
  refine split_dec_e e (fun c9 e => ?_) (fun c9 e => ?_)
  · obtain ⟨y1, g2, e⟩ := bind_e e
    refine r_0.addr rfl g2 fun a3 cs4 ha5 hc6 he7 => ?_
    obtain rfl : cs4 = [(Value.int .i64 y1)] := he7
    refine ⟨_, ld0 O.s hc6 rfl, _, rfl, ?_⟩
    refine split_eq_e e (fun c8 e => ?_) (fun c8 e => ?_)
    · cases e
      exact ⟨_, O.pick [], rfl⟩
    · exact (ih _ _ e) _ _ _ _ _ _ _ _ (O.pick []).nm rfl k_0 r_0
  · cases e
    exact ⟨_, O.pick [], rfl⟩
theorem slices_Index_82.l0_k.all {p : slices_Index_82.l0_k.Pt} {r : (Int)} (e : slices_Index_82.l0_k.go p = some r) : slices_Index_82.l0_k.I p r := fixF_ind (β := fun _ => (Int)) slices_Index_82.l0_k.mono (I := slices_Index_82.l0_k.I) (fun go ih p r e => match p with
  | .l0 a_0 x_1 x_7 x_8 => slices_Index_82.l0_k.step_l0 go ih a_0 x_1 x_7 x_8 r e
  ) e
theorem slices_Index_82.l0.walk {W : Nat → Prop} {h0 m0 h m : Heap} {A_0 : Option Addr} {n_0 c_0 : Nat} {a_0 : List Int} {x_1 : Int} {x_7 : Int} {x_8 : Int} (O : Hold W h0 m0 h m []) (ne_0 : n_0 = List.length a_0) (k_0 : List.length a_0 ≤ c_0) (r_0 : Rd 1 (eInt .i64) m A_0 a_0) {r : Int} (e : slices_Index_82.l0 a_0 x_1 x_7 x_8 = some r) : f82.l0 (slices_Index_82.post W h0 m0 r) A_0 n_0 c_0 x_1 x_7 x_8 h := slices_Index_82.l0_k.all (p := .l0 a_0 x_1 x_7 x_8) e W h0 m0 h m A_0 n_0 c_0 O ne_0 k_0 r_0
noncomputable def slices_Index_82 (a_0 : List Int) (x_1 : Int) : Option (Int) :=
  (slices_Index_82.l0 a_0 x_1 (((List.length a_0) : Nat) : Int) (0 : Int))
set_option maxRecDepth 100000 in
theorem slices_Index_82.walk {W : Nat → Prop} {h m : Heap} {A_0 : Option Addr} {n_0 c_0 : Nat} {a_0 : List Int} {x_1 : Int} (O : Hold W h m h m []) (ne_0 : n_0 = List.length a_0) (k_0 : List.length a_0 ≤ c_0) (r_0 : Rd 1 (eInt .i64) m A_0 a_0) {r : Int} (e : slices_Index_82 a_0 x_1 = some r) : Run Try.prog 82 #[Value.slice A_0 n_0 c_0, Value.int .i64 x_1] h (slices_Index_82.post W h m r) := by
  unfold slices_Index_82 at e
  subst ne_0
  refine f82.run ?_
  unfold f82.runT
  exact slices_Index_82.l0.walk (O.pick []).nm rfl k_0 r_0 e
def slices_Contains_24.post (W : Nat → Prop) (h0 m0 : Heap) (r : Bool) (v : Value) (h : Heap) : Prop := ∃ m , Hold W h0 m0 h m [] ∧ v = .bool r
noncomputable def slices_Contains_24 (a_0 : List Int) (x_1 : Int) : Option (Bool) :=
  Option.bind (slices_Index_82 a_0 x_1) fun y1 => some ((decide (y1 ≥ (0 : Int))))
set_option maxRecDepth 100000 in
theorem slices_Contains_24.walk {W : Nat → Prop} {h m : Heap} {A_0 : Option Addr} {n_0 c_0 : Nat} {a_0 : List Int} {x_1 : Int} (O : Hold W h m h m []) (ne_0 : n_0 = List.length a_0) (k_0 : List.length a_0 ≤ c_0) (r_0 : Rd 1 (eInt .i64) m A_0 a_0) {r : Bool} (e : slices_Contains_24 a_0 x_1 = some r) : Run Try.prog 24 #[Value.slice A_0 n_0 c_0, Value.int .i64 x_1] h (slices_Contains_24.post W h m r) := by
  unfold slices_Contains_24 at e
  subst ne_0
  refine f24.run ?_
  unfold f24.runT
  obtain ⟨y1, g2, e⟩ := bind_e e
  refine (slices_Index_82.walk (Hold.start (W := No) O.s) rfl k_0 r_0 g2).mono ?_
  rintro _ h3 ⟨m4, Q5, rfl⟩
  have O7 := Hold.nm (O.retC Q5 vfs_nil)
  refine ⟨_, rfl, ?_⟩
  cases e
  exact ⟨_, O7.pick [], rfl⟩
theorem slices_Contains_24.val {l : List Int} (v : Int) (hl : l.length ≤ 4611686018427387904) : slices_Contains_24 l v = some (decide (v ∈ l)) := contains_val (fun a p n i => slices_Index_82.l0_eq a p n i) (fun _ _ => rfl) (fun _ _ => rfl) v hl
def roadref4_Alive.post (W : Nat → Prop) (h0 m0 : Heap) (r : (List Int)) (v : Value) (h : Heap) : Prop := ∃ m A0 n0 c0, Hold W h0 m0 h m [rR (aE (tell_int .i64)) A0 c0 r] ∧ v = .slice A0 n0 c0 ∧ n0 = List.length r
inductive roadref4_Alive.l1_k.Pt where
  | l1 (a_0 : List T_api_Know) (a_3 : List Int) (x_33 : Int) (x_34 : Int)
  | l2 (a_0 : List T_api_Know) (a_3 : List Int) (x_6 : Int) (x_33 : Int) (x_34 : Int) (x_38 : Int) (x_39 : Int)
  | l3 (a_0 : List T_api_Know) (a_3 : List Int) (x_6 : Int) (x_7 : Int) (x_33 : Int) (x_34 : Int) (x_38 : Int) (x_39 : Int) (x_49 : Int) (x_50 : Int)
  | j1 (a_0 : List T_api_Know) (a_3 : List Int) (x_6 : Int) (x_7 : Int) (x_8 : Int) (x_33 : Int) (x_34 : Int) (x_38 : Int) (x_39 : Int) (x_49 : Int) (x_50 : Int) (b_70 : Bool)
noncomputable def roadref4_Alive.l1_k.body (go : (p : roadref4_Alive.l1_k.Pt) → Option ((List Int))) : (p : roadref4_Alive.l1_k.Pt) → Option ((List Int))
  | .l1 a_0 a_3 x_33 x_34 => if x_34 < x_33 then ((go (.l2 a_0 a_3 x_34 x_33 x_34 (((List.length a_0) : Nat) : Int) (0 : Int)))) else (some (a_3))
  | .l2 a_0 a_3 x_6 x_33 x_34 x_38 x_39 => if x_39 < x_38 then (Option.bind (gi a_3 x_39) fun y1 => if y1 = x_6 then ((go (.l3 a_0 a_3 x_6 x_39 x_33 x_34 x_38 x_39 (((List.length a_0) : Nat) : Int) (0 : Int)))) else ((go (.l2 a_0 a_3 x_6 x_33 x_34 x_38 (IntKind.wrap .i64 (x_39 + (1 : Int))))))) else ((go (.l1 a_0 a_3 x_33 (IntKind.wrap .i64 (x_34 + (1 : Int))))))
  | .l3 a_0 a_3 x_6 x_7 x_33 x_34 x_38 x_39 x_49 x_50 => if x_50 < x_49 then (Option.bind (gi a_3 x_50) fun y1 => if y1 < (0 : Int) then (Option.bind (gi a_0 x_7) fun y8 => Option.bind (gi a_0 x_50) fun y15 => Option.bind (slices_Contains_24 y8.Refs y15.Ref) fun y27 => (go (.j1 a_0 a_3 x_6 x_7 x_50 x_33 x_34 x_38 x_39 x_49 x_50 y27))) else ((go (.j1 a_0 a_3 x_6 x_7 x_50 x_33 x_34 x_38 x_39 x_49 x_50 false)))) else ((go (.l2 a_0 a_3 x_6 x_33 x_34 x_38 (IntKind.wrap .i64 (x_39 + (1 : Int))))))
  | .j1 a_0 a_3 x_6 x_7 x_8 x_33 x_34 x_38 x_39 x_49 x_50 b_70 => if b_70 = true then (Option.bind (gi a_3 x_8) fun y1 => Option.bind (some (List.set a_3 (Int.toNat x_8) (IntKind.wrap .i64 (x_6 + (1 : Int))))) fun l10 => (go (.l3 a_0 l10 x_6 x_7 x_33 x_34 x_38 x_39 x_49 (IntKind.wrap .i64 (x_50 + (1 : Int)))))) else ((go (.l3 a_0 a_3 x_6 x_7 x_33 x_34 x_38 x_39 x_49 (IntKind.wrap .i64 (x_50 + (1 : Int))))))
theorem roadref4_Alive.l1_k.mono : MonoF (β := fun _ => ((List Int))) roadref4_Alive.l1_k.body := fun f g hfg p => match p with
  | .l1 a_0 a_3 x_33 x_34 => LeO.ite ((hfg _)) (LeO.refl _)
  | .l2 a_0 a_3 x_6 x_33 x_34 x_38 x_39 => LeO.ite (LeO.bind (LeO.refl _) fun y1 => LeO.ite ((hfg _)) ((hfg _))) ((hfg _))
  | .l3 a_0 a_3 x_6 x_7 x_33 x_34 x_38 x_39 x_49 x_50 => LeO.ite (LeO.bind (LeO.refl _) fun y1 => LeO.ite (LeO.bind (LeO.refl _) fun y8 => LeO.bind (LeO.refl _) fun y15 => LeO.bind (LeO.refl _) fun y27 => (hfg _)) ((hfg _))) ((hfg _))
  | .j1 a_0 a_3 x_6 x_7 x_8 x_33 x_34 x_38 x_39 x_49 x_50 b_70 => LeO.ite (LeO.bind (LeO.refl _) fun y1 => LeO.bind (LeO.refl _) fun l10 => (hfg _)) ((hfg _))
noncomputable def roadref4_Alive.l1_k.go (p : roadref4_Alive.l1_k.Pt) : Option ((List Int)) := fixF (β := fun _ => ((List Int))) roadref4_Alive.l1_k.body p
noncomputable def roadref4_Alive.l1 (a_0 : List T_api_Know) (a_3 : List Int) (x_33 : Int) (x_34 : Int) : Option ((List Int)) := roadref4_Alive.l1_k.go (.l1 a_0 a_3 x_33 x_34)
noncomputable def roadref4_Alive.l2 (a_0 : List T_api_Know) (a_3 : List Int) (x_6 : Int) (x_33 : Int) (x_34 : Int) (x_38 : Int) (x_39 : Int) : Option ((List Int)) := roadref4_Alive.l1_k.go (.l2 a_0 a_3 x_6 x_33 x_34 x_38 x_39)
noncomputable def roadref4_Alive.l3 (a_0 : List T_api_Know) (a_3 : List Int) (x_6 : Int) (x_7 : Int) (x_33 : Int) (x_34 : Int) (x_38 : Int) (x_39 : Int) (x_49 : Int) (x_50 : Int) : Option ((List Int)) := roadref4_Alive.l1_k.go (.l3 a_0 a_3 x_6 x_7 x_33 x_34 x_38 x_39 x_49 x_50)
noncomputable def roadref4_Alive.j1 (a_0 : List T_api_Know) (a_3 : List Int) (x_6 : Int) (x_7 : Int) (x_8 : Int) (x_33 : Int) (x_34 : Int) (x_38 : Int) (x_39 : Int) (x_49 : Int) (x_50 : Int) (b_70 : Bool) : Option ((List Int)) := roadref4_Alive.l1_k.go (.j1 a_0 a_3 x_6 x_7 x_8 x_33 x_34 x_38 x_39 x_49 x_50 b_70)
theorem roadref4_Alive.l1_eq (a_0 : List T_api_Know) (a_3 : List Int) (x_33 : Int) (x_34 : Int) : roadref4_Alive.l1 a_0 a_3 x_33 x_34 = if x_34 < x_33 then ((roadref4_Alive.l2 a_0 a_3 x_34 x_33 x_34 (((List.length a_0) : Nat) : Int) (0 : Int))) else (some (a_3)) := fixF_eq roadref4_Alive.l1_k.mono _
theorem roadref4_Alive.l2_eq (a_0 : List T_api_Know) (a_3 : List Int) (x_6 : Int) (x_33 : Int) (x_34 : Int) (x_38 : Int) (x_39 : Int) : roadref4_Alive.l2 a_0 a_3 x_6 x_33 x_34 x_38 x_39 = if x_39 < x_38 then (Option.bind (gi a_3 x_39) fun y1 => if y1 = x_6 then ((roadref4_Alive.l3 a_0 a_3 x_6 x_39 x_33 x_34 x_38 x_39 (((List.length a_0) : Nat) : Int) (0 : Int))) else ((roadref4_Alive.l2 a_0 a_3 x_6 x_33 x_34 x_38 (IntKind.wrap .i64 (x_39 + (1 : Int)))))) else ((roadref4_Alive.l1 a_0 a_3 x_33 (IntKind.wrap .i64 (x_34 + (1 : Int))))) := fixF_eq roadref4_Alive.l1_k.mono _
theorem roadref4_Alive.l3_eq (a_0 : List T_api_Know) (a_3 : List Int) (x_6 : Int) (x_7 : Int) (x_33 : Int) (x_34 : Int) (x_38 : Int) (x_39 : Int) (x_49 : Int) (x_50 : Int) : roadref4_Alive.l3 a_0 a_3 x_6 x_7 x_33 x_34 x_38 x_39 x_49 x_50 = if x_50 < x_49 then (Option.bind (gi a_3 x_50) fun y1 => if y1 < (0 : Int) then (Option.bind (gi a_0 x_7) fun y8 => Option.bind (gi a_0 x_50) fun y15 => Option.bind (slices_Contains_24 y8.Refs y15.Ref) fun y27 => (roadref4_Alive.j1 a_0 a_3 x_6 x_7 x_50 x_33 x_34 x_38 x_39 x_49 x_50 y27)) else ((roadref4_Alive.j1 a_0 a_3 x_6 x_7 x_50 x_33 x_34 x_38 x_39 x_49 x_50 false))) else ((roadref4_Alive.l2 a_0 a_3 x_6 x_33 x_34 x_38 (IntKind.wrap .i64 (x_39 + (1 : Int))))) := fixF_eq roadref4_Alive.l1_k.mono _
theorem roadref4_Alive.j1_eq (a_0 : List T_api_Know) (a_3 : List Int) (x_6 : Int) (x_7 : Int) (x_8 : Int) (x_33 : Int) (x_34 : Int) (x_38 : Int) (x_39 : Int) (x_49 : Int) (x_50 : Int) (b_70 : Bool) : roadref4_Alive.j1 a_0 a_3 x_6 x_7 x_8 x_33 x_34 x_38 x_39 x_49 x_50 b_70 = if b_70 = true then (Option.bind (gi a_3 x_8) fun y1 => Option.bind (some (List.set a_3 (Int.toNat x_8) (IntKind.wrap .i64 (x_6 + (1 : Int))))) fun l10 => (roadref4_Alive.l3 a_0 l10 x_6 x_7 x_33 x_34 x_38 x_39 x_49 (IntKind.wrap .i64 (x_50 + (1 : Int))))) else ((roadref4_Alive.l3 a_0 a_3 x_6 x_7 x_33 x_34 x_38 x_39 x_49 (IntKind.wrap .i64 (x_50 + (1 : Int))))) := fixF_eq roadref4_Alive.l1_k.mono _
def roadref4_Alive.l1_k.I : (p : roadref4_Alive.l1_k.Pt) → ((List Int)) → Prop
  | .l1 a_0 a_3 x_33 x_34, r => ∀ (W : Nat → Prop) (h0 m0 h m : Heap) (A_0 : Option Addr) (n_0 c_0 : Nat) (A_3 : Option Addr) (n_3 c_3 : Nat) (O : Hold W h0 m0 h m [rR (aE (tell_int .i64)) A_3 c_3 a_3]) (ne_0 : n_0 = List.length a_0) (k_0 : List.length a_0 ≤ c_0) (r_0 : Rd 4 T_api_Know.E m A_0 a_0) (ne_3 : n_3 = List.length a_3), f13.l1 (roadref4_Alive.post W h0 m0 r) A_0 n_0 c_0 A_3 n_3 c_3 x_33 x_34 h
  | .l2 a_0 a_3 x_6 x_33 x_34 x_38 x_39, r => ∀ (W : Nat → Prop) (h0 m0 h m : Heap) (A_0 : Option Addr) (n_0 c_0 : Nat) (A_3 : Option Addr) (n_3 c_3 : Nat) (O : Hold W h0 m0 h m [rR (aE (tell_int .i64)) A_3 c_3 a_3]) (ne_0 : n_0 = List.length a_0) (k_0 : List.length a_0 ≤ c_0) (r_0 : Rd 4 T_api_Know.E m A_0 a_0) (ne_3 : n_3 = List.length a_3), f13.l2 (roadref4_Alive.post W h0 m0 r) A_0 n_0 c_0 A_3 n_3 c_3 x_6 x_33 x_34 x_38 x_39 h
  | .l3 a_0 a_3 x_6 x_7 x_33 x_34 x_38 x_39 x_49 x_50, r => ∀ (W : Nat → Prop) (h0 m0 h m : Heap) (A_0 : Option Addr) (n_0 c_0 : Nat) (A_3 : Option Addr) (n_3 c_3 : Nat) (O : Hold W h0 m0 h m [rR (aE (tell_int .i64)) A_3 c_3 a_3]) (ne_0 : n_0 = List.length a_0) (k_0 : List.length a_0 ≤ c_0) (r_0 : Rd 4 T_api_Know.E m A_0 a_0) (ne_3 : n_3 = List.length a_3), f13.l3 (roadref4_Alive.post W h0 m0 r) A_0 n_0 c_0 A_3 n_3 c_3 x_6 x_7 x_33 x_34 x_38 x_39 x_49 x_50 h
  | .j1 a_0 a_3 x_6 x_7 x_8 x_33 x_34 x_38 x_39 x_49 x_50 b_70, r => ∀ (W : Nat → Prop) (h0 m0 h m : Heap) (A_0 : Option Addr) (n_0 c_0 : Nat) (A_3 : Option Addr) (n_3 c_3 : Nat) (O : Hold W h0 m0 h m [rR (aE (tell_int .i64)) A_3 c_3 a_3]) (ne_0 : n_0 = List.length a_0) (k_0 : List.length a_0 ≤ c_0) (r_0 : Rd 4 T_api_Know.E m A_0 a_0) (ne_3 : n_3 = List.length a_3), f13.j1 (roadref4_Alive.post W h0 m0 r) A_0 n_0 c_0 A_3 n_3 c_3 x_6 x_7 x_8 x_33 x_34 x_38 x_39 x_49 x_50 b_70 h
set_option maxRecDepth 100000 in
theorem roadref4_Alive.l1_k.step_l1 (go : (p : roadref4_Alive.l1_k.Pt) → Option ((List Int))) (ih : ∀ p r, go p = some r → roadref4_Alive.l1_k.I p r) (a_0 : List T_api_Know) (a_3 : List Int) (x_33 : Int) (x_34 : Int) (r : (List Int)) (e : roadref4_Alive.l1_k.body go (.l1 a_0 a_3 x_33 x_34) = some r) : roadref4_Alive.l1_k.I (.l1 a_0 a_3 x_33 x_34) r := by
  unfold roadref4_Alive.l1_k.body at e
  intro W h0 m0 h m A_0 n_0 c_0 A_3 n_3 c_3 O ne_0 k_0 r_0 ne_3
  subst ne_0
  subst ne_3
  refine f13.l1_in ?_
  unfold f13.l1T
  refine split_dec_e e (fun c1 e => ?_) (fun c1 e => ?_)
  · exact (ih _ _ e) _ _ _ _ _ _ _ _ _ _ _ (O.pick [0]).nm rfl k_0 r_0 rfl
  · cases e
    exact ⟨_, _, _, _, O.pick [0], rfl, rfl⟩
set_option maxRecDepth 100000 in
theorem roadref4_Alive.l1_k.step_l2 (go : (p : roadref4_Alive.l1_k.Pt) → Option ((List Int))) (ih : ∀ p r, go p = some r → roadref4_Alive.l1_k.I p r) (a_0 : List T_api_Know) (a_3 : List Int) (x_6 : Int) (x_33 : Int) (x_34 : Int) (x_38 : Int) (x_39 : Int) (r : (List Int)) (e : roadref4_Alive.l1_k.body go (.l2 a_0 a_3 x_6 x_33 x_34 x_38 x_39) = some r) : roadref4_Alive.l1_k.I (.l2 a_0 a_3 x_6 x_33 x_34 x_38 x_39) r := by
  unfold roadref4_Alive.l1_k.body at e
  intro W h0 m0 h m A_0 n_0 c_0 A_3 n_3 c_3 O ne_0 k_0 r_0 ne_3
  subst ne_0
  subst ne_3
  refine f13.l2_in ?_
  unfold f13.l2T
  refine split_dec_e e (fun c9 e => ?_) (fun c9 e => ?_)
  · obtain ⟨y1, g2, e⟩ := bind_e e
    refine (O.os 0 rfl).addr rfl g2 fun a3 cs4 ha5 hc6 he7 => ?_
    obtain rfl : cs4 = [(Value.int .i64 y1)] := he7
    refine ⟨_, ld0 (Sub.refl _) hc6 rfl, _, rfl, ?_⟩
    refine split_ne_e e (fun c8 e => ?_) (fun c8 e => ?_)
    · exact (ih _ _ e) _ _ _ _ _ _ _ _ _ _ _ (O.pick [0]).nm rfl k_0 r_0 rfl
    · exact (ih _ _ e) _ _ _ _ _ _ _ _ _ _ _ (O.pick [0]).nm rfl k_0 r_0 rfl
  · exact (ih _ _ e) _ _ _ _ _ _ _ _ _ _ _ (O.pick [0]).nm rfl k_0 r_0 rfl
set_option maxRecDepth 100000 in
theorem roadref4_Alive.l1_k.step_l3 (go : (p : roadref4_Alive.l1_k.Pt) → Option ((List Int))) (ih : ∀ p r, go p = some r → roadref4_Alive.l1_k.I p r) (a_0 : List T_api_Know) (a_3 : List Int) (x_6 : Int) (x_7 : Int) (x_33 : Int) (x_34 : Int) (x_38 : Int) (x_39 : Int) (x_49 : Int) (x_50 : Int) (r : (List Int)) (e : roadref4_Alive.l1_k.body go (.l3 a_0 a_3 x_6 x_7 x_33 x_34 x_38 x_39 x_49 x_50) = some r) : roadref4_Alive.l1_k.I (.l3 a_0 a_3 x_6 x_7 x_33 x_34 x_38 x_39 x_49 x_50) r := by
  unfold roadref4_Alive.l1_k.body at e
  intro W h0 m0 h m A_0 n_0 c_0 A_3 n_3 c_3 O ne_0 k_0 r_0 ne_3
  subst ne_0
  subst ne_3
  refine f13.l3_in ?_
  unfold f13.l3T
  refine split_dec_e e (fun c35 e => ?_) (fun c35 e => ?_)
  · obtain ⟨y1, g2, e⟩ := bind_e e
    refine (O.os 0 rfl).addr rfl g2 fun a3 cs4 ha5 hc6 he7 => ?_
    obtain rfl : cs4 = [(Value.int .i64 y1)] := he7
    refine ⟨_, ld0 (Sub.refl _) hc6 rfl, _, rfl, ?_⟩
    refine split_dec_e e (fun c34 e => ?_) (fun c34 e => ?_)
    · obtain ⟨y8, g9, e⟩ := bind_e e
      refine r_0.addr rfl g9 fun a10 cs11 ha12 hc13 he14 => ?_
      obtain ⟨y15, g16, e⟩ := bind_e e
      refine r_0.addr rfl g16 fun a17 cs18 ha19 hc20 he21 => ?_
      obtain ⟨A22, c23, q24, k25, r26⟩ := T_api_Know.g3 he14
      refine ⟨_, ldk (k := 3) O.s hc13 q24, _, _, _, rfl, ?_⟩
      refine ⟨_, ld0 O.s hc20 (T_api_Know.g0 he21), _, rfl, ?_⟩
      obtain ⟨y27, g28, e⟩ := bind_e e
      refine (slices_Contains_24.walk (Hold.start (W := No) O.s) rfl k25 r26 g28).mono ?_
      rintro _ h29 ⟨m30, Q31, rfl⟩
      have O33 := Hold.nm (O.retC Q31 vfs_nil)
      refine ⟨_, rfl, ?_⟩
      exact (ih _ _ e) _ _ _ _ _ _ _ _ _ _ _ (O33.pick [0]).nm rfl k_0 r_0 rfl
    · exact (ih _ _ e) _ _ _ _ _ _ _ _ _ _ _ (O.pick [0]).nm rfl k_0 r_0 rfl
  · exact (ih _ _ e) _ _ _ _ _ _ _ _ _ _ _ (O.pick [0]).nm rfl k_0 r_0 rfl
set_option maxRecDepth 100000 in
theorem roadref4_Alive.l1_k.step_j1 (go : (p : roadref4_Alive.l1_k.Pt) → Option ((List Int))) (ih : ∀ p r, go p = some r → roadref4_Alive.l1_k.I p r) (a_0 : List T_api_Know) (a_3 : List Int) (x_6 : Int) (x_7 : Int) (x_8 : Int) (x_33 : Int) (x_34 : Int) (x_38 : Int) (x_39 : Int) (x_49 : Int) (x_50 : Int) (b_70 : Bool) (r : (List Int)) (e : roadref4_Alive.l1_k.body go (.j1 a_0 a_3 x_6 x_7 x_8 x_33 x_34 x_38 x_39 x_49 x_50 b_70) = some r) : roadref4_Alive.l1_k.I (.j1 a_0 a_3 x_6 x_7 x_8 x_33 x_34 x_38 x_39 x_49 x_50 b_70) r := by
  unfold roadref4_Alive.l1_k.body at e
  intro W h0 m0 h m A_0 n_0 c_0 A_3 n_3 c_3 O ne_0 k_0 r_0 ne_3
  subst ne_0
  subst ne_3
  refine f13.j1_in ?_
  unfold f13.j1T
  refine split_any_e e (fun c13 e => ?_) (fun c13 e => ?_)
  · obtain ⟨y1, g2, e⟩ := bind_e e
    refine (O.os 0 rfl).addr rfl g2 fun a3 cs4 ha5 hc6 he7 => ?_
    obtain rfl : cs4 = [(Value.int .i64 y1)] := he7
    obtain ⟨l10, g11, e⟩ := bind_e e
    replace g11 := Option.some.inj g11
    refine O.elst0 0 rfl g2 ha5 hc6 (by decide) (y' := (IntKind.wrap .i64 (x_6 + (1 : Int)))) rfl trivial g11 fun h8 O9 => ?_
    have O12 := O9.nm
    exact (ih _ _ e) _ _ _ _ _ _ _ _ _ _ _ (O12.pick [0]).nm rfl k_0 r_0 (lset' g11)
  · exact (ih _ _ e) _ _ _ _ _ _ _ _ _ _ _ (O.pick [0]).nm rfl k_0 r_0 rfl
theorem roadref4_Alive.l1_k.all {p : roadref4_Alive.l1_k.Pt} {r : ((List Int))} (e : roadref4_Alive.l1_k.go p = some r) : roadref4_Alive.l1_k.I p r := fixF_ind (β := fun _ => ((List Int))) roadref4_Alive.l1_k.mono (I := roadref4_Alive.l1_k.I) (fun go ih p r e => match p with
  | .l1 a_0 a_3 x_33 x_34 => roadref4_Alive.l1_k.step_l1 go ih a_0 a_3 x_33 x_34 r e
  | .l2 a_0 a_3 x_6 x_33 x_34 x_38 x_39 => roadref4_Alive.l1_k.step_l2 go ih a_0 a_3 x_6 x_33 x_34 x_38 x_39 r e
  | .l3 a_0 a_3 x_6 x_7 x_33 x_34 x_38 x_39 x_49 x_50 => roadref4_Alive.l1_k.step_l3 go ih a_0 a_3 x_6 x_7 x_33 x_34 x_38 x_39 x_49 x_50 r e
  | .j1 a_0 a_3 x_6 x_7 x_8 x_33 x_34 x_38 x_39 x_49 x_50 b_70 => roadref4_Alive.l1_k.step_j1 go ih a_0 a_3 x_6 x_7 x_8 x_33 x_34 x_38 x_39 x_49 x_50 b_70 r e
  ) e
theorem roadref4_Alive.l1.walk {W : Nat → Prop} {h0 m0 h m : Heap} {A_0 : Option Addr} {n_0 c_0 : Nat} {A_3 : Option Addr} {n_3 c_3 : Nat} {a_0 : List T_api_Know} {a_3 : List Int} {x_33 : Int} {x_34 : Int} (O : Hold W h0 m0 h m [rR (aE (tell_int .i64)) A_3 c_3 a_3]) (ne_0 : n_0 = List.length a_0) (k_0 : List.length a_0 ≤ c_0) (r_0 : Rd 4 T_api_Know.E m A_0 a_0) (ne_3 : n_3 = List.length a_3) {r : (List Int)} (e : roadref4_Alive.l1 a_0 a_3 x_33 x_34 = some r) : f13.l1 (roadref4_Alive.post W h0 m0 r) A_0 n_0 c_0 A_3 n_3 c_3 x_33 x_34 h := roadref4_Alive.l1_k.all (p := .l1 a_0 a_3 x_33 x_34) e W h0 m0 h m A_0 n_0 c_0 A_3 n_3 c_3 O ne_0 k_0 r_0 ne_3
inductive roadref4_Alive.l0_k.Pt where
  | l0 (a_0 : List T_api_Know) (a_3 : List Int) (a_12 : List T_api_Know) (x_13 : Int) (x_14 : Int)
  | j0 (a_0 : List T_api_Know) (a_3 : List Int) (x_4 : Int) (a_12 : List T_api_Know) (x_13 : Int) (x_14 : Int) (b_27 : Bool)
noncomputable def roadref4_Alive.l0_k.body (go : (p : roadref4_Alive.l0_k.Pt) → Option ((List Int))) : (p : roadref4_Alive.l0_k.Pt) → Option ((List Int))
  | .l0 a_0 a_3 a_12 x_13 x_14 => if x_14 < x_13 then (Option.bind (gi a_12 x_14) fun y1 => Option.bind (gi a_3 x_14) fun y14 => Option.bind (some (List.set a_3 (Int.toNat x_14) (-1 : Int))) fun l23 => if y1.Root = true then ((go (.j0 a_0 l23 x_14 a_12 x_13 x_14 true))) else ((go (.j0 a_0 l23 x_14 a_12 x_13 x_14 y1.Awake)))) else ((roadref4_Alive.l1 a_0 a_3 (((List.length a_0) : Nat) : Int) (0 : Int)))
  | .j0 a_0 a_3 x_4 a_12 x_13 x_14 b_27 => if b_27 = true then (Option.bind (gi a_3 x_4) fun y1 => Option.bind (some (List.set a_3 (Int.toNat x_4) (0 : Int))) fun l10 => (go (.l0 a_0 l10 a_12 x_13 (IntKind.wrap .i64 (x_14 + (1 : Int)))))) else ((go (.l0 a_0 a_3 a_12 x_13 (IntKind.wrap .i64 (x_14 + (1 : Int))))))
theorem roadref4_Alive.l0_k.mono : MonoF (β := fun _ => ((List Int))) roadref4_Alive.l0_k.body := fun f g hfg p => match p with
  | .l0 a_0 a_3 a_12 x_13 x_14 => LeO.ite (LeO.bind (LeO.refl _) fun y1 => LeO.bind (LeO.refl _) fun y14 => LeO.bind (LeO.refl _) fun l23 => LeO.ite ((hfg _)) ((hfg _))) ((LeO.refl _))
  | .j0 a_0 a_3 x_4 a_12 x_13 x_14 b_27 => LeO.ite (LeO.bind (LeO.refl _) fun y1 => LeO.bind (LeO.refl _) fun l10 => (hfg _)) ((hfg _))
noncomputable def roadref4_Alive.l0_k.go (p : roadref4_Alive.l0_k.Pt) : Option ((List Int)) := fixF (β := fun _ => ((List Int))) roadref4_Alive.l0_k.body p
noncomputable def roadref4_Alive.l0 (a_0 : List T_api_Know) (a_3 : List Int) (a_12 : List T_api_Know) (x_13 : Int) (x_14 : Int) : Option ((List Int)) := roadref4_Alive.l0_k.go (.l0 a_0 a_3 a_12 x_13 x_14)
noncomputable def roadref4_Alive.j0 (a_0 : List T_api_Know) (a_3 : List Int) (x_4 : Int) (a_12 : List T_api_Know) (x_13 : Int) (x_14 : Int) (b_27 : Bool) : Option ((List Int)) := roadref4_Alive.l0_k.go (.j0 a_0 a_3 x_4 a_12 x_13 x_14 b_27)
theorem roadref4_Alive.l0_eq (a_0 : List T_api_Know) (a_3 : List Int) (a_12 : List T_api_Know) (x_13 : Int) (x_14 : Int) : roadref4_Alive.l0 a_0 a_3 a_12 x_13 x_14 = if x_14 < x_13 then (Option.bind (gi a_12 x_14) fun y1 => Option.bind (gi a_3 x_14) fun y14 => Option.bind (some (List.set a_3 (Int.toNat x_14) (-1 : Int))) fun l23 => if y1.Root = true then ((roadref4_Alive.j0 a_0 l23 x_14 a_12 x_13 x_14 true)) else ((roadref4_Alive.j0 a_0 l23 x_14 a_12 x_13 x_14 y1.Awake))) else ((roadref4_Alive.l1 a_0 a_3 (((List.length a_0) : Nat) : Int) (0 : Int))) := fixF_eq roadref4_Alive.l0_k.mono _
theorem roadref4_Alive.j0_eq (a_0 : List T_api_Know) (a_3 : List Int) (x_4 : Int) (a_12 : List T_api_Know) (x_13 : Int) (x_14 : Int) (b_27 : Bool) : roadref4_Alive.j0 a_0 a_3 x_4 a_12 x_13 x_14 b_27 = if b_27 = true then (Option.bind (gi a_3 x_4) fun y1 => Option.bind (some (List.set a_3 (Int.toNat x_4) (0 : Int))) fun l10 => (roadref4_Alive.l0 a_0 l10 a_12 x_13 (IntKind.wrap .i64 (x_14 + (1 : Int))))) else ((roadref4_Alive.l0 a_0 a_3 a_12 x_13 (IntKind.wrap .i64 (x_14 + (1 : Int))))) := fixF_eq roadref4_Alive.l0_k.mono _
def roadref4_Alive.l0_k.I : (p : roadref4_Alive.l0_k.Pt) → ((List Int)) → Prop
  | .l0 a_0 a_3 a_12 x_13 x_14, r => ∀ (W : Nat → Prop) (h0 m0 h m : Heap) (A_0 : Option Addr) (n_0 c_0 : Nat) (A_3 : Option Addr) (n_3 c_3 : Nat) (A_12 : Option Addr) (n_12 c_12 : Nat) (O : Hold W h0 m0 h m [rR (aE (tell_int .i64)) A_3 c_3 a_3]) (ne_0 : n_0 = List.length a_0) (k_0 : List.length a_0 ≤ c_0) (r_0 : Rd 4 T_api_Know.E m A_0 a_0) (ne_3 : n_3 = List.length a_3) (ne_12 : n_12 = List.length a_12) (k_12 : List.length a_12 ≤ c_12) (r_12 : Rd 4 T_api_Know.E m A_12 a_12), f13.l0 (roadref4_Alive.post W h0 m0 r) A_0 n_0 c_0 A_3 n_3 c_3 A_12 n_12 c_12 x_13 x_14 h
  | .j0 a_0 a_3 x_4 a_12 x_13 x_14 b_27, r => ∀ (W : Nat → Prop) (h0 m0 h m : Heap) (A_0 : Option Addr) (n_0 c_0 : Nat) (A_3 : Option Addr) (n_3 c_3 : Nat) (A_12 : Option Addr) (n_12 c_12 : Nat) (O : Hold W h0 m0 h m [rR (aE (tell_int .i64)) A_3 c_3 a_3]) (ne_0 : n_0 = List.length a_0) (k_0 : List.length a_0 ≤ c_0) (r_0 : Rd 4 T_api_Know.E m A_0 a_0) (ne_3 : n_3 = List.length a_3) (ne_12 : n_12 = List.length a_12) (k_12 : List.length a_12 ≤ c_12) (r_12 : Rd 4 T_api_Know.E m A_12 a_12), f13.j0 (roadref4_Alive.post W h0 m0 r) A_0 n_0 c_0 A_3 n_3 c_3 x_4 A_12 n_12 c_12 x_13 x_14 b_27 h
set_option maxRecDepth 100000 in
theorem roadref4_Alive.l0_k.step_l0 (go : (p : roadref4_Alive.l0_k.Pt) → Option ((List Int))) (ih : ∀ p r, go p = some r → roadref4_Alive.l0_k.I p r) (a_0 : List T_api_Know) (a_3 : List Int) (a_12 : List T_api_Know) (x_13 : Int) (x_14 : Int) (r : (List Int)) (e : roadref4_Alive.l0_k.body go (.l0 a_0 a_3 a_12 x_13 x_14) = some r) : roadref4_Alive.l0_k.I (.l0 a_0 a_3 a_12 x_13 x_14) r := by
  unfold roadref4_Alive.l0_k.body at e
  intro W h0 m0 h m A_0 n_0 c_0 A_3 n_3 c_3 A_12 n_12 c_12 O ne_0 k_0 r_0 ne_3 ne_12 k_12 r_12
  subst ne_0
  subst ne_3
  subst ne_12
  refine f13.l0_in ?_
  unfold f13.l0T
  refine split_dec_e e (fun c28 e => ?_) (fun c28 e => ?_)
  · obtain ⟨y1, g2, e⟩ := bind_e e
    refine r_12.addr rfl g2 fun a3 cs4 ha5 hc6 he7 => ?_
    refine ⟨_, ldAn O.s hc6 rfl, ?_⟩
    refine O.new fun h8 x9 O10 => ?_
    refine ⟨_, rfl, (T_api_Know.T.len _ _ _ he7), ?_⟩
    refine O10.stA 1 rfl (T_api_Know.T.len _ _ _ he7) (T_api_Know.T.flat _ _ _ he7) fun h12 O13 => ?_
    obtain ⟨y14, g15, e⟩ := bind_e e
    refine (O13.os 0 rfl).addr rfl g15 fun a16 cs17 ha18 hc19 he20 => ?_
    obtain rfl : cs17 = [(Value.int .i64 y14)] := he20
    obtain ⟨l23, g24, e⟩ := bind_e e
    replace g24 := Option.some.inj g24
    refine O13.elst0 0 rfl g15 ha18 hc19 (by decide) (y' := (-1 : Int)) rfl trivial g24 fun h21 O22 => ?_
    refine ⟨_, ldk (k := 2) (Sub.refl _) (O22.all 1 rfl) (T_api_Know.g2 he7), _, rfl, ?_⟩
    refine split_any_e e (fun c27 e => ?_) (fun c27 e => ?_)
    · have O25 := O22.nm
      exact (ih _ _ e) _ _ _ _ _ _ _ _ _ _ _ _ _ _ (O25.pick [0]).nm rfl k_0 r_0 (lset' g24) rfl k_12 r_12
    · refine ⟨_, ldk (k := 1) (Sub.refl _) (O22.all 1 rfl) (T_api_Know.g1 he7), _, rfl, ?_⟩
      have O26 := O22.nm
      exact (ih _ _ e) _ _ _ _ _ _ _ _ _ _ _ _ _ _ (O26.pick [0]).nm rfl k_0 r_0 (lset' g24) rfl k_12 r_12
  · exact roadref4_Alive.l1.walk (O.pick [0]).nm rfl k_0 r_0 rfl e
set_option maxRecDepth 100000 in
theorem roadref4_Alive.l0_k.step_j0 (go : (p : roadref4_Alive.l0_k.Pt) → Option ((List Int))) (ih : ∀ p r, go p = some r → roadref4_Alive.l0_k.I p r) (a_0 : List T_api_Know) (a_3 : List Int) (x_4 : Int) (a_12 : List T_api_Know) (x_13 : Int) (x_14 : Int) (b_27 : Bool) (r : (List Int)) (e : roadref4_Alive.l0_k.body go (.j0 a_0 a_3 x_4 a_12 x_13 x_14 b_27) = some r) : roadref4_Alive.l0_k.I (.j0 a_0 a_3 x_4 a_12 x_13 x_14 b_27) r := by
  unfold roadref4_Alive.l0_k.body at e
  intro W h0 m0 h m A_0 n_0 c_0 A_3 n_3 c_3 A_12 n_12 c_12 O ne_0 k_0 r_0 ne_3 ne_12 k_12 r_12
  subst ne_0
  subst ne_3
  subst ne_12
  refine f13.j0_in ?_
  unfold f13.j0T
  refine split_any_e e (fun c13 e => ?_) (fun c13 e => ?_)
  · obtain ⟨y1, g2, e⟩ := bind_e e
    refine (O.os 0 rfl).addr rfl g2 fun a3 cs4 ha5 hc6 he7 => ?_
    obtain rfl : cs4 = [(Value.int .i64 y1)] := he7
    obtain ⟨l10, g11, e⟩ := bind_e e
    replace g11 := Option.some.inj g11
    refine O.elst0 0 rfl g2 ha5 hc6 (by decide) (y' := (0 : Int)) rfl trivial g11 fun h8 O9 => ?_
    have O12 := O9.nm
    exact (ih _ _ e) _ _ _ _ _ _ _ _ _ _ _ _ _ _ (O12.pick [0]).nm rfl k_0 r_0 (lset' g11) rfl k_12 r_12
  · exact (ih _ _ e) _ _ _ _ _ _ _ _ _ _ _ _ _ _ (O.pick [0]).nm rfl k_0 r_0 rfl rfl k_12 r_12
theorem roadref4_Alive.l0_k.all {p : roadref4_Alive.l0_k.Pt} {r : ((List Int))} (e : roadref4_Alive.l0_k.go p = some r) : roadref4_Alive.l0_k.I p r := fixF_ind (β := fun _ => ((List Int))) roadref4_Alive.l0_k.mono (I := roadref4_Alive.l0_k.I) (fun go ih p r e => match p with
  | .l0 a_0 a_3 a_12 x_13 x_14 => roadref4_Alive.l0_k.step_l0 go ih a_0 a_3 a_12 x_13 x_14 r e
  | .j0 a_0 a_3 x_4 a_12 x_13 x_14 b_27 => roadref4_Alive.l0_k.step_j0 go ih a_0 a_3 x_4 a_12 x_13 x_14 b_27 r e
  ) e
theorem roadref4_Alive.l0.walk {W : Nat → Prop} {h0 m0 h m : Heap} {A_0 : Option Addr} {n_0 c_0 : Nat} {A_3 : Option Addr} {n_3 c_3 : Nat} {A_12 : Option Addr} {n_12 c_12 : Nat} {a_0 : List T_api_Know} {a_3 : List Int} {a_12 : List T_api_Know} {x_13 : Int} {x_14 : Int} (O : Hold W h0 m0 h m [rR (aE (tell_int .i64)) A_3 c_3 a_3]) (ne_0 : n_0 = List.length a_0) (k_0 : List.length a_0 ≤ c_0) (r_0 : Rd 4 T_api_Know.E m A_0 a_0) (ne_3 : n_3 = List.length a_3) (ne_12 : n_12 = List.length a_12) (k_12 : List.length a_12 ≤ c_12) (r_12 : Rd 4 T_api_Know.E m A_12 a_12) {r : (List Int)} (e : roadref4_Alive.l0 a_0 a_3 a_12 x_13 x_14 = some r) : f13.l0 (roadref4_Alive.post W h0 m0 r) A_0 n_0 c_0 A_3 n_3 c_3 A_12 n_12 c_12 x_13 x_14 h := roadref4_Alive.l0_k.all (p := .l0 a_0 a_3 a_12 x_13 x_14) e W h0 m0 h m A_0 n_0 c_0 A_3 n_3 c_3 A_12 n_12 c_12 O ne_0 k_0 r_0 ne_3 ne_12 k_12 r_12
noncomputable def roadref4_Alive (a_0 : List T_api_Know) : Option ((List Int)) :=
  Option.bind (mks 8 (((List.length a_0) : Nat) : Int) (0 : Int)) fun l1 => (roadref4_Alive.l0 a_0 l1 a_0 (((List.length a_0) : Nat) : Int) (0 : Int))
set_option maxRecDepth 100000 in
theorem roadref4_Alive.walk {W : Nat → Prop} {h m : Heap} {A_0 : Option Addr} {n_0 c_0 : Nat} {a_0 : List T_api_Know} (O : Hold W h m h m []) (ne_0 : n_0 = List.length a_0) (k_0 : List.length a_0 ≤ c_0) (r_0 : Rd 4 T_api_Know.E m A_0 a_0) {r : (List Int)} (e : roadref4_Alive a_0 = some r) : Run Try.prog 13 #[Value.slice A_0 n_0 c_0] h (roadref4_Alive.post W h m r) := by
  unfold roadref4_Alive at e
  subst ne_0
  refine f13.run ?_
  unfold f13.runT
  obtain ⟨l1, g2, e⟩ := bind_e e
  have q3 := mks_e g2
  refine ⟨q3.1, Int.le_refl _, q3.2.1, q3.2.2.1, ?_⟩
  refine O.new fun h4 x5 O6 => ?_
  have O7 := O6.made 0 rfl (aE (tell_int .i64)) g2 ⟨rfl, rfl⟩
  try rw [q3.2.2.2.1]
  have O9 := O7.nm
  exact roadref4_Alive.l0.walk (O9.pick [0]).nm rfl k_0 r_0 rfl rfl k_0 r_0 e
def slices_EqualFunc_15.post (W : Nat → Prop) (h0 m0 : Heap) (r : Bool) (v : Value) (h : Heap) : Prop := ∃ m , Hold W h0 m0 h m [] ∧ v = .bool r
inductive slices_EqualFunc_15.l0_k.Pt where
  | l0 (a_1 : List (List Int)) (p_2 : (List Int) → (List Int) → Option Bool) (a_15 : List (List Int)) (x_16 : Int) (x_17 : Int)
noncomputable def slices_EqualFunc_15.l0_k.body (go : (p : slices_EqualFunc_15.l0_k.Pt) → Option (Bool)) : (p : slices_EqualFunc_15.l0_k.Pt) → Option (Bool)
  | .l0 a_1 p_2 a_15 x_16 x_17 => if x_17 < x_16 then (Option.bind (gi a_15 x_17) fun y1 => Option.bind (gi a_1 x_17) fun y8 => Option.bind (p_2 y1 y8) fun y15 => if y15 = true then ((go (.l0 a_1 p_2 a_15 x_16 (IntKind.wrap .i64 (x_17 + (1 : Int)))))) else (some (false))) else (some (true))
theorem slices_EqualFunc_15.l0_k.mono : MonoF (β := fun _ => (Bool)) slices_EqualFunc_15.l0_k.body := fun f g hfg p => match p with
  | .l0 a_1 p_2 a_15 x_16 x_17 => LeO.ite (LeO.bind (LeO.refl _) fun y1 => LeO.bind (LeO.refl _) fun y8 => LeO.bind (LeO.refl _) fun y15 => LeO.ite ((hfg _)) (LeO.refl _)) (LeO.refl _)
noncomputable def slices_EqualFunc_15.l0_k.go (p : slices_EqualFunc_15.l0_k.Pt) : Option (Bool) := fixF (β := fun _ => (Bool)) slices_EqualFunc_15.l0_k.body p
noncomputable def slices_EqualFunc_15.l0 (a_1 : List (List Int)) (p_2 : (List Int) → (List Int) → Option Bool) (a_15 : List (List Int)) (x_16 : Int) (x_17 : Int) : Option (Bool) := slices_EqualFunc_15.l0_k.go (.l0 a_1 p_2 a_15 x_16 x_17)
theorem slices_EqualFunc_15.l0_eq (a_1 : List (List Int)) (p_2 : (List Int) → (List Int) → Option Bool) (a_15 : List (List Int)) (x_16 : Int) (x_17 : Int) : slices_EqualFunc_15.l0 a_1 p_2 a_15 x_16 x_17 = if x_17 < x_16 then (Option.bind (gi a_15 x_17) fun y1 => Option.bind (gi a_1 x_17) fun y8 => Option.bind (p_2 y1 y8) fun y15 => if y15 = true then ((slices_EqualFunc_15.l0 a_1 p_2 a_15 x_16 (IntKind.wrap .i64 (x_17 + (1 : Int))))) else (some (false))) else (some (true)) := fixF_eq slices_EqualFunc_15.l0_k.mono _
def slices_EqualFunc_15.l0_k.I : (p : slices_EqualFunc_15.l0_k.Pt) → (Bool) → Prop
  | .l0 a_1 p_2 a_15 x_16 x_17, r => ∀ (W : Nat → Prop) (h0 m0 h m : Heap) (A_1 : Option Addr) (n_1 c_1 : Nat) (fv_2 : Value) (A_15 : Option Addr) (n_15 c_15 : Nat) (O : Hold W h0 m0 h m []) (ne_1 : n_1 = List.length a_1) (k_1 : List.length a_1 ≤ c_1) (r_1 : Rd 1 (eRow 1 (eInt .i64)) m A_1 a_1) (f_2 : ∀ h' m', Sub m0 m' → Sub m' h' → ∀ (A0 : Option Addr) (n0 c0 : Nat) (l0 : List Int) (_ : n0 = l0.length) (_ : l0.length ≤ c0) (_ : Rd 1 (eInt .i64) m' A0 l0) (A1 : Option Addr) (n1 c1 : Nat) (l1 : List Int) (_ : n1 = l1.length) (_ : l1.length ≤ c1) (_ : Rd 1 (eInt .i64) m' A1 l1) (r : Bool), p_2 l0 l1 = some r → CallF Try.prog fv_2 [.slice A0 n0 c0, .slice A1 n1 c1] h' (fun v h'' => v = .bool r ∧ Ext h' h'')) (ne_15 : n_15 = List.length a_15) (k_15 : List.length a_15 ≤ c_15) (r_15 : Rd 1 (eRow 1 (eInt .i64)) m A_15 a_15), f15.l0 (slices_EqualFunc_15.post W h0 m0 r) A_1 n_1 c_1 fv_2 A_15 n_15 c_15 x_16 x_17 h
set_option maxRecDepth 100000 in
theorem slices_EqualFunc_15.l0_k.step_l0 (go : (p : slices_EqualFunc_15.l0_k.Pt) → Option (Bool)) (ih : ∀ p r, go p = some r → slices_EqualFunc_15.l0_k.I p r) (a_1 : List (List Int)) (p_2 : (List Int) → (List Int) → Option Bool) (a_15 : List (List Int)) (x_16 : Int) (x_17 : Int) (r : Bool) (e : slices_EqualFunc_15.l0_k.body go (.l0 a_1 p_2 a_15 x_16 x_17) = some r) : slices_EqualFunc_15.l0_k.I (.l0 a_1 p_2 a_15 x_16 x_17) r := by
  unfold slices_EqualFunc_15.l0_k.body at e
  intro W h0 m0 h m A_1 n_1 c_1 fv_2 A_15 n_15 c_15 O ne_1 k_1 r_1 f_2 ne_15 k_15 r_15
  subst ne_1
  subst ne_15
  refine f15.l0_in ?_
  unfold f15.l0T
  refine split_dec_e e (fun c21 e => ?_) (fun c21 e => ?_)
  · obtain ⟨y1, g2, e⟩ := bind_e e
    refine r_15.addr rfl g2 fun a3 cs4 ha5 hc6 he7 => ?_
    obtain ⟨Acs4_0, ccs4_0, rfl, kcs4_0, rcs4_0⟩ := id he7
    refine ⟨_, ld0 O.s hc6 rfl, _, _, _, rfl, ?_⟩
    obtain ⟨y8, g9, e⟩ := bind_e e
    refine r_1.addr rfl g9 fun a10 cs11 ha12 hc13 he14 => ?_
    obtain ⟨Acs11_0, ccs11_0, rfl, kcs11_0, rcs11_0⟩ := id he14
    refine ⟨_, ld0 O.s hc13 rfl, _, _, _, rfl, ?_⟩
    obtain ⟨y15, g16, e⟩ := bind_e e
    refine CallF.mono (f_2 _ _ O.up O.s _ _ _ _ rfl kcs4_0 rcs4_0 _ _ _ _ rfl kcs11_0 rcs11_0 _ g16) ?_
    rintro _ h17 ⟨rfl, x18⟩
    have O19 := O.ext x18
    refine ⟨_, rfl, ?_⟩
    refine split_not ?_
    refine split_any_e e (fun c20 e => ?_) (fun c20 e => ?_)
    · exact (ih _ _ e) _ _ _ _ _ _ _ _ _ _ _ _ (O19.pick []).nm rfl k_1 r_1 f_2 rfl k_15 r_15
    · cases e
      exact ⟨_, O19.pick [], rfl⟩
  · cases e
    exact ⟨_, O.pick [], rfl⟩
theorem slices_EqualFunc_15.l0_k.all {p : slices_EqualFunc_15.l0_k.Pt} {r : (Bool)} (e : slices_EqualFunc_15.l0_k.go p = some r) : slices_EqualFunc_15.l0_k.I p r := fixF_ind (β := fun _ => (Bool)) slices_EqualFunc_15.l0_k.mono (I := slices_EqualFunc_15.l0_k.I) (fun go ih p r e => match p with
  | .l0 a_1 p_2 a_15 x_16 x_17 => slices_EqualFunc_15.l0_k.step_l0 go ih a_1 p_2 a_15 x_16 x_17 r e
  ) e
theorem slices_EqualFunc_15.l0.walk {W : Nat → Prop} {h0 m0 h m : Heap} {A_1 : Option Addr} {n_1 c_1 : Nat} {fv_2 : Value} {A_15 : Option Addr} {n_15 c_15 : Nat} {a_1 : List (List Int)} {p_2 : (List Int) → (List Int) → Option Bool} {a_15 : List (List Int)} {x_16 : Int} {x_17 : Int} (O : Hold W h0 m0 h m []) (ne_1 : n_1 = List.length a_1) (k_1 : List.length a_1 ≤ c_1) (r_1 : Rd 1 (eRow 1 (eInt .i64)) m A_1 a_1) (f_2 : ∀ h' m', Sub m0 m' → Sub m' h' → ∀ (A0 : Option Addr) (n0 c0 : Nat) (l0 : List Int) (_ : n0 = l0.length) (_ : l0.length ≤ c0) (_ : Rd 1 (eInt .i64) m' A0 l0) (A1 : Option Addr) (n1 c1 : Nat) (l1 : List Int) (_ : n1 = l1.length) (_ : l1.length ≤ c1) (_ : Rd 1 (eInt .i64) m' A1 l1) (r : Bool), p_2 l0 l1 = some r → CallF Try.prog fv_2 [.slice A0 n0 c0, .slice A1 n1 c1] h' (fun v h'' => v = .bool r ∧ Ext h' h'')) (ne_15 : n_15 = List.length a_15) (k_15 : List.length a_15 ≤ c_15) (r_15 : Rd 1 (eRow 1 (eInt .i64)) m A_15 a_15) {r : Bool} (e : slices_EqualFunc_15.l0 a_1 p_2 a_15 x_16 x_17 = some r) : f15.l0 (slices_EqualFunc_15.post W h0 m0 r) A_1 n_1 c_1 fv_2 A_15 n_15 c_15 x_16 x_17 h := slices_EqualFunc_15.l0_k.all (p := .l0 a_1 p_2 a_15 x_16 x_17) e W h0 m0 h m A_1 n_1 c_1 fv_2 A_15 n_15 c_15 O ne_1 k_1 r_1 f_2 ne_15 k_15 r_15
noncomputable def slices_EqualFunc_15 (a_0 : List (List Int)) (a_1 : List (List Int)) (p_2 : (List Int) → (List Int) → Option Bool) : Option (Bool) :=
  if (((List.length a_0) : Nat) : Int) = (((List.length a_1) : Nat) : Int) then ((slices_EqualFunc_15.l0 a_1 p_2 a_0 (((List.length a_0) : Nat) : Int) (0 : Int))) else (some (false))
set_option maxRecDepth 100000 in
theorem slices_EqualFunc_15.walk {W : Nat → Prop} {h m : Heap} {A_0 : Option Addr} {n_0 c_0 : Nat} {A_1 : Option Addr} {n_1 c_1 : Nat} {fv_2 : Value} {a_0 : List (List Int)} {a_1 : List (List Int)} {p_2 : (List Int) → (List Int) → Option Bool} (O : Hold W h m h m []) (ne_0 : n_0 = List.length a_0) (k_0 : List.length a_0 ≤ c_0) (r_0 : Rd 1 (eRow 1 (eInt .i64)) m A_0 a_0) (ne_1 : n_1 = List.length a_1) (k_1 : List.length a_1 ≤ c_1) (r_1 : Rd 1 (eRow 1 (eInt .i64)) m A_1 a_1) (f_2 : ∀ h' m', Sub m m' → Sub m' h' → ∀ (A0 : Option Addr) (n0 c0 : Nat) (l0 : List Int) (_ : n0 = l0.length) (_ : l0.length ≤ c0) (_ : Rd 1 (eInt .i64) m' A0 l0) (A1 : Option Addr) (n1 c1 : Nat) (l1 : List Int) (_ : n1 = l1.length) (_ : l1.length ≤ c1) (_ : Rd 1 (eInt .i64) m' A1 l1) (r : Bool), p_2 l0 l1 = some r → CallF Try.prog fv_2 [.slice A0 n0 c0, .slice A1 n1 c1] h' (fun v h'' => v = .bool r ∧ Ext h' h'')) {r : Bool} (e : slices_EqualFunc_15 a_0 a_1 p_2 = some r) : Run Try.prog 15 #[Value.slice A_0 n_0 c_0, Value.slice A_1 n_1 c_1, fv_2] h (slices_EqualFunc_15.post W h m r) := by
  unfold slices_EqualFunc_15 at e
  subst ne_0
  subst ne_1
  refine f15.run ?_
  unfold f15.runT
  refine split_ne_e e (fun c1 e => ?_) (fun c1 e => ?_)
  · cases e
    exact ⟨_, O.pick [], rfl⟩
  · exact slices_EqualFunc_15.l0.walk (O.pick []).nm rfl k_1 r_1 f_2 rfl k_0 r_0 e
theorem slices_EqualFunc_15.val {l : List (List Int)} {m : List (List Int)} {p : (List Int) → (List Int) → Option Bool} (q : (List Int) → (List Int) → Bool) (hp : ∀ x ∈ l, ∀ y ∈ m, p x y = some (q x y)) (hl : l.length ≤ 4611686018427387904) : slices_EqualFunc_15 l m p = some (decide (l.length = m.length) && (l.zip m).all fun x => q x.1 x.2) := equalFunc_val (fun a b p n i => slices_EqualFunc_15.l0_eq b p a n i) (fun _ _ _ => rfl) q hp hl
def roadlaw4_CycleSays_1.post (W : Nat → Prop) (h0 m0 : Heap) (r : Bool) (v : Value) (h : Heap) : Prop := ∃ m , Hold W h0 m0 h m [] ∧ v = .bool r
noncomputable def roadlaw4_CycleSays_1 (a_0 : List Int) (a_1 : List Int) : Option (Bool) :=
  Option.bind (slices_Equal_10 a_0 a_1) fun y1 => some (y1)
set_option maxRecDepth 100000 in
theorem roadlaw4_CycleSays_1.walk {W : Nat → Prop} {h m : Heap} {A_0 : Option Addr} {n_0 c_0 : Nat} {A_1 : Option Addr} {n_1 c_1 : Nat} {a_0 : List Int} {a_1 : List Int} (O : Hold W h m h m []) (ne_0 : n_0 = List.length a_0) (k_0 : List.length a_0 ≤ c_0) (r_0 : Rd 1 (eInt .i64) m A_0 a_0) (ne_1 : n_1 = List.length a_1) (k_1 : List.length a_1 ≤ c_1) (r_1 : Rd 1 (eInt .i64) m A_1 a_1) {r : Bool} (e : roadlaw4_CycleSays_1 a_0 a_1 = some r) : Run Try.prog 16 #[Value.slice A_0 n_0 c_0, Value.slice A_1 n_1 c_1] h (roadlaw4_CycleSays_1.post W h m r) := by
  unfold roadlaw4_CycleSays_1 at e
  subst ne_0
  subst ne_1
  refine f16.run ?_
  unfold f16.runT
  obtain ⟨y1, g2, e⟩ := bind_e e
  refine (slices_Equal_10.walk (Hold.start (W := No) O.s) rfl k_0 r_0 rfl k_1 r_1 g2).mono ?_
  rintro _ h3 ⟨m4, Q5, rfl⟩
  have O7 := Hold.nm (O.retC Q5 vfs_nil)
  refine ⟨_, rfl, ?_⟩
  cases e
  exact ⟨_, O7.pick [], rfl⟩
def roadlaw4_CycleSays.post (W : Nat → Prop) (h0 m0 : Heap) (r : Bool) (v : Value) (h : Heap) : Prop := ∃ m , Hold W h0 m0 h m [] ∧ v = .bool r
inductive roadlaw4_CycleSays.l1_k.Pt where
  | l1 (a_5 : List (List Int)) (x_6 : Int) (a_7 : List Int) (x_8 : Int) (a_11 : List Int) (a_12 : List (List Int)) (x_109 : Int) (x_110 : Int)
noncomputable def roadlaw4_CycleSays.l1_k.body (go : (p : roadlaw4_CycleSays.l1_k.Pt) → Option (Bool)) : (p : roadlaw4_CycleSays.l1_k.Pt) → Option (Bool)
  | .l1 a_5 x_6 a_7 x_8 a_11 a_12 x_109 x_110 => if x_110 < x_109 then (Option.bind (gi a_12 x_110) fun y3 => Option.bind (slices_Sort_14 y3) fun y14 => (go (.l1 a_5 x_6 a_7 x_8 a_11 (List.set a_12 (Int.toNat x_110) y14) x_109 (IntKind.wrap .i64 (x_110 + (1 : Int)))))) else (Option.bind (slices_Sort_14 a_11) fun y31 => if x_6 = (0 : Int) then (if x_8 = (0 : Int) then (Option.bind (slices_Equal_10 a_7 y31) fun y43 => if y43 = true then (Option.bind (slices_EqualFunc_15 a_5 a_12 (fun z74 z75 => roadlaw4_CycleSays_1 z74 z75)) fun y59 => some (y59)) else (some (false))) else (some (false))) else (some (false)))
theorem roadlaw4_CycleSays.l1_k.mono : MonoF (β := fun _ => (Bool)) roadlaw4_CycleSays.l1_k.body := fun f g hfg p => match p with
  | .l1 a_5 x_6 a_7 x_8 a_11 a_12 x_109 x_110 => LeO.ite (LeO.bind (LeO.refl _) fun y3 => LeO.bind (LeO.refl _) fun y14 => (hfg _)) (LeO.bind (LeO.refl _) fun y31 => LeO.ite (LeO.ite (LeO.bind (LeO.refl _) fun y43 => LeO.ite (LeO.bind (LeO.refl _) fun y59 => LeO.refl _) (LeO.refl _)) (LeO.refl _)) (LeO.refl _))
noncomputable def roadlaw4_CycleSays.l1_k.go (p : roadlaw4_CycleSays.l1_k.Pt) : Option (Bool) := fixF (β := fun _ => (Bool)) roadlaw4_CycleSays.l1_k.body p
noncomputable def roadlaw4_CycleSays.l1 (a_5 : List (List Int)) (x_6 : Int) (a_7 : List Int) (x_8 : Int) (a_11 : List Int) (a_12 : List (List Int)) (x_109 : Int) (x_110 : Int) : Option (Bool) := roadlaw4_CycleSays.l1_k.go (.l1 a_5 x_6 a_7 x_8 a_11 a_12 x_109 x_110)
theorem roadlaw4_CycleSays.l1_eq (a_5 : List (List Int)) (x_6 : Int) (a_7 : List Int) (x_8 : Int) (a_11 : List Int) (a_12 : List (List Int)) (x_109 : Int) (x_110 : Int) : roadlaw4_CycleSays.l1 a_5 x_6 a_7 x_8 a_11 a_12 x_109 x_110 = if x_110 < x_109 then (Option.bind (gi a_12 x_110) fun y3 => Option.bind (slices_Sort_14 y3) fun y14 => (roadlaw4_CycleSays.l1 a_5 x_6 a_7 x_8 a_11 (List.set a_12 (Int.toNat x_110) y14) x_109 (IntKind.wrap .i64 (x_110 + (1 : Int))))) else (Option.bind (slices_Sort_14 a_11) fun y31 => if x_6 = (0 : Int) then (if x_8 = (0 : Int) then (Option.bind (slices_Equal_10 a_7 y31) fun y43 => if y43 = true then (Option.bind (slices_EqualFunc_15 a_5 a_12 (fun z74 z75 => roadlaw4_CycleSays_1 z74 z75)) fun y59 => some (y59)) else (some (false))) else (some (false))) else (some (false))) := fixF_eq roadlaw4_CycleSays.l1_k.mono _
def roadlaw4_CycleSays.l1_k.I : (p : roadlaw4_CycleSays.l1_k.Pt) → (Bool) → Prop
  | .l1 a_5 x_6 a_7 x_8 a_11 a_12 x_109 x_110, r => ∀ (W : Nat → Prop) (h0 m0 h m : Heap) (A_5 : Option Addr) (n_5 c_5 : Nat) (A_7 : Option Addr) (n_7 c_7 : Nat) (A_11 : Option Addr) (n_11 c_11 : Nat) (A_12 : Option Addr) (n_12 c_12 : Nat) (O : Hold W h0 m0 h m [rR (aE (tell_row (tell_int .i64))) A_5 c_5 a_5, rR (aE (tell_int .i64)) A_7 c_7 a_7, rR (aE (tell_int .i64)) A_11 c_11 a_11, rR (aRow (aE (tell_int .i64))) A_12 c_12 a_12]) (ne_5 : n_5 = List.length a_5) (ne_7 : n_7 = List.length a_7) (ne_11 : n_11 = List.length a_11) (ne_12 : n_12 = List.length a_12), f3.l1 (roadlaw4_CycleSays.post W h0 m0 r) A_5 n_5 c_5 x_6 A_7 n_7 c_7 x_8 A_11 n_11 c_11 A_12 n_12 c_12 A_12 n_12 c_12 x_109 x_110 h
set_option maxHeartbeats 4000000 in
set_option maxRecDepth 100000 in
theorem roadlaw4_CycleSays.l1_k.step_l1 (go : (p : roadlaw4_CycleSays.l1_k.Pt) → Option (Bool)) (ih : ∀ p r, go p = some r → roadlaw4_CycleSays.l1_k.I p r) (a_5 : List (List Int)) (x_6 : Int) (a_7 : List Int) (x_8 : Int) (a_11 : List Int) (a_12 : List (List Int)) (x_109 : Int) (x_110 : Int) (r : Bool) (e : roadlaw4_CycleSays.l1_k.body go (.l1 a_5 x_6 a_7 x_8 a_11 a_12 x_109 x_110) = some r) : roadlaw4_CycleSays.l1_k.I (.l1 a_5 x_6 a_7 x_8 a_11 a_12 x_109 x_110) r := by
  unfold roadlaw4_CycleSays.l1_k.body at e
  intro W h0 m0 h m A_5 n_5 c_5 A_7 n_7 c_7 A_11 n_11 c_11 A_12 n_12 c_12 O ne_5 ne_7 ne_11 ne_12
  subst ne_5
  subst ne_7
  subst ne_11
  subst ne_12
  refine f3.l1_in ?_
  unfold f3.l1T
  refine split_dec_e e (fun c88 e => ?_) (fun c88 e => ?_)
  · obtain ⟨y3, g4, e⟩ := bind_e e
    refine O.adr 3 rfl rfl g4 fun a1 ha2 => ?_
    obtain ⟨hs5, O6⟩ := O.openX 3 rfl g4
    obtain ⟨A7, c8, hx9, hc10, k11⟩ := O6.hdX 3 rfl ha2 g4
    refine ⟨_, ld0 (Sub.refl _) hc10 rfl, _, _, _, rfl, ?_⟩
    obtain ⟨y14, g15, e⟩ := bind_e e
    have O13 := O6.takeX 3 rfl hx9 g4
    have O20 := O13.nm
    obtain ⟨W21, P22, B23, C24⟩ := O20.callC [4]
    refine (slices_Sort_14.walk P22 rfl g15).mono ?_
    rintro _ h16 ⟨m17, Q18, rfl, hl25⟩
    have O26 := Hold.nm (C24 Q18 (vfs_cons (rR_vf (aE_vf (fun _ _ _ _ h => h))) vfs_nil))
    refine ⟨rfl, ?_⟩
    have O27 := O26.putX 3 5 rfl rfl hx9 hl25 rfl
    have hx28 := hx_len hx9 hl25
    have O29 := O27.closeX 3 rfl
    have O30 := O29.nm
    exact (ih _ _ e) _ _ _ _ _ _ _ _ _ _ _ _ _ _ _ _ _ (O30.pick [0, 1, 2, 3]).nm rfl rfl rfl lset
  · obtain ⟨y31, g32, e⟩ := bind_e e
    obtain ⟨W37, P38, B39, C40⟩ := O.callC [2]
    refine (slices_Sort_14.walk P38 rfl g32).mono ?_
    rintro _ h33 ⟨m34, Q35, rfl, hl41⟩
    have O42 := Hold.nm (C40 Q35 (vfs_cons (rR_vf (aE_vf (fun _ _ _ _ h => h))) vfs_nil))
    refine ⟨rfl, ?_⟩
    refine split_eq_e e (fun c87 e => ?_) (fun c87 e => ?_)
    · refine split_eq_e e (fun c86 e => ?_) (fun c86 e => ?_)
      · obtain ⟨y43, g44, e⟩ := bind_e e
        obtain ⟨m49, u50, s57, ⟨⟨r53, k54⟩, ⟨r55, k56⟩, _⟩, B51, C52⟩ := O42.lend0 [1, 4]
        replace r53 : Rd 1 (eInt .i64) m49 A_7 a_7 := r53
        replace k54 : List.length a_7 ≤ c_7 := k54
        replace r55 : Rd 1 (eInt .i64) m49 A_11 y31 := r55
        replace k56 : List.length y31 ≤ c_11 := k56
        refine (slices_Equal_10.walk (Hold.start (W := No) s57) rfl k54 r53 hl41 k56 r55 g44).mono ?_
        rintro _ h45 ⟨m46, Q47, rfl⟩
        have O58 := Hold.nm (C52 Q47 vfs_nil)
        refine ⟨_, rfl, ?_⟩
        refine split_any_e e (fun c85 e => ?_) (fun c85 e => ?_)
        · obtain ⟨y59, g60, e⟩ := bind_e e
          obtain ⟨m65, u66, s73, ⟨⟨r69, k70⟩, ⟨r71, k72⟩, _⟩, B67, C68⟩ := O58.lend0 [0, 3]
          replace r69 : Rd 1 (eRow 1 (eInt .i64)) m65 A_5 a_5 := r69
          replace k70 : List.length a_5 ≤ c_5 := k70
          replace r71 : Rd 1 (eRow 1 (eInt .i64)) m65 A_12 a_12 := r71
          replace k72 : List.length a_12 ≤ c_12 := k72
          refine (slices_EqualFunc_15.walk (Hold.start (W := No) s73) rfl k70 r69 rfl k72 r71 (fun h76 m77 u78 s79 A82 n82 c82 l82 hn82 k82 r82 A83 n83 c83 l83 hn83 k83 r83 r80 e81 => CallF.of [Value.slice A82 n82 c82, Value.slice A83 n83 c83] f16.ok rfl ((roadlaw4_CycleSays_1.walk (Hold.start (W := No) s79) hn82 k82 r82 hn83 k83 r83 e81).mono (fun _ _ h => let ⟨_, t, e⟩ := h; ⟨e, t.S.ext⟩))) g60).mono ?_
          rintro _ h61 ⟨m62, Q63, rfl⟩
          have O84 := Hold.nm (C68 Q63 vfs_nil)
          refine ⟨_, rfl, ?_⟩
          cases e
          exact ⟨_, O84.pick [], rfl⟩
        · cases e
          exact ⟨_, O58.pick [], rfl⟩
      · cases e
        exact ⟨_, O42.pick [], rfl⟩
    · cases e
      exact ⟨_, O42.pick [], rfl⟩
theorem roadlaw4_CycleSays.l1_k.all {p : roadlaw4_CycleSays.l1_k.Pt} {r : (Bool)} (e : roadlaw4_CycleSays.l1_k.go p = some r) : roadlaw4_CycleSays.l1_k.I p r := fixF_ind (β := fun _ => (Bool)) roadlaw4_CycleSays.l1_k.mono (I := roadlaw4_CycleSays.l1_k.I) (fun go ih p r e => match p with
  | .l1 a_5 x_6 a_7 x_8 a_11 a_12 x_109 x_110 => roadlaw4_CycleSays.l1_k.step_l1 go ih a_5 x_6 a_7 x_8 a_11 a_12 x_109 x_110 r e
  ) e
theorem roadlaw4_CycleSays.l1.walk {W : Nat → Prop} {h0 m0 h m : Heap} {A_5 : Option Addr} {n_5 c_5 : Nat} {A_7 : Option Addr} {n_7 c_7 : Nat} {A_11 : Option Addr} {n_11 c_11 : Nat} {A_12 : Option Addr} {n_12 c_12 : Nat} {a_5 : List (List Int)} {x_6 : Int} {a_7 : List Int} {x_8 : Int} {a_11 : List Int} {a_12 : List (List Int)} {x_109 : Int} {x_110 : Int} (O : Hold W h0 m0 h m [rR (aE (tell_row (tell_int .i64))) A_5 c_5 a_5, rR (aE (tell_int .i64)) A_7 c_7 a_7, rR (aE (tell_int .i64)) A_11 c_11 a_11, rR (aRow (aE (tell_int .i64))) A_12 c_12 a_12]) (ne_5 : n_5 = List.length a_5) (ne_7 : n_7 = List.length a_7) (ne_11 : n_11 = List.length a_11) (ne_12 : n_12 = List.length a_12) {r : Bool} (e : roadlaw4_CycleSays.l1 a_5 x_6 a_7 x_8 a_11 a_12 x_109 x_110 = some r) : f3.l1 (roadlaw4_CycleSays.post W h0 m0 r) A_5 n_5 c_5 x_6 A_7 n_7 c_7 x_8 A_11 n_11 c_11 A_12 n_12 c_12 A_12 n_12 c_12 x_109 x_110 h := roadlaw4_CycleSays.l1_k.all (p := .l1 a_5 x_6 a_7 x_8 a_11 a_12 x_109 x_110) e W h0 m0 h m A_5 n_5 c_5 A_7 n_7 c_7 A_11 n_11 c_11 A_12 n_12 c_12 O ne_5 ne_7 ne_11 ne_12
inductive roadlaw4_CycleSays.l0_k.Pt where
  | l0 (a_0 : List T_api_Know) (a_5 : List (List Int)) (x_6 : Int) (a_7 : List Int) (x_8 : Int) (a_11 : List Int) (a_12 : List (List Int)) (a_69 : List Int) (x_70 : Int) (x_71 : Int)
  | l2 (a_0 : List T_api_Know) (a_5 : List (List Int)) (x_6 : Int) (a_7 : List Int) (x_8 : Int) (a_11 : List Int) (a_12 : List (List Int)) (x_13 : Int) (x_14 : Int) (a_69 : List Int) (x_70 : Int) (x_71 : Int)
noncomputable def roadlaw4_CycleSays.l0_k.body (go : (p : roadlaw4_CycleSays.l0_k.Pt) → Option (Bool)) : (p : roadlaw4_CycleSays.l0_k.Pt) → Option (Bool)
  | .l0 a_0 a_5 x_6 a_7 x_8 a_11 a_12 a_69 x_70 x_71 => if x_71 < x_70 then (Option.bind (gi a_69 x_71) fun y1 => if y1 < (0 : Int) then (Option.bind (gi a_0 x_71) fun y8 => Option.bind (ap 8 a_11 ([y8.Ref] : List Int)) fun l19 => (go (.l0 a_0 a_5 x_6 a_7 x_8 l19 a_12 a_69 x_70 (IntKind.wrap .i64 (x_71 + (1 : Int)))))) else ((go (.l2 a_0 a_5 x_6 a_7 x_8 a_11 a_12 x_71 y1 a_69 x_70 x_71)))) else ((roadlaw4_CycleSays.l1 a_5 x_6 a_7 x_8 a_11 a_12 (((List.length a_12) : Nat) : Int) (0 : Int)))
  | .l2 a_0 a_5 x_6 a_7 x_8 a_11 a_12 x_13 x_14 a_69 x_70 x_71 => if (((List.length a_12) : Nat) : Int) ≤ x_14 then (Option.bind (ap 24 a_12 [([] : List Int)]) fun l5 => (go (.l2 a_0 a_5 x_6 a_7 x_8 a_11 l5 x_13 x_14 a_69 x_70 x_71))) else (Option.bind (gi a_12 x_14) fun y18 => Option.bind (gi a_0 x_13) fun y20 => Option.bind (ap 8 y18 ([y20.Ref] : List Int)) fun l40 => Option.bind (some (List.set a_12 (Int.toNat x_14) l40)) fun l55 => (go (.l0 a_0 a_5 x_6 a_7 x_8 a_11 l55 a_69 x_70 (IntKind.wrap .i64 (x_71 + (1 : Int))))))
theorem roadlaw4_CycleSays.l0_k.mono : MonoF (β := fun _ => (Bool)) roadlaw4_CycleSays.l0_k.body := fun f g hfg p => match p with
  | .l0 a_0 a_5 x_6 a_7 x_8 a_11 a_12 a_69 x_70 x_71 => LeO.ite (LeO.bind (LeO.refl _) fun y1 => LeO.ite (LeO.bind (LeO.refl _) fun y8 => LeO.bind (LeO.refl _) fun l19 => (hfg _)) ((hfg _))) ((LeO.refl _))
  | .l2 a_0 a_5 x_6 a_7 x_8 a_11 a_12 x_13 x_14 a_69 x_70 x_71 => LeO.ite (LeO.bind (LeO.refl _) fun l5 => (hfg _)) (LeO.bind (LeO.refl _) fun y18 => LeO.bind (LeO.refl _) fun y20 => LeO.bind (LeO.refl _) fun l40 => LeO.bind (LeO.refl _) fun l55 => (hfg _))
noncomputable def roadlaw4_CycleSays.l0_k.go (p : roadlaw4_CycleSays.l0_k.Pt) : Option (Bool) := fixF (β := fun _ => (Bool)) roadlaw4_CycleSays.l0_k.body p
noncomputable def roadlaw4_CycleSays.l0 (a_0 : List T_api_Know) (a_5 : List (List Int)) (x_6 : Int) (a_7 : List Int) (x_8 : Int) (a_11 : List Int) (a_12 : List (List Int)) (a_69 : List Int) (x_70 : Int) (x_71 : Int) : Option (Bool) := roadlaw4_CycleSays.l0_k.go (.l0 a_0 a_5 x_6 a_7 x_8 a_11 a_12 a_69 x_70 x_71)
noncomputable def roadlaw4_CycleSays.l2 (a_0 : List T_api_Know) (a_5 : List (List Int)) (x_6 : Int) (a_7 : List Int) (x_8 : Int) (a_11 : List Int) (a_12 : List (List Int)) (x_13 : Int) (x_14 : Int) (a_69 : List Int) (x_70 : Int) (x_71 : Int) : Option (Bool) := roadlaw4_CycleSays.l0_k.go (.l2 a_0 a_5 x_6 a_7 x_8 a_11 a_12 x_13 x_14 a_69 x_70 x_71)
theorem roadlaw4_CycleSays.l0_eq (a_0 : List T_api_Know) (a_5 : List (List Int)) (x_6 : Int) (a_7 : List Int) (x_8 : Int) (a_11 : List Int) (a_12 : List (List Int)) (a_69 : List Int) (x_70 : Int) (x_71 : Int) : roadlaw4_CycleSays.l0 a_0 a_5 x_6 a_7 x_8 a_11 a_12 a_69 x_70 x_71 = if x_71 < x_70 then (Option.bind (gi a_69 x_71) fun y1 => if y1 < (0 : Int) then (Option.bind (gi a_0 x_71) fun y8 => Option.bind (ap 8 a_11 ([y8.Ref] : List Int)) fun l19 => (roadlaw4_CycleSays.l0 a_0 a_5 x_6 a_7 x_8 l19 a_12 a_69 x_70 (IntKind.wrap .i64 (x_71 + (1 : Int))))) else ((roadlaw4_CycleSays.l2 a_0 a_5 x_6 a_7 x_8 a_11 a_12 x_71 y1 a_69 x_70 x_71))) else ((roadlaw4_CycleSays.l1 a_5 x_6 a_7 x_8 a_11 a_12 (((List.length a_12) : Nat) : Int) (0 : Int))) := fixF_eq roadlaw4_CycleSays.l0_k.mono _
theorem roadlaw4_CycleSays.l2_eq (a_0 : List T_api_Know) (a_5 : List (List Int)) (x_6 : Int) (a_7 : List Int) (x_8 : Int) (a_11 : List Int) (a_12 : List (List Int)) (x_13 : Int) (x_14 : Int) (a_69 : List Int) (x_70 : Int) (x_71 : Int) : roadlaw4_CycleSays.l2 a_0 a_5 x_6 a_7 x_8 a_11 a_12 x_13 x_14 a_69 x_70 x_71 = if (((List.length a_12) : Nat) : Int) ≤ x_14 then (Option.bind (ap 24 a_12 [([] : List Int)]) fun l5 => (roadlaw4_CycleSays.l2 a_0 a_5 x_6 a_7 x_8 a_11 l5 x_13 x_14 a_69 x_70 x_71)) else (Option.bind (gi a_12 x_14) fun y18 => Option.bind (gi a_0 x_13) fun y20 => Option.bind (ap 8 y18 ([y20.Ref] : List Int)) fun l40 => Option.bind (some (List.set a_12 (Int.toNat x_14) l40)) fun l55 => (roadlaw4_CycleSays.l0 a_0 a_5 x_6 a_7 x_8 a_11 l55 a_69 x_70 (IntKind.wrap .i64 (x_71 + (1 : Int))))) := fixF_eq roadlaw4_CycleSays.l0_k.mono _
def roadlaw4_CycleSays.l0_k.I : (p : roadlaw4_CycleSays.l0_k.Pt) → (Bool) → Prop
  | .l0 a_0 a_5 x_6 a_7 x_8 a_11 a_12 a_69 x_70 x_71, r => ∀ (W : Nat → Prop) (h0 m0 h m : Heap) (A_0 : Option Addr) (n_0 c_0 : Nat) (A_5 : Option Addr) (n_5 c_5 : Nat) (A_7 : Option Addr) (n_7 c_7 : Nat) (A_11 : Option Addr) (n_11 c_11 : Nat) (A_12 : Option Addr) (n_12 c_12 : Nat) (A_69 : Option Addr) (n_69 c_69 : Nat) (O : Hold W h0 m0 h m [rR (aE (tell_row (tell_int .i64))) A_5 c_5 a_5, rR (aE (tell_int .i64)) A_7 c_7 a_7, rR (aE (tell_int .i64)) A_11 c_11 a_11, rR (aRow (aE (tell_int .i64))) A_12 c_12 a_12, rR (aE (tell_int .i64)) A_69 c_69 a_69]) (ne_0 : n_0 = List.length a_0) (k_0 : List.length a_0 ≤ c_0) (r_0 : Rd 4 T_api_Know.E m A_0 a_0) (ne_5 : n_5 = List.length a_5) (ne_7 : n_7 = List.length a_7) (ne_11 : n_11 = List.length a_11) (ne_12 : n_12 = List.length a_12) (ne_69 : n_69 = List.length a_69), f3.l0 (roadlaw4_CycleSays.post W h0 m0 r) A_0 n_0 c_0 A_5 n_5 c_5 x_6 A_7 n_7 c_7 x_8 A_11 n_11 c_11 A_12 n_12 c_12 A_69 n_69 c_69 x_70 x_71 h
  | .l2 a_0 a_5 x_6 a_7 x_8 a_11 a_12 x_13 x_14 a_69 x_70 x_71, r => ∀ (W : Nat → Prop) (h0 m0 h m : Heap) (A_0 : Option Addr) (n_0 c_0 : Nat) (A_5 : Option Addr) (n_5 c_5 : Nat) (A_7 : Option Addr) (n_7 c_7 : Nat) (A_11 : Option Addr) (n_11 c_11 : Nat) (A_12 : Option Addr) (n_12 c_12 : Nat) (A_69 : Option Addr) (n_69 c_69 : Nat) (O : Hold W h0 m0 h m [rR (aE (tell_row (tell_int .i64))) A_5 c_5 a_5, rR (aE (tell_int .i64)) A_7 c_7 a_7, rR (aE (tell_int .i64)) A_11 c_11 a_11, rR (aRow (aE (tell_int .i64))) A_12 c_12 a_12, rR (aE (tell_int .i64)) A_69 c_69 a_69]) (ne_0 : n_0 = List.length a_0) (k_0 : List.length a_0 ≤ c_0) (r_0 : Rd 4 T_api_Know.E m A_0 a_0) (ne_5 : n_5 = List.length a_5) (ne_7 : n_7 = List.length a_7) (ne_11 : n_11 = List.length a_11) (ne_12 : n_12 = List.length a_12) (ne_69 : n_69 = List.length a_69), f3.l2 (roadlaw4_CycleSays.post W h0 m0 r) A_0 n_0 c_0 A_5 n_5 c_5 x_6 A_7 n_7 c_7 x_8 A_11 n_11 c_11 A_12 n_12 c_12 x_13 x_14 A_69 n_69 c_69 x_70 x_71 h
set_option maxRecDepth 100000 in
theorem roadlaw4_CycleSays.l0_k.step_l0 (go : (p : roadlaw4_CycleSays.l0_k.Pt) → Option (Bool)) (ih : ∀ p r, go p = some r → roadlaw4_CycleSays.l0_k.I p r) (a_0 : List T_api_Know) (a_5 : List (List Int)) (x_6 : Int) (a_7 : List Int) (x_8 : Int) (a_11 : List Int) (a_12 : List (List Int)) (a_69 : List Int) (x_70 : Int) (x_71 : Int) (r : Bool) (e : roadlaw4_CycleSays.l0_k.body go (.l0 a_0 a_5 x_6 a_7 x_8 a_11 a_12 a_69 x_70 x_71) = some r) : roadlaw4_CycleSays.l0_k.I (.l0 a_0 a_5 x_6 a_7 x_8 a_11 a_12 a_69 x_70 x_71) r := by
  unfold roadlaw4_CycleSays.l0_k.body at e
  intro W h0 m0 h m A_0 n_0 c_0 A_5 n_5 c_5 A_7 n_7 c_7 A_11 n_11 c_11 A_12 n_12 c_12 A_69 n_69 c_69 O ne_0 k_0 r_0 ne_5 ne_7 ne_11 ne_12 ne_69
  subst ne_0
  subst ne_5
  subst ne_7
  subst ne_11
  subst ne_12
  subst ne_69
  refine f3.l0_in ?_
  unfold f3.l0T
  refine split_dec_e e (fun c30 e => ?_) (fun c30 e => ?_)
  · obtain ⟨y1, g2, e⟩ := bind_e e
    refine (O.os 4 rfl).addr rfl g2 fun a3 cs4 ha5 hc6 he7 => ?_
    obtain rfl : cs4 = [(Value.int .i64 y1)] := he7
    refine ⟨_, ld0 (Sub.refl _) hc6 rfl, _, rfl, ?_⟩
    refine split_dec_e e (fun c29 e => ?_) (fun c29 e => ?_)
    · obtain ⟨y8, g9, e⟩ := bind_e e
      refine r_0.addr rfl g9 fun a10 cs11 ha12 hc13 he14 => ?_
      refine ⟨_, ld0 O.s hc13 (T_api_Know.g0 he14), _, rfl, ?_⟩
      refine O.new fun h15 x16 O17 => ?_
      obtain ⟨l19, g20, e⟩ := bind_e e
      have O27 := O17.rowE (l := ([y8.Ref] : List Int)) 5 rfl (tell_int .i64) (show CsE _ _ _ _ _ from (CsE.cons (c1 := [(Value.int .i64 y8.Ref)]) rfl rfl CsE.nil)) rfl
      refine O27.app 2 rfl rfl rfl ((O27.os 5 rfl).srcE rfl) (by decide) g20 fun A21 c22 h23 O24 => ?_
      refine ⟨_, _, _, rfl, ?_⟩
      have O28 := O24.nm
      exact (ih _ _ e) _ _ _ _ _ _ _ _ _ _ _ _ _ _ _ _ _ _ _ _ _ _ _ (O28.pick [0, 1, 2, 3, 4]).nm rfl k_0 r_0 rfl rfl rfl rfl rfl
    · exact (ih _ _ e) _ _ _ _ _ _ _ _ _ _ _ _ _ _ _ _ _ _ _ _ _ _ _ (O.pick [0, 1, 2, 3, 4]).nm rfl k_0 r_0 rfl rfl rfl rfl rfl
  · exact roadlaw4_CycleSays.l1.walk (O.pick [0, 1, 2, 3]).nm rfl rfl rfl rfl e
set_option maxHeartbeats 4000000 in
set_option maxRecDepth 100000 in
theorem roadlaw4_CycleSays.l0_k.step_l2 (go : (p : roadlaw4_CycleSays.l0_k.Pt) → Option (Bool)) (ih : ∀ p r, go p = some r → roadlaw4_CycleSays.l0_k.I p r) (a_0 : List T_api_Know) (a_5 : List (List Int)) (x_6 : Int) (a_7 : List Int) (x_8 : Int) (a_11 : List Int) (a_12 : List (List Int)) (x_13 : Int) (x_14 : Int) (a_69 : List Int) (x_70 : Int) (x_71 : Int) (r : Bool) (e : roadlaw4_CycleSays.l0_k.body go (.l2 a_0 a_5 x_6 a_7 x_8 a_11 a_12 x_13 x_14 a_69 x_70 x_71) = some r) : roadlaw4_CycleSays.l0_k.I (.l2 a_0 a_5 x_6 a_7 x_8 a_11 a_12 x_13 x_14 a_69 x_70 x_71) r := by
  unfold roadlaw4_CycleSays.l0_k.body at e
  intro W h0 m0 h m A_0 n_0 c_0 A_5 n_5 c_5 A_7 n_7 c_7 A_11 n_11 c_11 A_12 n_12 c_12 A_69 n_69 c_69 O ne_0 k_0 r_0 ne_5 ne_7 ne_11 ne_12 ne_69
  subst ne_0
  subst ne_5
  subst ne_7
  subst ne_11
  subst ne_12
  subst ne_69
  refine f3.l2_in ?_
  unfold f3.l2T
  refine split_dec_e e (fun c61 e => ?_) (fun c61 e => ?_)
  · refine O.new fun h1 x2 O3 => ?_
    obtain ⟨l5, g6, e⟩ := bind_e e
    have O13 := O3.nil (aE (tell_int .i64)) none
    refine O13.appR 3 6 rfl rfl rfl rfl (srcV O13 5 rfl rfl) (by decide) g6 fun A7 c8 h9 O10 => ?_
    refine ⟨_, _, _, rfl, ?_⟩
    have O15 := O10.nm
    exact (ih _ _ e) _ _ _ _ _ _ _ _ _ _ _ _ _ _ _ _ _ _ _ _ _ _ _ (O15.pick [0, 1, 2, 3, 4]).nm rfl k_0 r_0 rfl rfl rfl rfl rfl
  · obtain ⟨y18, g19, e⟩ := bind_e e
    refine O.adr 3 rfl rfl g19 fun a16 ha17 => ?_
    obtain ⟨y20, g21, e⟩ := bind_e e
    refine r_0.addr rfl g21 fun a22 cs23 ha24 hc25 he26 => ?_
    obtain ⟨hs27, O28⟩ := O.openX 3 rfl g19
    obtain ⟨A29, c30, hx31, hc32, k33⟩ := O28.hdX 3 rfl ha17 g19
    refine ⟨_, ld0 (Sub.refl _) hc32 rfl, _, _, _, rfl, ?_⟩
    refine ⟨_, ld0 O28.s hc25 (T_api_Know.g0 he26), _, rfl, ?_⟩
    refine O28.new fun h35 x36 O37 => ?_
    refine ⟨x36, ?_⟩
    obtain ⟨l40, g41, e⟩ := bind_e e
    have O39 := O37.takeX 3 rfl hx31 g19
    have O48 := O39.rowE (l := ([y20.Ref] : List Int)) 5 rfl (tell_int .i64) (show CsE _ _ _ _ _ from (CsE.cons (c1 := [(Value.int .i64 y20.Ref)]) rfl rfl CsE.nil)) rfl
    refine O48.app 6 rfl rfl rfl ((O48.os 5 rfl).srcE rfl) (by decide) g41 fun A42 c43 h44 O45 => ?_
    refine ⟨_, _, _, rfl, ?_⟩
    have O49 := O45.nm
    refine O49.adrX 3 rfl rfl g19 fun a50 ha51 => ?_
    obtain ⟨l55, g56, e⟩ := bind_e e
    replace g56 := Option.some.inj g56
    refine O49.hdSt 3 rfl ha51 (v := (Value.slice A42 (List.length l40) c43)) trivial fun h52 O53 => ?_
    have hx57 := hs_set (v := (Value.slice A42 (List.length l40) c43)) hx31
    have O54 := O53.putX 3 6 rfl rfl hx57 rfl g56
    have O59 := O54.closeX 3 rfl
    have O60 := O59.nm
    exact (ih _ _ e) _ _ _ _ _ _ _ _ _ _ _ _ _ _ _ _ _ _ _ _ _ _ _ (O60.pick [0, 1, 2, 3, 4]).nm rfl k_0 r_0 rfl rfl rfl (lset' g56) rfl
theorem roadlaw4_CycleSays.l0_k.all {p : roadlaw4_CycleSays.l0_k.Pt} {r : (Bool)} (e : roadlaw4_CycleSays.l0_k.go p = some r) : roadlaw4_CycleSays.l0_k.I p r := fixF_ind (β := fun _ => (Bool)) roadlaw4_CycleSays.l0_k.mono (I := roadlaw4_CycleSays.l0_k.I) (fun go ih p r e => match p with
  | .l0 a_0 a_5 x_6 a_7 x_8 a_11 a_12 a_69 x_70 x_71 => roadlaw4_CycleSays.l0_k.step_l0 go ih a_0 a_5 x_6 a_7 x_8 a_11 a_12 a_69 x_70 x_71 r e
  | .l2 a_0 a_5 x_6 a_7 x_8 a_11 a_12 x_13 x_14 a_69 x_70 x_71 => roadlaw4_CycleSays.l0_k.step_l2 go ih a_0 a_5 x_6 a_7 x_8 a_11 a_12 x_13 x_14 a_69 x_70 x_71 r e
  ) e
theorem roadlaw4_CycleSays.l0.walk {W : Nat → Prop} {h0 m0 h m : Heap} {A_0 : Option Addr} {n_0 c_0 : Nat} {A_5 : Option Addr} {n_5 c_5 : Nat} {A_7 : Option Addr} {n_7 c_7 : Nat} {A_11 : Option Addr} {n_11 c_11 : Nat} {A_12 : Option Addr} {n_12 c_12 : Nat} {A_69 : Option Addr} {n_69 c_69 : Nat} {a_0 : List T_api_Know} {a_5 : List (List Int)} {x_6 : Int} {a_7 : List Int} {x_8 : Int} {a_11 : List Int} {a_12 : List (List Int)} {a_69 : List Int} {x_70 : Int} {x_71 : Int} (O : Hold W h0 m0 h m [rR (aE (tell_row (tell_int .i64))) A_5 c_5 a_5, rR (aE (tell_int .i64)) A_7 c_7 a_7, rR (aE (tell_int .i64)) A_11 c_11 a_11, rR (aRow (aE (tell_int .i64))) A_12 c_12 a_12, rR (aE (tell_int .i64)) A_69 c_69 a_69]) (ne_0 : n_0 = List.length a_0) (k_0 : List.length a_0 ≤ c_0) (r_0 : Rd 4 T_api_Know.E m A_0 a_0) (ne_5 : n_5 = List.length a_5) (ne_7 : n_7 = List.length a_7) (ne_11 : n_11 = List.length a_11) (ne_12 : n_12 = List.length a_12) (ne_69 : n_69 = List.length a_69) {r : Bool} (e : roadlaw4_CycleSays.l0 a_0 a_5 x_6 a_7 x_8 a_11 a_12 a_69 x_70 x_71 = some r) : f3.l0 (roadlaw4_CycleSays.post W h0 m0 r) A_0 n_0 c_0 A_5 n_5 c_5 x_6 A_7 n_7 c_7 x_8 A_11 n_11 c_11 A_12 n_12 c_12 A_69 n_69 c_69 x_70 x_71 h := roadlaw4_CycleSays.l0_k.all (p := .l0 a_0 a_5 x_6 a_7 x_8 a_11 a_12 a_69 x_70 x_71) e W h0 m0 h m A_0 n_0 c_0 A_5 n_5 c_5 A_7 n_7 c_7 A_11 n_11 c_11 A_12 n_12 c_12 A_69 n_69 c_69 O ne_0 k_0 r_0 ne_5 ne_7 ne_11 ne_12 ne_69
noncomputable def roadlaw4_CycleSays.j0 (a_0 : List T_api_Know) : Option (Bool) :=
  Option.bind (cycle_Passes a_0) fun y1 => Option.bind (cycle_Garbage a_0) fun y13 => Option.bind (roadref4_Knows a_0) fun y25 => if y25 = (0 : Int) then (Option.bind (roadref4_Alive a_0) fun y35 => (roadlaw4_CycleSays.l0 a_0 y1.1 y1.2 y13.1 y13.2 ([] : List Int) ([] : List (List Int)) y35 (((List.length y35) : Nat) : Int) (0 : Int))) else (if y1.2 = y25 then (if y13.2 = y25 then (if (((List.length y1.1) : Nat) : Int) = (0 : Int) then (some (((((List.length y13.1) : Nat) : Int) == (0 : Int)))) else (some (false))) else (some (false))) else (some (false)))
set_option maxHeartbeats 4000000 in
set_option maxRecDepth 100000 in
theorem roadlaw4_CycleSays.j0.walk {W : Nat → Prop} {h0 m0 h m : Heap} {A_0 : Option Addr} {n_0 c_0 : Nat} {a_0 : List T_api_Know} (O : Hold W h0 m0 h m []) (ne_0 : n_0 = List.length a_0) (k_0 : List.length a_0 ≤ c_0) (r_0 : Rd 4 T_api_Know.E m A_0 a_0) {r : Bool} (e : roadlaw4_CycleSays.j0 a_0 = some r) : f3.j0 (roadlaw4_CycleSays.post W h0 m0 r) A_0 n_0 c_0 h := by
  unfold roadlaw4_CycleSays.j0 at e
  subst ne_0
  refine f3.j0_in ?_
  unfold f3.j0T
  obtain ⟨y1, g2, e⟩ := bind_e e
  refine (cycle_Passes.walk (Hold.start (W := No) O.s) rfl k_0 r_0 g2).mono ?_
  rintro _ h3 ⟨m4, A7, n8, c9, Q5, rfl, ne10⟩
  have O12 := Hold.nm (O.ret Q5)
  subst ne10
  refine ⟨_, _, _, _, rfl, ?_⟩
  obtain ⟨y13, g14, e⟩ := bind_e e
  refine (cycle_Garbage.walk (Hold.start (W := No) O12.s) rfl k_0 (r_0.sub T_api_Know.T Q5.S.up) g14).mono ?_
  rintro _ h15 ⟨m16, A19, n20, c21, Q17, rfl, ne22⟩
  have O24 := Hold.nm (O12.retC Q17 (vfs_cons (rR_vf (aE_vf (fun _ _ _ _ h => h))) vfs_nil))
  subst ne22
  refine ⟨_, _, _, _, rfl, ?_⟩
  obtain ⟨y25, g26, e⟩ := bind_e e
  refine (roadref4_Knows.walk (Hold.start (W := No) O24.s) rfl k_0 (r_0.sub T_api_Know.T Q5.S.up) g26).mono ?_
  rintro _ h27 ⟨m28, Q29, rfl⟩
  have O31 := Hold.nm (O24.retC Q29 vfs_nil)
  refine ⟨_, rfl, ?_⟩
  refine split_ne_e e (fun c52 e => ?_) (fun c52 e => ?_)
  · refine split_eq_e e (fun c34 e => ?_) (fun c34 e => ?_)
    · refine split_eq_e e (fun c33 e => ?_) (fun c33 e => ?_)
      · refine split_eq_e e (fun c32 e => ?_) (fun c32 e => ?_)
        · cases e
          exact ⟨_, O31.pick [], rfl⟩
        · cases e
          exact ⟨_, O31.pick [], rfl⟩
      · cases e
        exact ⟨_, O31.pick [], rfl⟩
    · cases e
      exact ⟨_, O31.pick [], rfl⟩
  · obtain ⟨y35, g36, e⟩ := bind_e e
    refine (roadref4_Alive.walk (Hold.start (W := No) O31.s) rfl k_0 (r_0.sub T_api_Know.T Q5.S.up) g36).mono ?_
    rintro _ h37 ⟨m38, A41, n42, c43, Q39, rfl, ne44⟩
    have O46 := Hold.nm (O31.retC Q39 (vfs_cons (rR_vf (aE_vf (fun _ _ _ _ h => h))) vfs_nil))
    subst ne44
    refine ⟨_, _, _, rfl, ?_⟩
    have O47 := O46.nil (aE (tell_int .i64)) none
    have O49 := O47.nil (aRow (aE (tell_int .i64))) none
    have O51 := O49.nm
    exact roadlaw4_CycleSays.l0.walk (O51.pick [0, 1, 3, 4, 2]).nm rfl k_0 (r_0.sub T_api_Know.T Q5.S.up) rfl rfl rfl rfl rfl e
noncomputable def roadlaw4_CycleSays (a_0 : List T_api_Know) : Option (Bool) :=
  Option.bind (cycle_Garbage ([(T_api_Know.mk (7 : Int) false false ([(8 : Int)] : List Int)), (T_api_Know.mk (8 : Int) false false ([(7 : Int)] : List Int)), (T_api_Know.mk (3 : Int) false true ([] : List Int))] : List T_api_Know)) fun y26 => if y26.2 = (0 : Int) then (Option.bind (slices_Equal_10 y26.1 ([(7 : Int), (8 : Int)] : List Int)) fun y51 => if y51 = true then ((roadlaw4_CycleSays.j0 a_0)) else (some (false))) else (some (false))
set_option maxHeartbeats 4000000 in
set_option maxRecDepth 100000 in
theorem roadlaw4_CycleSays.walk {W : Nat → Prop} {h m : Heap} {A_0 : Option Addr} {n_0 c_0 : Nat} {a_0 : List T_api_Know} (O : Hold W h m h m []) (ne_0 : n_0 = List.length a_0) (k_0 : List.length a_0 ≤ c_0) (r_0 : Rd 4 T_api_Know.E m A_0 a_0) {r : Bool} (e : roadlaw4_CycleSays a_0 = some r) : Run Try.prog 3 #[Value.slice A_0 n_0 c_0] h (roadlaw4_CycleSays.post W h m r) := by
  unfold roadlaw4_CycleSays at e
  subst ne_0
  refine f3.run ?_
  unfold f3.runT
  refine O.new fun h1 x2 O3 => ?_
  refine O3.new fun h5 x6 O7 => ?_
  refine ⟨[(Value.int .i64 (7 : Int)), (Value.bool false), (Value.bool false), (Value.slice (some ⟨(Array.size h), 0, none⟩) 1 1)], rfl, rfl, ?_⟩
  refine ⟨[(Value.int .i64 (8 : Int)), (Value.bool false), (Value.bool false), (Value.slice (some ⟨(Array.size h1), 0, none⟩) 1 1)], rfl, rfl, ?_⟩
  refine ⟨[(Value.int .i64 (3 : Int)), (Value.bool false), (Value.bool true), (Value.slice none 0 0)], rfl, rfl, ?_⟩
  refine O7.new fun h9 x10 O11 => ?_
  obtain ⟨y26, g27, e⟩ := bind_e e
  have O13 := O11.rowE (l := ([(8 : Int)] : List Int)) 0 rfl (tell_int .i64) (show CsE _ _ _ _ _ from (CsE.cons (c1 := [(Value.int .i64 (8 : Int))]) rfl rfl CsE.nil)) rfl
  obtain ⟨m14, u15, ⟨r16, k17⟩, O18⟩ := O13.frz 0 rfl
  replace r16 : Rd 1 (eInt .i64) m14 (some ⟨(Array.size h), 0, none⟩) ([(8 : Int)] : List Int) := r16
  have O19 := O18.rowE (l := ([(7 : Int)] : List Int)) 1 rfl (tell_int .i64) (show CsE _ _ _ _ _ from (CsE.cons (c1 := [(Value.int .i64 (7 : Int))]) rfl rfl CsE.nil)) rfl
  obtain ⟨m20, u21, ⟨r22, k23⟩, O24⟩ := O19.frz 1 rfl
  replace r22 : Rd 1 (eInt .i64) m20 (some ⟨(Array.size h1), 0, none⟩) ([(7 : Int)] : List Int) := r22
  have O25 := O24.rowE (l := ([(T_api_Know.mk (7 : Int) false false ([(8 : Int)] : List Int)), (T_api_Know.mk (8 : Int) false false ([(7 : Int)] : List Int)), (T_api_Know.mk (3 : Int) false true ([] : List Int))] : List T_api_Know)) 2 rfl T_api_Know.T (show CsE _ _ _ _ _ from (CsE.cons (c1 := [(Value.int .i64 (7 : Int)), (Value.bool false), (Value.bool false), (Value.slice (some ⟨(Array.size h), 0, none⟩) 1 1)]) (show T_api_Know.E _ (T_api_Know.mk (7 : Int) false false ([(8 : Int)] : List Int)) [(Value.int .i64 (7 : Int)), (Value.bool false), (Value.bool false), (Value.slice (some ⟨(Array.size h), 0, none⟩) 1 1)] from ⟨_, _, rfl, k17, (r16.sub (tell_int .i64) u21)⟩) rfl (CsE.cons (c1 := [(Value.int .i64 (8 : Int)), (Value.bool false), (Value.bool false), (Value.slice (some ⟨(Array.size h1), 0, none⟩) 1 1)]) (show T_api_Know.E _ (T_api_Know.mk (8 : Int) false false ([(7 : Int)] : List Int)) [(Value.int .i64 (8 : Int)), (Value.bool false), (Value.bool false), (Value.slice (some ⟨(Array.size h1), 0, none⟩) 1 1)] from ⟨_, _, rfl, k23, r22⟩) rfl (CsE.cons (c1 := [(Value.int .i64 (3 : Int)), (Value.bool false), (Value.bool true), (Value.slice none 0 0)]) (show T_api_Know.E _ (T_api_Know.mk (3 : Int) false true ([] : List Int)) [(Value.int .i64 (3 : Int)), (Value.bool false), (Value.bool true), (Value.slice none 0 0)] from ⟨_, _, rfl, (Nat.le_refl 0), Rd.nil⟩) rfl CsE.nil)))) rfl
  have O32 := O25.nm
  obtain ⟨m33, u34, s39, ⟨⟨r37, k38⟩, _⟩, B35, C36⟩ := O32.lend0 [2]
  replace r37 : Rd 4 T_api_Know.E m33 (some ⟨(Array.size h5), 0, none⟩) ([(T_api_Know.mk (7 : Int) false false ([(8 : Int)] : List Int)), (T_api_Know.mk (8 : Int) false false ([(7 : Int)] : List Int)), (T_api_Know.mk (3 : Int) false true ([] : List Int))] : List T_api_Know) := r37
  replace k38 : List.length ([(T_api_Know.mk (7 : Int) false false ([(8 : Int)] : List Int)), (T_api_Know.mk (8 : Int) false false ([(7 : Int)] : List Int)), (T_api_Know.mk (3 : Int) false true ([] : List Int))] : List T_api_Know) ≤ 3 := k38
  refine (cycle_Garbage.walk (Hold.start (W := No) s39) rfl k38 r37 g27).mono ?_
  rintro _ h28 ⟨m29, A40, n41, c42, Q30, rfl, ne43⟩
  have O45 := Hold.nm (C36 Q30 (vfs_cons (rR_vf (aE_vf (fun _ _ _ _ h => h))) vfs_nil))
  subst ne43
  refine ⟨_, _, _, _, rfl, ?_⟩
  refine split_ne_e e (fun c69 e => ?_) (fun c69 e => ?_)
  · cases e
    exact ⟨_, O45.pick [], rfl⟩
  · refine O45.new fun h46 x47 O48 => ?_
    obtain ⟨y51, g52, e⟩ := bind_e e
    have O50 := O48.rowE (l := ([(7 : Int), (8 : Int)] : List Int)) 4 rfl (tell_int .i64) (show CsE _ _ _ _ _ from (CsE.cons (c1 := [(Value.int .i64 (7 : Int))]) rfl rfl (CsE.cons (c1 := [(Value.int .i64 (8 : Int))]) rfl rfl CsE.nil))) rfl
    have O57 := O50.nm
    obtain ⟨m58, u59, s66, ⟨⟨r62, k63⟩, ⟨r64, k65⟩, _⟩, B60, C61⟩ := O57.lend0 [3, 4]
    replace r62 : Rd 1 (eInt .i64) m58 A40 y26.1 := r62
    replace k63 : List.length y26.1 ≤ c42 := k63
    replace r64 : Rd 1 (eInt .i64) m58 (some ⟨(Array.size h28), 0, none⟩) ([(7 : Int), (8 : Int)] : List Int) := r64
    replace k65 : List.length ([(7 : Int), (8 : Int)] : List Int) ≤ 2 := k65
    refine (slices_Equal_10.walk (Hold.start (W := No) s66) rfl k63 r62 rfl k65 r64 g52).mono ?_
    rintro _ h53 ⟨m54, Q55, rfl⟩
    have O67 := Hold.nm (C61 Q55 vfs_nil)
    refine ⟨_, rfl, ?_⟩
    refine split_not ?_
    refine split_any_e e (fun c68 e => ?_) (fun c68 e => ?_)
    · exact roadlaw4_CycleSays.j0.walk (O67.pick []).nm rfl k_0 (r_0.sub T_api_Know.T (u15.trans u21)) e
    · cases e
      exact ⟨_, O67.pick [], rfl⟩
end Go.Proofs.Ythnlhffpmlgmfad.Fw

end
section
namespace Go.Proofs.Ythnlhffpmlgmfad.Fw
open Go Go.Hw Go.Proofs
set_option linter.unusedVariables false
set_option linter.unusedSectionVars false
abbrev Kn := T_api_Know
def rf (l : List Kn) (j : Nat) : Int := match l[j]? with | some k => k.Ref | none => 0
def rs (l : List Kn) (j : Nat) : List Int := match l[j]? with | some k => k.Refs | none => []
def rt (l : List Kn) (j : Nat) : Bool := match l[j]? with | some k => k.Root || k.Awake | none => false
theorem rf_at {l : List Kn} {j : Nat} (h : j < l.length) : l[j].Ref = rf l j := by unfold rf; rw [List.getElem?_eq_getElem h]
theorem rs_at {l : List Kn} {j : Nat} (h : j < l.length) : l[j].Refs = rs l j := by unfold rs; rw [List.getElem?_eq_getElem h]
theorem rt_at {l : List Kn} {j : Nat} (h : j < l.length) : (l[j].Root || l[j].Awake) = rt l j := by unfold rt; rw [List.getElem?_eq_getElem h]
def nxt (l : List Kn) (f : Nat → Int) (n : Nat) (q : Nat) : Int := if f q < 0 ∧ (List.range l.length).any (fun k => decide (f k = n) && decide (rf l q ∈ rs l k)) = true then (n : Int) + 1 else f q
def lv (l : List Kn) : Nat → Nat → Int
  | 0, q => if rt l q = true then 0 else -1
  | n + 1, q => nxt l (lv l n) n q
theorem lv_succ (l : List Kn) (n q : Nat) : lv l (n + 1) q = nxt l (lv l n) n q := rfl
theorem any_iff {l : List Kn} {f : Nat → Int} {n q : Nat} : (List.range l.length).any (fun k => decide (f k = n) && decide (rf l q ∈ rs l k)) = true ↔ ∃ k, k < l.length ∧ f k = n ∧ rf l q ∈ rs l k := by
  rw [List.any_eq_true]
  constructor
  · rintro ⟨k, hk, h⟩
    simp only [Bool.and_eq_true, decide_eq_true_eq] at h
    exact ⟨k, List.mem_range.1 hk, h.1, h.2⟩
  · rintro ⟨k, hk, h1, h2⟩
    exact ⟨k, List.mem_range.2 hk, by simp [h1, h2]⟩
theorem lv_in (l : List Kn) : ∀ n q, -1 ≤ lv l n q ∧ lv l n q ≤ n := by
  intro n
  induction n with
  | zero => intro q; unfold lv; split <;> omega
  | succ n ih => intro q; rw [lv_succ]; unfold nxt; have := ih q; split <;> omega
theorem lv_eq {l : List Kn} {k q : Nat} : ∀ m, k ≤ m → (lv l m q = k ↔ lv l k q = k) := by
  intro m hm
  induction m with
  | zero => have : k = 0 := by omega
            subst this; exact Iff.rfl
  | succ m ih =>
    by_cases c : k = m + 1
    · subst c; exact Iff.rfl
    · rw [← ih (by omega), lv_succ]; unfold nxt
      have := (lv_in l m q).2
      constructor
      · intro h
        split at h
        · omega
        · exact h
      · intro h; rw [if_neg (by omega)]; exact h
theorem lv_stop {l : List Kn} {n : Nat} (h : ∀ q, q < l.length → lv l n q ≠ n) : ∀ m, n ≤ m → ∀ q, lv l m q = lv l n q := by
  intro m hm
  induction m with
  | zero => have : n = 0 := by omega
            subst this; intro q; rfl
  | succ m ih =>
    by_cases c : n = m + 1
    · subst c; intro q; rfl
    · have ih := ih (by omega)
      intro q
      rw [lv_succ]; unfold nxt
      rw [if_neg, ih]
      rintro ⟨_, h2⟩
      obtain ⟨k, k1, k2, _⟩ := any_iff.1 h2
      rw [ih] at k2
      have := (lv_in l n k).2
      by_cases e : n = m
      · subst e; exact h k k1 k2
      · omega
theorem lv_new {l : List Kn} {n q : Nat} : lv l (n + 1) q = (n + 1 : Nat) ↔ lv l n q < 0 ∧ ∃ k, k < l.length ∧ lv l n k = n ∧ rf l q ∈ rs l k := by
  rw [lv_succ]; unfold nxt
  have := (lv_in l n q).2
  constructor
  · intro h
    by_cases c : lv l n q < 0 ∧ (List.range l.length).any (fun k => decide (lv l n k = n) && decide (rf l q ∈ rs l k)) = true
    · exact ⟨c.1, any_iff.1 c.2⟩
    · rw [if_neg c] at h; omega
  · intro h; rw [if_pos ⟨h.1, any_iff.2 h.2⟩]; rfl
theorem lv_pos {l : List Kn} {n q : Nat} : 0 ≤ lv l (n + 1) q ↔ 0 ≤ lv l n q ∨ lv l (n + 1) q = (n + 1 : Nat) := by
  rw [lv_succ]; unfold nxt
  split
  · constructor
    · intro _; exact .inr rfl
    · intro _; omega
  · constructor
    · intro h; exact .inl h
    · rintro (h | h)
      · exact h
      · omega
def at_ (l : List Kn) (f : Nat → Int) (k : Int) (n : Nat) : List Int := ((List.range n).filter fun j => decide (f j = k)).map (rf l)
def lev (l : List Kn) (k : Nat) : List Int := at_ l (lv l k) k l.length
def dead (l : List Kn) (f : Nat → Int) (n : Nat) : List Int := ((List.range n).filter fun j => decide (f j < 0)).map (rf l)
theorem at_succ (l : List Kn) (f : Nat → Int) (k : Int) (n : Nat) : at_ l f k (n + 1) = if f n = k then at_ l f k n ++ [rf l n] else at_ l f k n := by
  unfold at_
  rw [List.range_succ, List.filter_append, List.map_append]
  by_cases c : f n = k
  · rw [if_pos c]; simp [c]
  · rw [if_neg c]; simp [c]
theorem dead_succ (l : List Kn) (f : Nat → Int) (n : Nat) : dead l f (n + 1) = if f n < 0 then dead l f n ++ [rf l n] else dead l f n := by
  unfold dead
  rw [List.range_succ, List.filter_append, List.map_append]
  by_cases c : f n < 0
  · rw [if_pos c]; simp [c]
  · rw [if_neg c]; simp [c]
theorem at_mem {l : List Kn} {f : Nat → Int} {k : Int} {n : Nat} {x : Int} : x ∈ at_ l f k n ↔ ∃ j, j < n ∧ f j = k ∧ rf l j = x := by
  unfold at_
  simp only [List.mem_map, List.mem_filter, List.mem_range, decide_eq_true_eq]
  constructor
  · rintro ⟨j, ⟨h1, h2⟩, h3⟩; exact ⟨j, h1, h2, h3⟩
  · rintro ⟨j, h1, h2, h3⟩; exact ⟨j, ⟨h1, h2⟩, h3⟩
theorem at_len {l : List Kn} {f : Nat → Int} {k : Int} {n : Nat} : (at_ l f k n).length ≤ n := by
  unfold at_
  rw [List.length_map]
  exact Nat.le_trans (List.length_filter_le _ _) (by rw [List.length_range]; exact Nat.le_refl _)
theorem dead_len {l : List Kn} {f : Nat → Int} {n : Nat} : (dead l f n).length ≤ n := by
  unfold dead
  rw [List.length_map]
  exact Nat.le_trans (List.length_filter_le _ _) (by rw [List.length_range]; exact Nat.le_refl _)
def refs (l : List Kn) : List Int := l.map (·.Ref)
theorem refs_get {l : List Kn} {j : Nat} (h : j < l.length) : (refs l)[j]? = some (rf l j) := by unfold refs; rw [List.getElem?_map, List.getElem?_eq_getElem h, ← rf_at h]; rfl
theorem refs_mem {l : List Kn} {x : Int} : x ∈ refs l ↔ ∃ j, j < l.length ∧ rf l j = x := by
  rw [List.mem_iff_getElem?]
  constructor
  · rintro ⟨j, h⟩
    have hj : j < l.length := by
      rcases Nat.lt_or_ge j l.length with h' | h'
      · exact h'
      · rw [List.getElem?_eq_none (by unfold refs; rw [List.length_map]; exact h')] at h; cases h
    rw [refs_get hj] at h
    exact ⟨j, hj, Option.some.inj h⟩
  · rintro ⟨j, hj, h⟩; exact ⟨j, by rw [refs_get hj, h]⟩
theorem rf_inj {l : List Kn} (nd : (refs l).Nodup) {i j : Nat} (hi : i < l.length) (hj : j < l.length) (h : rf l i = rf l j) : i = j := by
  have hi' : i < (refs l).length := by unfold refs; rw [List.length_map]; exact hi
  have hj' : j < (refs l).length := by unfold refs; rw [List.length_map]; exact hj
  have e : (refs l)[i] = (refs l)[j] := by
    have h1 := refs_get hi; have h2 := refs_get hj
    rw [List.getElem?_eq_getElem hi'] at h1; rw [List.getElem?_eq_getElem hj'] at h2
    rw [Option.some.inj h1, Option.some.inj h2, h]
  rcases Nat.lt_trichotomy i j with g | g | g
  · exact absurd e (List.pairwise_iff_getElem.1 nd i j hi' hj' g)
  · exact g
  · exact absurd e.symm (List.pairwise_iff_getElem.1 nd j i hj' hi' g)
theorem at_nodup {l : List Kn} (nd : (refs l).Nodup) (f : Nat → Int) (k : Int) : (at_ l f k l.length).Nodup := by
  unfold at_
  refine List.Pairwise.map (R := fun i j => i ≠ j ∧ i < l.length ∧ j < l.length) _ (fun i j h e => h.1 (rf_inj nd h.2.1 h.2.2 e)) ?_
  have h1 : (List.range l.length).Pairwise fun i j => i ≠ j ∧ i < l.length ∧ j < l.length := by
    refine List.pairwise_iff_getElem.2 fun i j hi hj hij => ?_
    rw [List.length_range] at hi hj
    simp only [List.getElem_range]
    exact ⟨by omega, hi, hj⟩
  exact h1.filter _
def Ix (l : List Kn) (i : Nat) (es : List (Int × Int)) : Prop := (∀ q, (pget es q).isSome = decide (q ∈ (refs l).take i)) ∧ ∀ k, k < i → k < l.length → pget es (rf l k) = some (k : Int)
theorem take_succ_refs {l : List Kn} {i : Nat} (h : i < l.length) : (refs l).take (i + 1) = (refs l).take i ++ [rf l i] := by
  have hi' : i < (refs l).length := by unfold refs; rw [List.length_map]; exact h
  rw [List.take_succ_eq_append_getElem hi']
  have := refs_get h
  rw [List.getElem?_eq_getElem hi'] at this
  rw [Option.some.inj this]
theorem not_nodup {l : List Kn} {i : Nat} (h : i < l.length) (hm : rf l i ∈ (refs l).take i) : ¬ (refs l).Nodup := by
  intro nd
  have h1 : ((refs l).take (i + 1)).Nodup := nd.sublist (List.take_sublist _ _)
  rw [take_succ_refs h, List.nodup_append] at h1
  exact h1.2.2 _ hm _ (List.mem_singleton.2 rfl) rfl
theorem index_loop {l : List Kn} (hl : l.length ≤ 480) : ∀ (d i : Nat) (es : List (Int × Int)), i + d = l.length → Ix l i es → ((refs l).take i).Nodup →
    ∃ r, cycle_index.l0 es l (l.length : Int) (i : Int) = some r ∧ ((refs l).Nodup → ∃ es', r = (some es', 0) ∧ Ix l l.length es') ∧ (¬ (refs l).Nodup → r = (none, 5)) := by
  intro d
  induction d with
  | zero =>
    intro i es h1 h2 h3
    have : i = l.length := by omega
    subst this
    refine ⟨(some es, 0), by rw [cycle_index.l0_eq, if_neg (by omega)], fun _ => ⟨es, rfl, h2⟩, fun h => absurd ?_ h⟩
    rwa [List.take_of_length_le (by unfold refs; rw [List.length_map]; exact Nat.le_refl _)] at h3
  | succ d ih =>
    intro i es h1 h2 h3
    have hi : i < l.length := by omega
    rw [cycle_index.l0_eq, if_pos (by omega), gi_at hi, Option.bind_some, rf_at hi, h2.1]
    by_cases c : rf l i ∈ (refs l).take i
    · rw [if_pos (decide_eq_true c)]
      exact ⟨_, rfl, fun nd => absurd nd (not_nodup hi c), fun _ => rfl⟩
    · rw [if_neg (by simpa using c), Option.bind_some, w_succ (by omega)]
      refine ih (i + 1) _ (by omega) ⟨fun q => ?_, fun k hk hkl => ?_⟩ ?_
      · rw [pget_pset, take_succ_refs hi]
        by_cases e : q = rf l i
        · rw [if_pos e]; subst e; simp
        · rw [if_neg e, h2.1]
          exact decide_eq_decide.2 (by simp [e])
      · rw [pget_pset]
        by_cases e : rf l k = rf l i
        · rw [if_pos e]
          by_cases ki : k = i
          · subst ki; rfl
          · exfalso
            apply c
            rw [← e]
            have := refs_get hkl
            exact List.mem_iff_getElem?.2 ⟨k, by rw [List.getElem?_take_of_lt (by omega)]; exact this⟩
        · rw [if_neg e]
          exact h2.2 k (by
            rcases Nat.lt_or_ge k i with g | g
            · exact g
            · have : k = i := by omega
              subst this; exact absurd rfl e) hkl
      · rw [take_succ_refs hi, List.nodup_append]
        exact ⟨h3, by simp, fun a ha b hb => by rw [List.mem_singleton.1 hb]; exact fun e => c (e ▸ ha)⟩
theorem knows_loop {l : List Kn} (hl : l.length ≤ 480) : ∀ (d i : Nat), i + d = l.length → ((refs l).take i).Nodup → roadref4_Knows.l0 l l (l.length : Int) (i : Int) = some (if (refs l).Nodup then 0 else 5) := by
  intro d
  induction d with
  | zero =>
    intro i h1 h3
    have : i = l.length := by omega
    subst this
    rw [List.take_of_length_le (by unfold refs; rw [List.length_map]; exact Nat.le_refl _)] at h3
    rw [roadref4_Knows.l0_eq, if_neg (by omega), if_pos h3]
  | succ d ih =>
    intro i h1 h3
    have hi : i < l.length := by omega
    have hc := slices_ContainsFunc_25.val (l := l.take i) (p := fun z32 => roadref4_Knows_1 z32 l[i]) (fun z => z.Ref == l[i].Ref) (fun z _ => rfl) (by rw [List.length_take]; omega)
    rw [roadref4_Knows.l0_eq, if_pos (by omega), gi_at hi, Option.bind_some, sls_take rfl (by omega), Option.bind_some, hc, Option.bind_some]
    have e : ((l.take i).any fun z => z.Ref == l[i].Ref) = decide (rf l i ∈ (refs l).take i) := by
      rw [rf_at hi]
      have : (refs l).take i = (l.take i).map (·.Ref) := by unfold refs; rw [List.map_take]
      rw [this, Bool.eq_iff_iff, List.any_eq_true, decide_eq_true_eq, List.mem_map]
      simp only [beq_iff_eq]
    rw [e]
    by_cases c : rf l i ∈ (refs l).take i
    · rw [if_pos (decide_eq_true c), if_neg (not_nodup hi c)]
    · rw [if_neg (by simpa using c), w_succ (by omega)]
      refine ih (i + 1) (by omega) ?_
      rw [take_succ_refs hi, List.nodup_append]
      exact ⟨h3, by simp, fun a ha b hb => by rw [List.mem_singleton.1 hb]; exact fun e => c (e ▸ ha)⟩
def Is (l : List Kn) (a : List Int) (f : Nat → Int) : Prop := a.length = l.length ∧ ∀ q, q < l.length → a[q]? = some (f q)
theorem Is.gi {l : List Kn} {a : List Int} {f : Nat → Int} (h : Is l a f) {q : Nat} (hq : q < l.length) : gi a (q : Int) = some (f q) := by rw [gi_nat]; exact h.2 q hq
theorem Is.set {l : List Kn} {a : List Int} {f : Nat → Int} (h : Is l a f) {q : Nat} (hq : q < l.length) (v : Int) : Is l (a.set q v) (fun j => if j = q then v else f j) := by
  refine ⟨by rw [List.length_set]; exact h.1, fun j hj => ?_⟩
  rw [List.getElem?_set]
  show _ = some (if j = q then v else f j)
  by_cases c : q = j
  · rw [if_pos c, if_pos (by rw [h.1]; exact hq), if_pos (show j = q from c.symm)]
  · rw [if_neg c, if_neg (show ¬ j = q from fun e => c e.symm)]; exact h.2 j hj
theorem Is.congr {l : List Kn} {a : List Int} {f g : Nat → Int} (h : Is l a f) (e : ∀ q, q < l.length → f q = g q) : Is l a g := ⟨h.1, fun q hq => by rw [h.2 q hq, e q hq]⟩
theorem alive_l3 {l : List Kn} (hl : l.length ≤ 480) (hQ : ∀ k ∈ l, k.Refs.length ≤ 4611686018427387904) {n k : Nat} (hn : n ≤ 1000) (hk : k < l.length) {x33 x34 : Int} : ∀ (d j : Nat) (a : List Int) (f : Nat → Int), j + d = l.length → Is l a f →
    ∃ a', Is l a' (fun q => if j ≤ q ∧ f q < 0 ∧ rf l q ∈ rs l k then (n : Int) + 1 else f q) ∧ roadref4_Alive.l3 l a (n : Int) (k : Int) x33 x34 (l.length : Int) (k : Int) (l.length : Int) (j : Int) = roadref4_Alive.l2 l a' (n : Int) x33 x34 (l.length : Int) (IntKind.wrap .i64 ((k : Int) + 1)) := by
  intro d
  induction d with
  | zero =>
    intro j a f h1 h2
    refine ⟨a, h2.congr fun q hq => by rw [if_neg (by omega)], by rw [roadref4_Alive.l3_eq, if_neg (by omega)]⟩
  | succ d ih =>
    intro j a f h1 h2
    have hj : j < l.length := by omega
    rw [roadref4_Alive.l3_eq, if_pos (by omega), h2.gi hj, Option.bind_some]
    by_cases c : f j < 0
    · rw [if_pos c, gi_at hk, Option.bind_some, gi_at hj, Option.bind_some, rs_at hk, rf_at hj, slices_Contains_24.val _ (by rw [← rs_at hk]; exact hQ _ (List.getElem_mem hk)), Option.bind_some, roadref4_Alive.j1_eq]
      by_cases g : rf l j ∈ rs l k
      · rw [if_pos (decide_eq_true g), h2.gi hj, Option.bind_some, Option.bind_some, w_succ (k := n) (by omega), w_succ (k := j) (by omega), show Int.toNat (j : Int) = j from rfl]
        obtain ⟨a', k1, k2⟩ := ih (j + 1) _ _ (by omega) (h2.set hj ((n + 1 : Nat) : Int))
        refine ⟨a', k1.congr fun q hq => ?_, k2⟩
        by_cases e : q = j
        · subst e; simp only [if_true]; rw [if_neg (by omega), if_pos ⟨Nat.le_refl _, c, g⟩]; rfl
        · simp only [if_neg e]
          by_cases e2 : j ≤ q
          · simp only [show j + 1 ≤ q by omega, e2, true_and]
          · simp only [show ¬ j + 1 ≤ q by omega, e2, false_and]
      · rw [if_neg (by simpa using g), w_succ (by omega)]
        obtain ⟨a', k1, k2⟩ := ih (j + 1) a f (by omega) h2
        refine ⟨a', k1.congr fun q hq => ?_, k2⟩
        by_cases e : q = j
        · subst e; rw [if_neg (by omega), if_neg (fun h => g h.2.2)]
        · by_cases e2 : j ≤ q
          · simp only [show j + 1 ≤ q by omega, e2, true_and]
          · simp only [show ¬ j + 1 ≤ q by omega, e2, false_and]
    · rw [if_neg c, roadref4_Alive.j1_eq, if_neg (by decide), w_succ (by omega)]
      obtain ⟨a', k1, k2⟩ := ih (j + 1) a f (by omega) h2
      refine ⟨a', k1.congr fun q hq => ?_, k2⟩
      by_cases e : q = j
      · subst e; rw [if_neg (by omega), if_neg (fun h => c h.2.1)]
      · by_cases e2 : j ≤ q
        · simp only [show j + 1 ≤ q by omega, e2, true_and]
        · simp only [show ¬ j + 1 ≤ q by omega, e2, false_and]
theorem ite_iff {α : Type} {a b : Prop} [Decidable a] [Decidable b] {x y : α} (h : a ↔ b) : (if a then x else y) = if b then x else y := by
  by_cases c : a
  · rw [if_pos c, if_pos (h.1 c)]
  · rw [if_neg c, if_neg (fun k => c (h.2 k))]
open Classical in
theorem alive_l2 {l : List Kn} (hl : l.length ≤ 480) (hQ : ∀ k ∈ l, k.Refs.length ≤ 4611686018427387904) {n : Nat} (hn : n ≤ 1000) {x33 x34 : Int} : ∀ (d k : Nat) (a : List Int) (f : Nat → Int), k + d = l.length → Is l a f → (∀ q, f q ≤ n ∨ f q = (n : Int) + 1) →
    ∃ a', Is l a' (fun q => if f q < 0 ∧ (∃ i, k ≤ i ∧ i < l.length ∧ f i = n ∧ rf l q ∈ rs l i) then (n : Int) + 1 else f q) ∧ roadref4_Alive.l2 l a (n : Int) x33 x34 (l.length : Int) (k : Int) = roadref4_Alive.l1 l a' x33 (IntKind.wrap .i64 (x34 + 1)) := by
  intro d
  induction d with
  | zero =>
    intro k a f h1 h2 h3
    refine ⟨a, h2.congr fun q hq => by rw [if_neg (by rintro ⟨_, i, _, _, _⟩; omega)], by rw [roadref4_Alive.l2_eq, if_neg (by omega)]⟩
  | succ d ih =>
    intro k a f h1 h2 h3
    have hk : k < l.length := by omega
    rw [roadref4_Alive.l2_eq, if_pos (by omega), h2.gi hk, Option.bind_some]
    by_cases c : f k = n
    · rw [if_pos c]
      obtain ⟨a1, k1, k2⟩ := alive_l3 hl hQ hn hk (x33 := x33) (x34 := x34) l.length 0 a f (by omega) h2
      rw [show ((0 : Nat) : Int) = 0 from rfl] at k2
      rw [k2, w_succ (by omega)]
      obtain ⟨g1, hA, hB, k3⟩ : ∃ g1 : Nat → Int, (∀ q, f q < 0 → rf l q ∈ rs l k → g1 q = (n : Int) + 1) ∧ (∀ q, ¬ (f q < 0 ∧ rf l q ∈ rs l k) → g1 q = f q) ∧ Is l a1 g1 :=
        ⟨_, fun q u v => if_pos ⟨Nat.zero_le _, u, v⟩, fun q u => if_neg (fun h => u h.2), k1⟩
      obtain ⟨a2, m1, m2⟩ := ih (k + 1) a1 g1 (by omega) k3 (fun q => by
        by_cases u : f q < 0 ∧ rf l q ∈ rs l k
        · exact .inr (hA q u.1 u.2)
        · rw [hB q u]; exact h3 q)
      refine ⟨a2, m1.congr fun q hq => ?_, m2⟩
      by_cases u : f q < 0 ∧ rf l q ∈ rs l k
      · rw [hA q u.1 u.2, if_neg (by omega), if_pos ⟨u.1, k, Nat.le_refl _, hk, c, u.2⟩]
      · rw [hB q u]
        refine ite_iff (and_congr_right fun hq0 => ⟨?_, ?_⟩)
        · rintro ⟨i, i1, i2, i3, i4⟩
          refine ⟨i, by omega, i2, ?_, i4⟩
          by_cases v : f i < 0 ∧ rf l i ∈ rs l k
          · rw [hA i v.1 v.2] at i3; omega
          · rw [hB i v] at i3; exact i3
        · rintro ⟨i, i1, i2, i3, i4⟩
          by_cases e : i = k
          · subst e; exact absurd ⟨hq0, i4⟩ u
          · exact ⟨i, by omega, i2, by rw [hB i (fun v => by omega)]; exact i3, i4⟩
    · rw [if_neg c, w_succ (by omega)]
      obtain ⟨a2, m1, m2⟩ := ih (k + 1) a f (by omega) h2 h3
      refine ⟨a2, m1.congr fun q hq => ?_, m2⟩
      refine ite_iff (and_congr_right fun _ => ⟨?_, ?_⟩)
      · rintro ⟨i, i1, i2, i3, i4⟩; exact ⟨i, by omega, i2, i3, i4⟩
      · rintro ⟨i, i1, i2, i3, i4⟩
        by_cases e : i = k
        · subst e; exact absurd i3 c
        · exact ⟨i, by omega, i2, i3, i4⟩
open Classical in
theorem alive_l1 {l : List Kn} (hl : l.length ≤ 480) (hQ : ∀ k ∈ l, k.Refs.length ≤ 4611686018427387904) : ∀ (d n : Nat) (a : List Int), n + d = l.length → Is l a (lv l n) → ∃ a', roadref4_Alive.l1 l a (l.length : Int) (n : Int) = some a' ∧ Is l a' (lv l l.length) := by
  intro d
  induction d with
  | zero =>
    intro n a h1 h2
    have : n = l.length := by omega
    subst this
    exact ⟨a, by rw [roadref4_Alive.l1_eq, if_neg (by omega)], h2⟩
  | succ d ih =>
    intro n a h1 h2
    rw [roadref4_Alive.l1_eq, if_pos (by omega)]
    obtain ⟨a1, k1, k2⟩ := alive_l2 hl hQ (n := n) (by omega) (x33 := (l.length : Int)) (x34 := (n : Int)) l.length 0 a (lv l n) (by omega) h2 (fun q => .inl (lv_in l n q).2)
    rw [show ((0 : Nat) : Int) = 0 from rfl] at k2
    rw [k2, w_succ (by omega)]
    refine ih (n + 1) a1 (by omega) (k1.congr fun q hq => ?_)
    rw [lv_succ]; unfold nxt
    refine ite_iff (and_congr_right fun _ => ?_)
    rw [any_iff]
    exact ⟨fun ⟨i, _, i2, i3, i4⟩ => ⟨i, i2, i3, i4⟩, fun ⟨i, i2, i3, i4⟩ => ⟨i, Nat.zero_le _, i2, i3, i4⟩⟩
theorem alive_l0 {l : List Kn} (hl : l.length ≤ 480) : ∀ (d i : Nat) (a : List Int), i + d = l.length → a.length = l.length → (∀ q, q < i → a[q]? = some (lv l 0 q)) →
    ∃ a', roadref4_Alive.l0 l a l (l.length : Int) (i : Int) = roadref4_Alive.l1 l a' (l.length : Int) 0 ∧ Is l a' (lv l 0) := by
  intro d
  induction d with
  | zero =>
    intro i a h1 h2 h3
    exact ⟨a, by rw [roadref4_Alive.l0_eq, if_neg (by omega)], h2, fun q hq => h3 q (by omega)⟩
  | succ d ih =>
    intro i a h1 h2 h3
    have hi : i < l.length := by omega
    have key : ∀ b, b = rt l i → ∃ a', roadref4_Alive.j0 l (a.set i (-1)) (i : Int) l (l.length : Int) (i : Int) b = roadref4_Alive.l1 l a' (l.length : Int) 0 ∧ Is l a' (lv l 0) := by
      rintro b rfl
      rw [roadref4_Alive.j0_eq]
      by_cases c : rt l i = true
      · rw [if_pos c, gi_at (show i < (a.set i (-1)).length by rw [List.length_set]; omega), Option.bind_some, Option.bind_some, show Int.toNat (i : Int) = i from rfl, List.set_set, w_succ (by omega)]
        refine ih (i + 1) _ (by omega) (by rw [List.length_set]; exact h2) fun q hq => ?_
        rw [List.getElem?_set]
        by_cases e : i = q
        · subst e; rw [if_pos rfl, if_pos (by omega)]; unfold lv; rw [if_pos c]
        · rw [if_neg e]; exact h3 q (by omega)
      · rw [if_neg c, w_succ (by omega)]
        refine ih (i + 1) _ (by omega) (by rw [List.length_set]; exact h2) fun q hq => ?_
        rw [List.getElem?_set]
        by_cases e : i = q
        · subst e; rw [if_pos rfl, if_pos (by omega)]; unfold lv; rw [if_neg c]
        · rw [if_neg e]; exact h3 q (by omega)
    rw [roadref4_Alive.l0_eq, if_pos (by omega), gi_at hi, Option.bind_some, gi_at (show i < a.length by omega), Option.bind_some, Option.bind_some, show Int.toNat (i : Int) = i from rfl]
    have hr := rt_at hi
    by_cases c : l[i].Root = true
    · rw [if_pos c]; exact key _ (by rw [← hr, c]; rfl)
    · rw [if_neg c]; exact key _ (by rw [← hr, Bool.eq_false_iff.2 c]; rfl)
theorem alive_val {l : List Kn} (hl : l.length ≤ 480) (hQ : ∀ k ∈ l, k.Refs.length ≤ 4611686018427387904) : ∃ a, roadref4_Alive l = some a ∧ Is l a (lv l l.length) := by
  unfold roadref4_Alive
  rw [mks_of rfl (by omega) (by omega), Option.bind_some]
  obtain ⟨a, k1, k2⟩ := alive_l0 hl l.length 0 (List.replicate l.length 0) (by omega) (by simp) (fun q hq => by omega)
  rw [show ((0 : Nat) : Int) = 0 from rfl] at k1
  rw [k1]
  obtain ⟨a', m1, m2⟩ := alive_l1 hl hQ l.length 0 a (by omega) k2
  exact ⟨a', m1, m2⟩
theorem sort_same {p q : List Int} (h : p.Perm q) (hl : p.length ≤ 1000000000000000000) : slices_Sort_14 p = slices_Sort_14 q := by
  obtain ⟨r, r1, r2, r3⟩ := slices_Sort_14.val p hl
  obtain ⟨s, s1, s2, s3⟩ := slices_Sort_14.val q (by rw [← h.length_eq]; exact hl)
  rw [r1, s1, sorted_one (fun x y h k => Int.le_antisymm h k) r2 (s2.trans h.symm) r3 s3]
structure Pi (l : List Kn) (Sn : Int → Prop) (next : List Int) (seen : List (Int × Bool)) : Prop where
  nd : next.Nodup
  mem : ∀ x ∈ next, x ∈ refs l ∧ ¬ Sn x
  sn : ∀ x, pgd seen x false = true ↔ Sn x ∨ x ∈ next
theorem Pi.len {l : List Kn} {Sn : Int → Prop} {next : List Int} {seen : List (Int × Bool)} (h : Pi l Sn next seen) : next.length ≤ l.length := by
  have := h.nd.length_le_of_subset (fun x hx => (h.mem x hx).1)
  unfold refs at this; rwa [List.length_map] at this
theorem pgd_set (es : List (Int × Bool)) (n q : Int) : pgd (pset es n true) q false = if q = n then true else pgd es q false := by
  unfold pgd
  rw [pget_pset]
  split <;> rfl
section
variable {l : List Kn} (hl : l.length ≤ 480) (hQ : ∀ k ∈ l, k.Refs.length ≤ 4611686018427387904) {es : List (Int × Int)} (hx : Ix l l.length es)
include hl hQ hx
theorem ix_some (q : Int) : (pget es q).isSome = decide (q ∈ refs l) := by
  rw [hx.1, List.take_of_length_le (by unfold refs; rw [List.length_map]; exact Nat.le_refl _)]
theorem passes_l3 {Sn : Int → Prop} {k : Nat} (hk : k < l.length) {out : List (List Int)} {pl : List Int} {pn i : Int} : ∀ (d p : Nat) (next : List Int) (seen : List (Int × Bool)), p + d = (rs l k).length → Pi l Sn next seen →
    ∃ next' seen', Pi l Sn next' seen' ∧ (∀ x, x ∈ next' ↔ x ∈ next ∨ (x ∈ refs l ∧ ¬ Sn x ∧ x ∈ (rs l k).drop p)) ∧ cycle_Passes.l3 l es seen out next pl pn i (rs l k) ((rs l k).length : Int) (p : Int) = cycle_Passes.l2 l es seen' out next' pl pn (IntKind.wrap .i64 (i + 1)) := by
  intro d
  induction d with
  | zero =>
    intro p next seen h1 h2
    refine ⟨next, seen, h2, fun x => ?_, by rw [cycle_Passes.l3_eq, if_neg (by omega)]⟩
    rw [List.drop_eq_nil_of_le (by omega)]
    exact ⟨.inl, fun h => h.elim id (fun h => by cases h.2.2)⟩
  | succ d ih =>
    intro p next seen h1 h2
    have hp : p < (rs l k).length := by omega
    have hr : (rs l k).length ≤ 4611686018427387904 := by rw [← rs_at hk]; exact hQ _ (List.getElem_mem hk)
    have hd : (rs l k).drop p = (rs l k)[p] :: (rs l k).drop (p + 1) := List.drop_eq_getElem_cons hp
    have skip : ¬ ((rs l k)[p] ∈ refs l ∧ ¬ pgd seen (rs l k)[p] false = true) → ∃ next' seen', Pi l Sn next' seen' ∧ (∀ x, x ∈ next' ↔ x ∈ next ∨ (x ∈ refs l ∧ ¬ Sn x ∧ x ∈ (rs l k).drop p)) ∧ cycle_Passes.l3 l es seen out next pl pn i (rs l k) ((rs l k).length : Int) (IntKind.wrap .i64 ((p : Int) + 1)) = cycle_Passes.l2 l es seen' out next' pl pn (IntKind.wrap .i64 (i + 1)) := by
      intro hn
      rw [w_succ (by omega)]
      obtain ⟨n', s', k1, k2, k3⟩ := ih (p + 1) next seen (by omega) h2
      refine ⟨n', s', k1, fun x => ?_, k3⟩
      rw [k2, hd]
      constructor
      · rintro (h | ⟨a, b, c⟩)
        · exact .inl h
        · exact .inr ⟨a, b, List.mem_cons_of_mem _ c⟩
      · rintro (h | ⟨a, b, c⟩)
        · exact .inl h
        · rcases List.mem_cons.1 c with rfl | c
          · rw [h2.sn] at hn
            by_cases g : (rs l k)[p] ∈ next
            · exact .inl g
            · exact absurd ⟨a, fun q => q.elim b g⟩ hn
          · exact .inr ⟨a, b, c⟩
    rw [cycle_Passes.l3_eq, if_pos (by omega), gi_at hp, Option.bind_some, ix_some hl hQ hx]
    by_cases c : (rs l k)[p] ∈ refs l
    · rw [if_pos (decide_eq_true c), cycle_Passes.j1_eq]
      by_cases g : pgd seen (rs l k)[p] false = true
      · rw [if_neg (by simp [g])]; exact skip (fun h => h.2 g)
      · rw [if_pos (by simp [g]), Option.bind_some]
        have hlen := h2.len
        rw [ap_one (by omega), Option.bind_some, w_succ (by omega)]
        have hns : ¬ (Sn (rs l k)[p] ∨ (rs l k)[p] ∈ next) := fun h => g ((h2.sn _).2 h)
        obtain ⟨n', s', k1, k2, k3⟩ := ih (p + 1) (next ++ [(rs l k)[p]]) (pset seen (rs l k)[p] true) (by omega) ⟨by
          rw [List.nodup_append]
          exact ⟨h2.nd, by simp, fun a ha b hb => by rw [List.mem_singleton.1 hb]; exact fun e => hns (.inr (e ▸ ha))⟩, fun x hx' => by
          rcases List.mem_append.1 hx' with h | h
          · exact h2.mem x h
          · rw [List.mem_singleton.1 h]; exact ⟨c, fun q => hns (.inl q)⟩, fun x => by
          rw [pgd_set]
          by_cases e : x = (rs l k)[p]
          · rw [if_pos e]; simp [e]
          · rw [if_neg e, h2.sn]; simp [e]⟩
        refine ⟨n', s', k1, fun x => ?_, k3⟩
        rw [k2, hd]
        constructor
        · rintro (h | ⟨a, b, q⟩)
          · rcases List.mem_append.1 h with h | h
            · exact .inl h
            · rw [List.mem_singleton.1 h]; exact .inr ⟨c, fun q => hns (.inl q), List.mem_cons_self ..⟩
          · exact .inr ⟨a, b, List.mem_cons_of_mem _ q⟩
        · rintro (h | ⟨a, b, q⟩)
          · exact .inl (List.mem_append_left _ h)
          · rcases List.mem_cons.1 q with rfl | q
            · exact .inl (List.mem_append_right _ (List.mem_singleton.2 rfl))
            · exact .inr ⟨a, b, q⟩
    · rw [if_neg (by simpa using c), cycle_Passes.j1_eq, if_neg (by decide)]; exact skip (fun h => c h.1)
theorem passes_l2 {Sn : Int → Prop} {out : List (List Int)} {pl : List Int} (hpl : pl.length ≤ 4611686018427387904) (hp : ∀ r ∈ pl, ∃ k, k < l.length ∧ rf l k = r) : ∀ (d i : Nat) (next : List Int) (seen : List (Int × Bool)), i + d = pl.length → Pi l Sn next seen →
    ∃ next' seen', Pi l Sn next' seen' ∧ (∀ x, x ∈ next' ↔ x ∈ next ∨ (x ∈ refs l ∧ ¬ Sn x ∧ ∃ r ∈ pl.drop i, ∃ k, k < l.length ∧ rf l k = r ∧ x ∈ rs l k)) ∧ cycle_Passes.l2 l es seen out next pl (pl.length : Int) (i : Int) = cycle_Passes.l1 l es seen' next' out := by
  intro d
  induction d with
  | zero =>
    intro i next seen h1 h2
    refine ⟨next, seen, h2, fun x => ?_, by rw [cycle_Passes.l2_eq, if_neg (by omega)]⟩
    rw [List.drop_eq_nil_of_le (by omega)]
    exact ⟨.inl, fun h => h.elim id (fun h => by obtain ⟨_, _, r, hr, _⟩ := h; cases hr)⟩
  | succ d ih =>
    intro i next seen h1 h2
    have hi : i < pl.length := by omega
    obtain ⟨k, k1, k2⟩ := hp _ (List.getElem_mem hi)
    have hg : pgd es pl[i] 0 = (k : Int) := by unfold pgd; rw [← k2, hx.2 k k1 k1]; rfl
    rw [cycle_Passes.l2_eq, if_pos (by omega), gi_at hi, Option.bind_some, hg, gi_at k1, Option.bind_some, rs_at k1]
    obtain ⟨n1, s1, m1, m2, m3⟩ := passes_l3 hl hQ hx k1 (out := out) (pl := pl) (pn := (pl.length : Int)) (i := (i : Int)) (rs l k).length 0 next seen (by omega) h2
    rw [show ((0 : Nat) : Int) = 0 from rfl] at m3
    rw [m3, w_succ (by omega)]
    obtain ⟨n2, s2, q1, q2, q3⟩ := ih (i + 1) n1 s1 (by omega) m1
    refine ⟨n2, s2, q1, fun x => ?_, q3⟩
    rw [q2, m2, List.drop_zero, List.drop_eq_getElem_cons hi]
    constructor
    · rintro ((h | ⟨a, b, c⟩) | ⟨a, b, r, r1, r2⟩)
      · exact .inl h
      · exact .inr ⟨a, b, pl[i], List.mem_cons_self .., k, k1, k2, c⟩
      · exact .inr ⟨a, b, r, List.mem_cons_of_mem _ r1, r2⟩
    · rintro (h | ⟨a, b, r, r1, r2⟩)
      · exact .inl (.inl h)
      · rcases List.mem_cons.1 r1 with rfl | r1
        · by_cases g : x ∈ rs l k
          · exact .inl (.inr ⟨a, b, g⟩)
          · obtain ⟨k', k3, k4, k5⟩ := r2
            refine .inl (.inr ⟨a, b, ?_⟩)
            have : k' = k ∨ k' ≠ k := Classical.em _
            rcases this with rfl | hne
            · exact k5
            · exfalso
              have e1 := hx.2 k' k3 k3
              have e2 := hx.2 k k1 k1
              rw [k4, ← k2, e2] at e1
              exact hne (by have := Option.some.inj e1; omega)
        · exact .inr ⟨a, b, r, r1, r2⟩
structure Told (l : List Kn) (out : List (List Int)) : Prop where
  row : ∀ k, k < out.length → out[k]? = slices_Sort_14 (lev l k)
  some : ∀ k, k < out.length → ∃ j, j < l.length ∧ lv l k j = k
omit hl hQ hx in
theorem Told.le {l : List Kn} {out : List (List Int)} (h : Told l out) (hn : out.length ≤ l.length + 1) : out.length ≤ l.length := by
  have h1 : ((List.range out.length).map fun k => ((k : Nat) : Int)).Nodup := by
    refine List.Pairwise.map (R := fun i j => i ≠ j) _ (fun i j h e => h (by omega)) ?_
    exact List.nodup_range
  have h2 := h1.length_le_of_subset (l₂ := (List.range l.length).map (lv l l.length)) (fun x hx => by
    obtain ⟨k, k1, rfl⟩ := List.mem_map.1 hx
    obtain ⟨j, j1, j2⟩ := h.some k (List.mem_range.1 k1)
    refine List.mem_map.2 ⟨j, List.mem_range.2 j1, (lv_eq l.length ?_).2 j2⟩
    have := List.mem_range.1 k1; omega)
  simpa using h2
theorem passes_l1 (nd : (refs l).Nodup) : ∀ (d n : Nat) (seen : List (Int × Bool)) (pass : List Int) (out : List (List Int)), n + d = l.length + 1 → out.length = n → Told l out →
    (∀ x, pgd seen x false = true ↔ ∃ j, j < l.length ∧ rf l j = x ∧ 0 ≤ lv l n j) → pass.Nodup → (∀ x, x ∈ pass ↔ ∃ j, j < l.length ∧ rf l j = x ∧ lv l n j = n) →
    ∃ out', cycle_Passes.l1 l es seen pass out = some (out', 0) ∧ Told l out' ∧ out'.length ≤ l.length ∧ ∀ j, j < l.length → lv l out'.length j ≠ out'.length := by
  intro d
  induction d with
  | zero => intro n seen pass out h1 h2 h3; have := h3.le (by omega); omega
  | succ d ih =>
    intro n seen pass out h1 h2 h3 h4 h5 h6
    have hn := h3.le (by omega)
    have hpl : pass.length ≤ l.length := by
      have := h5.length_le_of_subset (l₂ := refs l) (fun x hx' => by obtain ⟨j, j1, j2, _⟩ := (h6 x).1 hx'; exact refs_mem.2 ⟨j, j1, j2⟩)
      unfold refs at this; rwa [List.length_map] at this
    rw [cycle_Passes.l1_eq]
    by_cases c : pass.length = 0
    · rw [if_neg (by omega)]
      refine ⟨out, rfl, h3, hn, fun j hj e => ?_⟩
      rw [h2] at e
      have := (h6 (rf l j)).2 ⟨j, hj, rfl, e⟩
      rw [List.length_eq_zero_iff.1 c] at this; cases this
    · rw [if_pos (by omega)]
      have hperm : pass.Perm (lev l n) := (List.perm_ext_iff_of_nodup h5 (at_nodup nd _ _)).2 fun x => by
        rw [h6, at_mem]
        exact ⟨fun ⟨j, a, b, q⟩ => ⟨j, a, q, b⟩, fun ⟨j, a, b, q⟩ => ⟨j, a, q, b⟩⟩
      obtain ⟨y, y1, y2, y3⟩ := slices_Sort_14.val pass (by omega)
      rw [y1, Option.bind_some, ap_one (by omega), Option.bind_some]
      have hyl := y2.length_eq
      have hy : ∀ r, r ∈ y ↔ ∃ j, j < l.length ∧ rf l j = r ∧ lv l n j = n := fun r => by rw [y2.mem_iff]; exact h6 r
      obtain ⟨n', s', k1, k2, k3⟩ := passes_l2 hl hQ hx (Sn := fun x => ∃ j, j < l.length ∧ rf l j = x ∧ 0 ≤ lv l n j) (out := out ++ [y]) (pl := y) (by omega) (fun r hr => by obtain ⟨j, j1, j2, _⟩ := (hy r).1 hr; exact ⟨j, j1, j2⟩) y.length 0 [] seen (by omega) ⟨by simp, by simp, fun x => by rw [h4]; simp⟩
      rw [show ((0 : Nat) : Int) = 0 from rfl, hyl] at k3
      rw [k3]
      have hT : Told l (out ++ [y]) := by
        refine ⟨fun k hk => ?_, fun k hk => ?_⟩
        · rw [List.length_append] at hk
          rcases Nat.lt_or_ge k out.length with g | g
          · rw [List.getElem?_append_left g]; exact h3.row k g
          · have : k = n := by simp at hk; omega
            subst this
            rw [List.getElem?_append_right g, show k - out.length = 0 by omega, ← sort_same hperm (by omega), y1]; rfl
        · rw [List.length_append] at hk
          rcases Nat.lt_or_ge k out.length with g | g
          · exact h3.some k g
          · have : k = n := by simp at hk; omega
            subst this
            obtain ⟨x, hx'⟩ : ∃ x, x ∈ pass := List.exists_mem_of_length_pos (by omega)
            obtain ⟨j, j1, _, j3⟩ := (h6 x).1 hx'
            exact ⟨j, j1, j3⟩
      -- whose turn it is next
      have nx : ∀ x, x ∈ n' ↔ ∃ j, j < l.length ∧ rf l j = x ∧ lv l (n + 1) j = (n + 1 : Nat) := by
        intro x
        rw [k2]
        constructor
        · rintro (h | ⟨a, b, r, r1, k, k4, k5, k6⟩)
          · cases h
          · obtain ⟨j, j1, j2⟩ := refs_mem.1 a
            refine ⟨j, j1, j2, lv_new.2 ⟨?_, k, k4, ?_, j2 ▸ k6⟩⟩
            · rcases Int.lt_or_le (lv l n j) 0 with g | g
              · exact g
              · exact absurd ⟨j, j1, j2, g⟩ b
            · rw [List.drop_zero] at r1
              obtain ⟨k', q1, q2, q3⟩ := (hy r).1 r1
              have : k' = k := rf_inj nd q1 k4 (by rw [q2, k5])
              rw [← this]; exact q3
        · rintro ⟨j, j1, j2, j3⟩
          obtain ⟨a, k, k4, k5, k6⟩ := lv_new.1 j3
          refine .inr ⟨refs_mem.2 ⟨j, j1, j2⟩, ?_, rf l k, by rw [List.drop_zero]; exact (hy _).2 ⟨k, k4, rfl, k5⟩, k, k4, rfl, j2 ▸ k6⟩
          rintro ⟨j', q1, q2, q3⟩
          have : j' = j := rf_inj nd q1 j1 (by rw [q2, j2])
          subst this; omega
      refine ih (n + 1) s' n' (out ++ [y]) (by omega) (by simp [h2]) hT (fun x => ?_) k1.nd nx
      rw [k1.sn, nx]
      constructor
      · rintro (⟨j, a, b, q⟩ | ⟨j, a, b, q⟩)
        · exact ⟨j, a, b, lv_pos.2 (.inl q)⟩
        · exact ⟨j, a, b, lv_pos.2 (.inr q)⟩
      · rintro ⟨j, a, b, q⟩
        rcases lv_pos.1 q with q | q
        · exact .inl ⟨j, a, b, q⟩
        · exact .inr ⟨j, a, b, q⟩
omit hQ hx in
theorem passes_l0 : ∀ (d i : Nat) (seen : List (Int × Bool)), i + d = l.length → (∀ x, pgd seen x false = true ↔ x ∈ at_ l (lv l 0) 0 i) →
    ∃ seen', (∀ x, pgd seen' x false = true ↔ x ∈ lev l 0) ∧ cycle_Passes.l0 l es seen (at_ l (lv l 0) 0 i) l (l.length : Int) (i : Int) = cycle_Passes.l1 l es seen' (lev l 0) [] := by
  intro d
  induction d with
  | zero =>
    intro i seen h1 h2
    have : i = l.length := by omega
    subst this
    exact ⟨seen, h2, by rw [cycle_Passes.l0_eq, if_neg (by omega)]; rfl⟩
  | succ d ih =>
    intro i seen h1 h2
    have hi : i < l.length := by omega
    have key : ∀ b, b = rt l i → ∃ seen', (∀ x, pgd seen' x false = true ↔ x ∈ lev l 0) ∧ cycle_Passes.j0 l es seen (at_ l (lv l 0) 0 i) l[i] l (l.length : Int) (i : Int) b = cycle_Passes.l1 l es seen' (lev l 0) [] := by
      rintro b rfl
      rw [cycle_Passes.j0_eq]
      by_cases c : rt l i = true
      · have e : at_ l (lv l 0) 0 (i + 1) = at_ l (lv l 0) 0 i ++ [rf l i] := by rw [at_succ, if_pos (by unfold lv; rw [if_pos c])]
        have := at_len (l := l) (f := lv l 0) (k := 0) (n := i)
        rw [if_pos c, rf_at hi, ap_one (by omega), Option.bind_some, Option.bind_some, w_succ (by omega), ← e]
        refine ih (i + 1) _ (by omega) fun x => ?_
        rw [pgd_set, e]
        by_cases g : x = rf l i
        · rw [if_pos g]; simp [g]
        · rw [if_neg g, h2]; simp [g]
      · have e : at_ l (lv l 0) 0 (i + 1) = at_ l (lv l 0) 0 i := by rw [at_succ, if_neg (by unfold lv; rw [if_neg c]; decide)]
        rw [if_neg c, w_succ (by omega), ← e]
        exact ih (i + 1) _ (by omega) fun x => by rw [h2, e]
    rw [cycle_Passes.l0_eq, if_pos (by omega), gi_at hi, Option.bind_some]
    have hr := rt_at hi
    by_cases c : l[i].Root = true
    · rw [if_pos c]; exact key _ (by rw [← hr, c]; rfl)
    · rw [if_neg c]; exact key _ (by rw [← hr, Bool.eq_false_iff.2 c]; rfl)
end
theorem index_val' {l : List Kn} (hl : l.length ≤ 480) : ∃ r, cycle_index l = some r ∧ ((refs l).Nodup → ∃ es', r = (some es', 0) ∧ Ix l l.length es') ∧ (¬ (refs l).Nodup → r = (none, 5)) := by
  unfold cycle_index
  rw [if_neg (by omega)]
  exact index_loop hl l.length 0 [] (by omega) ⟨fun q => by simp [pget], fun k hk => by omega⟩ (by simp)
theorem passes_good {l : List Kn} (hl : l.length ≤ 480) (hQ : ∀ k ∈ l, k.Refs.length ≤ 4611686018427387904) (nd : (refs l).Nodup) :
    ∃ out, cycle_Passes l = some (out, 0) ∧ Told l out ∧ out.length ≤ l.length ∧ ∀ j, j < l.length → lv l out.length j ≠ out.length := by
  obtain ⟨r, r1, r2, _⟩ := index_val' hl
  obtain ⟨es, rfl, hx⟩ := r2 nd
  unfold cycle_Passes
  rw [r1, Option.bind_some]
  show ∃ out, (if (0 : Int) = 0 then cycle_Passes.l0 l es [] [] l (l.length : Int) 0 else some ([], 0)) = some (out, 0) ∧ _
  rw [if_pos rfl]
  obtain ⟨seen, s1, s2⟩ := passes_l0 hl (es := es) l.length 0 [] (by omega) (fun x => by simp [at_, pgd, pget])
  rw [show at_ l (lv l 0) 0 0 = [] from rfl, show ((0 : Nat) : Int) = 0 from rfl] at s2
  rw [s2]
  have hm : ∀ x, x ∈ lev l 0 ↔ ∃ j, j < l.length ∧ rf l j = x ∧ lv l 0 j = 0 := fun x => by
    show x ∈ at_ l (lv l 0) 0 l.length ↔ _
    rw [at_mem]
    exact ⟨fun ⟨j, a, b, q⟩ => ⟨j, a, q, b⟩, fun ⟨j, a, b, q⟩ => ⟨j, a, q, b⟩⟩
  exact passes_l1 hl hQ hx nd (l.length + 1) 0 seen (lev l 0) [] (by omega) rfl ⟨fun k hk => absurd hk (Nat.not_lt_zero k), fun k hk => absurd hk (Nat.not_lt_zero k)⟩ (fun x => by
    rw [s1, hm]
    exact ⟨fun ⟨j, a, b, q⟩ => ⟨j, a, b, by omega⟩, fun ⟨j, a, b, q⟩ => ⟨j, a, b, by have := (lv_in l 0 j).2; omega⟩⟩) (at_nodup nd _ _) hm
theorem passes_bad {l : List Kn} {c : Int} (h : cycle_index l = some (none, c)) (hc : c ≠ 0) : cycle_Passes l = some ([], c) := by
  unfold cycle_Passes
  rw [h, Option.bind_some]
  show (if c = 0 then (none : Option _) else some ([], c)) = _
  rw [if_neg hc]
theorem garbage_bad {l : List Kn} {c : Int} (h : cycle_index l = some (none, c)) (hc : c ≠ 0) : cycle_Garbage l = some ([], c) := by
  unfold cycle_Garbage
  rw [passes_bad h hc, Option.bind_some]
  show (if c = 0 then _ else some ([], c)) = _
  rw [if_neg hc]
theorem garbage_l2 {l : List Kn} {a : List (List Int)} {n i : Int} {row : List Int} (hr : row.length ≤ 4611686018427387904) : ∀ (d p : Nat) (es : List (Int × Bool)), p + d = row.length →
    ∃ es', (∀ x, pgd es' x false = true ↔ pgd es x false = true ∨ x ∈ row.drop p) ∧ cycle_Garbage.l2 l es a n i row (row.length : Int) (p : Int) = cycle_Garbage.l0 l es' a n (IntKind.wrap .i64 (i + 1)) := by
  intro d
  induction d with
  | zero =>
    intro p es h1
    refine ⟨es, fun x => ?_, by rw [cycle_Garbage.l2_eq, if_neg (by omega)]⟩
    rw [List.drop_eq_nil_of_le (by omega)]; simp
  | succ d ih =>
    intro p es h1
    have hp : p < row.length := by omega
    rw [cycle_Garbage.l2_eq, if_pos (by omega), gi_at hp, Option.bind_some, Option.bind_some, w_succ (by omega)]
    obtain ⟨es', k1, k2⟩ := ih (p + 1) (pset es row[p] true) (by omega)
    refine ⟨es', fun x => ?_, k2⟩
    rw [k1, pgd_set, List.drop_eq_getElem_cons hp, List.mem_cons]
    by_cases e : x = row[p]
    · rw [if_pos e]; simp [e]
    · rw [if_neg e]; simp [e]
theorem garbage_l0 {l : List Kn} {a : List (List Int)} (ha : a.length ≤ 4611686018427387904) (hr : ∀ row ∈ a, row.length ≤ 4611686018427387904) : ∀ (d p : Nat) (es : List (Int × Bool)), p + d = a.length →
    ∃ es', (∀ x, pgd es' x false = true ↔ pgd es x false = true ∨ ∃ row ∈ a.drop p, x ∈ row) ∧ cycle_Garbage.l0 l es a (a.length : Int) (p : Int) = cycle_Garbage.l1 es' [] l (l.length : Int) 0 := by
  intro d
  induction d with
  | zero =>
    intro p es h1
    refine ⟨es, fun x => ?_, by rw [cycle_Garbage.l0_eq, if_neg (by omega)]⟩
    rw [List.drop_eq_nil_of_le (by omega)]; simp
  | succ d ih =>
    intro p es h1
    have hp : p < a.length := by omega
    rw [cycle_Garbage.l0_eq, if_pos (by omega), gi_at hp, Option.bind_some]
    obtain ⟨e1, m1, m2⟩ := garbage_l2 (l := l) (a := a) (n := (a.length : Int)) (i := (p : Int)) (hr _ (List.getElem_mem hp)) a[p].length 0 es (by omega)
    rw [show ((0 : Nat) : Int) = 0 from rfl] at m2
    rw [m2, w_succ (by omega)]
    obtain ⟨es', k1, k2⟩ := ih (p + 1) e1 (by omega)
    refine ⟨es', fun x => ?_, k2⟩
    rw [k1, m1, List.drop_eq_getElem_cons hp, List.drop_zero]
    constructor
    · rintro ((h | h) | ⟨r, r1, r2⟩)
      · exact .inl h
      · exact .inr ⟨_, List.mem_cons_self .., h⟩
      · exact .inr ⟨r, List.mem_cons_of_mem _ r1, r2⟩
    · rintro (h | ⟨r, r1, r2⟩)
      · exact .inl (.inl h)
      · rcases List.mem_cons.1 r1 with rfl | r1
        · exact .inl (.inr r2)
        · exact .inr ⟨r, r1, r2⟩
theorem garbage_l1 {l : List Kn} (hl : l.length ≤ 480) {f : Nat → Int} {es : List (Int × Bool)} (he : ∀ j, j < l.length → (pgd es (rf l j) false = true ↔ ¬ f j < 0)) : ∀ (d i : Nat), i + d = l.length →
    cycle_Garbage.l1 es (dead l f i) l (l.length : Int) (i : Int) = (slices_Sort_14 (dead l f l.length)).bind fun y => some (y, 0) := by
  intro d
  induction d with
  | zero =>
    intro i h1
    have : i = l.length := by omega
    subst this
    rw [cycle_Garbage.l1_eq, if_neg (by omega)]
  | succ d ih =>
    intro i h1
    have hi : i < l.length := by omega
    rw [cycle_Garbage.l1_eq, if_pos (by omega), gi_at hi, Option.bind_some, rf_at hi]
    by_cases c : f i < 0
    · rw [if_neg (fun h => (he i hi).1 h c), ap_one (by have := dead_len (l := l) (f := f) (n := i); omega), Option.bind_some, w_succ (by omega), ← ih (i + 1) (by omega), dead_succ, if_pos c]
    · rw [if_pos ((he i hi).2 c), w_succ (by omega), ← ih (i + 1) (by omega), dead_succ, if_neg c]
theorem lev_eq {l : List Kn} {k : Nat} (hk : k ≤ l.length) : at_ l (lv l l.length) k l.length = lev l k := by
  show at_ l (lv l l.length) k l.length = at_ l (lv l k) k l.length
  unfold at_
  congr 1
  refine List.filter_congr fun j _ => decide_eq_decide.2 (lv_eq l.length hk)
section
variable {l : List Kn} (hl : l.length ≤ 480) (nd : (refs l).Nodup) {out : List (List Int)} (T : Told l out) (hL : out.length ≤ l.length) (hstop : ∀ j, j < l.length → lv l out.length j ≠ out.length)
include hl nd T hL hstop
theorem lv_lt {j : Nat} (hj : j < l.length) : lv l l.length j < out.length := by
  rw [lv_stop hstop _ hL]
  have := (lv_in l out.length j).2
  have := hstop j hj; omega
theorem garbage_good (h : cycle_Passes l = some (out, 0)) : cycle_Garbage l = (slices_Sort_14 (dead l (lv l l.length) l.length)).bind fun y => some (y, 0) := by
  have hrow : ∀ k, k < out.length → ∃ r, out[k]? = some r ∧ r.Perm (lev l k) := fun k hk => by
    obtain ⟨r, r1, r2, _⟩ := slices_Sort_14.val (lev l k) (by have := at_len (l := l) (f := lv l k) (k := k) (n := l.length); show (at_ l (lv l k) k l.length).length ≤ _; omega)
    exact ⟨r, by rw [T.row k hk, r1], r2⟩
  have hmem : ∀ row, row ∈ out ↔ ∃ k, k < out.length ∧ out[k]? = some row := fun row => by
    rw [List.mem_iff_getElem?]
    constructor
    · rintro ⟨k, hk⟩
      rcases Nat.lt_or_ge k out.length with g | g
      · exact ⟨k, g, hk⟩
      · rw [List.getElem?_eq_none g] at hk; cases hk
    · rintro ⟨k, _, hk⟩; exact ⟨k, hk⟩
  obtain ⟨es, k1, k2⟩ := garbage_l0 (l := l) (a := out) (by omega) (fun row hr => by
    obtain ⟨k, hk, hk2⟩ := (hmem row).1 hr
    obtain ⟨r, r1, r2⟩ := hrow k hk
    obtain rfl : r = row := Option.some.inj (r1.symm.trans hk2)
    rw [r2.length_eq]
    have := at_len (l := l) (f := lv l k) (k := k) (n := l.length)
    show (at_ l (lv l k) k l.length).length ≤ _; omega) out.length 0 [] (by omega)
  unfold cycle_Garbage
  rw [h, Option.bind_some]
  show (if (0 : Int) = 0 then cycle_Garbage.l0 l [] out (out.length : Int) ((0 : Nat) : Int) else _) = _
  rw [if_pos rfl, k2]
  have := garbage_l1 hl (f := lv l l.length) (es := es) (fun j hj => by
    rw [k1]
    constructor
    · rintro (h | ⟨row, r1, r2⟩)
      · exact absurd h (by simp [pgd, pget])
      · rw [List.drop_zero] at r1
        obtain ⟨k, hk, hk2⟩ := (hmem row).1 r1
        obtain ⟨r, q1, q2⟩ := hrow k hk
        obtain rfl : r = row := Option.some.inj (q1.symm.trans hk2)
        rw [q2.mem_iff] at r2
        obtain ⟨j', m1, m2, m3⟩ := at_mem.1 r2
        have : j' = j := rf_inj nd m1 hj m3
        subst this
        rw [(lv_eq l.length (by omega)).2 m2]; omega
    · intro h
      have h2 := lv_lt hl nd T hL hstop hj
      obtain ⟨k, hk⟩ := Int.eq_ofNat_of_zero_le (Int.not_lt.1 h)
      have hk1 : k < out.length := by omega
      obtain ⟨r, q1, q2⟩ := hrow k hk1
      refine .inr ⟨r, by rw [List.drop_zero]; exact (hmem r).2 ⟨k, hk1, q1⟩, q2.mem_iff.2 (at_mem.2 ⟨j, hj, (lv_eq l.length (by omega)).1 hk, rfl⟩)⟩) l.length 0 (by omega)
  exact this
structure Rw (l : List Kn) (L : Nat) (f : Nat → Int) (i : Nat) (a : List (List Int)) : Prop where
  len : a.length ≤ L
  get : ∀ k, k < a.length → a[k]? = some (at_ l f k i)
  nil : ∀ k : Nat, a.length ≤ k → at_ l f k i = []
omit hl nd T hL hstop in
theorem law_l2 {L : Nat} {f : Nat → Int} (hL : L ≤ 480) {i : Nat} (hi : i < l.length) (hN : l.length ≤ 480) {v : Nat} (hv : f i = v) (hvL : v < L) {o : List (List Int)} {x6 x8 n : Int} {a7 a11 al : List Int} : ∀ (d : Nat) (a : List (List Int)), a.length + d = L → Rw l L f i a →
    ∃ a', Rw l L f (i + 1) a' ∧ roadlaw4_CycleSays.l2 l o x6 a7 x8 a11 a (i : Int) (v : Int) al n (i : Int) = roadlaw4_CycleSays.l0 l o x6 a7 x8 a11 a' al n (IntKind.wrap .i64 ((i : Int) + 1)) := by
  intro d
  induction d with
  | zero =>
    intro a h1 h2
    have hva : v < a.length := by omega
    rw [roadlaw4_CycleSays.l2_eq, if_neg (by omega), gi_nat, h2.get v hva, Option.bind_some, gi_at hi, Option.bind_some, rf_at hi, ap_one (by have := at_len (l := l) (f := f) (k := v) (n := i); omega), Option.bind_some, Option.bind_some, show Int.toNat (v : Int) = v from rfl]
    refine ⟨_, ⟨by rw [List.length_set]; exact h2.len, fun k hk => ?_, fun k hk => ?_⟩, rfl⟩
    · rw [List.length_set] at hk
      rw [List.getElem?_set, at_succ, hv]
      by_cases e : v = k
      · subst e; rw [if_pos rfl, if_pos hva, if_pos rfl]
      · rw [if_neg e, if_neg (by omega), h2.get k hk]
    · rw [List.length_set] at hk
      rw [at_succ, hv, if_neg (by omega), h2.nil k hk]
  | succ d ih =>
    intro a h1 h2
    by_cases c : v < a.length
    · rw [roadlaw4_CycleSays.l2_eq, if_neg (by omega), gi_nat, h2.get v c, Option.bind_some, gi_at hi, Option.bind_some, rf_at hi, ap_one (by have := at_len (l := l) (f := f) (k := v) (n := i); omega), Option.bind_some, Option.bind_some, show Int.toNat (v : Int) = v from rfl]
      refine ⟨_, ⟨by rw [List.length_set]; exact h2.len, fun k hk => ?_, fun k hk => ?_⟩, rfl⟩
      · rw [List.length_set] at hk
        rw [List.getElem?_set, at_succ, hv]
        by_cases e : v = k
        · subst e; rw [if_pos rfl, if_pos c, if_pos rfl]
        · rw [if_neg e, if_neg (by omega), h2.get k hk]
      · rw [List.length_set] at hk
        rw [at_succ, hv, if_neg (by omega), h2.nil k hk]
    · rw [roadlaw4_CycleSays.l2_eq, if_pos (by omega), ap_one (by omega), Option.bind_some]
      refine ih (a ++ [[]]) (by simp; omega) ⟨by simp; omega, fun k hk => ?_, fun k hk => h2.nil k (by simp at hk; omega)⟩
      rcases Nat.lt_or_ge k a.length with g | g
      · rw [List.getElem?_append_left g]; exact h2.get k g
      · have : k = a.length := by simp at hk; omega
        subst this
        rw [List.getElem?_append_right (Nat.le_refl _), Nat.sub_self, h2.nil _ (Nat.le_refl _)]; rfl
omit nd T hL hstop in
theorem law_l0 {L : Nat} {f : Nat → Int} (hL : L ≤ 480) (hf : ∀ j, j < l.length → f j < L) {al : List Int} (ha : Is l al f) {o : List (List Int)} {x6 x8 : Int} {a7 : List Int} : ∀ (d i : Nat) (a : List (List Int)), i + d = l.length → Rw l L f i a →
    ∃ a', Rw l L f l.length a' ∧ roadlaw4_CycleSays.l0 l o x6 a7 x8 (dead l f i) a al (l.length : Int) (i : Int) = roadlaw4_CycleSays.l1 o x6 a7 x8 (dead l f l.length) a' (a'.length : Int) 0 := by
  intro d
  induction d with
  | zero =>
    intro i a h1 h2
    have : i = l.length := by omega
    subst this
    exact ⟨a, h2, by rw [roadlaw4_CycleSays.l0_eq, if_neg (by omega)]⟩
  | succ d ih =>
    intro i a h1 h2
    have hi : i < l.length := by omega
    rw [roadlaw4_CycleSays.l0_eq, if_pos (by omega), ha.gi hi, Option.bind_some]
    by_cases c : f i < 0
    · rw [if_pos c, gi_at hi, Option.bind_some, rf_at hi, ap_one (by have := dead_len (l := l) (f := f) (n := i); omega), Option.bind_some, w_succ (by omega)]
      have e : dead l f (i + 1) = dead l f i ++ [rf l i] := by rw [dead_succ, if_pos c]
      rw [← e]
      exact ih (i + 1) a (by omega) ⟨h2.len, fun k hk => by rw [at_succ, if_neg (by omega)]; exact h2.get k hk, fun k hk => by rw [at_succ, if_neg (by omega)]; exact h2.nil k hk⟩
    · obtain ⟨v, hv⟩ := Int.eq_ofNat_of_zero_le (Int.not_lt.1 c)
      have := hf i hi
      obtain ⟨a1, k1, k2⟩ := law_l2 hL hi hl hv (by omega) (o := o) (x6 := x6) (x8 := x8) (n := (l.length : Int)) (a7 := a7) (a11 := dead l f i) (al := al) (L - a.length) a (by have := h2.len; omega) h2
      rw [if_neg c, hv, k2, w_succ (by omega), show dead l f i = dead l f (i + 1) by rw [dead_succ, if_neg c]]
      exact ih (i + 1) a1 (by omega) k1
theorem law_rows {a : List (List Int)} (h : Rw l out.length (lv l l.length) l.length a) : a.length = out.length ∧ ∀ k, k < out.length → a[k]? = some (lev l k) := by
  have e : a.length = out.length := by
    rcases Nat.lt_or_ge a.length out.length with g | g
    · exfalso
      obtain ⟨j, j1, j2⟩ := T.some a.length g
      have := h.nil a.length (Nat.le_refl _)
      have hm : rf l j ∈ at_ l (lv l l.length) a.length l.length := at_mem.2 ⟨j, j1, (lv_eq l.length (by omega)).2 j2, rfl⟩
      rw [this] at hm; cases hm
    · have := h.len; omega
  exact ⟨e, fun k hk => by rw [h.get k (by omega), lev_eq (by omega)]⟩
omit nd hstop in
theorem law_l1 {y : List Int} (hy : slices_Sort_14 (dead l (lv l l.length) l.length) = some y) (hyl : y.length ≤ 480) : ∀ (d p : Nat) (a : List (List Int)), p + d = out.length → a.length = out.length → (∀ k, k < p → a[k]? = out[k]?) → (∀ k, p ≤ k → k < out.length → a[k]? = some (lev l k)) →
    roadlaw4_CycleSays.l1 out 0 y 0 (dead l (lv l l.length) l.length) a (a.length : Int) (p : Int) = some true := by
  intro d
  induction d with
  | zero =>
    intro p a h1 h2 h3 h4
    have e : a = out := List.ext_getElem? fun k => by
      rcases Nat.lt_or_ge k out.length with g | g
      · exact h3 k (by omega)
      · rw [List.getElem?_eq_none g, List.getElem?_eq_none (by omega)]
    subst e
    obtain ⟨b, b1, b2⟩ := slices_Equal_10.val y y (by omega)
    obtain rfl : b = true := b2.2 rfl
    rw [roadlaw4_CycleSays.l1_eq, if_neg (by omega), hy, Option.bind_some, if_pos rfl, if_pos rfl, b1, Option.bind_some, if_pos rfl]
    have hq := slices_EqualFunc_15.val (l := a) (m := a) (p := fun z74 z75 => roadlaw4_CycleSays_1 z74 z75) (fun z w => decide (z = w)) (fun z hz w hw => by
      have hzl : z.length ≤ 4611686018427387904 := by
        obtain ⟨k, hk, rfl⟩ := List.mem_iff_getElem.1 hz
        obtain ⟨r, r1, r2, _⟩ := slices_Sort_14.val (lev l k) (by have := at_len (l := l) (f := lv l k) (k := k) (n := l.length); show (at_ l (lv l k) k l.length).length ≤ _; omega)
        have := T.row k hk
        rw [List.getElem?_eq_getElem hk, r1] at this
        rw [Option.some.inj this, r2.length_eq]
        have := at_len (l := l) (f := lv l k) (k := k) (n := l.length); show (at_ l (lv l k) k l.length).length ≤ _; omega
      obtain ⟨b, b1, b2⟩ := slices_Equal_10.val z w hzl
      unfold roadlaw4_CycleSays_1
      rw [b1, Option.bind_some]
      congr 1
      rw [Bool.eq_iff_iff, b2, decide_eq_true_eq]) (by omega)
    rw [hq, Option.bind_some]
    congr 1
    rw [Bool.and_eq_true, decide_eq_true_eq, List.all_eq_true]
    refine ⟨rfl, fun x hx => ?_⟩
    have : ∀ (a : List (List Int)) (x : List Int × List Int), x ∈ a.zip a → x.1 = x.2 := by
      intro a
      induction a with
      | nil => intro x hx; cases hx
      | cons b a ih2 =>
        intro x hx
        rw [List.zip_cons_cons] at hx
        rcases List.mem_cons.1 hx with rfl | hx
        · rfl
        · exact ih2 x hx
    exact decide_eq_true (this a x hx)
  | succ d ih =>
    intro p a h1 h2 h3 h4
    have hp : p < out.length := by omega
    have hrow := T.row p hp
    obtain ⟨r, r1, r2, _⟩ := slices_Sort_14.val (lev l p) (by have := at_len (l := l) (f := lv l p) (k := p) (n := l.length); show (at_ l (lv l p) p l.length).length ≤ _; omega)
    rw [roadlaw4_CycleSays.l1_eq, if_pos (by omega), gi_nat, h4 p (Nat.le_refl _) hp, Option.bind_some, r1, Option.bind_some, w_succ (by omega), show Int.toNat (p : Int) = p from rfl]
    have := ih (p + 1) (a.set p r) (by omega) (by rw [List.length_set]; exact h2) (fun k hk => by
      rw [List.getElem?_set]
      by_cases e : p = k
      · subst e; rw [if_pos rfl, if_pos (by omega), hrow, r1]
      · rw [if_neg e]; exact h3 k (by omega)) (fun k hk hk2 => by
      rw [List.getElem?_set, if_neg (by omega)]; exact h4 k (by omega) hk2)
    rw [List.length_set] at this
    exact this
end
theorem law_j0 {l : List Kn} (hQ : ∀ k ∈ l, k.Refs.length ≤ 4611686018427387904) : roadlaw4_CycleSays.j0 l = some true := by
  rw [roadlaw4_CycleSays.j0]
  have bad : ∀ c : Int, c ≠ 0 → cycle_index l = some (none, c) → roadref4_Knows l = some c → roadlaw4_CycleSays.j0 l = some true := by
    intro c hc h1 h2
    rw [roadlaw4_CycleSays.j0, passes_bad h1 hc, Option.bind_some, garbage_bad h1 hc, Option.bind_some, h2, Option.bind_some, if_neg hc, if_pos rfl, if_pos rfl]
    rfl
  rw [roadlaw4_CycleSays.j0] at bad
  by_cases hl : 480 < l.length
  · exact bad 2 (by decide) (by unfold cycle_index; rw [if_pos (by omega)]) (by unfold roadref4_Knows; rw [if_pos (by omega)])
  · have hl : l.length ≤ 480 := by omega
    have hk := knows_loop hl l.length 0 (by omega) (by simp)
    have hk : roadref4_Knows l = some (if (refs l).Nodup then 0 else 5) := by unfold roadref4_Knows; rw [if_neg (by omega)]; exact hk
    by_cases nd : (refs l).Nodup
    · rw [if_pos nd] at hk
      obtain ⟨out, o1, o2, o3, o4⟩ := passes_good hl hQ nd
      have hg := garbage_good hl nd o2 o3 o4 o1
      obtain ⟨y, y1, y2, _⟩ := slices_Sort_14.val (dead l (lv l l.length) l.length) (by have := dead_len (l := l) (f := lv l l.length) (n := l.length); omega)
      rw [y1, Option.bind_some] at hg
      obtain ⟨a, a1, a2⟩ := alive_val hl hQ
      obtain ⟨a', m1, m2⟩ := law_l0 hl (L := out.length) (by omega) (fun j hj => lv_lt hl nd o2 o3 o4 hj) a2 (o := out) (x6 := 0) (x8 := 0) (a7 := y) l.length 0 [] (by omega) ⟨Nat.zero_le _, fun k hk => absurd hk (Nat.not_lt_zero k), fun k _ => rfl⟩
      rw [o1, Option.bind_some, hg, Option.bind_some, hk, Option.bind_some, if_pos rfl, a1, Option.bind_some, a2.1]
      rw [show dead l (lv l l.length) 0 = [] from rfl, show ((0 : Nat) : Int) = 0 from rfl] at m2
      show roadlaw4_CycleSays.l0 l out 0 y 0 [] [] a (l.length : Int) 0 = _
      rw [m2]
      obtain ⟨q1, q2⟩ := law_rows hl nd o2 o3 o4 m1
      exact law_l1 hl o2 o3 y1 (by rw [y2.length_eq]; have := dead_len (l := l) (f := lv l l.length) (n := l.length); omega) out.length 0 a' (by omega) q1 (fun k hk => absurd hk (Nat.not_lt_zero k)) (fun k _ hk => q2 k hk)
    · rw [if_neg nd] at hk
      obtain ⟨r, r1, _, r3⟩ := index_val' hl
      rw [r3 nd] at r1
      exact bad 5 (by decide) r1 hk
theorem const_val : cycle_Garbage ([(T_api_Know.mk 7 false false ([8] : List Int)), (T_api_Know.mk 8 false false ([7] : List Int)), (T_api_Know.mk 3 false true ([] : List Int))] : List T_api_Know) = some ([7, 8], 0) := by
  have hl : ([(T_api_Know.mk 7 false false ([8] : List Int)), (T_api_Know.mk 8 false false ([7] : List Int)), (T_api_Know.mk 3 false true ([] : List Int))] : List T_api_Know).length ≤ 480 := by decide
  have nd : (refs ([(T_api_Know.mk 7 false false ([8] : List Int)), (T_api_Know.mk 8 false false ([7] : List Int)), (T_api_Know.mk 3 false true ([] : List Int))] : List T_api_Know)).Nodup := by decide
  obtain ⟨out, o1, o2, o3, o4⟩ := passes_good hl (by decide) nd
  rw [garbage_good hl nd o2 o3 o4 o1]
  rw [show dead ([(T_api_Know.mk 7 false false ([8] : List Int)), (T_api_Know.mk 8 false false ([7] : List Int)), (T_api_Know.mk 3 false true ([] : List Int))] : List T_api_Know) (lv _ _) _ = [7, 8] from by decide]
  obtain ⟨y, y1, y2, y3⟩ := slices_Sort_14.val [7, 8] (by decide)
  rw [y1, Option.bind_some, sorted_one (fun x y h k => Int.le_antisymm h k) y2 (List.Perm.refl _) y3 (by decide)]
theorem CycleSays (l : List Kn) (hQ : l.length * 40 ≤ 140737488351232 ∧ ∀ z ∈ l, T_api_Know.Q z) : roadlaw4_CycleSays l = some true := by
  unfold roadlaw4_CycleSays
  rw [const_val, Option.bind_some, if_pos rfl]
  obtain ⟨b, b1, b2⟩ := slices_Equal_10.val [7, 8] [7, 8] (by decide)
  obtain rfl : b = true := b2.2 rfl
  rw [b1, Option.bind_some, if_pos rfl]
  exact law_j0 fun k hk => by have := (hQ.2 k hk).2.2.2.1; omega
end Go.Proofs.Ythnlhffpmlgmfad.Fw

end
section
namespace Go.Proofs.Ythnlhffpmlgmfad.cycleSays
open Go Go.Hw Go.ChangeShapes Go.WideShapes Go.ChangeAt Go.RowKit Go.Proofs.Ythnlhffpmlgmfad.Fw
open Go.ChangeMaps (open_string shut_string)
set_option linter.unusedVariables false
theorem own : ownKnob Try.prog.godebug = none := by kernel_rfl
theorem laidOut : laidOutB Try.prog = true := by kernel_rfl
set_option maxRecDepth 100000 in
theorem lifted (os : Os) (started : os.Started) (H : Type) (enc : TypeId × Value → H) :
    ReturnsInHanded {} Try.checked os 3 .any (Rows.cycleSaysSpec.pre6 enc Try.prog Try.f3 Rows.cycleSaysRow.domain false) (Rows.cycleSaysSpec.post enc Try.prog Try.f3 false true false false) := by
  refine returnsInHanded_of_change_sized (C := Try.checked) own started (by kernel_rfl) Try.func3
    (ChangeSpec.witness6 (enc := enc) (C := Try.checked) false ⟨#[], #[(.slice none 0 0)], []⟩ 8 (by kernel_rfl) (by kernel_rfl) (by kernel_rfl) (by kernel_rfl)) ?_
  intro W base args ds gs before hval0 hW hcnd hsz0 _
  have hsz : (DataW.weightsEach Try.prog (Try.f3.params.toList ++ Rows.cycleSaysSpec.plain.varTypes Try.prog) (ds ++ gs)).all (· ≤ reachBytes) = true := hsz0
  have hval : ∀ (j : Nat) t v, Try.f3.params[j]? = some t → args[j]? = some v → Value.okWide Try.prog W .any base t v := hval0
  have hW' := hW
  obtain ⟨p, q, hA0, hV, rfl, hfz, hnd⟩ := hW
  have hA : DataW.TrodAll enc Try.prog W 0 (fun _ => true) true Try.f3.params.toList args.toList ds p := hA0
  rw [Try.params3] at hA hval hsz
  obtain ⟨v0, vs0, d0, ds0, p0, q0_, hargs, rfl, rfl, h0, r0_⟩ := trodAll_cons hA
  obtain ⟨rfl, rfl, rfl⟩ := trodAll_nil r0_
  obtain rfl : args = #[v0] := by cases args; simp_all
  obtain ⟨rfl, rfl⟩ := trodVars_none hV
  have hs : (DataW.weightsEach Try.prog [22] [d0]).all (· ≤ reachBytes) = true := hsz
  simp only [DataW.weightsEach, List.append_nil] at hs
  have hw0 := hs
  have k0 := h0
  have lt0 : ∀ x ∈ p0, x.block < W.heap.size := by obtain ⟨m, hm⟩ := k0; exact DataW.trod_lt m _ _ _ hm
  obtain ⟨A0, n0, c0, rfl⟩ := okWide_slice (show Try.prog.underlying 22 = some (.slice 28) by kernel_rfl) (hval 0 22 v0 rfl rfl)
  obtain ⟨fuel0, hf0⟩ := h0
  obtain ⟨l0, ⟨A0', c0', hcs0, hle0, r0⟩, q0⟩ := (tells_sliceL (t := 22) (e := 28) (sz := 4) (B := 40) (by kernel_rfl) (by kernel_rfl) (by kernel_rfl) T_api_Know.tells) fuel0 _ _ hf0 hw0
  simp only [Value.cells, List.cons.injEq, Value.slice.injEq, and_true] at hcs0
  obtain ⟨rfl, rfl, rfl⟩ := hcs0
  refine ((Run.mono (R' := fun v h' => v = Value.bool true ∧ Ext W.heap h') (Fw.roadlaw4_CycleSays.walk (W := No) (Hold.start (Sub.refl _)) rfl hle0 r0 (Fw.CycleSays l0 q0)) (fun v h' hp => by obtain ⟨m', st, hv⟩ := hp; exact ⟨hv, st.S.ext⟩)) W rfl).mono fun e W' he => ?_
  obtain ⟨v, rfl, ⟨rfl, ext⟩, same⟩ := he
  have bel := below_of ext same
  exact ⟨_, rfl, _, _, _, [], _, [], hW', trodAll_mk1 (shut_bool (show Try.prog.underlying 4 = some .bool by kernel_rfl) _), (trodAll_cons_mk (Below.trod laidOut (by kernel_rfl) (of_decide_eq_true (by kernel_rfl)) k0 bel lt0) trodAll_mk0), rfl, bel.frame _, fun h => by cases h⟩
theorem over : Rows.cycleSaysRow.holds Try.pinned (OpenSpec.ofChange Rows.cycleSaysSpec) :=
  OpenClaim.holds_of_wide 3 Try.f3 rfl rfl rfl rfl rfl rfl rfl ⟨rfl, rfl, rfl, rfl, rfl⟩ rfl rfl rfl rfl rfl (by kernel_rfl) Try.func3 (by kernel_rfl)
    (of_decide_eq_true (by kernel_rfl)) (by unfold Func.isWrapper; first | (rw [if_pos (by decide +kernel)]; kernel_rfl) | (rw [if_neg (by decide +kernel)]; exact ⟨rfl, rfl⟩))
    (fun os started H enc _ => lifted os started H enc)
end Go.Proofs.Ythnlhffpmlgmfad.cycleSays
namespace Go.Proofs.Ythnlhffpmlgmfad
theorem cycleSays_holds : Rows.CycleSaysSaid := cycleSays.over
end Go.Proofs.Ythnlhffpmlgmfad

end
