/- Last part: what the law CutAll needs, put together out of texts of this session. -/
import Derived.Test.YtdlihfedhojdgaaRows
import Derived.WalkKit
import Derived.Test.YtdlihfedhojdgaaZCutAllb
section
namespace Go.Proofs.Ytdlihfedhojdgaa.Fw
open Go Go.Hw Go.Proofs
set_option linter.unusedVariables false
set_option synthInstance.maxHeartbeats 400000
set_option synthInstance.maxSize 1000
structure T_api_Event where
  Place : Int
  Kind : Int
  Msg : Int
def T_api_Event.E (h : Heap) (x : T_api_Event) (cs : List Value) : Prop := cs = [.int .i64 x.Place, .int .i64 x.Kind, .int .i64 x.Msg]
theorem T_api_Event.T : Tell 3 T_api_Event.E := ⟨by rintro m h x _ s rfl; exact rfl, by rintro h x _ rfl; rfl, by rintro h x _ rfl; exact Flats.cons trivial (Flats.cons trivial (Flats.cons trivial Flats.nil))⟩
theorem T_api_Event.keep {m h : Heap} {x : T_api_Event} {cs : List Value} (e : T_api_Event.E m x cs) : T_api_Event.E h x cs := e
def T_api_Event.Q (x : T_api_Event) : Prop := (-9223372036854775808 ≤ x.Place ∧ x.Place ≤ 9223372036854775807) ∧ (-9223372036854775808 ≤ x.Kind ∧ x.Kind ≤ 9223372036854775807) ∧ (-9223372036854775808 ≤ x.Msg ∧ x.Msg ≤ 9223372036854775807)
theorem T_api_Event.tells {H : Type} {enc : TypeId × Value → H} {W : World} : Tells enc Try.prog W 109 T_api_Event.E T_api_Event.Q := tells_map (tells_struct (t := 109) (fs := [(3, 0), (3, 1), (3, 2)]) (T := 3) (by kernel_rfl) (by kernel_rfl) (tf_cons (s := 1) (f := 3) (by kernel_rfl) (tells_i64 (t := 3) (by kernel_rfl)) (tf_cons (s := 1) (f := 3) (by kernel_rfl) (tells_i64 (t := 3) (by kernel_rfl)) (tf_cons (s := 1) (f := 3) (by kernel_rfl) (tells_i64 (t := 3) (by kernel_rfl)) tf_nil)))) (by
  rintro ⟨x0, x1, x2, ⟨⟩⟩ cs e q
  obtain ⟨c0, r0, rfl, e0, c1, r1, rfl, e1, c2, r2, rfl, e2, eN⟩ := e
  obtain rfl : c0 = [.int .i64 x0] := e0
  obtain rfl : c1 = [.int .i64 x1] := e1
  obtain rfl : c2 = [.int .i64 x2] := e2
  obtain rfl : r2 = [] := eN
  exact ⟨⟨x0, x1, x2⟩, rfl, q.1, q.2.1, q.2.2.1⟩)
theorem T_api_Event.g0 {m : Heap} {x : T_api_Event} {cs : List Value} (e : T_api_Event.E m x cs) : cs[0]? = some (Value.int .i64 x.Place) := by
  obtain rfl := e
  exact rfl
theorem T_api_Event.g1 {m : Heap} {x : T_api_Event} {cs : List Value} (e : T_api_Event.E m x cs) : cs[1]? = some (Value.int .i64 x.Kind) := by
  obtain rfl := e
  exact rfl
theorem T_api_Event.g2 {m : Heap} {x : T_api_Event} {cs : List Value} (e : T_api_Event.E m x cs) : cs[2]? = some (Value.int .i64 x.Msg) := by
  obtain rfl := e
  exact rfl
def cut_counts.post (W : Nat → Prop) (h0 m0 : Heap) (r : (List Int)) (v : Value) (h : Heap) : Prop := ∃ m A0 n0 c0, Hold W h0 m0 h m [rR (aE (tell_int .i64)) A0 c0 r] ∧ v = .slice A0 n0 c0 ∧ n0 = List.length r
inductive cut_counts.l0_k.Pt where
  | l0 (a_3 : List Int) (a_7 : List T_api_Event) (x_8 : Int) (x_9 : Int)
noncomputable def cut_counts.l0_k.body (go : (p : cut_counts.l0_k.Pt) → Option ((List Int))) : (p : cut_counts.l0_k.Pt) → Option ((List Int))
  | .l0 a_3 a_7 x_8 x_9 => if x_9 < x_8 then (Option.bind (gi a_7 x_9) fun y1 => Option.bind (gi a_3 y1.Place) fun y14 => Option.bind (gi a_3 y1.Place) fun y21 => Option.bind (some (List.set a_3 (Int.toNat y1.Place) (IntKind.wrap .i64 (y14 + (1 : Int))))) fun l30 => (go (.l0 l30 a_7 x_8 (IntKind.wrap .i64 (x_9 + (1 : Int)))))) else (some (a_3))
theorem cut_counts.l0_k.mono : MonoF (β := fun _ => ((List Int))) cut_counts.l0_k.body := fun f g hfg p => match p with
  | .l0 a_3 a_7 x_8 x_9 => LeO.ite (LeO.bind (LeO.refl _) fun y1 => LeO.bind (LeO.refl _) fun y14 => LeO.bind (LeO.refl _) fun y21 => LeO.bind (LeO.refl _) fun l30 => (hfg _)) (LeO.refl _)
noncomputable def cut_counts.l0_k.go (p : cut_counts.l0_k.Pt) : Option ((List Int)) := fixF (β := fun _ => ((List Int))) cut_counts.l0_k.body p
noncomputable def cut_counts.l0 (a_3 : List Int) (a_7 : List T_api_Event) (x_8 : Int) (x_9 : Int) : Option ((List Int)) := cut_counts.l0_k.go (.l0 a_3 a_7 x_8 x_9)
theorem cut_counts.l0_eq (a_3 : List Int) (a_7 : List T_api_Event) (x_8 : Int) (x_9 : Int) : cut_counts.l0 a_3 a_7 x_8 x_9 = if x_9 < x_8 then (Option.bind (gi a_7 x_9) fun y1 => Option.bind (gi a_3 y1.Place) fun y14 => Option.bind (gi a_3 y1.Place) fun y21 => Option.bind (some (List.set a_3 (Int.toNat y1.Place) (IntKind.wrap .i64 (y14 + (1 : Int))))) fun l30 => (cut_counts.l0 l30 a_7 x_8 (IntKind.wrap .i64 (x_9 + (1 : Int))))) else (some (a_3)) := fixF_eq cut_counts.l0_k.mono _
def cut_counts.l0_k.I : (p : cut_counts.l0_k.Pt) → ((List Int)) → Prop
  | .l0 a_3 a_7 x_8 x_9, r => ∀ (W : Nat → Prop) (h0 m0 h m : Heap) (A_3 : Option Addr) (n_3 c_3 : Nat) (A_7 : Option Addr) (n_7 c_7 : Nat) (O : Hold W h0 m0 h m [rR (aE (tell_int .i64)) A_3 c_3 a_3]) (ne_3 : n_3 = List.length a_3) (ne_7 : n_7 = List.length a_7) (k_7 : List.length a_7 ≤ c_7) (r_7 : Rd 3 T_api_Event.E m A_7 a_7), f50.l0 (cut_counts.post W h0 m0 r) A_3 n_3 c_3 A_7 n_7 c_7 x_8 x_9 h
set_option maxRecDepth 100000 in
theorem cut_counts.l0_k.step_l0 (go : (p : cut_counts.l0_k.Pt) → Option ((List Int))) (ih : ∀ p r, go p = some r → cut_counts.l0_k.I p r) (a_3 : List Int) (a_7 : List T_api_Event) (x_8 : Int) (x_9 : Int) (r : (List Int)) (e : cut_counts.l0_k.body go (.l0 a_3 a_7 x_8 x_9) = some r) : cut_counts.l0_k.I (.l0 a_3 a_7 x_8 x_9) r := by
  unfold cut_counts.l0_k.body at e
  intro W h0 m0 h m A_3 n_3 c_3 A_7 n_7 c_7 O ne_3 ne_7 k_7 r_7
  subst ne_3
  subst ne_7
  refine f50.l0_in ?_
  unfold f50.l0T
  refine split_dec_e e (fun c33 e => ?_) (fun c33 e => ?_)
  · obtain ⟨y1, g2, e⟩ := bind_e e
    refine r_7.addr rfl g2 fun a3 cs4 ha5 hc6 he7 => ?_
    refine ⟨_, ldAn O.s hc6 rfl, ?_⟩
    refine O.new fun h8 x9 O10 => ?_
    refine ⟨_, rfl, (T_api_Event.T.len _ _ _ he7), ?_⟩
    refine O10.stA 1 rfl (T_api_Event.T.len _ _ _ he7) (T_api_Event.T.flat _ _ _ he7) fun h12 O13 => ?_
    refine ⟨_, ld0 (Sub.refl _) (O13.all 1 rfl) (T_api_Event.g0 he7), _, rfl, ?_⟩
    obtain ⟨y14, g15, e⟩ := bind_e e
    refine (O13.os 0 rfl).addr rfl g15 fun a16 cs17 ha18 hc19 he20 => ?_
    obtain rfl : cs17 = [(Value.int .i64 y14)] := he20
    refine ⟨_, ld0 (Sub.refl _) hc19 rfl, _, rfl, ?_⟩
    obtain ⟨y21, g22, e⟩ := bind_e e
    refine (O13.os 0 rfl).addr rfl g22 fun a23 cs24 ha25 hc26 he27 => ?_
    obtain rfl : cs24 = [(Value.int .i64 y21)] := he27
    obtain ⟨l30, g31, e⟩ := bind_e e
    replace g31 := Option.some.inj g31
    refine O13.elst0 0 rfl g22 ha25 hc26 (by decide) (y' := (IntKind.wrap .i64 (y14 + (1 : Int)))) rfl trivial g31 fun h28 O29 => ?_
    have O32 := O29.nm
    exact (ih _ _ e) _ _ _ _ _ _ _ _ _ _ _ (O32.pick [0]).nm (lset' g31) rfl k_7 r_7
  · cases e
    exact ⟨_, _, _, _, O.pick [0], rfl, rfl⟩
theorem cut_counts.l0_k.all {p : cut_counts.l0_k.Pt} {r : ((List Int))} (e : cut_counts.l0_k.go p = some r) : cut_counts.l0_k.I p r := fixF_ind (β := fun _ => ((List Int))) cut_counts.l0_k.mono (I := cut_counts.l0_k.I) (fun go ih p r e => match p with
  | .l0 a_3 a_7 x_8 x_9 => cut_counts.l0_k.step_l0 go ih a_3 a_7 x_8 x_9 r e
  ) e
theorem cut_counts.l0.walk {W : Nat → Prop} {h0 m0 h m : Heap} {A_3 : Option Addr} {n_3 c_3 : Nat} {A_7 : Option Addr} {n_7 c_7 : Nat} {a_3 : List Int} {a_7 : List T_api_Event} {x_8 : Int} {x_9 : Int} (O : Hold W h0 m0 h m [rR (aE (tell_int .i64)) A_3 c_3 a_3]) (ne_3 : n_3 = List.length a_3) (ne_7 : n_7 = List.length a_7) (k_7 : List.length a_7 ≤ c_7) (r_7 : Rd 3 T_api_Event.E m A_7 a_7) {r : (List Int)} (e : cut_counts.l0 a_3 a_7 x_8 x_9 = some r) : f50.l0 (cut_counts.post W h0 m0 r) A_3 n_3 c_3 A_7 n_7 c_7 x_8 x_9 h := cut_counts.l0_k.all (p := .l0 a_3 a_7 x_8 x_9) e W h0 m0 h m A_3 n_3 c_3 A_7 n_7 c_7 O ne_3 ne_7 k_7 r_7
noncomputable def cut_counts (a_0 : List T_api_Event) : Option ((List Int)) :=
  Option.bind (mks 8 (8 : Int) (0 : Int)) fun l1 => (cut_counts.l0 l1 a_0 (((List.length a_0) : Nat) : Int) (0 : Int))
set_option maxRecDepth 100000 in
theorem cut_counts.walk {W : Nat → Prop} {h m : Heap} {A_0 : Option Addr} {n_0 c_0 : Nat} {a_0 : List T_api_Event} (O : Hold W h m h m []) (ne_0 : n_0 = List.length a_0) (k_0 : List.length a_0 ≤ c_0) (r_0 : Rd 3 T_api_Event.E m A_0 a_0) {r : (List Int)} (e : cut_counts a_0 = some r) : Run Try.prog 50 #[Value.slice A_0 n_0 c_0] h (cut_counts.post W h m r) := by
  unfold cut_counts at e
  subst ne_0
  refine f50.run ?_
  unfold f50.runT
  obtain ⟨l1, g2, e⟩ := bind_e e
  have q3 := mks_e g2
  refine ⟨q3.1, Int.le_refl _, q3.2.1, q3.2.2.1, ?_⟩
  refine O.new fun h4 x5 O6 => ?_
  have O7 := O6.made 0 rfl (aE (tell_int .i64)) g2 ⟨rfl, rfl⟩
  try rw [q3.2.2.2.1]
  have O9 := O7.nm
  exact cut_counts.l0.walk (O9.pick [0]).nm rfl rfl k_0 r_0 e
def clock_Check.post (W : Nat → Prop) (h0 m0 : Heap) (r : Int) (v : Value) (h : Heap) : Prop := ∃ m , Hold W h0 m0 h m [] ∧ v = .int .i64 r
inductive clock_Check.l0_k.Pt where
  | l0 (es_3 : (List (Int × Bool))) (es_4 : (List (Int × Bool))) (a_12 : List T_api_Event) (x_13 : Int) (x_14 : Int)
  | j0 (es_3 : (List (Int × Bool))) (es_4 : (List (Int × Bool))) (y_6 : T_api_Event) (a_12 : List T_api_Event) (x_13 : Int) (x_14 : Int)
  | j1 (es_3 : (List (Int × Bool))) (es_4 : (List (Int × Bool))) (y_6 : T_api_Event) (a_12 : List T_api_Event) (x_13 : Int) (x_14 : Int)
noncomputable def clock_Check.l0_k.body (go : (p : clock_Check.l0_k.Pt) → Option (Int)) : (p : clock_Check.l0_k.Pt) → Option (Int)
  | .l0 es_3 es_4 a_12 x_13 x_14 => if x_14 < x_13 then (Option.bind (gi a_12 x_14) fun y1 => if y1.Kind < (1 : Int) then (some ((3 : Int))) else (if y1.Kind > (3 : Int) then (some ((3 : Int))) else ((go (.j0 es_3 es_4 y1 a_12 x_13 x_14))))) else (some ((0 : Int)))
  | .j0 es_3 es_4 y_6 a_12 x_13 x_14 => if y_6.Place < (0 : Int) then (some ((1 : Int))) else (if y_6.Place ≥ (8 : Int) then (some ((1 : Int))) else (if y_6.Kind = (1 : Int) then ((go (.j1 es_3 es_4 y_6 a_12 x_13 x_14))) else (if y_6.Msg < (0 : Int) then (some ((1 : Int))) else (if y_6.Msg > (999 : Int) then (some ((1 : Int))) else ((go (.j1 es_3 es_4 y_6 a_12 x_13 x_14)))))))
  | .j1 es_3 es_4 y_6 a_12 x_13 x_14 => if y_6.Kind = (2 : Int) then (if (pgd es_3 y_6.Msg false) = true then (some ((5 : Int))) else (Option.bind (some (pset es_3 y_6.Msg true)) fun l5 => (go (.l0 l5 es_4 a_12 x_13 (IntKind.wrap .i64 (x_14 + (1 : Int))))))) else (if y_6.Kind = (3 : Int) then (if (pgd es_3 y_6.Msg false) = true then (if (pgd es_4 y_6.Msg false) = true then (some ((5 : Int))) else (Option.bind (some (pset es_4 y_6.Msg true)) fun l15 => (go (.l0 es_3 l15 a_12 x_13 (IntKind.wrap .i64 (x_14 + (1 : Int))))))) else (some ((4 : Int)))) else ((go (.l0 es_3 es_4 a_12 x_13 (IntKind.wrap .i64 (x_14 + (1 : Int)))))))
theorem clock_Check.l0_k.mono : MonoF (β := fun _ => (Int)) clock_Check.l0_k.body := fun f g hfg p => match p with
  | .l0 es_3 es_4 a_12 x_13 x_14 => LeO.ite (LeO.bind (LeO.refl _) fun y1 => LeO.ite (LeO.refl _) (LeO.ite (LeO.refl _) ((hfg _)))) (LeO.refl _)
  | .j0 es_3 es_4 y_6 a_12 x_13 x_14 => LeO.ite (LeO.refl _) (LeO.ite (LeO.refl _) (LeO.ite ((hfg _)) (LeO.ite (LeO.refl _) (LeO.ite (LeO.refl _) ((hfg _))))))
  | .j1 es_3 es_4 y_6 a_12 x_13 x_14 => LeO.ite (LeO.ite (LeO.refl _) (LeO.bind (LeO.refl _) fun l5 => (hfg _))) (LeO.ite (LeO.ite (LeO.ite (LeO.refl _) (LeO.bind (LeO.refl _) fun l15 => (hfg _))) (LeO.refl _)) ((hfg _)))
noncomputable def clock_Check.l0_k.go (p : clock_Check.l0_k.Pt) : Option (Int) := fixF (β := fun _ => (Int)) clock_Check.l0_k.body p
noncomputable def clock_Check.l0 (es_3 : (List (Int × Bool))) (es_4 : (List (Int × Bool))) (a_12 : List T_api_Event) (x_13 : Int) (x_14 : Int) : Option (Int) := clock_Check.l0_k.go (.l0 es_3 es_4 a_12 x_13 x_14)
noncomputable def clock_Check.j0 (es_3 : (List (Int × Bool))) (es_4 : (List (Int × Bool))) (y_6 : T_api_Event) (a_12 : List T_api_Event) (x_13 : Int) (x_14 : Int) : Option (Int) := clock_Check.l0_k.go (.j0 es_3 es_4 y_6 a_12 x_13 x_14)
noncomputable def clock_Check.j1 (es_3 : (List (Int × Bool))) (es_4 : (List (Int × Bool))) (y_6 : T_api_Event) (a_12 : List T_api_Event) (x_13 : Int) (x_14 : Int) : Option (Int) := clock_Check.l0_k.go (.j1 es_3 es_4 y_6 a_12 x_13 x_14)
theorem clock_Check.l0_eq (es_3 : (List (Int × Bool))) (es_4 : (List (Int × Bool))) (a_12 : List T_api_Event) (x_13 : Int) (x_14 : Int) : clock_Check.l0 es_3 es_4 a_12 x_13 x_14 = if x_14 < x_13 then (Option.bind (gi a_12 x_14) fun y1 => if y1.Kind < (1 : Int) then (some ((3 : Int))) else (if y1.Kind > (3 : Int) then (some ((3 : Int))) else ((clock_Check.j0 es_3 es_4 y1 a_12 x_13 x_14)))) else (some ((0 : Int))) := fixF_eq clock_Check.l0_k.mono _
theorem clock_Check.j0_eq (es_3 : (List (Int × Bool))) (es_4 : (List (Int × Bool))) (y_6 : T_api_Event) (a_12 : List T_api_Event) (x_13 : Int) (x_14 : Int) : clock_Check.j0 es_3 es_4 y_6 a_12 x_13 x_14 = if y_6.Place < (0 : Int) then (some ((1 : Int))) else (if y_6.Place ≥ (8 : Int) then (some ((1 : Int))) else (if y_6.Kind = (1 : Int) then ((clock_Check.j1 es_3 es_4 y_6 a_12 x_13 x_14)) else (if y_6.Msg < (0 : Int) then (some ((1 : Int))) else (if y_6.Msg > (999 : Int) then (some ((1 : Int))) else ((clock_Check.j1 es_3 es_4 y_6 a_12 x_13 x_14)))))) := fixF_eq clock_Check.l0_k.mono _
theorem clock_Check.j1_eq (es_3 : (List (Int × Bool))) (es_4 : (List (Int × Bool))) (y_6 : T_api_Event) (a_12 : List T_api_Event) (x_13 : Int) (x_14 : Int) : clock_Check.j1 es_3 es_4 y_6 a_12 x_13 x_14 = if y_6.Kind = (2 : Int) then (if (pgd es_3 y_6.Msg false) = true then (some ((5 : Int))) else (Option.bind (some (pset es_3 y_6.Msg true)) fun l5 => (clock_Check.l0 l5 es_4 a_12 x_13 (IntKind.wrap .i64 (x_14 + (1 : Int)))))) else (if y_6.Kind = (3 : Int) then (if (pgd es_3 y_6.Msg false) = true then (if (pgd es_4 y_6.Msg false) = true then (some ((5 : Int))) else (Option.bind (some (pset es_4 y_6.Msg true)) fun l15 => (clock_Check.l0 es_3 l15 a_12 x_13 (IntKind.wrap .i64 (x_14 + (1 : Int)))))) else (some ((4 : Int)))) else ((clock_Check.l0 es_3 es_4 a_12 x_13 (IntKind.wrap .i64 (x_14 + (1 : Int)))))) := fixF_eq clock_Check.l0_k.mono _
def clock_Check.l0_k.I : (p : clock_Check.l0_k.Pt) → (Int) → Prop
  | .l0 es_3 es_4 a_12 x_13 x_14, r => ∀ (W : Nat → Prop) (h0 m0 h m : Heap) (bk_3 : Nat) (bk_4 : Nat) (A_12 : Option Addr) (n_12 c_12 : Nat) (O : Hold W h0 m0 h m [rM (monoV0 tell_bool) (fun n : Int => Value.int .i64 n) bk_3 es_3, rM (monoV0 tell_bool) (fun n : Int => Value.int .i64 n) bk_4 es_4]) (ne_12 : n_12 = List.length a_12) (k_12 : List.length a_12 ≤ c_12) (r_12 : Rd 3 T_api_Event.E m A_12 a_12), f80.l0 (clock_Check.post W h0 m0 r) (Value.map (some bk_3)) (Value.map (some bk_4)) A_12 n_12 c_12 x_13 x_14 h
  | .j0 es_3 es_4 y_6 a_12 x_13 x_14, r => ∀ (W : Nat → Prop) (h0 m0 h m : Heap) (bk_3 : Nat) (bk_4 : Nat) (bk_6 : Nat) (cs_6 : List Value) (A_12 : Option Addr) (n_12 c_12 : Nat) (O : Hold W h0 m0 h m [rM (monoV0 tell_bool) (fun n : Int => Value.int .i64 n) bk_3 es_3, rM (monoV0 tell_bool) (fun n : Int => Value.int .i64 n) bk_4 es_4, rV bk_6 109 cs_6]) (e_6 : T_api_Event.E m y_6 cs_6) (ne_12 : n_12 = List.length a_12) (k_12 : List.length a_12 ≤ c_12) (r_12 : Rd 3 T_api_Event.E m A_12 a_12), f80.j0 (clock_Check.post W h0 m0 r) (Value.map (some bk_3)) (Value.map (some bk_4)) (⟨bk_6, 0, none⟩ : Addr) A_12 n_12 c_12 x_13 x_14 h
  | .j1 es_3 es_4 y_6 a_12 x_13 x_14, r => ∀ (W : Nat → Prop) (h0 m0 h m : Heap) (bk_3 : Nat) (bk_4 : Nat) (bk_6 : Nat) (cs_6 : List Value) (A_12 : Option Addr) (n_12 c_12 : Nat) (O : Hold W h0 m0 h m [rM (monoV0 tell_bool) (fun n : Int => Value.int .i64 n) bk_3 es_3, rM (monoV0 tell_bool) (fun n : Int => Value.int .i64 n) bk_4 es_4, rV bk_6 109 cs_6]) (e_6 : T_api_Event.E m y_6 cs_6) (ne_12 : n_12 = List.length a_12) (k_12 : List.length a_12 ≤ c_12) (r_12 : Rd 3 T_api_Event.E m A_12 a_12), f80.j1 (clock_Check.post W h0 m0 r) (Value.map (some bk_3)) (Value.map (some bk_4)) (⟨bk_6, 0, none⟩ : Addr) A_12 n_12 c_12 x_13 x_14 h
set_option maxRecDepth 100000 in
theorem clock_Check.l0_k.step_l0 (go : (p : clock_Check.l0_k.Pt) → Option (Int)) (ih : ∀ p r, go p = some r → clock_Check.l0_k.I p r) (es_3 : (List (Int × Bool))) (es_4 : (List (Int × Bool))) (a_12 : List T_api_Event) (x_13 : Int) (x_14 : Int) (r : Int) (e : clock_Check.l0_k.body go (.l0 es_3 es_4 a_12 x_13 x_14) = some r) : clock_Check.l0_k.I (.l0 es_3 es_4 a_12 x_13 x_14) r := by
  unfold clock_Check.l0_k.body at e
  intro W h0 m0 h m bk_3 bk_4 A_12 n_12 c_12 O ne_12 k_12 r_12
  subst ne_12
  refine f80.l0_in ?_
  unfold f80.l0T
  refine split_dec_e e (fun c19 e => ?_) (fun c19 e => ?_)
  · obtain ⟨y1, g2, e⟩ := bind_e e
    refine r_12.addr rfl g2 fun a3 cs4 ha5 hc6 he7 => ?_
    refine ⟨_, ldAn O.s hc6 rfl, ?_⟩
    refine O.new fun h8 x9 O10 => ?_
    refine ⟨_, rfl, (T_api_Event.T.len _ _ _ he7), ?_⟩
    refine O10.stA 2 rfl (T_api_Event.T.len _ _ _ he7) (T_api_Event.T.flat _ _ _ he7) fun h12 O13 => ?_
    refine ⟨_, ldk (k := 1) (Sub.refl _) (O13.all 2 rfl) (T_api_Event.g1 he7), _, rfl, ?_⟩
    refine split_dec_e e (fun c18 e => ?_) (fun c18 e => ?_)
    · have O14 := O13.nm
      cases e
      exact ⟨_, O14.pick [], rfl⟩
    · refine ⟨_, ldk (k := 1) (Sub.refl _) (O13.all 2 rfl) (T_api_Event.g1 he7), _, rfl, ?_⟩
      refine split_dec_e e (fun c17 e => ?_) (fun c17 e => ?_)
      · have O15 := O13.nm
        cases e
        exact ⟨_, O15.pick [], rfl⟩
      · have O16 := O13.nm
        exact (ih _ _ e) _ _ _ _ _ _ _ _ _ _ _ _ (O16.pick [0, 1, 2]).nm he7 rfl k_12 r_12
  · cases e
    exact ⟨_, O.pick [], rfl⟩
set_option maxRecDepth 100000 in
theorem clock_Check.l0_k.step_j0 (go : (p : clock_Check.l0_k.Pt) → Option (Int)) (ih : ∀ p r, go p = some r → clock_Check.l0_k.I p r) (es_3 : (List (Int × Bool))) (es_4 : (List (Int × Bool))) (y_6 : T_api_Event) (a_12 : List T_api_Event) (x_13 : Int) (x_14 : Int) (r : Int) (e : clock_Check.l0_k.body go (.j0 es_3 es_4 y_6 a_12 x_13 x_14) = some r) : clock_Check.l0_k.I (.j0 es_3 es_4 y_6 a_12 x_13 x_14) r := by
  unfold clock_Check.l0_k.body at e
  intro W h0 m0 h m bk_3 bk_4 bk_6 cs_6 A_12 n_12 c_12 O e_6 ne_12 k_12 r_12
  subst ne_12
  refine f80.j0_in ?_
  unfold f80.j0T
  refine ⟨_, ld0 (Sub.refl _) (O.all 2 rfl) (T_api_Event.g0 e_6), _, rfl, ?_⟩
  refine split_dec_e e (fun c5 e => ?_) (fun c5 e => ?_)
  · cases e
    exact ⟨_, O.pick [], rfl⟩
  · refine ⟨_, ld0 (Sub.refl _) (O.all 2 rfl) (T_api_Event.g0 e_6), _, rfl, ?_⟩
    refine split_dec_e e (fun c4 e => ?_) (fun c4 e => ?_)
    · cases e
      exact ⟨_, O.pick [], rfl⟩
    · refine ⟨_, ldk (k := 1) (Sub.refl _) (O.all 2 rfl) (T_api_Event.g1 e_6), _, rfl, ?_⟩
      refine split_ne_e e (fun c3 e => ?_) (fun c3 e => ?_)
      · refine ⟨_, ldk (k := 2) (Sub.refl _) (O.all 2 rfl) (T_api_Event.g2 e_6), _, rfl, ?_⟩
        refine split_dec_e e (fun c2 e => ?_) (fun c2 e => ?_)
        · cases e
          exact ⟨_, O.pick [], rfl⟩
        · refine ⟨_, ldk (k := 2) (Sub.refl _) (O.all 2 rfl) (T_api_Event.g2 e_6), _, rfl, ?_⟩
          refine split_dec_e e (fun c1 e => ?_) (fun c1 e => ?_)
          · cases e
            exact ⟨_, O.pick [], rfl⟩
          · exact (ih _ _ e) _ _ _ _ _ _ _ _ _ _ _ _ (O.pick [0, 1, 2]).nm e_6 rfl k_12 r_12
      · exact (ih _ _ e) _ _ _ _ _ _ _ _ _ _ _ _ (O.pick [0, 1, 2]).nm e_6 rfl k_12 r_12
set_option maxHeartbeats 4000000 in
set_option maxRecDepth 100000 in
theorem clock_Check.l0_k.step_j1 (go : (p : clock_Check.l0_k.Pt) → Option (Int)) (ih : ∀ p r, go p = some r → clock_Check.l0_k.I p r) (es_3 : (List (Int × Bool))) (es_4 : (List (Int × Bool))) (y_6 : T_api_Event) (a_12 : List T_api_Event) (x_13 : Int) (x_14 : Int) (r : Int) (e : clock_Check.l0_k.body go (.j1 es_3 es_4 y_6 a_12 x_13 x_14) = some r) : clock_Check.l0_k.I (.j1 es_3 es_4 y_6 a_12 x_13 x_14) r := by
  unfold clock_Check.l0_k.body at e
  intro W h0 m0 h m bk_3 bk_4 bk_6 cs_6 A_12 n_12 c_12 O e_6 ne_12 k_12 r_12
  subst ne_12
  refine f80.j1_in ?_
  unfold f80.j1T
  refine ⟨_, ldk (k := 1) (Sub.refl _) (O.all 2 rfl) (T_api_Event.g1 e_6), _, rfl, ?_⟩
  refine split_eq_e e (fun c21 e => ?_) (fun c21 e => ?_)
  · refine ⟨_, ldk (k := 2) (Sub.refl _) (O.all 2 rfl) (T_api_Event.g2 e_6), _, rfl, ?_⟩
    refine (O.om 0 rfl).look (zv := false) (z := (Value.bool false)) (keyOk_int (key := 3) (elem := 4) (by kernel_rfl) (by kernel_rfl)) y_6.Msg (by kernel_rfl) rfl (fun v1 hv2 => ?_)
    obtain rfl : v1 = (Value.bool (pgd es_3 y_6.Msg false)) := (List.cons.inj (show [v1] = [(Value.bool (pgd es_3 y_6.Msg false))] from hv2)).1
    refine ⟨_, rfl, ?_⟩
    refine split_any_e e (fun c8 e => ?_) (fun c8 e => ?_)
    · cases e
      exact ⟨_, O.pick [], rfl⟩
    · refine ⟨_, ldk (k := 2) (Sub.refl _) (O.all 2 rfl) (T_api_Event.g2 e_6), _, rfl, ?_⟩
      obtain ⟨l5, g6, e⟩ := bind_e e
      replace g6 := Option.some.inj g6
      refine O.mapUpd (x := true) (v := (Value.bool true)) 0 rfl (keyOk_int (key := 3) (elem := 4) (by kernel_rfl) (by kernel_rfl)) y_6.Msg (show (eV0 eBool) m true (Value.bool true) from rfl) g6 fun h3 O4 => ?_
      have O7 := O4.nm
      exact (ih _ _ e) _ _ _ _ _ _ _ _ _ _ (O7.pick [0, 1]).nm rfl k_12 r_12
  · refine split_eq_e e (fun c20 e => ?_) (fun c20 e => ?_)
    · refine ⟨_, ldk (k := 2) (Sub.refl _) (O.all 2 rfl) (T_api_Event.g2 e_6), _, rfl, ?_⟩
      refine (O.om 0 rfl).look (zv := false) (z := (Value.bool false)) (keyOk_int (key := 3) (elem := 4) (by kernel_rfl) (by kernel_rfl)) y_6.Msg (by kernel_rfl) rfl (fun v9 hv10 => ?_)
      obtain rfl : v9 = (Value.bool (pgd es_3 y_6.Msg false)) := (List.cons.inj (show [v9] = [(Value.bool (pgd es_3 y_6.Msg false))] from hv10)).1
      refine ⟨_, rfl, ?_⟩
      refine split_not ?_
      refine split_any_e e (fun c19 e => ?_) (fun c19 e => ?_)
      · refine ⟨_, ldk (k := 2) (Sub.refl _) (O.all 2 rfl) (T_api_Event.g2 e_6), _, rfl, ?_⟩
        refine (O.om 1 rfl).look (zv := false) (z := (Value.bool false)) (keyOk_int (key := 3) (elem := 4) (by kernel_rfl) (by kernel_rfl)) y_6.Msg (by kernel_rfl) rfl (fun v11 hv12 => ?_)
        obtain rfl : v11 = (Value.bool (pgd es_4 y_6.Msg false)) := (List.cons.inj (show [v11] = [(Value.bool (pgd es_4 y_6.Msg false))] from hv12)).1
        refine ⟨_, rfl, ?_⟩
        refine split_any_e e (fun c18 e => ?_) (fun c18 e => ?_)
        · cases e
          exact ⟨_, O.pick [], rfl⟩
        · refine ⟨_, ldk (k := 2) (Sub.refl _) (O.all 2 rfl) (T_api_Event.g2 e_6), _, rfl, ?_⟩
          obtain ⟨l15, g16, e⟩ := bind_e e
          replace g16 := Option.some.inj g16
          refine O.mapUpd (x := true) (v := (Value.bool true)) 1 rfl (keyOk_int (key := 3) (elem := 4) (by kernel_rfl) (by kernel_rfl)) y_6.Msg (show (eV0 eBool) m true (Value.bool true) from rfl) g16 fun h13 O14 => ?_
          have O17 := O14.nm
          exact (ih _ _ e) _ _ _ _ _ _ _ _ _ _ (O17.pick [0, 1]).nm rfl k_12 r_12
      · cases e
        exact ⟨_, O.pick [], rfl⟩
    · exact (ih _ _ e) _ _ _ _ _ _ _ _ _ _ (O.pick [0, 1]).nm rfl k_12 r_12
theorem clock_Check.l0_k.all {p : clock_Check.l0_k.Pt} {r : (Int)} (e : clock_Check.l0_k.go p = some r) : clock_Check.l0_k.I p r := fixF_ind (β := fun _ => (Int)) clock_Check.l0_k.mono (I := clock_Check.l0_k.I) (fun go ih p r e => match p with
  | .l0 es_3 es_4 a_12 x_13 x_14 => clock_Check.l0_k.step_l0 go ih es_3 es_4 a_12 x_13 x_14 r e
  | .j0 es_3 es_4 y_6 a_12 x_13 x_14 => clock_Check.l0_k.step_j0 go ih es_3 es_4 y_6 a_12 x_13 x_14 r e
  | .j1 es_3 es_4 y_6 a_12 x_13 x_14 => clock_Check.l0_k.step_j1 go ih es_3 es_4 y_6 a_12 x_13 x_14 r e
  ) e
theorem clock_Check.l0.walk {W : Nat → Prop} {h0 m0 h m : Heap} {bk_3 : Nat} {bk_4 : Nat} {A_12 : Option Addr} {n_12 c_12 : Nat} {es_3 : (List (Int × Bool))} {es_4 : (List (Int × Bool))} {a_12 : List T_api_Event} {x_13 : Int} {x_14 : Int} (O : Hold W h0 m0 h m [rM (monoV0 tell_bool) (fun n : Int => Value.int .i64 n) bk_3 es_3, rM (monoV0 tell_bool) (fun n : Int => Value.int .i64 n) bk_4 es_4]) (ne_12 : n_12 = List.length a_12) (k_12 : List.length a_12 ≤ c_12) (r_12 : Rd 3 T_api_Event.E m A_12 a_12) {r : Int} (e : clock_Check.l0 es_3 es_4 a_12 x_13 x_14 = some r) : f80.l0 (clock_Check.post W h0 m0 r) (Value.map (some bk_3)) (Value.map (some bk_4)) A_12 n_12 c_12 x_13 x_14 h := clock_Check.l0_k.all (p := .l0 es_3 es_4 a_12 x_13 x_14) e W h0 m0 h m bk_3 bk_4 A_12 n_12 c_12 O ne_12 k_12 r_12
noncomputable def clock_Check (a_0 : List T_api_Event) : Option (Int) :=
  if (((List.length a_0) : Nat) : Int) > (200 : Int) then (some ((2 : Int))) else ((clock_Check.l0 ([] : (List (Int × Bool))) ([] : (List (Int × Bool))) a_0 (((List.length a_0) : Nat) : Int) (0 : Int)))
set_option maxRecDepth 100000 in
theorem clock_Check.walk {W : Nat → Prop} {h m : Heap} {A_0 : Option Addr} {n_0 c_0 : Nat} {a_0 : List T_api_Event} (O : Hold W h m h m []) (ne_0 : n_0 = List.length a_0) (k_0 : List.length a_0 ≤ c_0) (r_0 : Rd 3 T_api_Event.E m A_0 a_0) {r : Int} (e : clock_Check a_0 = some r) : Run Try.prog 80 #[Value.slice A_0 n_0 c_0] h (clock_Check.post W h m r) := by
  unfold clock_Check at e
  subst ne_0
  refine f80.run ?_
  unfold f80.runT
  refine split_dec_e e (fun c10 e => ?_) (fun c10 e => ?_)
  · cases e
    exact ⟨_, O.pick [], rfl⟩
  · refine O.mkMap (ν := Bool) (monoV0 tell_bool) (fun n : Int => Value.int .i64 n) fun h1 x2 O3 => ?_
    refine O3.mkMap (ν := Bool) (monoV0 tell_bool) (fun n : Int => Value.int .i64 n) fun h5 x6 O7 => ?_
    have O9 := O7.nm
    exact clock_Check.l0.walk (O9.pick [0, 1]).nm rfl k_0 r_0 e
def cut_check.post (W : Nat → Prop) (h0 m0 : Heap) (r : Int) (v : Value) (h : Heap) : Prop := ∃ m , Hold W h0 m0 h m [] ∧ v = .int .i64 r
inductive cut_check.l0_k.Pt where
  | l0 (a_6 : List Int) (a_18 : List (List Int)) (x_19 : Int) (x_20 : Int)
  | l1 (a_6 : List Int) (a_18 : List (List Int)) (x_19 : Int) (x_20 : Int) (a_27 : List Int) (x_28 : Int) (x_29 : Int)
noncomputable def cut_check.l0_k.body (go : (p : cut_check.l0_k.Pt) → Option (Int)) : (p : cut_check.l0_k.Pt) → Option (Int)
  | .l0 a_6 a_18 x_19 x_20 => if x_20 < x_19 then (Option.bind (gi a_18 x_20) fun y1 => if (((List.length y1) : Nat) : Int) = (8 : Int) then ((go (.l1 a_6 a_18 x_19 x_20 y1 (((List.length y1) : Nat) : Int) (0 : Int)))) else (some ((3 : Int)))) else (some ((0 : Int)))
  | .l1 a_6 a_18 x_19 x_20 a_27 x_28 x_29 => if x_29 < x_28 then (Option.bind (gi a_27 x_29) fun y1 => if y1 < (0 : Int) then (some ((1 : Int))) else (Option.bind (gi a_6 x_29) fun y8 => if y1 > y8 then (some ((1 : Int))) else ((go (.l1 a_6 a_18 x_19 x_20 a_27 x_28 (IntKind.wrap .i64 (x_29 + (1 : Int)))))))) else ((go (.l0 a_6 a_18 x_19 (IntKind.wrap .i64 (x_20 + (1 : Int))))))
theorem cut_check.l0_k.mono : MonoF (β := fun _ => (Int)) cut_check.l0_k.body := fun f g hfg p => match p with
  | .l0 a_6 a_18 x_19 x_20 => LeO.ite (LeO.bind (LeO.refl _) fun y1 => LeO.ite ((hfg _)) (LeO.refl _)) (LeO.refl _)
  | .l1 a_6 a_18 x_19 x_20 a_27 x_28 x_29 => LeO.ite (LeO.bind (LeO.refl _) fun y1 => LeO.ite (LeO.refl _) (LeO.bind (LeO.refl _) fun y8 => LeO.ite (LeO.refl _) ((hfg _)))) ((hfg _))
noncomputable def cut_check.l0_k.go (p : cut_check.l0_k.Pt) : Option (Int) := fixF (β := fun _ => (Int)) cut_check.l0_k.body p
noncomputable def cut_check.l0 (a_6 : List Int) (a_18 : List (List Int)) (x_19 : Int) (x_20 : Int) : Option (Int) := cut_check.l0_k.go (.l0 a_6 a_18 x_19 x_20)
noncomputable def cut_check.l1 (a_6 : List Int) (a_18 : List (List Int)) (x_19 : Int) (x_20 : Int) (a_27 : List Int) (x_28 : Int) (x_29 : Int) : Option (Int) := cut_check.l0_k.go (.l1 a_6 a_18 x_19 x_20 a_27 x_28 x_29)
theorem cut_check.l0_eq (a_6 : List Int) (a_18 : List (List Int)) (x_19 : Int) (x_20 : Int) : cut_check.l0 a_6 a_18 x_19 x_20 = if x_20 < x_19 then (Option.bind (gi a_18 x_20) fun y1 => if (((List.length y1) : Nat) : Int) = (8 : Int) then ((cut_check.l1 a_6 a_18 x_19 x_20 y1 (((List.length y1) : Nat) : Int) (0 : Int))) else (some ((3 : Int)))) else (some ((0 : Int))) := fixF_eq cut_check.l0_k.mono _
def cut_check.l0_k.I : (p : cut_check.l0_k.Pt) → (Int) → Prop
  | .l0 a_6 a_18 x_19 x_20, r => ∀ (W : Nat → Prop) (h0 m0 h m : Heap) (A_6 : Option Addr) (n_6 c_6 : Nat) (A_18 : Option Addr) (n_18 c_18 : Nat) (O : Hold W h0 m0 h m [rR (aE (tell_int .i64)) A_6 c_6 a_6]) (ne_6 : n_6 = List.length a_6) (ne_18 : n_18 = List.length a_18) (k_18 : List.length a_18 ≤ c_18) (r_18 : Rd 1 (eRow 1 (eInt .i64)) m A_18 a_18), f49.l0 (cut_check.post W h0 m0 r) A_6 n_6 c_6 A_18 n_18 c_18 x_19 x_20 h
  | .l1 a_6 a_18 x_19 x_20 a_27 x_28 x_29, r => ∀ (W : Nat → Prop) (h0 m0 h m : Heap) (A_6 : Option Addr) (n_6 c_6 : Nat) (A_18 : Option Addr) (n_18 c_18 : Nat) (A_27 : Option Addr) (n_27 c_27 : Nat) (O : Hold W h0 m0 h m [rR (aE (tell_int .i64)) A_6 c_6 a_6]) (ne_6 : n_6 = List.length a_6) (ne_18 : n_18 = List.length a_18) (k_18 : List.length a_18 ≤ c_18) (r_18 : Rd 1 (eRow 1 (eInt .i64)) m A_18 a_18) (ne_27 : n_27 = List.length a_27) (k_27 : List.length a_27 ≤ c_27) (r_27 : Rd 1 (eInt .i64) m A_27 a_27), f49.l1 (cut_check.post W h0 m0 r) A_6 n_6 c_6 A_18 n_18 c_18 x_19 x_20 A_27 n_27 c_27 x_28 x_29 h
set_option maxRecDepth 100000 in
theorem cut_check.l0_k.step_l0 (go : (p : cut_check.l0_k.Pt) → Option (Int)) (ih : ∀ p r, go p = some r → cut_check.l0_k.I p r) (a_6 : List Int) (a_18 : List (List Int)) (x_19 : Int) (x_20 : Int) (r : Int) (e : cut_check.l0_k.body go (.l0 a_6 a_18 x_19 x_20) = some r) : cut_check.l0_k.I (.l0 a_6 a_18 x_19 x_20) r := by
  unfold cut_check.l0_k.body at e
  intro W h0 m0 h m A_6 n_6 c_6 A_18 n_18 c_18 O ne_6 ne_18 k_18 r_18
  subst ne_6
  subst ne_18
  refine f49.l0_in ?_
  unfold f49.l0T
  refine split_dec_e e (fun c9 e => ?_) (fun c9 e => ?_)
  · obtain ⟨y1, g2, e⟩ := bind_e e
    refine r_18.addr rfl g2 fun a3 cs4 ha5 hc6 he7 => ?_
    obtain ⟨Acs4_0, ccs4_0, rfl, kcs4_0, rcs4_0⟩ := id he7
    refine ⟨_, ld0 O.s hc6 rfl, _, _, _, rfl, ?_⟩
    refine split_ne_e e (fun c8 e => ?_) (fun c8 e => ?_)
    · cases e
      exact ⟨_, O.pick [], rfl⟩
    · exact (ih _ _ e) _ _ _ _ _ _ _ _ _ _ _ _ _ _ (O.pick [0]).nm rfl rfl k_18 r_18 rfl kcs4_0 rcs4_0
  · cases e
    exact ⟨_, O.pick [], rfl⟩
set_option maxRecDepth 100000 in
theorem cut_check.l0_k.step_l1 (go : (p : cut_check.l0_k.Pt) → Option (Int)) (ih : ∀ p r, go p = some r → cut_check.l0_k.I p r) (a_6 : List Int) (a_18 : List (List Int)) (x_19 : Int) (x_20 : Int) (a_27 : List Int) (x_28 : Int) (x_29 : Int) (r : Int) (e : cut_check.l0_k.body go (.l1 a_6 a_18 x_19 x_20 a_27 x_28 x_29) = some r) : cut_check.l0_k.I (.l1 a_6 a_18 x_19 x_20 a_27 x_28 x_29) r := by
  unfold cut_check.l0_k.body at e
  intro W h0 m0 h m A_6 n_6 c_6 A_18 n_18 c_18 A_27 n_27 c_27 O ne_6 ne_18 k_18 r_18 ne_27 k_27 r_27
  subst ne_6
  subst ne_18
  subst ne_27
  refine f49.l1_in ?_
  unfold f49.l1T
  refine split_dec_e e (fun c17 e => ?_) (fun c17 e => ?_)
  · obtain ⟨y1, g2, e⟩ := bind_e e
    refine r_27.addr rfl g2 fun a3 cs4 ha5 hc6 he7 => ?_
    obtain rfl : cs4 = [(Value.int .i64 y1)] := he7
    refine ⟨_, ld0 O.s hc6 rfl, _, rfl, ?_⟩
    refine split_dec_e e (fun c16 e => ?_) (fun c16 e => ?_)
    · cases e
      exact ⟨_, O.pick [], rfl⟩
    · obtain ⟨y8, g9, e⟩ := bind_e e
      refine (O.os 0 rfl).addr rfl g9 fun a10 cs11 ha12 hc13 he14 => ?_
      obtain rfl : cs11 = [(Value.int .i64 y8)] := he14
      refine ⟨_, ld0 (Sub.refl _) hc13 rfl, _, rfl, ?_⟩
      refine split_dec_e e (fun c15 e => ?_) (fun c15 e => ?_)
      · cases e
        exact ⟨_, O.pick [], rfl⟩
      · exact (ih _ _ e) _ _ _ _ _ _ _ _ _ _ _ _ _ _ (O.pick [0]).nm rfl rfl k_18 r_18 rfl k_27 r_27
  · exact (ih _ _ e) _ _ _ _ _ _ _ _ _ _ _ (O.pick [0]).nm rfl rfl k_18 r_18
theorem cut_check.l0_k.all {p : cut_check.l0_k.Pt} {r : (Int)} (e : cut_check.l0_k.go p = some r) : cut_check.l0_k.I p r := fixF_ind (β := fun _ => (Int)) cut_check.l0_k.mono (I := cut_check.l0_k.I) (fun go ih p r e => match p with
  | .l0 a_6 a_18 x_19 x_20 => cut_check.l0_k.step_l0 go ih a_6 a_18 x_19 x_20 r e
  | .l1 a_6 a_18 x_19 x_20 a_27 x_28 x_29 => cut_check.l0_k.step_l1 go ih a_6 a_18 x_19 x_20 a_27 x_28 x_29 r e
  ) e
theorem cut_check.l0.walk {W : Nat → Prop} {h0 m0 h m : Heap} {A_6 : Option Addr} {n_6 c_6 : Nat} {A_18 : Option Addr} {n_18 c_18 : Nat} {a_6 : List Int} {a_18 : List (List Int)} {x_19 : Int} {x_20 : Int} (O : Hold W h0 m0 h m [rR (aE (tell_int .i64)) A_6 c_6 a_6]) (ne_6 : n_6 = List.length a_6) (ne_18 : n_18 = List.length a_18) (k_18 : List.length a_18 ≤ c_18) (r_18 : Rd 1 (eRow 1 (eInt .i64)) m A_18 a_18) {r : Int} (e : cut_check.l0 a_6 a_18 x_19 x_20 = some r) : f49.l0 (cut_check.post W h0 m0 r) A_6 n_6 c_6 A_18 n_18 c_18 x_19 x_20 h := cut_check.l0_k.all (p := .l0 a_6 a_18 x_19 x_20) e W h0 m0 h m A_6 n_6 c_6 A_18 n_18 c_18 O ne_6 ne_18 k_18 r_18
noncomputable def cut_check (a_0 : List T_api_Event) (a_1 : List (List Int)) : Option (Int) :=
  Option.bind (clock_Check a_0) fun y1 => if y1 = (0 : Int) then (Option.bind (cut_counts a_0) fun y8 => (cut_check.l0 y8 a_1 (((List.length a_1) : Nat) : Int) (0 : Int))) else (some (y1))
set_option maxRecDepth 100000 in
theorem cut_check.walk {W : Nat → Prop} {h m : Heap} {A_0 : Option Addr} {n_0 c_0 : Nat} {A_1 : Option Addr} {n_1 c_1 : Nat} {a_0 : List T_api_Event} {a_1 : List (List Int)} (O : Hold W h m h m []) (ne_0 : n_0 = List.length a_0) (k_0 : List.length a_0 ≤ c_0) (r_0 : Rd 3 T_api_Event.E m A_0 a_0) (ne_1 : n_1 = List.length a_1) (k_1 : List.length a_1 ≤ c_1) (r_1 : Rd 1 (eRow 1 (eInt .i64)) m A_1 a_1) {r : Int} (e : cut_check a_0 a_1 = some r) : Run Try.prog 49 #[Value.slice A_0 n_0 c_0, Value.slice A_1 n_1 c_1] h (cut_check.post W h m r) := by
  unfold cut_check at e
  subst ne_0
  subst ne_1
  refine f49.run ?_
  unfold f49.runT
  obtain ⟨y1, g2, e⟩ := bind_e e
  refine (clock_Check.walk (Hold.start (W := No) O.s) rfl k_0 r_0 g2).mono ?_
  rintro _ h3 ⟨m4, Q5, rfl⟩
  have O7 := Hold.nm (O.retC Q5 vfs_nil)
  refine ⟨_, rfl, ?_⟩
  refine split_ne_e e (fun c20 e => ?_) (fun c20 e => ?_)
  · cases e
    exact ⟨_, O7.pick [], rfl⟩
  · obtain ⟨y8, g9, e⟩ := bind_e e
    refine (cut_counts.walk (Hold.start (W := No) O7.s) rfl k_0 r_0 g9).mono ?_
    rintro _ h10 ⟨m11, A14, n15, c16, Q12, rfl, ne17⟩
    have O19 := Hold.nm (O7.retC Q12 (vfs_cons (rR_vf (aE_vf (fun _ _ _ _ h => h))) vfs_nil))
    subst ne17
    refine ⟨_, _, _, rfl, ?_⟩
    exact cut_check.l0.walk (O19.pick [0]).nm rfl rfl k_1 r_1 e
def cut_inside.post (W : Nat → Prop) (h0 m0 : Heap) (r : (List Bool)) (v : Value) (h : Heap) : Prop := ∃ m A0 n0 c0, Hold W h0 m0 h m [rR (aE tell_bool) A0 c0 r] ∧ v = .slice A0 n0 c0 ∧ n0 = List.length r
inductive cut_inside.l0_k.Pt where
  | l0 (a_1 : List Int) (y_5 : (List Int)) (a_6 : List Bool) (a_12 : List T_api_Event) (x_13 : Int) (x_14 : Int)
noncomputable def cut_inside.l0_k.body (go : (p : cut_inside.l0_k.Pt) → Option ((List Bool))) : (p : cut_inside.l0_k.Pt) → Option ((List Bool))
  | .l0 a_1 y_5 a_6 a_12 x_13 x_14 => if x_14 < x_13 then (Option.bind (gi a_12 x_14) fun y1 => Option.bind (gi y_5 y1.Place) fun y14 => Option.bind (gi y_5 y1.Place) fun y16 => Option.bind (some (List.set y_5 (Int.toNat y1.Place) (IntKind.wrap .i64 (y14 + (1 : Int))))) fun l18 => Option.bind (gi l18 y1.Place) fun y26 => Option.bind (gi a_1 y1.Place) fun y28 => Option.bind (gi a_6 x_14) fun y35 => Option.bind (some (List.set a_6 (Int.toNat x_14) (decide (y26 ≤ y28)))) fun l44 => (go (.l0 a_1 l18 l44 a_12 x_13 (IntKind.wrap .i64 (x_14 + (1 : Int)))))) else (some (a_6))
theorem cut_inside.l0_k.mono : MonoF (β := fun _ => ((List Bool))) cut_inside.l0_k.body := fun f g hfg p => match p with
  | .l0 a_1 y_5 a_6 a_12 x_13 x_14 => LeO.ite (LeO.bind (LeO.refl _) fun y1 => LeO.bind (LeO.refl _) fun y14 => LeO.bind (LeO.refl _) fun y16 => LeO.bind (LeO.refl _) fun l18 => LeO.bind (LeO.refl _) fun y26 => LeO.bind (LeO.refl _) fun y28 => LeO.bind (LeO.refl _) fun y35 => LeO.bind (LeO.refl _) fun l44 => (hfg _)) (LeO.refl _)
noncomputable def cut_inside.l0_k.go (p : cut_inside.l0_k.Pt) : Option ((List Bool)) := fixF (β := fun _ => ((List Bool))) cut_inside.l0_k.body p
noncomputable def cut_inside.l0 (a_1 : List Int) (y_5 : (List Int)) (a_6 : List Bool) (a_12 : List T_api_Event) (x_13 : Int) (x_14 : Int) : Option ((List Bool)) := cut_inside.l0_k.go (.l0 a_1 y_5 a_6 a_12 x_13 x_14)
theorem cut_inside.l0_eq (a_1 : List Int) (y_5 : (List Int)) (a_6 : List Bool) (a_12 : List T_api_Event) (x_13 : Int) (x_14 : Int) : cut_inside.l0 a_1 y_5 a_6 a_12 x_13 x_14 = if x_14 < x_13 then (Option.bind (gi a_12 x_14) fun y1 => Option.bind (gi y_5 y1.Place) fun y14 => Option.bind (gi y_5 y1.Place) fun y16 => Option.bind (some (List.set y_5 (Int.toNat y1.Place) (IntKind.wrap .i64 (y14 + (1 : Int))))) fun l18 => Option.bind (gi l18 y1.Place) fun y26 => Option.bind (gi a_1 y1.Place) fun y28 => Option.bind (gi a_6 x_14) fun y35 => Option.bind (some (List.set a_6 (Int.toNat x_14) (decide (y26 ≤ y28)))) fun l44 => (cut_inside.l0 a_1 l18 l44 a_12 x_13 (IntKind.wrap .i64 (x_14 + (1 : Int))))) else (some (a_6)) := fixF_eq cut_inside.l0_k.mono _
def cut_inside.l0_k.I : (p : cut_inside.l0_k.Pt) → ((List Bool)) → Prop
  | .l0 a_1 y_5 a_6 a_12 x_13 x_14, r => ∀ (W : Nat → Prop) (h0 m0 h m : Heap) (A_1 : Option Addr) (n_1 c_1 : Nat) (bk_5 : Nat) (cs_5 : List Value) (A_6 : Option Addr) (n_6 c_6 : Nat) (A_12 : Option Addr) (n_12 c_12 : Nat) (O : Hold W h0 m0 h m [rV bk_5 50 cs_5, rR (aE tell_bool) A_6 c_6 a_6]) (ne_1 : n_1 = List.length a_1) (k_1 : List.length a_1 ≤ c_1) (r_1 : Rd 1 (eInt .i64) m A_1 a_1) (e_5 : (eArr 8 (fun n : Int => Value.int .i64 n) (0 : Int)) m y_5 cs_5) (ne_6 : n_6 = List.length a_6) (ne_12 : n_12 = List.length a_12) (k_12 : List.length a_12 ≤ c_12) (r_12 : Rd 3 T_api_Event.E m A_12 a_12), f81.l0 (cut_inside.post W h0 m0 r) A_1 n_1 c_1 (⟨bk_5, 0, none⟩ : Addr) A_6 n_6 c_6 A_12 n_12 c_12 x_13 x_14 h
set_option maxHeartbeats 4000000 in
set_option maxRecDepth 100000 in
theorem cut_inside.l0_k.step_l0 (go : (p : cut_inside.l0_k.Pt) → Option ((List Bool))) (ih : ∀ p r, go p = some r → cut_inside.l0_k.I p r) (a_1 : List Int) (y_5 : (List Int)) (a_6 : List Bool) (a_12 : List T_api_Event) (x_13 : Int) (x_14 : Int) (r : (List Bool)) (e : cut_inside.l0_k.body go (.l0 a_1 y_5 a_6 a_12 x_13 x_14) = some r) : cut_inside.l0_k.I (.l0 a_1 y_5 a_6 a_12 x_13 x_14) r := by
  unfold cut_inside.l0_k.body at e
  intro W h0 m0 h m A_1 n_1 c_1 bk_5 cs_5 A_6 n_6 c_6 A_12 n_12 c_12 O ne_1 k_1 r_1 e_5 ne_6 ne_12 k_12 r_12
  subst ne_1
  have qe_5_0 := e_5.1
  obtain rfl : cs_5 = [(Value.int .i64 (List.getD y_5 0 (0 : Int))), (Value.int .i64 (List.getD y_5 1 (0 : Int))), (Value.int .i64 (List.getD y_5 2 (0 : Int))), (Value.int .i64 (List.getD y_5 3 (0 : Int))), (Value.int .i64 (List.getD y_5 4 (0 : Int))), (Value.int .i64 (List.getD y_5 5 (0 : Int))), (Value.int .i64 (List.getD y_5 6 (0 : Int))), (Value.int .i64 (List.getD y_5 7 (0 : Int)))] := e_5.2
  subst ne_6
  subst ne_12
  refine f81.l0_in ?_
  unfold f81.l0T
  refine split_dec_e e (fun c47 e => ?_) (fun c47 e => ?_)
  · obtain ⟨y1, g2, e⟩ := bind_e e
    refine r_12.addr rfl g2 fun a3 cs4 ha5 hc6 he7 => ?_
    refine ⟨_, ldAn O.s hc6 rfl, ?_⟩
    refine O.new fun h8 x9 O10 => ?_
    refine ⟨_, rfl, (T_api_Event.T.len _ _ _ he7), ?_⟩
    refine O10.stA 2 rfl (T_api_Event.T.len _ _ _ he7) (T_api_Event.T.flat _ _ _ he7) fun h12 O13 => ?_
    refine ⟨_, ld0 (Sub.refl _) (O13.all 2 rfl) (T_api_Event.g0 he7), _, rfl, ?_⟩
    obtain ⟨y14, g15, e⟩ := bind_e e
    refine ⟨gi_le g15, gi_ltn g15 qe_5_0, ?_⟩
    refine ⟨_, ldArr0 (n := 8) (f := (fun n : Int => Value.int .i64 n)) (d := (0 : Int)) (Sub.refl _) (O13.all 0 rfl) rfl qe_5_0 g15, _, rfl, ?_⟩
    obtain ⟨y16, g17, e⟩ := bind_e e
    refine ⟨gi_le g17, gi_ltn g17 qe_5_0, ?_⟩
    obtain ⟨l18, g19, e⟩ := bind_e e
    replace g19 := Option.some.inj g19
    have q20 : List.length l18 = 8 := by rw [← g19, List.length_set]; exact qe_5_0
    obtain ⟨h21, w22, o23, t24⟩ := (O13.ob 0 rfl).stArr0 (n := 8) (f := (fun n : Int => Value.int .i64 n)) (d := (0 : Int)) (v := (IntKind.wrap .i64 (y14 + (1 : Int)))) O13.s rfl (Nat.le_of_ble_eq_true rfl) qe_5_0 g17 trivial
    rw [g19] at o23
    refine ⟨h21, w22, ?_⟩
    have O25 := O13.setV 0 rfl (cs' := [(Value.int .i64 (List.getD l18 0 (0 : Int))), (Value.int .i64 (List.getD l18 1 (0 : Int))), (Value.int .i64 (List.getD l18 2 (0 : Int))), (Value.int .i64 (List.getD l18 3 (0 : Int))), (Value.int .i64 (List.getD l18 4 (0 : Int))), (Value.int .i64 (List.getD l18 5 (0 : Int))), (Value.int .i64 (List.getD l18 6 (0 : Int))), (Value.int .i64 (List.getD l18 7 (0 : Int)))]) o23 t24
    refine ⟨_, ld0 (Sub.refl _) (O25.all 2 rfl) (T_api_Event.g0 he7), _, rfl, ?_⟩
    obtain ⟨y26, g27, e⟩ := bind_e e
    refine ⟨gi_le g27, gi_ltn g27 q20, ?_⟩
    refine ⟨_, ldArr0 (n := 8) (f := (fun n : Int => Value.int .i64 n)) (d := (0 : Int)) (Sub.refl _) (O25.all 0 rfl) rfl q20 g27, _, rfl, ?_⟩
    refine ⟨_, ld0 (Sub.refl _) (O25.all 2 rfl) (T_api_Event.g0 he7), _, rfl, ?_⟩
    obtain ⟨y28, g29, e⟩ := bind_e e
    refine r_1.addr rfl g29 fun a30 cs31 ha32 hc33 he34 => ?_
    obtain rfl : cs31 = [(Value.int .i64 y28)] := he34
    refine ⟨_, ld0 O25.s hc33 rfl, _, rfl, ?_⟩
    obtain ⟨y35, g36, e⟩ := bind_e e
    refine (O25.os 1 rfl).addr rfl g36 fun a37 cs38 ha39 hc40 he41 => ?_
    obtain rfl : cs38 = [(Value.bool y35)] := he41
    obtain ⟨l44, g45, e⟩ := bind_e e
    replace g45 := Option.some.inj g45
    refine O25.elst0 1 rfl g36 ha39 hc40 (by decide) (y' := (decide (y26 ≤ y28))) rfl trivial g45 fun h42 O43 => ?_
    have O46 := O43.nm
    exact (ih _ _ e) _ _ _ _ _ _ _ _ _ _ _ _ _ _ _ _ (O46.pick [0, 1]).nm rfl k_1 r_1 ⟨q20, rfl⟩ (lset' g45) rfl k_12 r_12
  · cases e
    exact ⟨_, _, _, _, O.pick [1], rfl, rfl⟩
theorem cut_inside.l0_k.all {p : cut_inside.l0_k.Pt} {r : ((List Bool))} (e : cut_inside.l0_k.go p = some r) : cut_inside.l0_k.I p r := fixF_ind (β := fun _ => ((List Bool))) cut_inside.l0_k.mono (I := cut_inside.l0_k.I) (fun go ih p r e => match p with
  | .l0 a_1 y_5 a_6 a_12 x_13 x_14 => cut_inside.l0_k.step_l0 go ih a_1 y_5 a_6 a_12 x_13 x_14 r e
  ) e
theorem cut_inside.l0.walk {W : Nat → Prop} {h0 m0 h m : Heap} {A_1 : Option Addr} {n_1 c_1 : Nat} {bk_5 : Nat} {cs_5 : List Value} {A_6 : Option Addr} {n_6 c_6 : Nat} {A_12 : Option Addr} {n_12 c_12 : Nat} {a_1 : List Int} {y_5 : (List Int)} {a_6 : List Bool} {a_12 : List T_api_Event} {x_13 : Int} {x_14 : Int} (O : Hold W h0 m0 h m [rV bk_5 50 cs_5, rR (aE tell_bool) A_6 c_6 a_6]) (ne_1 : n_1 = List.length a_1) (k_1 : List.length a_1 ≤ c_1) (r_1 : Rd 1 (eInt .i64) m A_1 a_1) (e_5 : (eArr 8 (fun n : Int => Value.int .i64 n) (0 : Int)) m y_5 cs_5) (ne_6 : n_6 = List.length a_6) (ne_12 : n_12 = List.length a_12) (k_12 : List.length a_12 ≤ c_12) (r_12 : Rd 3 T_api_Event.E m A_12 a_12) {r : (List Bool)} (e : cut_inside.l0 a_1 y_5 a_6 a_12 x_13 x_14 = some r) : f81.l0 (cut_inside.post W h0 m0 r) A_1 n_1 c_1 (⟨bk_5, 0, none⟩ : Addr) A_6 n_6 c_6 A_12 n_12 c_12 x_13 x_14 h := cut_inside.l0_k.all (p := .l0 a_1 y_5 a_6 a_12 x_13 x_14) e W h0 m0 h m A_1 n_1 c_1 bk_5 cs_5 A_6 n_6 c_6 A_12 n_12 c_12 O ne_1 k_1 r_1 e_5 ne_6 ne_12 k_12 r_12
noncomputable def cut_inside (a_0 : List T_api_Event) (a_1 : List Int) : Option ((List Bool)) :=
  Option.bind (mks 1 (((List.length a_0) : Nat) : Int) false) fun l5 => (cut_inside.l0 a_1 (List.replicate 8 (0 : Int)) l5 a_0 (((List.length a_0) : Nat) : Int) (0 : Int))
set_option maxRecDepth 100000 in
theorem cut_inside.walk {W : Nat → Prop} {h m : Heap} {A_0 : Option Addr} {n_0 c_0 : Nat} {A_1 : Option Addr} {n_1 c_1 : Nat} {a_0 : List T_api_Event} {a_1 : List Int} (O : Hold W h m h m []) (ne_0 : n_0 = List.length a_0) (k_0 : List.length a_0 ≤ c_0) (r_0 : Rd 3 T_api_Event.E m A_0 a_0) (ne_1 : n_1 = List.length a_1) (k_1 : List.length a_1 ≤ c_1) (r_1 : Rd 1 (eInt .i64) m A_1 a_1) {r : (List Bool)} (e : cut_inside a_0 a_1 = some r) : Run Try.prog 81 #[Value.slice A_0 n_0 c_0, Value.slice A_1 n_1 c_1] h (cut_inside.post W h m r) := by
  unfold cut_inside at e
  subst ne_0
  subst ne_1
  refine f81.run ?_
  unfold f81.runT
  refine O.new fun h1 x2 O3 => ?_
  obtain ⟨l5, g6, e⟩ := bind_e e
  have q7 := mks_e g6
  refine ⟨q7.1, Int.le_refl _, q7.2.1, q7.2.2.1, ?_⟩
  refine O3.new fun h8 x9 O10 => ?_
  have O11 := O10.made 1 rfl (aE tell_bool) g6 ⟨rfl, rfl⟩
  try rw [q7.2.2.2.1]
  have O13 := O11.nm
  exact cut_inside.l0.walk (O13.pick [0, 1]).nm rfl k_1 r_1 ⟨rfl, rfl⟩ rfl rfl k_0 r_0 e
def cut_whole.post (W : Nat → Prop) (h0 m0 : Heap) (r : Bool) (v : Value) (h : Heap) : Prop := ∃ m , Hold W h0 m0 h m [] ∧ v = .bool r
inductive cut_whole.l0_k.Pt where
  | l0 (a_5 : List Bool) (es_6 : (List (Int × Bool))) (a_13 : List T_api_Event) (x_14 : Int) (x_15 : Int)
  | j0 (a_5 : List Bool) (es_6 : (List (Int × Bool))) (x_7 : Int) (y_8 : T_api_Event) (a_13 : List T_api_Event) (x_14 : Int) (x_15 : Int)
noncomputable def cut_whole.l0_k.body (go : (p : cut_whole.l0_k.Pt) → Option (Bool)) : (p : cut_whole.l0_k.Pt) → Option (Bool)
  | .l0 a_5 es_6 a_13 x_14 x_15 => if x_15 < x_14 then (Option.bind (gi a_13 x_15) fun y1 => if y1.Kind = (2 : Int) then (Option.bind (gi a_5 x_15) fun y14 => Option.bind (some (pset es_6 y1.Msg y14)) fun l23 => (go (.j0 a_5 l23 x_15 y1 a_13 x_14 x_15))) else ((go (.j0 a_5 es_6 x_15 y1 a_13 x_14 x_15)))) else (some (true))
  | .j0 a_5 es_6 x_7 y_8 a_13 x_14 x_15 => if y_8.Kind = (3 : Int) then (Option.bind (gi a_5 x_7) fun y1 => if y1 = true then (if (pgd es_6 y_8.Msg false) = true then ((go (.l0 a_5 es_6 a_13 x_14 (IntKind.wrap .i64 (x_15 + (1 : Int)))))) else (some (false))) else ((go (.l0 a_5 es_6 a_13 x_14 (IntKind.wrap .i64 (x_15 + (1 : Int))))))) else ((go (.l0 a_5 es_6 a_13 x_14 (IntKind.wrap .i64 (x_15 + (1 : Int))))))
theorem cut_whole.l0_k.mono : MonoF (β := fun _ => (Bool)) cut_whole.l0_k.body := fun f g hfg p => match p with
  | .l0 a_5 es_6 a_13 x_14 x_15 => LeO.ite (LeO.bind (LeO.refl _) fun y1 => LeO.ite (LeO.bind (LeO.refl _) fun y14 => LeO.bind (LeO.refl _) fun l23 => (hfg _)) ((hfg _))) (LeO.refl _)
  | .j0 a_5 es_6 x_7 y_8 a_13 x_14 x_15 => LeO.ite (LeO.bind (LeO.refl _) fun y1 => LeO.ite (LeO.ite ((hfg _)) (LeO.refl _)) ((hfg _))) ((hfg _))
noncomputable def cut_whole.l0_k.go (p : cut_whole.l0_k.Pt) : Option (Bool) := fixF (β := fun _ => (Bool)) cut_whole.l0_k.body p
noncomputable def cut_whole.l0 (a_5 : List Bool) (es_6 : (List (Int × Bool))) (a_13 : List T_api_Event) (x_14 : Int) (x_15 : Int) : Option (Bool) := cut_whole.l0_k.go (.l0 a_5 es_6 a_13 x_14 x_15)
noncomputable def cut_whole.j0 (a_5 : List Bool) (es_6 : (List (Int × Bool))) (x_7 : Int) (y_8 : T_api_Event) (a_13 : List T_api_Event) (x_14 : Int) (x_15 : Int) : Option (Bool) := cut_whole.l0_k.go (.j0 a_5 es_6 x_7 y_8 a_13 x_14 x_15)
theorem cut_whole.l0_eq (a_5 : List Bool) (es_6 : (List (Int × Bool))) (a_13 : List T_api_Event) (x_14 : Int) (x_15 : Int) : cut_whole.l0 a_5 es_6 a_13 x_14 x_15 = if x_15 < x_14 then (Option.bind (gi a_13 x_15) fun y1 => if y1.Kind = (2 : Int) then (Option.bind (gi a_5 x_15) fun y14 => Option.bind (some (pset es_6 y1.Msg y14)) fun l23 => (cut_whole.j0 a_5 l23 x_15 y1 a_13 x_14 x_15)) else ((cut_whole.j0 a_5 es_6 x_15 y1 a_13 x_14 x_15))) else (some (true)) := fixF_eq cut_whole.l0_k.mono _
theorem cut_whole.j0_eq (a_5 : List Bool) (es_6 : (List (Int × Bool))) (x_7 : Int) (y_8 : T_api_Event) (a_13 : List T_api_Event) (x_14 : Int) (x_15 : Int) : cut_whole.j0 a_5 es_6 x_7 y_8 a_13 x_14 x_15 = if y_8.Kind = (3 : Int) then (Option.bind (gi a_5 x_7) fun y1 => if y1 = true then (if (pgd es_6 y_8.Msg false) = true then ((cut_whole.l0 a_5 es_6 a_13 x_14 (IntKind.wrap .i64 (x_15 + (1 : Int))))) else (some (false))) else ((cut_whole.l0 a_5 es_6 a_13 x_14 (IntKind.wrap .i64 (x_15 + (1 : Int)))))) else ((cut_whole.l0 a_5 es_6 a_13 x_14 (IntKind.wrap .i64 (x_15 + (1 : Int))))) := fixF_eq cut_whole.l0_k.mono _
def cut_whole.l0_k.I : (p : cut_whole.l0_k.Pt) → (Bool) → Prop
  | .l0 a_5 es_6 a_13 x_14 x_15, r => ∀ (W : Nat → Prop) (h0 m0 h m : Heap) (A_5 : Option Addr) (n_5 c_5 : Nat) (bk_6 : Nat) (A_13 : Option Addr) (n_13 c_13 : Nat) (O : Hold W h0 m0 h m [rR (aE tell_bool) A_5 c_5 a_5, rM (monoV0 tell_bool) (fun n : Int => Value.int .i64 n) bk_6 es_6]) (ne_5 : n_5 = List.length a_5) (ne_13 : n_13 = List.length a_13) (k_13 : List.length a_13 ≤ c_13) (r_13 : Rd 3 T_api_Event.E m A_13 a_13), f51.l0 (cut_whole.post W h0 m0 r) A_5 n_5 c_5 (Value.map (some bk_6)) A_13 n_13 c_13 x_14 x_15 h
  | .j0 a_5 es_6 x_7 y_8 a_13 x_14 x_15, r => ∀ (W : Nat → Prop) (h0 m0 h m : Heap) (A_5 : Option Addr) (n_5 c_5 : Nat) (bk_6 : Nat) (bk_8 : Nat) (cs_8 : List Value) (A_13 : Option Addr) (n_13 c_13 : Nat) (O : Hold W h0 m0 h m [rR (aE tell_bool) A_5 c_5 a_5, rM (monoV0 tell_bool) (fun n : Int => Value.int .i64 n) bk_6 es_6, rV bk_8 109 cs_8]) (ne_5 : n_5 = List.length a_5) (e_8 : T_api_Event.E m y_8 cs_8) (ne_13 : n_13 = List.length a_13) (k_13 : List.length a_13 ≤ c_13) (r_13 : Rd 3 T_api_Event.E m A_13 a_13), f51.j0 (cut_whole.post W h0 m0 r) A_5 n_5 c_5 (Value.map (some bk_6)) x_7 (⟨bk_8, 0, none⟩ : Addr) A_13 n_13 c_13 x_14 x_15 h
set_option maxRecDepth 100000 in
theorem cut_whole.l0_k.step_l0 (go : (p : cut_whole.l0_k.Pt) → Option (Bool)) (ih : ∀ p r, go p = some r → cut_whole.l0_k.I p r) (a_5 : List Bool) (es_6 : (List (Int × Bool))) (a_13 : List T_api_Event) (x_14 : Int) (x_15 : Int) (r : Bool) (e : cut_whole.l0_k.body go (.l0 a_5 es_6 a_13 x_14 x_15) = some r) : cut_whole.l0_k.I (.l0 a_5 es_6 a_13 x_14 x_15) r := by
  unfold cut_whole.l0_k.body at e
  intro W h0 m0 h m A_5 n_5 c_5 bk_6 A_13 n_13 c_13 O ne_5 ne_13 k_13 r_13
  subst ne_5
  subst ne_13
  refine f51.l0_in ?_
  unfold f51.l0T
  refine split_dec_e e (fun c28 e => ?_) (fun c28 e => ?_)
  · obtain ⟨y1, g2, e⟩ := bind_e e
    refine r_13.addr rfl g2 fun a3 cs4 ha5 hc6 he7 => ?_
    refine ⟨_, ldAn O.s hc6 rfl, ?_⟩
    refine O.new fun h8 x9 O10 => ?_
    refine ⟨_, rfl, (T_api_Event.T.len _ _ _ he7), ?_⟩
    refine O10.stA 2 rfl (T_api_Event.T.len _ _ _ he7) (T_api_Event.T.flat _ _ _ he7) fun h12 O13 => ?_
    refine ⟨_, ldk (k := 1) (Sub.refl _) (O13.all 2 rfl) (T_api_Event.g1 he7), _, rfl, ?_⟩
    refine split_eq_e e (fun c27 e => ?_) (fun c27 e => ?_)
    · obtain ⟨y14, g15, e⟩ := bind_e e
      refine (O13.os 0 rfl).addr rfl g15 fun a16 cs17 ha18 hc19 he20 => ?_
      obtain rfl : cs17 = [(Value.bool y14)] := he20
      refine ⟨_, ldk (k := 2) (Sub.refl _) (O13.all 2 rfl) (T_api_Event.g2 he7), _, rfl, ?_⟩
      refine ⟨_, ld0 (Sub.refl _) hc19 rfl, _, rfl, ?_⟩
      obtain ⟨l23, g24, e⟩ := bind_e e
      replace g24 := Option.some.inj g24
      refine O13.mapUpd (x := y14) (v := (Value.bool y14)) 1 rfl (keyOk_int (key := 3) (elem := 4) (by kernel_rfl) (by kernel_rfl)) y1.Msg (show (eV0 eBool) m y14 (Value.bool y14) from rfl) g24 fun h21 O22 => ?_
      have O25 := O22.nm
      exact (ih _ _ e) _ _ _ _ _ _ _ _ _ _ _ _ _ _ (O25.pick [0, 1, 2]).nm rfl he7 rfl k_13 r_13
    · have O26 := O13.nm
      exact (ih _ _ e) _ _ _ _ _ _ _ _ _ _ _ _ _ _ (O26.pick [0, 1, 2]).nm rfl he7 rfl k_13 r_13
  · cases e
    exact ⟨_, O.pick [], rfl⟩
set_option maxRecDepth 100000 in
theorem cut_whole.l0_k.step_j0 (go : (p : cut_whole.l0_k.Pt) → Option (Bool)) (ih : ∀ p r, go p = some r → cut_whole.l0_k.I p r) (a_5 : List Bool) (es_6 : (List (Int × Bool))) (x_7 : Int) (y_8 : T_api_Event) (a_13 : List T_api_Event) (x_14 : Int) (x_15 : Int) (r : Bool) (e : cut_whole.l0_k.body go (.j0 a_5 es_6 x_7 y_8 a_13 x_14 x_15) = some r) : cut_whole.l0_k.I (.j0 a_5 es_6 x_7 y_8 a_13 x_14 x_15) r := by
  unfold cut_whole.l0_k.body at e
  intro W h0 m0 h m A_5 n_5 c_5 bk_6 bk_8 cs_8 A_13 n_13 c_13 O ne_5 e_8 ne_13 k_13 r_13
  subst ne_5
  subst ne_13
  refine f51.j0_in ?_
  unfold f51.j0T
  refine ⟨_, ldk (k := 1) (Sub.refl _) (O.all 2 rfl) (T_api_Event.g1 e_8), _, rfl, ?_⟩
  refine split_eq_e e (fun c12 e => ?_) (fun c12 e => ?_)
  · obtain ⟨y1, g2, e⟩ := bind_e e
    refine (O.os 0 rfl).addr rfl g2 fun a3 cs4 ha5 hc6 he7 => ?_
    obtain rfl : cs4 = [(Value.bool y1)] := he7
    refine ⟨_, ld0 (Sub.refl _) hc6 rfl, _, rfl, ?_⟩
    refine split_any_e e (fun c11 e => ?_) (fun c11 e => ?_)
    · refine ⟨_, ldk (k := 2) (Sub.refl _) (O.all 2 rfl) (T_api_Event.g2 e_8), _, rfl, ?_⟩
      refine (O.om 1 rfl).look (zv := false) (z := (Value.bool false)) (keyOk_int (key := 3) (elem := 4) (by kernel_rfl) (by kernel_rfl)) y_8.Msg (by kernel_rfl) rfl (fun v8 hv9 => ?_)
      obtain rfl : v8 = (Value.bool (pgd es_6 y_8.Msg false)) := (List.cons.inj (show [v8] = [(Value.bool (pgd es_6 y_8.Msg false))] from hv9)).1
      refine ⟨_, rfl, ?_⟩
      refine split_not ?_
      refine split_any_e e (fun c10 e => ?_) (fun c10 e => ?_)
      · exact (ih _ _ e) _ _ _ _ _ _ _ _ _ _ _ _ (O.pick [0, 1]).nm rfl rfl k_13 r_13
      · cases e
        exact ⟨_, O.pick [], rfl⟩
    · exact (ih _ _ e) _ _ _ _ _ _ _ _ _ _ _ _ (O.pick [0, 1]).nm rfl rfl k_13 r_13
  · exact (ih _ _ e) _ _ _ _ _ _ _ _ _ _ _ _ (O.pick [0, 1]).nm rfl rfl k_13 r_13
theorem cut_whole.l0_k.all {p : cut_whole.l0_k.Pt} {r : (Bool)} (e : cut_whole.l0_k.go p = some r) : cut_whole.l0_k.I p r := fixF_ind (β := fun _ => (Bool)) cut_whole.l0_k.mono (I := cut_whole.l0_k.I) (fun go ih p r e => match p with
  | .l0 a_5 es_6 a_13 x_14 x_15 => cut_whole.l0_k.step_l0 go ih a_5 es_6 a_13 x_14 x_15 r e
  | .j0 a_5 es_6 x_7 y_8 a_13 x_14 x_15 => cut_whole.l0_k.step_j0 go ih a_5 es_6 x_7 y_8 a_13 x_14 x_15 r e
  ) e
theorem cut_whole.l0.walk {W : Nat → Prop} {h0 m0 h m : Heap} {A_5 : Option Addr} {n_5 c_5 : Nat} {bk_6 : Nat} {A_13 : Option Addr} {n_13 c_13 : Nat} {a_5 : List Bool} {es_6 : (List (Int × Bool))} {a_13 : List T_api_Event} {x_14 : Int} {x_15 : Int} (O : Hold W h0 m0 h m [rR (aE tell_bool) A_5 c_5 a_5, rM (monoV0 tell_bool) (fun n : Int => Value.int .i64 n) bk_6 es_6]) (ne_5 : n_5 = List.length a_5) (ne_13 : n_13 = List.length a_13) (k_13 : List.length a_13 ≤ c_13) (r_13 : Rd 3 T_api_Event.E m A_13 a_13) {r : Bool} (e : cut_whole.l0 a_5 es_6 a_13 x_14 x_15 = some r) : f51.l0 (cut_whole.post W h0 m0 r) A_5 n_5 c_5 (Value.map (some bk_6)) A_13 n_13 c_13 x_14 x_15 h := cut_whole.l0_k.all (p := .l0 a_5 es_6 a_13 x_14 x_15) e W h0 m0 h m A_5 n_5 c_5 bk_6 A_13 n_13 c_13 O ne_5 ne_13 k_13 r_13
noncomputable def cut_whole (a_0 : List T_api_Event) (a_1 : List Int) : Option (Bool) :=
  Option.bind (cut_inside a_0 a_1) fun y1 => (cut_whole.l0 y1 ([] : (List (Int × Bool))) a_0 (((List.length a_0) : Nat) : Int) (0 : Int))
set_option maxRecDepth 100000 in
theorem cut_whole.walk {W : Nat → Prop} {h m : Heap} {A_0 : Option Addr} {n_0 c_0 : Nat} {A_1 : Option Addr} {n_1 c_1 : Nat} {a_0 : List T_api_Event} {a_1 : List Int} (O : Hold W h m h m []) (ne_0 : n_0 = List.length a_0) (k_0 : List.length a_0 ≤ c_0) (r_0 : Rd 3 T_api_Event.E m A_0 a_0) (ne_1 : n_1 = List.length a_1) (k_1 : List.length a_1 ≤ c_1) (r_1 : Rd 1 (eInt .i64) m A_1 a_1) {r : Bool} (e : cut_whole a_0 a_1 = some r) : Run Try.prog 51 #[Value.slice A_0 n_0 c_0, Value.slice A_1 n_1 c_1] h (cut_whole.post W h m r) := by
  unfold cut_whole at e
  subst ne_0
  subst ne_1
  refine f51.run ?_
  unfold f51.runT
  obtain ⟨y1, g2, e⟩ := bind_e e
  refine (cut_inside.walk (Hold.start (W := No) O.s) rfl k_0 r_0 rfl k_1 r_1 g2).mono ?_
  rintro _ h3 ⟨m4, A7, n8, c9, Q5, rfl, ne10⟩
  have O12 := Hold.nm (O.retC Q5 (vfs_cons (rR_vf (aE_vf (fun _ _ _ _ h => h))) vfs_nil))
  subst ne10
  refine ⟨_, _, _, rfl, ?_⟩
  refine O12.mkMap (ν := Bool) (monoV0 tell_bool) (fun n : Int => Value.int .i64 n) fun h13 x14 O15 => ?_
  have O17 := O15.nm
  exact cut_whole.l0.walk (O17.pick [0, 1]).nm rfl rfl k_0 r_0 e
def cut_All.post (W : Nat → Prop) (h0 m0 : Heap) (r : Int × Int) (v : Value) (h : Heap) : Prop := ∃ m , Hold W h0 m0 h m [] ∧ v = .tuple #[.int .i64 r.1, .int .i64 r.2]
inductive cut_All.l0_k.Pt where
  | l0 (a_0 : List T_api_Event) (a_5 : List Int) (es_7 : (List (Vec 8 × Bool))) (a_8 : List (List Int)) (x_9 : Int)
  | l1 (a_0 : List T_api_Event) (a_5 : List Int) (es_7 : (List (Vec 8 × Bool))) (a_8 : List (List Int)) (x_9 : Int) (x_30 : Int)
  | j0 (a_0 : List T_api_Event) (a_5 : List Int) (es_7 : (List (Vec 8 × Bool))) (a_8 : List (List Int)) (x_9 : Int) (y_11 : (List Int)) (x_30 : Int)
noncomputable def cut_All.l0_k.body (go : (p : cut_All.l0_k.Pt) → Option (Int × Int)) : (p : cut_All.l0_k.Pt) → Option (Int × Int)
  | .l0 a_0 a_5 es_7 a_8 x_9 => if x_9 < (((List.length a_8) : Nat) : Int) then ((go (.l1 a_0 a_5 es_7 a_8 x_9 (0 : Int)))) else (some ((((List.length a_8) : Nat) : Int), (0 : Int)))
  | .l1 a_0 a_5 es_7 a_8 x_9 x_30 => if x_30 < (8 : Int) then (Option.bind (gi a_8 x_9) fun y1 => Option.bind (gi y1 x_30) fun y14 => Option.bind (gi y1 x_30) fun y16 => Option.bind (some (List.set y1 (Int.toNat x_30) (IntKind.wrap .i64 (y14 + (1 : Int))))) fun l18 => Option.bind (gi l18 x_30) fun y26 => Option.bind (gi a_5 x_30) fun y28 => if y26 > y28 then ((go (.l1 a_0 a_5 es_7 a_8 x_9 (IntKind.wrap .i64 (x_30 + (1 : Int)))))) else (if (pgd es_7 (vec 8 l18) false) = true then ((go (.l1 a_0 a_5 es_7 a_8 x_9 (IntKind.wrap .i64 (x_30 + (1 : Int)))))) else (Option.bind (cut_whole a_0 l18) fun y44 => if y44 = true then ((go (.j0 a_0 a_5 es_7 a_8 x_9 l18 x_30))) else ((go (.l1 a_0 a_5 es_7 a_8 x_9 (IntKind.wrap .i64 (x_30 + (1 : Int))))))))) else ((go (.l0 a_0 a_5 es_7 a_8 (IntKind.wrap .i64 (x_9 + (1 : Int))))))
  | .j0 a_0 a_5 es_7 a_8 x_9 y_11 x_30 => if (((List.length a_8) : Nat) : Int) = (5000 : Int) then (some ((0 : Int), (2 : Int))) else (Option.bind (some (pset es_7 (vec 8 y_11) true)) fun l3 => Option.bind (ap 64 a_8 ([y_11] : List (List Int))) fun l9 => (go (.l1 a_0 a_5 l3 l9 x_9 (IntKind.wrap .i64 (x_30 + (1 : Int))))))
theorem cut_All.l0_k.mono : MonoF (β := fun _ => (Int × Int)) cut_All.l0_k.body := fun f g hfg p => match p with
  | .l0 a_0 a_5 es_7 a_8 x_9 => LeO.ite ((hfg _)) (LeO.refl _)
  | .l1 a_0 a_5 es_7 a_8 x_9 x_30 => LeO.ite (LeO.bind (LeO.refl _) fun y1 => LeO.bind (LeO.refl _) fun y14 => LeO.bind (LeO.refl _) fun y16 => LeO.bind (LeO.refl _) fun l18 => LeO.bind (LeO.refl _) fun y26 => LeO.bind (LeO.refl _) fun y28 => LeO.ite ((hfg _)) (LeO.ite ((hfg _)) (LeO.bind (LeO.refl _) fun y44 => LeO.ite ((hfg _)) ((hfg _))))) ((hfg _))
  | .j0 a_0 a_5 es_7 a_8 x_9 y_11 x_30 => LeO.ite (LeO.refl _) (LeO.bind (LeO.refl _) fun l3 => LeO.bind (LeO.refl _) fun l9 => (hfg _))
noncomputable def cut_All.l0_k.go (p : cut_All.l0_k.Pt) : Option (Int × Int) := fixF (β := fun _ => (Int × Int)) cut_All.l0_k.body p
noncomputable def cut_All.l0 (a_0 : List T_api_Event) (a_5 : List Int) (es_7 : (List (Vec 8 × Bool))) (a_8 : List (List Int)) (x_9 : Int) : Option (Int × Int) := cut_All.l0_k.go (.l0 a_0 a_5 es_7 a_8 x_9)
noncomputable def cut_All.l1 (a_0 : List T_api_Event) (a_5 : List Int) (es_7 : (List (Vec 8 × Bool))) (a_8 : List (List Int)) (x_9 : Int) (x_30 : Int) : Option (Int × Int) := cut_All.l0_k.go (.l1 a_0 a_5 es_7 a_8 x_9 x_30)
noncomputable def cut_All.j0 (a_0 : List T_api_Event) (a_5 : List Int) (es_7 : (List (Vec 8 × Bool))) (a_8 : List (List Int)) (x_9 : Int) (y_11 : (List Int)) (x_30 : Int) : Option (Int × Int) := cut_All.l0_k.go (.j0 a_0 a_5 es_7 a_8 x_9 y_11 x_30)
theorem cut_All.l0_eq (a_0 : List T_api_Event) (a_5 : List Int) (es_7 : (List (Vec 8 × Bool))) (a_8 : List (List Int)) (x_9 : Int) : cut_All.l0 a_0 a_5 es_7 a_8 x_9 = if x_9 < (((List.length a_8) : Nat) : Int) then ((cut_All.l1 a_0 a_5 es_7 a_8 x_9 (0 : Int))) else (some ((((List.length a_8) : Nat) : Int), (0 : Int))) := fixF_eq cut_All.l0_k.mono _
theorem cut_All.l1_eq (a_0 : List T_api_Event) (a_5 : List Int) (es_7 : (List (Vec 8 × Bool))) (a_8 : List (List Int)) (x_9 : Int) (x_30 : Int) : cut_All.l1 a_0 a_5 es_7 a_8 x_9 x_30 = if x_30 < (8 : Int) then (Option.bind (gi a_8 x_9) fun y1 => Option.bind (gi y1 x_30) fun y14 => Option.bind (gi y1 x_30) fun y16 => Option.bind (some (List.set y1 (Int.toNat x_30) (IntKind.wrap .i64 (y14 + (1 : Int))))) fun l18 => Option.bind (gi l18 x_30) fun y26 => Option.bind (gi a_5 x_30) fun y28 => if y26 > y28 then ((cut_All.l1 a_0 a_5 es_7 a_8 x_9 (IntKind.wrap .i64 (x_30 + (1 : Int))))) else (if (pgd es_7 (vec 8 l18) false) = true then ((cut_All.l1 a_0 a_5 es_7 a_8 x_9 (IntKind.wrap .i64 (x_30 + (1 : Int))))) else (Option.bind (cut_whole a_0 l18) fun y44 => if y44 = true then ((cut_All.j0 a_0 a_5 es_7 a_8 x_9 l18 x_30)) else ((cut_All.l1 a_0 a_5 es_7 a_8 x_9 (IntKind.wrap .i64 (x_30 + (1 : Int)))))))) else ((cut_All.l0 a_0 a_5 es_7 a_8 (IntKind.wrap .i64 (x_9 + (1 : Int))))) := fixF_eq cut_All.l0_k.mono _
theorem cut_All.j0_eq (a_0 : List T_api_Event) (a_5 : List Int) (es_7 : (List (Vec 8 × Bool))) (a_8 : List (List Int)) (x_9 : Int) (y_11 : (List Int)) (x_30 : Int) : cut_All.j0 a_0 a_5 es_7 a_8 x_9 y_11 x_30 = if (((List.length a_8) : Nat) : Int) = (5000 : Int) then (some ((0 : Int), (2 : Int))) else (Option.bind (some (pset es_7 (vec 8 y_11) true)) fun l3 => Option.bind (ap 64 a_8 ([y_11] : List (List Int))) fun l9 => (cut_All.l1 a_0 a_5 l3 l9 x_9 (IntKind.wrap .i64 (x_30 + (1 : Int))))) := fixF_eq cut_All.l0_k.mono _
def cut_All.l0_k.I : (p : cut_All.l0_k.Pt) → (Int × Int) → Prop
  | .l0 a_0 a_5 es_7 a_8 x_9, r => ∀ (W : Nat → Prop) (h0 m0 h m : Heap) (A_0 : Option Addr) (n_0 c_0 : Nat) (A_5 : Option Addr) (n_5 c_5 : Nat) (bk_7 : Nat) (A_8 : Option Addr) (n_8 c_8 : Nat) (O : Hold W h0 m0 h m [rR (aE (tell_int .i64)) A_5 c_5 a_5, rM (monoV0 tell_bool) (vecKey 8 .i64) bk_7 es_7, rR (aE (tell_arr (n := 8) (f := (fun n : Int => Value.int .i64 n)) (d := (0 : Int)) (fun _ => trivial))) A_8 c_8 a_8]) (ne_0 : n_0 = List.length a_0) (k_0 : List.length a_0 ≤ c_0) (r_0 : Rd 3 T_api_Event.E m A_0 a_0) (ne_5 : n_5 = List.length a_5) (ne_8 : n_8 = List.length a_8), f7.l0 (cut_All.post W h0 m0 r) A_0 n_0 c_0 A_5 n_5 c_5 (Value.map (some bk_7)) A_8 n_8 c_8 x_9 h
  | .l1 a_0 a_5 es_7 a_8 x_9 x_30, r => ∀ (W : Nat → Prop) (h0 m0 h m : Heap) (A_0 : Option Addr) (n_0 c_0 : Nat) (A_5 : Option Addr) (n_5 c_5 : Nat) (bk_7 : Nat) (A_8 : Option Addr) (n_8 c_8 : Nat) (O : Hold W h0 m0 h m [rR (aE (tell_int .i64)) A_5 c_5 a_5, rM (monoV0 tell_bool) (vecKey 8 .i64) bk_7 es_7, rR (aE (tell_arr (n := 8) (f := (fun n : Int => Value.int .i64 n)) (d := (0 : Int)) (fun _ => trivial))) A_8 c_8 a_8]) (ne_0 : n_0 = List.length a_0) (k_0 : List.length a_0 ≤ c_0) (r_0 : Rd 3 T_api_Event.E m A_0 a_0) (ne_5 : n_5 = List.length a_5) (ne_8 : n_8 = List.length a_8), f7.l1 (cut_All.post W h0 m0 r) A_0 n_0 c_0 A_5 n_5 c_5 (Value.map (some bk_7)) A_8 n_8 c_8 x_9 x_30 h
  | .j0 a_0 a_5 es_7 a_8 x_9 y_11 x_30, r => ∀ (W : Nat → Prop) (h0 m0 h m : Heap) (A_0 : Option Addr) (n_0 c_0 : Nat) (A_5 : Option Addr) (n_5 c_5 : Nat) (bk_7 : Nat) (A_8 : Option Addr) (n_8 c_8 : Nat) (bk_11 : Nat) (O : Hold W h0 m0 h m [rR (aE (tell_int .i64)) A_5 c_5 a_5, rM (monoV0 tell_bool) (vecKey 8 .i64) bk_7 es_7, rR (aE (tell_arr (n := 8) (f := (fun n : Int => Value.int .i64 n)) (d := (0 : Int)) (fun _ => trivial))) A_8 c_8 a_8]) (ne_0 : n_0 = List.length a_0) (k_0 : List.length a_0 ≤ c_0) (r_0 : Rd 3 T_api_Event.E m A_0 a_0) (ne_5 : n_5 = List.length a_5) (ne_8 : n_8 = List.length a_8) (v_11 : VB (eArr 8 (fun n : Int => Value.int .i64 n) (0 : Int)) m bk_11 y_11), f7.j0 (cut_All.post W h0 m0 r) A_0 n_0 c_0 A_5 n_5 c_5 (Value.map (some bk_7)) A_8 n_8 c_8 x_9 (⟨bk_11, 0, none⟩ : Addr) x_30 h
set_option maxRecDepth 100000 in
theorem cut_All.l0_k.step_l0 (go : (p : cut_All.l0_k.Pt) → Option (Int × Int)) (ih : ∀ p r, go p = some r → cut_All.l0_k.I p r) (a_0 : List T_api_Event) (a_5 : List Int) (es_7 : (List (Vec 8 × Bool))) (a_8 : List (List Int)) (x_9 : Int) (r : Int × Int) (e : cut_All.l0_k.body go (.l0 a_0 a_5 es_7 a_8 x_9) = some r) : cut_All.l0_k.I (.l0 a_0 a_5 es_7 a_8 x_9) r := by
  unfold cut_All.l0_k.body at e
  intro W h0 m0 h m A_0 n_0 c_0 A_5 n_5 c_5 bk_7 A_8 n_8 c_8 O ne_0 k_0 r_0 ne_5 ne_8
  subst ne_0
  subst ne_5
  subst ne_8
  refine f7.l0_in ?_
  unfold f7.l0T
  refine split_dec_e e (fun c1 e => ?_) (fun c1 e => ?_)
  · exact (ih _ _ e) _ _ _ _ _ _ _ _ _ _ _ _ _ _ _ (O.pick [0, 1, 2]).nm rfl k_0 r_0 rfl rfl
  · cases e
    exact ⟨_, O.pick [], rfl⟩
set_option maxHeartbeats 4000000 in
set_option maxRecDepth 100000 in
theorem cut_All.l0_k.step_l1 (go : (p : cut_All.l0_k.Pt) → Option (Int × Int)) (ih : ∀ p r, go p = some r → cut_All.l0_k.I p r) (a_0 : List T_api_Event) (a_5 : List Int) (es_7 : (List (Vec 8 × Bool))) (a_8 : List (List Int)) (x_9 : Int) (x_30 : Int) (r : Int × Int) (e : cut_All.l0_k.body go (.l1 a_0 a_5 es_7 a_8 x_9 x_30) = some r) : cut_All.l0_k.I (.l1 a_0 a_5 es_7 a_8 x_9 x_30) r := by
  unfold cut_All.l0_k.body at e
  intro W h0 m0 h m A_0 n_0 c_0 A_5 n_5 c_5 bk_7 A_8 n_8 c_8 O ne_0 k_0 r_0 ne_5 ne_8
  subst ne_0
  subst ne_5
  subst ne_8
  refine f7.l1_in ?_
  unfold f7.l1T
  refine split_dec_e e (fun c54 e => ?_) (fun c54 e => ?_)
  · obtain ⟨y1, g2, e⟩ := bind_e e
    refine (O.os 2 rfl).addr rfl g2 fun a3 cs4 ha5 hc6 he7 => ?_
    have qcs4_0 := he7.1
    obtain rfl : cs4 = [(Value.int .i64 (List.getD y1 0 (0 : Int))), (Value.int .i64 (List.getD y1 1 (0 : Int))), (Value.int .i64 (List.getD y1 2 (0 : Int))), (Value.int .i64 (List.getD y1 3 (0 : Int))), (Value.int .i64 (List.getD y1 4 (0 : Int))), (Value.int .i64 (List.getD y1 5 (0 : Int))), (Value.int .i64 (List.getD y1 6 (0 : Int))), (Value.int .i64 (List.getD y1 7 (0 : Int)))] := he7.2
    refine ⟨_, ldAn (Sub.refl _) hc6 rfl, ?_⟩
    refine O.new fun h8 x9 O10 => ?_
    refine ⟨_, rfl, rfl, ?_⟩
    refine O10.stA 3 rfl rfl (Flats.cons trivial (Flats.cons trivial (Flats.cons trivial (Flats.cons trivial (Flats.cons trivial (Flats.cons trivial (Flats.cons trivial (Flats.cons trivial Flats.nil)))))))) fun h12 O13 => ?_
    obtain ⟨y14, g15, e⟩ := bind_e e
    refine ⟨gi_le g15, gi_ltn g15 qcs4_0, ?_⟩
    refine ⟨_, ldArr0 (n := 8) (f := (fun n : Int => Value.int .i64 n)) (d := (0 : Int)) (Sub.refl _) (O13.all 3 rfl) rfl qcs4_0 g15, _, rfl, ?_⟩
    obtain ⟨y16, g17, e⟩ := bind_e e
    refine ⟨gi_le g17, gi_ltn g17 qcs4_0, ?_⟩
    obtain ⟨l18, g19, e⟩ := bind_e e
    replace g19 := Option.some.inj g19
    have q20 : List.length l18 = 8 := by rw [← g19, List.length_set]; exact qcs4_0
    obtain ⟨h21, w22, o23, t24⟩ := (O13.ob 3 rfl).stArr0 (n := 8) (f := (fun n : Int => Value.int .i64 n)) (d := (0 : Int)) (v := (IntKind.wrap .i64 (y14 + (1 : Int)))) O13.s rfl (Nat.le_of_ble_eq_true rfl) qcs4_0 g17 trivial
    rw [g19] at o23
    refine ⟨h21, w22, ?_⟩
    have O25 := O13.setV 3 rfl (cs' := [(Value.int .i64 (List.getD l18 0 (0 : Int))), (Value.int .i64 (List.getD l18 1 (0 : Int))), (Value.int .i64 (List.getD l18 2 (0 : Int))), (Value.int .i64 (List.getD l18 3 (0 : Int))), (Value.int .i64 (List.getD l18 4 (0 : Int))), (Value.int .i64 (List.getD l18 5 (0 : Int))), (Value.int .i64 (List.getD l18 6 (0 : Int))), (Value.int .i64 (List.getD l18 7 (0 : Int)))]) o23 t24
    obtain ⟨y26, g27, e⟩ := bind_e e
    refine ⟨gi_le g27, gi_ltn g27 q20, ?_⟩
    obtain ⟨y28, g29, e⟩ := bind_e e
    refine (O25.os 0 rfl).addr rfl g29 fun a30 cs31 ha32 hc33 he34 => ?_
    obtain rfl : cs31 = [(Value.int .i64 y28)] := he34
    refine ⟨_, ldArr0 (n := 8) (f := (fun n : Int => Value.int .i64 n)) (d := (0 : Int)) (Sub.refl _) (O25.all 3 rfl) rfl q20 g27, _, rfl, ?_⟩
    refine ⟨_, ld0 (Sub.refl _) hc33 rfl, _, rfl, ?_⟩
    refine split_dec_e e (fun c53 e => ?_) (fun c53 e => ?_)
    · have O35 := O25.nm
      exact (ih _ _ e) _ _ _ _ _ _ _ _ _ _ _ _ _ _ _ (O35.pick [0, 1, 2]).nm rfl k_0 r_0 rfl rfl
    · refine ⟨_, ldAn (Sub.refl _) (O25.all 3 rfl) rfl, ?_⟩
      refine (O25.om 1 rfl).look (zv := false) (z := (Value.bool false)) (keyOk_vec (key := 50) (elem := 4) (et := 3) (n := 8) (kd := .i64) (by kernel_rfl) (by kernel_rfl) (by kernel_rfl) (by kernel_rfl) (fun x y => by kernel_rfl)) (vec 8 l18) (by kernel_rfl) rfl (fun v36 hv37 => ?_)
      obtain rfl : v36 = (Value.bool (pgd es_7 (vec 8 l18) false)) := (List.cons.inj (show [v36] = [(Value.bool (pgd es_7 (vec 8 l18) false))] from hv37)).1
      refine ⟨_, rfl, ?_⟩
      refine split_any_e e (fun c52 e => ?_) (fun c52 e => ?_)
      · have O38 := O25.nm
        exact (ih _ _ e) _ _ _ _ _ _ _ _ _ _ _ _ _ _ _ (O38.pick [0, 1, 2]).nm rfl k_0 r_0 rfl rfl
      · obtain ⟨m39, u40, hb41, O42⟩ := O25.frz 3 rfl
        replace hb41 : Blk m39 (Array.size h) [(Value.int .i64 (List.getD l18 0 (0 : Int))), (Value.int .i64 (List.getD l18 1 (0 : Int))), (Value.int .i64 (List.getD l18 2 (0 : Int))), (Value.int .i64 (List.getD l18 3 (0 : Int))), (Value.int .i64 (List.getD l18 4 (0 : Int))), (Value.int .i64 (List.getD l18 5 (0 : Int))), (Value.int .i64 (List.getD l18 6 (0 : Int))), (Value.int .i64 (List.getD l18 7 (0 : Int)))] 50 := hb41
        have r43 := arrRd (n := 8) (f := (fun n : Int => Value.int .i64 n)) (d := (0 : Int)) (L := l18) (ad := (⟨(Array.size h), 0, none⟩ : Addr)) (E := (eInt .i64)) hb41 0 rfl rfl q20 (fun _ => rfl)
        refine ⟨by decide, by decide, Int.le_refl _, ?_⟩
        obtain ⟨y44, g45, e⟩ := bind_e e
        refine (cut_whole.walk (Hold.start (W := No) O42.s) rfl k_0 (r_0.sub T_api_Event.T u40) (show (8 : Nat) = List.length l18 from (q20).symm) (show List.length l18 ≤ 8 from Nat.le_of_eq q20) r43 g45).mono ?_
        rintro _ h46 ⟨m47, Q48, rfl⟩
        have O50 := Hold.nm (O42.retC Q48 vfs_nil)
        refine ⟨_, rfl, ?_⟩
        refine split_not ?_
        refine split_any_e e (fun c51 e => ?_) (fun c51 e => ?_)
        · exact (ih _ _ e) _ _ _ _ _ _ _ _ _ _ _ _ _ _ _ _ (O50.pick [0, 1, 2]).nm rfl k_0 (r_0.sub T_api_Event.T u40) rfl rfl ⟨_, _, hb41, nn, ⟨q20, rfl⟩⟩
        · exact (ih _ _ e) _ _ _ _ _ _ _ _ _ _ _ _ _ _ _ (O50.pick [0, 1, 2]).nm rfl k_0 (r_0.sub T_api_Event.T u40) rfl rfl
  · exact (ih _ _ e) _ _ _ _ _ _ _ _ _ _ _ _ _ _ _ (O.pick [0, 1, 2]).nm rfl k_0 r_0 rfl rfl
set_option maxRecDepth 100000 in
theorem cut_All.l0_k.step_j0 (go : (p : cut_All.l0_k.Pt) → Option (Int × Int)) (ih : ∀ p r, go p = some r → cut_All.l0_k.I p r) (a_0 : List T_api_Event) (a_5 : List Int) (es_7 : (List (Vec 8 × Bool))) (a_8 : List (List Int)) (x_9 : Int) (y_11 : (List Int)) (x_30 : Int) (r : Int × Int) (e : cut_All.l0_k.body go (.j0 a_0 a_5 es_7 a_8 x_9 y_11 x_30) = some r) : cut_All.l0_k.I (.j0 a_0 a_5 es_7 a_8 x_9 y_11 x_30) r := by
  unfold cut_All.l0_k.body at e
  intro W h0 m0 h m A_0 n_0 c_0 A_5 n_5 c_5 bk_7 A_8 n_8 c_8 bk_11 O ne_0 k_0 r_0 ne_5 ne_8 v_11
  subst ne_0
  subst ne_5
  subst ne_8
  obtain ⟨cs_11, t_11, hb_11, nn_11, e_11⟩ := id v_11
  have qe_11_0 := e_11.1
  obtain rfl : cs_11 = [(Value.int .i64 (List.getD y_11 0 (0 : Int))), (Value.int .i64 (List.getD y_11 1 (0 : Int))), (Value.int .i64 (List.getD y_11 2 (0 : Int))), (Value.int .i64 (List.getD y_11 3 (0 : Int))), (Value.int .i64 (List.getD y_11 4 (0 : Int))), (Value.int .i64 (List.getD y_11 5 (0 : Int))), (Value.int .i64 (List.getD y_11 6 (0 : Int))), (Value.int .i64 (List.getD y_11 7 (0 : Int)))] := e_11.2
  refine f7.j0_in ?_
  unfold f7.j0T
  refine split_eq_e e (fun c19 e => ?_) (fun c19 e => ?_)
  · cases e
    exact ⟨_, O.pick [], rfl⟩
  · refine ⟨_, ldAn O.s (Blk.all' hb_11) rfl, ?_⟩
    obtain ⟨l3, g4, e⟩ := bind_e e
    replace g4 := Option.some.inj g4
    refine O.mapUpd (x := true) (v := (Value.bool true)) 1 rfl (keyOk_vec (key := 50) (elem := 4) (et := 3) (n := 8) (kd := .i64) (by kernel_rfl) (by kernel_rfl) (by kernel_rfl) (by kernel_rfl) (fun x y => by kernel_rfl)) (vec 8 y_11) (show (eV0 eBool) m true (Value.bool true) from rfl) g4 fun h1 O2 => ?_
    refine ⟨_, ldAn O2.s (Blk.all' hb_11) rfl, ?_⟩
    refine ⟨[(Value.int .i64 (List.getD y_11 0 (0 : Int))), (Value.int .i64 (List.getD y_11 1 (0 : Int))), (Value.int .i64 (List.getD y_11 2 (0 : Int))), (Value.int .i64 (List.getD y_11 3 (0 : Int))), (Value.int .i64 (List.getD y_11 4 (0 : Int))), (Value.int .i64 (List.getD y_11 5 (0 : Int))), (Value.int .i64 (List.getD y_11 6 (0 : Int))), (Value.int .i64 (List.getD y_11 7 (0 : Int)))], rfl, rfl, ?_⟩
    refine O2.new fun h5 x6 O7 => ?_
    obtain ⟨l9, g10, e⟩ := bind_e e
    have O17 := O7.rowE (l := ([y_11] : List (List Int))) 3 rfl (tell_arr (n := 8) (f := (fun n : Int => Value.int .i64 n)) (d := (0 : Int)) (fun _ => trivial)) (show CsE _ _ _ _ _ from (CsE.cons (c1 := [(Value.int .i64 (List.getD y_11 0 (0 : Int))), (Value.int .i64 (List.getD y_11 1 (0 : Int))), (Value.int .i64 (List.getD y_11 2 (0 : Int))), (Value.int .i64 (List.getD y_11 3 (0 : Int))), (Value.int .i64 (List.getD y_11 4 (0 : Int))), (Value.int .i64 (List.getD y_11 5 (0 : Int))), (Value.int .i64 (List.getD y_11 6 (0 : Int))), (Value.int .i64 (List.getD y_11 7 (0 : Int)))]) ⟨qe_11_0, rfl⟩ rfl CsE.nil)) rfl
    refine O17.app 2 rfl rfl rfl ((O17.os 3 rfl).srcE rfl) (by decide) g10 fun A11 c12 h13 O14 => ?_
    refine ⟨_, _, _, rfl, ?_⟩
    have O18 := O14.nm
    exact (ih _ _ e) _ _ _ _ _ _ _ _ _ _ _ _ _ _ _ (O18.pick [0, 1, 2]).nm rfl k_0 r_0 rfl rfl
theorem cut_All.l0_k.all {p : cut_All.l0_k.Pt} {r : (Int × Int)} (e : cut_All.l0_k.go p = some r) : cut_All.l0_k.I p r := fixF_ind (β := fun _ => (Int × Int)) cut_All.l0_k.mono (I := cut_All.l0_k.I) (fun go ih p r e => match p with
  | .l0 a_0 a_5 es_7 a_8 x_9 => cut_All.l0_k.step_l0 go ih a_0 a_5 es_7 a_8 x_9 r e
  | .l1 a_0 a_5 es_7 a_8 x_9 x_30 => cut_All.l0_k.step_l1 go ih a_0 a_5 es_7 a_8 x_9 x_30 r e
  | .j0 a_0 a_5 es_7 a_8 x_9 y_11 x_30 => cut_All.l0_k.step_j0 go ih a_0 a_5 es_7 a_8 x_9 y_11 x_30 r e
  ) e
theorem cut_All.l0.walk {W : Nat → Prop} {h0 m0 h m : Heap} {A_0 : Option Addr} {n_0 c_0 : Nat} {A_5 : Option Addr} {n_5 c_5 : Nat} {bk_7 : Nat} {A_8 : Option Addr} {n_8 c_8 : Nat} {a_0 : List T_api_Event} {a_5 : List Int} {es_7 : (List (Vec 8 × Bool))} {a_8 : List (List Int)} {x_9 : Int} (O : Hold W h0 m0 h m [rR (aE (tell_int .i64)) A_5 c_5 a_5, rM (monoV0 tell_bool) (vecKey 8 .i64) bk_7 es_7, rR (aE (tell_arr (n := 8) (f := (fun n : Int => Value.int .i64 n)) (d := (0 : Int)) (fun _ => trivial))) A_8 c_8 a_8]) (ne_0 : n_0 = List.length a_0) (k_0 : List.length a_0 ≤ c_0) (r_0 : Rd 3 T_api_Event.E m A_0 a_0) (ne_5 : n_5 = List.length a_5) (ne_8 : n_8 = List.length a_8) {r : Int × Int} (e : cut_All.l0 a_0 a_5 es_7 a_8 x_9 = some r) : f7.l0 (cut_All.post W h0 m0 r) A_0 n_0 c_0 A_5 n_5 c_5 (Value.map (some bk_7)) A_8 n_8 c_8 x_9 h := cut_All.l0_k.all (p := .l0 a_0 a_5 es_7 a_8 x_9) e W h0 m0 h m A_0 n_0 c_0 A_5 n_5 c_5 bk_7 A_8 n_8 c_8 O ne_0 k_0 r_0 ne_5 ne_8
noncomputable def cut_All (a_0 : List T_api_Event) : Option (Int × Int) :=
  Option.bind (cut_check a_0 ([] : List (List Int))) fun y1 => if y1 = (0 : Int) then (Option.bind (cut_counts a_0) fun y8 => Option.bind (some (pset ([] : (List (Vec 8 × Bool))) (vec 8 (List.replicate 8 (0 : Int))) true)) fun l30 => (cut_All.l0 a_0 y8 l30 ([(List.replicate 8 (0 : Int))] : List (List Int)) (0 : Int))) else (some ((0 : Int), y1))
set_option maxRecDepth 100000 in
theorem cut_All.walk {W : Nat → Prop} {h m : Heap} {A_0 : Option Addr} {n_0 c_0 : Nat} {a_0 : List T_api_Event} (O : Hold W h m h m []) (ne_0 : n_0 = List.length a_0) (k_0 : List.length a_0 ≤ c_0) (r_0 : Rd 3 T_api_Event.E m A_0 a_0) {r : Int × Int} (e : cut_All a_0 = some r) : Run Try.prog 7 #[Value.slice A_0 n_0 c_0] h (cut_All.post W h m r) := by
  unfold cut_All at e
  subst ne_0
  refine f7.run ?_
  unfold f7.runT
  obtain ⟨y1, g2, e⟩ := bind_e e
  refine (cut_check.walk (Hold.start (W := No) O.s) rfl k_0 r_0 rfl (by exact Nat.le_refl 0) Rd.nil g2).mono ?_
  rintro _ h3 ⟨m4, Q5, rfl⟩
  have O7 := Hold.nm (O.retC Q5 vfs_nil)
  refine ⟨_, rfl, ?_⟩
  refine split_ne_e e (fun c38 e => ?_) (fun c38 e => ?_)
  · cases e
    exact ⟨_, O7.pick [], rfl⟩
  · obtain ⟨y8, g9, e⟩ := bind_e e
    refine (cut_counts.walk (Hold.start (W := No) O7.s) rfl k_0 r_0 g9).mono ?_
    rintro _ h10 ⟨m11, A14, n15, c16, Q12, rfl, ne17⟩
    have O19 := Hold.nm (O7.retC Q12 (vfs_cons (rR_vf (aE_vf (fun _ _ _ _ h => h))) vfs_nil))
    subst ne17
    refine ⟨_, _, _, rfl, ?_⟩
    refine O19.new fun h20 x21 O22 => ?_
    refine O22.mkMap (ν := Bool) (monoV0 tell_bool) (vecKey 8 .i64) fun h24 x25 O26 => ?_
    refine ⟨_, ldAn (Sub.refl _) (O26.all 1 rfl) rfl, ?_⟩
    obtain ⟨l30, g31, e⟩ := bind_e e
    replace g31 := Option.some.inj g31
    refine O26.mapUpd (x := true) (v := (Value.bool true)) 2 rfl (keyOk_vec (key := 50) (elem := 4) (et := 3) (n := 8) (kd := .i64) (by kernel_rfl) (by kernel_rfl) (by kernel_rfl) (by kernel_rfl) (fun x y => by kernel_rfl)) (vec 8 (List.replicate 8 (0 : Int))) (show (eV0 eBool) m true (Value.bool true) from rfl) g31 fun h28 O29 => ?_
    refine ⟨_, ldAn (Sub.refl _) (O29.all 1 rfl) rfl, ?_⟩
    refine ⟨[(Value.int .i64 (0 : Int)), (Value.int .i64 (0 : Int)), (Value.int .i64 (0 : Int)), (Value.int .i64 (0 : Int)), (Value.int .i64 (0 : Int)), (Value.int .i64 (0 : Int)), (Value.int .i64 (0 : Int)), (Value.int .i64 (0 : Int))], rfl, rfl, ?_⟩
    refine O29.new fun h32 x33 O34 => ?_
    have O36 := O34.rowE (l := ([(List.replicate 8 (0 : Int))] : List (List Int))) 3 rfl (tell_arr (n := 8) (f := (fun n : Int => Value.int .i64 n)) (d := (0 : Int)) (fun _ => trivial)) (show CsE _ _ _ _ _ from (CsE.cons (c1 := [(Value.int .i64 (0 : Int)), (Value.int .i64 (0 : Int)), (Value.int .i64 (0 : Int)), (Value.int .i64 (0 : Int)), (Value.int .i64 (0 : Int)), (Value.int .i64 (0 : Int)), (Value.int .i64 (0 : Int)), (Value.int .i64 (0 : Int))]) ⟨rfl, rfl⟩ rfl CsE.nil)) rfl
    have O37 := O36.nm
    exact cut_All.l0.walk (O37.pick [0, 2, 3]).nm rfl k_0 r_0 rfl rfl e
def roadlaw4_two.post (W : Nat → Prop) (h0 m0 : Heap) (r : (List T_api_Event)) (v : Value) (h : Heap) : Prop := ∃ m A0 n0 c0, Hold W h0 m0 h m [rR (aE T_api_Event.T) A0 c0 r] ∧ v = .slice A0 n0 c0 ∧ n0 = List.length r
noncomputable def roadlaw4_two  : Option ((List T_api_Event)) :=
  some (([(T_api_Event.mk (0 : Int) (2 : Int) (5 : Int)), (T_api_Event.mk (1 : Int) (3 : Int) (5 : Int))] : List T_api_Event))
set_option maxRecDepth 100000 in
theorem roadlaw4_two.walk {W : Nat → Prop} {h m : Heap}  (O : Hold W h m h m []) {r : (List T_api_Event)} (e : roadlaw4_two  = some r) : Run Try.prog 8 #[] h (roadlaw4_two.post W h m r) := by
  unfold roadlaw4_two at e
  refine f8.run ?_
  unfold f8.runT
  refine ⟨[(Value.int .i64 (0 : Int)), (Value.int .i64 (2 : Int)), (Value.int .i64 (5 : Int))], rfl, rfl, ?_⟩
  refine ⟨[(Value.int .i64 (1 : Int)), (Value.int .i64 (3 : Int)), (Value.int .i64 (5 : Int))], rfl, rfl, ?_⟩
  refine O.new fun h1 x2 O3 => ?_
  have O5 := O3.rowE (l := ([(T_api_Event.mk (0 : Int) (2 : Int) (5 : Int)), (T_api_Event.mk (1 : Int) (3 : Int) (5 : Int))] : List T_api_Event)) 0 rfl T_api_Event.T (show CsE _ _ _ _ _ from (CsE.cons (c1 := [(Value.int .i64 (0 : Int)), (Value.int .i64 (2 : Int)), (Value.int .i64 (5 : Int))]) (show T_api_Event.E _ (T_api_Event.mk (0 : Int) (2 : Int) (5 : Int)) [(Value.int .i64 (0 : Int)), (Value.int .i64 (2 : Int)), (Value.int .i64 (5 : Int))] from rfl) rfl (CsE.cons (c1 := [(Value.int .i64 (1 : Int)), (Value.int .i64 (3 : Int)), (Value.int .i64 (5 : Int))]) (show T_api_Event.E _ (T_api_Event.mk (1 : Int) (3 : Int) (5 : Int)) [(Value.int .i64 (1 : Int)), (Value.int .i64 (3 : Int)), (Value.int .i64 (5 : Int))] from rfl) rfl CsE.nil))) rfl
  have O6 := O5.nm
  cases e
  exact ⟨_, _, _, _, O6.pick [0], rfl, rfl⟩
def slices_IndexFunc_82.post (W : Nat → Prop) (h0 m0 : Heap) (r : Int) (v : Value) (h : Heap) : Prop := ∃ m , Hold W h0 m0 h m [] ∧ v = .int .i64 r
inductive slices_IndexFunc_82.l0_k.Pt where
  | l0 (a_0 : List T_api_Event) (p_1 : T_api_Event → Option Bool) (x_7 : Int) (x_8 : Int)
noncomputable def slices_IndexFunc_82.l0_k.body (go : (p : slices_IndexFunc_82.l0_k.Pt) → Option (Int)) : (p : slices_IndexFunc_82.l0_k.Pt) → Option (Int)
  | .l0 a_0 p_1 x_7 x_8 => if x_8 < x_7 then (Option.bind (gi a_0 x_8) fun y1 => Option.bind (p_1 y1) fun y8 => if y8 = true then (some (x_8)) else ((go (.l0 a_0 p_1 x_7 (IntKind.wrap .i64 (x_8 + (1 : Int))))))) else (some ((-1 : Int)))
theorem slices_IndexFunc_82.l0_k.mono : MonoF (β := fun _ => (Int)) slices_IndexFunc_82.l0_k.body := fun f g hfg p => match p with
  | .l0 a_0 p_1 x_7 x_8 => LeO.ite (LeO.bind (LeO.refl _) fun y1 => LeO.bind (LeO.refl _) fun y8 => LeO.ite (LeO.refl _) ((hfg _))) (LeO.refl _)
noncomputable def slices_IndexFunc_82.l0_k.go (p : slices_IndexFunc_82.l0_k.Pt) : Option (Int) := fixF (β := fun _ => (Int)) slices_IndexFunc_82.l0_k.body p
noncomputable def slices_IndexFunc_82.l0 (a_0 : List T_api_Event) (p_1 : T_api_Event → Option Bool) (x_7 : Int) (x_8 : Int) : Option (Int) := slices_IndexFunc_82.l0_k.go (.l0 a_0 p_1 x_7 x_8)
theorem slices_IndexFunc_82.l0_eq (a_0 : List T_api_Event) (p_1 : T_api_Event → Option Bool) (x_7 : Int) (x_8 : Int) : slices_IndexFunc_82.l0 a_0 p_1 x_7 x_8 = if x_8 < x_7 then (Option.bind (gi a_0 x_8) fun y1 => Option.bind (p_1 y1) fun y8 => if y8 = true then (some (x_8)) else ((slices_IndexFunc_82.l0 a_0 p_1 x_7 (IntKind.wrap .i64 (x_8 + (1 : Int)))))) else (some ((-1 : Int))) := fixF_eq slices_IndexFunc_82.l0_k.mono _
def slices_IndexFunc_82.l0_k.I : (p : slices_IndexFunc_82.l0_k.Pt) → (Int) → Prop
  | .l0 a_0 p_1 x_7 x_8, r => ∀ (W : Nat → Prop) (h0 m0 h m : Heap) (A_0 : Option Addr) (n_0 c_0 : Nat) (fv_1 : Value) (O : Hold W h0 m0 h m []) (ne_0 : n_0 = List.length a_0) (k_0 : List.length a_0 ≤ c_0) (r_0 : Rd 3 T_api_Event.E m A_0 a_0) (f_1 : ∀ h' m', Sub m0 m' → Sub m' h' → ∀ (y0 : T_api_Event) (cs0 : List Value) (_ : T_api_Event.E m' y0 cs0) (r : Bool), p_1 y0 = some r → CallF Try.prog fv_1 [.agg cs0.toArray] h' (fun v h'' => v = .bool r ∧ Ext h' h'')), f82.l0 (slices_IndexFunc_82.post W h0 m0 r) A_0 n_0 c_0 fv_1 x_7 x_8 h
set_option maxRecDepth 100000 in
theorem slices_IndexFunc_82.l0_k.step_l0 (go : (p : slices_IndexFunc_82.l0_k.Pt) → Option (Int)) (ih : ∀ p r, go p = some r → slices_IndexFunc_82.l0_k.I p r) (a_0 : List T_api_Event) (p_1 : T_api_Event → Option Bool) (x_7 : Int) (x_8 : Int) (r : Int) (e : slices_IndexFunc_82.l0_k.body go (.l0 a_0 p_1 x_7 x_8) = some r) : slices_IndexFunc_82.l0_k.I (.l0 a_0 p_1 x_7 x_8) r := by
  unfold slices_IndexFunc_82.l0_k.body at e
  intro W h0 m0 h m A_0 n_0 c_0 fv_1 O ne_0 k_0 r_0 f_1
  subst ne_0
  refine f82.l0_in ?_
  unfold f82.l0T
  refine split_dec_e e (fun c14 e => ?_) (fun c14 e => ?_)
  · obtain ⟨y1, g2, e⟩ := bind_e e
    refine r_0.addr rfl g2 fun a3 cs4 ha5 hc6 he7 => ?_
    refine ⟨_, ldAn O.s hc6 rfl, ?_⟩
    obtain ⟨y8, g9, e⟩ := bind_e e
    refine CallF.mono (f_1 _ _ O.up O.s _ _ he7 _ g9) ?_
    rintro _ h10 ⟨rfl, x11⟩
    have O12 := O.ext x11
    refine ⟨_, rfl, ?_⟩
    refine split_any_e e (fun c13 e => ?_) (fun c13 e => ?_)
    · cases e
      exact ⟨_, O12.pick [], rfl⟩
    · exact (ih _ _ e) _ _ _ _ _ _ _ _ _ (O12.pick []).nm rfl k_0 r_0 f_1
  · cases e
    exact ⟨_, O.pick [], rfl⟩
theorem slices_IndexFunc_82.l0_k.all {p : slices_IndexFunc_82.l0_k.Pt} {r : (Int)} (e : slices_IndexFunc_82.l0_k.go p = some r) : slices_IndexFunc_82.l0_k.I p r := fixF_ind (β := fun _ => (Int)) slices_IndexFunc_82.l0_k.mono (I := slices_IndexFunc_82.l0_k.I) (fun go ih p r e => match p with
  | .l0 a_0 p_1 x_7 x_8 => slices_IndexFunc_82.l0_k.step_l0 go ih a_0 p_1 x_7 x_8 r e
  ) e
theorem slices_IndexFunc_82.l0.walk {W : Nat → Prop} {h0 m0 h m : Heap} {A_0 : Option Addr} {n_0 c_0 : Nat} {fv_1 : Value} {a_0 : List T_api_Event} {p_1 : T_api_Event → Option Bool} {x_7 : Int} {x_8 : Int} (O : Hold W h0 m0 h m []) (ne_0 : n_0 = List.length a_0) (k_0 : List.length a_0 ≤ c_0) (r_0 : Rd 3 T_api_Event.E m A_0 a_0) (f_1 : ∀ h' m', Sub m0 m' → Sub m' h' → ∀ (y0 : T_api_Event) (cs0 : List Value) (_ : T_api_Event.E m' y0 cs0) (r : Bool), p_1 y0 = some r → CallF Try.prog fv_1 [.agg cs0.toArray] h' (fun v h'' => v = .bool r ∧ Ext h' h'')) {r : Int} (e : slices_IndexFunc_82.l0 a_0 p_1 x_7 x_8 = some r) : f82.l0 (slices_IndexFunc_82.post W h0 m0 r) A_0 n_0 c_0 fv_1 x_7 x_8 h := slices_IndexFunc_82.l0_k.all (p := .l0 a_0 p_1 x_7 x_8) e W h0 m0 h m A_0 n_0 c_0 fv_1 O ne_0 k_0 r_0 f_1
noncomputable def slices_IndexFunc_82 (a_0 : List T_api_Event) (p_1 : T_api_Event → Option Bool) : Option (Int) :=
  (slices_IndexFunc_82.l0 a_0 p_1 (((List.length a_0) : Nat) : Int) (0 : Int))
set_option maxRecDepth 100000 in
theorem slices_IndexFunc_82.walk {W : Nat → Prop} {h m : Heap} {A_0 : Option Addr} {n_0 c_0 : Nat} {fv_1 : Value} {a_0 : List T_api_Event} {p_1 : T_api_Event → Option Bool} (O : Hold W h m h m []) (ne_0 : n_0 = List.length a_0) (k_0 : List.length a_0 ≤ c_0) (r_0 : Rd 3 T_api_Event.E m A_0 a_0) (f_1 : ∀ h' m', Sub m m' → Sub m' h' → ∀ (y0 : T_api_Event) (cs0 : List Value) (_ : T_api_Event.E m' y0 cs0) (r : Bool), p_1 y0 = some r → CallF Try.prog fv_1 [.agg cs0.toArray] h' (fun v h'' => v = .bool r ∧ Ext h' h'')) {r : Int} (e : slices_IndexFunc_82 a_0 p_1 = some r) : Run Try.prog 82 #[Value.slice A_0 n_0 c_0, fv_1] h (slices_IndexFunc_82.post W h m r) := by
  unfold slices_IndexFunc_82 at e
  subst ne_0
  refine f82.run ?_
  unfold f82.runT
  exact slices_IndexFunc_82.l0.walk (O.pick []).nm rfl k_0 r_0 f_1 e
def slices_ContainsFunc_53.post (W : Nat → Prop) (h0 m0 : Heap) (r : Bool) (v : Value) (h : Heap) : Prop := ∃ m , Hold W h0 m0 h m [] ∧ v = .bool r
noncomputable def slices_ContainsFunc_53 (a_0 : List T_api_Event) (p_1 : T_api_Event → Option Bool) : Option (Bool) :=
  Option.bind (slices_IndexFunc_82 a_0 p_1) fun y1 => some ((decide (y1 ≥ (0 : Int))))
set_option maxRecDepth 100000 in
theorem slices_ContainsFunc_53.walk {W : Nat → Prop} {h m : Heap} {A_0 : Option Addr} {n_0 c_0 : Nat} {fv_1 : Value} {a_0 : List T_api_Event} {p_1 : T_api_Event → Option Bool} (O : Hold W h m h m []) (ne_0 : n_0 = List.length a_0) (k_0 : List.length a_0 ≤ c_0) (r_0 : Rd 3 T_api_Event.E m A_0 a_0) (f_1 : ∀ h' m', Sub m m' → Sub m' h' → ∀ (y0 : T_api_Event) (cs0 : List Value) (_ : T_api_Event.E m' y0 cs0) (r : Bool), p_1 y0 = some r → CallF Try.prog fv_1 [.agg cs0.toArray] h' (fun v h'' => v = .bool r ∧ Ext h' h'')) {r : Bool} (e : slices_ContainsFunc_53 a_0 p_1 = some r) : Run Try.prog 53 #[Value.slice A_0 n_0 c_0, fv_1] h (slices_ContainsFunc_53.post W h m r) := by
  unfold slices_ContainsFunc_53 at e
  subst ne_0
  refine f53.run ?_
  unfold f53.runT
  obtain ⟨y1, g2, e⟩ := bind_e e
  refine (slices_IndexFunc_82.walk (Hold.start (W := No) O.s) rfl k_0 r_0 f_1 g2).mono ?_
  rintro _ h3 ⟨m4, Q5, rfl⟩
  have O7 := Hold.nm (O.retC Q5 vfs_nil)
  refine ⟨_, rfl, ?_⟩
  cases e
  exact ⟨_, O7.pick [], rfl⟩
theorem slices_ContainsFunc_53.val {l : List T_api_Event} {p : T_api_Event → Option Bool} (q : T_api_Event → Bool) (hp : ∀ x ∈ l, p x = some (q x)) (hl : l.length ≤ 4611686018427387904) : slices_ContainsFunc_53 l p = some (l.any q) := findB_val (fun a p n i => slices_IndexFunc_82.l0_eq a p n i) (fun _ _ => rfl) (fun _ _ => rfl) q hp hl
def roadref4_History_1_1.post (W : Nat → Prop) (h0 m0 : Heap) (r : Bool) (v : Value) (h : Heap) : Prop := ∃ m , Hold W h0 m0 h m [] ∧ v = .bool r
noncomputable def roadref4_History_1_1 (y_0 : T_api_Event) (y_1 : Int) (y_2 : T_api_Event) : Option (Bool) :=
  if y_0.Kind = y_1 then (some ((y_0.Msg == y_2.Msg))) else (some (false))
set_option maxRecDepth 100000 in
theorem roadref4_History_1_1.walk {W : Nat → Prop} {h m : Heap} {cs_0 : List Value} {bk_1 : Nat} {bk_2 : Nat} {y_0 : T_api_Event} {y_1 : Int} {y_2 : T_api_Event} (O : Hold W h m h m []) (e_0 : T_api_Event.E m y_0 cs_0) (v_1 : VB (eInt .i64) m bk_1 y_1) (v_2 : VB T_api_Event.E m bk_2 y_2) {r : Bool} (e : roadref4_History_1_1 y_0 y_1 y_2 = some r) : Run Try.prog 54 #[Value.agg cs_0.toArray, Value.pointer (some ⟨bk_1, 0, none⟩), Value.pointer (some ⟨bk_2, 0, none⟩)] h (roadref4_History_1_1.post W h m r) := by
  unfold roadref4_History_1_1 at e
  obtain ⟨cs_1, t_1, hb_1, nn_1, e_1⟩ := id v_1
  obtain rfl : cs_1 = [(Value.int .i64 y_1)] := e_1
  obtain ⟨cs_2, t_2, hb_2, nn_2, e_2⟩ := id v_2
  refine f54.run ?_
  unfold f54.runT
  refine O.new fun h1 x2 O3 => ?_
  refine ⟨_, ldk (k := 1) (Sub.refl _) (O3.all 0 rfl) (T_api_Event.g1 e_0), _, rfl, ?_⟩
  refine ⟨_, ld0 O3.s (Blk.all' hb_1) rfl, _, rfl, ?_⟩
  refine split_eq_e e (fun c7 e => ?_) (fun c7 e => ?_)
  · refine ⟨_, ldk (k := 2) (Sub.refl _) (O3.all 0 rfl) (T_api_Event.g2 e_0), _, rfl, ?_⟩
    refine ⟨_, ldk (k := 2) O3.s (Blk.all' hb_2) (T_api_Event.g2 e_2), _, rfl, ?_⟩
    have O5 := O3.nm
    cases e
    exact ⟨_, O5.pick [], rfl⟩
  · have O6 := O3.nm
    cases e
    exact ⟨_, O6.pick [], rfl⟩
def roadref4_History_1.post (W : Nat → Prop) (h0 m0 : Heap) (r : Bool) (v : Value) (h : Heap) : Prop := ∃ m , Hold W h0 m0 h m [] ∧ v = .bool r
noncomputable def roadref4_History_1 (x_0 : Int) (y_1 : (List T_api_Event)) (y_2 : Int) (y_3 : T_api_Event) : Option (Bool) :=
  Option.bind (sls y_1 (0 : Int) y_2) fun l5 => Option.bind (slices_ContainsFunc_53 l5 (fun z23 => roadref4_History_1_1 z23 x_0 y_3)) fun y10 => some (y10)
set_option maxRecDepth 100000 in
theorem roadref4_History_1.walk {W : Nat → Prop} {h m : Heap} {bk_1 : Nat} {bk_2 : Nat} {bk_3 : Nat} {x_0 : Int} {y_1 : (List T_api_Event)} {y_2 : Int} {y_3 : T_api_Event} (O : Hold W h m h m []) (v_1 : VB (eRow 3 T_api_Event.E) m bk_1 y_1) (v_2 : VB (eInt .i64) m bk_2 y_2) (v_3 : VB T_api_Event.E m bk_3 y_3) {r : Bool} (e : roadref4_History_1 x_0 y_1 y_2 y_3 = some r) : Run Try.prog 52 #[Value.int .i64 x_0, Value.pointer (some ⟨bk_1, 0, none⟩), Value.pointer (some ⟨bk_2, 0, none⟩), Value.pointer (some ⟨bk_3, 0, none⟩)] h (roadref4_History_1.post W h m r) := by
  unfold roadref4_History_1 at e
  obtain ⟨cs_1, t_1, hb_1, nn_1, e_1⟩ := id v_1
  obtain ⟨Ae_1_0, ce_1_0, rfl, ke_1_0, re_1_0⟩ := id e_1
  obtain ⟨cs_2, t_2, hb_2, nn_2, e_2⟩ := id v_2
  obtain rfl : cs_2 = [(Value.int .i64 y_2)] := e_2
  obtain ⟨cs_3, t_3, hb_3, nn_3, e_3⟩ := id v_3
  refine f52.run ?_
  unfold f52.runT
  refine O.new fun h1 x2 O3 => ?_
  refine ⟨_, ld0 O3.s (Blk.all' hb_1) rfl, _, _, _, rfl, ?_⟩
  refine ⟨_, ld0 O3.s (Blk.all' hb_2) rfl, _, rfl, ?_⟩
  obtain ⟨l5, g6, e⟩ := bind_e e
  have q7 := sls_e g6
  refine ⟨q7.1, q7.2.1, cap_in q7.2.2.1 ke_1_0, ?_⟩
  try rw [q7.2.2.2.1]
  have k8 : List.length l5 ≤ (ce_1_0 - Int.toNat (0 : Int)) := sls_cap g6 ke_1_0
  have r9 := re_1_0.sls g6 (le_mx q7.2.2.1 ke_1_0)
  obtain ⟨y10, g11, e⟩ := bind_e e
  have O16 := O3.nm
  obtain ⟨m17, u18, s22, ⟨hb21, _⟩, B19, C20⟩ := O16.lend0 [0]
  refine (slices_ContainsFunc_53.walk (Hold.start (W := No) s22) rfl k8 (r9.sub T_api_Event.T u18) (fun h24 m25 u26 s27 y30 cs30 he30 r28 e29 => CallF.of [Value.agg cs30.toArray, Value.pointer (some ⟨(Array.size h), 0, none⟩), Value.pointer (some ⟨bk_3, 0, none⟩)] f54.ok rfl ((roadref4_History_1_1.walk (Hold.start (W := No) s27) he30 (VB.sub (show VB (eInt .i64) _ _ _ from ⟨_, _, hb21, nn, rfl⟩) (tell_int .i64) u26) (VB.sub (v_3.sub T_api_Event.T u18) T_api_Event.T u26) e29).mono (fun _ _ h => let ⟨_, t, e⟩ := h; ⟨e, t.S.ext⟩))) g11).mono ?_
  rintro _ h12 ⟨m13, Q14, rfl⟩
  have O31 := Hold.nm (C20 Q14 vfs_nil)
  refine ⟨_, rfl, ?_⟩
  cases e
  exact ⟨_, O31.pick [], rfl⟩
def roadref4_within.post (W : Nat → Prop) (h0 m0 : Heap) (r : Bool) (v : Value) (h : Heap) : Prop := ∃ m , Hold W h0 m0 h m [] ∧ v = .bool r
noncomputable def roadref4_within (x_0 : Int) (x_1 : Int) (x_2 : Int) : Option (Bool) :=
  if x_0 ≥ x_1 then (some ((decide (x_0 ≤ x_2)))) else (some (false))
set_option maxRecDepth 100000 in
theorem roadref4_within.walk {W : Nat → Prop} {h m : Heap} {x_0 : Int} {x_1 : Int} {x_2 : Int} (O : Hold W h m h m []) {r : Bool} (e : roadref4_within x_0 x_1 x_2 = some r) : Run Try.prog 55 #[Value.int .i64 x_0, Value.int .i64 x_1, Value.int .i64 x_2] h (roadref4_within.post W h m r) := by
  unfold roadref4_within at e
  refine f55.run ?_
  unfold f55.runT
  refine split_dec_e e (fun c1 e => ?_) (fun c1 e => ?_)
  · cases e
    exact ⟨_, O.pick [], rfl⟩
  · cases e
    exact ⟨_, O.pick [], rfl⟩
def roadref4_History.post (W : Nat → Prop) (h0 m0 : Heap) (r : Int) (v : Value) (h : Heap) : Prop := ∃ m , Hold W h0 m0 h m [] ∧ v = .int .i64 r
inductive roadref4_History.l0_k.Pt where
  | l0 (y_1 : (List T_api_Event)) (a_9 : List T_api_Event) (x_10 : Int) (x_11 : Int)
  | j0 (y_1 : (List T_api_Event)) (y_4 : T_api_Event) (y_5_c_1 : Int) (a_9 : List T_api_Event) (x_10 : Int) (x_11 : Int) (b_22 : Bool)
  | j1 (y_1 : (List T_api_Event)) (y_4 : T_api_Event) (y_5_c_1 : Int) (a_9 : List T_api_Event) (x_10 : Int) (x_11 : Int) (b_36 : Bool)
  | j2 (y_1 : (List T_api_Event)) (y_4 : T_api_Event) (y_5_c_1 : Int) (a_9 : List T_api_Event) (x_10 : Int) (x_11 : Int) (b_44 : Bool)
noncomputable def roadref4_History.l0_k.body (go : (p : roadref4_History.l0_k.Pt) → Option (Int)) : (p : roadref4_History.l0_k.Pt) → Option (Int)
  | .l0 y_1 a_9 x_10 x_11 => if x_11 < x_10 then (Option.bind (gi a_9 x_11) fun y1 => Option.bind (roadref4_within y1.Kind (1 : Int) (3 : Int)) fun y20 => if y20 = true then (Option.bind (roadref4_within y1.Place (0 : Int) (7 : Int)) fun y27 => if y27 = true then (if y1.Kind > (1 : Int) then (Option.bind (roadref4_within y1.Msg (0 : Int) (999 : Int)) fun y34 => (go (.j0 y_1 y1 x_11 a_9 x_10 x_11 (!y34)))) else ((go (.j0 y_1 y1 x_11 a_9 x_10 x_11 false)))) else ((go (.j0 y_1 y1 x_11 a_9 x_10 x_11 (!y27))))) else (some ((3 : Int)))) else (some ((0 : Int)))
  | .j0 y_1 y_4 y_5_c_1 a_9 x_10 x_11 b_22 => if b_22 = true then (some ((1 : Int))) else (if y_4.Kind = (2 : Int) then (Option.bind (roadref4_History_1 (2 : Int) y_1 y_5_c_1 y_4) fun y1 => (go (.j1 y_1 y_4 y_5_c_1 a_9 x_10 x_11 y1))) else ((go (.j1 y_1 y_4 y_5_c_1 a_9 x_10 x_11 false))))
  | .j1 y_1 y_4 y_5_c_1 a_9 x_10 x_11 b_36 => if b_36 = true then (some ((5 : Int))) else (if y_4.Kind = (3 : Int) then (Option.bind (roadref4_History_1 (2 : Int) y_1 y_5_c_1 y_4) fun y1 => (go (.j2 y_1 y_4 y_5_c_1 a_9 x_10 x_11 (!y1)))) else ((go (.j2 y_1 y_4 y_5_c_1 a_9 x_10 x_11 false))))
  | .j2 y_1 y_4 y_5_c_1 a_9 x_10 x_11 b_44 => if b_44 = true then (some ((4 : Int))) else (if y_4.Kind = (3 : Int) then (Option.bind (roadref4_History_1 (3 : Int) y_1 y_5_c_1 y_4) fun y1 => if y1 = true then (some ((5 : Int))) else ((go (.l0 y_1 a_9 x_10 (IntKind.wrap .i64 (x_11 + (1 : Int))))))) else ((go (.l0 y_1 a_9 x_10 (IntKind.wrap .i64 (x_11 + (1 : Int)))))))
theorem roadref4_History.l0_k.mono : MonoF (β := fun _ => (Int)) roadref4_History.l0_k.body := fun f g hfg p => match p with
  | .l0 y_1 a_9 x_10 x_11 => LeO.ite (LeO.bind (LeO.refl _) fun y1 => LeO.bind (LeO.refl _) fun y20 => LeO.ite (LeO.bind (LeO.refl _) fun y27 => LeO.ite (LeO.ite (LeO.bind (LeO.refl _) fun y34 => (hfg _)) ((hfg _))) ((hfg _))) (LeO.refl _)) (LeO.refl _)
  | .j0 y_1 y_4 y_5_c_1 a_9 x_10 x_11 b_22 => LeO.ite (LeO.refl _) (LeO.ite (LeO.bind (LeO.refl _) fun y1 => (hfg _)) ((hfg _)))
  | .j1 y_1 y_4 y_5_c_1 a_9 x_10 x_11 b_36 => LeO.ite (LeO.refl _) (LeO.ite (LeO.bind (LeO.refl _) fun y1 => (hfg _)) ((hfg _)))
  | .j2 y_1 y_4 y_5_c_1 a_9 x_10 x_11 b_44 => LeO.ite (LeO.refl _) (LeO.ite (LeO.bind (LeO.refl _) fun y1 => LeO.ite (LeO.refl _) ((hfg _))) ((hfg _)))
noncomputable def roadref4_History.l0_k.go (p : roadref4_History.l0_k.Pt) : Option (Int) := fixF (β := fun _ => (Int)) roadref4_History.l0_k.body p
noncomputable def roadref4_History.l0 (y_1 : (List T_api_Event)) (a_9 : List T_api_Event) (x_10 : Int) (x_11 : Int) : Option (Int) := roadref4_History.l0_k.go (.l0 y_1 a_9 x_10 x_11)
noncomputable def roadref4_History.j0 (y_1 : (List T_api_Event)) (y_4 : T_api_Event) (y_5_c_1 : Int) (a_9 : List T_api_Event) (x_10 : Int) (x_11 : Int) (b_22 : Bool) : Option (Int) := roadref4_History.l0_k.go (.j0 y_1 y_4 y_5_c_1 a_9 x_10 x_11 b_22)
noncomputable def roadref4_History.j1 (y_1 : (List T_api_Event)) (y_4 : T_api_Event) (y_5_c_1 : Int) (a_9 : List T_api_Event) (x_10 : Int) (x_11 : Int) (b_36 : Bool) : Option (Int) := roadref4_History.l0_k.go (.j1 y_1 y_4 y_5_c_1 a_9 x_10 x_11 b_36)
noncomputable def roadref4_History.j2 (y_1 : (List T_api_Event)) (y_4 : T_api_Event) (y_5_c_1 : Int) (a_9 : List T_api_Event) (x_10 : Int) (x_11 : Int) (b_44 : Bool) : Option (Int) := roadref4_History.l0_k.go (.j2 y_1 y_4 y_5_c_1 a_9 x_10 x_11 b_44)
theorem roadref4_History.l0_eq (y_1 : (List T_api_Event)) (a_9 : List T_api_Event) (x_10 : Int) (x_11 : Int) : roadref4_History.l0 y_1 a_9 x_10 x_11 = if x_11 < x_10 then (Option.bind (gi a_9 x_11) fun y1 => Option.bind (roadref4_within y1.Kind (1 : Int) (3 : Int)) fun y20 => if y20 = true then (Option.bind (roadref4_within y1.Place (0 : Int) (7 : Int)) fun y27 => if y27 = true then (if y1.Kind > (1 : Int) then (Option.bind (roadref4_within y1.Msg (0 : Int) (999 : Int)) fun y34 => (roadref4_History.j0 y_1 y1 x_11 a_9 x_10 x_11 (!y34))) else ((roadref4_History.j0 y_1 y1 x_11 a_9 x_10 x_11 false))) else ((roadref4_History.j0 y_1 y1 x_11 a_9 x_10 x_11 (!y27)))) else (some ((3 : Int)))) else (some ((0 : Int))) := fixF_eq roadref4_History.l0_k.mono _
theorem roadref4_History.j0_eq (y_1 : (List T_api_Event)) (y_4 : T_api_Event) (y_5_c_1 : Int) (a_9 : List T_api_Event) (x_10 : Int) (x_11 : Int) (b_22 : Bool) : roadref4_History.j0 y_1 y_4 y_5_c_1 a_9 x_10 x_11 b_22 = if b_22 = true then (some ((1 : Int))) else (if y_4.Kind = (2 : Int) then (Option.bind (roadref4_History_1 (2 : Int) y_1 y_5_c_1 y_4) fun y1 => (roadref4_History.j1 y_1 y_4 y_5_c_1 a_9 x_10 x_11 y1)) else ((roadref4_History.j1 y_1 y_4 y_5_c_1 a_9 x_10 x_11 false))) := fixF_eq roadref4_History.l0_k.mono _
theorem roadref4_History.j1_eq (y_1 : (List T_api_Event)) (y_4 : T_api_Event) (y_5_c_1 : Int) (a_9 : List T_api_Event) (x_10 : Int) (x_11 : Int) (b_36 : Bool) : roadref4_History.j1 y_1 y_4 y_5_c_1 a_9 x_10 x_11 b_36 = if b_36 = true then (some ((5 : Int))) else (if y_4.Kind = (3 : Int) then (Option.bind (roadref4_History_1 (2 : Int) y_1 y_5_c_1 y_4) fun y1 => (roadref4_History.j2 y_1 y_4 y_5_c_1 a_9 x_10 x_11 (!y1))) else ((roadref4_History.j2 y_1 y_4 y_5_c_1 a_9 x_10 x_11 false))) := fixF_eq roadref4_History.l0_k.mono _
theorem roadref4_History.j2_eq (y_1 : (List T_api_Event)) (y_4 : T_api_Event) (y_5_c_1 : Int) (a_9 : List T_api_Event) (x_10 : Int) (x_11 : Int) (b_44 : Bool) : roadref4_History.j2 y_1 y_4 y_5_c_1 a_9 x_10 x_11 b_44 = if b_44 = true then (some ((4 : Int))) else (if y_4.Kind = (3 : Int) then (Option.bind (roadref4_History_1 (3 : Int) y_1 y_5_c_1 y_4) fun y1 => if y1 = true then (some ((5 : Int))) else ((roadref4_History.l0 y_1 a_9 x_10 (IntKind.wrap .i64 (x_11 + (1 : Int)))))) else ((roadref4_History.l0 y_1 a_9 x_10 (IntKind.wrap .i64 (x_11 + (1 : Int)))))) := fixF_eq roadref4_History.l0_k.mono _
def roadref4_History.l0_k.I : (p : roadref4_History.l0_k.Pt) → (Int) → Prop
  | .l0 y_1 a_9 x_10 x_11, r => ∀ (W : Nat → Prop) (h0 m0 h m : Heap) (bk_1 : Nat) (cs_1 : List Value) (A_9 : Option Addr) (n_9 c_9 : Nat) (O : Hold W h0 m0 h m [rV bk_1 22 cs_1]) (e_1 : (eRow 3 T_api_Event.E) m y_1 cs_1) (ne_9 : n_9 = List.length a_9) (k_9 : List.length a_9 ≤ c_9) (r_9 : Rd 3 T_api_Event.E m A_9 a_9), f9.l0 (roadref4_History.post W h0 m0 r) (⟨bk_1, 0, none⟩ : Addr) A_9 n_9 c_9 x_10 x_11 h
  | .j0 y_1 y_4 y_5_c_1 a_9 x_10 x_11 b_22, r => ∀ (W : Nat → Prop) (h0 m0 h m : Heap) (bk_1 : Nat) (cs_1 : List Value) (bk_4 : Nat) (cs_4 : List Value) (bk_5_c_1 : Nat) (cs_5_c_1 : List Value) (A_9 : Option Addr) (n_9 c_9 : Nat) (O : Hold W h0 m0 h m [rV bk_1 22 cs_1, rV bk_4 109 cs_4, rV bk_5_c_1 3 cs_5_c_1]) (e_1 : (eRow 3 T_api_Event.E) m y_1 cs_1) (e_4 : T_api_Event.E m y_4 cs_4) (e_5_c_1 : (eInt .i64) m y_5_c_1 cs_5_c_1) (ne_9 : n_9 = List.length a_9) (k_9 : List.length a_9 ≤ c_9) (r_9 : Rd 3 T_api_Event.E m A_9 a_9), f9.j0 (roadref4_History.post W h0 m0 r) (⟨bk_1, 0, none⟩ : Addr) (⟨bk_4, 0, none⟩ : Addr) (⟨bk_1, 0, none⟩ : Addr) (⟨bk_5_c_1, 0, none⟩ : Addr) (⟨bk_4, 0, none⟩ : Addr) A_9 n_9 c_9 x_10 x_11 b_22 h
  | .j1 y_1 y_4 y_5_c_1 a_9 x_10 x_11 b_36, r => ∀ (W : Nat → Prop) (h0 m0 h m : Heap) (bk_1 : Nat) (cs_1 : List Value) (bk_4 : Nat) (cs_4 : List Value) (bk_5_c_1 : Nat) (cs_5_c_1 : List Value) (A_9 : Option Addr) (n_9 c_9 : Nat) (O : Hold W h0 m0 h m [rV bk_1 22 cs_1, rV bk_4 109 cs_4, rV bk_5_c_1 3 cs_5_c_1]) (e_1 : (eRow 3 T_api_Event.E) m y_1 cs_1) (e_4 : T_api_Event.E m y_4 cs_4) (e_5_c_1 : (eInt .i64) m y_5_c_1 cs_5_c_1) (ne_9 : n_9 = List.length a_9) (k_9 : List.length a_9 ≤ c_9) (r_9 : Rd 3 T_api_Event.E m A_9 a_9), f9.j1 (roadref4_History.post W h0 m0 r) (⟨bk_1, 0, none⟩ : Addr) (⟨bk_4, 0, none⟩ : Addr) (⟨bk_1, 0, none⟩ : Addr) (⟨bk_5_c_1, 0, none⟩ : Addr) (⟨bk_4, 0, none⟩ : Addr) A_9 n_9 c_9 x_10 x_11 b_36 h
  | .j2 y_1 y_4 y_5_c_1 a_9 x_10 x_11 b_44, r => ∀ (W : Nat → Prop) (h0 m0 h m : Heap) (bk_1 : Nat) (cs_1 : List Value) (bk_4 : Nat) (cs_4 : List Value) (bk_5_c_1 : Nat) (cs_5_c_1 : List Value) (A_9 : Option Addr) (n_9 c_9 : Nat) (O : Hold W h0 m0 h m [rV bk_1 22 cs_1, rV bk_4 109 cs_4, rV bk_5_c_1 3 cs_5_c_1]) (e_1 : (eRow 3 T_api_Event.E) m y_1 cs_1) (e_4 : T_api_Event.E m y_4 cs_4) (e_5_c_1 : (eInt .i64) m y_5_c_1 cs_5_c_1) (ne_9 : n_9 = List.length a_9) (k_9 : List.length a_9 ≤ c_9) (r_9 : Rd 3 T_api_Event.E m A_9 a_9), f9.j2 (roadref4_History.post W h0 m0 r) (⟨bk_1, 0, none⟩ : Addr) (⟨bk_4, 0, none⟩ : Addr) (⟨bk_1, 0, none⟩ : Addr) (⟨bk_5_c_1, 0, none⟩ : Addr) (⟨bk_4, 0, none⟩ : Addr) A_9 n_9 c_9 x_10 x_11 b_44 h
set_option maxHeartbeats 4000000 in
set_option maxRecDepth 100000 in
theorem roadref4_History.l0_k.step_l0 (go : (p : roadref4_History.l0_k.Pt) → Option (Int)) (ih : ∀ p r, go p = some r → roadref4_History.l0_k.I p r) (y_1 : (List T_api_Event)) (a_9 : List T_api_Event) (x_10 : Int) (x_11 : Int) (r : Int) (e : roadref4_History.l0_k.body go (.l0 y_1 a_9 x_10 x_11) = some r) : roadref4_History.l0_k.I (.l0 y_1 a_9 x_10 x_11) r := by
  unfold roadref4_History.l0_k.body at e
  intro W h0 m0 h m bk_1 cs_1 A_9 n_9 c_9 O e_1 ne_9 k_9 r_9
  obtain ⟨Ae_1_0, ce_1_0, rfl, ke_1_0, re_1_0⟩ := id e_1
  subst ne_9
  refine f9.l0_in ?_
  unfold f9.l0T
  refine split_dec_e e (fun c44 e => ?_) (fun c44 e => ?_)
  · obtain ⟨y1, g2, e⟩ := bind_e e
    refine r_9.addr rfl g2 fun a3 cs4 ha5 hc6 he7 => ?_
    refine ⟨_, ldAn O.s hc6 rfl, ?_⟩
    refine O.new fun h8 x9 O10 => ?_
    refine O10.new fun h12 x13 O14 => ?_
    refine O14.st0 1 rfl (Nat.le_of_ble_eq_true rfl) trivial fun h16 O17 => ?_
    refine ⟨_, rfl, (T_api_Event.T.len _ _ _ he7), ?_⟩
    refine O17.stA 2 rfl (T_api_Event.T.len _ _ _ he7) (T_api_Event.T.flat _ _ _ he7) fun h18 O19 => ?_
    refine ⟨_, ldk (k := 1) (Sub.refl _) (O19.all 2 rfl) (T_api_Event.g1 he7), _, rfl, ?_⟩
    obtain ⟨y20, g21, e⟩ := bind_e e
    refine (roadref4_within.walk (Hold.start (W := No) O19.s)  g21).mono ?_
    rintro _ h22 ⟨m23, Q24, rfl⟩
    have O26 := Hold.nm (O19.retC Q24 vfs_nil)
    refine ⟨_, rfl, ?_⟩
    refine split_not ?_
    refine split_any_e e (fun c43 e => ?_) (fun c43 e => ?_)
    · refine ⟨_, ld0 (Sub.refl _) (O26.all 2 rfl) (T_api_Event.g0 he7), _, rfl, ?_⟩
      obtain ⟨y27, g28, e⟩ := bind_e e
      refine (roadref4_within.walk (Hold.start (W := No) O26.s)  g28).mono ?_
      rintro _ h29 ⟨m30, Q31, rfl⟩
      have O33 := Hold.nm (O26.retC Q31 vfs_nil)
      refine ⟨_, rfl, ?_⟩
      refine split_not ?_
      refine split_any_e e (fun c42 e => ?_) (fun c42 e => ?_)
      · refine ⟨_, ldk (k := 1) (Sub.refl _) (O33.all 2 rfl) (T_api_Event.g1 he7), _, rfl, ?_⟩
        refine split_dec_e e (fun c41 e => ?_) (fun c41 e => ?_)
        · refine ⟨_, ldk (k := 2) (Sub.refl _) (O33.all 2 rfl) (T_api_Event.g2 he7), _, rfl, ?_⟩
          obtain ⟨y34, g35, e⟩ := bind_e e
          refine (roadref4_within.walk (Hold.start (W := No) O33.s)  g35).mono ?_
          rintro _ h36 ⟨m37, Q38, rfl⟩
          have O40 := Hold.nm (O33.retC Q38 vfs_nil)
          refine ⟨_, rfl, ?_⟩
          exact (ih _ _ e) _ _ _ _ _ _ _ _ _ _ _ _ _ _ (O40.pick [0, 2, 1]).nm ⟨_, _, rfl, ke_1_0, re_1_0⟩ he7 rfl rfl k_9 r_9
        · exact (ih _ _ e) _ _ _ _ _ _ _ _ _ _ _ _ _ _ (O33.pick [0, 2, 1]).nm ⟨_, _, rfl, ke_1_0, re_1_0⟩ he7 rfl rfl k_9 r_9
      · exact (ih _ _ e) _ _ _ _ _ _ _ _ _ _ _ _ _ _ (O33.pick [0, 2, 1]).nm ⟨_, _, rfl, ke_1_0, re_1_0⟩ he7 rfl rfl k_9 r_9
    · cases e
      exact ⟨_, O26.pick [], rfl⟩
  · cases e
    exact ⟨_, O.pick [], rfl⟩
set_option maxRecDepth 100000 in
theorem roadref4_History.l0_k.step_j0 (go : (p : roadref4_History.l0_k.Pt) → Option (Int)) (ih : ∀ p r, go p = some r → roadref4_History.l0_k.I p r) (y_1 : (List T_api_Event)) (y_4 : T_api_Event) (y_5_c_1 : Int) (a_9 : List T_api_Event) (x_10 : Int) (x_11 : Int) (b_22 : Bool) (r : Int) (e : roadref4_History.l0_k.body go (.j0 y_1 y_4 y_5_c_1 a_9 x_10 x_11 b_22) = some r) : roadref4_History.l0_k.I (.j0 y_1 y_4 y_5_c_1 a_9 x_10 x_11 b_22) r := by
  unfold roadref4_History.l0_k.body at e
  intro W h0 m0 h m bk_1 cs_1 bk_4 cs_4 bk_5_c_1 cs_5_c_1 A_9 n_9 c_9 O e_1 e_4 e_5_c_1 ne_9 k_9 r_9
  obtain ⟨Ae_1_0, ce_1_0, rfl, ke_1_0, re_1_0⟩ := id e_1
  obtain rfl : cs_5_c_1 = [(Value.int .i64 y_5_c_1)] := e_5_c_1
  subst ne_9
  refine f9.j0_in ?_
  unfold f9.j0T
  refine split_any_e e (fun c17 e => ?_) (fun c17 e => ?_)
  · cases e
    exact ⟨_, O.pick [], rfl⟩
  · refine ⟨_, ldk (k := 1) (Sub.refl _) (O.all 1 rfl) (T_api_Event.g1 e_4), _, rfl, ?_⟩
    refine split_eq_e e (fun c16 e => ?_) (fun c16 e => ?_)
    · obtain ⟨y1, g2, e⟩ := bind_e e
      obtain ⟨m7, u8, s14, ⟨hb11, hb12, hb13, _⟩, B9, C10⟩ := O.lend0 [0, 2, 1]
      refine (roadref4_History_1.walk (Hold.start (W := No) s14) ⟨_, _, hb11, nn, ⟨_, _, rfl, ke_1_0, (re_1_0.sub T_api_Event.T u8)⟩⟩ ⟨_, _, hb12, nn, rfl⟩ ⟨_, _, hb13, nn_len (T_api_Event.T.len _ _ _ e_4), (T_api_Event.T.mono _ _ _ _ u8 e_4)⟩ g2).mono ?_
      rintro _ h3 ⟨m4, Q5, rfl⟩
      have O15 := Hold.nm (C10 Q5 vfs_nil)
      refine ⟨_, rfl, ?_⟩
      exact (ih _ _ e) _ _ _ _ _ _ _ _ _ _ _ _ _ _ (O15.pick [0, 1, 2]).nm ⟨_, _, rfl, ke_1_0, re_1_0⟩ e_4 rfl rfl k_9 r_9
    · exact (ih _ _ e) _ _ _ _ _ _ _ _ _ _ _ _ _ _ (O.pick [0, 1, 2]).nm ⟨_, _, rfl, ke_1_0, re_1_0⟩ e_4 rfl rfl k_9 r_9
set_option maxRecDepth 100000 in
theorem roadref4_History.l0_k.step_j1 (go : (p : roadref4_History.l0_k.Pt) → Option (Int)) (ih : ∀ p r, go p = some r → roadref4_History.l0_k.I p r) (y_1 : (List T_api_Event)) (y_4 : T_api_Event) (y_5_c_1 : Int) (a_9 : List T_api_Event) (x_10 : Int) (x_11 : Int) (b_36 : Bool) (r : Int) (e : roadref4_History.l0_k.body go (.j1 y_1 y_4 y_5_c_1 a_9 x_10 x_11 b_36) = some r) : roadref4_History.l0_k.I (.j1 y_1 y_4 y_5_c_1 a_9 x_10 x_11 b_36) r := by
  unfold roadref4_History.l0_k.body at e
  intro W h0 m0 h m bk_1 cs_1 bk_4 cs_4 bk_5_c_1 cs_5_c_1 A_9 n_9 c_9 O e_1 e_4 e_5_c_1 ne_9 k_9 r_9
  obtain ⟨Ae_1_0, ce_1_0, rfl, ke_1_0, re_1_0⟩ := id e_1
  obtain rfl : cs_5_c_1 = [(Value.int .i64 y_5_c_1)] := e_5_c_1
  subst ne_9
  refine f9.j1_in ?_
  unfold f9.j1T
  refine split_any_e e (fun c17 e => ?_) (fun c17 e => ?_)
  · cases e
    exact ⟨_, O.pick [], rfl⟩
  · refine ⟨_, ldk (k := 1) (Sub.refl _) (O.all 1 rfl) (T_api_Event.g1 e_4), _, rfl, ?_⟩
    refine split_eq_e e (fun c16 e => ?_) (fun c16 e => ?_)
    · obtain ⟨y1, g2, e⟩ := bind_e e
      obtain ⟨m7, u8, s14, ⟨hb11, hb12, hb13, _⟩, B9, C10⟩ := O.lend0 [0, 2, 1]
      refine (roadref4_History_1.walk (Hold.start (W := No) s14) ⟨_, _, hb11, nn, ⟨_, _, rfl, ke_1_0, (re_1_0.sub T_api_Event.T u8)⟩⟩ ⟨_, _, hb12, nn, rfl⟩ ⟨_, _, hb13, nn_len (T_api_Event.T.len _ _ _ e_4), (T_api_Event.T.mono _ _ _ _ u8 e_4)⟩ g2).mono ?_
      rintro _ h3 ⟨m4, Q5, rfl⟩
      have O15 := Hold.nm (C10 Q5 vfs_nil)
      refine ⟨_, rfl, ?_⟩
      exact (ih _ _ e) _ _ _ _ _ _ _ _ _ _ _ _ _ _ (O15.pick [0, 1, 2]).nm ⟨_, _, rfl, ke_1_0, re_1_0⟩ e_4 rfl rfl k_9 r_9
    · exact (ih _ _ e) _ _ _ _ _ _ _ _ _ _ _ _ _ _ (O.pick [0, 1, 2]).nm ⟨_, _, rfl, ke_1_0, re_1_0⟩ e_4 rfl rfl k_9 r_9
set_option maxRecDepth 100000 in
theorem roadref4_History.l0_k.step_j2 (go : (p : roadref4_History.l0_k.Pt) → Option (Int)) (ih : ∀ p r, go p = some r → roadref4_History.l0_k.I p r) (y_1 : (List T_api_Event)) (y_4 : T_api_Event) (y_5_c_1 : Int) (a_9 : List T_api_Event) (x_10 : Int) (x_11 : Int) (b_44 : Bool) (r : Int) (e : roadref4_History.l0_k.body go (.j2 y_1 y_4 y_5_c_1 a_9 x_10 x_11 b_44) = some r) : roadref4_History.l0_k.I (.j2 y_1 y_4 y_5_c_1 a_9 x_10 x_11 b_44) r := by
  unfold roadref4_History.l0_k.body at e
  intro W h0 m0 h m bk_1 cs_1 bk_4 cs_4 bk_5_c_1 cs_5_c_1 A_9 n_9 c_9 O e_1 e_4 e_5_c_1 ne_9 k_9 r_9
  obtain ⟨Ae_1_0, ce_1_0, rfl, ke_1_0, re_1_0⟩ := id e_1
  obtain rfl : cs_5_c_1 = [(Value.int .i64 y_5_c_1)] := e_5_c_1
  subst ne_9
  refine f9.j2_in ?_
  unfold f9.j2T
  refine split_any_e e (fun c18 e => ?_) (fun c18 e => ?_)
  · cases e
    exact ⟨_, O.pick [], rfl⟩
  · refine ⟨_, ldk (k := 1) (Sub.refl _) (O.all 1 rfl) (T_api_Event.g1 e_4), _, rfl, ?_⟩
    refine split_eq_e e (fun c17 e => ?_) (fun c17 e => ?_)
    · obtain ⟨y1, g2, e⟩ := bind_e e
      obtain ⟨m7, u8, s14, ⟨hb11, hb12, hb13, _⟩, B9, C10⟩ := O.lend0 [0, 2, 1]
      refine (roadref4_History_1.walk (Hold.start (W := No) s14) ⟨_, _, hb11, nn, ⟨_, _, rfl, ke_1_0, (re_1_0.sub T_api_Event.T u8)⟩⟩ ⟨_, _, hb12, nn, rfl⟩ ⟨_, _, hb13, nn_len (T_api_Event.T.len _ _ _ e_4), (T_api_Event.T.mono _ _ _ _ u8 e_4)⟩ g2).mono ?_
      rintro _ h3 ⟨m4, Q5, rfl⟩
      have O15 := Hold.nm (C10 Q5 vfs_nil)
      refine ⟨_, rfl, ?_⟩
      refine split_any_e e (fun c16 e => ?_) (fun c16 e => ?_)
      · cases e
        exact ⟨_, O15.pick [], rfl⟩
      · exact (ih _ _ e) _ _ _ _ _ _ _ _ _ _ (O15.pick [0]).nm ⟨_, _, rfl, ke_1_0, re_1_0⟩ rfl k_9 r_9
    · exact (ih _ _ e) _ _ _ _ _ _ _ _ _ _ (O.pick [0]).nm ⟨_, _, rfl, ke_1_0, re_1_0⟩ rfl k_9 r_9
theorem roadref4_History.l0_k.all {p : roadref4_History.l0_k.Pt} {r : (Int)} (e : roadref4_History.l0_k.go p = some r) : roadref4_History.l0_k.I p r := fixF_ind (β := fun _ => (Int)) roadref4_History.l0_k.mono (I := roadref4_History.l0_k.I) (fun go ih p r e => match p with
  | .l0 y_1 a_9 x_10 x_11 => roadref4_History.l0_k.step_l0 go ih y_1 a_9 x_10 x_11 r e
  | .j0 y_1 y_4 y_5_c_1 a_9 x_10 x_11 b_22 => roadref4_History.l0_k.step_j0 go ih y_1 y_4 y_5_c_1 a_9 x_10 x_11 b_22 r e
  | .j1 y_1 y_4 y_5_c_1 a_9 x_10 x_11 b_36 => roadref4_History.l0_k.step_j1 go ih y_1 y_4 y_5_c_1 a_9 x_10 x_11 b_36 r e
  | .j2 y_1 y_4 y_5_c_1 a_9 x_10 x_11 b_44 => roadref4_History.l0_k.step_j2 go ih y_1 y_4 y_5_c_1 a_9 x_10 x_11 b_44 r e
  ) e
theorem roadref4_History.l0.walk {W : Nat → Prop} {h0 m0 h m : Heap} {bk_1 : Nat} {cs_1 : List Value} {A_9 : Option Addr} {n_9 c_9 : Nat} {y_1 : (List T_api_Event)} {a_9 : List T_api_Event} {x_10 : Int} {x_11 : Int} (O : Hold W h0 m0 h m [rV bk_1 22 cs_1]) (e_1 : (eRow 3 T_api_Event.E) m y_1 cs_1) (ne_9 : n_9 = List.length a_9) (k_9 : List.length a_9 ≤ c_9) (r_9 : Rd 3 T_api_Event.E m A_9 a_9) {r : Int} (e : roadref4_History.l0 y_1 a_9 x_10 x_11 = some r) : f9.l0 (roadref4_History.post W h0 m0 r) (⟨bk_1, 0, none⟩ : Addr) A_9 n_9 c_9 x_10 x_11 h := roadref4_History.l0_k.all (p := .l0 y_1 a_9 x_10 x_11) e W h0 m0 h m bk_1 cs_1 A_9 n_9 c_9 O e_1 ne_9 k_9 r_9
noncomputable def roadref4_History (a_0 : List T_api_Event) : Option (Int) :=
  if (((List.length a_0) : Nat) : Int) > (200 : Int) then (some ((2 : Int))) else ((roadref4_History.l0 a_0 a_0 (((List.length a_0) : Nat) : Int) (0 : Int)))
set_option maxRecDepth 100000 in
theorem roadref4_History.walk {W : Nat → Prop} {h m : Heap} {A_0 : Option Addr} {n_0 c_0 : Nat} {a_0 : List T_api_Event} (O : Hold W h m h m []) (ne_0 : n_0 = List.length a_0) (k_0 : List.length a_0 ≤ c_0) (r_0 : Rd 3 T_api_Event.E m A_0 a_0) {r : Int} (e : roadref4_History a_0 = some r) : Run Try.prog 9 #[Value.slice A_0 n_0 c_0] h (roadref4_History.post W h m r) := by
  unfold roadref4_History at e
  subst ne_0
  refine f9.run ?_
  unfold f9.runT
  refine O.new fun h1 x2 O3 => ?_
  refine ⟨_, ld0 (Sub.refl _) (O3.all 0 rfl) rfl, _, _, _, rfl, ?_⟩
  refine split_dec_e e (fun c7 e => ?_) (fun c7 e => ?_)
  · have O5 := O3.nm
    cases e
    exact ⟨_, O5.pick [], rfl⟩
  · refine ⟨_, ld0 (Sub.refl _) (O3.all 0 rfl) rfl, _, _, _, rfl, ?_⟩
    have O6 := O3.nm
    exact roadref4_History.l0.walk (O6.pick [0]).nm ⟨_, _, rfl, k_0, r_0⟩ rfl k_0 r_0 e
def roadref4_Past.post (W : Nat → Prop) (h0 m0 : Heap) (r : (List (List Bool))) (v : Value) (h : Heap) : Prop := ∃ m A0 n0 c0, Hold W h0 m0 h m [rR (aRow (aE tell_bool)) A0 c0 r] ∧ v = .slice A0 n0 c0 ∧ n0 = List.length r
inductive roadref4_Past.l0_k.Pt where
  | l0 (a_0 : List T_api_Event) (a_3 : List (List Bool)) (a_13 : List T_api_Event) (x_14 : Int) (x_15 : Int)
  | l1 (a_0 : List T_api_Event) (a_3 : List (List Bool)) (x_4 : Int) (y_5 : T_api_Event) (x_6 : Int) (a_13 : List T_api_Event) (x_14 : Int) (x_15 : Int)
  | j1 (a_0 : List T_api_Event) (a_3 : List (List Bool)) (x_4 : Int) (y_5 : T_api_Event) (x_6 : Int) (a_13 : List T_api_Event) (x_14 : Int) (x_15 : Int) (b_57 : Bool)
  | l2 (a_0 : List T_api_Event) (a_3 : List (List Bool)) (x_4 : Int) (y_5 : T_api_Event) (x_6 : Int) (a_13 : List T_api_Event) (x_14 : Int) (x_15 : Int) (x_68 : Int) (x_69 : Int) (x_67 : Int) (a_67 : List Bool)
  | j0 (a_0 : List T_api_Event) (a_3 : List (List Bool)) (x_4 : Int) (y_5 : T_api_Event) (x_6 : Int) (a_13 : List T_api_Event) (x_14 : Int) (x_15 : Int)
noncomputable def roadref4_Past.l0_k.body (go : (p : roadref4_Past.l0_k.Pt) → Option ((List (List Bool)))) : (p : roadref4_Past.l0_k.Pt) → Option ((List (List Bool)))
  | .l0 a_0 a_3 a_13 x_14 x_15 => if x_15 < x_14 then (Option.bind (gi a_13 x_15) fun y1 => Option.bind (mks 1 (((List.length a_0) : Nat) : Int) false) fun l14 => Option.bind (gi a_3 x_15) fun y24 => Option.bind (some (List.set a_3 (Int.toNat x_15) l14)) fun l38 => (go (.l1 a_0 l38 x_15 y1 (IntKind.wrap .i64 (x_15 - (1 : Int))) a_13 x_14 x_15))) else (some (a_3))
  | .l1 a_0 a_3 x_4 y_5 x_6 a_13 x_14 x_15 => if x_6 ≥ (0 : Int) then (Option.bind (gi a_0 x_6) fun y1 => if y1.Place = y_5.Place then ((go (.j1 a_0 a_3 x_4 y_5 x_6 a_13 x_14 x_15 true))) else (if y_5.Kind = (3 : Int) then (if y1.Kind = (2 : Int) then ((go (.j1 a_0 a_3 x_4 y_5 x_6 a_13 x_14 x_15 (y1.Msg == y_5.Msg)))) else ((go (.j1 a_0 a_3 x_4 y_5 x_6 a_13 x_14 x_15 false)))) else ((go (.j1 a_0 a_3 x_4 y_5 x_6 a_13 x_14 x_15 false))))) else ((go (.l0 a_0 a_3 a_13 x_14 (IntKind.wrap .i64 (x_15 + (1 : Int))))))
  | .j1 a_0 a_3 x_4 y_5 x_6 a_13 x_14 x_15 b_57 => if b_57 = true then (Option.bind (gi a_3 x_4) fun y3 => Option.bind (gi y3 x_6) fun y13 => Option.bind (some (List.set y3 (Int.toNat x_6) true)) fun l23 => Option.bind (gi (List.set a_3 (Int.toNat x_4) l23) x_6) fun y29 => (go (.l2 a_0 (List.set a_3 (Int.toNat x_4) l23) x_4 y_5 x_6 a_13 x_14 x_15 (((List.length y29) : Nat) : Int) (0 : Int) x_6 y29))) else ((go (.j0 a_0 a_3 x_4 y_5 x_6 a_13 x_14 x_15)))
  | .l2 a_0 a_3 x_4 y_5 x_6 a_13 x_14 x_15 x_68 x_69 x_67 a_67 => if x_69 < x_68 then (Option.bind (gi a_67 x_69) fun y1 => Option.bind (gi a_3 x_4) fun y10 => Option.bind (gi a_3 x_4) fun y14 => Option.bind (gi y10 x_69) fun y22 => if y22 = true then (Option.bind (gi y10 x_69) fun y29 => Option.bind (some (List.set y10 (Int.toNat x_69) true)) fun l39 => if Int.toNat x_4 ≠ Int.toNat x_67 then ((go (.l2 a_0 (List.set a_3 (Int.toNat x_4) l39) x_4 y_5 x_6 a_13 x_14 x_15 x_68 (IntKind.wrap .i64 (x_69 + (1 : Int))) x_67 a_67))) else none) else (Option.bind (gi y10 x_69) fun y45 => Option.bind (some (List.set y10 (Int.toNat x_69) y1)) fun l55 => if Int.toNat x_4 ≠ Int.toNat x_67 then ((go (.l2 a_0 (List.set a_3 (Int.toNat x_4) l55) x_4 y_5 x_6 a_13 x_14 x_15 x_68 (IntKind.wrap .i64 (x_69 + (1 : Int))) x_67 a_67))) else none)) else ((go (.j0 a_0 a_3 x_4 y_5 x_6 a_13 x_14 x_15)))
  | .j0 a_0 a_3 x_4 y_5 x_6 a_13 x_14 x_15 => (go (.l1 a_0 a_3 x_4 y_5 (IntKind.wrap .i64 (x_6 - (1 : Int))) a_13 x_14 x_15))
theorem roadref4_Past.l0_k.mono : MonoF (β := fun _ => ((List (List Bool)))) roadref4_Past.l0_k.body := fun f g hfg p => match p with
  | .l0 a_0 a_3 a_13 x_14 x_15 => LeO.ite (LeO.bind (LeO.refl _) fun y1 => LeO.bind (LeO.refl _) fun l14 => LeO.bind (LeO.refl _) fun y24 => LeO.bind (LeO.refl _) fun l38 => (hfg _)) (LeO.refl _)
  | .l1 a_0 a_3 x_4 y_5 x_6 a_13 x_14 x_15 => LeO.ite (LeO.bind (LeO.refl _) fun y1 => LeO.ite ((hfg _)) (LeO.ite (LeO.ite ((hfg _)) ((hfg _))) ((hfg _)))) ((hfg _))
  | .j1 a_0 a_3 x_4 y_5 x_6 a_13 x_14 x_15 b_57 => LeO.ite (LeO.bind (LeO.refl _) fun y3 => LeO.bind (LeO.refl _) fun y13 => LeO.bind (LeO.refl _) fun l23 => LeO.bind (LeO.refl _) fun y29 => (hfg _)) ((hfg _))
  | .l2 a_0 a_3 x_4 y_5 x_6 a_13 x_14 x_15 x_68 x_69 x_67 a_67 => LeO.ite (LeO.bind (LeO.refl _) fun y1 => LeO.bind (LeO.refl _) fun y10 => LeO.bind (LeO.refl _) fun y14 => LeO.bind (LeO.refl _) fun y22 => LeO.ite (LeO.bind (LeO.refl _) fun y29 => LeO.bind (LeO.refl _) fun l39 => LeO.ite ((hfg _)) (LeO.refl _)) (LeO.bind (LeO.refl _) fun y45 => LeO.bind (LeO.refl _) fun l55 => LeO.ite ((hfg _)) (LeO.refl _))) ((hfg _))
  | .j0 a_0 a_3 x_4 y_5 x_6 a_13 x_14 x_15 => (hfg _)
noncomputable def roadref4_Past.l0_k.go (p : roadref4_Past.l0_k.Pt) : Option ((List (List Bool))) := fixF (β := fun _ => ((List (List Bool)))) roadref4_Past.l0_k.body p
noncomputable def roadref4_Past.l0 (a_0 : List T_api_Event) (a_3 : List (List Bool)) (a_13 : List T_api_Event) (x_14 : Int) (x_15 : Int) : Option ((List (List Bool))) := roadref4_Past.l0_k.go (.l0 a_0 a_3 a_13 x_14 x_15)
noncomputable def roadref4_Past.l1 (a_0 : List T_api_Event) (a_3 : List (List Bool)) (x_4 : Int) (y_5 : T_api_Event) (x_6 : Int) (a_13 : List T_api_Event) (x_14 : Int) (x_15 : Int) : Option ((List (List Bool))) := roadref4_Past.l0_k.go (.l1 a_0 a_3 x_4 y_5 x_6 a_13 x_14 x_15)
noncomputable def roadref4_Past.j1 (a_0 : List T_api_Event) (a_3 : List (List Bool)) (x_4 : Int) (y_5 : T_api_Event) (x_6 : Int) (a_13 : List T_api_Event) (x_14 : Int) (x_15 : Int) (b_57 : Bool) : Option ((List (List Bool))) := roadref4_Past.l0_k.go (.j1 a_0 a_3 x_4 y_5 x_6 a_13 x_14 x_15 b_57)
noncomputable def roadref4_Past.l2 (a_0 : List T_api_Event) (a_3 : List (List Bool)) (x_4 : Int) (y_5 : T_api_Event) (x_6 : Int) (a_13 : List T_api_Event) (x_14 : Int) (x_15 : Int) (x_68 : Int) (x_69 : Int) (x_67 : Int) (a_67 : List Bool) : Option ((List (List Bool))) := roadref4_Past.l0_k.go (.l2 a_0 a_3 x_4 y_5 x_6 a_13 x_14 x_15 x_68 x_69 x_67 a_67)
noncomputable def roadref4_Past.j0 (a_0 : List T_api_Event) (a_3 : List (List Bool)) (x_4 : Int) (y_5 : T_api_Event) (x_6 : Int) (a_13 : List T_api_Event) (x_14 : Int) (x_15 : Int) : Option ((List (List Bool))) := roadref4_Past.l0_k.go (.j0 a_0 a_3 x_4 y_5 x_6 a_13 x_14 x_15)
theorem roadref4_Past.l0_eq (a_0 : List T_api_Event) (a_3 : List (List Bool)) (a_13 : List T_api_Event) (x_14 : Int) (x_15 : Int) : roadref4_Past.l0 a_0 a_3 a_13 x_14 x_15 = if x_15 < x_14 then (Option.bind (gi a_13 x_15) fun y1 => Option.bind (mks 1 (((List.length a_0) : Nat) : Int) false) fun l14 => Option.bind (gi a_3 x_15) fun y24 => Option.bind (some (List.set a_3 (Int.toNat x_15) l14)) fun l38 => (roadref4_Past.l1 a_0 l38 x_15 y1 (IntKind.wrap .i64 (x_15 - (1 : Int))) a_13 x_14 x_15)) else (some (a_3)) := fixF_eq roadref4_Past.l0_k.mono _
theorem roadref4_Past.l1_eq (a_0 : List T_api_Event) (a_3 : List (List Bool)) (x_4 : Int) (y_5 : T_api_Event) (x_6 : Int) (a_13 : List T_api_Event) (x_14 : Int) (x_15 : Int) : roadref4_Past.l1 a_0 a_3 x_4 y_5 x_6 a_13 x_14 x_15 = if x_6 ≥ (0 : Int) then (Option.bind (gi a_0 x_6) fun y1 => if y1.Place = y_5.Place then ((roadref4_Past.j1 a_0 a_3 x_4 y_5 x_6 a_13 x_14 x_15 true)) else (if y_5.Kind = (3 : Int) then (if y1.Kind = (2 : Int) then ((roadref4_Past.j1 a_0 a_3 x_4 y_5 x_6 a_13 x_14 x_15 (y1.Msg == y_5.Msg))) else ((roadref4_Past.j1 a_0 a_3 x_4 y_5 x_6 a_13 x_14 x_15 false))) else ((roadref4_Past.j1 a_0 a_3 x_4 y_5 x_6 a_13 x_14 x_15 false)))) else ((roadref4_Past.l0 a_0 a_3 a_13 x_14 (IntKind.wrap .i64 (x_15 + (1 : Int))))) := fixF_eq roadref4_Past.l0_k.mono _
theorem roadref4_Past.j1_eq (a_0 : List T_api_Event) (a_3 : List (List Bool)) (x_4 : Int) (y_5 : T_api_Event) (x_6 : Int) (a_13 : List T_api_Event) (x_14 : Int) (x_15 : Int) (b_57 : Bool) : roadref4_Past.j1 a_0 a_3 x_4 y_5 x_6 a_13 x_14 x_15 b_57 = if b_57 = true then (Option.bind (gi a_3 x_4) fun y3 => Option.bind (gi y3 x_6) fun y13 => Option.bind (some (List.set y3 (Int.toNat x_6) true)) fun l23 => Option.bind (gi (List.set a_3 (Int.toNat x_4) l23) x_6) fun y29 => (roadref4_Past.l2 a_0 (List.set a_3 (Int.toNat x_4) l23) x_4 y_5 x_6 a_13 x_14 x_15 (((List.length y29) : Nat) : Int) (0 : Int) x_6 y29)) else ((roadref4_Past.j0 a_0 a_3 x_4 y_5 x_6 a_13 x_14 x_15)) := fixF_eq roadref4_Past.l0_k.mono _
theorem roadref4_Past.l2_eq (a_0 : List T_api_Event) (a_3 : List (List Bool)) (x_4 : Int) (y_5 : T_api_Event) (x_6 : Int) (a_13 : List T_api_Event) (x_14 : Int) (x_15 : Int) (x_68 : Int) (x_69 : Int) (x_67 : Int) (a_67 : List Bool) : roadref4_Past.l2 a_0 a_3 x_4 y_5 x_6 a_13 x_14 x_15 x_68 x_69 x_67 a_67 = if x_69 < x_68 then (Option.bind (gi a_67 x_69) fun y1 => Option.bind (gi a_3 x_4) fun y10 => Option.bind (gi a_3 x_4) fun y14 => Option.bind (gi y10 x_69) fun y22 => if y22 = true then (Option.bind (gi y10 x_69) fun y29 => Option.bind (some (List.set y10 (Int.toNat x_69) true)) fun l39 => if Int.toNat x_4 ≠ Int.toNat x_67 then ((roadref4_Past.l2 a_0 (List.set a_3 (Int.toNat x_4) l39) x_4 y_5 x_6 a_13 x_14 x_15 x_68 (IntKind.wrap .i64 (x_69 + (1 : Int))) x_67 a_67)) else none) else (Option.bind (gi y10 x_69) fun y45 => Option.bind (some (List.set y10 (Int.toNat x_69) y1)) fun l55 => if Int.toNat x_4 ≠ Int.toNat x_67 then ((roadref4_Past.l2 a_0 (List.set a_3 (Int.toNat x_4) l55) x_4 y_5 x_6 a_13 x_14 x_15 x_68 (IntKind.wrap .i64 (x_69 + (1 : Int))) x_67 a_67)) else none)) else ((roadref4_Past.j0 a_0 a_3 x_4 y_5 x_6 a_13 x_14 x_15)) := fixF_eq roadref4_Past.l0_k.mono _
theorem roadref4_Past.j0_eq (a_0 : List T_api_Event) (a_3 : List (List Bool)) (x_4 : Int) (y_5 : T_api_Event) (x_6 : Int) (a_13 : List T_api_Event) (x_14 : Int) (x_15 : Int) : roadref4_Past.j0 a_0 a_3 x_4 y_5 x_6 a_13 x_14 x_15 = (roadref4_Past.l1 a_0 a_3 x_4 y_5 (IntKind.wrap .i64 (x_6 - (1 : Int))) a_13 x_14 x_15) := fixF_eq roadref4_Past.l0_k.mono _
def roadref4_Past.l0_k.I : (p : roadref4_Past.l0_k.Pt) → ((List (List Bool))) → Prop
  | .l0 a_0 a_3 a_13 x_14 x_15, r => ∀ (W : Nat → Prop) (h0 m0 h m : Heap) (A_0 : Option Addr) (n_0 c_0 : Nat) (A_3 : Option Addr) (n_3 c_3 : Nat) (A_13 : Option Addr) (n_13 c_13 : Nat) (O : Hold W h0 m0 h m [rR (aRow (aE tell_bool)) A_3 c_3 a_3]) (ne_0 : n_0 = List.length a_0) (k_0 : List.length a_0 ≤ c_0) (r_0 : Rd 3 T_api_Event.E m A_0 a_0) (ne_3 : n_3 = List.length a_3) (ne_13 : n_13 = List.length a_13) (k_13 : List.length a_13 ≤ c_13) (r_13 : Rd 3 T_api_Event.E m A_13 a_13), f10.l0 (roadref4_Past.post W h0 m0 r) A_0 n_0 c_0 A_3 n_3 c_3 A_13 n_13 c_13 x_14 x_15 h
  | .l1 a_0 a_3 x_4 y_5 x_6 a_13 x_14 x_15, r => ∀ (W : Nat → Prop) (h0 m0 h m : Heap) (A_0 : Option Addr) (n_0 c_0 : Nat) (A_3 : Option Addr) (n_3 c_3 : Nat) (bk_5 : Nat) (cs_5 : List Value) (A_13 : Option Addr) (n_13 c_13 : Nat) (O : Hold W h0 m0 h m [rR (aRow (aE tell_bool)) A_3 c_3 a_3, rV bk_5 109 cs_5]) (ne_0 : n_0 = List.length a_0) (k_0 : List.length a_0 ≤ c_0) (r_0 : Rd 3 T_api_Event.E m A_0 a_0) (ne_3 : n_3 = List.length a_3) (e_5 : T_api_Event.E m y_5 cs_5) (ne_13 : n_13 = List.length a_13) (k_13 : List.length a_13 ≤ c_13) (r_13 : Rd 3 T_api_Event.E m A_13 a_13), f10.l1 (roadref4_Past.post W h0 m0 r) A_0 n_0 c_0 A_3 n_3 c_3 x_4 (⟨bk_5, 0, none⟩ : Addr) x_6 A_13 n_13 c_13 x_14 x_15 h
  | .j1 a_0 a_3 x_4 y_5 x_6 a_13 x_14 x_15 b_57, r => ∀ (W : Nat → Prop) (h0 m0 h m : Heap) (A_0 : Option Addr) (n_0 c_0 : Nat) (A_3 : Option Addr) (n_3 c_3 : Nat) (bk_5 : Nat) (cs_5 : List Value) (A_13 : Option Addr) (n_13 c_13 : Nat) (O : Hold W h0 m0 h m [rR (aRow (aE tell_bool)) A_3 c_3 a_3, rV bk_5 109 cs_5]) (ne_0 : n_0 = List.length a_0) (k_0 : List.length a_0 ≤ c_0) (r_0 : Rd 3 T_api_Event.E m A_0 a_0) (ne_3 : n_3 = List.length a_3) (e_5 : T_api_Event.E m y_5 cs_5) (ne_13 : n_13 = List.length a_13) (k_13 : List.length a_13 ≤ c_13) (r_13 : Rd 3 T_api_Event.E m A_13 a_13), f10.j1 (roadref4_Past.post W h0 m0 r) A_0 n_0 c_0 A_3 n_3 c_3 x_4 (⟨bk_5, 0, none⟩ : Addr) x_6 A_13 n_13 c_13 x_14 x_15 b_57 h
  | .l2 a_0 a_3 x_4 y_5 x_6 a_13 x_14 x_15 x_68 x_69 x_67 a_67, r => ∀ (W : Nat → Prop) (h0 m0 h m : Heap) (A_0 : Option Addr) (n_0 c_0 : Nat) (A_3 : Option Addr) (n_3 c_3 : Nat) (hs_3 : List Value) (bk_5 : Nat) (cs_5 : List Value) (A_13 : Option Addr) (n_13 c_13 : Nat) (A_67 : Option Addr) (n_67 c_67 : Nat) (O : Hold W h0 m0 h m [rX (aRow (aE tell_bool)) A_3 c_3 a_3 hs_3 none, rV bk_5 109 cs_5]) (ne_0 : n_0 = List.length a_0) (k_0 : List.length a_0 ≤ c_0) (r_0 : Rd 3 T_api_Event.E m A_0 a_0) (ne_3 : n_3 = List.length a_3) (e_5 : T_api_Event.E m y_5 cs_5) (ne_13 : n_13 = List.length a_13) (k_13 : List.length a_13 ≤ c_13) (r_13 : Rd 3 T_api_Event.E m A_13 a_13) (ne_67 : n_67 = List.length a_67) (hx_67 : hs_3[Int.toNat x_67]? = some (.slice A_67 n_67 c_67)) (g_67 : gi a_3 x_67 = some a_67), f10.l2 (roadref4_Past.post W h0 m0 r) A_0 n_0 c_0 A_3 n_3 c_3 x_4 (⟨bk_5, 0, none⟩ : Addr) x_6 A_13 n_13 c_13 x_14 x_15 A_67 n_67 c_67 x_68 x_69 h
  | .j0 a_0 a_3 x_4 y_5 x_6 a_13 x_14 x_15, r => ∀ (W : Nat → Prop) (h0 m0 h m : Heap) (A_0 : Option Addr) (n_0 c_0 : Nat) (A_3 : Option Addr) (n_3 c_3 : Nat) (bk_5 : Nat) (cs_5 : List Value) (A_13 : Option Addr) (n_13 c_13 : Nat) (O : Hold W h0 m0 h m [rR (aRow (aE tell_bool)) A_3 c_3 a_3, rV bk_5 109 cs_5]) (ne_0 : n_0 = List.length a_0) (k_0 : List.length a_0 ≤ c_0) (r_0 : Rd 3 T_api_Event.E m A_0 a_0) (ne_3 : n_3 = List.length a_3) (e_5 : T_api_Event.E m y_5 cs_5) (ne_13 : n_13 = List.length a_13) (k_13 : List.length a_13 ≤ c_13) (r_13 : Rd 3 T_api_Event.E m A_13 a_13), f10.j0 (roadref4_Past.post W h0 m0 r) A_0 n_0 c_0 A_3 n_3 c_3 x_4 (⟨bk_5, 0, none⟩ : Addr) x_6 A_13 n_13 c_13 x_14 x_15 h
set_option maxRecDepth 100000 in
theorem roadref4_Past.l0_k.step_l0 (go : (p : roadref4_Past.l0_k.Pt) → Option ((List (List Bool)))) (ih : ∀ p r, go p = some r → roadref4_Past.l0_k.I p r) (a_0 : List T_api_Event) (a_3 : List (List Bool)) (a_13 : List T_api_Event) (x_14 : Int) (x_15 : Int) (r : (List (List Bool))) (e : roadref4_Past.l0_k.body go (.l0 a_0 a_3 a_13 x_14 x_15) = some r) : roadref4_Past.l0_k.I (.l0 a_0 a_3 a_13 x_14 x_15) r := by
  unfold roadref4_Past.l0_k.body at e
  intro W h0 m0 h m A_0 n_0 c_0 A_3 n_3 c_3 A_13 n_13 c_13 O ne_0 k_0 r_0 ne_3 ne_13 k_13 r_13
  subst ne_0
  subst ne_3
  subst ne_13
  refine f10.l0_in ?_
  unfold f10.l0T
  refine split_dec_e e (fun c45 e => ?_) (fun c45 e => ?_)
  · obtain ⟨y1, g2, e⟩ := bind_e e
    refine r_13.addr rfl g2 fun a3 cs4 ha5 hc6 he7 => ?_
    refine ⟨_, ldAn O.s hc6 rfl, ?_⟩
    refine O.new fun h8 x9 O10 => ?_
    refine ⟨_, rfl, (T_api_Event.T.len _ _ _ he7), ?_⟩
    refine O10.stA 1 rfl (T_api_Event.T.len _ _ _ he7) (T_api_Event.T.flat _ _ _ he7) fun h12 O13 => ?_
    obtain ⟨l14, g15, e⟩ := bind_e e
    have q16 := mks_e g15
    refine ⟨q16.1, Int.le_refl _, q16.2.1, q16.2.2.1, ?_⟩
    refine O13.new fun h17 x18 O19 => ?_
    have O20 := O19.made 2 rfl (aE tell_bool) g15 ⟨rfl, rfl⟩
    try rw [q16.2.2.2.1]
    obtain ⟨y24, g25, e⟩ := bind_e e
    refine O20.adr 0 rfl rfl g25 fun a22 ha23 => ?_
    obtain ⟨l38, g39, e⟩ := bind_e e
    obtain ⟨hs26, O27⟩ := O20.openX 0 rfl g25
    obtain ⟨A28, c29, hx30, hc31, k32⟩ := O27.hdX 0 rfl ha23 g25
    have O34 := O27.takeX 0 rfl hx30 g25
    replace g39 := Option.some.inj g39
    refine O34.hdSt 0 rfl ha23 (v := (Value.slice (some ⟨(Array.size h12), 0, none⟩) (List.length l14) (List.length l14))) trivial fun h35 O36 => ?_
    have hx40 := hs_set (v := (Value.slice (some ⟨(Array.size h12), 0, none⟩) (List.length l14) (List.length l14))) hx30
    have O37 := O36.putX 0 2 rfl rfl hx40 rfl g39
    have O42 := O37.nm
    have O43 := O42.closeX 0 rfl
    have O44 := O43.nm
    exact (ih _ _ e) _ _ _ _ _ _ _ _ _ _ _ _ _ _ _ _ (O44.pick [0, 1]).nm rfl k_0 r_0 (lset' g39) he7 rfl k_13 r_13
  · cases e
    exact ⟨_, _, _, _, O.pick [0], rfl, rfl⟩
set_option maxRecDepth 100000 in
theorem roadref4_Past.l0_k.step_l1 (go : (p : roadref4_Past.l0_k.Pt) → Option ((List (List Bool)))) (ih : ∀ p r, go p = some r → roadref4_Past.l0_k.I p r) (a_0 : List T_api_Event) (a_3 : List (List Bool)) (x_4 : Int) (y_5 : T_api_Event) (x_6 : Int) (a_13 : List T_api_Event) (x_14 : Int) (x_15 : Int) (r : (List (List Bool))) (e : roadref4_Past.l0_k.body go (.l1 a_0 a_3 x_4 y_5 x_6 a_13 x_14 x_15) = some r) : roadref4_Past.l0_k.I (.l1 a_0 a_3 x_4 y_5 x_6 a_13 x_14 x_15) r := by
  unfold roadref4_Past.l0_k.body at e
  intro W h0 m0 h m A_0 n_0 c_0 A_3 n_3 c_3 bk_5 cs_5 A_13 n_13 c_13 O ne_0 k_0 r_0 ne_3 e_5 ne_13 k_13 r_13
  subst ne_0
  subst ne_3
  subst ne_13
  refine f10.l1_in ?_
  unfold f10.l1T
  refine split_dec_e e (fun c21 e => ?_) (fun c21 e => ?_)
  · obtain ⟨y1, g2, e⟩ := bind_e e
    refine r_0.addr rfl g2 fun a3 cs4 ha5 hc6 he7 => ?_
    refine ⟨_, ldAn O.s hc6 rfl, ?_⟩
    refine O.new fun h8 x9 O10 => ?_
    refine ⟨_, rfl, (T_api_Event.T.len _ _ _ he7), ?_⟩
    refine O10.stA 2 rfl (T_api_Event.T.len _ _ _ he7) (T_api_Event.T.flat _ _ _ he7) fun h12 O13 => ?_
    refine ⟨_, ld0 (Sub.refl _) (O13.all 2 rfl) (T_api_Event.g0 he7), _, rfl, ?_⟩
    refine ⟨_, ld0 (Sub.refl _) (O13.all 1 rfl) (T_api_Event.g0 e_5), _, rfl, ?_⟩
    refine split_eq_e e (fun c20 e => ?_) (fun c20 e => ?_)
    · have O14 := O13.nm
      exact (ih _ _ e) _ _ _ _ _ _ _ _ _ _ _ _ _ _ _ _ (O14.pick [0, 1]).nm rfl k_0 r_0 rfl e_5 rfl k_13 r_13
    · refine ⟨_, ldk (k := 1) (Sub.refl _) (O13.all 1 rfl) (T_api_Event.g1 e_5), _, rfl, ?_⟩
      refine split_eq_e e (fun c19 e => ?_) (fun c19 e => ?_)
      · refine ⟨_, ldk (k := 1) (Sub.refl _) (O13.all 2 rfl) (T_api_Event.g1 he7), _, rfl, ?_⟩
        refine split_eq_e e (fun c17 e => ?_) (fun c17 e => ?_)
        · refine ⟨_, ldk (k := 2) (Sub.refl _) (O13.all 2 rfl) (T_api_Event.g2 he7), _, rfl, ?_⟩
          refine ⟨_, ldk (k := 2) (Sub.refl _) (O13.all 1 rfl) (T_api_Event.g2 e_5), _, rfl, ?_⟩
          have O15 := O13.nm
          exact (ih _ _ e) _ _ _ _ _ _ _ _ _ _ _ _ _ _ _ _ (O15.pick [0, 1]).nm rfl k_0 r_0 rfl e_5 rfl k_13 r_13
        · have O16 := O13.nm
          exact (ih _ _ e) _ _ _ _ _ _ _ _ _ _ _ _ _ _ _ _ (O16.pick [0, 1]).nm rfl k_0 r_0 rfl e_5 rfl k_13 r_13
      · have O18 := O13.nm
        exact (ih _ _ e) _ _ _ _ _ _ _ _ _ _ _ _ _ _ _ _ (O18.pick [0, 1]).nm rfl k_0 r_0 rfl e_5 rfl k_13 r_13
  · exact (ih _ _ e) _ _ _ _ _ _ _ _ _ _ _ _ _ _ (O.pick [0]).nm rfl k_0 r_0 rfl rfl k_13 r_13
set_option maxRecDepth 100000 in
theorem roadref4_Past.l0_k.step_j1 (go : (p : roadref4_Past.l0_k.Pt) → Option ((List (List Bool)))) (ih : ∀ p r, go p = some r → roadref4_Past.l0_k.I p r) (a_0 : List T_api_Event) (a_3 : List (List Bool)) (x_4 : Int) (y_5 : T_api_Event) (x_6 : Int) (a_13 : List T_api_Event) (x_14 : Int) (x_15 : Int) (b_57 : Bool) (r : (List (List Bool))) (e : roadref4_Past.l0_k.body go (.j1 a_0 a_3 x_4 y_5 x_6 a_13 x_14 x_15 b_57) = some r) : roadref4_Past.l0_k.I (.j1 a_0 a_3 x_4 y_5 x_6 a_13 x_14 x_15 b_57) r := by
  unfold roadref4_Past.l0_k.body at e
  intro W h0 m0 h m A_0 n_0 c_0 A_3 n_3 c_3 bk_5 cs_5 A_13 n_13 c_13 O ne_0 k_0 r_0 ne_3 e_5 ne_13 k_13 r_13
  subst ne_0
  subst ne_3
  subst ne_13
  refine f10.j1_in ?_
  unfold f10.j1T
  refine split_any_e e (fun c38 e => ?_) (fun c38 e => ?_)
  · obtain ⟨y3, g4, e⟩ := bind_e e
    refine O.adr 0 rfl rfl g4 fun a1 ha2 => ?_
    obtain ⟨hs5, O6⟩ := O.openX 0 rfl g4
    obtain ⟨A7, c8, hx9, hc10, k11⟩ := O6.hdX 0 rfl ha2 g4
    refine ⟨_, ld0 (Sub.refl _) hc10 rfl, _, _, _, rfl, ?_⟩
    obtain ⟨y13, g14, e⟩ := bind_e e
    refine (O6.xos 0 rfl hx9 g4).addr rfl g14 fun a15 cs16 ha17 hc18 he19 => ?_
    obtain rfl : cs16 = [(Value.bool y13)] := he19
    obtain ⟨l23, g24, e⟩ := bind_e e
    have O20 := O6.takeX 0 rfl hx9 g4
    replace g24 := Option.some.inj g24
    refine O20.elst0 2 rfl g14 ha17 hc18 (by decide) (y' := true) rfl trivial g24 fun h21 O22 => ?_
    obtain ⟨y29, g30, e⟩ := bind_e e
    have O25 := O22.putX 0 2 rfl rfl hx9 (lset' g24) rfl
    have hx26 := hx_len hx9 (lset' g24)
    refine O25.adrX 0 rfl lset g30 fun a27 ha28 => ?_
    obtain ⟨A31, c32, hx33, hc34, k35⟩ := O25.hdX 0 rfl ha28 g30
    refine ⟨_, ld0 (Sub.refl _) hc34 rfl, _, _, _, rfl, ?_⟩
    have O37 := O25.nm
    exact (ih _ _ e) _ _ _ _ _ _ _ _ _ _ _ _ _ _ _ _ _ _ _ _ (O37.pick [0, 1]).nm rfl k_0 r_0 lset e_5 rfl k_13 r_13 rfl hx33 g30
  · exact (ih _ _ e) _ _ _ _ _ _ _ _ _ _ _ _ _ _ _ _ (O.pick [0, 1]).nm rfl k_0 r_0 rfl e_5 rfl k_13 r_13
set_option maxHeartbeats 4000000 in
set_option maxRecDepth 100000 in
theorem roadref4_Past.l0_k.step_l2 (go : (p : roadref4_Past.l0_k.Pt) → Option ((List (List Bool)))) (ih : ∀ p r, go p = some r → roadref4_Past.l0_k.I p r) (a_0 : List T_api_Event) (a_3 : List (List Bool)) (x_4 : Int) (y_5 : T_api_Event) (x_6 : Int) (a_13 : List T_api_Event) (x_14 : Int) (x_15 : Int) (x_68 : Int) (x_69 : Int) (x_67 : Int) (a_67 : List Bool) (r : (List (List Bool))) (e : roadref4_Past.l0_k.body go (.l2 a_0 a_3 x_4 y_5 x_6 a_13 x_14 x_15 x_68 x_69 x_67 a_67) = some r) : roadref4_Past.l0_k.I (.l2 a_0 a_3 x_4 y_5 x_6 a_13 x_14 x_15 x_68 x_69 x_67 a_67) r := by
  unfold roadref4_Past.l0_k.body at e
  intro W h0 m0 h m A_0 n_0 c_0 A_3 n_3 c_3 hs_3 bk_5 cs_5 A_13 n_13 c_13 A_67 n_67 c_67 O ne_0 k_0 r_0 ne_3 e_5 ne_13 k_13 r_13 ne_67 hx_67 g_67
  subst ne_0
  subst ne_3
  subst ne_13
  subst ne_67
  refine f10.l2_in ?_
  unfold f10.l2T
  refine split_dec_e e (fun c64 e => ?_) (fun c64 e => ?_)
  · obtain ⟨y1, g2, e⟩ := bind_e e
    refine (O.xos 0 rfl hx_67 g_67).addr rfl g2 fun a3 cs4 ha5 hc6 he7 => ?_
    obtain rfl : cs4 = [(Value.bool y1)] := he7
    refine ⟨_, ld0 (Sub.refl _) hc6 rfl, _, rfl, ?_⟩
    obtain ⟨y10, g11, e⟩ := bind_e e
    refine O.adrX 0 rfl rfl g11 fun a8 ha9 => ?_
    obtain ⟨y14, g15, e⟩ := bind_e e
    refine O.adrX 0 rfl rfl g15 fun a12 ha13 => ?_
    obtain ⟨A16, c17, hx18, hc19, k20⟩ := O.hdX 0 rfl ha9 g11
    refine ⟨_, ld0 (Sub.refl _) hc19 rfl, _, _, _, rfl, ?_⟩
    refine ⟨_, ld0 (Sub.refl _) (O.hcX 0 rfl ha13 hx18) rfl, _, _, _, rfl, ?_⟩
    obtain ⟨y22, g23, e⟩ := bind_e e
    refine (O.xos 0 rfl hx18 g11).addr rfl g23 fun a24 cs25 ha26 hc27 he28 => ?_
    obtain rfl : cs25 = [(Value.bool y22)] := he28
    refine ⟨_, ld0 (Sub.refl _) hc27 rfl, _, rfl, ?_⟩
    refine split_any_e e (fun c61 e => ?_) (fun c61 e => ?_)
    · obtain ⟨y29, g30, e⟩ := bind_e e
      refine (O.xos 0 rfl hx18 g11).addr rfl g30 fun a31 cs32 ha33 hc34 he35 => ?_
      obtain rfl : cs32 = [(Value.bool y29)] := he35
      obtain ⟨l39, g40, e⟩ := bind_e e
      have O36 := O.takeX 0 rfl hx18 g11
      replace g40 := Option.some.inj g40
      refine O36.elst0 2 rfl g30 ha33 hc34 (by decide) (y' := true) rfl trivial g40 fun h37 O38 => ?_
      have O41 := O38.putX 0 2 rfl rfl hx18 (lset' g40) rfl
      have hx42 := hx_len hx18 (lset' g40)
      obtain ⟨g43, e⟩ := guard_e e
      have O44 := O41.nm
      exact (ih _ _ e) _ _ _ _ _ _ _ _ _ _ _ _ _ _ _ _ _ _ _ _ (O44.pick [0, 1]).nm rfl k_0 r_0 lset e_5 rfl k_13 r_13 rfl hx_67 (gi_ne g_67 rfl g43)
    · obtain ⟨y45, g46, e⟩ := bind_e e
      refine (O.xos 0 rfl hx18 g11).addr rfl g46 fun a47 cs48 ha49 hc50 he51 => ?_
      obtain rfl : cs48 = [(Value.bool y45)] := he51
      obtain ⟨l55, g56, e⟩ := bind_e e
      have O52 := O.takeX 0 rfl hx18 g11
      replace g56 := Option.some.inj g56
      refine O52.elst0 2 rfl g46 ha49 hc50 (by decide) (y' := y1) rfl trivial g56 fun h53 O54 => ?_
      have O57 := O54.putX 0 2 rfl rfl hx18 (lset' g56) rfl
      have hx58 := hx_len hx18 (lset' g56)
      obtain ⟨g59, e⟩ := guard_e e
      have O60 := O57.nm
      exact (ih _ _ e) _ _ _ _ _ _ _ _ _ _ _ _ _ _ _ _ _ _ _ _ (O60.pick [0, 1]).nm rfl k_0 r_0 lset e_5 rfl k_13 r_13 rfl hx_67 (gi_ne g_67 rfl g59)
  · have O62 := O.closeX 0 rfl
    have O63 := O62.nm
    exact (ih _ _ e) _ _ _ _ _ _ _ _ _ _ _ _ _ _ _ _ (O63.pick [0, 1]).nm rfl k_0 r_0 rfl e_5 rfl k_13 r_13
set_option maxRecDepth 100000 in
theorem roadref4_Past.l0_k.step_j0 (go : (p : roadref4_Past.l0_k.Pt) → Option ((List (List Bool)))) (ih : ∀ p r, go p = some r → roadref4_Past.l0_k.I p r) (a_0 : List T_api_Event) (a_3 : List (List Bool)) (x_4 : Int) (y_5 : T_api_Event) (x_6 : Int) (a_13 : List T_api_Event) (x_14 : Int) (x_15 : Int) (r : (List (List Bool))) (e : roadref4_Past.l0_k.body go (.j0 a_0 a_3 x_4 y_5 x_6 a_13 x_14 x_15) = some r) : roadref4_Past.l0_k.I (.j0 a_0 a_3 x_4 y_5 x_6 a_13 x_14 x_15) r := by
  unfold roadref4_Past.l0_k.body at e
  intro W h0 m0 h m A_0 n_0 c_0 A_3 n_3 c_3 bk_5 cs_5 A_13 n_13 c_13 O ne_0 k_0 r_0 ne_3 e_5 ne_13 k_13 r_13
  subst ne_0
  subst ne_3
  subst ne_13
  refine f10.j0_in ?_
  unfold f10.j0T
  exact (ih _ _ e) _ _ _ _ _ _ _ _ _ _ _ _ _ _ _ _ (O.pick [0, 1]).nm rfl k_0 r_0 rfl e_5 rfl k_13 r_13
theorem roadref4_Past.l0_k.all {p : roadref4_Past.l0_k.Pt} {r : ((List (List Bool)))} (e : roadref4_Past.l0_k.go p = some r) : roadref4_Past.l0_k.I p r := fixF_ind (β := fun _ => ((List (List Bool)))) roadref4_Past.l0_k.mono (I := roadref4_Past.l0_k.I) (fun go ih p r e => match p with
  | .l0 a_0 a_3 a_13 x_14 x_15 => roadref4_Past.l0_k.step_l0 go ih a_0 a_3 a_13 x_14 x_15 r e
  | .l1 a_0 a_3 x_4 y_5 x_6 a_13 x_14 x_15 => roadref4_Past.l0_k.step_l1 go ih a_0 a_3 x_4 y_5 x_6 a_13 x_14 x_15 r e
  | .j1 a_0 a_3 x_4 y_5 x_6 a_13 x_14 x_15 b_57 => roadref4_Past.l0_k.step_j1 go ih a_0 a_3 x_4 y_5 x_6 a_13 x_14 x_15 b_57 r e
  | .l2 a_0 a_3 x_4 y_5 x_6 a_13 x_14 x_15 x_68 x_69 x_67 a_67 => roadref4_Past.l0_k.step_l2 go ih a_0 a_3 x_4 y_5 x_6 a_13 x_14 x_15 x_68 x_69 x_67 a_67 r e
  | .j0 a_0 a_3 x_4 y_5 x_6 a_13 x_14 x_15 => roadref4_Past.l0_k.step_j0 go ih a_0 a_3 x_4 y_5 x_6 a_13 x_14 x_15 r e
  ) e
theorem roadref4_Past.l0.walk {W : Nat → Prop} {h0 m0 h m : Heap} {A_0 : Option Addr} {n_0 c_0 : Nat} {A_3 : Option Addr} {n_3 c_3 : Nat} {A_13 : Option Addr} {n_13 c_13 : Nat} {a_0 : List T_api_Event} {a_3 : List (List Bool)} {a_13 : List T_api_Event} {x_14 : Int} {x_15 : Int} (O : Hold W h0 m0 h m [rR (aRow (aE tell_bool)) A_3 c_3 a_3]) (ne_0 : n_0 = List.length a_0) (k_0 : List.length a_0 ≤ c_0) (r_0 : Rd 3 T_api_Event.E m A_0 a_0) (ne_3 : n_3 = List.length a_3) (ne_13 : n_13 = List.length a_13) (k_13 : List.length a_13 ≤ c_13) (r_13 : Rd 3 T_api_Event.E m A_13 a_13) {r : (List (List Bool))} (e : roadref4_Past.l0 a_0 a_3 a_13 x_14 x_15 = some r) : f10.l0 (roadref4_Past.post W h0 m0 r) A_0 n_0 c_0 A_3 n_3 c_3 A_13 n_13 c_13 x_14 x_15 h := roadref4_Past.l0_k.all (p := .l0 a_0 a_3 a_13 x_14 x_15) e W h0 m0 h m A_0 n_0 c_0 A_3 n_3 c_3 A_13 n_13 c_13 O ne_0 k_0 r_0 ne_3 ne_13 k_13 r_13
noncomputable def roadref4_Past (a_0 : List T_api_Event) : Option ((List (List Bool))) :=
  Option.bind (mks 24 (((List.length a_0) : Nat) : Int) ([] : (List Bool))) fun l1 => (roadref4_Past.l0 a_0 l1 a_0 (((List.length a_0) : Nat) : Int) (0 : Int))
set_option maxRecDepth 100000 in
theorem roadref4_Past.walk {W : Nat → Prop} {h m : Heap} {A_0 : Option Addr} {n_0 c_0 : Nat} {a_0 : List T_api_Event} (O : Hold W h m h m []) (ne_0 : n_0 = List.length a_0) (k_0 : List.length a_0 ≤ c_0) (r_0 : Rd 3 T_api_Event.E m A_0 a_0) {r : (List (List Bool))} (e : roadref4_Past a_0 = some r) : Run Try.prog 10 #[Value.slice A_0 n_0 c_0] h (roadref4_Past.post W h m r) := by
  unfold roadref4_Past at e
  subst ne_0
  refine f10.run ?_
  unfold f10.runT
  obtain ⟨l1, g2, e⟩ := bind_e e
  have q3 := mks_e g2
  refine ⟨q3.1, Int.le_refl _, q3.2.1, q3.2.2.1, ?_⟩
  refine O.new fun h4 x5 O6 => ?_
  have O7 := O6.made 0 rfl (aRow (aE tell_bool)) g2 aRow_nil
  try rw [q3.2.2.2.1]
  have O9 := O7.nm
  exact roadref4_Past.l0.walk (O9.pick [0]).nm rfl k_0 r_0 rfl rfl k_0 r_0 e
def roadlaw4_CutAll.post (W : Nat → Prop) (h0 m0 : Heap) (r : Bool) (v : Value) (h : Heap) : Prop := ∃ m , Hold W h0 m0 h m [] ∧ v = .bool r
inductive roadlaw4_CutAll.l0_k.Pt where
  | l0 (a_0 : List T_api_Event) (x_5 : Int) (x_6 : Int) (a_8 : List (List Bool)) (x_9 : Int) (x_50 : Int) (x_51 : Int)
  | l1 (a_0 : List T_api_Event) (x_5 : Int) (x_6 : Int) (a_8 : List (List Bool)) (x_9 : Int) (x_10 : Int) (b_11 : Bool) (x_50 : Int) (x_51 : Int) (x_55 : Int) (x_56 : Int)
  | l2 (a_0 : List T_api_Event) (x_5 : Int) (x_6 : Int) (a_8 : List (List Bool)) (x_9 : Int) (x_10 : Int) (b_11 : Bool) (x_12 : Int) (x_50 : Int) (x_51 : Int) (x_55 : Int) (x_56 : Int) (x_59 : Int) (x_60 : Int)
noncomputable def roadlaw4_CutAll.l0_k.body (go : (p : roadlaw4_CutAll.l0_k.Pt) → Option (Bool)) : (p : roadlaw4_CutAll.l0_k.Pt) → Option (Bool)
  | .l0 a_0 x_5 x_6 a_8 x_9 x_50 x_51 => if x_51 < x_50 then ((go (.l1 a_0 x_5 x_6 a_8 x_9 x_51 true x_50 x_51 (((List.length a_0) : Nat) : Int) (0 : Int)))) else (if x_6 = (0 : Int) then (some ((x_5 == x_9))) else (some (false)))
  | .l1 a_0 x_5 x_6 a_8 x_9 x_10 b_11 x_50 x_51 x_55 x_56 => if x_56 < x_55 then ((go (.l2 a_0 x_5 x_6 a_8 x_9 x_10 b_11 x_56 x_50 x_51 x_55 x_56 x_56 (0 : Int)))) else (if b_11 = true then ((go (.l0 a_0 x_5 x_6 a_8 (IntKind.wrap .i64 (x_9 + (1 : Int))) x_50 (IntKind.wrap .i64 (x_51 + (1 : Int)))))) else ((go (.l0 a_0 x_5 x_6 a_8 x_9 x_50 (IntKind.wrap .i64 (x_51 + (1 : Int)))))))
  | .l2 a_0 x_5 x_6 a_8 x_9 x_10 b_11 x_12 x_50 x_51 x_55 x_56 x_59 x_60 => if x_60 < x_59 then (if b_11 = true then (if 0 ≤ x_12 then (if (bitsI .and .i64 (shrI .i64 x_10 x_12) (1 : Int)) = (0 : Int) then ((go (.l2 a_0 x_5 x_6 a_8 x_9 x_10 true x_12 x_50 x_51 x_55 x_56 x_59 (IntKind.wrap .i64 (x_60 + (1 : Int)))))) else (Option.bind (gi a_8 x_12) fun y4 => Option.bind (gi y4 x_60) fun y14 => if y14 = true then (if 0 ≤ x_60 then ((go (.l2 a_0 x_5 x_6 a_8 x_9 x_10 ((bitsI .and .i64 (shrI .i64 x_10 x_60) (1 : Int)) == (1 : Int)) x_12 x_50 x_51 x_55 x_56 x_59 (IntKind.wrap .i64 (x_60 + (1 : Int)))))) else none) else ((go (.l2 a_0 x_5 x_6 a_8 x_9 x_10 true x_12 x_50 x_51 x_55 x_56 x_59 (IntKind.wrap .i64 (x_60 + (1 : Int)))))))) else none) else ((go (.l2 a_0 x_5 x_6 a_8 x_9 x_10 false x_12 x_50 x_51 x_55 x_56 x_59 (IntKind.wrap .i64 (x_60 + (1 : Int))))))) else ((go (.l1 a_0 x_5 x_6 a_8 x_9 x_10 b_11 x_50 x_51 x_55 (IntKind.wrap .i64 (x_56 + (1 : Int))))))
theorem roadlaw4_CutAll.l0_k.mono : MonoF (β := fun _ => (Bool)) roadlaw4_CutAll.l0_k.body := fun f g hfg p => match p with
  | .l0 a_0 x_5 x_6 a_8 x_9 x_50 x_51 => LeO.ite ((hfg _)) (LeO.ite (LeO.refl _) (LeO.refl _))
  | .l1 a_0 x_5 x_6 a_8 x_9 x_10 b_11 x_50 x_51 x_55 x_56 => LeO.ite ((hfg _)) (LeO.ite ((hfg _)) ((hfg _)))
  | .l2 a_0 x_5 x_6 a_8 x_9 x_10 b_11 x_12 x_50 x_51 x_55 x_56 x_59 x_60 => LeO.ite (LeO.ite (LeO.ite (LeO.ite ((hfg _)) (LeO.bind (LeO.refl _) fun y4 => LeO.bind (LeO.refl _) fun y14 => LeO.ite (LeO.ite ((hfg _)) (LeO.refl _)) ((hfg _)))) (LeO.refl _)) ((hfg _))) ((hfg _))
noncomputable def roadlaw4_CutAll.l0_k.go (p : roadlaw4_CutAll.l0_k.Pt) : Option (Bool) := fixF (β := fun _ => (Bool)) roadlaw4_CutAll.l0_k.body p
noncomputable def roadlaw4_CutAll.l0 (a_0 : List T_api_Event) (x_5 : Int) (x_6 : Int) (a_8 : List (List Bool)) (x_9 : Int) (x_50 : Int) (x_51 : Int) : Option (Bool) := roadlaw4_CutAll.l0_k.go (.l0 a_0 x_5 x_6 a_8 x_9 x_50 x_51)
noncomputable def roadlaw4_CutAll.l1 (a_0 : List T_api_Event) (x_5 : Int) (x_6 : Int) (a_8 : List (List Bool)) (x_9 : Int) (x_10 : Int) (b_11 : Bool) (x_50 : Int) (x_51 : Int) (x_55 : Int) (x_56 : Int) : Option (Bool) := roadlaw4_CutAll.l0_k.go (.l1 a_0 x_5 x_6 a_8 x_9 x_10 b_11 x_50 x_51 x_55 x_56)
noncomputable def roadlaw4_CutAll.l2 (a_0 : List T_api_Event) (x_5 : Int) (x_6 : Int) (a_8 : List (List Bool)) (x_9 : Int) (x_10 : Int) (b_11 : Bool) (x_12 : Int) (x_50 : Int) (x_51 : Int) (x_55 : Int) (x_56 : Int) (x_59 : Int) (x_60 : Int) : Option (Bool) := roadlaw4_CutAll.l0_k.go (.l2 a_0 x_5 x_6 a_8 x_9 x_10 b_11 x_12 x_50 x_51 x_55 x_56 x_59 x_60)
theorem roadlaw4_CutAll.l0_eq (a_0 : List T_api_Event) (x_5 : Int) (x_6 : Int) (a_8 : List (List Bool)) (x_9 : Int) (x_50 : Int) (x_51 : Int) : roadlaw4_CutAll.l0 a_0 x_5 x_6 a_8 x_9 x_50 x_51 = if x_51 < x_50 then ((roadlaw4_CutAll.l1 a_0 x_5 x_6 a_8 x_9 x_51 true x_50 x_51 (((List.length a_0) : Nat) : Int) (0 : Int))) else (if x_6 = (0 : Int) then (some ((x_5 == x_9))) else (some (false))) := fixF_eq roadlaw4_CutAll.l0_k.mono _
theorem roadlaw4_CutAll.l1_eq (a_0 : List T_api_Event) (x_5 : Int) (x_6 : Int) (a_8 : List (List Bool)) (x_9 : Int) (x_10 : Int) (b_11 : Bool) (x_50 : Int) (x_51 : Int) (x_55 : Int) (x_56 : Int) : roadlaw4_CutAll.l1 a_0 x_5 x_6 a_8 x_9 x_10 b_11 x_50 x_51 x_55 x_56 = if x_56 < x_55 then ((roadlaw4_CutAll.l2 a_0 x_5 x_6 a_8 x_9 x_10 b_11 x_56 x_50 x_51 x_55 x_56 x_56 (0 : Int))) else (if b_11 = true then ((roadlaw4_CutAll.l0 a_0 x_5 x_6 a_8 (IntKind.wrap .i64 (x_9 + (1 : Int))) x_50 (IntKind.wrap .i64 (x_51 + (1 : Int))))) else ((roadlaw4_CutAll.l0 a_0 x_5 x_6 a_8 x_9 x_50 (IntKind.wrap .i64 (x_51 + (1 : Int)))))) := fixF_eq roadlaw4_CutAll.l0_k.mono _
theorem roadlaw4_CutAll.l2_eq (a_0 : List T_api_Event) (x_5 : Int) (x_6 : Int) (a_8 : List (List Bool)) (x_9 : Int) (x_10 : Int) (b_11 : Bool) (x_12 : Int) (x_50 : Int) (x_51 : Int) (x_55 : Int) (x_56 : Int) (x_59 : Int) (x_60 : Int) : roadlaw4_CutAll.l2 a_0 x_5 x_6 a_8 x_9 x_10 b_11 x_12 x_50 x_51 x_55 x_56 x_59 x_60 = if x_60 < x_59 then (if b_11 = true then (if 0 ≤ x_12 then (if (bitsI .and .i64 (shrI .i64 x_10 x_12) (1 : Int)) = (0 : Int) then ((roadlaw4_CutAll.l2 a_0 x_5 x_6 a_8 x_9 x_10 true x_12 x_50 x_51 x_55 x_56 x_59 (IntKind.wrap .i64 (x_60 + (1 : Int))))) else (Option.bind (gi a_8 x_12) fun y4 => Option.bind (gi y4 x_60) fun y14 => if y14 = true then (if 0 ≤ x_60 then ((roadlaw4_CutAll.l2 a_0 x_5 x_6 a_8 x_9 x_10 ((bitsI .and .i64 (shrI .i64 x_10 x_60) (1 : Int)) == (1 : Int)) x_12 x_50 x_51 x_55 x_56 x_59 (IntKind.wrap .i64 (x_60 + (1 : Int))))) else none) else ((roadlaw4_CutAll.l2 a_0 x_5 x_6 a_8 x_9 x_10 true x_12 x_50 x_51 x_55 x_56 x_59 (IntKind.wrap .i64 (x_60 + (1 : Int))))))) else none) else ((roadlaw4_CutAll.l2 a_0 x_5 x_6 a_8 x_9 x_10 false x_12 x_50 x_51 x_55 x_56 x_59 (IntKind.wrap .i64 (x_60 + (1 : Int)))))) else ((roadlaw4_CutAll.l1 a_0 x_5 x_6 a_8 x_9 x_10 b_11 x_50 x_51 x_55 (IntKind.wrap .i64 (x_56 + (1 : Int))))) := fixF_eq roadlaw4_CutAll.l0_k.mono _
def roadlaw4_CutAll.l0_k.I : (p : roadlaw4_CutAll.l0_k.Pt) → (Bool) → Prop
  | .l0 a_0 x_5 x_6 a_8 x_9 x_50 x_51, r => ∀ (W : Nat → Prop) (h0 m0 h m : Heap) (A_0 : Option Addr) (n_0 c_0 : Nat) (A_8 : Option Addr) (n_8 c_8 : Nat) (O : Hold W h0 m0 h m [rR (aRow (aE tell_bool)) A_8 c_8 a_8]) (ne_0 : n_0 = List.length a_0) (k_0 : List.length a_0 ≤ c_0) (r_0 : Rd 3 T_api_Event.E m A_0 a_0) (ne_8 : n_8 = List.length a_8), f3.l0 (roadlaw4_CutAll.post W h0 m0 r) A_0 n_0 c_0 x_5 x_6 A_8 n_8 c_8 x_9 x_50 x_51 h
  | .l1 a_0 x_5 x_6 a_8 x_9 x_10 b_11 x_50 x_51 x_55 x_56, r => ∀ (W : Nat → Prop) (h0 m0 h m : Heap) (A_0 : Option Addr) (n_0 c_0 : Nat) (A_8 : Option Addr) (n_8 c_8 : Nat) (O : Hold W h0 m0 h m [rR (aRow (aE tell_bool)) A_8 c_8 a_8]) (ne_0 : n_0 = List.length a_0) (k_0 : List.length a_0 ≤ c_0) (r_0 : Rd 3 T_api_Event.E m A_0 a_0) (ne_8 : n_8 = List.length a_8), f3.l1 (roadlaw4_CutAll.post W h0 m0 r) A_0 n_0 c_0 x_5 x_6 A_8 n_8 c_8 x_9 x_10 b_11 x_50 x_51 x_55 x_56 h
  | .l2 a_0 x_5 x_6 a_8 x_9 x_10 b_11 x_12 x_50 x_51 x_55 x_56 x_59 x_60, r => ∀ (W : Nat → Prop) (h0 m0 h m : Heap) (A_0 : Option Addr) (n_0 c_0 : Nat) (A_8 : Option Addr) (n_8 c_8 : Nat) (O : Hold W h0 m0 h m [rR (aRow (aE tell_bool)) A_8 c_8 a_8]) (ne_0 : n_0 = List.length a_0) (k_0 : List.length a_0 ≤ c_0) (r_0 : Rd 3 T_api_Event.E m A_0 a_0) (ne_8 : n_8 = List.length a_8), f3.l2 (roadlaw4_CutAll.post W h0 m0 r) A_0 n_0 c_0 x_5 x_6 A_8 n_8 c_8 x_9 x_10 b_11 x_12 x_50 x_51 x_55 x_56 x_59 x_60 h
set_option maxRecDepth 100000 in
theorem roadlaw4_CutAll.l0_k.step_l0 (go : (p : roadlaw4_CutAll.l0_k.Pt) → Option (Bool)) (ih : ∀ p r, go p = some r → roadlaw4_CutAll.l0_k.I p r) (a_0 : List T_api_Event) (x_5 : Int) (x_6 : Int) (a_8 : List (List Bool)) (x_9 : Int) (x_50 : Int) (x_51 : Int) (r : Bool) (e : roadlaw4_CutAll.l0_k.body go (.l0 a_0 x_5 x_6 a_8 x_9 x_50 x_51) = some r) : roadlaw4_CutAll.l0_k.I (.l0 a_0 x_5 x_6 a_8 x_9 x_50 x_51) r := by
  unfold roadlaw4_CutAll.l0_k.body at e
  intro W h0 m0 h m A_0 n_0 c_0 A_8 n_8 c_8 O ne_0 k_0 r_0 ne_8
  subst ne_0
  subst ne_8
  refine f3.l0_in ?_
  unfold f3.l0T
  refine split_dec_e e (fun c2 e => ?_) (fun c2 e => ?_)
  · exact (ih _ _ e) _ _ _ _ _ _ _ _ _ _ _ (O.pick [0]).nm rfl k_0 r_0 rfl
  · refine split_eq_e e (fun c1 e => ?_) (fun c1 e => ?_)
    · cases e
      exact ⟨_, O.pick [], rfl⟩
    · cases e
      exact ⟨_, O.pick [], rfl⟩
set_option maxRecDepth 100000 in
theorem roadlaw4_CutAll.l0_k.step_l1 (go : (p : roadlaw4_CutAll.l0_k.Pt) → Option (Bool)) (ih : ∀ p r, go p = some r → roadlaw4_CutAll.l0_k.I p r) (a_0 : List T_api_Event) (x_5 : Int) (x_6 : Int) (a_8 : List (List Bool)) (x_9 : Int) (x_10 : Int) (b_11 : Bool) (x_50 : Int) (x_51 : Int) (x_55 : Int) (x_56 : Int) (r : Bool) (e : roadlaw4_CutAll.l0_k.body go (.l1 a_0 x_5 x_6 a_8 x_9 x_10 b_11 x_50 x_51 x_55 x_56) = some r) : roadlaw4_CutAll.l0_k.I (.l1 a_0 x_5 x_6 a_8 x_9 x_10 b_11 x_50 x_51 x_55 x_56) r := by
  unfold roadlaw4_CutAll.l0_k.body at e
  intro W h0 m0 h m A_0 n_0 c_0 A_8 n_8 c_8 O ne_0 k_0 r_0 ne_8
  subst ne_0
  subst ne_8
  refine f3.l1_in ?_
  unfold f3.l1T
  refine split_dec_e e (fun c2 e => ?_) (fun c2 e => ?_)
  · exact (ih _ _ e) _ _ _ _ _ _ _ _ _ _ _ (O.pick [0]).nm rfl k_0 r_0 rfl
  · refine split_any_e e (fun c1 e => ?_) (fun c1 e => ?_)
    · exact (ih _ _ e) _ _ _ _ _ _ _ _ _ _ _ (O.pick [0]).nm rfl k_0 r_0 rfl
    · exact (ih _ _ e) _ _ _ _ _ _ _ _ _ _ _ (O.pick [0]).nm rfl k_0 r_0 rfl
set_option maxRecDepth 100000 in
theorem roadlaw4_CutAll.l0_k.step_l2 (go : (p : roadlaw4_CutAll.l0_k.Pt) → Option (Bool)) (ih : ∀ p r, go p = some r → roadlaw4_CutAll.l0_k.I p r) (a_0 : List T_api_Event) (x_5 : Int) (x_6 : Int) (a_8 : List (List Bool)) (x_9 : Int) (x_10 : Int) (b_11 : Bool) (x_12 : Int) (x_50 : Int) (x_51 : Int) (x_55 : Int) (x_56 : Int) (x_59 : Int) (x_60 : Int) (r : Bool) (e : roadlaw4_CutAll.l0_k.body go (.l2 a_0 x_5 x_6 a_8 x_9 x_10 b_11 x_12 x_50 x_51 x_55 x_56 x_59 x_60) = some r) : roadlaw4_CutAll.l0_k.I (.l2 a_0 x_5 x_6 a_8 x_9 x_10 b_11 x_12 x_50 x_51 x_55 x_56 x_59 x_60) r := by
  unfold roadlaw4_CutAll.l0_k.body at e
  intro W h0 m0 h m A_0 n_0 c_0 A_8 n_8 c_8 O ne_0 k_0 r_0 ne_8
  subst ne_0
  subst ne_8
  refine f3.l2_in ?_
  unfold f3.l2T
  refine split_dec_e e (fun c29 e => ?_) (fun c29 e => ?_)
  · refine split_any_e e (fun c28 e => ?_) (fun c28 e => ?_)
    · obtain ⟨g1, e⟩ := guard_e e
      refine ⟨g1, ?_⟩
      refine split_eq_e e (fun c27 e => ?_) (fun c27 e => ?_)
      · exact (ih _ _ e) _ _ _ _ _ _ _ _ _ _ _ (O.pick [0]).nm rfl k_0 r_0 rfl
      · obtain ⟨y4, g5, e⟩ := bind_e e
        refine O.adr 0 rfl rfl g5 fun a2 ha3 => ?_
        obtain ⟨hs6, O7⟩ := O.openX 0 rfl g5
        obtain ⟨A8, c9, hx10, hc11, k12⟩ := O7.hdX 0 rfl ha3 g5
        refine ⟨_, ld0 (Sub.refl _) hc11 rfl, _, _, _, rfl, ?_⟩
        obtain ⟨y14, g15, e⟩ := bind_e e
        refine (O7.xos 0 rfl hx10 g5).addr rfl g15 fun a16 cs17 ha18 hc19 he20 => ?_
        obtain rfl : cs17 = [(Value.bool y14)] := he20
        refine ⟨_, ld0 (Sub.refl _) hc19 rfl, _, rfl, ?_⟩
        refine split_not ?_
        refine split_any_e e (fun c26 e => ?_) (fun c26 e => ?_)
        · obtain ⟨g21, e⟩ := guard_e e
          refine ⟨g21, ?_⟩
          have O22 := O7.closeX 0 rfl
          have O23 := O22.nm
          exact (ih _ _ e) _ _ _ _ _ _ _ _ _ _ _ (O23.pick [0]).nm rfl k_0 r_0 rfl
        · have O24 := O7.closeX 0 rfl
          have O25 := O24.nm
          exact (ih _ _ e) _ _ _ _ _ _ _ _ _ _ _ (O25.pick [0]).nm rfl k_0 r_0 rfl
    · exact (ih _ _ e) _ _ _ _ _ _ _ _ _ _ _ (O.pick [0]).nm rfl k_0 r_0 rfl
  · exact (ih _ _ e) _ _ _ _ _ _ _ _ _ _ _ (O.pick [0]).nm rfl k_0 r_0 rfl
theorem roadlaw4_CutAll.l0_k.all {p : roadlaw4_CutAll.l0_k.Pt} {r : (Bool)} (e : roadlaw4_CutAll.l0_k.go p = some r) : roadlaw4_CutAll.l0_k.I p r := fixF_ind (β := fun _ => (Bool)) roadlaw4_CutAll.l0_k.mono (I := roadlaw4_CutAll.l0_k.I) (fun go ih p r e => match p with
  | .l0 a_0 x_5 x_6 a_8 x_9 x_50 x_51 => roadlaw4_CutAll.l0_k.step_l0 go ih a_0 x_5 x_6 a_8 x_9 x_50 x_51 r e
  | .l1 a_0 x_5 x_6 a_8 x_9 x_10 b_11 x_50 x_51 x_55 x_56 => roadlaw4_CutAll.l0_k.step_l1 go ih a_0 x_5 x_6 a_8 x_9 x_10 b_11 x_50 x_51 x_55 x_56 r e
  | .l2 a_0 x_5 x_6 a_8 x_9 x_10 b_11 x_12 x_50 x_51 x_55 x_56 x_59 x_60 => roadlaw4_CutAll.l0_k.step_l2 go ih a_0 x_5 x_6 a_8 x_9 x_10 b_11 x_12 x_50 x_51 x_55 x_56 x_59 x_60 r e
  ) e
theorem roadlaw4_CutAll.l0.walk {W : Nat → Prop} {h0 m0 h m : Heap} {A_0 : Option Addr} {n_0 c_0 : Nat} {A_8 : Option Addr} {n_8 c_8 : Nat} {a_0 : List T_api_Event} {x_5 : Int} {x_6 : Int} {a_8 : List (List Bool)} {x_9 : Int} {x_50 : Int} {x_51 : Int} (O : Hold W h0 m0 h m [rR (aRow (aE tell_bool)) A_8 c_8 a_8]) (ne_0 : n_0 = List.length a_0) (k_0 : List.length a_0 ≤ c_0) (r_0 : Rd 3 T_api_Event.E m A_0 a_0) (ne_8 : n_8 = List.length a_8) {r : Bool} (e : roadlaw4_CutAll.l0 a_0 x_5 x_6 a_8 x_9 x_50 x_51 = some r) : f3.l0 (roadlaw4_CutAll.post W h0 m0 r) A_0 n_0 c_0 x_5 x_6 A_8 n_8 c_8 x_9 x_50 x_51 h := roadlaw4_CutAll.l0_k.all (p := .l0 a_0 x_5 x_6 a_8 x_9 x_50 x_51) e W h0 m0 h m A_0 n_0 c_0 A_8 n_8 c_8 O ne_0 k_0 r_0 ne_8
noncomputable def roadlaw4_CutAll.j0 (a_0 : List T_api_Event) : Option (Bool) :=
  Option.bind (sls a_0 (0 : Int) (if (10 : Int) < (((List.length a_0) : Nat) : Int) then (10 : Int) else (((List.length a_0) : Nat) : Int))) fun l1 => Option.bind (cut_All l1) fun y6 => Option.bind (roadref4_History l1) fun y13 => if y13 = (0 : Int) then (Option.bind (roadref4_Past l1) fun y21 => if 0 ≤ (((List.length l1) : Nat) : Int) then ((roadlaw4_CutAll.l0 l1 y6.1 y6.2 y21 (0 : Int) (shlI .i64 (1 : Int) (((List.length l1) : Nat) : Int)) (0 : Int))) else none) else (if y6.2 = y13 then (some ((y6.1 == (0 : Int)))) else (some (false)))
set_option maxHeartbeats 4000000 in
set_option maxRecDepth 100000 in
theorem roadlaw4_CutAll.j0.walk {W : Nat → Prop} {h0 m0 h m : Heap} {A_0 : Option Addr} {n_0 c_0 : Nat} {a_0 : List T_api_Event} (O : Hold W h0 m0 h m []) (ne_0 : n_0 = List.length a_0) (k_0 : List.length a_0 ≤ c_0) (r_0 : Rd 3 T_api_Event.E m A_0 a_0) {r : Bool} (e : roadlaw4_CutAll.j0 a_0 = some r) : f3.j0 (roadlaw4_CutAll.post W h0 m0 r) A_0 n_0 c_0 h := by
  unfold roadlaw4_CutAll.j0 at e
  subst ne_0
  refine f3.j0_in ?_
  unfold f3.j0T
  obtain ⟨l1, g2, e⟩ := bind_e e
  have q3 := sls_e g2
  refine ⟨q3.1, q3.2.1, cap_in q3.2.2.1 k_0, ?_⟩
  try rw [q3.2.2.2.1]
  have k4 : List.length l1 ≤ (c_0 - Int.toNat (0 : Int)) := sls_cap g2 k_0
  have r5 := r_0.sls g2 (le_mx q3.2.2.1 k_0)
  obtain ⟨y6, g7, e⟩ := bind_e e
  refine (cut_All.walk (Hold.start (W := No) O.s) rfl k4 r5 g7).mono ?_
  rintro _ h8 ⟨m9, Q10, rfl⟩
  have O12 := Hold.nm (O.retC Q10 vfs_nil)
  refine ⟨_, _, rfl, ?_⟩
  obtain ⟨y13, g14, e⟩ := bind_e e
  refine (roadref4_History.walk (Hold.start (W := No) O12.s) rfl k4 r5 g14).mono ?_
  rintro _ h15 ⟨m16, Q17, rfl⟩
  have O19 := Hold.nm (O12.retC Q17 vfs_nil)
  refine ⟨_, rfl, ?_⟩
  refine split_ne_e e (fun c34 e => ?_) (fun c34 e => ?_)
  · refine split_eq_e e (fun c20 e => ?_) (fun c20 e => ?_)
    · cases e
      exact ⟨_, O19.pick [], rfl⟩
    · cases e
      exact ⟨_, O19.pick [], rfl⟩
  · obtain ⟨y21, g22, e⟩ := bind_e e
    refine (roadref4_Past.walk (Hold.start (W := No) O19.s) rfl k4 r5 g22).mono ?_
    rintro _ h23 ⟨m24, A27, n28, c29, Q25, rfl, ne30⟩
    have O32 := Hold.nm (O19.ret Q25)
    subst ne30
    refine ⟨_, _, _, rfl, ?_⟩
    obtain ⟨g33, e⟩ := guard_e e
    refine ⟨g33, ?_⟩
    exact roadlaw4_CutAll.l0.walk (O32.pick [0]).nm rfl k4 (r5.sub T_api_Event.T Q25.S.up) rfl e
noncomputable def roadlaw4_CutAll (a_0 : List T_api_Event) : Option (Bool) :=
  Option.bind (roadlaw4_two ) fun y1 => Option.bind (cut_All y1) fun y13 => if y13.2 = (0 : Int) then (if y13.1 = (3 : Int) then ((roadlaw4_CutAll.j0 a_0)) else (some (false))) else (some (false))
set_option maxRecDepth 100000 in
theorem roadlaw4_CutAll.walk {W : Nat → Prop} {h m : Heap} {A_0 : Option Addr} {n_0 c_0 : Nat} {a_0 : List T_api_Event} (O : Hold W h m h m []) (ne_0 : n_0 = List.length a_0) (k_0 : List.length a_0 ≤ c_0) (r_0 : Rd 3 T_api_Event.E m A_0 a_0) {r : Bool} (e : roadlaw4_CutAll a_0 = some r) : Run Try.prog 3 #[Value.slice A_0 n_0 c_0] h (roadlaw4_CutAll.post W h m r) := by
  unfold roadlaw4_CutAll at e
  subst ne_0
  refine f3.run ?_
  unfold f3.runT
  obtain ⟨y1, g2, e⟩ := bind_e e
  refine (roadlaw4_two.walk (Hold.start (W := No) O.s)  g2).mono ?_
  rintro _ h3 ⟨m4, A7, n8, c9, Q5, rfl, ne10⟩
  have O12 := Hold.nm (O.retC Q5 (vfs_cons (rR_vf (aE_vf (fun _ _ _ _ h => T_api_Event.keep h))) vfs_nil))
  subst ne10
  refine ⟨_, _, _, rfl, ?_⟩
  obtain ⟨y13, g14, e⟩ := bind_e e
  obtain ⟨m19, u20, s25, ⟨⟨r23, k24⟩, _⟩, B21, C22⟩ := O12.lend0 [0]
  replace r23 : Rd 3 T_api_Event.E m19 A7 y1 := r23
  replace k24 : List.length y1 ≤ c9 := k24
  refine (cut_All.walk (Hold.start (W := No) s25) rfl k24 r23 g14).mono ?_
  rintro _ h15 ⟨m16, Q17, rfl⟩
  have O26 := Hold.nm (C22 Q17 vfs_nil)
  refine ⟨_, _, rfl, ?_⟩
  refine split_ne_e e (fun c28 e => ?_) (fun c28 e => ?_)
  · cases e
    exact ⟨_, O26.pick [], rfl⟩
  · refine split_ne_e e (fun c27 e => ?_) (fun c27 e => ?_)
    · cases e
      exact ⟨_, O26.pick [], rfl⟩
    · exact roadlaw4_CutAll.j0.walk (O26.pick []).nm rfl k_0 r_0 e
end Go.Proofs.Ytdlihfedhojdgaa.Fw

end
section
namespace Go.Proofs.Ytdlihfedhojdgaa.Fw
open Go Go.Hw Go.Proofs
set_option linter.unusedVariables false
set_option linter.unusedSectionVars false
abbrev Ev := T_api_Event
def has (k : Int) (l : List Ev) (m : Int) : Bool := l.any fun x => x.Kind == k && x.Msg == m
def stepErr (pre : List Ev) (e : Ev) : Int :=
  if e.Kind < 1 ∨ e.Kind > 3 then 3
  else if e.Place < 0 ∨ e.Place > 7 ∨ (e.Kind ≠ 1 ∧ (e.Msg < 0 ∨ e.Msg > 999)) then 1
  else if e.Kind = 2 then (if has 2 pre e.Msg = true then 5 else 0)
  else if e.Kind = 3 then (if has 2 pre e.Msg = true then (if has 3 pre e.Msg = true then 5 else 0) else 4)
  else 0
def hist : List Ev → List Ev → Int
  | _, [] => 0
  | pre, e :: r => if stepErr pre e = 0 then hist (pre ++ [e]) r else stepErr pre e
theorem has_snoc (k : Int) (l : List Ev) (e : Ev) (m : Int) : has k (l ++ [e]) m = (has k l m || (e.Kind == k && e.Msg == m)) := by simp [has]
theorem hist_cons (pre : List Ev) (e : Ev) (r : List Ev) : hist pre (e :: r) = if stepErr pre e = 0 then hist (pre ++ [e]) r else stepErr pre e := rfl
theorem hist_bad {pre : List Ev} {e : Ev} {r : List Ev} {c : Int} (h : stepErr pre e = c) (hc : c ≠ 0) : hist pre (e :: r) = c := by rw [hist_cons, h, if_neg hc]
theorem hist_ok {pre : List Ev} {e : Ev} {r : List Ev} (h : stepErr pre e = 0) : hist pre (e :: r) = hist (pre ++ [e]) r := by rw [hist_cons, if_pos h]
theorem check_loop {l : List Ev} (hl : l.length ≤ 200) : ∀ (r pre : List Ev) (es3 es4 : List (Int × Bool)), (∀ m, pgd es3 m false = has 2 pre m) → (∀ m, pgd es4 m false = has 3 pre m) → l = pre ++ r →
    clock_Check.l0 es3 es4 l (l.length : Int) (pre.length : Int) = some (hist pre r) := by
  intro r
  induction r with
  | nil =>
    intro pre es3 es4 h3 h4 e
    rw [clock_Check.l0_eq, if_neg (by rw [e]; simp)]; rfl
  | cons e r ih =>
    intro pre es3 es4 h3 h4 he
    have hlen : l.length = pre.length + (r.length + 1) := by rw [he]; simp
    have hn : ∀ es3 es4, (∀ m, pgd es3 m false = has 2 (pre ++ [e]) m) → (∀ m, pgd es4 m false = has 3 (pre ++ [e]) m) → clock_Check.l0 es3 es4 l (l.length : Int) (IntKind.wrap .i64 ((pre.length : Int) + 1)) = some (hist (pre ++ [e]) r) := by
      intro a b ha hb
      rw [w_succ (by omega)]
      have := ih (pre ++ [e]) a b ha hb (by simpa using he)
      simpa using this
    rw [clock_Check.l0_eq, if_pos (by omega), gi_some (k := pre.length) rfl (by rw [he]; simp : l[pre.length]? = some e), Option.bind_some]
    by_cases k1 : e.Kind < 1
    · rw [if_pos k1, hist_bad (c := 3) (by rw [stepErr, if_pos (by omega)]) (by decide)]
    rw [if_neg k1]
    by_cases k3 : e.Kind > 3
    · rw [if_pos k3, hist_bad (c := 3) (by rw [stepErr, if_pos (by omega)]) (by decide)]
    rw [if_neg k3, clock_Check.j0_eq]
    by_cases p0 : e.Place < 0
    · rw [if_pos p0, hist_bad (c := 1) (by rw [stepErr, if_neg (by omega), if_pos (by omega)]) (by decide)]
    rw [if_neg p0]
    by_cases p8 : e.Place ≥ 8
    · rw [if_pos p8, hist_bad (c := 1) (by rw [stepErr, if_neg (by omega), if_pos (by omega)]) (by decide)]
    rw [if_neg p8]
    have fin : (e.Kind ≠ 1 → ¬ (e.Msg < 0 ∨ e.Msg > 999)) → clock_Check.j1 es3 es4 e l (l.length : Int) (pre.length : Int) = some (hist pre (e :: r)) := by
      intro hm
      have hm' : ¬ (e.Place < 0 ∨ e.Place > 7 ∨ (e.Kind ≠ 1 ∧ (e.Msg < 0 ∨ e.Msg > 999))) := by omega
      rw [clock_Check.j1_eq, h3, h4]
      by_cases k2 : e.Kind = 2
      · rw [if_pos k2]
        by_cases hs : has 2 pre e.Msg = true
        · rw [if_pos hs, hist_bad (c := 5) (by rw [stepErr, if_neg (by omega), if_neg hm', if_pos k2, if_pos hs]) (by decide)]
        · rw [if_neg hs, hist_ok (by rw [stepErr, if_neg (by omega), if_neg hm', if_pos k2, if_neg hs]), Option.bind_some]
          refine hn _ _ (fun m => ?_) (fun m => ?_)
          · have := h3 m
            unfold pgd at this ⊢
            rw [pget_pset, has_snoc]
            by_cases hme : m = e.Msg
            · rw [if_pos hme]; simp [k2, hme]
            · rw [if_neg hme, this]; simp [Ne.symm hme]
          · rw [h4, has_snoc]; simp [k2]
      · rw [if_neg k2]
        by_cases k3' : e.Kind = 3
        · rw [if_pos k3']
          by_cases hs : has 2 pre e.Msg = true
          · rw [if_pos hs]
            by_cases ht : has 3 pre e.Msg = true
            · rw [if_pos ht, hist_bad (c := 5) (by rw [stepErr, if_neg (by omega), if_neg hm', if_neg k2, if_pos k3', if_pos hs, if_pos ht]) (by decide)]
            · rw [if_neg ht, hist_ok (by rw [stepErr, if_neg (by omega), if_neg hm', if_neg k2, if_pos k3', if_pos hs, if_neg ht]), Option.bind_some]
              refine hn _ _ (fun m => ?_) (fun m => ?_)
              · rw [h3, has_snoc]; simp [k3']
              · have := h4 m
                unfold pgd at this ⊢
                rw [pget_pset, has_snoc]
                by_cases hme : m = e.Msg
                · rw [if_pos hme]; simp [k3', hme]
                · rw [if_neg hme, this]; simp [Ne.symm hme]
          · rw [if_neg hs, hist_bad (c := 4) (by rw [stepErr, if_neg (by omega), if_neg hm', if_neg k2, if_pos k3', if_neg hs]) (by decide)]
        · rw [if_neg k3', hist_ok (by rw [stepErr, if_neg (by omega), if_neg hm', if_neg k2, if_neg k3'])]
          refine hn _ _ (fun m => ?_) (fun m => ?_)
          · rw [h3, has_snoc]; simp [k2]
          · rw [h4, has_snoc]; simp [k3']
    by_cases kk : e.Kind = 1
    · rw [if_pos kk]; exact fin (fun h => absurd kk h)
    rw [if_neg kk]
    by_cases m0 : e.Msg < 0
    · rw [if_pos m0, hist_bad (c := 1) (by rw [stepErr, if_neg (by omega), if_pos (by omega)]) (by decide)]
    rw [if_neg m0]
    by_cases m9 : e.Msg > 999
    · rw [if_pos m9, hist_bad (c := 1) (by rw [stepErr, if_neg (by omega), if_pos (by omega)]) (by decide)]
    rw [if_neg m9]
    exact fin (fun _ => by omega)
def histErr (l : List Ev) : Int := if l.length > 200 then 2 else hist [] l
theorem check_val (l : List Ev) : clock_Check l = some (histErr l) := by
  unfold clock_Check histErr
  by_cases h : l.length > 200
  · rw [if_pos (by omega), if_pos h]
  · rw [if_neg (by omega), if_neg h]
    exact check_loop (by omega) l [] [] [] (fun _ => rfl) (fun _ => rfl) rfl
theorem within_val (x a b : Int) : roadref4_within x a b = some (decide (a ≤ x ∧ x ≤ b)) := by
  unfold roadref4_within
  by_cases h : x ≥ a
  · rw [if_pos h]; congr 1; exact decide_eq_decide.2 ⟨fun k => ⟨h, k⟩, fun k => k.2⟩
  · rw [if_neg h, decide_eq_false (fun k => h k.1)]
theorem hist1_val {l pre r : List Ev} {e : Ev} (hl : l.length ≤ 200) (he : l = pre ++ e :: r) (k : Int) : roadref4_History_1 k l (pre.length : Int) e = some (has k pre e.Msg) := by
  unfold roadref4_History_1
  rw [sls_take (k := pre.length) rfl (by rw [he]; simp), Option.bind_some]
  have ht : l.take pre.length = pre := by rw [he]; simp
  have hpl : pre.length ≤ 200 := by
    have : l.length = pre.length + (r.length + 1) := by rw [he]; simp
    omega
  rw [ht, slices_ContainsFunc_53.val (fun x => x.Kind == k && x.Msg == e.Msg) (fun x _ => ?_) (by omega), Option.bind_some]
  · rfl
  · unfold roadref4_History_1_1
    by_cases h : x.Kind = k
    · rw [if_pos h]; simp [h]
    · rw [if_neg h]; simp [h]
theorem hist_loop {l : List Ev} (hl : l.length ≤ 200) : ∀ (r pre : List Ev), l = pre ++ r → roadref4_History.l0 l l (l.length : Int) (pre.length : Int) = some (hist pre r) := by
  intro r
  induction r with
  | nil =>
    intro pre e
    rw [roadref4_History.l0_eq, if_neg (by rw [e]; simp)]; rfl
  | cons e r ih =>
    intro pre he
    have hlen : l.length = pre.length + (r.length + 1) := by rw [he]; simp
    have hn : roadref4_History.l0 l l (l.length : Int) (IntKind.wrap .i64 ((pre.length : Int) + 1)) = some (hist (pre ++ [e]) r) := by
      rw [w_succ (by omega)]
      have := ih (pre ++ [e]) (by simpa using he)
      simpa using this
    have hv := fun k => hist1_val hl he k
    rw [roadref4_History.l0_eq, if_pos (by omega), gi_some (k := pre.length) rfl (by rw [he]; simp : l[pre.length]? = some e), Option.bind_some, within_val, Option.bind_some]
    by_cases k1 : e.Kind < 1 ∨ e.Kind > 3
    · rw [if_neg (by simp; omega), hist_bad (c := 3) (by rw [stepErr, if_pos (by omega)]) (by decide)]
    rw [if_pos (by simp; omega), within_val, Option.bind_some]
    have hj0 : ∀ b, b = decide (e.Place < 0 ∨ e.Place > 7 ∨ (e.Kind ≠ 1 ∧ (e.Msg < 0 ∨ e.Msg > 999))) → roadref4_History.j0 l e (pre.length : Int) l (l.length : Int) (pre.length : Int) b = some (hist pre (e :: r)) := by
      rintro b rfl
      rw [roadref4_History.j0_eq]
      by_cases hb : e.Place < 0 ∨ e.Place > 7 ∨ (e.Kind ≠ 1 ∧ (e.Msg < 0 ∨ e.Msg > 999))
      · rw [decide_eq_true hb, if_pos rfl, hist_bad (c := 1) (by rw [stepErr, if_neg (by omega), if_pos hb]) (by decide)]
      rw [decide_eq_false hb, if_neg (by decide)]
      by_cases k2 : e.Kind = 2
      · rw [if_pos k2, hv, Option.bind_some, roadref4_History.j1_eq]
        by_cases hs : has 2 pre e.Msg = true
        · rw [if_pos hs, hist_bad (c := 5) (by rw [stepErr, if_neg (by omega), if_neg hb, if_pos k2, if_pos hs]) (by decide)]
        · rw [if_neg hs, if_neg (by omega), roadref4_History.j2_eq, if_neg (by decide), if_neg (by omega), hist_ok (by rw [stepErr, if_neg (by omega), if_neg hb, if_pos k2, if_neg hs])]; exact hn
      · rw [if_neg k2, roadref4_History.j1_eq, if_neg (by decide)]
        by_cases k3 : e.Kind = 3
        · rw [if_pos k3, hv, Option.bind_some, roadref4_History.j2_eq, if_pos k3, hv]
          by_cases hs : has 2 pre e.Msg = true
          · rw [hs, if_neg (by decide), Option.bind_some]
            by_cases ht : has 3 pre e.Msg = true
            · rw [if_pos ht, hist_bad (c := 5) (by rw [stepErr, if_neg (by omega), if_neg hb, if_neg k2, if_pos k3, if_pos hs, if_pos ht]) (by decide)]
            · rw [if_neg ht, hist_ok (by rw [stepErr, if_neg (by omega), if_neg hb, if_neg k2, if_pos k3, if_pos hs, if_neg ht])]; exact hn
          · rw [if_pos (by simpa using hs), hist_bad (c := 4) (by rw [stepErr, if_neg (by omega), if_neg hb, if_neg k2, if_pos k3, if_neg hs]) (by decide)]
        · rw [if_neg k3, roadref4_History.j2_eq, if_neg (by decide), if_neg k3, hist_ok (by rw [stepErr, if_neg (by omega), if_neg hb, if_neg k2, if_neg k3])]; exact hn
    by_cases hp : e.Place < 0 ∨ e.Place > 7
    · rw [decide_eq_false (by omega), if_neg (by decide)]
      exact hj0 _ (by rw [decide_eq_true (by omega)]; rfl)
    · rw [decide_eq_true (by omega), if_pos rfl]
      by_cases hk : e.Kind > 1
      · rw [if_pos hk, within_val, Option.bind_some]
        refine hj0 _ ?_
        rw [← decide_not]
        exact decide_eq_decide.2 ⟨fun h => .inr (.inr ⟨by omega, by omega⟩), fun h => by omega⟩
      · rw [if_neg hk]
        exact hj0 _ (by rw [decide_eq_false (by omega)])
theorem history_val (l : List Ev) : roadref4_History l = some (histErr l) := by
  unfold roadref4_History histErr
  by_cases h : l.length > 200
  · rw [if_pos (by omega), if_pos h]
  · rw [if_neg (by omega), if_neg h]
    exact hist_loop (by omega) l [] rfl
theorem hist_right : ∀ (r pre : List Ev), hist pre r = 0 → ∀ e ∈ r, 1 ≤ e.Kind ∧ e.Kind ≤ 3 ∧ 0 ≤ e.Place ∧ e.Place ≤ 7 ∧ (e.Kind ≠ 1 → 0 ≤ e.Msg ∧ e.Msg ≤ 999) := by
  intro r
  induction r with
  | nil => intro pre _ e he; cases he
  | cons x r ih =>
    intro pre h e he
    rw [hist_cons] at h
    by_cases hs : stepErr pre x = 0
    · rw [if_pos hs] at h
      rcases List.mem_cons.1 he with rfl | he
      · unfold stepErr at hs
        by_cases k1 : e.Kind < 1 ∨ e.Kind > 3
        · rw [if_pos k1] at hs; omega
        rw [if_neg k1] at hs
        by_cases k2 : e.Place < 0 ∨ e.Place > 7 ∨ (e.Kind ≠ 1 ∧ (e.Msg < 0 ∨ e.Msg > 999))
        · rw [if_pos k2] at hs; omega
        omega
      · exact ih _ h e he
    · rw [if_neg hs] at h; exact absurd h hs
theorem histErr_right {l : List Ev} (h : histErr l = 0) : l.length ≤ 200 ∧ ∀ e ∈ l, 1 ≤ e.Kind ∧ e.Kind ≤ 3 ∧ 0 ≤ e.Place ∧ e.Place ≤ 7 ∧ (e.Kind ≠ 1 → 0 ≤ e.Msg ∧ e.Msg ≤ 999) := by
  unfold histErr at h
  by_cases hl : l.length > 200
  · rw [if_pos hl] at h; omega
  · rw [if_neg hl] at h; exact ⟨by omega, hist_right _ _ h⟩
def ev (l : List Ev) (k : Nat) : Ev := (l[k]?).getD ⟨0, 0, 0⟩
abbrev pl (l : List Ev) (k : Nat) : Int := (ev l k).Place
def Dir (a b : Ev) : Prop := b.Place = a.Place ∨ (a.Kind = 3 ∧ b.Kind = 2 ∧ b.Msg = a.Msg)
inductive Pst (l : List Ev) : Nat → Nat → Prop
  | base {i j : Nat} : j < i → Dir (ev l i) (ev l j) → Pst l i j
  | step {i j k : Nat} : j < i → Dir (ev l i) (ev l j) → Pst l j k → Pst l i k
def DS (l : List Ev) (i k : Nat) : Prop := k = i ∨ Pst l i k
theorem pst_iff {l : List Ev} {i k : Nat} : Pst l i k ↔ ∃ j, j < i ∧ Dir (ev l i) (ev l j) ∧ DS l j k := by
  constructor
  · intro h
    cases h with
    | base a b => exact ⟨_, a, b, .inl rfl⟩
    | step a b c => exact ⟨_, a, b, .inr c⟩
  · rintro ⟨j, a, b, rfl | c⟩
    · exact .base a b
    · exact .step a b c
theorem Pst.lt {l : List Ev} {i k : Nat} (h : Pst l i k) : k < i := by
  induction h with
  | base a _ => exact a
  | step a _ _ ih => omega
def Dc (l : List Ev) (A : Nat → Prop) : Prop := ∀ k k', A k → k' < k → pl l k' = pl l k → A k'
open Classical in
noncomputable def cn (l : List Ev) (A : Nat → Prop) (q : Int) : Nat := (List.range l.length).countP fun k => decide (A k ∧ pl l k = q)
theorem cn_le {l : List Ev} {A B : Nat → Prop} {q : Int} (h : ∀ k, A k → pl l k = q → B k) : cn l A q ≤ cn l B q := by
  unfold cn
  refine List.countP_mono_left fun k _ hk => ?_
  simp only [decide_eq_true_eq] at hk ⊢
  exact ⟨h k hk.1 hk.2, hk.2⟩
theorem cn_eq {l : List Ev} {A B : Nat → Prop} {q : Int} (h : ∀ k, pl l k = q → (A k ↔ B k)) : cn l A q = cn l B q :=
  Nat.le_antisymm (cn_le fun k a b => (h k b).1 a) (cn_le fun k a b => (h k b).2 a)
theorem cn_bound {l : List Ev} {A : Nat → Prop} {q : Int} : cn l A q ≤ l.length := by
  unfold cn; exact Nat.le_trans List.countP_le_length (by simp)
theorem countP_add {p q : Nat → Bool} {i : Nat} (hq : q i = true) (hp : p i = false) (h : ∀ k, k ≠ i → q k = p k) : ∀ (n : Nat), i < n → (List.range n).countP q = (List.range n).countP p + 1 := by
  intro n
  induction n with
  | zero => intro h; omega
  | succ n ih =>
    intro hi
    rw [List.range_succ, List.countP_append, List.countP_append]
    simp only [List.countP_cons, List.countP_nil]
    by_cases hn : i < n
    · rw [ih hn, h n (by omega)]; omega
    · have : i = n := by omega
      subst this
      rw [hq, hp]
      have : (List.range i).countP q = (List.range i).countP p := by
        refine List.countP_congr fun k hk => ?_
        rw [h k (by have := List.mem_range.1 hk; omega)]
      rw [this]; simp
theorem cn_add {l : List Ev} {A B : Nat → Prop} {i : Nat} (hi : i < l.length) (hb : B i) (ha : ¬ A i) (h : ∀ k, k ≠ i → pl l k = pl l i → (B k ↔ A k)) : cn l B (pl l i) = cn l A (pl l i) + 1 := by
  unfold cn
  refine countP_add (i := i) (by simp [hb]) (by simp [ha]) (fun k hk => ?_) _ hi
  refine decide_eq_decide.2 ⟨fun g => ⟨(h k hk g.2).1 g.1, g.2⟩, fun g => ⟨(h k hk g.2).2 g.1, g.2⟩⟩
noncomputable def Row (l : List Ev) (A : Nat → Prop) : List Int := (List.range 8).map fun (q : Nat) => ((cn l A (q : Int) : Nat) : Int)
theorem row_len {l : List Ev} {A : Nat → Prop} : (Row l A).length = 8 := by simp [Row]
theorem row_at {l : List Ev} {A : Nat → Prop} {q : Nat} (h : q < 8) : (Row l A)[q]? = some (cn l A (q : Int) : Int) := by
  unfold Row; rw [List.getElem?_map, List.getElem?_range h]; rfl
theorem row_ext {l : List Ev} {A B : Nat → Prop} (h : ∀ k, A k ↔ B k) : Row l A = Row l B := by
  have : A = B := funext fun k => propext (h k)
  rw [this]
theorem row_none {l : List Ev} {A : Nat → Prop} (h : ∀ k, ¬ A k) : Row l A = List.replicate 8 0 := by
  have : ∀ q, cn l A q = 0 := fun q => by unfold cn; exact List.countP_eq_zero.2 fun k _ => by simp [h k]
  unfold Row
  simp only [this]
  rfl
theorem row_set {l : List Ev} {A B : Nat → Prop} {i p : Nat} (hi : i < l.length) (hp : pl l i = p) (h8 : p < 8) (ha : ¬ A i) (hb : ∀ k, B k ↔ A k ∨ k = i) :
    (Row l A).set p ((cn l A (p : Int) : Int) + 1) = Row l B := by
  refine List.ext_getElem? fun q => ?_
  by_cases hq : q < 8
  · rw [row_at hq, List.getElem?_set]
    by_cases he : p = q
    · subst he
      rw [if_pos rfl, if_pos (by rw [row_len]; exact hq), ← hp, cn_add (A := A) (B := B) hi ((hb i).2 (.inr rfl)) ha (fun k hk _ => ⟨fun g => ((hb k).1 g).resolve_right hk, fun g => (hb k).2 (.inl g)⟩)]
      rfl
    · rw [if_neg he, row_at hq, cn_eq (A := B) (B := A) fun k hk => ⟨fun g => ((hb k).1 g).resolve_right (fun e => he (by subst e; omega)), fun g => (hb k).2 (.inl g)⟩]
  · rw [List.getElem?_eq_none (by simp [row_len]; omega), List.getElem?_eq_none (by rw [row_len]; omega)]
def Val (l : List Ev) : Prop := l.length ≤ 200 ∧ (∀ i, i < l.length → 0 ≤ pl l i ∧ pl l i ≤ 7) ∧ ∀ i j, i < l.length → j < i → (ev l i).Kind = 2 → (ev l j).Kind = 2 → (ev l j).Msg ≠ (ev l i).Msg
theorem hist_step : ∀ (a pre : List Ev) {e : Ev} {b : List Ev}, hist pre (a ++ e :: b) = 0 → stepErr (pre ++ a) e = 0 := by
  intro a
  induction a with
  | nil =>
    intro pre e b h
    rw [List.nil_append, hist_cons] at h
    rw [List.append_nil]
    by_cases hs : stepErr pre e = 0
    · exact hs
    · rw [if_neg hs] at h; exact absurd h hs
  | cons x a ih =>
    intro pre e b h
    rw [List.cons_append, hist_cons] at h
    by_cases hs : stepErr pre x = 0
    · rw [if_pos hs] at h
      have := ih _ h
      simpa using this
    · rw [if_neg hs] at h; exact absurd h hs
theorem ev_some {l : List Ev} {i : Nat} (h : i < l.length) : l[i]? = some (ev l i) := by unfold ev; rw [List.getElem?_eq_getElem h]; rfl
theorem val_of {l : List Ev} (h : histErr l = 0) : Val l := by
  obtain ⟨hl, hr⟩ := histErr_right h
  refine ⟨hl, fun i hi => ?_, fun i j hi hj k2 k2' hm => ?_⟩
  · have := hr (ev l i) (List.mem_of_getElem? (ev_some hi))
    exact ⟨this.2.2.1, this.2.2.2.1⟩
  · unfold histErr at h
    rw [if_neg (by omega)] at h
    have hs : l = l.take i ++ ev l i :: l.drop (i + 1) := by
      have h2 : l.drop i = ev l i :: l.drop (i + 1) := by
        rw [List.drop_eq_getElem_cons hi]
        have := ev_some hi
        rw [List.getElem?_eq_getElem hi] at this
        rw [Option.some.inj this]
      rw [← h2, List.take_append_drop]
    rw [hs] at h
    have h3 := hist_step _ _ h
    rw [List.nil_append] at h3
    obtain ⟨r1, r2, r3, r4, r5⟩ := hr (ev l i) (List.mem_of_getElem? (ev_some hi))
    have r5' := r5 (by omega)
    unfold stepErr at h3
    rw [if_neg (by omega), if_neg (by omega), if_pos k2] at h3
    have : has 2 (l.take i) (ev l i).Msg = true := by
      unfold has
      refine List.any_eq_true.2 ⟨ev l j, List.mem_of_getElem? (i := j) (by rw [List.getElem?_take_of_lt hj]; exact ev_some (by omega)), ?_⟩
      simp [k2', hm]
    rw [if_pos this] at h3
    exact absurd h3 (by decide)
noncomputable def pd (p : Prop) : Bool := @decide p (Classical.propDecidable p)
theorem pd_iff {p : Prop} : pd p = true ↔ p := @decide_eq_true_iff p (Classical.propDecidable p)
theorem pd_t {p : Prop} (h : p) : pd p = true := pd_iff.2 h
theorem pd_f {p : Prop} (h : ¬ p) : pd p = false := Bool.eq_false_iff.2 fun g => h (pd_iff.1 g)
theorem pd_eq {p q : Prop} (h : p ↔ q) : pd p = pd q := Bool.eq_iff_iff.2 (pd_iff.trans (h.trans pd_iff.symm))
noncomputable def PR (l : List Ev) (i : Nat) : List Bool := (List.range l.length).map fun k => pd (Pst l i k)
noncomputable def Ps (l : List Ev) : List (List Bool) := (List.range l.length).map (PR l)
theorem pr_len {l : List Ev} {i : Nat} : (PR l i).length = l.length := by simp [PR]
theorem pr_at {l : List Ev} {i k : Nat} (h : k < l.length) : (PR l i)[k]? = some (pd (Pst l i k)) := by
  unfold PR; rw [List.getElem?_map, List.getElem?_range h]; rfl
theorem ps_at {l : List Ev} {i : Nat} (h : i < l.length) : (Ps l)[i]? = some (PR l i) := by
  unfold Ps; rw [List.getElem?_map, List.getElem?_range h]; rfl
def IsR (l : List Ev) (row : List Bool) (R : Nat → Prop) : Prop := row.length = l.length ∧ ∀ k, k < l.length → row[k]? = some (pd (R k))
theorem IsR.set {l : List Ev} {row : List Bool} {R R' : Nat → Prop} {k0 : Nat} {b : Bool} (h : IsR l row R) (hb : b = true ↔ R' k0) (hr : ∀ k, k ≠ k0 → (R' k ↔ R k)) : IsR l (row.set k0 b) R' := by
  refine ⟨by rw [List.length_set]; exact h.1, fun k hk => ?_⟩
  rw [List.getElem?_set]
  by_cases he : k0 = k
  · subst he
    rw [if_pos rfl, if_pos (by rw [h.1]; exact hk)]
    congr 1
    exact Bool.eq_iff_iff.2 (hb.trans pd_iff.symm)
  · rw [if_neg he, h.2 k hk, pd_eq (hr k (Ne.symm he))]
theorem IsR.ext {l : List Ev} {row : List Bool} {R R' : Nat → Prop} (h : IsR l row R) (e : ∀ k, R k ↔ R' k) : IsR l row R' := by
  have : R = R' := funext fun k => propext (e k)
  rw [← this]; exact h
theorem IsR.pr {l : List Ev} {row : List Bool} {i : Nat} (h : IsR l row (Pst l i)) : row = PR l i := by
  refine List.ext_getElem? fun k => ?_
  by_cases hk : k < l.length
  · rw [h.2 k hk, pr_at hk]
  · rw [List.getElem?_eq_none (by rw [h.1]; omega), List.getElem?_eq_none (by rw [pr_len]; omega)]
def Rows (l : List Ev) (i : Nat) (a : List (List Bool)) (R : Nat → Prop) : Prop := a.length = l.length ∧ (∀ j, j < i → a[j]? = some (PR l j)) ∧ ∃ row, a[i]? = some row ∧ IsR l row R
theorem rows_set {l : List Ev} {i : Nat} {a : List (List Bool)} {R R' : Nat → Prop} {row' : List Bool} (h : Rows l i a R) (hi : i < l.length) (hr : IsR l row' R') : Rows l i (a.set i row') R' := by
  refine ⟨by rw [List.length_set]; exact h.1, fun j hj => ?_, row', ?_, hr⟩
  · rw [List.getElem?_set, if_neg (by omega)]; exact h.2.1 j hj
  · rw [List.getElem?_set, if_pos rfl, if_pos (by rw [h.1]; exact hi)]
theorem past_l2 {l : List Ev} (hL : l.length ≤ 200) {i j : Nat} (hj : j < i) (hi : i < l.length) (e : Ev) {R : Nat → Prop} {r : Option (List (List Bool))}
    (K : ∀ a, Rows l i a (fun k => R k ∨ Pst l j k) → roadref4_Past.j0 l a (i : Int) e (j : Int) l (l.length : Int) (i : Int) = r) : ∀ (d q : Nat) (a : List (List Bool)), q + d = l.length →
    Rows l i a (fun k => R k ∨ (k < q ∧ Pst l j k)) → roadref4_Past.l2 l a (i : Int) e (j : Int) l (l.length : Int) (i : Int) (l.length : Int) (q : Int) (j : Int) (PR l j) = r := by
  intro d
  induction d with
  | zero =>
    intro q a hq h
    rw [roadref4_Past.l2_eq, if_neg (by omega)]
    refine K a ⟨h.1, h.2.1, ?_⟩
    obtain ⟨row, h1, h2⟩ := h.2.2
    refine ⟨row, h1, h2.ext fun k => ⟨fun g => g.imp id And.right, fun g => g.imp id fun g => ⟨by have := g.lt; omega, g⟩⟩⟩
  | succ d ih =>
    intro q a hq h
    obtain ⟨row, h1, h2⟩ := h.2.2
    rw [roadref4_Past.l2_eq, if_pos (by omega), gi_some (k := q) rfl (pr_at (by omega)), Option.bind_some, gi_some (k := i) rfl h1, Option.bind_some, Option.bind_some, gi_some (k := q) rfl (h2.2 q (by omega)), Option.bind_some]
    have go : ∀ b : Bool, (b = true ↔ (R q ∨ (q < q + 1 ∧ Pst l j q))) → roadref4_Past.l2 l (a.set i (row.set q b)) (i : Int) e (j : Int) l (l.length : Int) (i : Int) (l.length : Int) ((q + 1 : Nat) : Int) (j : Int) (PR l j) = r := by
      intro b hb
      refine ih (q + 1) _ (by omega) (rows_set h hi (h2.set hb fun k hk => ?_))
      exact ⟨fun g => g.imp id fun g => ⟨by omega, g.2⟩, fun g => g.imp id fun g => ⟨by omega, g.2⟩⟩
    rw [w_succ (by omega)]
    simp only [Int.toNat_natCast]
    by_cases hr : R q ∨ (q < q ∧ Pst l j q)
    · rw [pd_t hr, if_pos rfl, Option.bind_some, Option.bind_some, if_pos (by omega)]
      exact go true ⟨fun _ => hr.imp id fun g => ⟨by omega, g.2⟩, fun _ => rfl⟩
    · rw [pd_f hr, if_neg (by decide), Option.bind_some, Option.bind_some, if_pos (by omega)]
      refine go _ (pd_iff.trans ⟨fun g => .inr ⟨by omega, g⟩, fun g => g.elim (fun g => absurd (.inl g) hr) And.right⟩)
theorem past_l1 {l : List Ev} (hL : l.length ≤ 200) {i : Nat} (hi : i < l.length) {r : Option (List (List Bool))}
    (K : ∀ a, Rows l i a (Pst l i) → roadref4_Past.l0 l a l (l.length : Int) ((i + 1 : Nat) : Int) = r) : ∀ (n : Nat) (a : List (List Bool)), n ≤ i →
    Rows l i a (fun k => ∃ j, n ≤ j ∧ j < i ∧ Dir (ev l i) (ev l j) ∧ DS l j k) → roadref4_Past.l1 l a (i : Int) (ev l i) ((n : Int) - 1) l (l.length : Int) (i : Int) = r := by
  intro n
  induction n with
  | zero =>
    intro a hn h
    rw [roadref4_Past.l1_eq, if_neg (by omega), w_succ (by omega)]
    refine K a ⟨h.1, h.2.1, ?_⟩
    obtain ⟨row, h1, h2⟩ := h.2.2
    exact ⟨row, h1, h2.ext fun k => ⟨fun ⟨j, _, g⟩ => pst_iff.2 ⟨j, g⟩, fun g => by obtain ⟨j, g⟩ := pst_iff.1 g; exact ⟨j, by omega, g⟩⟩⟩
  | succ n ih =>
    intro a hn h
    rw [roadref4_Past.l1_eq, show ((n + 1 : Nat) : Int) - 1 = (n : Int) by omega, if_pos (by omega), gi_some (k := n) rfl (ev_some (by omega)), Option.bind_some]
    have no : ¬ Dir (ev l i) (ev l n) → roadref4_Past.j1 l a (i : Int) (ev l i) (n : Int) l (l.length : Int) (i : Int) false = r := by
      intro hd
      rw [roadref4_Past.j1_eq, if_neg (by decide), roadref4_Past.j0_eq, wrap_in (by omega) (by omega)]
      refine ih a (by omega) ⟨h.1, h.2.1, ?_⟩
      obtain ⟨row, h1, h2⟩ := h.2.2
      refine ⟨row, h1, h2.ext fun k => ⟨fun ⟨j, a, b⟩ => ⟨j, by omega, b⟩, fun ⟨j, a, b, c, d⟩ => ⟨j, ?_, b, c, d⟩⟩⟩
      have : j ≠ n := fun e => hd (by rw [← e]; exact c)
      omega
    have yes : Dir (ev l i) (ev l n) → roadref4_Past.j1 l a (i : Int) (ev l i) (n : Int) l (l.length : Int) (i : Int) true = r := by
      intro hd
      obtain ⟨row, h1, h2⟩ := h.2.2
      have h3 := rows_set h hi (h2.set (k0 := n) (b := true) (R' := fun k => k = n ∨ ∃ j, n + 1 ≤ j ∧ j < i ∧ Dir (ev l i) (ev l j) ∧ DS l j k) ⟨fun _ => .inl rfl, fun _ => rfl⟩ fun k hk => ⟨fun g => g.resolve_left hk, .inr⟩)
      rw [roadref4_Past.j1_eq, if_pos rfl, gi_some (k := i) rfl h1, Option.bind_some, gi_some (k := n) rfl (h2.2 n (by omega)), Option.bind_some, Option.bind_some]
      simp only [Int.toNat_natCast]
      rw [gi_some (k := n) rfl (h3.2.1 n (by omega)), Option.bind_some, pr_len]
      refine past_l2 hL (by omega) hi (ev l i) (fun a' h' => ?_) l.length 0 _ (by omega) (R := fun k => k = n ∨ ∃ j, n + 1 ≤ j ∧ j < i ∧ Dir (ev l i) (ev l j) ∧ DS l j k) ?_
      · rw [roadref4_Past.j0_eq, wrap_in (by omega) (by omega)]
        refine ih a' (by omega) ⟨h'.1, h'.2.1, ?_⟩
        obtain ⟨row', g1, g2⟩ := h'.2.2
        refine ⟨row', g1, g2.ext fun k => ⟨fun g => ?_, fun ⟨j, a, b, c, d⟩ => ?_⟩⟩
        · rcases g with (g | ⟨j, a, b⟩) | g
          · exact ⟨n, by omega, by omega, hd, .inl g⟩
          · exact ⟨j, by omega, b⟩
          · exact ⟨n, by omega, by omega, hd, .inr g⟩
        · by_cases he : j = n
          · subst he
            rcases d with d | d
            · exact .inl (.inl d)
            · exact .inr d
          · exact .inl (.inr ⟨j, by omega, b, c, d⟩)
      · refine ⟨h3.1, h3.2.1, ?_⟩
        obtain ⟨row', g1, g2⟩ := h3.2.2
        exact ⟨row', g1, g2.ext fun k => ⟨.inl, fun g => g.elim id fun g => absurd g.1 (by omega)⟩⟩
    by_cases p1 : (ev l n).Place = (ev l i).Place
    · rw [if_pos p1]; exact yes (.inl p1)
    rw [if_neg p1]
    by_cases p2 : (ev l i).Kind = 3
    · rw [if_pos p2]
      by_cases p3 : (ev l n).Kind = 2
      · rw [if_pos p3]
        by_cases p4 : (ev l n).Msg = (ev l i).Msg
        · rw [beq_iff_eq.2 p4]; exact yes (.inr ⟨p2, p3, p4⟩)
        · rw [beq_eq_false_iff_ne.2 p4]; exact no (fun h => h.elim p1 fun h => p4 h.2.2)
      · rw [if_neg p3]; exact no (fun h => h.elim p1 fun h => p3 h.2.1)
    · rw [if_neg p2]; exact no (fun h => h.elim p1 fun h => p2 h.1)
theorem past_loop {l : List Ev} (hL : l.length ≤ 200) : ∀ (d i : Nat) (a : List (List Bool)), i + d = l.length → a.length = l.length → (∀ j, j < i → a[j]? = some (PR l j)) → roadref4_Past.l0 l a l (l.length : Int) (i : Int) = some (Ps l) := by
  intro d
  induction d with
  | zero =>
    intro i a hi hl ha
    rw [roadref4_Past.l0_eq, if_neg (by omega)]
    congr 1
    refine List.ext_getElem? fun k => ?_
    by_cases hk : k < l.length
    · rw [ha k (by omega), ps_at hk]
    · rw [List.getElem?_eq_none (by omega), List.getElem?_eq_none (by simp [Ps]; omega)]
  | succ d ih =>
    intro i a hi hl ha
    have hlt : i < l.length := by omega
    rw [roadref4_Past.l0_eq, if_pos (by omega), gi_some (k := i) rfl (ev_some hlt), Option.bind_some, mks_of (k := l.length) rfl (by omega) (by omega), Option.bind_some, gi_at (by omega), Option.bind_some, Option.bind_some, wrap_in (by omega) (by omega), Int.toNat_natCast]
    refine past_l1 hL hlt (fun a' h' => ?_) i _ (Nat.le_refl _) ⟨by simpa using hl, fun j hj => ?_, List.replicate l.length false, ?_, by rw [List.length_replicate], fun k hk => ?_⟩
    · refine ih (i + 1) a' (by omega) h'.1 fun j hj => ?_
      by_cases he : j = i
      · subst he
        obtain ⟨row, g1, g2⟩ := h'.2.2
        rw [g1, g2.pr]
      · exact h'.2.1 j (by omega)
    · rw [List.getElem?_set, if_neg (by omega)]; exact ha j hj
    · rw [List.getElem?_set, if_pos rfl, if_pos (by omega)]
    · rw [List.getElem?_replicate, if_pos hk, pd_f]
      rintro ⟨j, a, b, _⟩; omega
theorem past_val {l : List Ev} (hL : l.length ≤ 200) : roadref4_Past l = some (Ps l) := by
  unfold roadref4_Past
  rw [mks_of (k := l.length) rfl (by omega) (by omega), Option.bind_some]
  exact past_loop hL l.length 0 _ (by omega) (by simp) (fun j h => absurd h (by omega))
theorem gi_ev {l : List Ev} {i : Nat} (h : i < l.length) : gi l (i : Int) = some (ev l i) := by rw [gi_nat]; exact ev_some h
theorem gi_row {l : List Ev} {A : Nat → Prop} {q : Nat} (h : q < 8) : gi (Row l A) (q : Int) = some (cn l A (q : Int) : Int) := by rw [gi_nat]; exact row_at h
def cq (a : List Int) (q : Nat) : Int := (a[q]?).getD 0
theorem gi_cq {a : List Int} (h8 : a.length = 8) {q : Nat} (h : q < 8) : gi a (q : Int) = some (cq a q) := by
  rw [gi_nat]; unfold cq; rw [List.getElem?_eq_getElem (by omega)]; rfl
abbrev bef (i : Nat) : Nat → Prop := fun j => j < i
theorem pl_nat {l : List Ev} (v : Val l) {i : Nat} (hi : i < l.length) : ∃ p : Nat, pl l i = (p : Int) ∧ p < 8 := by
  obtain ⟨h1, h2⟩ := v.2.1 i hi
  obtain ⟨p, hp⟩ := Int.eq_ofNat_of_zero_le h1
  exact ⟨p, hp, by omega⟩
theorem row_bef {l : List Ev} {i p : Nat} (hi : i < l.length) (hp : pl l i = p) (h8 : p < 8) : (Row l (bef i)).set p ((cn l (bef i) (p : Int) : Int) + 1) = Row l (bef (i + 1)) :=
  row_set hi hp h8 (fun h => Nat.lt_irrefl _ h) fun k => by show k < i + 1 ↔ k < i ∨ k = i; omega
theorem cn_bef {l : List Ev} {i p : Nat} (hi : i < l.length) (hp : pl l i = p) : cn l (bef (i + 1)) (p : Int) = cn l (bef i) (p : Int) + 1 := by
  rw [← hp]
  exact cn_add (i := i) hi (show i < i + 1 by omega) (fun h => Nat.lt_irrefl _ h) fun k hk _ => by show k < i + 1 ↔ k < i; omega
theorem cn_bef_ne {l : List Ev} {i : Nat} {q : Int} (hp : pl l i ≠ q) : cn l (bef (i + 1)) q = cn l (bef i) q := cn_eq fun k hk => by
  show k < i + 1 ↔ k < i
  constructor
  · intro h
    by_cases e : k = i
    · subst e; exact absurd hk hp
    · omega
  · intro h; omega
def In (l : List Ev) (a : List Int) (k : Nat) : Prop := k < l.length ∧ (cn l (bef k) (pl l k) : Int) < cq a (pl l k).toNat
noncomputable def BR (l : List Ev) (R : Nat → Prop) : List Bool := (List.range l.length).map fun k => pd (R k)
theorem IsR.br {l : List Ev} {row : List Bool} {R : Nat → Prop} (h : IsR l row R) : row = BR l R := by
  refine List.ext_getElem? fun k => ?_
  rcases Nat.lt_or_ge k l.length with g | g
  · rw [h.2 k g]; unfold BR; rw [List.getElem?_map, List.getElem?_range g]; rfl
  · rw [List.getElem?_eq_none (by rw [h.1]; exact g), List.getElem?_eq_none (by unfold BR; simpa using g)]
theorem br_gi {l : List Ev} {R : Nat → Prop} {k : Nat} (h : k < l.length) : gi (BR l R) (k : Int) = some (pd (R k)) := by
  rw [gi_nat]; unfold BR; rw [List.getElem?_map, List.getElem?_range h]; rfl
section
variable {l : List Ev} (v : Val l)
include v
theorem counts_l0 : ∀ (d i : Nat), i + d = l.length → cut_counts.l0 (Row l (bef i)) l (l.length : Int) (i : Int) = some (Row l (bef l.length)) := by
  intro d
  have hN := v.1
  induction d with
  | zero =>
    intro i hi
    have : i = l.length := by omega
    subst this
    rw [cut_counts.l0_eq, if_neg (by omega)]
  | succ d ih =>
    intro i hi
    have hlt : i < l.length := by omega
    obtain ⟨p, hp, h8⟩ := pl_nat v hlt
    have hc := cn_bound (l := l) (A := bef i) (q := (p : Int))
    rw [cut_counts.l0_eq, if_pos (by omega), gi_ev hlt, Option.bind_some, show (ev l i).Place = (p : Int) from hp, gi_row h8, Option.bind_some, Option.bind_some, Option.bind_some, wrap_in (by omega) (by omega), w_succ (by omega), show Int.toNat (p : Int) = p from rfl, row_bef hlt hp h8]
    exact ih (i + 1) (by omega)
theorem counts_val : cut_counts l = some (Row l (bef l.length)) := by
  unfold cut_counts
  rw [mks_of (k := 8) (x := 8) rfl (by omega) (by omega), Option.bind_some]
  have := counts_l0 v l.length 0 (by omega)
  rw [row_none (A := bef 0) fun k h => Nat.not_lt_zero _ h, show ((0 : Nat) : Int) = 0 from rfl] at this
  exact this
theorem inside_l0 {a : List Int} (h8a : a.length = 8) : ∀ (d i : Nat) (row : List Bool), i + d = l.length → IsR l row (fun k => k < i ∧ In l a k) → cut_inside.l0 a (Row l (bef i)) row l (l.length : Int) (i : Int) = some (BR l (In l a)) := by
  intro d
  have hN := v.1
  induction d with
  | zero =>
    intro i row hi h
    rw [cut_inside.l0_eq, if_neg (by omega), (h.ext (R' := In l a) fun k => ⟨fun g => g.2, fun g => ⟨by have := g.1; omega, g⟩⟩).br]
  | succ d ih =>
    intro i row hi h
    have hlt : i < l.length := by omega
    obtain ⟨p, hp, h8⟩ := pl_nat v hlt
    have hc := cn_bound (l := l) (A := bef i) (q := (p : Int))
    have hrow : gi row (i : Int) = some (pd (i < i ∧ In l a i)) := by rw [gi_nat]; exact h.2 i hlt
    rw [cut_inside.l0_eq, if_pos (by omega), gi_ev hlt, Option.bind_some, show (ev l i).Place = (p : Int) from hp, gi_row h8, Option.bind_some, Option.bind_some, Option.bind_some, wrap_in (by omega) (by omega), show Int.toNat (p : Int) = p from rfl, row_bef hlt hp h8, gi_row h8, Option.bind_some, gi_cq h8a h8, Option.bind_some, hrow, Option.bind_some, Option.bind_some, w_succ (by omega), cn_bef hlt hp, show Int.toNat (i : Int) = i from rfl]
    refine ih (i + 1) _ (by omega) (h.set (k0 := i) ?_ fun k hk => ?_)
    · rw [decide_eq_true_eq]
      have hin : In l a i ↔ (cn l (bef i) (p : Int) : Int) < cq a p := by
        unfold In; rw [hp]; exact ⟨fun g => g.2, fun g => ⟨hlt, g⟩⟩
      rw [hin]; constructor
      · intro g; exact ⟨by omega, by omega⟩
      · intro g; have := g.2; omega
    · exact ⟨fun g => ⟨by have := g.1; omega, g.2⟩, fun g => ⟨by have := g.1; omega, g.2⟩⟩
theorem inside_val {a : List Int} (h8a : a.length = 8) : cut_inside l a = some (BR l (In l a)) := by
  unfold cut_inside
  have hN := v.1
  rw [mks_of rfl (by omega) (by omega), Option.bind_some]
  have := inside_l0 v h8a l.length 0 (List.replicate l.length false) (by omega) ⟨by simp, fun k hk => by rw [List.getElem?_replicate, if_pos hk, pd_f (fun h => Nat.not_lt_zero _ h.1)]⟩
  rw [row_none (A := bef 0) fun k h => Nat.not_lt_zero _ h, show ((0 : Nat) : Int) = 0 from rfl] at this
  exact this
omit v in
theorem pgdb_set {es : List (Int × Bool)} {k q : Int} {x : Bool} : pgd (pset es k x) q false = if q = k then x else pgd es q false := by
  unfold pgd; rw [pget_pset]; split <;> rfl
def Snt (l : List Ev) (R : Nat → Prop) (i : Nat) (m : Int) : Prop := ∃ j, j < i ∧ (ev l j).Kind = 2 ∧ (ev l j).Msg = m ∧ R j
def okw (l : List Ev) (R : Nat → Prop) (k : Nat) : Prop := R k → (ev l k).Kind = 3 → Snt l R k (ev l k).Msg
theorem snt_self {R : Nat → Prop} {i : Nat} (hi : i < l.length) (h2 : (ev l i).Kind = 2) : Snt l R (i + 1) (ev l i).Msg ↔ R i := by
  constructor
  · rintro ⟨j, j1, j2, j3, j4⟩
    by_cases e : j = i
    · subst e; exact j4
    · exact absurd j3 (v.2.2 i j hi (by omega) h2 j2)
  · intro h; exact ⟨i, by omega, h2, rfl, h⟩
omit v in
theorem snt_other {R : Nat → Prop} {i : Nat} {m : Int} (h : (ev l i).Kind ≠ 2 ∨ (ev l i).Msg ≠ m) : Snt l R (i + 1) m ↔ Snt l R i m := by
  constructor
  · rintro ⟨j, j1, j2, j3, j4⟩
    by_cases e : j = i
    · subst e; exact h.elim (fun h => absurd j2 h) fun h => absurd j3 h
    · exact ⟨j, by omega, j2, j3, j4⟩
  · rintro ⟨j, j1, j2⟩; exact ⟨j, by omega, j2⟩
theorem es_next {R : Nat → Prop} {i : Nat} (hi : i < l.length) {es : List (Int × Bool)} (he : ∀ m, pgd es m false = true ↔ Snt l R i m) : ∀ es', es' = (if (ev l i).Kind = 2 then pset es (ev l i).Msg (pd (R i)) else es) → ∀ m, pgd es' m false = true ↔ Snt l R (i + 1) m := by
  rintro es' rfl m
  by_cases c : (ev l i).Kind = 2
  · rw [if_pos c, pgdb_set]
    by_cases e : m = (ev l i).Msg
    · rw [if_pos e, pd_iff, e, snt_self v hi c]
    · rw [if_neg e, he, snt_other (.inr fun h => e h.symm)]
  · rw [if_neg c, he, snt_other (.inl c)]
theorem whole_l0 {R : Nat → Prop} : ∀ (d i : Nat) (es : List (Int × Bool)), i + d = l.length → (∀ m, pgd es m false = true ↔ Snt l R i m) → cut_whole.l0 (BR l R) es l (l.length : Int) (i : Int) = some (pd (∀ k, i ≤ k → k < l.length → okw l R k)) := by
  intro d
  have hN := v.1
  induction d with
  | zero =>
    intro i es hi he
    rw [cut_whole.l0_eq, if_neg (by omega), pd_t fun k h1 h2 => by omega]
  | succ d ih =>
    intro i es hi he
    have hlt : i < l.length := by omega
    have hstep : okw l R i → pd (∀ k, i + 1 ≤ k → k < l.length → okw l R k) = pd (∀ k, i ≤ k → k < l.length → okw l R k) := fun h => pd_eq ⟨fun g k h1 h2 => by
      by_cases e : k = i
      · subst e; exact h
      · exact g k (by omega) h2, fun g k h1 h2 => g k (by omega) h2⟩
    have hj0 : ∀ es', es' = (if (ev l i).Kind = 2 then pset es (ev l i).Msg (pd (R i)) else es) → cut_whole.j0 (BR l R) es' (i : Int) (ev l i) l (l.length : Int) (i : Int) = some (pd (∀ k, i ≤ k → k < l.length → okw l R k)) := by
      intro es' hes
      have hn := es_next v hlt he es' hes
      rw [cut_whole.j0_eq]
      by_cases c : (ev l i).Kind = 3
      · rw [if_pos c, br_gi hlt, Option.bind_some]
        have hm : Snt l R (i + 1) (ev l i).Msg ↔ Snt l R i (ev l i).Msg := snt_other (.inl (by omega))
        by_cases g : R i
        · rw [if_pos (pd_t g)]
          by_cases q : Snt l R i (ev l i).Msg
          · rw [if_pos ((hn _).2 (hm.2 q)), w_succ (by omega), ih (i + 1) es' (by omega) hn, hstep fun _ _ => q]
          · rw [if_neg (fun h => q (hm.1 ((hn _).1 h))), pd_f fun h => q (h i (Nat.le_refl _) hlt g c)]
        · rw [if_neg (by rw [pd_f g]; exact Bool.false_ne_true), w_succ (by omega), ih (i + 1) es' (by omega) hn, hstep fun h => absurd h g]
      · rw [if_neg c, w_succ (by omega), ih (i + 1) es' (by omega) hn, hstep fun _ h => absurd h c]
    rw [cut_whole.l0_eq, if_pos (by omega), gi_ev hlt, Option.bind_some]
    by_cases c : (ev l i).Kind = 2
    · rw [if_pos c, br_gi hlt, Option.bind_some, Option.bind_some]; exact hj0 _ (by rw [if_pos c])
    · rw [if_neg c]; exact hj0 _ (by rw [if_neg c])
theorem whole_val {a : List Int} (h8a : a.length = 8) : cut_whole l a = some (pd (∀ k, k < l.length → okw l (In l a) k)) := by
  unfold cut_whole
  rw [inside_val v h8a, Option.bind_some]
  have := whole_l0 v (R := In l a) l.length 0 [] (by omega) (fun m => ⟨fun h => absurd h (by simp [pgd, pget]), fun ⟨j, h, _⟩ => absurd h (Nat.not_lt_zero _)⟩)
  rw [show ((0 : Nat) : Int) = 0 from rfl] at this
  rw [this]; congr 1
  exact pd_eq ⟨fun h k hk => h k (Nat.zero_le _) hk, fun h k _ hk => h k hk⟩
theorem in_dc {a : List Int} : Dc l (In l a) := fun k k' h hk hp => by
  refine ⟨by have := h.1; omega, ?_⟩
  rw [hp]
  have := h.2
  have h2 : cn l (bef k') (pl l k) ≤ cn l (bef k) (pl l k) := cn_le fun j (hj : j < k') _ => show j < k by omega
  omega
theorem past_in {R : Nat → Prop} (hd : Dc l R) (hw : ∀ k, k < l.length → okw l R k) {i k : Nat} (hi : i < l.length) (h : Pst l i k) (hR : R i) : R k := by
  have dir : ∀ {i j : Nat}, i < l.length → j < i → Dir (ev l i) (ev l j) → R i → R j := fun {i j} hi hj hdir hRi => by
    rcases hdir with g | ⟨g1, g2, g3⟩
    · exact hd i j hRi hj g
    · obtain ⟨j', a1, a2, a3, a4⟩ := hw i hi hRi g1
      by_cases e : j' = j
      · subst e; exact a4
      · rcases Nat.lt_or_ge j j' with q | q
        · exact absurd (g3.trans a3.symm) (v.2.2 j' j (by omega) q a2 g2)
        · exact absurd (a3.trans g3.symm) (v.2.2 j j' (by omega) (by omega) g2 a2)
  induction h with
  | base a b => exact dir hi a b hR
  | step a b _ ih => exact ih (by omega) (dir hi a b hR)
end
def VQ (l : List Ev) (a : List Int) (q : Nat) : Prop := 0 ≤ cq a q ∧ cq a q ≤ (cn l (bef l.length) (q : Int) : Int)
def VC (l : List Ev) (a : List Int) : Prop := a.length = 8 ∧ ∀ q, q < 8 → VQ l a q
structure Tks (l : List Ev) : Prop where
  sent : ∀ i, i < l.length → (ev l i).Kind = 3 → ∃ j, j < i ∧ (ev l j).Kind = 2 ∧ (ev l j).Msg = (ev l i).Msg
  once : ∀ i j, i < l.length → j < i → (ev l i).Kind = 3 → (ev l j).Kind = 3 → (ev l j).Msg ≠ (ev l i).Msg
theorem tks_of {l : List Ev} (h : histErr l = 0) : Tks l := by
  obtain ⟨hl, hr⟩ := histErr_right h
  have key : ∀ i, i < l.length → (ev l i).Kind = 3 → has 2 (l.take i) (ev l i).Msg = true ∧ ¬ has 3 (l.take i) (ev l i).Msg = true := by
    intro i hi k3
    unfold histErr at h
    rw [if_neg (by omega)] at h
    have hs : l = l.take i ++ ev l i :: l.drop (i + 1) := by
      have h2 : l.drop i = ev l i :: l.drop (i + 1) := by
        rw [List.drop_eq_getElem_cons hi]
        have := ev_some hi
        rw [List.getElem?_eq_getElem hi] at this
        rw [Option.some.inj this]
      rw [← h2, List.take_append_drop]
    rw [hs] at h
    have h3 := hist_step _ _ h
    rw [List.nil_append] at h3
    obtain ⟨r1, r2, r3, r4, r5⟩ := hr (ev l i) (List.mem_of_getElem? (ev_some hi))
    have r5' := r5 (by omega)
    unfold stepErr at h3
    rw [if_neg (by omega), if_neg (by omega), if_neg (by omega), if_pos k3] at h3
    by_cases a : has 2 (l.take i) (ev l i).Msg = true
    · refine ⟨a, fun b => ?_⟩
      rw [if_pos a, if_pos b] at h3; exact absurd h3 (by decide)
    · rw [if_neg a] at h3; exact absurd h3 (by decide)
  constructor
  · intro i hi k3
    have h1 := (key i hi k3).1
    unfold has at h1
    obtain ⟨x, x1, x2⟩ := List.any_eq_true.1 h1
    obtain ⟨j, hj, rfl⟩ := List.mem_iff_getElem.1 x1
    rw [List.length_take] at hj
    rw [List.getElem_take] at x2
    have e := ev_some (l := l) (i := j) (by omega)
    rw [List.getElem?_eq_getElem (by omega)] at e
    rw [Option.some.inj e] at x2
    simp only [Bool.and_eq_true, beq_iff_eq] at x2
    exact ⟨j, by omega, x2.1, x2.2⟩
  · intro i j hi hj k3 k3' hm
    apply (key i hi k3).2
    unfold has
    refine List.any_eq_true.2 ⟨ev l j, List.mem_of_getElem? (i := j) (by rw [List.getElem?_take_of_lt hj]; exact ev_some (by omega)), ?_⟩
    simp [k3', hm]
section
variable {l : List Ev}
theorem cn_in {a : List Int} {q : Nat} (h0 : 0 ≤ cq a q) (hq : q < 8) : ∀ n, n ≤ l.length → ((cn l (fun k => k < n ∧ In l a k) (q : Int) : Nat) : Int) = if (cn l (bef n) (q : Int) : Int) < cq a q then (cn l (bef n) (q : Int) : Int) else cq a q := by
  intro n
  induction n with
  | zero =>
    intro _
    have h1 : cn l (fun k => k < 0 ∧ In l a k) (q : Int) = 0 := by unfold cn; exact List.countP_eq_zero.2 fun k _ => by simp
    have h2 : cn l (bef 0) (q : Int) = 0 := by unfold cn; exact List.countP_eq_zero.2 fun k _ => by simp
    rw [h1, h2]; split <;> omega
  | succ n ih =>
    intro hn
    have ih := ih (by omega)
    by_cases e : pl l n = (q : Int)
    · have h2 : cn l (bef (n + 1)) (q : Int) = cn l (bef n) (q : Int) + 1 := cn_bef (by omega) e
      by_cases c : In l a n
      · have h1 : cn l (fun k => k < n + 1 ∧ In l a k) (pl l n) = cn l (fun k => k < n ∧ In l a k) (pl l n) + 1 := cn_add (i := n) (by omega) ⟨by omega, c⟩ (fun h => Nat.lt_irrefl _ h.1) fun k hk _ => ⟨fun g => ⟨by have := g.1; omega, g.2⟩, fun g => ⟨by have := g.1; omega, g.2⟩⟩
        rw [e] at h1
        have := c.2
        rw [e, show Int.toNat (q : Int) = q from rfl] at this
        rw [h1, h2]
        rw [if_pos this] at ih
        split <;> omega
      · have h1 : cn l (fun k => k < n + 1 ∧ In l a k) (q : Int) = cn l (fun k => k < n ∧ In l a k) (q : Int) := cn_eq fun k hk => ⟨fun g => ⟨by
          have := g.1
          by_cases e2 : k = n
          · subst e2; exact absurd g.2 c
          · omega, g.2⟩, fun g => ⟨by have := g.1; omega, g.2⟩⟩
        have : ¬ (cn l (bef n) (q : Int) : Int) < cq a q := fun g => c ⟨by omega, by rw [e, show Int.toNat (q : Int) = q from rfl]; exact g⟩
        rw [if_neg this] at ih
        rw [h1, h2, ih, if_neg (by omega)]
    · have h2 : cn l (bef (n + 1)) (q : Int) = cn l (bef n) (q : Int) := cn_bef_ne e
      have h1 : cn l (fun k => k < n + 1 ∧ In l a k) (q : Int) = cn l (fun k => k < n ∧ In l a k) (q : Int) := cn_eq fun k hk => ⟨fun g => ⟨by
          have := g.1
          by_cases e2 : k = n
          · subst e2; exact absurd hk e
          · omega, g.2⟩, fun g => ⟨by have := g.1; omega, g.2⟩⟩
      rw [h1, h2]; exact ih
end
theorem bit_all : ∀ n : Fin 1024, ∀ c : Fin 10, bitsI .and .i64 (shrI .i64 (n.1 : Int) (c.1 : Int)) 1 = if n.1.testBit c.1 = true then 1 else 0 := by decide +kernel
theorem bit_val {n c : Nat} (hn : n < 1024) (hc : c < 10) : bitsI .and .i64 (shrI .i64 (n : Int) (c : Int)) 1 = if n.testBit c = true then 1 else 0 := bit_all ⟨n, hn⟩ ⟨c, hc⟩
theorem shl_all : ∀ n : Fin 11, shlI .i64 1 (n.1 : Int) = ((2 ^ n.1 : Nat) : Int) := by decide +kernel
theorem shl_val {n : Nat} (h : n ≤ 10) : shlI .i64 1 (n : Int) = ((2 ^ n : Nat) : Int) := shl_all ⟨n, by omega⟩
theorem pow_le {n : Nat} (h : n ≤ 10) : 2 ^ n ≤ 1024 := Nat.le_trans (Nat.pow_le_pow_right (by decide) h) (by decide)
theorem mask_of (R : Nat → Prop) : ∀ n : Nat, ∃ s, s < 2 ^ n ∧ ∀ k, k < n → (s.testBit k = true ↔ R k)
  | 0 => ⟨0, by decide, fun k h => absurd h (Nat.not_lt_zero _)⟩
  | n + 1 => by
    obtain ⟨s, h1, h2⟩ := mask_of R n
    by_cases h : R n
    · refine ⟨s ||| 2 ^ n, Nat.or_lt_two_pow (Nat.lt_of_lt_of_le h1 (Nat.pow_le_pow_right (by decide) (by omega))) (Nat.pow_lt_pow_right (by decide) (by omega)), fun k hk => ?_⟩
      rw [Nat.testBit_or, Nat.testBit_two_pow]
      by_cases e : k = n
      · subst e; simp [h]
      · rw [decide_eq_false (fun x => e x.symm), Bool.or_false]; exact h2 k (by omega)
    · refine ⟨s, Nat.lt_of_lt_of_le h1 (Nat.pow_le_pow_right (by decide) (by omega)), fun k hk => ?_⟩
      by_cases e : k = n
      · subst e; rw [Nat.testBit_lt_two_pow h1]; simp [h]
      · exact h2 k (by omega)
theorem mask_eq {n s t : Nat} (hs : s < 2 ^ n) (ht : t < 2 ^ n) (h : ∀ k, k < n → (s.testBit k = true ↔ t.testBit k = true)) : s = t := by
  refine Nat.eq_of_testBit_eq fun k => ?_
  rcases Nat.lt_or_ge k n with hk | hk
  · rw [Bool.eq_iff_iff]; exact h k hk
  · rw [Nat.testBit_lt_two_pow (Nat.lt_of_lt_of_le hs (Nat.pow_le_pow_right (by decide) hk)), Nat.testBit_lt_two_pow (Nat.lt_of_lt_of_le ht (Nat.pow_le_pow_right (by decide) hk))]
theorem nodup_le {α : Type} : ∀ {l m : List α}, l.Nodup → (∀ x ∈ l, x ∈ m) → l.length ≤ m.length
  | [], _, _, _ => Nat.zero_le _
  | x :: l, m, hn, h => by
    obtain ⟨a, b, rfl⟩ := List.append_of_mem (h x (List.mem_cons_self ..))
    have h2 := nodup_le (l := l) (m := a ++ b) (List.nodup_cons.1 hn).2 fun y hy => by
      have := h y (List.mem_cons_of_mem _ hy)
      rcases List.mem_append.1 this with g | g
      · exact List.mem_append_left _ g
      · rcases List.mem_cons.1 g with g | g
        · subst g; exact absurd hy (List.nodup_cons.1 hn).1
        · exact List.mem_append_right _ g
    simp only [List.length_append, List.length_cons] at h2 ⊢; omega
theorem nodup_map {α β : Type} {f : α → β} : ∀ {l : List α}, l.Nodup → (∀ x ∈ l, ∀ y ∈ l, f x = f y → x = y) → (l.map f).Nodup
  | [], _, _ => List.nodup_nil
  | x :: l, hn, h => by
    rw [List.map_cons, List.nodup_cons]
    have h0 := List.nodup_cons.1 hn
    refine ⟨fun hm => ?_, nodup_map h0.2 fun y hy z hz => h y (List.mem_cons_of_mem _ hy) z (List.mem_cons_of_mem _ hz)⟩
    obtain ⟨y, hy, e⟩ := List.mem_map.1 hm
    have := h x (List.mem_cons_self ..) y (List.mem_cons_of_mem _ hy) e.symm
    subst this
    exact h0.1 hy
def Cl (l : List Ev) (s : Nat) : Prop := ∀ i, i < l.length → ∀ k, k < i → s.testBit i = true → Pst l i k → s.testBit k = true
def inS (l : List Ev) (s : Nat) : Nat → Prop := fun k => k < l.length ∧ s.testBit k = true
noncomputable def gs (l : List Ev) (s : Nat) : List Int := Row l (inS l s)
def Wc (l : List Ev) (a : List Int) : Prop := VC l a ∧ ∀ k, k < l.length → okw l (In l a) k
noncomputable def CS (l : List Ev) : List (List Int) := ((List.range (2 ^ l.length)).filter fun s => pd (Cl l s)).map (gs l)
section
variable {l : List Ev}
theorem in_row (v : Val l) {A : Nat → Prop} (hd : Dc l A) (hl : ∀ k, A k → k < l.length) (k : Nat) : In l (Row l A) k ↔ A k := by
  constructor
  · rintro ⟨h1, h2⟩
    obtain ⟨p, hp, h8⟩ := pl_nat v h1
    apply Classical.byContradiction
    intro hA
    rw [hp, show Int.toNat (p : Int) = p from rfl] at h2
    unfold cq at h2
    rw [row_at h8] at h2
    have : cn l A (p : Int) ≤ cn l (bef k) (p : Int) := cn_le fun j hj hjp => by
      show j < k
      rcases Nat.lt_or_ge j k with g | g
      · exact g
      · by_cases e : j = k
        · subst e; exact absurd hj hA
        · exact absurd (hd j k hj (by omega) (by rw [hp, hjp])) hA
    simp only [Option.getD_some] at h2
    omega
  · intro hA
    have h1 := hl k hA
    obtain ⟨p, hp, h8⟩ := pl_nat v h1
    refine ⟨h1, ?_⟩
    rw [hp, show Int.toNat (p : Int) = p from rfl]
    unfold cq
    rw [row_at h8, Option.getD_some]
    have h3 : cn l (bef (k + 1)) (p : Int) ≤ cn l A (p : Int) := cn_le fun j (hj : j < k + 1) hjp => by
      by_cases e : j = k
      · subst e; exact hA
      · exact hd k j hA (by omega) (by rw [hjp, hp])
    rw [cn_bef h1 hp] at h3
    omega
theorem vc_row {A : Nat → Prop} (hl : ∀ k, A k → k < l.length) : VC l (Row l A) := by
  refine ⟨row_len, fun q h8 => ?_⟩
  unfold VQ cq
  rw [row_at h8, Option.getD_some]
  have : cn l A (q : Int) ≤ cn l (bef l.length) (q : Int) := cn_le fun k hk _ => hl k hk
  exact ⟨by omega, by omega⟩
theorem row_in {a : List Int} (h : VC l a) : Row l (In l a) = a := by
  refine List.ext_getElem? fun q => ?_
  rcases Nat.lt_or_ge q 8 with h8 | h8
  · have hq := h.2 q h8
    have hc := cn_in (l := l) (a := a) (q := q) hq.1 h8 l.length (Nat.le_refl _)
    have e : cn l (fun k => k < l.length ∧ In l a k) (q : Int) = cn l (In l a) (q : Int) := cn_eq fun k _ => ⟨fun g => g.2, fun g => ⟨g.1, g⟩⟩
    rw [e] at hc
    have hq2 := hq.2
    have hv : (cn l (In l a) (q : Int) : Int) = cq a q := by
      rw [hc]; split <;> omega
    rw [row_at h8, hv]
    unfold cq
    rw [List.getElem?_eq_getElem (by rw [h.1]; exact h8)]; rfl
  · rw [List.getElem?_eq_none (by rw [row_len]; exact h8), List.getElem?_eq_none (by rw [h.1]; exact h8)]
theorem inS_dc {s : Nat} (c : Cl l s) : Dc l (inS l s) := fun k k' h hk hp => ⟨by have := h.1; omega, c k h.1 k' hk h.2 (.base hk (.inl hp))⟩
theorem in_gs (v : Val l) {s : Nat} (c : Cl l s) (k : Nat) : In l (gs l s) k ↔ inS l s k := in_row v (inS_dc c) (fun _ h => h.1) k
theorem wc_gs (v : Val l) (T : Tks l) {s : Nat} (c : Cl l s) : Wc l (gs l s) := by
  refine ⟨vc_row fun _ h => h.1, fun k hk hR k3 => ?_⟩
  obtain ⟨j, j1, j2, j3⟩ := T.sent k hk k3
  have hk2 := (in_gs v c k).1 hR
  exact ⟨j, j1, j2, j3, (in_gs v c j).2 ⟨by omega, c k hk j j1 hk2.2 (.base j1 (.inr ⟨k3, j2, j3⟩))⟩⟩
theorem wc_mem (v : Val l) {a : List Int} (h : Wc l a) : a ∈ CS l := by
  obtain ⟨s, s1, s2⟩ := mask_of (In l a) l.length
  have hin : ∀ k, inS l s k ↔ In l a k := fun k => ⟨fun g => (s2 k g.1).1 g.2, fun g => ⟨g.1, (s2 k g.1).2 g⟩⟩
  refine List.mem_map.2 ⟨s, List.mem_filter.2 ⟨List.mem_range.2 s1, pd_t fun i hi k hk hb hp => ?_⟩, ?_⟩
  · exact (s2 k (by omega)).2 (past_in v (in_dc v) h.2 hi hp ((s2 i hi).1 hb))
  · unfold gs; rw [row_ext hin, row_in h.1]
theorem cs_wc (v : Val l) (T : Tks l) {a : List Int} (h : a ∈ CS l) : Wc l a := by
  obtain ⟨s, h1, rfl⟩ := List.mem_map.1 h
  exact wc_gs v T (pd_iff.1 (List.mem_filter.1 h1).2)
theorem cs_nodup (v : Val l) : (CS l).Nodup := by
  unfold CS
  refine nodup_map (List.Pairwise.filter _ List.nodup_range) ?_
  intro s hs t ht e
  have hs2 := List.mem_filter.1 hs
  have ht2 := List.mem_filter.1 ht
  refine mask_eq (List.mem_range.1 hs2.1) (List.mem_range.1 ht2.1) fun k hk => ?_
  have h1 := in_gs v (pd_iff.1 hs2.2) k
  have h2 := in_gs v (pd_iff.1 ht2.2) k
  rw [e] at h1
  have h3 := h1.symm.trans h2
  exact ⟨fun g => (h3.1 ⟨hk, g⟩).2, fun g => (h3.2 ⟨hk, g⟩).2⟩
theorem cs_len (hn : l.length ≤ 10) : (CS l).length ≤ 1024 := by
  unfold CS
  rw [List.length_map]
  refine Nat.le_trans (List.length_filter_le ..) ?_
  rw [List.length_range]; exact pow_le hn
end
def sc (a : List Int) (p : Nat) : List Int := a.set p (cq a p + 1)
theorem sc_len {a : List Int} (h : a.length = 8) {p : Nat} : (sc a p).length = 8 := by unfold sc; rw [List.length_set, h]
theorem cq_sc {a : List Int} (h : a.length = 8) {p : Nat} (hp : p < 8) : cq (sc a p) p = cq a p + 1 := by
  unfold cq sc; rw [List.getElem?_set_self (by omega)]; rfl
theorem cq_sc_ne {a : List Int} {p q : Nat} (hne : p ≠ q) : cq (sc a p) q = cq a q := by
  unfold cq sc; rw [List.getElem?_set_ne hne]
structure Inv (l : List Ev) (row : List (List Int)) (es : List (Vec 8 × Bool)) : Prop where
  nd : row.Nodup
  wc : ∀ a ∈ row, Wc l a
  es : ∀ a : List Int, a.length = 8 → (pgd es (vec 8 a) false = true ↔ a ∈ row)
def Clo (l : List Ev) (row : List (List Int)) (i : Nat) : Prop := ∀ j, j < i → ∀ a, row[j]? = some a → ∀ p, p < 8 → Wc l (sc a p) → sc a p ∈ row
section
variable {l : List Ev}
theorem wc_sc {a : List Int} (h : Wc l a) {p : Nat} (hp : p < 8) (hN : ¬ cq (sc a p) p > (cn l (bef l.length) (p : Int) : Int)) (hw : ∀ k, k < l.length → okw l (In l (sc a p)) k) : Wc l (sc a p) := by
  refine ⟨⟨sc_len h.1.1, fun q hq => ?_⟩, hw⟩
  have h1 := h.1.2 q hq
  unfold VQ at h1 ⊢
  by_cases e : p = q
  · subst e; have := cq_sc h.1.1 hp; omega
  · rw [cq_sc_ne e]; exact h1
theorem sc_not {a : List Int} (h : a.length = 8) {p : Nat} (hp : p < 8) (hN : cq (sc a p) p > (cn l (bef l.length) (p : Int) : Int)) : ¬ Wc l (sc a p) := fun w => by
  have := (w.1.2 p hp).2; omega
theorem row_bound (v : Val l) (hn : l.length ≤ 10) {row : List (List Int)} {es : List (Vec 8 × Bool)} (I : Inv l row es) : row.length ≤ 1024 :=
  Nat.le_trans (nodup_le I.nd fun a ha => wc_mem v (I.wc a ha)) (cs_len hn)
theorem all_l1 (v : Val l) (hn : l.length ≤ 10) {i : Nat} {a : List Int} : ∀ (d p : Nat) (row : List (List Int)) (es : List (Vec 8 × Bool)), p + d = 8 → Inv l row es → row[i]? = some a → (∀ q, q < p → Wc l (sc a q) → sc a q ∈ row) → Clo l row i →
    ∃ row' es', cut_All.l1 l (Row l (bef l.length)) es row (i : Int) (p : Int) = cut_All.l0 l (Row l (bef l.length)) es' row' (IntKind.wrap .i64 ((i : Int) + 1)) ∧ Inv l row' es' ∧ Clo l row' (i + 1) ∧ i < row'.length ∧ ∀ b ∈ row, b ∈ row' := by
  intro d
  induction d with
  | zero =>
    intro p row es hp I ha hq hC
    obtain rfl : p = 8 := by omega
    rw [cut_All.l1_eq, if_neg (by decide)]
    refine ⟨row, es, rfl, I, fun j hj b hb q hq8 hw => ?_, (List.getElem?_eq_some_iff.1 ha).1, fun b hb => hb⟩
    by_cases e : j = i
    · subst e; rw [ha] at hb; cases hb; exact hq q hq8 hw
    · exact hC j (by omega) b hb q hq8 hw
  | succ d ih =>
    intro p row es hp I ha hq hC
    have hp8 : p < 8 := by omega
    have hlt := (List.getElem?_eq_some_iff.1 ha).1
    have wa : Wc l a := I.wc a (List.mem_of_getElem? ha)
    have h8 := wa.1.1
    have hlen := row_bound v hn I
    have hpq := wa.1.2 p hp8
    have hcb := cn_bound (l := l) (A := bef l.length) (q := (p : Int))
    unfold VQ at hpq
    have ew : IntKind.wrap .i64 (cq a p + 1) = cq a p + 1 := wrap_in (by omega) (by omega)
    have go : (∀ q, q < p + 1 → Wc l (sc a q) → sc a q ∈ row) → ∃ row' es', cut_All.l1 l (Row l (bef l.length)) es row (i : Int) (IntKind.wrap .i64 ((p : Int) + 1)) = cut_All.l0 l (Row l (bef l.length)) es' row' (IntKind.wrap .i64 ((i : Int) + 1)) ∧ Inv l row' es' ∧ Clo l row' (i + 1) ∧ i < row'.length ∧ ∀ b ∈ row, b ∈ row' := by
      intro h
      rw [w_succ (by omega)]
      exact ih (p + 1) row es (by omega) I ha h hC
    have skip : ¬ (Wc l (sc a p) ∧ sc a p ∉ row) → ∀ q, q < p + 1 → Wc l (sc a q) → sc a q ∈ row := by
      intro h q hq1 hw
      by_cases e : q = p
      · subst e; exact Classical.byContradiction fun g => h ⟨hw, g⟩
      · exact hq q (by omega) hw
    rw [cut_All.l1_eq, if_pos (by omega), gi_nat, ha, Option.bind_some, gi_cq h8 hp8, Option.bind_some, Option.bind_some, Option.bind_some, ew, Int.toNat_natCast]
    rw [show a.set p (cq a p + 1) = sc a p from rfl, gi_cq (sc_len h8) hp8, Option.bind_some, gi_row hp8, Option.bind_some]
    by_cases hN : cq (sc a p) p > (cn l (bef l.length) (p : Int) : Int)
    · rw [if_pos hN]
      exact go (skip fun h => sc_not h8 hp8 hN h.1)
    · rw [if_neg hN]
      by_cases hs : pgd es (vec 8 (sc a p)) false = true
      · rw [if_pos hs]
        exact go (skip fun h => h.2 ((I.es _ (sc_len h8)).1 hs))
      · rw [if_neg hs, whole_val v (sc_len h8), Option.bind_some]
        by_cases hw : ∀ k, k < l.length → okw l (In l (sc a p)) k
        · rw [pd_t hw, if_pos rfl, cut_All.j0_eq, if_neg (by omega), Option.bind_some, ap_one (by omega), Option.bind_some]
          have wsc := wc_sc wa hp8 hN hw
          have hno : sc a p ∉ row := fun h => hs ((I.es _ (sc_len h8)).2 h)
          have I2 : Inv l (row ++ [sc a p]) (pset es (vec 8 (sc a p)) true) := by
            refine ⟨?_, fun b hb => ?_, fun b hb => ?_⟩
            · rw [List.nodup_append]
              refine ⟨I.nd, by simp, fun x hx y hy e => ?_⟩
              rw [List.mem_singleton.1 hy] at e
              exact hno (e ▸ hx)
            · rcases List.mem_append.1 hb with h | h
              · exact I.wc b h
              · rw [List.mem_singleton.1 h]; exact wsc
            · unfold pgd
              rw [pget_pset]
              by_cases e : vec 8 b = vec 8 (sc a p)
              · rw [if_pos e]
                have := (vec_iff hb (sc_len h8)).1 e
                simp [this]
              · rw [if_neg e]
                have h3 : b ≠ sc a p := fun h => e (by rw [h])
                have h4 := I.es b hb
                unfold pgd at h4
                rw [h4]; simp [h3]
          rw [w_succ (by omega)]
          obtain ⟨row', es', e1, e2, e3, e4, e5⟩ := ih (p + 1) (row ++ [sc a p]) (pset es (vec 8 (sc a p)) true) (by omega) I2 (by rw [List.getElem?_append_left hlt]; exact ha) (fun q hq1 hwq => by
            by_cases e : q = p
            · subst e; exact List.mem_append_right _ (List.mem_singleton_self _)
            · exact List.mem_append_left _ (hq q (by omega) hwq)) (fun j hj b hb q hq8 hwq => by
            rw [List.getElem?_append_left (by omega)] at hb
            exact List.mem_append_left _ (hC j hj b hb q hq8 hwq))
          exact ⟨row', es', e1, e2, e3, e4, fun b hb => e5 b (List.mem_append_left _ hb)⟩
        · rw [pd_f hw, if_neg (by decide)]
          exact go (skip fun h => hw h.1.2)
theorem all_l0 (v : Val l) (hn : l.length ≤ 10) : ∀ (d i : Nat) (row : List (List Int)) (es : List (Vec 8 × Bool)), i + d = 1025 → i ≤ row.length → Inv l row es → Clo l row i →
    ∃ row' es', cut_All.l0 l (Row l (bef l.length)) es row (i : Int) = some ((row'.length : Int), 0) ∧ Inv l row' es' ∧ Clo l row' row'.length ∧ ∀ b ∈ row, b ∈ row' := by
  intro d
  induction d with
  | zero => intro i row es hi hle I hC; have := row_bound v hn I; omega
  | succ d ih =>
    intro i row es hi hle I hC
    have hb := row_bound v hn I
    rw [cut_All.l0_eq]
    by_cases h : i < row.length
    · rw [if_pos (by omega)]
      obtain ⟨row', es', e1, e2, e3, e4, e5⟩ := all_l1 v hn 8 0 row es (by omega) I (List.getElem?_eq_getElem h) (fun q hq => absurd hq (Nat.not_lt_zero _)) hC
      rw [show ((0 : Nat) : Int) = (0 : Int) from rfl] at e1
      rw [e1, w_succ (by omega)]
      obtain ⟨r2, s2, f1, f2, f3, f4⟩ := ih (i + 1) row' es' (by omega) (by omega) e2 e3
      exact ⟨r2, s2, f1, f2, f3, fun b hb => f4 b (e5 b hb)⟩
    · rw [if_neg (by omega)]
      exact ⟨row, es, rfl, I, (by have : row.length = i := by omega
                                  rw [this]; exact hC), fun b hb => hb⟩
theorem found (v : Val l) {row : List (List Int)} (hz : List.replicate 8 0 ∈ row) (hC : Clo l row row.length) : ∀ (m : Nat) (a : List Int), m ≤ l.length → Wc l a → (∀ k, In l a k → k < m) → a ∈ row := by
  intro m
  induction m with
  | zero =>
    intro a _ h hk
    rw [← row_in h.1, row_none fun k hh => Nat.not_lt_zero _ (hk k hh)]
    exact hz
  | succ m ih =>
    intro a hm h hk
    by_cases hin : In l a m
    · have hml := hin.1
      obtain ⟨p, hp, h8⟩ := pl_nat v hml
      have hd : Dc l fun k => In l a k ∧ k ≠ m := fun k k' ⟨h1, h2⟩ hk' hpl => ⟨in_dc v k k' h1 hk' hpl, by have := hk k h1; omega⟩
      have hin2 := in_row v hd fun k hh => hh.1.1
      have w2 : Wc l (Row l fun k => In l a k ∧ k ≠ m) := by
        refine ⟨vc_row fun k hh => hh.1.1, fun k hkl hR k3 => ?_⟩
        obtain ⟨hR1, hR2⟩ := (hin2 k).1 hR
        obtain ⟨j, j1, j2, j3, j4⟩ := h.2 k hkl hR1 k3
        have := hk k hR1
        exact ⟨j, j1, j2, j3, (hin2 j).2 ⟨j4, by omega⟩⟩
      have hmem := ih _ (by omega) w2 fun k hh => by
        have := (hin2 k).1 hh
        have := hk k this.1
        omega
      obtain ⟨j, hj, e⟩ := List.getElem_of_mem hmem
      have hs : sc (Row l fun k => In l a k ∧ k ≠ m) p = a := by
        have h1 := row_set (A := fun k => In l a k ∧ k ≠ m) (B := In l a) hml hp h8 (fun hh => hh.2 rfl) (fun k => ⟨fun hh => by
          by_cases e : k = m
          · exact .inr e
          · exact .inl ⟨hh, e⟩, fun hh => hh.elim (fun x => x.1) fun e => e ▸ hin⟩)
        unfold sc
        have h2 : cq (Row l fun k => In l a k ∧ k ≠ m) p = (cn l (fun k => In l a k ∧ k ≠ m) (p : Int) : Int) := by unfold cq; rw [row_at h8]; rfl
        rw [h2, h1, row_in h.1]
      have := hC j hj _ ((List.getElem?_eq_getElem hj).trans (congrArg some e)) p h8 (by rw [hs]; exact h)
      rw [hs] at this
      exact this
    · exact ih a (by omega) h fun k hh => by
        have := hk k hh
        by_cases e : k = m
        · subst e; exact absurd hh hin
        · omega
end
theorem All_bad {l : List Ev} (h : histErr l ≠ 0) : cut_All l = some (0, histErr l) := by
  unfold cut_All cut_check
  rw [check_val, Option.bind_some, if_neg h, Option.bind_some, if_neg h]
theorem All_val {l : List Ev} (hn : l.length ≤ 10) (h : histErr l = 0) : cut_All l = some (((CS l).length : Int), 0) := by
  have v := val_of h
  have T := tks_of h
  have wz : Wc l (List.replicate 8 0) := by
    rw [← row_none (l := l) (A := fun _ => False) fun _ h => h]
    refine ⟨vc_row fun _ h => h.elim, fun k hk hR => ?_⟩
    have := (in_row v (A := fun _ => False) (fun _ _ h => h.elim) (fun _ h => h.elim) k).1 hR
    exact this.elim
  have I : Inv l [List.replicate 8 0] (pset ([] : (List ((Vec 8) × Bool))) (vec 8 (List.replicate 8 (0 : Int))) true) := by
    refine ⟨by simp, fun a ha => by rw [List.mem_singleton.1 ha]; exact wz, fun a ha => ?_⟩
    unfold pgd
    rw [pget_pset]
    by_cases e : vec 8 a = vec 8 (List.replicate 8 0)
    · rw [if_pos e]
      have := (vec_iff ha (by simp)).1 e
      simp [this]
    · rw [if_neg e]
      have h3 : a ≠ List.replicate 8 0 := fun h => e (by rw [h])
      exact ⟨fun h => by simp [pget] at h, fun h => absurd (List.mem_singleton.1 h) h3⟩
  obtain ⟨row, es, e1, e2, e3, e4⟩ := all_l0 v hn 1025 0 _ _ (by omega) (Nat.zero_le _) I (fun j hj => absurd hj (Nat.not_lt_zero _))
  have hsub : ∀ a ∈ CS l, a ∈ row := fun a ha => by
    have w := cs_wc v T ha
    exact found v (e4 _ (List.mem_singleton_self _)) e3 l.length a (Nat.le_refl _) w fun k hk => hk.1
  have hlen : row.length = (CS l).length := Nat.le_antisymm (nodup_le e2.nd fun a ha => wc_mem v (e2.wc a ha)) (nodup_le (cs_nodup v) hsub)
  unfold cut_All cut_check
  rw [check_val, Option.bind_some, h, if_pos rfl, counts_val v, Option.bind_some, cut_check.l0_eq, if_neg (by simp), Option.bind_some, if_pos rfl, Option.bind_some, Option.bind_some, ← hlen]
  exact e1
section
variable {l : List Ev}
theorem gi_ps {i : Nat} (h : i < l.length) : gi (Ps l) (i : Int) = some (PR l i) := by rw [gi_nat]; exact ps_at h
theorem gi_pr {i k : Nat} (h : k < l.length) : gi (PR l i) (k : Int) = some (pd (Pst l i k)) := by rw [gi_nat]; exact pr_at h
theorem law_l2 (hn : l.length ≤ 10) {s i : Nat} (hs : s < 1024) (hi : i < l.length) {x5 x6 m x50 x51 : Int} : ∀ (d k : Nat) (B : Prop), k + d = i →
    roadlaw4_CutAll.l2 l x5 x6 (Ps l) m (s : Int) (pd B) (i : Int) x50 x51 (l.length : Int) (i : Int) (i : Int) (k : Int) = roadlaw4_CutAll.l1 l x5 x6 (Ps l) m (s : Int) (pd (B ∧ ∀ k', k ≤ k' → k' < i → s.testBit i = true → Pst l i k' → s.testBit k' = true)) x50 x51 (l.length : Int) ((i + 1 : Nat) : Int) := by
  intro d
  induction d with
  | zero =>
    intro k B hk
    rw [roadlaw4_CutAll.l2_eq, if_neg (by omega), w_succ (by omega)]
    rw [pd_eq (p := B) (q := B ∧ ∀ k', k ≤ k' → k' < i → s.testBit i = true → Pst l i k' → s.testBit k' = true) ⟨fun h => ⟨h, fun k' h1 h2 => by omega⟩, fun h => h.1⟩]
  | succ d ih =>
    intro k B hk
    have next : ∀ C : Prop, ((C ∧ ∀ k', k + 1 ≤ k' → k' < i → s.testBit i = true → Pst l i k' → s.testBit k' = true) ↔ (B ∧ ∀ k', k ≤ k' → k' < i → s.testBit i = true → Pst l i k' → s.testBit k' = true)) →
        roadlaw4_CutAll.l2 l x5 x6 (Ps l) m (s : Int) (pd C) (i : Int) x50 x51 (l.length : Int) (i : Int) (i : Int) (IntKind.wrap .i64 ((k : Int) + 1)) = roadlaw4_CutAll.l1 l x5 x6 (Ps l) m (s : Int) (pd (B ∧ ∀ k', k ≤ k' → k' < i → s.testBit i = true → Pst l i k' → s.testBit k' = true)) x50 x51 (l.length : Int) ((i + 1 : Nat) : Int) := by
      intro C hC
      rw [w_succ (by omega), ih (k + 1) C (by omega), pd_eq hC]
    rw [roadlaw4_CutAll.l2_eq, if_pos (by omega)]
    by_cases hB : B
    · have hB' : pd B = true := pd_t hB
      rw [if_pos hB', if_pos (by omega), bit_val hs (by omega)]
      by_cases hb : s.testBit i = true
      · rw [if_pos hb, if_neg (by decide), gi_ps hi, Option.bind_some, gi_pr (by omega), Option.bind_some]
        by_cases hp : Pst l i k
        · rw [pd_t hp, if_pos rfl, if_pos (by omega), bit_val hs (by omega)]
          have e : ((if s.testBit k = true then (1 : Int) else 0) == 1) = pd (s.testBit k = true) := by
            by_cases hk2 : s.testBit k = true
            · rw [if_pos hk2, pd_t hk2]; rfl
            · rw [if_neg hk2, pd_f hk2]; rfl
          rw [e]
          refine next _ ⟨fun ⟨h1, h2⟩ => ⟨hB, fun k' k1 k2 k3 k4 => ?_⟩, fun ⟨h1, h2⟩ => ⟨h2 k (Nat.le_refl _) (by omega) hb hp, fun k' k1 k2 k3 k4 => h2 k' (by omega) k2 k3 k4⟩⟩
          by_cases e2 : k' = k
          · subst e2; exact h1
          · exact h2 k' (by omega) k2 k3 k4
        · rw [pd_f hp, if_neg (by decide)]
          have nx := next B ⟨fun ⟨h1, h2⟩ => ⟨hB, fun k' k1 k2 k3 k4 => by
            by_cases e2 : k' = k
            · subst e2; exact absurd k4 hp
            · exact h2 k' (by omega) k2 k3 k4⟩, fun ⟨h1, h2⟩ => ⟨hB, fun k' k1 k2 k3 k4 => h2 k' (by omega) k2 k3 k4⟩⟩
          rw [hB'] at nx
          exact nx
      · rw [if_neg hb, if_pos rfl]
        have nx := next B ⟨fun ⟨h1, h2⟩ => ⟨hB, fun k' k1 k2 k3 k4 => absurd k3 hb⟩, fun ⟨h1, h2⟩ => ⟨hB, fun k' k1 k2 k3 k4 => absurd k3 hb⟩⟩
        rw [hB'] at nx
        exact nx
    · have hB' : pd B = false := pd_f hB
      rw [if_neg (by rw [hB']; decide), ← hB']
      exact next _ ⟨fun h => absurd h.1 hB, fun h => absurd h.1 hB⟩
theorem law_l1 (hn : l.length ≤ 10) {s : Nat} (hs : s < 1024) {x5 x6 x50 : Int} {m : Nat} (hm : m ≤ 100000) : ∀ (d i : Nat) (B : Prop), i + d = l.length →
    roadlaw4_CutAll.l1 l x5 x6 (Ps l) (m : Int) (s : Int) (pd B) x50 (s : Int) (l.length : Int) (i : Int) = roadlaw4_CutAll.l0 l x5 x6 (Ps l) ((m + (if pd (B ∧ ∀ i', i ≤ i' → i' < l.length → ∀ k, k < i' → s.testBit i' = true → Pst l i' k → s.testBit k = true) = true then 1 else 0) : Nat) : Int) x50 ((s + 1 : Nat) : Int) := by
  intro d
  induction d with
  | zero =>
    intro i B hi
    have e : pd (B ∧ ∀ i', i ≤ i' → i' < l.length → ∀ k, k < i' → s.testBit i' = true → Pst l i' k → s.testBit k = true) = pd B := pd_eq ⟨fun h => h.1, fun h => ⟨h, fun i' h1 h2 => by omega⟩⟩
    rw [e, roadlaw4_CutAll.l1_eq, if_neg (by omega), w_succ (k := s) (by omega)]
    cases pd B with
    | true => rw [if_pos rfl, if_pos rfl, w_succ (by omega)]
    | false => rw [if_neg (by decide), if_neg (by decide)]; rfl
  | succ d ih =>
    intro i B hi
    rw [roadlaw4_CutAll.l1_eq, if_pos (by omega)]
    have h2 := law_l2 hn hs (i := i) (by omega) (x5 := x5) (x6 := x6) (m := (m : Int)) (x50 := x50) (x51 := (s : Int)) i 0 B (by omega)
    rw [show ((0 : Nat) : Int) = (0 : Int) from rfl] at h2
    rw [h2, ih (i + 1) _ (by omega)]
    have e : pd ((B ∧ ∀ k', 0 ≤ k' → k' < i → s.testBit i = true → Pst l i k' → s.testBit k' = true) ∧ ∀ i', i + 1 ≤ i' → i' < l.length → ∀ k, k < i' → s.testBit i' = true → Pst l i' k → s.testBit k = true) = pd (B ∧ ∀ i', i ≤ i' → i' < l.length → ∀ k, k < i' → s.testBit i' = true → Pst l i' k → s.testBit k = true) := pd_eq ⟨fun ⟨⟨h1, h2⟩, h3⟩ => ⟨h1, fun i' a1 a2 k a3 a4 a5 => by
        by_cases e2 : i' = i
        · subst e2; exact h2 k (Nat.zero_le _) a3 a4 a5
        · exact h3 i' (by omega) a2 k a3 a4 a5⟩, fun ⟨h1, h2⟩ => ⟨⟨h1, fun k' _ a1 a2 a3 => h2 i (Nat.le_refl _) (by omega) k' a1 a2 a3⟩, fun i' a1 a2 k a3 a4 a5 => h2 i' (by omega) a2 k a3 a4 a5⟩⟩
    rw [e]
theorem law_l0 (hn : l.length ≤ 10) {x5 : Int} : ∀ (d s m : Nat), s + d = 2 ^ l.length → m ≤ s →
    roadlaw4_CutAll.l0 l x5 0 (Ps l) (m : Int) ((2 ^ l.length : Nat) : Int) (s : Int) = some (x5 == ((m + ((List.range' s d).filter fun s => pd (Cl l s)).length : Nat) : Int)) := by
  intro d
  have hp := pow_le hn
  induction d with
  | zero =>
    intro s m hs hm
    rw [roadlaw4_CutAll.l0_eq, if_neg (by omega), if_pos rfl]; rfl
  | succ d ih =>
    intro s m hs hm
    have hc : pd (True ∧ ∀ i', 0 ≤ i' → i' < l.length → ∀ k, k < i' → s.testBit i' = true → Pst l i' k → s.testBit k = true) = pd (Cl l s) := pd_eq ⟨fun h i hi k hk hb hp => h.2 i (Nat.zero_le _) hi k hk hb hp, fun h => ⟨trivial, fun i _ hi k hk hb hp => h i hi k hk hb hp⟩⟩
    have h1 := law_l1 hn (s := s) (by omega) (x5 := x5) (x6 := 0) (x50 := ((2 ^ l.length : Nat) : Int)) (m := m) (by omega) l.length 0 True (by omega)
    rw [show ((0 : Nat) : Int) = (0 : Int) from rfl, pd_t trivial, hc] at h1
    rw [roadlaw4_CutAll.l0_eq, if_pos (by omega), h1, ih (s + 1) _ (by omega) (by split <;> omega), List.range'_succ, List.filter_cons]
    congr 2
    by_cases c : Cl l s
    · rw [pd_t c]; simp only [if_true, List.length_cons]; omega
    · rw [pd_f c]; simp
end
theorem law_j0 (L : List Ev) : roadlaw4_CutAll.j0 L = some true := by
  unfold roadlaw4_CutAll.j0
  have hk : (if (10 : Int) < ((L.length : Nat) : Int) then (10 : Int) else ((L.length : Nat) : Int)) = ((min 10 L.length : Nat) : Int) := by split <;> omega
  rw [hk, sls_take rfl (by omega), Option.bind_some]
  have hn : (L.take (min 10 L.length)).length ≤ 10 := by rw [List.length_take]; omega
  generalize L.take (min 10 L.length) = l at hn ⊢
  by_cases h : histErr l = 0
  · have v := val_of h
    rw [All_val hn h, Option.bind_some, history_val, Option.bind_some, h, if_pos rfl, past_val (by omega), Option.bind_some, if_pos (by omega), shl_val hn]
    have := law_l0 hn (x5 := ((CS l).length : Int)) (2 ^ l.length) 0 0 (by omega) (Nat.le_refl _)
    rw [show ((0 : Nat) : Int) = (0 : Int) from rfl] at this
    show roadlaw4_CutAll.l0 l ((CS l).length : Int) 0 (Ps l) 0 _ 0 = some true
    rw [this, Nat.zero_add]
    have e : ((List.range' 0 (2 ^ l.length)).filter fun s => pd (Cl l s)).length = (CS l).length := by
      unfold CS; rw [List.length_map, List.range_eq_range']
    rw [e]; simp
  · rw [All_bad h, Option.bind_some, history_val, Option.bind_some, if_neg h, if_pos rfl]; simp
def two : List Ev := [T_api_Event.mk 0 2 5, T_api_Event.mk 1 3 5]
theorem two_err : histErr two = 0 := by decide
theorem two_len : (CS two).length = 3 := by
  have h10 : Pst two 1 0 := .base (by decide) (.inr ⟨rfl, rfl, rfl⟩)
  have c0 : Cl two 0 := fun i _ k _ hb => by rw [Nat.zero_testBit] at hb; cases hb
  have c1 : Cl two 1 := fun i hi k hk hb => by
    have hi2 : i < 2 := hi
    have : i = 1 := by omega
    subst this; exact absurd hb (by decide)
  have c2 : ¬ Cl two 2 := fun h => absurd (h 1 (by decide) 0 (by decide) (by decide) h10) (by decide)
  have c3 : Cl two 3 := fun i hi k hk hb hp => by
    have hi2 : i < 2 := hi
    have : k = 0 := by omega
    subst this; decide
  unfold CS
  rw [List.length_map, show List.range (2 ^ two.length) = [0, 1, 2, 3] from rfl]
  simp only [List.filter_cons, pd_t c0, pd_t c1, pd_f c2, pd_t c3]
  rfl
theorem CutAll (l : List Ev) (q0 : l.length * 24 ≤ 140737488351232 ∧ ∀ z ∈ l, T_api_Event.Q z) : roadlaw4_CutAll l = some true := by
  unfold roadlaw4_CutAll roadlaw4_two
  rw [Option.bind_some]
  show Option.bind (cut_All two) _ = _
  rw [All_val (by decide) two_err, Option.bind_some, if_pos rfl, two_len, if_pos (by decide)]
  exact law_j0 l
end Go.Proofs.Ytdlihfedhojdgaa.Fw

end
section
namespace Go.Proofs.Ytdlihfedhojdgaa.cutAll
open Go Go.Hw Go.ChangeShapes Go.WideShapes Go.ChangeAt Go.RowKit Go.Proofs.Ytdlihfedhojdgaa.Fw
open Go.ChangeMaps (open_string shut_string)
set_option linter.unusedVariables false
theorem own : ownKnob Try.prog.godebug = none := by kernel_rfl
theorem laidOut : laidOutB Try.prog = true := by kernel_rfl
set_option maxRecDepth 100000 in
theorem lifted (os : Os) (started : os.Started) (H : Type) (enc : TypeId × Value → H) :
    ReturnsInHanded {} Try.checked os 3 .any (Rows.cutAllSpec.pre6 enc Try.prog Try.f3 Rows.cutAllRow.domain false) (Rows.cutAllSpec.post enc Try.prog Try.f3 false true false false) := by
  refine returnsInHanded_of_change_sized (C := Try.checked) own started (by kernel_rfl) Try.func3
    (ChangeSpec.witness6 (enc := enc) (C := Try.checked) false ⟨#[], #[(.slice none 0 0)], []⟩ 8 (by kernel_rfl) (by kernel_rfl) (by kernel_rfl) (by kernel_rfl)) ?_
  intro W base args ds gs before hval0 hW hcnd hsz0 _
  have hsz : (DataW.weightsEach Try.prog (Try.f3.params.toList ++ Rows.cutAllSpec.plain.varTypes Try.prog) (ds ++ gs)).all (· ≤ reachBytes) = true := hsz0
  have hval : ∀ (j : Nat) t v, Try.f3.params[j]? = some t → args[j]? = some v → Value.okWide Try.prog W .any base t v := hval0
  have hW' := hW
  obtain ⟨p, q, hA0, hV, rfl, hfz, hnd⟩ := hW
  have hA : DataW.TrodAll enc Try.prog W 0 (fun _ => true) true Try.f3.params.toList args.toList ds p := hA0
  rw [Try.params3] at hA hval hsz
  obtain ⟨v0, vs0, d0, ds0, p0, q0_, hargs, rfl, rfl, h0, r0_⟩ := trodAll_cons hA
  obtain ⟨rfl, rfl, rfl⟩ := trodAll_nil r0_
  obtain rfl : args = #[v0] := by cases args; simp_all
  obtain ⟨rfl, rfl⟩ := trodVars_none hV
  have hs : (DataW.weightsEach Try.prog [22] [d0]).all (· ≤ reachBytes) = true := hsz
  simp only [DataW.weightsEach, List.append_nil] at hs
  have hw0 := hs
  have k0 := h0
  have lt0 : ∀ x ∈ p0, x.block < W.heap.size := by obtain ⟨m, hm⟩ := k0; exact DataW.trod_lt m _ _ _ hm
  obtain ⟨A0, n0, c0, rfl⟩ := okWide_slice (show Try.prog.underlying 22 = some (.slice 109) by kernel_rfl) (hval 0 22 v0 rfl rfl)
  obtain ⟨fuel0, hf0⟩ := h0
  obtain ⟨l0, ⟨A0', c0', hcs0, hle0, r0⟩, q0⟩ := (tells_sliceL (t := 22) (e := 109) (sz := 3) (B := 24) (by kernel_rfl) (by kernel_rfl) (by kernel_rfl) T_api_Event.tells) fuel0 _ _ hf0 hw0
  simp only [Value.cells, List.cons.injEq, Value.slice.injEq, and_true] at hcs0
  obtain ⟨rfl, rfl, rfl⟩ := hcs0
  refine ((Run.mono (R' := fun v h' => v = Value.bool true ∧ Ext W.heap h') (Fw.roadlaw4_CutAll.walk (W := No) (Hold.start (Sub.refl _)) rfl hle0 r0 (Fw.CutAll l0 q0)) (fun v h' hp => by obtain ⟨m', st, hv⟩ := hp; exact ⟨hv, st.S.ext⟩)) W rfl).mono fun e W' he => ?_
  obtain ⟨v, rfl, ⟨rfl, ext⟩, same⟩ := he
  have bel := below_of ext same
  exact ⟨_, rfl, _, _, _, [], _, [], hW', trodAll_mk1 (shut_bool (show Try.prog.underlying 4 = some .bool by kernel_rfl) _), (trodAll_cons_mk (Below.trod laidOut (by kernel_rfl) (of_decide_eq_true (by kernel_rfl)) k0 bel lt0) trodAll_mk0), rfl, bel.frame _, fun h => by cases h⟩
theorem over : Rows.cutAllRow.holds Try.pinned (OpenSpec.ofChange Rows.cutAllSpec) :=
  OpenClaim.holds_of_wide 3 Try.f3 rfl rfl rfl rfl rfl rfl rfl ⟨rfl, rfl, rfl, rfl, rfl⟩ rfl rfl rfl rfl rfl (by kernel_rfl) Try.func3 (by kernel_rfl)
    (of_decide_eq_true (by kernel_rfl)) (by unfold Func.isWrapper; first | (rw [if_pos (by decide +kernel)]; kernel_rfl) | (rw [if_neg (by decide +kernel)]; exact ⟨rfl, rfl⟩))
    (fun os started H enc _ => lifted os started H enc)
end Go.Proofs.Ytdlihfedhojdgaa.cutAll
namespace Go.Proofs.Ytdlihfedhojdgaa
theorem cutAll_holds : Rows.CutAllSaid := cutAll.over
end Go.Proofs.Ytdlihfedhojdgaa

end
