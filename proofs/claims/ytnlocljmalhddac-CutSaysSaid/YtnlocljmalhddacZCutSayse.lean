/- Part 5: what the law CutSays needs, put together out of texts of this session. -/
import Derived.Test.YtnlocljmalhddacZCutSaysd
section
namespace Go.Proofs.Ytnlocljmalhddac.Fw
open Go Go.Hw Go.Proofs
set_option linter.unusedVariables false
set_option synthInstance.maxHeartbeats 400000
set_option synthInstance.maxSize 1000
structure T_api_Event where
  Place : Int
  Kind : Int
  Msg : Int
def T_api_Event.E (h : Heap) (x : T_api_Event) (cs : List Value) : Prop := cs = [.int .i64 x.Place, .int .i64 x.Kind, .int .i64 x.Msg]
theorem T_api_Event.T : Tell 3 T_api_Event.E := ⟨by rintro m h x _ s rfl; exact rfl, by rintro h x _ rfl; rfl, by rintro h x _ rfl; exact Flats.cons trivial (Flats.cons trivial (Flats.cons trivial Flats.nil))⟩
theorem T_api_Event.keep {m h : Heap} {x : T_api_Event} {cs : List Value} (e : T_api_Event.E m x cs) : T_api_Event.E h x cs := e
def T_api_Event.Q (x : T_api_Event) : Prop := (-9223372036854775808 ≤ x.Place ∧ x.Place ≤ 9223372036854775807) ∧ (-9223372036854775808 ≤ x.Kind ∧ x.Kind ≤ 9223372036854775807) ∧ (-9223372036854775808 ≤ x.Msg ∧ x.Msg ≤ 9223372036854775807)
theorem T_api_Event.tells {H : Type} {enc : TypeId × Value → H} {W : World} : Tells enc Try.prog W 36 T_api_Event.E T_api_Event.Q := tells_map (tells_struct (t := 36) (fs := [(3, 0), (3, 1), (3, 2)]) (T := 3) (by kernel_rfl) (by kernel_rfl) (tf_cons (s := 1) (f := 3) (by kernel_rfl) (tells_i64 (t := 3) (by kernel_rfl)) (tf_cons (s := 1) (f := 3) (by kernel_rfl) (tells_i64 (t := 3) (by kernel_rfl)) (tf_cons (s := 1) (f := 3) (by kernel_rfl) (tells_i64 (t := 3) (by kernel_rfl)) tf_nil)))) (by
  rintro ⟨x0, x1, x2, ⟨⟩⟩ cs e q
  obtain ⟨c0, r0, rfl, e0, c1, r1, rfl, e1, c2, r2, rfl, e2, eN⟩ := e
  obtain rfl : c0 = [.int .i64 x0] := e0
  obtain rfl : c1 = [.int .i64 x1] := e1
  obtain rfl : c2 = [.int .i64 x2] := e2
  obtain rfl : r2 = [] := eN
  exact ⟨⟨x0, x1, x2⟩, rfl, q.1, q.2.1, q.2.2.1⟩)
theorem T_api_Event.g1 {m : Heap} {x : T_api_Event} {cs : List Value} (e : T_api_Event.E m x cs) : cs[1]? = some (Value.int .i64 x.Kind) := by
  obtain rfl := e
  exact rfl
theorem T_api_Event.g0 {m : Heap} {x : T_api_Event} {cs : List Value} (e : T_api_Event.E m x cs) : cs[0]? = some (Value.int .i64 x.Place) := by
  obtain rfl := e
  exact rfl
theorem T_api_Event.g2 {m : Heap} {x : T_api_Event} {cs : List Value} (e : T_api_Event.E m x cs) : cs[2]? = some (Value.int .i64 x.Msg) := by
  obtain rfl := e
  exact rfl
def clock_Check.post (W : Nat → Prop) (h0 m0 : Heap) (r : Int) (v : Value) (h : Heap) : Prop := ∃ m , Hold W h0 m0 h m [] ∧ v = .int .i64 r
inductive clock_Check.l0_k.Pt where
  | l0 (es_3 : (List (Int × Bool))) (es_4 : (List (Int × Bool))) (a_12 : List T_api_Event) (x_13 : Int) (x_14 : Int)
  | j0 (es_3 : (List (Int × Bool))) (es_4 : (List (Int × Bool))) (y_6 : T_api_Event) (a_12 : List T_api_Event) (x_13 : Int) (x_14 : Int)
  | j1 (es_3 : (List (Int × Bool))) (es_4 : (List (Int × Bool))) (y_6 : T_api_Event) (a_12 : List T_api_Event) (x_13 : Int) (x_14 : Int)
noncomputable def clock_Check.l0_k.body (go : (p : clock_Check.l0_k.Pt) → Option (Int)) : (p : clock_Check.l0_k.Pt) → Option (Int)
  | .l0 es_3 es_4 a_12 x_13 x_14 => if x_14 < x_13 then (Option.bind (gi a_12 x_14) fun y1 => if y1.Kind < (1 : Int) then (some ((3 : Int))) else (if y1.Kind > (3 : Int) then (some ((3 : Int))) else ((go (.j0 es_3 es_4 y1 a_12 x_13 x_14))))) else (some ((0 : Int)))
  | .j0 es_3 es_4 y_6 a_12 x_13 x_14 => if y_6.Place < (0 : Int) then (some ((1 : Int))) else (if y_6.Place ≥ (8 : Int) then (some ((1 : Int))) else (if y_6.Kind = (1 : Int) then ((go (.j1 es_3 es_4 y_6 a_12 x_13 x_14))) else (if y_6.Msg < (0 : Int) then (some ((1 : Int))) else (if y_6.Msg > (999 : Int) then (some ((1 : Int))) else ((go (.j1 es_3 es_4 y_6 a_12 x_13 x_14)))))))
  | .j1 es_3 es_4 y_6 a_12 x_13 x_14 => if y_6.Kind = (2 : Int) then (if (pgd es_3 y_6.Msg false) = true then (some ((5 : Int))) else (Option.bind (some (pset es_3 y_6.Msg true)) fun l5 => (go (.l0 l5 es_4 a_12 x_13 (IntKind.wrap .i64 (x_14 + (1 : Int))))))) else (if y_6.Kind = (3 : Int) then (if (pgd es_3 y_6.Msg false) = true then (if (pgd es_4 y_6.Msg false) = true then (some ((5 : Int))) else (Option.bind (some (pset es_4 y_6.Msg true)) fun l15 => (go (.l0 es_3 l15 a_12 x_13 (IntKind.wrap .i64 (x_14 + (1 : Int))))))) else (some ((4 : Int)))) else ((go (.l0 es_3 es_4 a_12 x_13 (IntKind.wrap .i64 (x_14 + (1 : Int)))))))
theorem clock_Check.l0_k.mono : MonoF (β := fun _ => (Int)) clock_Check.l0_k.body := fun f g hfg p => match p with
  | .l0 es_3 es_4 a_12 x_13 x_14 => LeO.ite (LeO.bind (LeO.refl _) fun y1 => LeO.ite (LeO.refl _) (LeO.ite (LeO.refl _) ((hfg _)))) (LeO.refl _)
  | .j0 es_3 es_4 y_6 a_12 x_13 x_14 => LeO.ite (LeO.refl _) (LeO.ite (LeO.refl _) (LeO.ite ((hfg _)) (LeO.ite (LeO.refl _) (LeO.ite (LeO.refl _) ((hfg _))))))
  | .j1 es_3 es_4 y_6 a_12 x_13 x_14 => LeO.ite (LeO.ite (LeO.refl _) (LeO.bind (LeO.refl _) fun l5 => (hfg _))) (LeO.ite (LeO.ite (LeO.ite (LeO.refl _) (LeO.bind (LeO.refl _) fun l15 => (hfg _))) (LeO.refl _)) ((hfg _)))
noncomputable def clock_Check.l0_k.go (p : clock_Check.l0_k.Pt) : Option (Int) := fixF (β := fun _ => (Int)) clock_Check.l0_k.body p
noncomputable def clock_Check.l0 (es_3 : (List (Int × Bool))) (es_4 : (List (Int × Bool))) (a_12 : List T_api_Event) (x_13 : Int) (x_14 : Int) : Option (Int) := clock_Check.l0_k.go (.l0 es_3 es_4 a_12 x_13 x_14)
noncomputable def clock_Check.j0 (es_3 : (List (Int × Bool))) (es_4 : (List (Int × Bool))) (y_6 : T_api_Event) (a_12 : List T_api_Event) (x_13 : Int) (x_14 : Int) : Option (Int) := clock_Check.l0_k.go (.j0 es_3 es_4 y_6 a_12 x_13 x_14)
noncomputable def clock_Check.j1 (es_3 : (List (Int × Bool))) (es_4 : (List (Int × Bool))) (y_6 : T_api_Event) (a_12 : List T_api_Event) (x_13 : Int) (x_14 : Int) : Option (Int) := clock_Check.l0_k.go (.j1 es_3 es_4 y_6 a_12 x_13 x_14)
theorem clock_Check.l0_eq (es_3 : (List (Int × Bool))) (es_4 : (List (Int × Bool))) (a_12 : List T_api_Event) (x_13 : Int) (x_14 : Int) : clock_Check.l0 es_3 es_4 a_12 x_13 x_14 = if x_14 < x_13 then (Option.bind (gi a_12 x_14) fun y1 => if y1.Kind < (1 : Int) then (some ((3 : Int))) else (if y1.Kind > (3 : Int) then (some ((3 : Int))) else ((clock_Check.j0 es_3 es_4 y1 a_12 x_13 x_14)))) else (some ((0 : Int))) := fixF_eq clock_Check.l0_k.mono _
theorem clock_Check.j0_eq (es_3 : (List (Int × Bool))) (es_4 : (List (Int × Bool))) (y_6 : T_api_Event) (a_12 : List T_api_Event) (x_13 : Int) (x_14 : Int) : clock_Check.j0 es_3 es_4 y_6 a_12 x_13 x_14 = if y_6.Place < (0 : Int) then (some ((1 : Int))) else (if y_6.Place ≥ (8 : Int) then (some ((1 : Int))) else (if y_6.Kind = (1 : Int) then ((clock_Check.j1 es_3 es_4 y_6 a_12 x_13 x_14)) else (if y_6.Msg < (0 : Int) then (some ((1 : Int))) else (if y_6.Msg > (999 : Int) then (some ((1 : Int))) else ((clock_Check.j1 es_3 es_4 y_6 a_12 x_13 x_14)))))) := fixF_eq clock_Check.l0_k.mono _
theorem clock_Check.j1_eq (es_3 : (List (Int × Bool))) (es_4 : (List (Int × Bool))) (y_6 : T_api_Event) (a_12 : List T_api_Event) (x_13 : Int) (x_14 : Int) : clock_Check.j1 es_3 es_4 y_6 a_12 x_13 x_14 = if y_6.Kind = (2 : Int) then (if (pgd es_3 y_6.Msg false) = true then (some ((5 : Int))) else (Option.bind (some (pset es_3 y_6.Msg true)) fun l5 => (clock_Check.l0 l5 es_4 a_12 x_13 (IntKind.wrap .i64 (x_14 + (1 : Int)))))) else (if y_6.Kind = (3 : Int) then (if (pgd es_3 y_6.Msg false) = true then (if (pgd es_4 y_6.Msg false) = true then (some ((5 : Int))) else (Option.bind (some (pset es_4 y_6.Msg true)) fun l15 => (clock_Check.l0 es_3 l15 a_12 x_13 (IntKind.wrap .i64 (x_14 + (1 : Int)))))) else (some ((4 : Int)))) else ((clock_Check.l0 es_3 es_4 a_12 x_13 (IntKind.wrap .i64 (x_14 + (1 : Int)))))) := fixF_eq clock_Check.l0_k.mono _
def clock_Check.l0_k.I : (p : clock_Check.l0_k.Pt) → (Int) → Prop
  | .l0 es_3 es_4 a_12 x_13 x_14, r => ∀ (W : Nat → Prop) (h0 m0 h m : Heap) (bk_3 : Nat) (bk_4 : Nat) (A_12 : Option Addr) (n_12 c_12 : Nat) (O : Hold W h0 m0 h m [rM (monoV0 tell_bool) (fun n : Int => Value.int .i64 n) bk_3 es_3, rM (monoV0 tell_bool) (fun n : Int => Value.int .i64 n) bk_4 es_4]) (ne_12 : n_12 = List.length a_12) (k_12 : List.length a_12 ≤ c_12) (r_12 : Rd 3 T_api_Event.E m A_12 a_12), f64.l0 (clock_Check.post W h0 m0 r) (Value.map (some bk_3)) (Value.map (some bk_4)) A_12 n_12 c_12 x_13 x_14 h
  | .j0 es_3 es_4 y_6 a_12 x_13 x_14, r => ∀ (W : Nat → Prop) (h0 m0 h m : Heap) (bk_3 : Nat) (bk_4 : Nat) (bk_6 : Nat) (cs_6 : List Value) (A_12 : Option Addr) (n_12 c_12 : Nat) (O : Hold W h0 m0 h m [rM (monoV0 tell_bool) (fun n : Int => Value.int .i64 n) bk_3 es_3, rM (monoV0 tell_bool) (fun n : Int => Value.int .i64 n) bk_4 es_4, rV bk_6 36 cs_6]) (e_6 : T_api_Event.E m y_6 cs_6) (ne_12 : n_12 = List.length a_12) (k_12 : List.length a_12 ≤ c_12) (r_12 : Rd 3 T_api_Event.E m A_12 a_12), f64.j0 (clock_Check.post W h0 m0 r) (Value.map (some bk_3)) (Value.map (some bk_4)) (⟨bk_6, 0, none⟩ : Addr) A_12 n_12 c_12 x_13 x_14 h
  | .j1 es_3 es_4 y_6 a_12 x_13 x_14, r => ∀ (W : Nat → Prop) (h0 m0 h m : Heap) (bk_3 : Nat) (bk_4 : Nat) (bk_6 : Nat) (cs_6 : List Value) (A_12 : Option Addr) (n_12 c_12 : Nat) (O : Hold W h0 m0 h m [rM (monoV0 tell_bool) (fun n : Int => Value.int .i64 n) bk_3 es_3, rM (monoV0 tell_bool) (fun n : Int => Value.int .i64 n) bk_4 es_4, rV bk_6 36 cs_6]) (e_6 : T_api_Event.E m y_6 cs_6) (ne_12 : n_12 = List.length a_12) (k_12 : List.length a_12 ≤ c_12) (r_12 : Rd 3 T_api_Event.E m A_12 a_12), f64.j1 (clock_Check.post W h0 m0 r) (Value.map (some bk_3)) (Value.map (some bk_4)) (⟨bk_6, 0, none⟩ : Addr) A_12 n_12 c_12 x_13 x_14 h
set_option maxRecDepth 100000 in
theorem clock_Check.l0_k.step_l0 (go : (p : clock_Check.l0_k.Pt) → Option (Int)) (ih : ∀ p r, go p = some r → clock_Check.l0_k.I p r) (es_3 : (List (Int × Bool))) (es_4 : (List (Int × Bool))) (a_12 : List T_api_Event) (x_13 : Int) (x_14 : Int) (r : Int) (e : clock_Check.l0_k.body go (.l0 es_3 es_4 a_12 x_13 x_14) = some r) : clock_Check.l0_k.I (.l0 es_3 es_4 a_12 x_13 x_14) r := by
  unfold clock_Check.l0_k.body at e
  intro W h0 m0 h m bk_3 bk_4 A_12 n_12 c_12 O ne_12 k_12 r_12
  subst ne_12
  refine f64.l0_in ?_
  unfold f64.l0T
  refine split_dec_e e (fun c19 e => ?_) (fun c19 e => ?_)
  · obtain ⟨y1, g2, e⟩ := bind_e e
    refine r_12.addr rfl g2 fun a3 cs4 ha5 hc6 he7 => ?_
    refine ⟨_, ldAn O.s hc6 rfl, ?_⟩
    refine O.new fun h8 x9 O10 => ?_
    refine ⟨_, rfl, (T_api_Event.T.len _ _ _ he7), ?_⟩
    refine O10.stA 2 rfl (T_api_Event.T.len _ _ _ he7) (T_api_Event.T.flat _ _ _ he7) fun h12 O13 => ?_
    refine ⟨_, ldk (k := 1) (Sub.refl _) (O13.all 2 rfl) (T_api_Event.g1 he7), _, rfl, ?_⟩
    refine split_dec_e e (fun c18 e => ?_) (fun c18 e => ?_)
    · have O14 := O13.nm
      cases e
      exact ⟨_, O14.pick [], rfl⟩
    · refine ⟨_, ldk (k := 1) (Sub.refl _) (O13.all 2 rfl) (T_api_Event.g1 he7), _, rfl, ?_⟩
      refine split_dec_e e (fun c17 e => ?_) (fun c17 e => ?_)
      · have O15 := O13.nm
        cases e
        exact ⟨_, O15.pick [], rfl⟩
      · have O16 := O13.nm
        exact (ih _ _ e) _ _ _ _ _ _ _ _ _ _ _ _ (O16.pick [0, 1, 2]).nm he7 rfl k_12 r_12
  · cases e
    exact ⟨_, O.pick [], rfl⟩
set_option maxRecDepth 100000 in
theorem clock_Check.l0_k.step_j0 (go : (p : clock_Check.l0_k.Pt) → Option (Int)) (ih : ∀ p r, go p = some r → clock_Check.l0_k.I p r) (es_3 : (List (Int × Bool))) (es_4 : (List (Int × Bool))) (y_6 : T_api_Event) (a_12 : List T_api_Event) (x_13 : Int) (x_14 : Int) (r : Int) (e : clock_Check.l0_k.body go (.j0 es_3 es_4 y_6 a_12 x_13 x_14) = some r) : clock_Check.l0_k.I (.j0 es_3 es_4 y_6 a_12 x_13 x_14) r := by
  unfold clock_Check.l0_k.body at e
  intro W h0 m0 h m bk_3 bk_4 bk_6 cs_6 A_12 n_12 c_12 O e_6 ne_12 k_12 r_12
  subst ne_12
  refine f64.j0_in ?_
  unfold f64.j0T
  refine ⟨_, ld0 (Sub.refl _) (O.all 2 rfl) (T_api_Event.g0 e_6), _, rfl, ?_⟩
  refine split_dec_e e (fun c5 e => ?_) (fun c5 e => ?_)
  · cases e
    exact ⟨_, O.pick [], rfl⟩
  · refine ⟨_, ld0 (Sub.refl _) (O.all 2 rfl) (T_api_Event.g0 e_6), _, rfl, ?_⟩
    refine split_dec_e e (fun c4 e => ?_) (fun c4 e => ?_)
    · cases e
      exact ⟨_, O.pick [], rfl⟩
    · refine ⟨_, ldk (k := 1) (Sub.refl _) (O.all 2 rfl) (T_api_Event.g1 e_6), _, rfl, ?_⟩
      refine split_ne_e e (fun c3 e => ?_) (fun c3 e => ?_)
      · refine ⟨_, ldk (k := 2) (Sub.refl _) (O.all 2 rfl) (T_api_Event.g2 e_6), _, rfl, ?_⟩
        refine split_dec_e e (fun c2 e => ?_) (fun c2 e => ?_)
        · cases e
          exact ⟨_, O.pick [], rfl⟩
        · refine ⟨_, ldk (k := 2) (Sub.refl _) (O.all 2 rfl) (T_api_Event.g2 e_6), _, rfl, ?_⟩
          refine split_dec_e e (fun c1 e => ?_) (fun c1 e => ?_)
          · cases e
            exact ⟨_, O.pick [], rfl⟩
          · exact (ih _ _ e) _ _ _ _ _ _ _ _ _ _ _ _ (O.pick [0, 1, 2]).nm e_6 rfl k_12 r_12
      · exact (ih _ _ e) _ _ _ _ _ _ _ _ _ _ _ _ (O.pick [0, 1, 2]).nm e_6 rfl k_12 r_12
set_option maxHeartbeats 4000000 in
set_option maxRecDepth 100000 in
theorem clock_Check.l0_k.step_j1 (go : (p : clock_Check.l0_k.Pt) → Option (Int)) (ih : ∀ p r, go p = some r → clock_Check.l0_k.I p r) (es_3 : (List (Int × Bool))) (es_4 : (List (Int × Bool))) (y_6 : T_api_Event) (a_12 : List T_api_Event) (x_13 : Int) (x_14 : Int) (r : Int) (e : clock_Check.l0_k.body go (.j1 es_3 es_4 y_6 a_12 x_13 x_14) = some r) : clock_Check.l0_k.I (.j1 es_3 es_4 y_6 a_12 x_13 x_14) r := by
  unfold clock_Check.l0_k.body at e
  intro W h0 m0 h m bk_3 bk_4 bk_6 cs_6 A_12 n_12 c_12 O e_6 ne_12 k_12 r_12
  subst ne_12
  refine f64.j1_in ?_
  unfold f64.j1T
  refine ⟨_, ldk (k := 1) (Sub.refl _) (O.all 2 rfl) (T_api_Event.g1 e_6), _, rfl, ?_⟩
  refine split_eq_e e (fun c21 e => ?_) (fun c21 e => ?_)
  · refine ⟨_, ldk (k := 2) (Sub.refl _) (O.all 2 rfl) (T_api_Event.g2 e_6), _, rfl, ?_⟩
    refine (O.om 0 rfl).look (zv := false) (z := (Value.bool false)) (keyOk_int (key := 3) (elem := 4) (by kernel_rfl) (by kernel_rfl)) y_6.Msg (by kernel_rfl) rfl (fun v1 hv2 => ?_)
    obtain rfl : v1 = (Value.bool (pgd es_3 y_6.Msg false)) := (List.cons.inj (show [v1] = [(Value.bool (pgd es_3 y_6.Msg false))] from hv2)).1
    refine ⟨_, rfl, ?_⟩
    refine split_any_e e (fun c8 e => ?_) (fun c8 e => ?_)
    · cases e
      exact ⟨_, O.pick [], rfl⟩
    · refine ⟨_, ldk (k := 2) (Sub.refl _) (O.all 2 rfl) (T_api_Event.g2 e_6), _, rfl, ?_⟩
      obtain ⟨l5, g6, e⟩ := bind_e e
      replace g6 := Option.some.inj g6
      refine O.mapUpd (x := true) (v := (Value.bool true)) 0 rfl (keyOk_int (key := 3) (elem := 4) (by kernel_rfl) (by kernel_rfl)) y_6.Msg (show (eV0 eBool) m true (Value.bool true) from rfl) g6 fun h3 O4 => ?_
      have O7 := O4.nm
      exact (ih _ _ e) _ _ _ _ _ _ _ _ _ _ (O7.pick [0, 1]).nm rfl k_12 r_12
  · refine split_eq_e e (fun c20 e => ?_) (fun c20 e => ?_)
    · refine ⟨_, ldk (k := 2) (Sub.refl _) (O.all 2 rfl) (T_api_Event.g2 e_6), _, rfl, ?_⟩
      refine (O.om 0 rfl).look (zv := false) (z := (Value.bool false)) (keyOk_int (key := 3) (elem := 4) (by kernel_rfl) (by kernel_rfl)) y_6.Msg (by kernel_rfl) rfl (fun v9 hv10 => ?_)
      obtain rfl : v9 = (Value.bool (pgd es_3 y_6.Msg false)) := (List.cons.inj (show [v9] = [(Value.bool (pgd es_3 y_6.Msg false))] from hv10)).1
      refine ⟨_, rfl, ?_⟩
      refine split_not ?_
      refine split_any_e e (fun c19 e => ?_) (fun c19 e => ?_)
      · refine ⟨_, ldk (k := 2) (Sub.refl _) (O.all 2 rfl) (T_api_Event.g2 e_6), _, rfl, ?_⟩
        refine (O.om 1 rfl).look (zv := false) (z := (Value.bool false)) (keyOk_int (key := 3) (elem := 4) (by kernel_rfl) (by kernel_rfl)) y_6.Msg (by kernel_rfl) rfl (fun v11 hv12 => ?_)
        obtain rfl : v11 = (Value.bool (pgd es_4 y_6.Msg false)) := (List.cons.inj (show [v11] = [(Value.bool (pgd es_4 y_6.Msg false))] from hv12)).1
        refine ⟨_, rfl, ?_⟩
        refine split_any_e e (fun c18 e => ?_) (fun c18 e => ?_)
        · cases e
          exact ⟨_, O.pick [], rfl⟩
        · refine ⟨_, ldk (k := 2) (Sub.refl _) (O.all 2 rfl) (T_api_Event.g2 e_6), _, rfl, ?_⟩
          obtain ⟨l15, g16, e⟩ := bind_e e
          replace g16 := Option.some.inj g16
          refine O.mapUpd (x := true) (v := (Value.bool true)) 1 rfl (keyOk_int (key := 3) (elem := 4) (by kernel_rfl) (by kernel_rfl)) y_6.Msg (show (eV0 eBool) m true (Value.bool true) from rfl) g16 fun h13 O14 => ?_
          have O17 := O14.nm
          exact (ih _ _ e) _ _ _ _ _ _ _ _ _ _ (O17.pick [0, 1]).nm rfl k_12 r_12
      · cases e
        exact ⟨_, O.pick [], rfl⟩
    · exact (ih _ _ e) _ _ _ _ _ _ _ _ _ _ (O.pick [0, 1]).nm rfl k_12 r_12
theorem clock_Check.l0_k.all {p : clock_Check.l0_k.Pt} {r : (Int)} (e : clock_Check.l0_k.go p = some r) : clock_Check.l0_k.I p r := fixF_ind (β := fun _ => (Int)) clock_Check.l0_k.mono (I := clock_Check.l0_k.I) (fun go ih p r e => match p with
  | .l0 es_3 es_4 a_12 x_13 x_14 => clock_Check.l0_k.step_l0 go ih es_3 es_4 a_12 x_13 x_14 r e
  | .j0 es_3 es_4 y_6 a_12 x_13 x_14 => clock_Check.l0_k.step_j0 go ih es_3 es_4 y_6 a_12 x_13 x_14 r e
  | .j1 es_3 es_4 y_6 a_12 x_13 x_14 => clock_Check.l0_k.step_j1 go ih es_3 es_4 y_6 a_12 x_13 x_14 r e
  ) e
theorem clock_Check.l0.walk {W : Nat → Prop} {h0 m0 h m : Heap} {bk_3 : Nat} {bk_4 : Nat} {A_12 : Option Addr} {n_12 c_12 : Nat} {es_3 : (List (Int × Bool))} {es_4 : (List (Int × Bool))} {a_12 : List T_api_Event} {x_13 : Int} {x_14 : Int} (O : Hold W h0 m0 h m [rM (monoV0 tell_bool) (fun n : Int => Value.int .i64 n) bk_3 es_3, rM (monoV0 tell_bool) (fun n : Int => Value.int .i64 n) bk_4 es_4]) (ne_12 : n_12 = List.length a_12) (k_12 : List.length a_12 ≤ c_12) (r_12 : Rd 3 T_api_Event.E m A_12 a_12) {r : Int} (e : clock_Check.l0 es_3 es_4 a_12 x_13 x_14 = some r) : f64.l0 (clock_Check.post W h0 m0 r) (Value.map (some bk_3)) (Value.map (some bk_4)) A_12 n_12 c_12 x_13 x_14 h := clock_Check.l0_k.all (p := .l0 es_3 es_4 a_12 x_13 x_14) e W h0 m0 h m bk_3 bk_4 A_12 n_12 c_12 O ne_12 k_12 r_12
noncomputable def clock_Check (a_0 : List T_api_Event) : Option (Int) :=
  if (((List.length a_0) : Nat) : Int) > (200 : Int) then (some ((2 : Int))) else ((clock_Check.l0 ([] : (List (Int × Bool))) ([] : (List (Int × Bool))) a_0 (((List.length a_0) : Nat) : Int) (0 : Int)))
set_option maxRecDepth 100000 in
theorem clock_Check.walk {W : Nat → Prop} {h m : Heap} {A_0 : Option Addr} {n_0 c_0 : Nat} {a_0 : List T_api_Event} (O : Hold W h m h m []) (ne_0 : n_0 = List.length a_0) (k_0 : List.length a_0 ≤ c_0) (r_0 : Rd 3 T_api_Event.E m A_0 a_0) {r : Int} (e : clock_Check a_0 = some r) : Run Try.prog 64 #[Value.slice A_0 n_0 c_0] h (clock_Check.post W h m r) := by
  unfold clock_Check at e
  subst ne_0
  refine f64.run ?_
  unfold f64.runT
  refine split_dec_e e (fun c10 e => ?_) (fun c10 e => ?_)
  · cases e
    exact ⟨_, O.pick [], rfl⟩
  · refine O.mkMap (ν := Bool) (monoV0 tell_bool) (fun n : Int => Value.int .i64 n) fun h1 x2 O3 => ?_
    refine O3.mkMap (ν := Bool) (monoV0 tell_bool) (fun n : Int => Value.int .i64 n) fun h5 x6 O7 => ?_
    have O9 := O7.nm
    exact clock_Check.l0.walk (O9.pick [0, 1]).nm rfl k_0 r_0 e
def cut_counts.post (W : Nat → Prop) (h0 m0 : Heap) (r : (List Int)) (v : Value) (h : Heap) : Prop := ∃ m A0 n0 c0, Hold W h0 m0 h m [rR (aE (tell_int .i64)) A0 c0 r] ∧ v = .slice A0 n0 c0 ∧ n0 = List.length r
inductive cut_counts.l0_k.Pt where
  | l0 (a_3 : List Int) (a_7 : List T_api_Event) (x_8 : Int) (x_9 : Int)
noncomputable def cut_counts.l0_k.body (go : (p : cut_counts.l0_k.Pt) → Option ((List Int))) : (p : cut_counts.l0_k.Pt) → Option ((List Int))
  | .l0 a_3 a_7 x_8 x_9 => if x_9 < x_8 then (Option.bind (gi a_7 x_9) fun y1 => Option.bind (gi a_3 y1.Place) fun y14 => Option.bind (gi a_3 y1.Place) fun y21 => Option.bind (some (List.set a_3 (Int.toNat y1.Place) (IntKind.wrap .i64 (y14 + (1 : Int))))) fun l30 => (go (.l0 l30 a_7 x_8 (IntKind.wrap .i64 (x_9 + (1 : Int)))))) else (some (a_3))
theorem cut_counts.l0_k.mono : MonoF (β := fun _ => ((List Int))) cut_counts.l0_k.body := fun f g hfg p => match p with
  | .l0 a_3 a_7 x_8 x_9 => LeO.ite (LeO.bind (LeO.refl _) fun y1 => LeO.bind (LeO.refl _) fun y14 => LeO.bind (LeO.refl _) fun y21 => LeO.bind (LeO.refl _) fun l30 => (hfg _)) (LeO.refl _)
noncomputable def cut_counts.l0_k.go (p : cut_counts.l0_k.Pt) : Option ((List Int)) := fixF (β := fun _ => ((List Int))) cut_counts.l0_k.body p
noncomputable def cut_counts.l0 (a_3 : List Int) (a_7 : List T_api_Event) (x_8 : Int) (x_9 : Int) : Option ((List Int)) := cut_counts.l0_k.go (.l0 a_3 a_7 x_8 x_9)
theorem cut_counts.l0_eq (a_3 : List Int) (a_7 : List T_api_Event) (x_8 : Int) (x_9 : Int) : cut_counts.l0 a_3 a_7 x_8 x_9 = if x_9 < x_8 then (Option.bind (gi a_7 x_9) fun y1 => Option.bind (gi a_3 y1.Place) fun y14 => Option.bind (gi a_3 y1.Place) fun y21 => Option.bind (some (List.set a_3 (Int.toNat y1.Place) (IntKind.wrap .i64 (y14 + (1 : Int))))) fun l30 => (cut_counts.l0 l30 a_7 x_8 (IntKind.wrap .i64 (x_9 + (1 : Int))))) else (some (a_3)) := fixF_eq cut_counts.l0_k.mono _
def cut_counts.l0_k.I : (p : cut_counts.l0_k.Pt) → ((List Int)) → Prop
  | .l0 a_3 a_7 x_8 x_9, r => ∀ (W : Nat → Prop) (h0 m0 h m : Heap) (A_3 : Option Addr) (n_3 c_3 : Nat) (A_7 : Option Addr) (n_7 c_7 : Nat) (O : Hold W h0 m0 h m [rR (aE (tell_int .i64)) A_3 c_3 a_3]) (ne_3 : n_3 = List.length a_3) (ne_7 : n_7 = List.length a_7) (k_7 : List.length a_7 ≤ c_7) (r_7 : Rd 3 T_api_Event.E m A_7 a_7), f65.l0 (cut_counts.post W h0 m0 r) A_3 n_3 c_3 A_7 n_7 c_7 x_8 x_9 h
set_option maxRecDepth 100000 in
theorem cut_counts.l0_k.step_l0 (go : (p : cut_counts.l0_k.Pt) → Option ((List Int))) (ih : ∀ p r, go p = some r → cut_counts.l0_k.I p r) (a_3 : List Int) (a_7 : List T_api_Event) (x_8 : Int) (x_9 : Int) (r : (List Int)) (e : cut_counts.l0_k.body go (.l0 a_3 a_7 x_8 x_9) = some r) : cut_counts.l0_k.I (.l0 a_3 a_7 x_8 x_9) r := by
  unfold cut_counts.l0_k.body at e
  intro W h0 m0 h m A_3 n_3 c_3 A_7 n_7 c_7 O ne_3 ne_7 k_7 r_7
  subst ne_3
  subst ne_7
  refine f65.l0_in ?_
  unfold f65.l0T
  refine split_dec_e e (fun c33 e => ?_) (fun c33 e => ?_)
  · obtain ⟨y1, g2, e⟩ := bind_e e
    refine r_7.addr rfl g2 fun a3 cs4 ha5 hc6 he7 => ?_
    refine ⟨_, ldAn O.s hc6 rfl, ?_⟩
    refine O.new fun h8 x9 O10 => ?_
    refine ⟨_, rfl, (T_api_Event.T.len _ _ _ he7), ?_⟩
    refine O10.stA 1 rfl (T_api_Event.T.len _ _ _ he7) (T_api_Event.T.flat _ _ _ he7) fun h12 O13 => ?_
    refine ⟨_, ld0 (Sub.refl _) (O13.all 1 rfl) (T_api_Event.g0 he7), _, rfl, ?_⟩
    obtain ⟨y14, g15, e⟩ := bind_e e
    refine (O13.os 0 rfl).addr rfl g15 fun a16 cs17 ha18 hc19 he20 => ?_
    obtain rfl : cs17 = [(Value.int .i64 y14)] := he20
    refine ⟨_, ld0 (Sub.refl _) hc19 rfl, _, rfl, ?_⟩
    obtain ⟨y21, g22, e⟩ := bind_e e
    refine (O13.os 0 rfl).addr rfl g22 fun a23 cs24 ha25 hc26 he27 => ?_
    obtain rfl : cs24 = [(Value.int .i64 y21)] := he27
    obtain ⟨l30, g31, e⟩ := bind_e e
    replace g31 := Option.some.inj g31
    refine O13.elst0 0 rfl g22 ha25 hc26 (by decide) (y' := (IntKind.wrap .i64 (y14 + (1 : Int)))) rfl trivial g31 fun h28 O29 => ?_
    have O32 := O29.nm
    exact (ih _ _ e) _ _ _ _ _ _ _ _ _ _ _ (O32.pick [0]).nm (lset' g31) rfl k_7 r_7
  · cases e
    exact ⟨_, _, _, _, O.pick [0], rfl, rfl⟩
theorem cut_counts.l0_k.all {p : cut_counts.l0_k.Pt} {r : ((List Int))} (e : cut_counts.l0_k.go p = some r) : cut_counts.l0_k.I p r := fixF_ind (β := fun _ => ((List Int))) cut_counts.l0_k.mono (I := cut_counts.l0_k.I) (fun go ih p r e => match p with
  | .l0 a_3 a_7 x_8 x_9 => cut_counts.l0_k.step_l0 go ih a_3 a_7 x_8 x_9 r e
  ) e
theorem cut_counts.l0.walk {W : Nat → Prop} {h0 m0 h m : Heap} {A_3 : Option Addr} {n_3 c_3 : Nat} {A_7 : Option Addr} {n_7 c_7 : Nat} {a_3 : List Int} {a_7 : List T_api_Event} {x_8 : Int} {x_9 : Int} (O : Hold W h0 m0 h m [rR (aE (tell_int .i64)) A_3 c_3 a_3]) (ne_3 : n_3 = List.length a_3) (ne_7 : n_7 = List.length a_7) (k_7 : List.length a_7 ≤ c_7) (r_7 : Rd 3 T_api_Event.E m A_7 a_7) {r : (List Int)} (e : cut_counts.l0 a_3 a_7 x_8 x_9 = some r) : f65.l0 (cut_counts.post W h0 m0 r) A_3 n_3 c_3 A_7 n_7 c_7 x_8 x_9 h := cut_counts.l0_k.all (p := .l0 a_3 a_7 x_8 x_9) e W h0 m0 h m A_3 n_3 c_3 A_7 n_7 c_7 O ne_3 ne_7 k_7 r_7
noncomputable def cut_counts (a_0 : List T_api_Event) : Option ((List Int)) :=
  Option.bind (mks 8 (8 : Int) (0 : Int)) fun l1 => (cut_counts.l0 l1 a_0 (((List.length a_0) : Nat) : Int) (0 : Int))
set_option maxRecDepth 100000 in
theorem cut_counts.walk {W : Nat → Prop} {h m : Heap} {A_0 : Option Addr} {n_0 c_0 : Nat} {a_0 : List T_api_Event} (O : Hold W h m h m []) (ne_0 : n_0 = List.length a_0) (k_0 : List.length a_0 ≤ c_0) (r_0 : Rd 3 T_api_Event.E m A_0 a_0) {r : (List Int)} (e : cut_counts a_0 = some r) : Run Try.prog 65 #[Value.slice A_0 n_0 c_0] h (cut_counts.post W h m r) := by
  unfold cut_counts at e
  subst ne_0
  refine f65.run ?_
  unfold f65.runT
  obtain ⟨l1, g2, e⟩ := bind_e e
  have q3 := mks_e g2
  refine ⟨q3.1, Int.le_refl _, q3.2.1, q3.2.2.1, ?_⟩
  refine O.new fun h4 x5 O6 => ?_
  have O7 := O6.made 0 rfl (aE (tell_int .i64)) g2 ⟨rfl, rfl⟩
  try rw [q3.2.2.2.1]
  have O9 := O7.nm
  exact cut_counts.l0.walk (O9.pick [0]).nm rfl rfl k_0 r_0 e
def cut_check.post (W : Nat → Prop) (h0 m0 : Heap) (r : Int) (v : Value) (h : Heap) : Prop := ∃ m , Hold W h0 m0 h m [] ∧ v = .int .i64 r
inductive cut_check.l0_k.Pt where
  | l0 (a_6 : List Int) (a_18 : List (List Int)) (x_19 : Int) (x_20 : Int)
  | l1 (a_6 : List Int) (a_18 : List (List Int)) (x_19 : Int) (x_20 : Int) (a_27 : List Int) (x_28 : Int) (x_29 : Int)
noncomputable def cut_check.l0_k.body (go : (p : cut_check.l0_k.Pt) → Option (Int)) : (p : cut_check.l0_k.Pt) → Option (Int)
  | .l0 a_6 a_18 x_19 x_20 => if x_20 < x_19 then (Option.bind (gi a_18 x_20) fun y1 => if (((List.length y1) : Nat) : Int) = (8 : Int) then ((go (.l1 a_6 a_18 x_19 x_20 y1 (((List.length y1) : Nat) : Int) (0 : Int)))) else (some ((3 : Int)))) else (some ((0 : Int)))
  | .l1 a_6 a_18 x_19 x_20 a_27 x_28 x_29 => if x_29 < x_28 then (Option.bind (gi a_27 x_29) fun y1 => if y1 < (0 : Int) then (some ((1 : Int))) else (Option.bind (gi a_6 x_29) fun y8 => if y1 > y8 then (some ((1 : Int))) else ((go (.l1 a_6 a_18 x_19 x_20 a_27 x_28 (IntKind.wrap .i64 (x_29 + (1 : Int)))))))) else ((go (.l0 a_6 a_18 x_19 (IntKind.wrap .i64 (x_20 + (1 : Int))))))
theorem cut_check.l0_k.mono : MonoF (β := fun _ => (Int)) cut_check.l0_k.body := fun f g hfg p => match p with
  | .l0 a_6 a_18 x_19 x_20 => LeO.ite (LeO.bind (LeO.refl _) fun y1 => LeO.ite ((hfg _)) (LeO.refl _)) (LeO.refl _)
  | .l1 a_6 a_18 x_19 x_20 a_27 x_28 x_29 => LeO.ite (LeO.bind (LeO.refl _) fun y1 => LeO.ite (LeO.refl _) (LeO.bind (LeO.refl _) fun y8 => LeO.ite (LeO.refl _) ((hfg _)))) ((hfg _))
noncomputable def cut_check.l0_k.go (p : cut_check.l0_k.Pt) : Option (Int) := fixF (β := fun _ => (Int)) cut_check.l0_k.body p
noncomputable def cut_check.l0 (a_6 : List Int) (a_18 : List (List Int)) (x_19 : Int) (x_20 : Int) : Option (Int) := cut_check.l0_k.go (.l0 a_6 a_18 x_19 x_20)
noncomputable def cut_check.l1 (a_6 : List Int) (a_18 : List (List Int)) (x_19 : Int) (x_20 : Int) (a_27 : List Int) (x_28 : Int) (x_29 : Int) : Option (Int) := cut_check.l0_k.go (.l1 a_6 a_18 x_19 x_20 a_27 x_28 x_29)
theorem cut_check.l0_eq (a_6 : List Int) (a_18 : List (List Int)) (x_19 : Int) (x_20 : Int) : cut_check.l0 a_6 a_18 x_19 x_20 = if x_20 < x_19 then (Option.bind (gi a_18 x_20) fun y1 => if (((List.length y1) : Nat) : Int) = (8 : Int) then ((cut_check.l1 a_6 a_18 x_19 x_20 y1 (((List.length y1) : Nat) : Int) (0 : Int))) else (some ((3 : Int)))) else (some ((0 : Int))) := fixF_eq cut_check.l0_k.mono _
theorem cut_check.l1_eq (a_6 : List Int) (a_18 : List (List Int)) (x_19 : Int) (x_20 : Int) (a_27 : List Int) (x_28 : Int) (x_29 : Int) : cut_check.l1 a_6 a_18 x_19 x_20 a_27 x_28 x_29 = if x_29 < x_28 then (Option.bind (gi a_27 x_29) fun y1 => if y1 < (0 : Int) then (some ((1 : Int))) else (Option.bind (gi a_6 x_29) fun y8 => if y1 > y8 then (some ((1 : Int))) else ((cut_check.l1 a_6 a_18 x_19 x_20 a_27 x_28 (IntKind.wrap .i64 (x_29 + (1 : Int))))))) else ((cut_check.l0 a_6 a_18 x_19 (IntKind.wrap .i64 (x_20 + (1 : Int))))) := fixF_eq cut_check.l0_k.mono _
def cut_check.l0_k.I : (p : cut_check.l0_k.Pt) → (Int) → Prop
  | .l0 a_6 a_18 x_19 x_20, r => ∀ (W : Nat → Prop) (h0 m0 h m : Heap) (A_6 : Option Addr) (n_6 c_6 : Nat) (A_18 : Option Addr) (n_18 c_18 : Nat) (O : Hold W h0 m0 h m [rR (aE (tell_int .i64)) A_6 c_6 a_6]) (ne_6 : n_6 = List.length a_6) (ne_18 : n_18 = List.length a_18) (k_18 : List.length a_18 ≤ c_18) (r_18 : Rd 1 (eRow 1 (eInt .i64)) m A_18 a_18), f35.l0 (cut_check.post W h0 m0 r) A_6 n_6 c_6 A_18 n_18 c_18 x_19 x_20 h
  | .l1 a_6 a_18 x_19 x_20 a_27 x_28 x_29, r => ∀ (W : Nat → Prop) (h0 m0 h m : Heap) (A_6 : Option Addr) (n_6 c_6 : Nat) (A_18 : Option Addr) (n_18 c_18 : Nat) (A_27 : Option Addr) (n_27 c_27 : Nat) (O : Hold W h0 m0 h m [rR (aE (tell_int .i64)) A_6 c_6 a_6]) (ne_6 : n_6 = List.length a_6) (ne_18 : n_18 = List.length a_18) (k_18 : List.length a_18 ≤ c_18) (r_18 : Rd 1 (eRow 1 (eInt .i64)) m A_18 a_18) (ne_27 : n_27 = List.length a_27) (k_27 : List.length a_27 ≤ c_27) (r_27 : Rd 1 (eInt .i64) m A_27 a_27), f35.l1 (cut_check.post W h0 m0 r) A_6 n_6 c_6 A_18 n_18 c_18 x_19 x_20 A_27 n_27 c_27 x_28 x_29 h
set_option maxRecDepth 100000 in
theorem cut_check.l0_k.step_l0 (go : (p : cut_check.l0_k.Pt) → Option (Int)) (ih : ∀ p r, go p = some r → cut_check.l0_k.I p r) (a_6 : List Int) (a_18 : List (List Int)) (x_19 : Int) (x_20 : Int) (r : Int) (e : cut_check.l0_k.body go (.l0 a_6 a_18 x_19 x_20) = some r) : cut_check.l0_k.I (.l0 a_6 a_18 x_19 x_20) r := by
  unfold cut_check.l0_k.body at e
  intro W h0 m0 h m A_6 n_6 c_6 A_18 n_18 c_18 O ne_6 ne_18 k_18 r_18
  subst ne_6
  subst ne_18
  refine f35.l0_in ?_
  unfold f35.l0T
  refine split_dec_e e (fun c9 e => ?_) (fun c9 e => ?_)
  · obtain ⟨y1, g2, e⟩ := bind_e e
    refine r_18.addr rfl g2 fun a3 cs4 ha5 hc6 he7 => ?_
    obtain ⟨Acs4_0, ccs4_0, rfl, kcs4_0, rcs4_0⟩ := id he7
    refine ⟨_, ld0 O.s hc6 rfl, _, _, _, rfl, ?_⟩
    refine split_ne_e e (fun c8 e => ?_) (fun c8 e => ?_)
    · cases e
      exact ⟨_, O.pick [], rfl⟩
    · exact (ih _ _ e) _ _ _ _ _ _ _ _ _ _ _ _ _ _ (O.pick [0]).nm rfl rfl k_18 r_18 rfl kcs4_0 rcs4_0
  · cases e
    exact ⟨_, O.pick [], rfl⟩
set_option maxRecDepth 100000 in
theorem cut_check.l0_k.step_l1 (go : (p : cut_check.l0_k.Pt) → Option (Int)) (ih : ∀ p r, go p = some r → cut_check.l0_k.I p r) (a_6 : List Int) (a_18 : List (List Int)) (x_19 : Int) (x_20 : Int) (a_27 : List Int) (x_28 : Int) (x_29 : Int) (r : Int) (e : cut_check.l0_k.body go (.l1 a_6 a_18 x_19 x_20 a_27 x_28 x_29) = some r) : cut_check.l0_k.I (.l1 a_6 a_18 x_19 x_20 a_27 x_28 x_29) r := by
  unfold cut_check.l0_k.body at e
  intro W h0 m0 h m A_6 n_6 c_6 A_18 n_18 c_18 A_27 n_27 c_27 O ne_6 ne_18 k_18 r_18 ne_27 k_27 r_27
  subst ne_6
  subst ne_18
  subst ne_27
  refine f35.l1_in ?_
  unfold f35.l1T
  refine split_dec_e e (fun c17 e => ?_) (fun c17 e => ?_)
  · obtain ⟨y1, g2, e⟩ := bind_e e
    refine r_27.addr rfl g2 fun a3 cs4 ha5 hc6 he7 => ?_
    obtain rfl : cs4 = [(Value.int .i64 y1)] := he7
    refine ⟨_, ld0 O.s hc6 rfl, _, rfl, ?_⟩
    refine split_dec_e e (fun c16 e => ?_) (fun c16 e => ?_)
    · cases e
      exact ⟨_, O.pick [], rfl⟩
    · obtain ⟨y8, g9, e⟩ := bind_e e
      refine (O.os 0 rfl).addr rfl g9 fun a10 cs11 ha12 hc13 he14 => ?_
      obtain rfl : cs11 = [(Value.int .i64 y8)] := he14
      refine ⟨_, ld0 (Sub.refl _) hc13 rfl, _, rfl, ?_⟩
      refine split_dec_e e (fun c15 e => ?_) (fun c15 e => ?_)
      · cases e
        exact ⟨_, O.pick [], rfl⟩
      · exact (ih _ _ e) _ _ _ _ _ _ _ _ _ _ _ _ _ _ (O.pick [0]).nm rfl rfl k_18 r_18 rfl k_27 r_27
  · exact (ih _ _ e) _ _ _ _ _ _ _ _ _ _ _ (O.pick [0]).nm rfl rfl k_18 r_18
theorem cut_check.l0_k.all {p : cut_check.l0_k.Pt} {r : (Int)} (e : cut_check.l0_k.go p = some r) : cut_check.l0_k.I p r := fixF_ind (β := fun _ => (Int)) cut_check.l0_k.mono (I := cut_check.l0_k.I) (fun go ih p r e => match p with
  | .l0 a_6 a_18 x_19 x_20 => cut_check.l0_k.step_l0 go ih a_6 a_18 x_19 x_20 r e
  | .l1 a_6 a_18 x_19 x_20 a_27 x_28 x_29 => cut_check.l0_k.step_l1 go ih a_6 a_18 x_19 x_20 a_27 x_28 x_29 r e
  ) e
theorem cut_check.l0.walk {W : Nat → Prop} {h0 m0 h m : Heap} {A_6 : Option Addr} {n_6 c_6 : Nat} {A_18 : Option Addr} {n_18 c_18 : Nat} {a_6 : List Int} {a_18 : List (List Int)} {x_19 : Int} {x_20 : Int} (O : Hold W h0 m0 h m [rR (aE (tell_int .i64)) A_6 c_6 a_6]) (ne_6 : n_6 = List.length a_6) (ne_18 : n_18 = List.length a_18) (k_18 : List.length a_18 ≤ c_18) (r_18 : Rd 1 (eRow 1 (eInt .i64)) m A_18 a_18) {r : Int} (e : cut_check.l0 a_6 a_18 x_19 x_20 = some r) : f35.l0 (cut_check.post W h0 m0 r) A_6 n_6 c_6 A_18 n_18 c_18 x_19 x_20 h := cut_check.l0_k.all (p := .l0 a_6 a_18 x_19 x_20) e W h0 m0 h m A_6 n_6 c_6 A_18 n_18 c_18 O ne_6 ne_18 k_18 r_18
noncomputable def cut_check (a_0 : List T_api_Event) (a_1 : List (List Int)) : Option (Int) :=
  Option.bind (clock_Check a_0) fun y1 => if y1 = (0 : Int) then (Option.bind (cut_counts a_0) fun y8 => (cut_check.l0 y8 a_1 (((List.length a_1) : Nat) : Int) (0 : Int))) else (some (y1))
set_option maxRecDepth 100000 in
theorem cut_check.walk {W : Nat → Prop} {h m : Heap} {A_0 : Option Addr} {n_0 c_0 : Nat} {A_1 : Option Addr} {n_1 c_1 : Nat} {a_0 : List T_api_Event} {a_1 : List (List Int)} (O : Hold W h m h m []) (ne_0 : n_0 = List.length a_0) (k_0 : List.length a_0 ≤ c_0) (r_0 : Rd 3 T_api_Event.E m A_0 a_0) (ne_1 : n_1 = List.length a_1) (k_1 : List.length a_1 ≤ c_1) (r_1 : Rd 1 (eRow 1 (eInt .i64)) m A_1 a_1) {r : Int} (e : cut_check a_0 a_1 = some r) : Run Try.prog 35 #[Value.slice A_0 n_0 c_0, Value.slice A_1 n_1 c_1] h (cut_check.post W h m r) := by
  unfold cut_check at e
  subst ne_0
  subst ne_1
  refine f35.run ?_
  unfold f35.runT
  obtain ⟨y1, g2, e⟩ := bind_e e
  refine (clock_Check.walk (Hold.start (W := No) O.s) rfl k_0 r_0 g2).mono ?_
  rintro _ h3 ⟨m4, Q5, rfl⟩
  have O7 := Hold.nm (O.retC Q5 vfs_nil)
  refine ⟨_, rfl, ?_⟩
  refine split_ne_e e (fun c20 e => ?_) (fun c20 e => ?_)
  · cases e
    exact ⟨_, O7.pick [], rfl⟩
  · obtain ⟨y8, g9, e⟩ := bind_e e
    refine (cut_counts.walk (Hold.start (W := No) O7.s) rfl k_0 r_0 g9).mono ?_
    rintro _ h10 ⟨m11, A14, n15, c16, Q12, rfl, ne17⟩
    have O19 := Hold.nm (O7.retC Q12 (vfs_cons (rR_vf (aE_vf (fun _ _ _ _ h => h))) vfs_nil))
    subst ne17
    refine ⟨_, _, _, rfl, ?_⟩
    exact cut_check.l0.walk (O19.pick [0]).nm rfl rfl k_1 r_1 e
def cut_inside.post (W : Nat → Prop) (h0 m0 : Heap) (r : (List Bool)) (v : Value) (h : Heap) : Prop := ∃ m A0 n0 c0, Hold W h0 m0 h m [rR (aE tell_bool) A0 c0 r] ∧ v = .slice A0 n0 c0 ∧ n0 = List.length r
inductive cut_inside.l0_k.Pt where
  | l0 (a_1 : List Int) (y_5 : (List Int)) (a_6 : List Bool) (a_12 : List T_api_Event) (x_13 : Int) (x_14 : Int)
noncomputable def cut_inside.l0_k.body (go : (p : cut_inside.l0_k.Pt) → Option ((List Bool))) : (p : cut_inside.l0_k.Pt) → Option ((List Bool))
  | .l0 a_1 y_5 a_6 a_12 x_13 x_14 => if x_14 < x_13 then (Option.bind (gi a_12 x_14) fun y1 => Option.bind (gi y_5 y1.Place) fun y14 => Option.bind (gi y_5 y1.Place) fun y16 => Option.bind (some (List.set y_5 (Int.toNat y1.Place) (IntKind.wrap .i64 (y14 + (1 : Int))))) fun l18 => Option.bind (gi l18 y1.Place) fun y26 => Option.bind (gi a_1 y1.Place) fun y28 => Option.bind (gi a_6 x_14) fun y35 => Option.bind (some (List.set a_6 (Int.toNat x_14) (decide (y26 ≤ y28)))) fun l44 => (go (.l0 a_1 l18 l44 a_12 x_13 (IntKind.wrap .i64 (x_14 + (1 : Int)))))) else (some (a_6))
theorem cut_inside.l0_k.mono : MonoF (β := fun _ => ((List Bool))) cut_inside.l0_k.body := fun f g hfg p => match p with
  | .l0 a_1 y_5 a_6 a_12 x_13 x_14 => LeO.ite (LeO.bind (LeO.refl _) fun y1 => LeO.bind (LeO.refl _) fun y14 => LeO.bind (LeO.refl _) fun y16 => LeO.bind (LeO.refl _) fun l18 => LeO.bind (LeO.refl _) fun y26 => LeO.bind (LeO.refl _) fun y28 => LeO.bind (LeO.refl _) fun y35 => LeO.bind (LeO.refl _) fun l44 => (hfg _)) (LeO.refl _)
noncomputable def cut_inside.l0_k.go (p : cut_inside.l0_k.Pt) : Option ((List Bool)) := fixF (β := fun _ => ((List Bool))) cut_inside.l0_k.body p
noncomputable def cut_inside.l0 (a_1 : List Int) (y_5 : (List Int)) (a_6 : List Bool) (a_12 : List T_api_Event) (x_13 : Int) (x_14 : Int) : Option ((List Bool)) := cut_inside.l0_k.go (.l0 a_1 y_5 a_6 a_12 x_13 x_14)
theorem cut_inside.l0_eq (a_1 : List Int) (y_5 : (List Int)) (a_6 : List Bool) (a_12 : List T_api_Event) (x_13 : Int) (x_14 : Int) : cut_inside.l0 a_1 y_5 a_6 a_12 x_13 x_14 = if x_14 < x_13 then (Option.bind (gi a_12 x_14) fun y1 => Option.bind (gi y_5 y1.Place) fun y14 => Option.bind (gi y_5 y1.Place) fun y16 => Option.bind (some (List.set y_5 (Int.toNat y1.Place) (IntKind.wrap .i64 (y14 + (1 : Int))))) fun l18 => Option.bind (gi l18 y1.Place) fun y26 => Option.bind (gi a_1 y1.Place) fun y28 => Option.bind (gi a_6 x_14) fun y35 => Option.bind (some (List.set a_6 (Int.toNat x_14) (decide (y26 ≤ y28)))) fun l44 => (cut_inside.l0 a_1 l18 l44 a_12 x_13 (IntKind.wrap .i64 (x_14 + (1 : Int))))) else (some (a_6)) := fixF_eq cut_inside.l0_k.mono _
def cut_inside.l0_k.I : (p : cut_inside.l0_k.Pt) → ((List Bool)) → Prop
  | .l0 a_1 y_5 a_6 a_12 x_13 x_14, r => ∀ (W : Nat → Prop) (h0 m0 h m : Heap) (A_1 : Option Addr) (n_1 c_1 : Nat) (bk_5 : Nat) (cs_5 : List Value) (A_6 : Option Addr) (n_6 c_6 : Nat) (A_12 : Option Addr) (n_12 c_12 : Nat) (O : Hold W h0 m0 h m [rV bk_5 82 cs_5, rR (aE tell_bool) A_6 c_6 a_6]) (ne_1 : n_1 = List.length a_1) (k_1 : List.length a_1 ≤ c_1) (r_1 : Rd 1 (eInt .i64) m A_1 a_1) (e_5 : (eArr 8 (fun n : Int => Value.int .i64 n) (0 : Int)) m y_5 cs_5) (ne_6 : n_6 = List.length a_6) (ne_12 : n_12 = List.length a_12) (k_12 : List.length a_12 ≤ c_12) (r_12 : Rd 3 T_api_Event.E m A_12 a_12), f38.l0 (cut_inside.post W h0 m0 r) A_1 n_1 c_1 (⟨bk_5, 0, none⟩ : Addr) A_6 n_6 c_6 A_12 n_12 c_12 x_13 x_14 h
set_option maxHeartbeats 4000000 in
set_option maxRecDepth 100000 in
theorem cut_inside.l0_k.step_l0 (go : (p : cut_inside.l0_k.Pt) → Option ((List Bool))) (ih : ∀ p r, go p = some r → cut_inside.l0_k.I p r) (a_1 : List Int) (y_5 : (List Int)) (a_6 : List Bool) (a_12 : List T_api_Event) (x_13 : Int) (x_14 : Int) (r : (List Bool)) (e : cut_inside.l0_k.body go (.l0 a_1 y_5 a_6 a_12 x_13 x_14) = some r) : cut_inside.l0_k.I (.l0 a_1 y_5 a_6 a_12 x_13 x_14) r := by
  unfold cut_inside.l0_k.body at e
  intro W h0 m0 h m A_1 n_1 c_1 bk_5 cs_5 A_6 n_6 c_6 A_12 n_12 c_12 O ne_1 k_1 r_1 e_5 ne_6 ne_12 k_12 r_12
  subst ne_1
  have qe_5_0 := e_5.1
  obtain rfl : cs_5 = [(Value.int .i64 (List.getD y_5 0 (0 : Int))), (Value.int .i64 (List.getD y_5 1 (0 : Int))), (Value.int .i64 (List.getD y_5 2 (0 : Int))), (Value.int .i64 (List.getD y_5 3 (0 : Int))), (Value.int .i64 (List.getD y_5 4 (0 : Int))), (Value.int .i64 (List.getD y_5 5 (0 : Int))), (Value.int .i64 (List.getD y_5 6 (0 : Int))), (Value.int .i64 (List.getD y_5 7 (0 : Int)))] := e_5.2
  subst ne_6
  subst ne_12
  refine f38.l0_in ?_
  unfold f38.l0T
  refine split_dec_e e (fun c47 e => ?_) (fun c47 e => ?_)
  · obtain ⟨y1, g2, e⟩ := bind_e e
    refine r_12.addr rfl g2 fun a3 cs4 ha5 hc6 he7 => ?_
    refine ⟨_, ldAn O.s hc6 rfl, ?_⟩
    refine O.new fun h8 x9 O10 => ?_
    refine ⟨_, rfl, (T_api_Event.T.len _ _ _ he7), ?_⟩
    refine O10.stA 2 rfl (T_api_Event.T.len _ _ _ he7) (T_api_Event.T.flat _ _ _ he7) fun h12 O13 => ?_
    refine ⟨_, ld0 (Sub.refl _) (O13.all 2 rfl) (T_api_Event.g0 he7), _, rfl, ?_⟩
    obtain ⟨y14, g15, e⟩ := bind_e e
    refine ⟨gi_le g15, gi_ltn g15 qe_5_0, ?_⟩
    refine ⟨_, ldArr0 (n := 8) (f := (fun n : Int => Value.int .i64 n)) (d := (0 : Int)) (Sub.refl _) (O13.all 0 rfl) rfl qe_5_0 g15, _, rfl, ?_⟩
    obtain ⟨y16, g17, e⟩ := bind_e e
    refine ⟨gi_le g17, gi_ltn g17 qe_5_0, ?_⟩
    obtain ⟨l18, g19, e⟩ := bind_e e
    replace g19 := Option.some.inj g19
    have q20 : List.length l18 = 8 := by rw [← g19, List.length_set]; exact qe_5_0
    obtain ⟨h21, w22, o23, t24⟩ := (O13.ob 0 rfl).stArr0 (n := 8) (f := (fun n : Int => Value.int .i64 n)) (d := (0 : Int)) (v := (IntKind.wrap .i64 (y14 + (1 : Int)))) O13.s rfl (Nat.le_of_ble_eq_true rfl) qe_5_0 g17 trivial
    rw [g19] at o23
    refine ⟨h21, w22, ?_⟩
    have O25 := O13.setV 0 rfl (cs' := [(Value.int .i64 (List.getD l18 0 (0 : Int))), (Value.int .i64 (List.getD l18 1 (0 : Int))), (Value.int .i64 (List.getD l18 2 (0 : Int))), (Value.int .i64 (List.getD l18 3 (0 : Int))), (Value.int .i64 (List.getD l18 4 (0 : Int))), (Value.int .i64 (List.getD l18 5 (0 : Int))), (Value.int .i64 (List.getD l18 6 (0 : Int))), (Value.int .i64 (List.getD l18 7 (0 : Int)))]) o23 t24
    refine ⟨_, ld0 (Sub.refl _) (O25.all 2 rfl) (T_api_Event.g0 he7), _, rfl, ?_⟩
    obtain ⟨y26, g27, e⟩ := bind_e e
    refine ⟨gi_le g27, gi_ltn g27 q20, ?_⟩
    refine ⟨_, ldArr0 (n := 8) (f := (fun n : Int => Value.int .i64 n)) (d := (0 : Int)) (Sub.refl _) (O25.all 0 rfl) rfl q20 g27, _, rfl, ?_⟩
    refine ⟨_, ld0 (Sub.refl _) (O25.all 2 rfl) (T_api_Event.g0 he7), _, rfl, ?_⟩
    obtain ⟨y28, g29, e⟩ := bind_e e
    refine r_1.addr rfl g29 fun a30 cs31 ha32 hc33 he34 => ?_
    obtain rfl : cs31 = [(Value.int .i64 y28)] := he34
    refine ⟨_, ld0 O25.s hc33 rfl, _, rfl, ?_⟩
    obtain ⟨y35, g36, e⟩ := bind_e e
    refine (O25.os 1 rfl).addr rfl g36 fun a37 cs38 ha39 hc40 he41 => ?_
    obtain rfl : cs38 = [(Value.bool y35)] := he41
    obtain ⟨l44, g45, e⟩ := bind_e e
    replace g45 := Option.some.inj g45
    refine O25.elst0 1 rfl g36 ha39 hc40 (by decide) (y' := (decide (y26 ≤ y28))) rfl trivial g45 fun h42 O43 => ?_
    have O46 := O43.nm
    exact (ih _ _ e) _ _ _ _ _ _ _ _ _ _ _ _ _ _ _ _ (O46.pick [0, 1]).nm rfl k_1 r_1 ⟨q20, rfl⟩ (lset' g45) rfl k_12 r_12
  · cases e
    exact ⟨_, _, _, _, O.pick [1], rfl, rfl⟩
theorem cut_inside.l0_k.all {p : cut_inside.l0_k.Pt} {r : ((List Bool))} (e : cut_inside.l0_k.go p = some r) : cut_inside.l0_k.I p r := fixF_ind (β := fun _ => ((List Bool))) cut_inside.l0_k.mono (I := cut_inside.l0_k.I) (fun go ih p r e => match p with
  | .l0 a_1 y_5 a_6 a_12 x_13 x_14 => cut_inside.l0_k.step_l0 go ih a_1 y_5 a_6 a_12 x_13 x_14 r e
  ) e
theorem cut_inside.l0.walk {W : Nat → Prop} {h0 m0 h m : Heap} {A_1 : Option Addr} {n_1 c_1 : Nat} {bk_5 : Nat} {cs_5 : List Value} {A_6 : Option Addr} {n_6 c_6 : Nat} {A_12 : Option Addr} {n_12 c_12 : Nat} {a_1 : List Int} {y_5 : (List Int)} {a_6 : List Bool} {a_12 : List T_api_Event} {x_13 : Int} {x_14 : Int} (O : Hold W h0 m0 h m [rV bk_5 82 cs_5, rR (aE tell_bool) A_6 c_6 a_6]) (ne_1 : n_1 = List.length a_1) (k_1 : List.length a_1 ≤ c_1) (r_1 : Rd 1 (eInt .i64) m A_1 a_1) (e_5 : (eArr 8 (fun n : Int => Value.int .i64 n) (0 : Int)) m y_5 cs_5) (ne_6 : n_6 = List.length a_6) (ne_12 : n_12 = List.length a_12) (k_12 : List.length a_12 ≤ c_12) (r_12 : Rd 3 T_api_Event.E m A_12 a_12) {r : (List Bool)} (e : cut_inside.l0 a_1 y_5 a_6 a_12 x_13 x_14 = some r) : f38.l0 (cut_inside.post W h0 m0 r) A_1 n_1 c_1 (⟨bk_5, 0, none⟩ : Addr) A_6 n_6 c_6 A_12 n_12 c_12 x_13 x_14 h := cut_inside.l0_k.all (p := .l0 a_1 y_5 a_6 a_12 x_13 x_14) e W h0 m0 h m A_1 n_1 c_1 bk_5 cs_5 A_6 n_6 c_6 A_12 n_12 c_12 O ne_1 k_1 r_1 e_5 ne_6 ne_12 k_12 r_12
noncomputable def cut_inside (a_0 : List T_api_Event) (a_1 : List Int) : Option ((List Bool)) :=
  Option.bind (mks 1 (((List.length a_0) : Nat) : Int) false) fun l5 => (cut_inside.l0 a_1 (List.replicate 8 (0 : Int)) l5 a_0 (((List.length a_0) : Nat) : Int) (0 : Int))
set_option maxRecDepth 100000 in
theorem cut_inside.walk {W : Nat → Prop} {h m : Heap} {A_0 : Option Addr} {n_0 c_0 : Nat} {A_1 : Option Addr} {n_1 c_1 : Nat} {a_0 : List T_api_Event} {a_1 : List Int} (O : Hold W h m h m []) (ne_0 : n_0 = List.length a_0) (k_0 : List.length a_0 ≤ c_0) (r_0 : Rd 3 T_api_Event.E m A_0 a_0) (ne_1 : n_1 = List.length a_1) (k_1 : List.length a_1 ≤ c_1) (r_1 : Rd 1 (eInt .i64) m A_1 a_1) {r : (List Bool)} (e : cut_inside a_0 a_1 = some r) : Run Try.prog 38 #[Value.slice A_0 n_0 c_0, Value.slice A_1 n_1 c_1] h (cut_inside.post W h m r) := by
  unfold cut_inside at e
  subst ne_0
  subst ne_1
  refine f38.run ?_
  unfold f38.runT
  refine O.new fun h1 x2 O3 => ?_
  obtain ⟨l5, g6, e⟩ := bind_e e
  have q7 := mks_e g6
  refine ⟨q7.1, Int.le_refl _, q7.2.1, q7.2.2.1, ?_⟩
  refine O3.new fun h8 x9 O10 => ?_
  have O11 := O10.made 1 rfl (aE tell_bool) g6 ⟨rfl, rfl⟩
  try rw [q7.2.2.2.1]
  have O13 := O11.nm
  exact cut_inside.l0.walk (O13.pick [0, 1]).nm rfl k_1 r_1 ⟨rfl, rfl⟩ rfl rfl k_0 r_0 e
def cut_whole.post (W : Nat → Prop) (h0 m0 : Heap) (r : Bool) (v : Value) (h : Heap) : Prop := ∃ m , Hold W h0 m0 h m [] ∧ v = .bool r
inductive cut_whole.l0_k.Pt where
  | l0 (a_5 : List Bool) (es_6 : (List (Int × Bool))) (a_13 : List T_api_Event) (x_14 : Int) (x_15 : Int)
  | j0 (a_5 : List Bool) (es_6 : (List (Int × Bool))) (x_7 : Int) (y_8 : T_api_Event) (a_13 : List T_api_Event) (x_14 : Int) (x_15 : Int)
noncomputable def cut_whole.l0_k.body (go : (p : cut_whole.l0_k.Pt) → Option (Bool)) : (p : cut_whole.l0_k.Pt) → Option (Bool)
  | .l0 a_5 es_6 a_13 x_14 x_15 => if x_15 < x_14 then (Option.bind (gi a_13 x_15) fun y1 => if y1.Kind = (2 : Int) then (Option.bind (gi a_5 x_15) fun y14 => Option.bind (some (pset es_6 y1.Msg y14)) fun l23 => (go (.j0 a_5 l23 x_15 y1 a_13 x_14 x_15))) else ((go (.j0 a_5 es_6 x_15 y1 a_13 x_14 x_15)))) else (some (true))
  | .j0 a_5 es_6 x_7 y_8 a_13 x_14 x_15 => if y_8.Kind = (3 : Int) then (Option.bind (gi a_5 x_7) fun y1 => if y1 = true then (if (pgd es_6 y_8.Msg false) = true then ((go (.l0 a_5 es_6 a_13 x_14 (IntKind.wrap .i64 (x_15 + (1 : Int)))))) else (some (false))) else ((go (.l0 a_5 es_6 a_13 x_14 (IntKind.wrap .i64 (x_15 + (1 : Int))))))) else ((go (.l0 a_5 es_6 a_13 x_14 (IntKind.wrap .i64 (x_15 + (1 : Int))))))
theorem cut_whole.l0_k.mono : MonoF (β := fun _ => (Bool)) cut_whole.l0_k.body := fun f g hfg p => match p with
  | .l0 a_5 es_6 a_13 x_14 x_15 => LeO.ite (LeO.bind (LeO.refl _) fun y1 => LeO.ite (LeO.bind (LeO.refl _) fun y14 => LeO.bind (LeO.refl _) fun l23 => (hfg _)) ((hfg _))) (LeO.refl _)
  | .j0 a_5 es_6 x_7 y_8 a_13 x_14 x_15 => LeO.ite (LeO.bind (LeO.refl _) fun y1 => LeO.ite (LeO.ite ((hfg _)) (LeO.refl _)) ((hfg _))) ((hfg _))
noncomputable def cut_whole.l0_k.go (p : cut_whole.l0_k.Pt) : Option (Bool) := fixF (β := fun _ => (Bool)) cut_whole.l0_k.body p
noncomputable def cut_whole.l0 (a_5 : List Bool) (es_6 : (List (Int × Bool))) (a_13 : List T_api_Event) (x_14 : Int) (x_15 : Int) : Option (Bool) := cut_whole.l0_k.go (.l0 a_5 es_6 a_13 x_14 x_15)
noncomputable def cut_whole.j0 (a_5 : List Bool) (es_6 : (List (Int × Bool))) (x_7 : Int) (y_8 : T_api_Event) (a_13 : List T_api_Event) (x_14 : Int) (x_15 : Int) : Option (Bool) := cut_whole.l0_k.go (.j0 a_5 es_6 x_7 y_8 a_13 x_14 x_15)
theorem cut_whole.l0_eq (a_5 : List Bool) (es_6 : (List (Int × Bool))) (a_13 : List T_api_Event) (x_14 : Int) (x_15 : Int) : cut_whole.l0 a_5 es_6 a_13 x_14 x_15 = if x_15 < x_14 then (Option.bind (gi a_13 x_15) fun y1 => if y1.Kind = (2 : Int) then (Option.bind (gi a_5 x_15) fun y14 => Option.bind (some (pset es_6 y1.Msg y14)) fun l23 => (cut_whole.j0 a_5 l23 x_15 y1 a_13 x_14 x_15)) else ((cut_whole.j0 a_5 es_6 x_15 y1 a_13 x_14 x_15))) else (some (true)) := fixF_eq cut_whole.l0_k.mono _
theorem cut_whole.j0_eq (a_5 : List Bool) (es_6 : (List (Int × Bool))) (x_7 : Int) (y_8 : T_api_Event) (a_13 : List T_api_Event) (x_14 : Int) (x_15 : Int) : cut_whole.j0 a_5 es_6 x_7 y_8 a_13 x_14 x_15 = if y_8.Kind = (3 : Int) then (Option.bind (gi a_5 x_7) fun y1 => if y1 = true then (if (pgd es_6 y_8.Msg false) = true then ((cut_whole.l0 a_5 es_6 a_13 x_14 (IntKind.wrap .i64 (x_15 + (1 : Int))))) else (some (false))) else ((cut_whole.l0 a_5 es_6 a_13 x_14 (IntKind.wrap .i64 (x_15 + (1 : Int)))))) else ((cut_whole.l0 a_5 es_6 a_13 x_14 (IntKind.wrap .i64 (x_15 + (1 : Int))))) := fixF_eq cut_whole.l0_k.mono _
def cut_whole.l0_k.I : (p : cut_whole.l0_k.Pt) → (Bool) → Prop
  | .l0 a_5 es_6 a_13 x_14 x_15, r => ∀ (W : Nat → Prop) (h0 m0 h m : Heap) (A_5 : Option Addr) (n_5 c_5 : Nat) (bk_6 : Nat) (A_13 : Option Addr) (n_13 c_13 : Nat) (O : Hold W h0 m0 h m [rR (aE tell_bool) A_5 c_5 a_5, rM (monoV0 tell_bool) (fun n : Int => Value.int .i64 n) bk_6 es_6]) (ne_5 : n_5 = List.length a_5) (ne_13 : n_13 = List.length a_13) (k_13 : List.length a_13 ≤ c_13) (r_13 : Rd 3 T_api_Event.E m A_13 a_13), f36.l0 (cut_whole.post W h0 m0 r) A_5 n_5 c_5 (Value.map (some bk_6)) A_13 n_13 c_13 x_14 x_15 h
  | .j0 a_5 es_6 x_7 y_8 a_13 x_14 x_15, r => ∀ (W : Nat → Prop) (h0 m0 h m : Heap) (A_5 : Option Addr) (n_5 c_5 : Nat) (bk_6 : Nat) (bk_8 : Nat) (cs_8 : List Value) (A_13 : Option Addr) (n_13 c_13 : Nat) (O : Hold W h0 m0 h m [rR (aE tell_bool) A_5 c_5 a_5, rM (monoV0 tell_bool) (fun n : Int => Value.int .i64 n) bk_6 es_6, rV bk_8 36 cs_8]) (ne_5 : n_5 = List.length a_5) (e_8 : T_api_Event.E m y_8 cs_8) (ne_13 : n_13 = List.length a_13) (k_13 : List.length a_13 ≤ c_13) (r_13 : Rd 3 T_api_Event.E m A_13 a_13), f36.j0 (cut_whole.post W h0 m0 r) A_5 n_5 c_5 (Value.map (some bk_6)) x_7 (⟨bk_8, 0, none⟩ : Addr) A_13 n_13 c_13 x_14 x_15 h
set_option maxRecDepth 100000 in
theorem cut_whole.l0_k.step_l0 (go : (p : cut_whole.l0_k.Pt) → Option (Bool)) (ih : ∀ p r, go p = some r → cut_whole.l0_k.I p r) (a_5 : List Bool) (es_6 : (List (Int × Bool))) (a_13 : List T_api_Event) (x_14 : Int) (x_15 : Int) (r : Bool) (e : cut_whole.l0_k.body go (.l0 a_5 es_6 a_13 x_14 x_15) = some r) : cut_whole.l0_k.I (.l0 a_5 es_6 a_13 x_14 x_15) r := by
  unfold cut_whole.l0_k.body at e
  intro W h0 m0 h m A_5 n_5 c_5 bk_6 A_13 n_13 c_13 O ne_5 ne_13 k_13 r_13
  subst ne_5
  subst ne_13
  refine f36.l0_in ?_
  unfold f36.l0T
  refine split_dec_e e (fun c28 e => ?_) (fun c28 e => ?_)
  · obtain ⟨y1, g2, e⟩ := bind_e e
    refine r_13.addr rfl g2 fun a3 cs4 ha5 hc6 he7 => ?_
    refine ⟨_, ldAn O.s hc6 rfl, ?_⟩
    refine O.new fun h8 x9 O10 => ?_
    refine ⟨_, rfl, (T_api_Event.T.len _ _ _ he7), ?_⟩
    refine O10.stA 2 rfl (T_api_Event.T.len _ _ _ he7) (T_api_Event.T.flat _ _ _ he7) fun h12 O13 => ?_
    refine ⟨_, ldk (k := 1) (Sub.refl _) (O13.all 2 rfl) (T_api_Event.g1 he7), _, rfl, ?_⟩
    refine split_eq_e e (fun c27 e => ?_) (fun c27 e => ?_)
    · obtain ⟨y14, g15, e⟩ := bind_e e
      refine (O13.os 0 rfl).addr rfl g15 fun a16 cs17 ha18 hc19 he20 => ?_
      obtain rfl : cs17 = [(Value.bool y14)] := he20
      refine ⟨_, ldk (k := 2) (Sub.refl _) (O13.all 2 rfl) (T_api_Event.g2 he7), _, rfl, ?_⟩
      refine ⟨_, ld0 (Sub.refl _) hc19 rfl, _, rfl, ?_⟩
      obtain ⟨l23, g24, e⟩ := bind_e e
      replace g24 := Option.some.inj g24
      refine O13.mapUpd (x := y14) (v := (Value.bool y14)) 1 rfl (keyOk_int (key := 3) (elem := 4) (by kernel_rfl) (by kernel_rfl)) y1.Msg (show (eV0 eBool) m y14 (Value.bool y14) from rfl) g24 fun h21 O22 => ?_
      have O25 := O22.nm
      exact (ih _ _ e) _ _ _ _ _ _ _ _ _ _ _ _ _ _ (O25.pick [0, 1, 2]).nm rfl he7 rfl k_13 r_13
    · have O26 := O13.nm
      exact (ih _ _ e) _ _ _ _ _ _ _ _ _ _ _ _ _ _ (O26.pick [0, 1, 2]).nm rfl he7 rfl k_13 r_13
  · cases e
    exact ⟨_, O.pick [], rfl⟩
set_option maxRecDepth 100000 in
theorem cut_whole.l0_k.step_j0 (go : (p : cut_whole.l0_k.Pt) → Option (Bool)) (ih : ∀ p r, go p = some r → cut_whole.l0_k.I p r) (a_5 : List Bool) (es_6 : (List (Int × Bool))) (x_7 : Int) (y_8 : T_api_Event) (a_13 : List T_api_Event) (x_14 : Int) (x_15 : Int) (r : Bool) (e : cut_whole.l0_k.body go (.j0 a_5 es_6 x_7 y_8 a_13 x_14 x_15) = some r) : cut_whole.l0_k.I (.j0 a_5 es_6 x_7 y_8 a_13 x_14 x_15) r := by
  unfold cut_whole.l0_k.body at e
  intro W h0 m0 h m A_5 n_5 c_5 bk_6 bk_8 cs_8 A_13 n_13 c_13 O ne_5 e_8 ne_13 k_13 r_13
  subst ne_5
  subst ne_13
  refine f36.j0_in ?_
  unfold f36.j0T
  refine ⟨_, ldk (k := 1) (Sub.refl _) (O.all 2 rfl) (T_api_Event.g1 e_8), _, rfl, ?_⟩
  refine split_eq_e e (fun c12 e => ?_) (fun c12 e => ?_)
  · obtain ⟨y1, g2, e⟩ := bind_e e
    refine (O.os 0 rfl).addr rfl g2 fun a3 cs4 ha5 hc6 he7 => ?_
    obtain rfl : cs4 = [(Value.bool y1)] := he7
    refine ⟨_, ld0 (Sub.refl _) hc6 rfl, _, rfl, ?_⟩
    refine split_any_e e (fun c11 e => ?_) (fun c11 e => ?_)
    · refine ⟨_, ldk (k := 2) (Sub.refl _) (O.all 2 rfl) (T_api_Event.g2 e_8), _, rfl, ?_⟩
      refine (O.om 1 rfl).look (zv := false) (z := (Value.bool false)) (keyOk_int (key := 3) (elem := 4) (by kernel_rfl) (by kernel_rfl)) y_8.Msg (by kernel_rfl) rfl (fun v8 hv9 => ?_)
      obtain rfl : v8 = (Value.bool (pgd es_6 y_8.Msg false)) := (List.cons.inj (show [v8] = [(Value.bool (pgd es_6 y_8.Msg false))] from hv9)).1
      refine ⟨_, rfl, ?_⟩
      refine split_not ?_
      refine split_any_e e (fun c10 e => ?_) (fun c10 e => ?_)
      · exact (ih _ _ e) _ _ _ _ _ _ _ _ _ _ _ _ (O.pick [0, 1]).nm rfl rfl k_13 r_13
      · cases e
        exact ⟨_, O.pick [], rfl⟩
    · exact (ih _ _ e) _ _ _ _ _ _ _ _ _ _ _ _ (O.pick [0, 1]).nm rfl rfl k_13 r_13
  · exact (ih _ _ e) _ _ _ _ _ _ _ _ _ _ _ _ (O.pick [0, 1]).nm rfl rfl k_13 r_13
theorem cut_whole.l0_k.all {p : cut_whole.l0_k.Pt} {r : (Bool)} (e : cut_whole.l0_k.go p = some r) : cut_whole.l0_k.I p r := fixF_ind (β := fun _ => (Bool)) cut_whole.l0_k.mono (I := cut_whole.l0_k.I) (fun go ih p r e => match p with
  | .l0 a_5 es_6 a_13 x_14 x_15 => cut_whole.l0_k.step_l0 go ih a_5 es_6 a_13 x_14 x_15 r e
  | .j0 a_5 es_6 x_7 y_8 a_13 x_14 x_15 => cut_whole.l0_k.step_j0 go ih a_5 es_6 x_7 y_8 a_13 x_14 x_15 r e
  ) e
theorem cut_whole.l0.walk {W : Nat → Prop} {h0 m0 h m : Heap} {A_5 : Option Addr} {n_5 c_5 : Nat} {bk_6 : Nat} {A_13 : Option Addr} {n_13 c_13 : Nat} {a_5 : List Bool} {es_6 : (List (Int × Bool))} {a_13 : List T_api_Event} {x_14 : Int} {x_15 : Int} (O : Hold W h0 m0 h m [rR (aE tell_bool) A_5 c_5 a_5, rM (monoV0 tell_bool) (fun n : Int => Value.int .i64 n) bk_6 es_6]) (ne_5 : n_5 = List.length a_5) (ne_13 : n_13 = List.length a_13) (k_13 : List.length a_13 ≤ c_13) (r_13 : Rd 3 T_api_Event.E m A_13 a_13) {r : Bool} (e : cut_whole.l0 a_5 es_6 a_13 x_14 x_15 = some r) : f36.l0 (cut_whole.post W h0 m0 r) A_5 n_5 c_5 (Value.map (some bk_6)) A_13 n_13 c_13 x_14 x_15 h := cut_whole.l0_k.all (p := .l0 a_5 es_6 a_13 x_14 x_15) e W h0 m0 h m A_5 n_5 c_5 bk_6 A_13 n_13 c_13 O ne_5 ne_13 k_13 r_13
noncomputable def cut_whole (a_0 : List T_api_Event) (a_1 : List Int) : Option (Bool) :=
  Option.bind (cut_inside a_0 a_1) fun y1 => (cut_whole.l0 y1 ([] : (List (Int × Bool))) a_0 (((List.length a_0) : Nat) : Int) (0 : Int))
set_option maxRecDepth 100000 in
theorem cut_whole.walk {W : Nat → Prop} {h m : Heap} {A_0 : Option Addr} {n_0 c_0 : Nat} {A_1 : Option Addr} {n_1 c_1 : Nat} {a_0 : List T_api_Event} {a_1 : List Int} (O : Hold W h m h m []) (ne_0 : n_0 = List.length a_0) (k_0 : List.length a_0 ≤ c_0) (r_0 : Rd 3 T_api_Event.E m A_0 a_0) (ne_1 : n_1 = List.length a_1) (k_1 : List.length a_1 ≤ c_1) (r_1 : Rd 1 (eInt .i64) m A_1 a_1) {r : Bool} (e : cut_whole a_0 a_1 = some r) : Run Try.prog 36 #[Value.slice A_0 n_0 c_0, Value.slice A_1 n_1 c_1] h (cut_whole.post W h m r) := by
  unfold cut_whole at e
  subst ne_0
  subst ne_1
  refine f36.run ?_
  unfold f36.runT
  obtain ⟨y1, g2, e⟩ := bind_e e
  refine (cut_inside.walk (Hold.start (W := No) O.s) rfl k_0 r_0 rfl k_1 r_1 g2).mono ?_
  rintro _ h3 ⟨m4, A7, n8, c9, Q5, rfl, ne10⟩
  have O12 := Hold.nm (O.retC Q5 (vfs_cons (rR_vf (aE_vf (fun _ _ _ _ h => h))) vfs_nil))
  subst ne10
  refine ⟨_, _, _, rfl, ?_⟩
  refine O12.mkMap (ν := Bool) (monoV0 tell_bool) (fun n : Int => Value.int .i64 n) fun h13 x14 O15 => ?_
  have O17 := O15.nm
  exact cut_whole.l0.walk (O17.pick [0, 1]).nm rfl rfl k_0 r_0 e
def cut_Whole.post (W : Nat → Prop) (h0 m0 : Heap) (r : Bool × Int) (v : Value) (h : Heap) : Prop := ∃ m , Hold W h0 m0 h m [] ∧ v = .tuple #[.bool r.1, .int .i64 r.2]
noncomputable def cut_Whole (a_0 : List T_api_Event) (a_1 : List Int) : Option (Bool × Int) :=
  Option.bind (cut_check a_0 ([a_1] : List (List Int))) fun y6 => if y6 = (0 : Int) then (Option.bind (cut_whole a_0 a_1) fun y21 => some (y21, (0 : Int))) else (some (false, y6))
set_option maxRecDepth 100000 in
theorem cut_Whole.walk {W : Nat → Prop} {h m : Heap} {A_0 : Option Addr} {n_0 c_0 : Nat} {A_1 : Option Addr} {n_1 c_1 : Nat} {a_0 : List T_api_Event} {a_1 : List Int} (O : Hold W h m h m []) (ne_0 : n_0 = List.length a_0) (k_0 : List.length a_0 ≤ c_0) (r_0 : Rd 3 T_api_Event.E m A_0 a_0) (ne_1 : n_1 = List.length a_1) (k_1 : List.length a_1 ≤ c_1) (r_1 : Rd 1 (eInt .i64) m A_1 a_1) {r : Bool × Int} (e : cut_Whole a_0 a_1 = some r) : Run Try.prog 5 #[Value.slice A_0 n_0 c_0, Value.slice A_1 n_1 c_1] h (cut_Whole.post W h m r) := by
  unfold cut_Whole at e
  subst ne_0
  subst ne_1
  refine f5.run ?_
  unfold f5.runT
  refine O.new fun h1 x2 O3 => ?_
  obtain ⟨y6, g7, e⟩ := bind_e e
  have O5 := O3.rowE (l := ([a_1] : List (List Int))) 0 rfl (tell_row (tell_int .i64)) (show CsE _ _ _ _ _ from (CsE.cons (c1 := [(Value.slice A_1 (List.length a_1) c_1)]) ⟨_, _, rfl, k_1, r_1⟩ rfl CsE.nil)) rfl
  have O12 := O5.nm
  obtain ⟨m13, u14, s19, ⟨⟨r17, k18⟩, _⟩, B15, C16⟩ := O12.lend0 [0]
  replace r17 : Rd 1 (eRow 1 (eInt .i64)) m13 (some ⟨(Array.size h), 0, none⟩) ([a_1] : List (List Int)) := r17
  replace k18 : List.length ([a_1] : List (List Int)) ≤ 1 := k18
  refine (cut_check.walk (Hold.start (W := No) s19) rfl k_0 (r_0.sub T_api_Event.T u14) rfl k18 r17 g7).mono ?_
  rintro _ h8 ⟨m9, Q10, rfl⟩
  have O20 := Hold.nm (C16 Q10 vfs_nil)
  refine ⟨_, rfl, ?_⟩
  refine split_ne_e e (fun c28 e => ?_) (fun c28 e => ?_)
  · cases e
    exact ⟨_, O20.pick [], rfl⟩
  · obtain ⟨y21, g22, e⟩ := bind_e e
    refine (cut_whole.walk (Hold.start (W := No) O20.s) rfl k_0 r_0 rfl k_1 r_1 g22).mono ?_
    rintro _ h23 ⟨m24, Q25, rfl⟩
    have O27 := Hold.nm (O20.retC Q25 vfs_nil)
    refine ⟨_, rfl, ?_⟩
    cases e
    exact ⟨_, O27.pick [], rfl⟩
def roadlaw4_two.post (W : Nat → Prop) (h0 m0 : Heap) (r : (List T_api_Event)) (v : Value) (h : Heap) : Prop := ∃ m A0 n0 c0, Hold W h0 m0 h m [rR (aE T_api_Event.T) A0 c0 r] ∧ v = .slice A0 n0 c0 ∧ n0 = List.length r
noncomputable def roadlaw4_two  : Option ((List T_api_Event)) :=
  some (([(T_api_Event.mk (0 : Int) (2 : Int) (5 : Int)), (T_api_Event.mk (1 : Int) (3 : Int) (5 : Int))] : List T_api_Event))
set_option maxRecDepth 100000 in
theorem roadlaw4_two.walk {W : Nat → Prop} {h m : Heap}  (O : Hold W h m h m []) {r : (List T_api_Event)} (e : roadlaw4_two  = some r) : Run Try.prog 6 #[] h (roadlaw4_two.post W h m r) := by
  unfold roadlaw4_two at e
  refine f6.run ?_
  unfold f6.runT
  refine ⟨[(Value.int .i64 (0 : Int)), (Value.int .i64 (2 : Int)), (Value.int .i64 (5 : Int))], rfl, rfl, ?_⟩
  refine ⟨[(Value.int .i64 (1 : Int)), (Value.int .i64 (3 : Int)), (Value.int .i64 (5 : Int))], rfl, rfl, ?_⟩
  refine O.new fun h1 x2 O3 => ?_
  have O5 := O3.rowE (l := ([(T_api_Event.mk (0 : Int) (2 : Int) (5 : Int)), (T_api_Event.mk (1 : Int) (3 : Int) (5 : Int))] : List T_api_Event)) 0 rfl T_api_Event.T (show CsE _ _ _ _ _ from (CsE.cons (c1 := [(Value.int .i64 (0 : Int)), (Value.int .i64 (2 : Int)), (Value.int .i64 (5 : Int))]) (show T_api_Event.E _ (T_api_Event.mk (0 : Int) (2 : Int) (5 : Int)) [(Value.int .i64 (0 : Int)), (Value.int .i64 (2 : Int)), (Value.int .i64 (5 : Int))] from rfl) rfl (CsE.cons (c1 := [(Value.int .i64 (1 : Int)), (Value.int .i64 (3 : Int)), (Value.int .i64 (5 : Int))]) (show T_api_Event.E _ (T_api_Event.mk (1 : Int) (3 : Int) (5 : Int)) [(Value.int .i64 (1 : Int)), (Value.int .i64 (3 : Int)), (Value.int .i64 (5 : Int))] from rfl) rfl CsE.nil))) rfl
  have O6 := O5.nm
  cases e
  exact ⟨_, _, _, _, O6.pick [0], rfl, rfl⟩
def clock_at.post (W : Nat → Prop) (h0 m0 : Heap) (r : Int) (v : Value) (h : Heap) : Prop := ∃ m , Hold W h0 m0 h m [] ∧ v = .int .i64 r
noncomputable def clock_at (a_0 : List Int) (x_1 : Int) : Option (Int) :=
  if x_1 < (((List.length a_0) : Nat) : Int) then (Option.bind (gi a_0 x_1) fun y1 => some (y1)) else (some ((0 : Int)))
set_option maxRecDepth 100000 in
theorem clock_at.walk {W : Nat → Prop} {h m : Heap} {A_0 : Option Addr} {n_0 c_0 : Nat} {a_0 : List Int} {x_1 : Int} (O : Hold W h m h m []) (ne_0 : n_0 = List.length a_0) (k_0 : List.length a_0 ≤ c_0) (r_0 : Rd 1 (eInt .i64) m A_0 a_0) {r : Int} (e : clock_at a_0 x_1 = some r) : Run Try.prog 66 #[Value.slice A_0 n_0 c_0, Value.int .i64 x_1] h (clock_at.post W h m r) := by
  unfold clock_at at e
  subst ne_0
  refine f66.run ?_
  unfold f66.runT
  refine split_dec_e e (fun c8 e => ?_) (fun c8 e => ?_)
  · obtain ⟨y1, g2, e⟩ := bind_e e
    refine r_0.addr rfl g2 fun a3 cs4 ha5 hc6 he7 => ?_
    obtain rfl : cs4 = [(Value.int .i64 y1)] := he7
    refine ⟨_, ld0 O.s hc6 rfl, _, rfl, ?_⟩
    cases e
    exact ⟨_, O.pick [], rfl⟩
  · cases e
    exact ⟨_, O.pick [], rfl⟩
def clock_Join.post (W : Nat → Prop) (h0 m0 : Heap) (r : (List Int)) (v : Value) (h : Heap) : Prop := ∃ m A0 n0 c0, Hold W h0 m0 h m [rR (aE (tell_int .i64)) A0 c0 r] ∧ v = .slice A0 n0 c0 ∧ n0 = List.length r
inductive clock_Join.l0_k.Pt where
  | l0 (a_0 : List Int) (a_1 : List Int) (a_5 : List Int) (x_14 : Int) (x_15 : Int)
noncomputable def clock_Join.l0_k.body (go : (p : clock_Join.l0_k.Pt) → Option ((List Int))) : (p : clock_Join.l0_k.Pt) → Option ((List Int))
  | .l0 a_0 a_1 a_5 x_14 x_15 => if x_15 < x_14 then (Option.bind (clock_at a_0 x_15) fun y1 => Option.bind (clock_at a_1 x_15) fun y8 => Option.bind (gi a_5 x_15) fun y15 => Option.bind (some (List.set a_5 (Int.toNat x_15) (if y8 > y1 then y8 else y1))) fun l24 => (go (.l0 a_0 a_1 l24 x_14 (IntKind.wrap .i64 (x_15 + (1 : Int)))))) else (some (a_5))
theorem clock_Join.l0_k.mono : MonoF (β := fun _ => ((List Int))) clock_Join.l0_k.body := fun f g hfg p => match p with
  | .l0 a_0 a_1 a_5 x_14 x_15 => LeO.ite (LeO.bind (LeO.refl _) fun y1 => LeO.bind (LeO.refl _) fun y8 => LeO.bind (LeO.refl _) fun y15 => LeO.bind (LeO.refl _) fun l24 => (hfg _)) (LeO.refl _)
noncomputable def clock_Join.l0_k.go (p : clock_Join.l0_k.Pt) : Option ((List Int)) := fixF (β := fun _ => ((List Int))) clock_Join.l0_k.body p
noncomputable def clock_Join.l0 (a_0 : List Int) (a_1 : List Int) (a_5 : List Int) (x_14 : Int) (x_15 : Int) : Option ((List Int)) := clock_Join.l0_k.go (.l0 a_0 a_1 a_5 x_14 x_15)
theorem clock_Join.l0_eq (a_0 : List Int) (a_1 : List Int) (a_5 : List Int) (x_14 : Int) (x_15 : Int) : clock_Join.l0 a_0 a_1 a_5 x_14 x_15 = if x_15 < x_14 then (Option.bind (clock_at a_0 x_15) fun y1 => Option.bind (clock_at a_1 x_15) fun y8 => Option.bind (gi a_5 x_15) fun y15 => Option.bind (some (List.set a_5 (Int.toNat x_15) (if y8 > y1 then y8 else y1))) fun l24 => (clock_Join.l0 a_0 a_1 l24 x_14 (IntKind.wrap .i64 (x_15 + (1 : Int))))) else (some (a_5)) := fixF_eq clock_Join.l0_k.mono _
def clock_Join.l0_k.I : (p : clock_Join.l0_k.Pt) → ((List Int)) → Prop
  | .l0 a_0 a_1 a_5 x_14 x_15, r => ∀ (W : Nat → Prop) (h0 m0 h m : Heap) (A_0 : Option Addr) (n_0 c_0 : Nat) (A_1 : Option Addr) (n_1 c_1 : Nat) (A_5 : Option Addr) (n_5 c_5 : Nat) (O : Hold W h0 m0 h m [rR (aE (tell_int .i64)) A_5 c_5 a_5]) (ne_0 : n_0 = List.length a_0) (k_0 : List.length a_0 ≤ c_0) (r_0 : Rd 1 (eInt .i64) m A_0 a_0) (ne_1 : n_1 = List.length a_1) (k_1 : List.length a_1 ≤ c_1) (r_1 : Rd 1 (eInt .i64) m A_1 a_1) (ne_5 : n_5 = List.length a_5), f39.l0 (clock_Join.post W h0 m0 r) A_0 n_0 c_0 A_1 n_1 c_1 A_5 n_5 c_5 x_14 x_15 h
set_option maxRecDepth 100000 in
theorem clock_Join.l0_k.step_l0 (go : (p : clock_Join.l0_k.Pt) → Option ((List Int))) (ih : ∀ p r, go p = some r → clock_Join.l0_k.I p r) (a_0 : List Int) (a_1 : List Int) (a_5 : List Int) (x_14 : Int) (x_15 : Int) (r : (List Int)) (e : clock_Join.l0_k.body go (.l0 a_0 a_1 a_5 x_14 x_15) = some r) : clock_Join.l0_k.I (.l0 a_0 a_1 a_5 x_14 x_15) r := by
  unfold clock_Join.l0_k.body at e
  intro W h0 m0 h m A_0 n_0 c_0 A_1 n_1 c_1 A_5 n_5 c_5 O ne_0 k_0 r_0 ne_1 k_1 r_1 ne_5
  subst ne_0
  subst ne_1
  subst ne_5
  refine f39.l0_in ?_
  unfold f39.l0T
  refine split_dec_e e (fun c27 e => ?_) (fun c27 e => ?_)
  · obtain ⟨y1, g2, e⟩ := bind_e e
    refine (clock_at.walk (Hold.start (W := No) O.s) rfl k_0 r_0 g2).mono ?_
    rintro _ h3 ⟨m4, Q5, rfl⟩
    have O7 := Hold.nm (O.retC Q5 vfs_nil)
    refine ⟨_, rfl, ?_⟩
    obtain ⟨y8, g9, e⟩ := bind_e e
    refine (clock_at.walk (Hold.start (W := No) O7.s) rfl k_1 r_1 g9).mono ?_
    rintro _ h10 ⟨m11, Q12, rfl⟩
    have O14 := Hold.nm (O7.retC Q12 vfs_nil)
    refine ⟨_, rfl, ?_⟩
    obtain ⟨y15, g16, e⟩ := bind_e e
    refine (O14.os 0 rfl).addr rfl g16 fun a17 cs18 ha19 hc20 he21 => ?_
    obtain rfl : cs18 = [(Value.int .i64 y15)] := he21
    obtain ⟨l24, g25, e⟩ := bind_e e
    replace g25 := Option.some.inj g25
    refine O14.elst0 0 rfl g16 ha19 hc20 (by decide) (y' := (if y8 > y1 then y8 else y1)) rfl trivial g25 fun h22 O23 => ?_
    have O26 := O23.nm
    exact (ih _ _ e) _ _ _ _ _ _ _ _ _ _ _ _ _ _ (O26.pick [0]).nm rfl k_0 r_0 rfl k_1 r_1 (lset' g25)
  · cases e
    exact ⟨_, _, _, _, O.pick [0], rfl, rfl⟩
theorem clock_Join.l0_k.all {p : clock_Join.l0_k.Pt} {r : ((List Int))} (e : clock_Join.l0_k.go p = some r) : clock_Join.l0_k.I p r := fixF_ind (β := fun _ => ((List Int))) clock_Join.l0_k.mono (I := clock_Join.l0_k.I) (fun go ih p r e => match p with
  | .l0 a_0 a_1 a_5 x_14 x_15 => clock_Join.l0_k.step_l0 go ih a_0 a_1 a_5 x_14 x_15 r e
  ) e
theorem clock_Join.l0.walk {W : Nat → Prop} {h0 m0 h m : Heap} {A_0 : Option Addr} {n_0 c_0 : Nat} {A_1 : Option Addr} {n_1 c_1 : Nat} {A_5 : Option Addr} {n_5 c_5 : Nat} {a_0 : List Int} {a_1 : List Int} {a_5 : List Int} {x_14 : Int} {x_15 : Int} (O : Hold W h0 m0 h m [rR (aE (tell_int .i64)) A_5 c_5 a_5]) (ne_0 : n_0 = List.length a_0) (k_0 : List.length a_0 ≤ c_0) (r_0 : Rd 1 (eInt .i64) m A_0 a_0) (ne_1 : n_1 = List.length a_1) (k_1 : List.length a_1 ≤ c_1) (r_1 : Rd 1 (eInt .i64) m A_1 a_1) (ne_5 : n_5 = List.length a_5) {r : (List Int)} (e : clock_Join.l0 a_0 a_1 a_5 x_14 x_15 = some r) : f39.l0 (clock_Join.post W h0 m0 r) A_0 n_0 c_0 A_1 n_1 c_1 A_5 n_5 c_5 x_14 x_15 h := clock_Join.l0_k.all (p := .l0 a_0 a_1 a_5 x_14 x_15) e W h0 m0 h m A_0 n_0 c_0 A_1 n_1 c_1 A_5 n_5 c_5 O ne_0 k_0 r_0 ne_1 k_1 r_1 ne_5
noncomputable def clock_Join (a_0 : List Int) (a_1 : List Int) : Option ((List Int)) :=
  Option.bind (mks 8 (if (((List.length a_1) : Nat) : Int) > (((List.length a_0) : Nat) : Int) then (((List.length a_1) : Nat) : Int) else (((List.length a_0) : Nat) : Int)) (0 : Int)) fun l1 => (clock_Join.l0 a_0 a_1 l1 (((List.length l1) : Nat) : Int) (0 : Int))
set_option maxRecDepth 100000 in
theorem clock_Join.walk {W : Nat → Prop} {h m : Heap} {A_0 : Option Addr} {n_0 c_0 : Nat} {A_1 : Option Addr} {n_1 c_1 : Nat} {a_0 : List Int} {a_1 : List Int} (O : Hold W h m h m []) (ne_0 : n_0 = List.length a_0) (k_0 : List.length a_0 ≤ c_0) (r_0 : Rd 1 (eInt .i64) m A_0 a_0) (ne_1 : n_1 = List.length a_1) (k_1 : List.length a_1 ≤ c_1) (r_1 : Rd 1 (eInt .i64) m A_1 a_1) {r : (List Int)} (e : clock_Join a_0 a_1 = some r) : Run Try.prog 39 #[Value.slice A_0 n_0 c_0, Value.slice A_1 n_1 c_1] h (clock_Join.post W h m r) := by
  unfold clock_Join at e
  subst ne_0
  subst ne_1
  refine f39.run ?_
  unfold f39.runT
  obtain ⟨l1, g2, e⟩ := bind_e e
  have q3 := mks_e g2
  refine ⟨q3.1, Int.le_refl _, q3.2.1, q3.2.2.1, ?_⟩
  refine O.new fun h4 x5 O6 => ?_
  have O7 := O6.made 0 rfl (aE (tell_int .i64)) g2 ⟨rfl, rfl⟩
  try rw [q3.2.2.2.1]
  have O9 := O7.nm
  exact clock_Join.l0.walk (O9.pick [0]).nm rfl k_0 r_0 rfl k_1 r_1 rfl e
def slices_Clone_42.post (W : Nat → Prop) (h0 m0 : Heap) (r : (List Int)) (v : Value) (h : Heap) : Prop := ∃ m A0 n0 c0, Hold W h0 m0 h m [rR (aE (tell_int .i64)) A0 c0 r] ∧ v = .slice A0 n0 c0 ∧ n0 = List.length r
noncomputable def slices_Clone_42 (a0 : List Int) : Option (List Int) := ap 8 ([] : List Int) a0
set_option maxRecDepth 100000 in
theorem slices_Clone_42.walk {W : Nat → Prop} {h m : Heap} {A0 : Option Addr} {n0 c0 : Nat} {a0 : List Int} (O : Hold W h m h m []) (ne0 : n0 = List.length a0) (k0 : List.length a0 ≤ c0) (r0 : Rd 1 (eInt .i64) m A0 a0) {r : List Int} (e : slices_Clone_42 a0 = some r) : Run Try.prog 42 #[Value.slice A0 n0 c0] h (slices_Clone_42.post W h m r) := by
  unfold slices_Clone_42 at e
  subst ne0
  refine f42.run ?_
  unfold f42.runT
  cases A0 with
  | none =>
    refine split_t ?_
    obtain rfl := Rd.void r0
    obtain rfl : [] = r := by have := (ap_e e).2; simpa using this
    exact ⟨m, none, 0, 0, O.nil (aE (tell_int .i64)) none, rfl, rfl⟩
  | some a =>
    refine split_f ?_
    refine O.new fun h1 x1 O1 => ?_
    refine O1.appE0 (tell_int .i64) rfl rfl (r0.srcE (tell_int .i64) O1.s rfl) (by decide) e fun A4 c4 h4 x4 O4 => ?_
    refine ⟨_, _, _, rfl, ?_⟩
    exact ⟨m, _, _, _, O4.pick [1], rfl, rfl⟩
def clock_Clocks.post (W : Nat → Prop) (h0 m0 : Heap) (r : (List (List Int)) × Int) (v : Value) (h : Heap) : Prop := ∃ m A0 n0 c0, Hold W h0 m0 h m [rR (aE (tell_row (tell_int .i64))) A0 c0 r.1] ∧ v = .tuple #[.slice A0 n0 c0, .int .i64 r.2] ∧ n0 = List.length r.1
inductive clock_Clocks.l1_k.Pt where
  | l1 (y_5 : (List (List Int))) (es_7 : (List (Int × (List Int)))) (a_8 : List (List Int)) (a_25 : List T_api_Event) (x_26 : Int) (x_27 : Int)
  | j0 (y_5 : (List (List Int))) (es_7 : (List (Int × (List Int)))) (a_8 : List (List Int)) (y_10 : T_api_Event) (a_11 : List Int) (a_25 : List T_api_Event) (x_26 : Int) (x_27 : Int)
  | j1 (y_5 : (List (List Int))) (es_7 : (List (Int × (List Int)))) (a_8 : List (List Int)) (a_11 : List Int) (a_25 : List T_api_Event) (x_26 : Int) (x_27 : Int)
noncomputable def clock_Clocks.l1_k.body (go : (p : clock_Clocks.l1_k.Pt) → Option ((List (List Int)) × Int)) : (p : clock_Clocks.l1_k.Pt) → Option ((List (List Int)) × Int)
  | .l1 y_5 es_7 a_8 a_25 x_26 x_27 => if x_27 < x_26 then (Option.bind (gi a_25 x_27) fun y1 => Option.bind (gi y_5 y1.Place) fun y14 => Option.bind (slices_Clone_42 y14) fun y24 => if y1.Kind = (3 : Int) then (Option.bind (clock_Join y24 (pgd es_7 y1.Msg ([] : (List Int)))) fun y43 => (go (.j0 y_5 es_7 a_8 y1 y43 a_25 x_26 x_27))) else ((go (.j0 y_5 es_7 a_8 y1 y24 a_25 x_26 x_27)))) else (some (a_8, (0 : Int)))
  | .j0 y_5 es_7 a_8 y_10 a_11 a_25 x_26 x_27 => Option.bind (gi a_11 y_10.Place) fun y1 => Option.bind (gi a_11 y_10.Place) fun y8 => Option.bind (some (List.set a_11 (Int.toNat y_10.Place) (IntKind.wrap .i64 (y1 + (1 : Int))))) fun l17 => Option.bind (gi y_5 y_10.Place) fun y19 => Option.bind (some (List.set y_5 (Int.toNat y_10.Place) l17)) fun l30 => if y_10.Kind = (2 : Int) then (Option.bind (some (pset es_7 y_10.Msg l17)) fun l34 => (go (.j1 l30 l34 a_8 l17 a_25 x_26 x_27))) else ((go (.j1 l30 es_7 a_8 l17 a_25 x_26 x_27)))
  | .j1 y_5 es_7 a_8 a_11 a_25 x_26 x_27 => Option.bind (slices_Clone_42 a_11) fun y1 => Option.bind (ap 24 a_8 ([y1] : List (List Int))) fun l17 => (go (.l1 y_5 es_7 l17 a_25 x_26 (IntKind.wrap .i64 (x_27 + (1 : Int)))))
theorem clock_Clocks.l1_k.mono : MonoF (β := fun _ => ((List (List Int)) × Int)) clock_Clocks.l1_k.body := fun f g hfg p => match p with
  | .l1 y_5 es_7 a_8 a_25 x_26 x_27 => LeO.ite (LeO.bind (LeO.refl _) fun y1 => LeO.bind (LeO.refl _) fun y14 => LeO.bind (LeO.refl _) fun y24 => LeO.ite (LeO.bind (LeO.refl _) fun y43 => (hfg _)) ((hfg _))) (LeO.refl _)
  | .j0 y_5 es_7 a_8 y_10 a_11 a_25 x_26 x_27 => LeO.bind (LeO.refl _) fun y1 => LeO.bind (LeO.refl _) fun y8 => LeO.bind (LeO.refl _) fun l17 => LeO.bind (LeO.refl _) fun y19 => LeO.bind (LeO.refl _) fun l30 => LeO.ite (LeO.bind (LeO.refl _) fun l34 => (hfg _)) ((hfg _))
  | .j1 y_5 es_7 a_8 a_11 a_25 x_26 x_27 => LeO.bind (LeO.refl _) fun y1 => LeO.bind (LeO.refl _) fun l17 => (hfg _)
noncomputable def clock_Clocks.l1_k.go (p : clock_Clocks.l1_k.Pt) : Option ((List (List Int)) × Int) := fixF (β := fun _ => ((List (List Int)) × Int)) clock_Clocks.l1_k.body p
noncomputable def clock_Clocks.l1 (y_5 : (List (List Int))) (es_7 : (List (Int × (List Int)))) (a_8 : List (List Int)) (a_25 : List T_api_Event) (x_26 : Int) (x_27 : Int) : Option ((List (List Int)) × Int) := clock_Clocks.l1_k.go (.l1 y_5 es_7 a_8 a_25 x_26 x_27)
noncomputable def clock_Clocks.j0 (y_5 : (List (List Int))) (es_7 : (List (Int × (List Int)))) (a_8 : List (List Int)) (y_10 : T_api_Event) (a_11 : List Int) (a_25 : List T_api_Event) (x_26 : Int) (x_27 : Int) : Option ((List (List Int)) × Int) := clock_Clocks.l1_k.go (.j0 y_5 es_7 a_8 y_10 a_11 a_25 x_26 x_27)
noncomputable def clock_Clocks.j1 (y_5 : (List (List Int))) (es_7 : (List (Int × (List Int)))) (a_8 : List (List Int)) (a_11 : List Int) (a_25 : List T_api_Event) (x_26 : Int) (x_27 : Int) : Option ((List (List Int)) × Int) := clock_Clocks.l1_k.go (.j1 y_5 es_7 a_8 a_11 a_25 x_26 x_27)
theorem clock_Clocks.l1_eq (y_5 : (List (List Int))) (es_7 : (List (Int × (List Int)))) (a_8 : List (List Int)) (a_25 : List T_api_Event) (x_26 : Int) (x_27 : Int) : clock_Clocks.l1 y_5 es_7 a_8 a_25 x_26 x_27 = if x_27 < x_26 then (Option.bind (gi a_25 x_27) fun y1 => Option.bind (gi y_5 y1.Place) fun y14 => Option.bind (slices_Clone_42 y14) fun y24 => if y1.Kind = (3 : Int) then (Option.bind (clock_Join y24 (pgd es_7 y1.Msg ([] : (List Int)))) fun y43 => (clock_Clocks.j0 y_5 es_7 a_8 y1 y43 a_25 x_26 x_27)) else ((clock_Clocks.j0 y_5 es_7 a_8 y1 y24 a_25 x_26 x_27))) else (some (a_8, (0 : Int))) := fixF_eq clock_Clocks.l1_k.mono _
theorem clock_Clocks.j0_eq (y_5 : (List (List Int))) (es_7 : (List (Int × (List Int)))) (a_8 : List (List Int)) (y_10 : T_api_Event) (a_11 : List Int) (a_25 : List T_api_Event) (x_26 : Int) (x_27 : Int) : clock_Clocks.j0 y_5 es_7 a_8 y_10 a_11 a_25 x_26 x_27 = Option.bind (gi a_11 y_10.Place) fun y1 => Option.bind (gi a_11 y_10.Place) fun y8 => Option.bind (some (List.set a_11 (Int.toNat y_10.Place) (IntKind.wrap .i64 (y1 + (1 : Int))))) fun l17 => Option.bind (gi y_5 y_10.Place) fun y19 => Option.bind (some (List.set y_5 (Int.toNat y_10.Place) l17)) fun l30 => if y_10.Kind = (2 : Int) then (Option.bind (some (pset es_7 y_10.Msg l17)) fun l34 => (clock_Clocks.j1 l30 l34 a_8 l17 a_25 x_26 x_27)) else ((clock_Clocks.j1 l30 es_7 a_8 l17 a_25 x_26 x_27)) := fixF_eq clock_Clocks.l1_k.mono _
theorem clock_Clocks.j1_eq (y_5 : (List (List Int))) (es_7 : (List (Int × (List Int)))) (a_8 : List (List Int)) (a_11 : List Int) (a_25 : List T_api_Event) (x_26 : Int) (x_27 : Int) : clock_Clocks.j1 y_5 es_7 a_8 a_11 a_25 x_26 x_27 = Option.bind (slices_Clone_42 a_11) fun y1 => Option.bind (ap 24 a_8 ([y1] : List (List Int))) fun l17 => (clock_Clocks.l1 y_5 es_7 l17 a_25 x_26 (IntKind.wrap .i64 (x_27 + (1 : Int)))) := fixF_eq clock_Clocks.l1_k.mono _
def clock_Clocks.l1_k.I : (p : clock_Clocks.l1_k.Pt) → ((List (List Int)) × Int) → Prop
  | .l1 y_5 es_7 a_8 a_25 x_26 x_27, r => ∀ (W : Nat → Prop) (h0 m0 h m : Heap) (bk_5 : Nat) (cs_5 : List Value) (bk_7 : Nat) (A_8 : Option Addr) (n_8 c_8 : Nat) (A_25 : Option Addr) (n_25 c_25 : Nat) (O : Hold W h0 m0 h m [rV bk_5 124 cs_5, rM (monoV0 (tell_row (tell_int .i64))) (fun n : Int => Value.int .i64 n) bk_7 es_7, rR (aE (tell_row (tell_int .i64))) A_8 c_8 a_8]) (e_5 : (eArrE 8 1 (eRow 1 (eInt .i64))) m y_5 cs_5) (ne_8 : n_8 = List.length a_8) (ne_25 : n_25 = List.length a_25) (k_25 : List.length a_25 ≤ c_25) (r_25 : Rd 3 T_api_Event.E m A_25 a_25), f37.l1 (clock_Clocks.post W h0 m0 r) (⟨bk_5, 0, none⟩ : Addr) (Value.map (some bk_7)) A_8 n_8 c_8 A_25 n_25 c_25 x_26 x_27 h
  | .j0 y_5 es_7 a_8 y_10 a_11 a_25 x_26 x_27, r => ∀ (W : Nat → Prop) (h0 m0 h m : Heap) (bk_5 : Nat) (cs_5 : List Value) (bk_7 : Nat) (A_8 : Option Addr) (n_8 c_8 : Nat) (bk_10 : Nat) (cs_10 : List Value) (A_11 : Option Addr) (n_11 c_11 : Nat) (A_25 : Option Addr) (n_25 c_25 : Nat) (O : Hold W h0 m0 h m [rV bk_5 124 cs_5, rM (monoV0 (tell_row (tell_int .i64))) (fun n : Int => Value.int .i64 n) bk_7 es_7, rR (aE (tell_row (tell_int .i64))) A_8 c_8 a_8, rV bk_10 36 cs_10, rR (aE (tell_int .i64)) A_11 c_11 a_11]) (e_5 : (eArrE 8 1 (eRow 1 (eInt .i64))) m y_5 cs_5) (ne_8 : n_8 = List.length a_8) (e_10 : T_api_Event.E m y_10 cs_10) (ne_11 : n_11 = List.length a_11) (ne_25 : n_25 = List.length a_25) (k_25 : List.length a_25 ≤ c_25) (r_25 : Rd 3 T_api_Event.E m A_25 a_25), f37.j0 (clock_Clocks.post W h0 m0 r) (⟨bk_5, 0, none⟩ : Addr) (Value.map (some bk_7)) A_8 n_8 c_8 (⟨bk_10, 0, none⟩ : Addr) A_11 n_11 c_11 A_25 n_25 c_25 x_26 x_27 h
  | .j1 y_5 es_7 a_8 a_11 a_25 x_26 x_27, r => ∀ (W : Nat → Prop) (h0 m0 h m : Heap) (bk_5 : Nat) (cs_5 : List Value) (bk_7 : Nat) (A_8 : Option Addr) (n_8 c_8 : Nat) (A_11 : Option Addr) (n_11 c_11 : Nat) (A_25 : Option Addr) (n_25 c_25 : Nat) (O : Hold W h0 m0 h m [rV bk_5 124 cs_5, rM (monoV0 (tell_row (tell_int .i64))) (fun n : Int => Value.int .i64 n) bk_7 es_7, rR (aE (tell_row (tell_int .i64))) A_8 c_8 a_8]) (e_5 : (eArrE 8 1 (eRow 1 (eInt .i64))) m y_5 cs_5) (ne_8 : n_8 = List.length a_8) (ne_11 : n_11 = List.length a_11) (k_11 : List.length a_11 ≤ c_11) (r_11 : Rd 1 (eInt .i64) m A_11 a_11) (ne_25 : n_25 = List.length a_25) (k_25 : List.length a_25 ≤ c_25) (r_25 : Rd 3 T_api_Event.E m A_25 a_25), f37.j1 (clock_Clocks.post W h0 m0 r) (⟨bk_5, 0, none⟩ : Addr) (Value.map (some bk_7)) A_8 n_8 c_8 A_11 n_11 c_11 A_25 n_25 c_25 x_26 x_27 h
set_option maxHeartbeats 4000000 in
set_option maxRecDepth 100000 in
theorem clock_Clocks.l1_k.step_l1 (go : (p : clock_Clocks.l1_k.Pt) → Option ((List (List Int)) × Int)) (ih : ∀ p r, go p = some r → clock_Clocks.l1_k.I p r) (y_5 : (List (List Int))) (es_7 : (List (Int × (List Int)))) (a_8 : List (List Int)) (a_25 : List T_api_Event) (x_26 : Int) (x_27 : Int) (r : (List (List Int)) × Int) (e : clock_Clocks.l1_k.body go (.l1 y_5 es_7 a_8 a_25 x_26 x_27) = some r) : clock_Clocks.l1_k.I (.l1 y_5 es_7 a_8 a_25 x_26 x_27) r := by
  unfold clock_Clocks.l1_k.body at e
  intro W h0 m0 h m bk_5 cs_5 bk_7 A_8 n_8 c_8 A_25 n_25 c_25 O e_5 ne_8 ne_25 k_25 r_25
  subst ne_8
  subst ne_25
  refine f37.l1_in ?_
  unfold f37.l1T
  refine split_dec_e e (fun c63 e => ?_) (fun c63 e => ?_)
  · obtain ⟨y1, g2, e⟩ := bind_e e
    refine r_25.addr rfl g2 fun a3 cs4 ha5 hc6 he7 => ?_
    refine ⟨_, ldAn O.s hc6 rfl, ?_⟩
    refine O.new fun h8 x9 O10 => ?_
    refine ⟨_, rfl, (T_api_Event.T.len _ _ _ he7), ?_⟩
    refine O10.stA 3 rfl (T_api_Event.T.len _ _ _ he7) (T_api_Event.T.flat _ _ _ he7) fun h12 O13 => ?_
    refine ⟨_, ld0 (Sub.refl _) (O13.all 3 rfl) (T_api_Event.g0 he7), _, rfl, ?_⟩
    obtain ⟨y14, g15, e⟩ := bind_e e
    refine ⟨gi_le g15, eArrE.ltn e_5 g15, ?_⟩
    obtain ⟨v16, q17, he18⟩ := eArrE.get1 e_5 g15
    obtain ⟨A19, c20, q21, k22, r23⟩ := he18
    obtain rfl := (List.cons.inj q21).1
    refine ⟨_, ldk (k := Int.toNat y1.Place * 1) (Sub.refl _) (O13.all 0 rfl) q17, _, _, _, rfl, ?_⟩
    obtain ⟨y24, g25, e⟩ := bind_e e
    refine (slices_Clone_42.walk (Hold.start (W := No) O13.s) rfl k22 r23 g25).mono ?_
    rintro _ h26 ⟨m27, A30, n31, c32, Q28, rfl, ne33⟩
    have O35 := Hold.nm (O13.retC Q28 (vfs_cons (rR_vf (aE_vf (fun _ _ _ _ h => h))) vfs_nil))
    subst ne33
    refine ⟨_, _, _, rfl, ?_⟩
    refine ⟨_, ldk (k := 1) (Sub.refl _) (O35.all 3 rfl) (T_api_Event.g1 he7), _, rfl, ?_⟩
    refine split_eq_e e (fun c62 e => ?_) (fun c62 e => ?_)
    · refine ⟨_, ldk (k := 2) (Sub.refl _) (O35.all 3 rfl) (T_api_Event.g2 he7), _, rfl, ?_⟩
      refine (O35.om 1 rfl).look (zv := ([] : (List Int))) (z := (Value.slice none 0 0)) (keyOk_int (key := 3) (elem := 23) (by kernel_rfl) (by kernel_rfl)) y1.Msg (by kernel_rfl) ⟨_, _, rfl, (by exact Nat.le_refl 0), Rd.nil⟩ (fun v36 hv37 => ?_)
      obtain ⟨A38, c39, q42, k40, r41⟩ := hv37
      obtain rfl := (List.cons.inj q42).1
      refine ⟨_, _, _, rfl, ?_⟩
      obtain ⟨y43, g44, e⟩ := bind_e e
      obtain ⟨m49, u50, s55, ⟨⟨r53, k54⟩, _⟩, B51, C52⟩ := O35.lend0 [4]
      replace r53 : Rd 1 (eInt .i64) m49 A30 y24 := r53
      replace k54 : List.length y24 ≤ c32 := k54
      refine (clock_Join.walk (Hold.start (W := No) s55) rfl k54 r53 rfl k40 (r41.sub (tell_int .i64) u50) g44).mono ?_
      rintro _ h45 ⟨m46, A56, n57, c58, Q47, rfl, ne59⟩
      have O61 := Hold.nm (C52 Q47 (vfs_cons (rR_vf (aE_vf (fun _ _ _ _ h => h))) vfs_nil))
      subst ne59
      refine ⟨_, _, _, rfl, ?_⟩
      exact (ih _ _ e) _ _ _ _ _ _ _ _ _ _ _ _ _ _ _ _ _ _ _ (O61.pick [0, 1, 2, 3, 5]).nm e_5 rfl he7 rfl rfl k_25 r_25
    · exact (ih _ _ e) _ _ _ _ _ _ _ _ _ _ _ _ _ _ _ _ _ _ _ (O35.pick [0, 1, 2, 3, 4]).nm e_5 rfl he7 rfl rfl k_25 r_25
  · cases e
    exact ⟨_, _, _, _, O.pick [2], rfl, rfl⟩
set_option maxRecDepth 100000 in
theorem clock_Clocks.l1_k.step_j0 (go : (p : clock_Clocks.l1_k.Pt) → Option ((List (List Int)) × Int)) (ih : ∀ p r, go p = some r → clock_Clocks.l1_k.I p r) (y_5 : (List (List Int))) (es_7 : (List (Int × (List Int)))) (a_8 : List (List Int)) (y_10 : T_api_Event) (a_11 : List Int) (a_25 : List T_api_Event) (x_26 : Int) (x_27 : Int) (r : (List (List Int)) × Int) (e : clock_Clocks.l1_k.body go (.j0 y_5 es_7 a_8 y_10 a_11 a_25 x_26 x_27) = some r) : clock_Clocks.l1_k.I (.j0 y_5 es_7 a_8 y_10 a_11 a_25 x_26 x_27) r := by
  unfold clock_Clocks.l1_k.body at e
  intro W h0 m0 h m bk_5 cs_5 bk_7 A_8 n_8 c_8 bk_10 cs_10 A_11 n_11 c_11 A_25 n_25 c_25 O e_5 ne_8 e_10 ne_11 ne_25 k_25 r_25
  subst ne_8
  subst ne_11
  subst ne_25
  refine f37.j0_in ?_
  unfold f37.j0T
  refine ⟨_, ld0 (Sub.refl _) (O.all 3 rfl) (T_api_Event.g0 e_10), _, rfl, ?_⟩
  obtain ⟨y1, g2, e⟩ := bind_e e
  refine (O.os 4 rfl).addr rfl g2 fun a3 cs4 ha5 hc6 he7 => ?_
  obtain rfl : cs4 = [(Value.int .i64 y1)] := he7
  refine ⟨_, ld0 (Sub.refl _) hc6 rfl, _, rfl, ?_⟩
  obtain ⟨y8, g9, e⟩ := bind_e e
  refine (O.os 4 rfl).addr rfl g9 fun a10 cs11 ha12 hc13 he14 => ?_
  obtain rfl : cs11 = [(Value.int .i64 y8)] := he14
  obtain ⟨l17, g18, e⟩ := bind_e e
  replace g18 := Option.some.inj g18
  refine O.elst0 4 rfl g9 ha12 hc13 (by decide) (y' := (IntKind.wrap .i64 (y1 + (1 : Int)))) rfl trivial g18 fun h15 O16 => ?_
  refine ⟨_, ld0 (Sub.refl _) (O16.all 3 rfl) (T_api_Event.g0 e_10), _, rfl, ?_⟩
  obtain ⟨y19, g20, e⟩ := bind_e e
  refine ⟨gi_le g20, eArrE.ltn e_5 g20, ?_⟩
  obtain ⟨l30, g31, e⟩ := bind_e e
  obtain ⟨m21, u22, ⟨r23, k24⟩, O25⟩ := O16.frz 4 rfl
  replace r23 : Rd 1 (eInt .i64) m21 A_11 l17 := r23
  replace g31 := Option.some.inj g31
  refine O25.stE 0 rfl (Int.toNat y_10.Place * 1) (eArrE.lt ((tell_arrE 8 (tell_row (tell_int .i64))).mono _ _ _ _ u22 e_5) g20) trivial (eArrE.set1 ((tell_arrE 8 (tell_row (tell_int .i64))).mono _ _ _ _ u22 e_5) g20 (show (eRow 1 (eInt .i64)) _ l17 [(Value.slice A_11 (List.length a_11) c_11)] from ⟨_, _, by rw [(lset' g18)], k24, r23⟩) g31) fun h26 cs28 e29 O27 => ?_
  refine ⟨_, ldk (k := 1) (Sub.refl _) (O27.all 3 rfl) (T_api_Event.g1 e_10), _, rfl, ?_⟩
  refine split_eq_e e (fun c38 e => ?_) (fun c38 e => ?_)
  · refine ⟨_, ldk (k := 2) (Sub.refl _) (O27.all 3 rfl) (T_api_Event.g2 e_10), _, rfl, ?_⟩
    obtain ⟨l34, g35, e⟩ := bind_e e
    replace g35 := Option.some.inj g35
    refine O27.mapUpd (x := l17) (v := (Value.slice A_11 (List.length a_11) c_11)) 1 rfl (keyOk_int (key := 3) (elem := 23) (by kernel_rfl) (by kernel_rfl)) y_10.Msg (show (eV0 (eRow 1 (eInt .i64))) m21 l17 (Value.slice A_11 (List.length a_11) c_11) from ⟨_, _, by rw [(lset' g18)], k24, r23⟩) g35 fun h32 O33 => ?_
    have O36 := O33.nm
    exact (ih _ _ e) _ _ _ _ _ _ _ _ _ _ _ _ _ _ _ _ _ (O36.pick [0, 1, 2]).nm e29 rfl (lset' g18) k24 r23 rfl k_25 (r_25.sub T_api_Event.T u22)
  · have O37 := O27.nm
    exact (ih _ _ e) _ _ _ _ _ _ _ _ _ _ _ _ _ _ _ _ _ (O37.pick [0, 1, 2]).nm e29 rfl (lset' g18) k24 r23 rfl k_25 (r_25.sub T_api_Event.T u22)
set_option maxRecDepth 100000 in
theorem clock_Clocks.l1_k.step_j1 (go : (p : clock_Clocks.l1_k.Pt) → Option ((List (List Int)) × Int)) (ih : ∀ p r, go p = some r → clock_Clocks.l1_k.I p r) (y_5 : (List (List Int))) (es_7 : (List (Int × (List Int)))) (a_8 : List (List Int)) (a_11 : List Int) (a_25 : List T_api_Event) (x_26 : Int) (x_27 : Int) (r : (List (List Int)) × Int) (e : clock_Clocks.l1_k.body go (.j1 y_5 es_7 a_8 a_11 a_25 x_26 x_27) = some r) : clock_Clocks.l1_k.I (.j1 y_5 es_7 a_8 a_11 a_25 x_26 x_27) r := by
  unfold clock_Clocks.l1_k.body at e
  intro W h0 m0 h m bk_5 cs_5 bk_7 A_8 n_8 c_8 A_11 n_11 c_11 A_25 n_25 c_25 O e_5 ne_8 ne_11 k_11 r_11 ne_25 k_25 r_25
  subst ne_8
  subst ne_11
  subst ne_25
  refine f37.j1_in ?_
  unfold f37.j1T
  obtain ⟨y1, g2, e⟩ := bind_e e
  refine (slices_Clone_42.walk (Hold.start (W := No) O.s) rfl k_11 r_11 g2).mono ?_
  rintro _ h3 ⟨m4, A7, n8, c9, Q5, rfl, ne10⟩
  have O12 := Hold.nm (O.retC Q5 (vfs_cons (rR_vf (aE_vf (fun _ _ _ _ h => h))) vfs_nil))
  subst ne10
  refine ⟨_, _, _, rfl, ?_⟩
  refine O12.new fun h13 x14 O15 => ?_
  obtain ⟨l17, g18, e⟩ := bind_e e
  obtain ⟨m25, u26, ⟨r27, k28⟩, O29⟩ := O15.frz 3 rfl
  replace r27 : Rd 1 (eInt .i64) m25 A7 y1 := r27
  have O30 := O29.rowE (l := ([y1] : List (List Int))) 4 rfl (tell_row (tell_int .i64)) (show CsE _ _ _ _ _ from (CsE.cons (c1 := [(Value.slice A7 (List.length y1) c9)]) ⟨_, _, rfl, k28, r27⟩ rfl CsE.nil)) rfl
  refine O30.app 2 rfl rfl rfl ((O30.os 4 rfl).srcE rfl) (by decide) g18 fun A19 c20 h21 O22 => ?_
  refine ⟨_, _, _, rfl, ?_⟩
  have O31 := O22.nm
  exact (ih _ _ e) _ _ _ _ _ _ _ _ _ _ _ _ _ _ (O31.pick [0, 1, 2]).nm ((tell_arrE 8 (tell_row (tell_int .i64))).mono _ _ _ _ u26 e_5) rfl rfl k_25 (r_25.sub T_api_Event.T u26)
theorem clock_Clocks.l1_k.all {p : clock_Clocks.l1_k.Pt} {r : ((List (List Int)) × Int)} (e : clock_Clocks.l1_k.go p = some r) : clock_Clocks.l1_k.I p r := fixF_ind (β := fun _ => ((List (List Int)) × Int)) clock_Clocks.l1_k.mono (I := clock_Clocks.l1_k.I) (fun go ih p r e => match p with
  | .l1 y_5 es_7 a_8 a_25 x_26 x_27 => clock_Clocks.l1_k.step_l1 go ih y_5 es_7 a_8 a_25 x_26 x_27 r e
  | .j0 y_5 es_7 a_8 y_10 a_11 a_25 x_26 x_27 => clock_Clocks.l1_k.step_j0 go ih y_5 es_7 a_8 y_10 a_11 a_25 x_26 x_27 r e
  | .j1 y_5 es_7 a_8 a_11 a_25 x_26 x_27 => clock_Clocks.l1_k.step_j1 go ih y_5 es_7 a_8 a_11 a_25 x_26 x_27 r e
  ) e
theorem clock_Clocks.l1.walk {W : Nat → Prop} {h0 m0 h m : Heap} {bk_5 : Nat} {cs_5 : List Value} {bk_7 : Nat} {A_8 : Option Addr} {n_8 c_8 : Nat} {A_25 : Option Addr} {n_25 c_25 : Nat} {y_5 : (List (List Int))} {es_7 : (List (Int × (List Int)))} {a_8 : List (List Int)} {a_25 : List T_api_Event} {x_26 : Int} {x_27 : Int} (O : Hold W h0 m0 h m [rV bk_5 124 cs_5, rM (monoV0 (tell_row (tell_int .i64))) (fun n : Int => Value.int .i64 n) bk_7 es_7, rR (aE (tell_row (tell_int .i64))) A_8 c_8 a_8]) (e_5 : (eArrE 8 1 (eRow 1 (eInt .i64))) m y_5 cs_5) (ne_8 : n_8 = List.length a_8) (ne_25 : n_25 = List.length a_25) (k_25 : List.length a_25 ≤ c_25) (r_25 : Rd 3 T_api_Event.E m A_25 a_25) {r : (List (List Int)) × Int} (e : clock_Clocks.l1 y_5 es_7 a_8 a_25 x_26 x_27 = some r) : f37.l1 (clock_Clocks.post W h0 m0 r) (⟨bk_5, 0, none⟩ : Addr) (Value.map (some bk_7)) A_8 n_8 c_8 A_25 n_25 c_25 x_26 x_27 h := clock_Clocks.l1_k.all (p := .l1 y_5 es_7 a_8 a_25 x_26 x_27) e W h0 m0 h m bk_5 cs_5 bk_7 A_8 n_8 c_8 A_25 n_25 c_25 O e_5 ne_8 ne_25 k_25 r_25
inductive clock_Clocks.l0_k.Pt where
  | l0 (a_0 : List T_api_Event) (y_5 : (List (List Int))) (x_17 : Int)
noncomputable def clock_Clocks.l0_k.body (go : (p : clock_Clocks.l0_k.Pt) → Option ((List (List Int)) × Int)) : (p : clock_Clocks.l0_k.Pt) → Option ((List (List Int)) × Int)
  | .l0 a_0 y_5 x_17 => if x_17 < (8 : Int) then (Option.bind (mks 8 (8 : Int) (0 : Int)) fun l1 => Option.bind (gi y_5 x_17) fun y9 => Option.bind (some (List.set y_5 (Int.toNat x_17) l1)) fun l20 => (go (.l0 a_0 l20 (IntKind.wrap .i64 (x_17 + (1 : Int)))))) else ((clock_Clocks.l1 y_5 ([] : (List (Int × (List Int)))) ([] : List (List Int)) a_0 (((List.length a_0) : Nat) : Int) (0 : Int)))
theorem clock_Clocks.l0_k.mono : MonoF (β := fun _ => ((List (List Int)) × Int)) clock_Clocks.l0_k.body := fun f g hfg p => match p with
  | .l0 a_0 y_5 x_17 => LeO.ite (LeO.bind (LeO.refl _) fun l1 => LeO.bind (LeO.refl _) fun y9 => LeO.bind (LeO.refl _) fun l20 => (hfg _)) ((LeO.refl _))
noncomputable def clock_Clocks.l0_k.go (p : clock_Clocks.l0_k.Pt) : Option ((List (List Int)) × Int) := fixF (β := fun _ => ((List (List Int)) × Int)) clock_Clocks.l0_k.body p
noncomputable def clock_Clocks.l0 (a_0 : List T_api_Event) (y_5 : (List (List Int))) (x_17 : Int) : Option ((List (List Int)) × Int) := clock_Clocks.l0_k.go (.l0 a_0 y_5 x_17)
theorem clock_Clocks.l0_eq (a_0 : List T_api_Event) (y_5 : (List (List Int))) (x_17 : Int) : clock_Clocks.l0 a_0 y_5 x_17 = if x_17 < (8 : Int) then (Option.bind (mks 8 (8 : Int) (0 : Int)) fun l1 => Option.bind (gi y_5 x_17) fun y9 => Option.bind (some (List.set y_5 (Int.toNat x_17) l1)) fun l20 => (clock_Clocks.l0 a_0 l20 (IntKind.wrap .i64 (x_17 + (1 : Int))))) else ((clock_Clocks.l1 y_5 ([] : (List (Int × (List Int)))) ([] : List (List Int)) a_0 (((List.length a_0) : Nat) : Int) (0 : Int))) := fixF_eq clock_Clocks.l0_k.mono _
def clock_Clocks.l0_k.I : (p : clock_Clocks.l0_k.Pt) → ((List (List Int)) × Int) → Prop
  | .l0 a_0 y_5 x_17, r => ∀ (W : Nat → Prop) (h0 m0 h m : Heap) (A_0 : Option Addr) (n_0 c_0 : Nat) (bk_5 : Nat) (cs_5 : List Value) (O : Hold W h0 m0 h m [rV bk_5 124 cs_5]) (ne_0 : n_0 = List.length a_0) (k_0 : List.length a_0 ≤ c_0) (r_0 : Rd 3 T_api_Event.E m A_0 a_0) (e_5 : (eArrE 8 1 (eRow 1 (eInt .i64))) m y_5 cs_5), f37.l0 (clock_Clocks.post W h0 m0 r) A_0 n_0 c_0 (⟨bk_5, 0, none⟩ : Addr) x_17 h
set_option maxRecDepth 100000 in
theorem clock_Clocks.l0_k.step_l0 (go : (p : clock_Clocks.l0_k.Pt) → Option ((List (List Int)) × Int)) (ih : ∀ p r, go p = some r → clock_Clocks.l0_k.I p r) (a_0 : List T_api_Event) (y_5 : (List (List Int))) (x_17 : Int) (r : (List (List Int)) × Int) (e : clock_Clocks.l0_k.body go (.l0 a_0 y_5 x_17) = some r) : clock_Clocks.l0_k.I (.l0 a_0 y_5 x_17) r := by
  unfold clock_Clocks.l0_k.body at e
  intro W h0 m0 h m A_0 n_0 c_0 bk_5 cs_5 O ne_0 k_0 r_0 e_5
  subst ne_0
  refine f37.l0_in ?_
  unfold f37.l0T
  refine split_dec_e e (fun c30 e => ?_) (fun c30 e => ?_)
  · obtain ⟨l1, g2, e⟩ := bind_e e
    have q3 := mks_e g2
    refine ⟨q3.1, Int.le_refl _, q3.2.1, q3.2.2.1, ?_⟩
    refine O.new fun h4 x5 O6 => ?_
    have O7 := O6.made 1 rfl (aE (tell_int .i64)) g2 ⟨rfl, rfl⟩
    try rw [q3.2.2.2.1]
    obtain ⟨y9, g10, e⟩ := bind_e e
    refine ⟨gi_le g10, eArrE.ltn e_5 g10, ?_⟩
    obtain ⟨l20, g21, e⟩ := bind_e e
    obtain ⟨m11, u12, ⟨r13, k14⟩, O15⟩ := O7.frz 1 rfl
    replace r13 : Rd 1 (eInt .i64) m11 (some ⟨(Array.size h), 0, none⟩) l1 := r13
    replace g21 := Option.some.inj g21
    refine O15.stE 0 rfl (Int.toNat x_17 * 1) (eArrE.lt ((tell_arrE 8 (tell_row (tell_int .i64))).mono _ _ _ _ u12 e_5) g10) trivial (eArrE.set1 ((tell_arrE 8 (tell_row (tell_int .i64))).mono _ _ _ _ u12 e_5) g10 (show (eRow 1 (eInt .i64)) _ l1 [(Value.slice (some ⟨(Array.size h), 0, none⟩) (List.length l1) (List.length l1))] from ⟨_, _, rfl, k14, r13⟩) g21) fun h16 cs18 e19 O17 => ?_
    have O22 := O17.nm
    exact (ih _ _ e) _ _ _ _ _ _ _ _ _ _ (O22.pick [0]).nm rfl k_0 (r_0.sub T_api_Event.T u12) e19
  · refine O.mkMap (ν := (List Int)) (monoV0 (tell_row (tell_int .i64))) (fun n : Int => Value.int .i64 n) fun h23 x24 O25 => ?_
    have O27 := O25.nil (aE (tell_row (tell_int .i64))) none
    have O29 := O27.nm
    exact clock_Clocks.l1.walk (O29.pick [0, 1, 2]).nm e_5 rfl rfl k_0 r_0 e
theorem clock_Clocks.l0_k.all {p : clock_Clocks.l0_k.Pt} {r : ((List (List Int)) × Int)} (e : clock_Clocks.l0_k.go p = some r) : clock_Clocks.l0_k.I p r := fixF_ind (β := fun _ => ((List (List Int)) × Int)) clock_Clocks.l0_k.mono (I := clock_Clocks.l0_k.I) (fun go ih p r e => match p with
  | .l0 a_0 y_5 x_17 => clock_Clocks.l0_k.step_l0 go ih a_0 y_5 x_17 r e
  ) e
theorem clock_Clocks.l0.walk {W : Nat → Prop} {h0 m0 h m : Heap} {A_0 : Option Addr} {n_0 c_0 : Nat} {bk_5 : Nat} {cs_5 : List Value} {a_0 : List T_api_Event} {y_5 : (List (List Int))} {x_17 : Int} (O : Hold W h0 m0 h m [rV bk_5 124 cs_5]) (ne_0 : n_0 = List.length a_0) (k_0 : List.length a_0 ≤ c_0) (r_0 : Rd 3 T_api_Event.E m A_0 a_0) (e_5 : (eArrE 8 1 (eRow 1 (eInt .i64))) m y_5 cs_5) {r : (List (List Int)) × Int} (e : clock_Clocks.l0 a_0 y_5 x_17 = some r) : f37.l0 (clock_Clocks.post W h0 m0 r) A_0 n_0 c_0 (⟨bk_5, 0, none⟩ : Addr) x_17 h := clock_Clocks.l0_k.all (p := .l0 a_0 y_5 x_17) e W h0 m0 h m A_0 n_0 c_0 bk_5 cs_5 O ne_0 k_0 r_0 e_5
noncomputable def clock_Clocks (a_0 : List T_api_Event) : Option ((List (List Int)) × Int) :=
  Option.bind (clock_Check a_0) fun y1 => if y1 = (0 : Int) then ((clock_Clocks.l0 a_0 (List.replicate 8 ([] : (List Int))) (0 : Int))) else (some (([] : List (List Int)), y1))
set_option maxRecDepth 100000 in
theorem clock_Clocks.walk {W : Nat → Prop} {h m : Heap} {A_0 : Option Addr} {n_0 c_0 : Nat} {a_0 : List T_api_Event} (O : Hold W h m h m []) (ne_0 : n_0 = List.length a_0) (k_0 : List.length a_0 ≤ c_0) (r_0 : Rd 3 T_api_Event.E m A_0 a_0) {r : (List (List Int)) × Int} (e : clock_Clocks a_0 = some r) : Run Try.prog 37 #[Value.slice A_0 n_0 c_0] h (clock_Clocks.post W h m r) := by
  unfold clock_Clocks at e
  subst ne_0
  refine f37.run ?_
  unfold f37.runT
  obtain ⟨y1, g2, e⟩ := bind_e e
  refine (clock_Check.walk (Hold.start (W := No) O.s) rfl k_0 r_0 g2).mono ?_
  rintro _ h3 ⟨m4, Q5, rfl⟩
  have O7 := Hold.nm (O.retC Q5 vfs_nil)
  refine ⟨_, rfl, ?_⟩
  refine split_ne_e e (fun c17 e => ?_) (fun c17 e => ?_)
  · have O8 := O7.nil (aE (tell_row (tell_int .i64))) none
    have O10 := O8.nm
    cases e
    exact ⟨_, _, _, _, O10.pick [0], rfl, rfl⟩
  · refine O7.new fun h11 x12 O13 => ?_
    have O15 := O13.recell 0 rfl (cs' := (List.flatten (List.replicate 8 [(Value.slice none 0 0)]))) rfl
    have O16 := O15.nm
    exact clock_Clocks.l0.walk (O16.pick [0]).nm rfl k_0 r_0 (arrE_zero (z := ([] : (List Int))) (zc := [(Value.slice none 0 0)]) (show (eRow 1 (eInt .i64)) m ([] : (List Int)) [(Value.slice none 0 0)] from ⟨_, _, rfl, (by exact Nat.le_refl 0), Rd.nil⟩) (tell_row (tell_int .i64)) 8) e
def cut_Least.post (W : Nat → Prop) (h0 m0 : Heap) (r : (List Int) × Int) (v : Value) (h : Heap) : Prop := ∃ m A0 n0 c0, Hold W h0 m0 h m [rR (aE (tell_int .i64)) A0 c0 r.1] ∧ v = .tuple #[.slice A0 n0 c0, .int .i64 r.2] ∧ n0 = List.length r.1
inductive cut_Least.l0_k.Pt where
  | l0 (a_7 : List (List Int)) (a_9 : List Bool) (a_10 : List Int) (x_29 : Int) (x_30 : Int)
noncomputable def cut_Least.l0_k.body (go : (p : cut_Least.l0_k.Pt) → Option ((List Int) × Int)) : (p : cut_Least.l0_k.Pt) → Option ((List Int) × Int)
  | .l0 a_7 a_9 a_10 x_29 x_30 => if x_30 < x_29 then (Option.bind (gi a_9 x_30) fun y1 => if y1 = true then (Option.bind (gi a_7 x_30) fun y8 => Option.bind (clock_Join a_10 y8) fun y15 => (go (.l0 a_7 a_9 y15 x_29 (IntKind.wrap .i64 (x_30 + (1 : Int)))))) else ((go (.l0 a_7 a_9 a_10 x_29 (IntKind.wrap .i64 (x_30 + (1 : Int))))))) else (some (a_10, (0 : Int)))
theorem cut_Least.l0_k.mono : MonoF (β := fun _ => ((List Int) × Int)) cut_Least.l0_k.body := fun f g hfg p => match p with
  | .l0 a_7 a_9 a_10 x_29 x_30 => LeO.ite (LeO.bind (LeO.refl _) fun y1 => LeO.ite (LeO.bind (LeO.refl _) fun y8 => LeO.bind (LeO.refl _) fun y15 => (hfg _)) ((hfg _))) (LeO.refl _)
noncomputable def cut_Least.l0_k.go (p : cut_Least.l0_k.Pt) : Option ((List Int) × Int) := fixF (β := fun _ => ((List Int) × Int)) cut_Least.l0_k.body p
noncomputable def cut_Least.l0 (a_7 : List (List Int)) (a_9 : List Bool) (a_10 : List Int) (x_29 : Int) (x_30 : Int) : Option ((List Int) × Int) := cut_Least.l0_k.go (.l0 a_7 a_9 a_10 x_29 x_30)
theorem cut_Least.l0_eq (a_7 : List (List Int)) (a_9 : List Bool) (a_10 : List Int) (x_29 : Int) (x_30 : Int) : cut_Least.l0 a_7 a_9 a_10 x_29 x_30 = if x_30 < x_29 then (Option.bind (gi a_9 x_30) fun y1 => if y1 = true then (Option.bind (gi a_7 x_30) fun y8 => Option.bind (clock_Join a_10 y8) fun y15 => (cut_Least.l0 a_7 a_9 y15 x_29 (IntKind.wrap .i64 (x_30 + (1 : Int))))) else ((cut_Least.l0 a_7 a_9 a_10 x_29 (IntKind.wrap .i64 (x_30 + (1 : Int)))))) else (some (a_10, (0 : Int))) := fixF_eq cut_Least.l0_k.mono _
def cut_Least.l0_k.I : (p : cut_Least.l0_k.Pt) → ((List Int) × Int) → Prop
  | .l0 a_7 a_9 a_10 x_29 x_30, r => ∀ (W : Nat → Prop) (h0 m0 h m : Heap) (A_7 : Option Addr) (n_7 c_7 : Nat) (A_9 : Option Addr) (n_9 c_9 : Nat) (A_10 : Option Addr) (n_10 c_10 : Nat) (O : Hold W h0 m0 h m [rR (aE (tell_row (tell_int .i64))) A_7 c_7 a_7, rR (aE tell_bool) A_9 c_9 a_9, rR (aE (tell_int .i64)) A_10 c_10 a_10]) (ne_7 : n_7 = List.length a_7) (ne_9 : n_9 = List.length a_9) (ne_10 : n_10 = List.length a_10), f7.l0 (cut_Least.post W h0 m0 r) A_7 n_7 c_7 A_9 n_9 c_9 A_10 n_10 c_10 x_29 x_30 h
set_option maxRecDepth 100000 in
theorem cut_Least.l0_k.step_l0 (go : (p : cut_Least.l0_k.Pt) → Option ((List Int) × Int)) (ih : ∀ p r, go p = some r → cut_Least.l0_k.I p r) (a_7 : List (List Int)) (a_9 : List Bool) (a_10 : List Int) (x_29 : Int) (x_30 : Int) (r : (List Int) × Int) (e : cut_Least.l0_k.body go (.l0 a_7 a_9 a_10 x_29 x_30) = some r) : cut_Least.l0_k.I (.l0 a_7 a_9 a_10 x_29 x_30) r := by
  unfold cut_Least.l0_k.body at e
  intro W h0 m0 h m A_7 n_7 c_7 A_9 n_9 c_9 A_10 n_10 c_10 O ne_7 ne_9 ne_10
  subst ne_7
  subst ne_9
  subst ne_10
  refine f7.l0_in ?_
  unfold f7.l0T
  refine split_dec_e e (fun c35 e => ?_) (fun c35 e => ?_)
  · obtain ⟨y1, g2, e⟩ := bind_e e
    refine (O.os 1 rfl).addr rfl g2 fun a3 cs4 ha5 hc6 he7 => ?_
    obtain rfl : cs4 = [(Value.bool y1)] := he7
    refine ⟨_, ld0 (Sub.refl _) hc6 rfl, _, rfl, ?_⟩
    refine split_any_e e (fun c34 e => ?_) (fun c34 e => ?_)
    · obtain ⟨y8, g9, e⟩ := bind_e e
      refine (O.os 0 rfl).addr rfl g9 fun a10 cs11 ha12 hc13 he14 => ?_
      obtain ⟨Acs11_0, ccs11_0, rfl, kcs11_0, rcs11_0⟩ := id he14
      refine ⟨_, ld0 (Sub.refl _) hc13 rfl, _, _, _, rfl, ?_⟩
      obtain ⟨y15, g16, e⟩ := bind_e e
      obtain ⟨m21, u22, s27, ⟨⟨r25, k26⟩, _⟩, B23, C24⟩ := O.lend0 [2]
      replace r25 : Rd 1 (eInt .i64) m21 A_10 a_10 := r25
      replace k26 : List.length a_10 ≤ c_10 := k26
      refine (clock_Join.walk (Hold.start (W := No) s27) rfl k26 r25 rfl kcs11_0 (rcs11_0.sub (tell_int .i64) u22) g16).mono ?_
      rintro _ h17 ⟨m18, A28, n29, c30, Q19, rfl, ne31⟩
      have O33 := Hold.nm (C24 Q19 (vfs_cons (rR_vf (aE_vf (fun _ _ _ _ h => h))) vfs_nil))
      subst ne31
      refine ⟨_, _, _, rfl, ?_⟩
      exact (ih _ _ e) _ _ _ _ _ _ _ _ _ _ _ _ _ _ (O33.pick [0, 1, 3]).nm rfl rfl rfl
    · exact (ih _ _ e) _ _ _ _ _ _ _ _ _ _ _ _ _ _ (O.pick [0, 1, 2]).nm rfl rfl rfl
  · cases e
    exact ⟨_, _, _, _, O.pick [2], rfl, rfl⟩
theorem cut_Least.l0_k.all {p : cut_Least.l0_k.Pt} {r : ((List Int) × Int)} (e : cut_Least.l0_k.go p = some r) : cut_Least.l0_k.I p r := fixF_ind (β := fun _ => ((List Int) × Int)) cut_Least.l0_k.mono (I := cut_Least.l0_k.I) (fun go ih p r e => match p with
  | .l0 a_7 a_9 a_10 x_29 x_30 => cut_Least.l0_k.step_l0 go ih a_7 a_9 a_10 x_29 x_30 r e
  ) e
theorem cut_Least.l0.walk {W : Nat → Prop} {h0 m0 h m : Heap} {A_7 : Option Addr} {n_7 c_7 : Nat} {A_9 : Option Addr} {n_9 c_9 : Nat} {A_10 : Option Addr} {n_10 c_10 : Nat} {a_7 : List (List Int)} {a_9 : List Bool} {a_10 : List Int} {x_29 : Int} {x_30 : Int} (O : Hold W h0 m0 h m [rR (aE (tell_row (tell_int .i64))) A_7 c_7 a_7, rR (aE tell_bool) A_9 c_9 a_9, rR (aE (tell_int .i64)) A_10 c_10 a_10]) (ne_7 : n_7 = List.length a_7) (ne_9 : n_9 = List.length a_9) (ne_10 : n_10 = List.length a_10) {r : (List Int) × Int} (e : cut_Least.l0 a_7 a_9 a_10 x_29 x_30 = some r) : f7.l0 (cut_Least.post W h0 m0 r) A_7 n_7 c_7 A_9 n_9 c_9 A_10 n_10 c_10 x_29 x_30 h := cut_Least.l0_k.all (p := .l0 a_7 a_9 a_10 x_29 x_30) e W h0 m0 h m A_7 n_7 c_7 A_9 n_9 c_9 A_10 n_10 c_10 O ne_7 ne_9 ne_10
noncomputable def cut_Least (a_0 : List T_api_Event) (a_1 : List Int) : Option ((List Int) × Int) :=
  Option.bind (cut_check a_0 ([a_1] : List (List Int))) fun y6 => if y6 = (0 : Int) then (Option.bind (clock_Clocks a_0) fun y24 => Option.bind (cut_inside a_0 a_1) fun y36 => Option.bind (mks 8 (8 : Int) (0 : Int)) fun l48 => (cut_Least.l0 y24.1 y36 l48 (((List.length a_0) : Nat) : Int) (0 : Int))) else (some (([] : List Int), y6))
set_option maxHeartbeats 4000000 in
set_option maxRecDepth 100000 in
theorem cut_Least.walk {W : Nat → Prop} {h m : Heap} {A_0 : Option Addr} {n_0 c_0 : Nat} {A_1 : Option Addr} {n_1 c_1 : Nat} {a_0 : List T_api_Event} {a_1 : List Int} (O : Hold W h m h m []) (ne_0 : n_0 = List.length a_0) (k_0 : List.length a_0 ≤ c_0) (r_0 : Rd 3 T_api_Event.E m A_0 a_0) (ne_1 : n_1 = List.length a_1) (k_1 : List.length a_1 ≤ c_1) (r_1 : Rd 1 (eInt .i64) m A_1 a_1) {r : (List Int) × Int} (e : cut_Least a_0 a_1 = some r) : Run Try.prog 7 #[Value.slice A_0 n_0 c_0, Value.slice A_1 n_1 c_1] h (cut_Least.post W h m r) := by
  unfold cut_Least at e
  subst ne_0
  subst ne_1
  refine f7.run ?_
  unfold f7.runT
  refine O.new fun h1 x2 O3 => ?_
  obtain ⟨y6, g7, e⟩ := bind_e e
  have O5 := O3.rowE (l := ([a_1] : List (List Int))) 0 rfl (tell_row (tell_int .i64)) (show CsE _ _ _ _ _ from (CsE.cons (c1 := [(Value.slice A_1 (List.length a_1) c_1)]) ⟨_, _, rfl, k_1, r_1⟩ rfl CsE.nil)) rfl
  have O12 := O5.nm
  obtain ⟨m13, u14, s19, ⟨⟨r17, k18⟩, _⟩, B15, C16⟩ := O12.lend0 [0]
  replace r17 : Rd 1 (eRow 1 (eInt .i64)) m13 (some ⟨(Array.size h), 0, none⟩) ([a_1] : List (List Int)) := r17
  replace k18 : List.length ([a_1] : List (List Int)) ≤ 1 := k18
  refine (cut_check.walk (Hold.start (W := No) s19) rfl k_0 (r_0.sub T_api_Event.T u14) rfl k18 r17 g7).mono ?_
  rintro _ h8 ⟨m9, Q10, rfl⟩
  have O20 := Hold.nm (C16 Q10 vfs_nil)
  refine ⟨_, rfl, ?_⟩
  refine split_ne_e e (fun c57 e => ?_) (fun c57 e => ?_)
  · have O21 := O20.nil (aE (tell_int .i64)) none
    have O23 := O21.nm
    cases e
    exact ⟨_, _, _, _, O23.pick [1], rfl, rfl⟩
  · obtain ⟨y24, g25, e⟩ := bind_e e
    refine (clock_Clocks.walk (Hold.start (W := No) O20.s) rfl k_0 r_0 g25).mono ?_
    rintro _ h26 ⟨m27, A30, n31, c32, Q28, rfl, ne33⟩
    have O35 := Hold.nm (O20.ret Q28)
    subst ne33
    refine ⟨_, _, _, _, rfl, ?_⟩
    obtain ⟨y36, g37, e⟩ := bind_e e
    refine (cut_inside.walk (Hold.start (W := No) O35.s) rfl k_0 (r_0.sub T_api_Event.T Q28.S.up) rfl k_1 (r_1.sub (tell_int .i64) Q28.S.up) g37).mono ?_
    rintro _ h38 ⟨m39, A42, n43, c44, Q40, rfl, ne45⟩
    have O47 := Hold.nm (O35.retC Q40 (vfs_cons (rR_vf (aE_vf (fun _ _ _ _ h => h))) vfs_nil))
    subst ne45
    refine ⟨_, _, _, rfl, ?_⟩
    obtain ⟨l48, g49, e⟩ := bind_e e
    have q50 := mks_e g49
    refine ⟨q50.1, Int.le_refl _, q50.2.1, q50.2.2.1, ?_⟩
    refine O47.new fun h51 x52 O53 => ?_
    have O54 := O53.made 3 rfl (aE (tell_int .i64)) g49 ⟨rfl, rfl⟩
    try rw [q50.2.2.2.1]
    have O56 := O54.nm
    exact cut_Least.l0.walk (O56.pick [1, 2, 3]).nm rfl rfl rfl e
def slices_Equal_8.post (W : Nat → Prop) (h0 m0 : Heap) (r : Bool) (v : Value) (h : Heap) : Prop := ∃ m , Hold W h0 m0 h m [] ∧ v = .bool r
inductive slices_Equal_8.l0_k.Pt where
  | l0 (a_0 : List Int) (a_1 : List Int) (x_12 : Int) (x_13 : Int)
noncomputable def slices_Equal_8.l0_k.body (go : (p : slices_Equal_8.l0_k.Pt) → Option (Bool)) : (p : slices_Equal_8.l0_k.Pt) → Option (Bool)
  | .l0 a_0 a_1 x_12 x_13 => if x_13 < x_12 then (Option.bind (gi a_0 x_13) fun y1 => Option.bind (gi a_1 x_13) fun y8 => if y1 = y8 then ((go (.l0 a_0 a_1 x_12 (IntKind.wrap .i64 (x_13 + (1 : Int)))))) else (some (false))) else (some (true))
theorem slices_Equal_8.l0_k.mono : MonoF (β := fun _ => (Bool)) slices_Equal_8.l0_k.body := fun f g hfg p => match p with
  | .l0 a_0 a_1 x_12 x_13 => LeO.ite (LeO.bind (LeO.refl _) fun y1 => LeO.bind (LeO.refl _) fun y8 => LeO.ite ((hfg _)) (LeO.refl _)) (LeO.refl _)
noncomputable def slices_Equal_8.l0_k.go (p : slices_Equal_8.l0_k.Pt) : Option (Bool) := fixF (β := fun _ => (Bool)) slices_Equal_8.l0_k.body p
noncomputable def slices_Equal_8.l0 (a_0 : List Int) (a_1 : List Int) (x_12 : Int) (x_13 : Int) : Option (Bool) := slices_Equal_8.l0_k.go (.l0 a_0 a_1 x_12 x_13)
theorem slices_Equal_8.l0_eq (a_0 : List Int) (a_1 : List Int) (x_12 : Int) (x_13 : Int) : slices_Equal_8.l0 a_0 a_1 x_12 x_13 = if x_13 < x_12 then (Option.bind (gi a_0 x_13) fun y1 => Option.bind (gi a_1 x_13) fun y8 => if y1 = y8 then ((slices_Equal_8.l0 a_0 a_1 x_12 (IntKind.wrap .i64 (x_13 + (1 : Int))))) else (some (false))) else (some (true)) := fixF_eq slices_Equal_8.l0_k.mono _
def slices_Equal_8.l0_k.I : (p : slices_Equal_8.l0_k.Pt) → (Bool) → Prop
  | .l0 a_0 a_1 x_12 x_13, r => ∀ (W : Nat → Prop) (h0 m0 h m : Heap) (A_0 : Option Addr) (n_0 c_0 : Nat) (A_1 : Option Addr) (n_1 c_1 : Nat) (O : Hold W h0 m0 h m []) (ne_0 : n_0 = List.length a_0) (k_0 : List.length a_0 ≤ c_0) (r_0 : Rd 1 (eInt .i64) m A_0 a_0) (ne_1 : n_1 = List.length a_1) (k_1 : List.length a_1 ≤ c_1) (r_1 : Rd 1 (eInt .i64) m A_1 a_1), f8.l0 (slices_Equal_8.post W h0 m0 r) A_0 n_0 c_0 A_1 n_1 c_1 x_12 x_13 h
set_option maxRecDepth 100000 in
theorem slices_Equal_8.l0_k.step_l0 (go : (p : slices_Equal_8.l0_k.Pt) → Option (Bool)) (ih : ∀ p r, go p = some r → slices_Equal_8.l0_k.I p r) (a_0 : List Int) (a_1 : List Int) (x_12 : Int) (x_13 : Int) (r : Bool) (e : slices_Equal_8.l0_k.body go (.l0 a_0 a_1 x_12 x_13) = some r) : slices_Equal_8.l0_k.I (.l0 a_0 a_1 x_12 x_13) r := by
  unfold slices_Equal_8.l0_k.body at e
  intro W h0 m0 h m A_0 n_0 c_0 A_1 n_1 c_1 O ne_0 k_0 r_0 ne_1 k_1 r_1
  subst ne_0
  subst ne_1
  refine f8.l0_in ?_
  unfold f8.l0T
  refine split_dec_e e (fun c16 e => ?_) (fun c16 e => ?_)
  · obtain ⟨y1, g2, e⟩ := bind_e e
    refine r_0.addr rfl g2 fun a3 cs4 ha5 hc6 he7 => ?_
    obtain rfl : cs4 = [(Value.int .i64 y1)] := he7
    obtain ⟨y8, g9, e⟩ := bind_e e
    refine r_1.addr rfl g9 fun a10 cs11 ha12 hc13 he14 => ?_
    obtain rfl : cs11 = [(Value.int .i64 y8)] := he14
    refine ⟨_, ld0 O.s hc6 rfl, _, rfl, ?_⟩
    refine ⟨_, ld0 O.s hc13 rfl, _, rfl, ?_⟩
    refine split_ne_e e (fun c15 e => ?_) (fun c15 e => ?_)
    · cases e
      exact ⟨_, O.pick [], rfl⟩
    · exact (ih _ _ e) _ _ _ _ _ _ _ _ _ _ _ (O.pick []).nm rfl k_0 r_0 rfl k_1 r_1
  · cases e
    exact ⟨_, O.pick [], rfl⟩
theorem slices_Equal_8.l0_k.all {p : slices_Equal_8.l0_k.Pt} {r : (Bool)} (e : slices_Equal_8.l0_k.go p = some r) : slices_Equal_8.l0_k.I p r := fixF_ind (β := fun _ => (Bool)) slices_Equal_8.l0_k.mono (I := slices_Equal_8.l0_k.I) (fun go ih p r e => match p with
  | .l0 a_0 a_1 x_12 x_13 => slices_Equal_8.l0_k.step_l0 go ih a_0 a_1 x_12 x_13 r e
  ) e
theorem slices_Equal_8.l0.walk {W : Nat → Prop} {h0 m0 h m : Heap} {A_0 : Option Addr} {n_0 c_0 : Nat} {A_1 : Option Addr} {n_1 c_1 : Nat} {a_0 : List Int} {a_1 : List Int} {x_12 : Int} {x_13 : Int} (O : Hold W h0 m0 h m []) (ne_0 : n_0 = List.length a_0) (k_0 : List.length a_0 ≤ c_0) (r_0 : Rd 1 (eInt .i64) m A_0 a_0) (ne_1 : n_1 = List.length a_1) (k_1 : List.length a_1 ≤ c_1) (r_1 : Rd 1 (eInt .i64) m A_1 a_1) {r : Bool} (e : slices_Equal_8.l0 a_0 a_1 x_12 x_13 = some r) : f8.l0 (slices_Equal_8.post W h0 m0 r) A_0 n_0 c_0 A_1 n_1 c_1 x_12 x_13 h := slices_Equal_8.l0_k.all (p := .l0 a_0 a_1 x_12 x_13) e W h0 m0 h m A_0 n_0 c_0 A_1 n_1 c_1 O ne_0 k_0 r_0 ne_1 k_1 r_1
noncomputable def slices_Equal_8 (a_0 : List Int) (a_1 : List Int) : Option (Bool) :=
  if (((List.length a_0) : Nat) : Int) = (((List.length a_1) : Nat) : Int) then ((slices_Equal_8.l0 a_0 a_1 (((List.length a_0) : Nat) : Int) (0 : Int))) else (some (false))
set_option maxRecDepth 100000 in
theorem slices_Equal_8.walk {W : Nat → Prop} {h m : Heap} {A_0 : Option Addr} {n_0 c_0 : Nat} {A_1 : Option Addr} {n_1 c_1 : Nat} {a_0 : List Int} {a_1 : List Int} (O : Hold W h m h m []) (ne_0 : n_0 = List.length a_0) (k_0 : List.length a_0 ≤ c_0) (r_0 : Rd 1 (eInt .i64) m A_0 a_0) (ne_1 : n_1 = List.length a_1) (k_1 : List.length a_1 ≤ c_1) (r_1 : Rd 1 (eInt .i64) m A_1 a_1) {r : Bool} (e : slices_Equal_8 a_0 a_1 = some r) : Run Try.prog 8 #[Value.slice A_0 n_0 c_0, Value.slice A_1 n_1 c_1] h (slices_Equal_8.post W h m r) := by
  unfold slices_Equal_8 at e
  subst ne_0
  subst ne_1
  refine f8.run ?_
  unfold f8.runT
  refine split_ne_e e (fun c1 e => ?_) (fun c1 e => ?_)
  · cases e
    exact ⟨_, O.pick [], rfl⟩
  · exact slices_Equal_8.l0.walk (O.pick []).nm rfl k_0 r_0 rfl k_1 r_1 e
theorem slices_Equal_8.val (l m : List Int) (hl : l.length ≤ 4611686018427387904) : ∃ b, slices_Equal_8 l m = some b ∧ (b = true ↔ l = m) := equal_val (R := fun x y => x = y) (fun a b n i => slices_Equal_8.l0_eq a b n i) (fun _ _ => rfl) (fun _ _ => Iff.rfl) l m hl
def cmp_isNaN_94.post (W : Nat → Prop) (h0 m0 : Heap) (r : Bool) (v : Value) (h : Heap) : Prop := ∃ m , Hold W h0 m0 h m [] ∧ v = .bool r
noncomputable def cmp_isNaN_94 (x_0 : Int) : Option (Bool) :=
  some ((x_0 != x_0))
set_option maxRecDepth 100000 in
theorem cmp_isNaN_94.walk {W : Nat → Prop} {h m : Heap} {x_0 : Int} (O : Hold W h m h m []) {r : Bool} (e : cmp_isNaN_94 x_0 = some r) : Run Try.prog 94 #[Value.int .i64 x_0] h (cmp_isNaN_94.post W h m r) := by
  unfold cmp_isNaN_94 at e
  refine f94.run ?_
  unfold f94.runT
  cases e
  exact ⟨_, O.pick [], rfl⟩
def cmp_Less_76.post (W : Nat → Prop) (h0 m0 : Heap) (r : Bool) (v : Value) (h : Heap) : Prop := ∃ m , Hold W h0 m0 h m [] ∧ v = .bool r
noncomputable def cmp_Less_76 (x_0 : Int) (x_1 : Int) : Option (Bool) :=
  Option.bind (cmp_isNaN_94 x_0) fun y1 => if y1 = true then (Option.bind (cmp_isNaN_94 x_1) fun y8 => if y8 = true then (some ((decide (x_0 < x_1)))) else (some (true))) else (some ((decide (x_0 < x_1))))
set_option maxRecDepth 100000 in
theorem cmp_Less_76.walk {W : Nat → Prop} {h m : Heap} {x_0 : Int} {x_1 : Int} (O : Hold W h m h m []) {r : Bool} (e : cmp_Less_76 x_0 x_1 = some r) : Run Try.prog 76 #[Value.int .i64 x_0, Value.int .i64 x_1] h (cmp_Less_76.post W h m r) := by
  unfold cmp_Less_76 at e
  refine f76.run ?_
  unfold f76.runT
  obtain ⟨y1, g2, e⟩ := bind_e e
  refine (cmp_isNaN_94.walk (Hold.start (W := No) O.s)  g2).mono ?_
  rintro _ h3 ⟨m4, Q5, rfl⟩
  have O7 := Hold.nm (O.retC Q5 vfs_nil)
  refine ⟨_, rfl, ?_⟩
  refine split_any_e e (fun c16 e => ?_) (fun c16 e => ?_)
  · obtain ⟨y8, g9, e⟩ := bind_e e
    refine (cmp_isNaN_94.walk (Hold.start (W := No) O7.s)  g9).mono ?_
    rintro _ h10 ⟨m11, Q12, rfl⟩
    have O14 := Hold.nm (O7.retC Q12 vfs_nil)
    refine ⟨_, rfl, ?_⟩
    refine split_not ?_
    refine split_any_e e (fun c15 e => ?_) (fun c15 e => ?_)
    · cases e
      exact ⟨_, O14.pick [], rfl⟩
    · cases e
      exact ⟨_, O14.pick [], rfl⟩
  · cases e
    exact ⟨_, O7.pick [], rfl⟩
def sq70.post (W : Nat → Prop) (Asl0 : Option Addr) (nsl0 csl0 : Nat) (h0 m0 : Heap) (r : (List Int)) (v : Value) (h : Heap) : Prop := ∃ m , Hold W h0 m0 h m [rR (aE (tell_int .i64)) Asl0 csl0 r] ∧ v = .tuple #[] ∧ nsl0 = List.length r
inductive sq70.l0_k.Pt where
  | l0 (a_0 : List Int) (x_1 : Int) (x_2 : Int) (x_6 : Int)
  | l1 (a_0 : List Int) (x_1 : Int) (x_2 : Int) (x_6 : Int) (x_7 : Int)
  | j1 (a_0 : List Int) (x_1 : Int) (x_2 : Int) (x_6 : Int) (x_7 : Int)
  | j0 (a_0 : List Int) (x_1 : Int) (x_2 : Int) (x_6 : Int)
noncomputable def sq70.l0_k.body (go : (p : sq70.l0_k.Pt) → Option ((List Int))) : (p : sq70.l0_k.Pt) → Option ((List Int))
  | .l0 a_0 x_1 x_2 x_6 => if x_6 < x_2 then ((go (.l1 a_0 x_1 x_2 x_6 x_6))) else (some (a_0))
  | .l1 a_0 x_1 x_2 x_6 x_7 => if x_7 > x_1 then (Option.bind (gi a_0 x_7) fun y1 => Option.bind (gi a_0 (IntKind.wrap .i64 (x_7 - (1 : Int)))) fun y8 => Option.bind (cmp_Less_76 y1 y8) fun y15 => if y15 = true then ((go (.j1 a_0 x_1 x_2 x_6 x_7))) else ((go (.j0 a_0 x_1 x_2 x_6)))) else ((go (.j0 a_0 x_1 x_2 x_6)))
  | .j1 a_0 x_1 x_2 x_6 x_7 => Option.bind (gi a_0 (IntKind.wrap .i64 (x_7 - (1 : Int)))) fun y1 => Option.bind (gi a_0 x_7) fun y8 => Option.bind (gi a_0 x_7) fun y15 => Option.bind (some (List.set a_0 (Int.toNat x_7) y1)) fun l24 => Option.bind (gi l24 (IntKind.wrap .i64 (x_7 - (1 : Int)))) fun y26 => Option.bind (some (List.set l24 (Int.toNat (IntKind.wrap .i64 (x_7 - (1 : Int)))) y8)) fun l35 => (go (.l1 l35 x_1 x_2 x_6 (IntKind.wrap .i64 (x_7 - (1 : Int)))))
  | .j0 a_0 x_1 x_2 x_6 => (go (.l0 a_0 x_1 x_2 (IntKind.wrap .i64 (x_6 + (1 : Int)))))
attribute [local irreducible] cmp_Less_76 in
theorem sq70.l0_k.mono : MonoF (β := fun _ => ((List Int))) sq70.l0_k.body := fun f g hfg p => match p with
  | .l0 a_0 x_1 x_2 x_6 => LeO.ite ((hfg _)) (LeO.refl _)
  | .l1 a_0 x_1 x_2 x_6 x_7 => LeO.ite (LeO.bind (LeO.refl _) fun y1 => LeO.bind (LeO.refl _) fun y8 => LeO.bind (LeO.refl _) fun y15 => LeO.ite ((hfg _)) ((hfg _))) ((hfg _))
  | .j1 a_0 x_1 x_2 x_6 x_7 => LeO.bind (LeO.refl _) fun y1 => LeO.bind (LeO.refl _) fun y8 => LeO.bind (LeO.refl _) fun y15 => LeO.bind (LeO.refl _) fun l24 => LeO.bind (LeO.refl _) fun y26 => LeO.bind (LeO.refl _) fun l35 => (hfg _)
  | .j0 a_0 x_1 x_2 x_6 => (hfg _)
noncomputable def sq70.l0_k.go (p : sq70.l0_k.Pt) : Option ((List Int)) := fixF (β := fun _ => ((List Int))) sq70.l0_k.body p
noncomputable def sq70.l0 (a_0 : List Int) (x_1 : Int) (x_2 : Int) (x_6 : Int) : Option ((List Int)) := sq70.l0_k.go (.l0 a_0 x_1 x_2 x_6)
noncomputable def sq70.l1 (a_0 : List Int) (x_1 : Int) (x_2 : Int) (x_6 : Int) (x_7 : Int) : Option ((List Int)) := sq70.l0_k.go (.l1 a_0 x_1 x_2 x_6 x_7)
noncomputable def sq70.j1 (a_0 : List Int) (x_1 : Int) (x_2 : Int) (x_6 : Int) (x_7 : Int) : Option ((List Int)) := sq70.l0_k.go (.j1 a_0 x_1 x_2 x_6 x_7)
noncomputable def sq70.j0 (a_0 : List Int) (x_1 : Int) (x_2 : Int) (x_6 : Int) : Option ((List Int)) := sq70.l0_k.go (.j0 a_0 x_1 x_2 x_6)
theorem sq70.l0_eq (a_0 : List Int) (x_1 : Int) (x_2 : Int) (x_6 : Int) : sq70.l0 a_0 x_1 x_2 x_6 = if x_6 < x_2 then ((sq70.l1 a_0 x_1 x_2 x_6 x_6)) else (some (a_0)) := fixF_eq sq70.l0_k.mono _
theorem sq70.l1_eq (a_0 : List Int) (x_1 : Int) (x_2 : Int) (x_6 : Int) (x_7 : Int) : sq70.l1 a_0 x_1 x_2 x_6 x_7 = if x_7 > x_1 then (Option.bind (gi a_0 x_7) fun y1 => Option.bind (gi a_0 (IntKind.wrap .i64 (x_7 - (1 : Int)))) fun y8 => Option.bind (cmp_Less_76 y1 y8) fun y15 => if y15 = true then ((sq70.j1 a_0 x_1 x_2 x_6 x_7)) else ((sq70.j0 a_0 x_1 x_2 x_6))) else ((sq70.j0 a_0 x_1 x_2 x_6)) := fixF_eq sq70.l0_k.mono _
theorem sq70.j1_eq (a_0 : List Int) (x_1 : Int) (x_2 : Int) (x_6 : Int) (x_7 : Int) : sq70.j1 a_0 x_1 x_2 x_6 x_7 = Option.bind (gi a_0 (IntKind.wrap .i64 (x_7 - (1 : Int)))) fun y1 => Option.bind (gi a_0 x_7) fun y8 => Option.bind (gi a_0 x_7) fun y15 => Option.bind (some (List.set a_0 (Int.toNat x_7) y1)) fun l24 => Option.bind (gi l24 (IntKind.wrap .i64 (x_7 - (1 : Int)))) fun y26 => Option.bind (some (List.set l24 (Int.toNat (IntKind.wrap .i64 (x_7 - (1 : Int)))) y8)) fun l35 => (sq70.l1 l35 x_1 x_2 x_6 (IntKind.wrap .i64 (x_7 - (1 : Int)))) := fixF_eq sq70.l0_k.mono _
theorem sq70.j0_eq (a_0 : List Int) (x_1 : Int) (x_2 : Int) (x_6 : Int) : sq70.j0 a_0 x_1 x_2 x_6 = (sq70.l0 a_0 x_1 x_2 (IntKind.wrap .i64 (x_6 + (1 : Int)))) := fixF_eq sq70.l0_k.mono _
def sq70.l0_k.I : (p : sq70.l0_k.Pt) → ((List Int)) → Prop
  | .l0 a_0 x_1 x_2 x_6, r => ∀ (W : Nat → Prop) (h0 m0 h m : Heap) (A_0 : Option Addr) (n_0 c_0 : Nat) (O : Hold W h0 m0 h m [rR (aE (tell_int .i64)) A_0 c_0 a_0]) (ne_0 : n_0 = List.length a_0), f70.l0 (sq70.post W A_0 n_0 c_0 h0 m0 r) A_0 n_0 c_0 x_1 x_2 x_6 h
  | .l1 a_0 x_1 x_2 x_6 x_7, r => ∀ (W : Nat → Prop) (h0 m0 h m : Heap) (A_0 : Option Addr) (n_0 c_0 : Nat) (O : Hold W h0 m0 h m [rR (aE (tell_int .i64)) A_0 c_0 a_0]) (ne_0 : n_0 = List.length a_0), f70.l1 (sq70.post W A_0 n_0 c_0 h0 m0 r) A_0 n_0 c_0 x_1 x_2 x_6 x_7 h
  | .j1 a_0 x_1 x_2 x_6 x_7, r => ∀ (W : Nat → Prop) (h0 m0 h m : Heap) (A_0 : Option Addr) (n_0 c_0 : Nat) (O : Hold W h0 m0 h m [rR (aE (tell_int .i64)) A_0 c_0 a_0]) (ne_0 : n_0 = List.length a_0), f70.j1 (sq70.post W A_0 n_0 c_0 h0 m0 r) A_0 n_0 c_0 x_1 x_2 x_6 x_7 h
  | .j0 a_0 x_1 x_2 x_6, r => ∀ (W : Nat → Prop) (h0 m0 h m : Heap) (A_0 : Option Addr) (n_0 c_0 : Nat) (O : Hold W h0 m0 h m [rR (aE (tell_int .i64)) A_0 c_0 a_0]) (ne_0 : n_0 = List.length a_0), f70.j0 (sq70.post W A_0 n_0 c_0 h0 m0 r) A_0 n_0 c_0 x_1 x_2 x_6 h
set_option maxRecDepth 100000 in
theorem sq70.l0_k.step_l0 (go : (p : sq70.l0_k.Pt) → Option ((List Int))) (ih : ∀ p r, go p = some r → sq70.l0_k.I p r) (a_0 : List Int) (x_1 : Int) (x_2 : Int) (x_6 : Int) (r : (List Int)) (e : sq70.l0_k.body go (.l0 a_0 x_1 x_2 x_6) = some r) : sq70.l0_k.I (.l0 a_0 x_1 x_2 x_6) r := by
  unfold sq70.l0_k.body at e
  intro W h0 m0 h m A_0 n_0 c_0 O ne_0
  subst ne_0
  refine f70.l0_in ?_
  unfold f70.l0T
  refine split_dec_e e (fun c1 e => ?_) (fun c1 e => ?_)
  · exact (ih _ _ e) _ _ _ _ _ _ _ _ (O.pick [0]).nm rfl
  · cases e
    exact ⟨_, O.pick [0], rfl, rfl⟩
set_option maxRecDepth 100000 in
theorem sq70.l0_k.step_l1 (go : (p : sq70.l0_k.Pt) → Option ((List Int))) (ih : ∀ p r, go p = some r → sq70.l0_k.I p r) (a_0 : List Int) (x_1 : Int) (x_2 : Int) (x_6 : Int) (x_7 : Int) (r : (List Int)) (e : sq70.l0_k.body go (.l1 a_0 x_1 x_2 x_6 x_7) = some r) : sq70.l0_k.I (.l1 a_0 x_1 x_2 x_6 x_7) r := by
  unfold sq70.l0_k.body at e
  intro W h0 m0 h m A_0 n_0 c_0 O ne_0
  subst ne_0
  refine f70.l1_in ?_
  unfold f70.l1T
  refine split_dec_e e (fun c23 e => ?_) (fun c23 e => ?_)
  · obtain ⟨y1, g2, e⟩ := bind_e e
    refine (O.os 0 rfl).addr rfl g2 fun a3 cs4 ha5 hc6 he7 => ?_
    obtain rfl : cs4 = [(Value.int .i64 y1)] := he7
    obtain ⟨y8, g9, e⟩ := bind_e e
    refine (O.os 0 rfl).addr rfl g9 fun a10 cs11 ha12 hc13 he14 => ?_
    obtain rfl : cs11 = [(Value.int .i64 y8)] := he14
    refine ⟨_, ld0 (Sub.refl _) hc6 rfl, _, rfl, ?_⟩
    refine ⟨_, ld0 (Sub.refl _) hc13 rfl, _, rfl, ?_⟩
    obtain ⟨y15, g16, e⟩ := bind_e e
    refine (cmp_Less_76.walk (Hold.start (W := No) O.s)  g16).mono ?_
    rintro _ h17 ⟨m18, Q19, rfl⟩
    have O21 := Hold.nm (O.retC Q19 vfs_nil)
    refine ⟨_, rfl, ?_⟩
    refine split_any_e e (fun c22 e => ?_) (fun c22 e => ?_)
    · exact (ih _ _ e) _ _ _ _ _ _ _ _ (O21.pick [0]).nm rfl
    · exact (ih _ _ e) _ _ _ _ _ _ _ _ (O21.pick [0]).nm rfl
  · exact (ih _ _ e) _ _ _ _ _ _ _ _ (O.pick [0]).nm rfl
set_option maxRecDepth 100000 in
theorem sq70.l0_k.step_j1 (go : (p : sq70.l0_k.Pt) → Option ((List Int))) (ih : ∀ p r, go p = some r → sq70.l0_k.I p r) (a_0 : List Int) (x_1 : Int) (x_2 : Int) (x_6 : Int) (x_7 : Int) (r : (List Int)) (e : sq70.l0_k.body go (.j1 a_0 x_1 x_2 x_6 x_7) = some r) : sq70.l0_k.I (.j1 a_0 x_1 x_2 x_6 x_7) r := by
  unfold sq70.l0_k.body at e
  intro W h0 m0 h m A_0 n_0 c_0 O ne_0
  subst ne_0
  refine f70.j1_in ?_
  unfold f70.j1T
  obtain ⟨y1, g2, e⟩ := bind_e e
  refine (O.os 0 rfl).addr rfl g2 fun a3 cs4 ha5 hc6 he7 => ?_
  obtain rfl : cs4 = [(Value.int .i64 y1)] := he7
  obtain ⟨y8, g9, e⟩ := bind_e e
  refine (O.os 0 rfl).addr rfl g9 fun a10 cs11 ha12 hc13 he14 => ?_
  obtain rfl : cs11 = [(Value.int .i64 y8)] := he14
  refine ⟨_, ld0 (Sub.refl _) hc6 rfl, _, rfl, ?_⟩
  refine ⟨_, ld0 (Sub.refl _) hc13 rfl, _, rfl, ?_⟩
  obtain ⟨y15, g16, e⟩ := bind_e e
  refine (O.os 0 rfl).addr rfl g16 fun a17 cs18 ha19 hc20 he21 => ?_
  obtain rfl : cs18 = [(Value.int .i64 y15)] := he21
  obtain ⟨l24, g25, e⟩ := bind_e e
  replace g25 := Option.some.inj g25
  refine O.elst0 0 rfl g16 ha19 hc20 (by decide) (y' := y1) rfl trivial g25 fun h22 O23 => ?_
  obtain ⟨y26, g27, e⟩ := bind_e e
  refine (O23.os 0 rfl).addr (lset' g25) g27 fun a28 cs29 ha30 hc31 he32 => ?_
  obtain rfl : cs29 = [(Value.int .i64 y26)] := he32
  obtain ⟨l35, g36, e⟩ := bind_e e
  replace g36 := Option.some.inj g36
  refine O23.elst0 0 rfl g27 ha30 hc31 (by decide) (y' := y8) rfl trivial g36 fun h33 O34 => ?_
  have O37 := O34.nm
  exact (ih _ _ e) _ _ _ _ _ _ _ _ (O37.pick [0]).nm ((lset' g25).trans (lset' g36))
set_option maxRecDepth 100000 in
theorem sq70.l0_k.step_j0 (go : (p : sq70.l0_k.Pt) → Option ((List Int))) (ih : ∀ p r, go p = some r → sq70.l0_k.I p r) (a_0 : List Int) (x_1 : Int) (x_2 : Int) (x_6 : Int) (r : (List Int)) (e : sq70.l0_k.body go (.j0 a_0 x_1 x_2 x_6) = some r) : sq70.l0_k.I (.j0 a_0 x_1 x_2 x_6) r := by
  unfold sq70.l0_k.body at e
  intro W h0 m0 h m A_0 n_0 c_0 O ne_0
  subst ne_0
  refine f70.j0_in ?_
  unfold f70.j0T
  exact (ih _ _ e) _ _ _ _ _ _ _ _ (O.pick [0]).nm rfl
theorem sq70.l0_k.all {p : sq70.l0_k.Pt} {r : ((List Int))} (e : sq70.l0_k.go p = some r) : sq70.l0_k.I p r := fixF_ind (β := fun _ => ((List Int))) sq70.l0_k.mono (I := sq70.l0_k.I) (fun go ih p r e => match p with
  | .l0 a_0 x_1 x_2 x_6 => sq70.l0_k.step_l0 go ih a_0 x_1 x_2 x_6 r e
  | .l1 a_0 x_1 x_2 x_6 x_7 => sq70.l0_k.step_l1 go ih a_0 x_1 x_2 x_6 x_7 r e
  | .j1 a_0 x_1 x_2 x_6 x_7 => sq70.l0_k.step_j1 go ih a_0 x_1 x_2 x_6 x_7 r e
  | .j0 a_0 x_1 x_2 x_6 => sq70.l0_k.step_j0 go ih a_0 x_1 x_2 x_6 r e
  ) e
theorem sq70.l0.walk {W : Nat → Prop} {h0 m0 h m : Heap} {A_0 : Option Addr} {n_0 c_0 : Nat} {a_0 : List Int} {x_1 : Int} {x_2 : Int} {x_6 : Int} (O : Hold W h0 m0 h m [rR (aE (tell_int .i64)) A_0 c_0 a_0]) (ne_0 : n_0 = List.length a_0) {r : (List Int)} (e : sq70.l0 a_0 x_1 x_2 x_6 = some r) : f70.l0 (sq70.post W A_0 n_0 c_0 h0 m0 r) A_0 n_0 c_0 x_1 x_2 x_6 h := sq70.l0_k.all (p := .l0 a_0 x_1 x_2 x_6) e W h0 m0 h m A_0 n_0 c_0 O ne_0
noncomputable def sq70 (a_0 : List Int) (x_1 : Int) (x_2 : Int) : Option ((List Int)) :=
  (sq70.l0 a_0 x_1 x_2 (IntKind.wrap .i64 (x_1 + (1 : Int))))
set_option maxRecDepth 100000 in
theorem sq70.walk {W : Nat → Prop} {h m : Heap} {A_0 : Option Addr} {n_0 c_0 : Nat} {a_0 : List Int} {x_1 : Int} {x_2 : Int} (O : Hold W h m h m [rR (aE (tell_int .i64)) A_0 c_0 a_0]) (ne_0 : n_0 = List.length a_0) {r : (List Int)} (e : sq70 a_0 x_1 x_2 = some r) : Run Try.prog 70 #[Value.slice A_0 n_0 c_0, Value.int .i64 x_1, Value.int .i64 x_2] h (sq70.post W A_0 n_0 c_0 h m r) := by
  unfold sq70 at e
  subst ne_0
  refine f70.run ?_
  unfold f70.runT
  exact sq70.l0.walk (O.pick [0]).nm rfl e
def sq89.post (W : Nat → Prop) (Asl0 : Option Addr) (nsl0 csl0 : Nat) (h0 m0 : Heap) (r : (List Int)) (v : Value) (h : Heap) : Prop := ∃ m , Hold W h0 m0 h m [rR (aE (tell_int .i64)) Asl0 csl0 r] ∧ v = .tuple #[] ∧ nsl0 = List.length r
inductive sq89.l0_k.Pt where
  | l0 (a_0 : List Int) (x_2 : Int) (x_3 : Int) (x_8 : Int)
  | j1 (a_0 : List Int) (x_2 : Int) (x_3 : Int) (x_8 : Int) (x_9 : Int) (b_36 : Bool)
  | j0 (a_0 : List Int) (x_2 : Int) (x_3 : Int) (x_8 : Int) (x_9 : Int)
noncomputable def sq89.l0_k.body (go : (p : sq89.l0_k.Pt) → Option ((List Int))) : (p : sq89.l0_k.Pt) → Option ((List Int))
  | .l0 a_0 x_2 x_3 x_8 => if (IntKind.wrap .i64 ((IntKind.wrap .i64 ((2 : Int) * x_8)) + (1 : Int))) ≥ x_2 then (some (a_0)) else (if (IntKind.wrap .i64 ((IntKind.wrap .i64 ((IntKind.wrap .i64 ((2 : Int) * x_8)) + (1 : Int))) + (1 : Int))) < x_2 then (Option.bind (gi a_0 (IntKind.wrap .i64 (x_3 + (IntKind.wrap .i64 ((IntKind.wrap .i64 ((2 : Int) * x_8)) + (1 : Int)))))) fun y1 => Option.bind (gi a_0 (IntKind.wrap .i64 ((IntKind.wrap .i64 (x_3 + (IntKind.wrap .i64 ((IntKind.wrap .i64 ((2 : Int) * x_8)) + (1 : Int))))) + (1 : Int)))) fun y8 => Option.bind (cmp_Less_76 y1 y8) fun y15 => (go (.j1 a_0 x_2 x_3 x_8 (IntKind.wrap .i64 ((IntKind.wrap .i64 ((2 : Int) * x_8)) + (1 : Int))) y15))) else ((go (.j1 a_0 x_2 x_3 x_8 (IntKind.wrap .i64 ((IntKind.wrap .i64 ((2 : Int) * x_8)) + (1 : Int))) false))))
  | .j1 a_0 x_2 x_3 x_8 x_9 b_36 => if b_36 = true then ((go (.j0 a_0 x_2 x_3 x_8 (IntKind.wrap .i64 (x_9 + (1 : Int)))))) else ((go (.j0 a_0 x_2 x_3 x_8 x_9)))
  | .j0 a_0 x_2 x_3 x_8 x_9 => Option.bind (gi a_0 (IntKind.wrap .i64 (x_3 + x_8))) fun y1 => Option.bind (gi a_0 (IntKind.wrap .i64 (x_3 + x_9))) fun y8 => Option.bind (cmp_Less_76 y1 y8) fun y15 => if y15 = true then (Option.bind (gi a_0 (IntKind.wrap .i64 (x_3 + x_9))) fun y22 => Option.bind (gi a_0 (IntKind.wrap .i64 (x_3 + x_8))) fun y29 => Option.bind (gi a_0 (IntKind.wrap .i64 (x_3 + x_8))) fun y36 => Option.bind (some (List.set a_0 (Int.toNat (IntKind.wrap .i64 (x_3 + x_8))) y22)) fun l45 => Option.bind (gi l45 (IntKind.wrap .i64 (x_3 + x_9))) fun y47 => Option.bind (some (List.set l45 (Int.toNat (IntKind.wrap .i64 (x_3 + x_9))) y29)) fun l56 => (go (.l0 l56 x_2 x_3 x_9))) else (some (a_0))
attribute [local irreducible] cmp_Less_76 in
theorem sq89.l0_k.mono : MonoF (β := fun _ => ((List Int))) sq89.l0_k.body := fun f g hfg p => match p with
  | .l0 a_0 x_2 x_3 x_8 => LeO.ite (LeO.refl _) (LeO.ite (LeO.bind (LeO.refl _) fun y1 => LeO.bind (LeO.refl _) fun y8 => LeO.bind (LeO.refl _) fun y15 => (hfg _)) ((hfg _)))
  | .j1 a_0 x_2 x_3 x_8 x_9 b_36 => LeO.ite ((hfg _)) ((hfg _))
  | .j0 a_0 x_2 x_3 x_8 x_9 => LeO.bind (LeO.refl _) fun y1 => LeO.bind (LeO.refl _) fun y8 => LeO.bind (LeO.refl _) fun y15 => LeO.ite (LeO.bind (LeO.refl _) fun y22 => LeO.bind (LeO.refl _) fun y29 => LeO.bind (LeO.refl _) fun y36 => LeO.bind (LeO.refl _) fun l45 => LeO.bind (LeO.refl _) fun y47 => LeO.bind (LeO.refl _) fun l56 => (hfg _)) (LeO.refl _)
noncomputable def sq89.l0_k.go (p : sq89.l0_k.Pt) : Option ((List Int)) := fixF (β := fun _ => ((List Int))) sq89.l0_k.body p
noncomputable def sq89.l0 (a_0 : List Int) (x_2 : Int) (x_3 : Int) (x_8 : Int) : Option ((List Int)) := sq89.l0_k.go (.l0 a_0 x_2 x_3 x_8)
noncomputable def sq89.j1 (a_0 : List Int) (x_2 : Int) (x_3 : Int) (x_8 : Int) (x_9 : Int) (b_36 : Bool) : Option ((List Int)) := sq89.l0_k.go (.j1 a_0 x_2 x_3 x_8 x_9 b_36)
noncomputable def sq89.j0 (a_0 : List Int) (x_2 : Int) (x_3 : Int) (x_8 : Int) (x_9 : Int) : Option ((List Int)) := sq89.l0_k.go (.j0 a_0 x_2 x_3 x_8 x_9)
theorem sq89.l0_eq (a_0 : List Int) (x_2 : Int) (x_3 : Int) (x_8 : Int) : sq89.l0 a_0 x_2 x_3 x_8 = if (IntKind.wrap .i64 ((IntKind.wrap .i64 ((2 : Int) * x_8)) + (1 : Int))) ≥ x_2 then (some (a_0)) else (if (IntKind.wrap .i64 ((IntKind.wrap .i64 ((IntKind.wrap .i64 ((2 : Int) * x_8)) + (1 : Int))) + (1 : Int))) < x_2 then (Option.bind (gi a_0 (IntKind.wrap .i64 (x_3 + (IntKind.wrap .i64 ((IntKind.wrap .i64 ((2 : Int) * x_8)) + (1 : Int)))))) fun y1 => Option.bind (gi a_0 (IntKind.wrap .i64 ((IntKind.wrap .i64 (x_3 + (IntKind.wrap .i64 ((IntKind.wrap .i64 ((2 : Int) * x_8)) + (1 : Int))))) + (1 : Int)))) fun y8 => Option.bind (cmp_Less_76 y1 y8) fun y15 => (sq89.j1 a_0 x_2 x_3 x_8 (IntKind.wrap .i64 ((IntKind.wrap .i64 ((2 : Int) * x_8)) + (1 : Int))) y15)) else ((sq89.j1 a_0 x_2 x_3 x_8 (IntKind.wrap .i64 ((IntKind.wrap .i64 ((2 : Int) * x_8)) + (1 : Int))) false))) := fixF_eq sq89.l0_k.mono _
theorem sq89.j1_eq (a_0 : List Int) (x_2 : Int) (x_3 : Int) (x_8 : Int) (x_9 : Int) (b_36 : Bool) : sq89.j1 a_0 x_2 x_3 x_8 x_9 b_36 = if b_36 = true then ((sq89.j0 a_0 x_2 x_3 x_8 (IntKind.wrap .i64 (x_9 + (1 : Int))))) else ((sq89.j0 a_0 x_2 x_3 x_8 x_9)) := fixF_eq sq89.l0_k.mono _
theorem sq89.j0_eq (a_0 : List Int) (x_2 : Int) (x_3 : Int) (x_8 : Int) (x_9 : Int) : sq89.j0 a_0 x_2 x_3 x_8 x_9 = Option.bind (gi a_0 (IntKind.wrap .i64 (x_3 + x_8))) fun y1 => Option.bind (gi a_0 (IntKind.wrap .i64 (x_3 + x_9))) fun y8 => Option.bind (cmp_Less_76 y1 y8) fun y15 => if y15 = true then (Option.bind (gi a_0 (IntKind.wrap .i64 (x_3 + x_9))) fun y22 => Option.bind (gi a_0 (IntKind.wrap .i64 (x_3 + x_8))) fun y29 => Option.bind (gi a_0 (IntKind.wrap .i64 (x_3 + x_8))) fun y36 => Option.bind (some (List.set a_0 (Int.toNat (IntKind.wrap .i64 (x_3 + x_8))) y22)) fun l45 => Option.bind (gi l45 (IntKind.wrap .i64 (x_3 + x_9))) fun y47 => Option.bind (some (List.set l45 (Int.toNat (IntKind.wrap .i64 (x_3 + x_9))) y29)) fun l56 => (sq89.l0 l56 x_2 x_3 x_9)) else (some (a_0)) := fixF_eq sq89.l0_k.mono _
def sq89.l0_k.I : (p : sq89.l0_k.Pt) → ((List Int)) → Prop
  | .l0 a_0 x_2 x_3 x_8, r => ∀ (W : Nat → Prop) (h0 m0 h m : Heap) (A_0 : Option Addr) (n_0 c_0 : Nat) (O : Hold W h0 m0 h m [rR (aE (tell_int .i64)) A_0 c_0 a_0]) (ne_0 : n_0 = List.length a_0), f89.l0 (sq89.post W A_0 n_0 c_0 h0 m0 r) A_0 n_0 c_0 x_2 x_3 x_8 h
  | .j1 a_0 x_2 x_3 x_8 x_9 b_36, r => ∀ (W : Nat → Prop) (h0 m0 h m : Heap) (A_0 : Option Addr) (n_0 c_0 : Nat) (O : Hold W h0 m0 h m [rR (aE (tell_int .i64)) A_0 c_0 a_0]) (ne_0 : n_0 = List.length a_0), f89.j1 (sq89.post W A_0 n_0 c_0 h0 m0 r) A_0 n_0 c_0 x_2 x_3 x_8 x_9 b_36 h
  | .j0 a_0 x_2 x_3 x_8 x_9, r => ∀ (W : Nat → Prop) (h0 m0 h m : Heap) (A_0 : Option Addr) (n_0 c_0 : Nat) (O : Hold W h0 m0 h m [rR (aE (tell_int .i64)) A_0 c_0 a_0]) (ne_0 : n_0 = List.length a_0), f89.j0 (sq89.post W A_0 n_0 c_0 h0 m0 r) A_0 n_0 c_0 x_2 x_3 x_8 x_9 h
set_option maxRecDepth 100000 in
theorem sq89.l0_k.step_l0 (go : (p : sq89.l0_k.Pt) → Option ((List Int))) (ih : ∀ p r, go p = some r → sq89.l0_k.I p r) (a_0 : List Int) (x_2 : Int) (x_3 : Int) (x_8 : Int) (r : (List Int)) (e : sq89.l0_k.body go (.l0 a_0 x_2 x_3 x_8) = some r) : sq89.l0_k.I (.l0 a_0 x_2 x_3 x_8) r := by
  unfold sq89.l0_k.body at e
  intro W h0 m0 h m A_0 n_0 c_0 O ne_0
  subst ne_0
  refine f89.l0_in ?_
  unfold f89.l0T
  refine split_dec_e e (fun c23 e => ?_) (fun c23 e => ?_)
  · cases e
    exact ⟨_, O.pick [0], rfl, rfl⟩
  · refine split_dec_e e (fun c22 e => ?_) (fun c22 e => ?_)
    · obtain ⟨y1, g2, e⟩ := bind_e e
      refine (O.os 0 rfl).addr rfl g2 fun a3 cs4 ha5 hc6 he7 => ?_
      obtain rfl : cs4 = [(Value.int .i64 y1)] := he7
      obtain ⟨y8, g9, e⟩ := bind_e e
      refine (O.os 0 rfl).addr rfl g9 fun a10 cs11 ha12 hc13 he14 => ?_
      obtain rfl : cs11 = [(Value.int .i64 y8)] := he14
      refine ⟨_, ld0 (Sub.refl _) hc6 rfl, _, rfl, ?_⟩
      refine ⟨_, ld0 (Sub.refl _) hc13 rfl, _, rfl, ?_⟩
      obtain ⟨y15, g16, e⟩ := bind_e e
      refine (cmp_Less_76.walk (Hold.start (W := No) O.s)  g16).mono ?_
      rintro _ h17 ⟨m18, Q19, rfl⟩
      have O21 := Hold.nm (O.retC Q19 vfs_nil)
      refine ⟨_, rfl, ?_⟩
      exact (ih _ _ e) _ _ _ _ _ _ _ _ (O21.pick [0]).nm rfl
    · exact (ih _ _ e) _ _ _ _ _ _ _ _ (O.pick [0]).nm rfl
set_option maxRecDepth 100000 in
theorem sq89.l0_k.step_j1 (go : (p : sq89.l0_k.Pt) → Option ((List Int))) (ih : ∀ p r, go p = some r → sq89.l0_k.I p r) (a_0 : List Int) (x_2 : Int) (x_3 : Int) (x_8 : Int) (x_9 : Int) (b_36 : Bool) (r : (List Int)) (e : sq89.l0_k.body go (.j1 a_0 x_2 x_3 x_8 x_9 b_36) = some r) : sq89.l0_k.I (.j1 a_0 x_2 x_3 x_8 x_9 b_36) r := by
  unfold sq89.l0_k.body at e
  intro W h0 m0 h m A_0 n_0 c_0 O ne_0
  subst ne_0
  refine f89.j1_in ?_
  unfold f89.j1T
  refine split_any_e e (fun c1 e => ?_) (fun c1 e => ?_)
  · exact (ih _ _ e) _ _ _ _ _ _ _ _ (O.pick [0]).nm rfl
  · exact (ih _ _ e) _ _ _ _ _ _ _ _ (O.pick [0]).nm rfl
set_option maxHeartbeats 4000000 in
set_option maxRecDepth 100000 in
theorem sq89.l0_k.step_j0 (go : (p : sq89.l0_k.Pt) → Option ((List Int))) (ih : ∀ p r, go p = some r → sq89.l0_k.I p r) (a_0 : List Int) (x_2 : Int) (x_3 : Int) (x_8 : Int) (x_9 : Int) (r : (List Int)) (e : sq89.l0_k.body go (.j0 a_0 x_2 x_3 x_8 x_9) = some r) : sq89.l0_k.I (.j0 a_0 x_2 x_3 x_8 x_9) r := by
  unfold sq89.l0_k.body at e
  intro W h0 m0 h m A_0 n_0 c_0 O ne_0
  subst ne_0
  refine f89.j0_in ?_
  unfold f89.j0T
  obtain ⟨y1, g2, e⟩ := bind_e e
  refine (O.os 0 rfl).addr rfl g2 fun a3 cs4 ha5 hc6 he7 => ?_
  obtain rfl : cs4 = [(Value.int .i64 y1)] := he7
  obtain ⟨y8, g9, e⟩ := bind_e e
  refine (O.os 0 rfl).addr rfl g9 fun a10 cs11 ha12 hc13 he14 => ?_
  obtain rfl : cs11 = [(Value.int .i64 y8)] := he14
  refine ⟨_, ld0 (Sub.refl _) hc6 rfl, _, rfl, ?_⟩
  refine ⟨_, ld0 (Sub.refl _) hc13 rfl, _, rfl, ?_⟩
  obtain ⟨y15, g16, e⟩ := bind_e e
  refine (cmp_Less_76.walk (Hold.start (W := No) O.s)  g16).mono ?_
  rintro _ h17 ⟨m18, Q19, rfl⟩
  have O21 := Hold.nm (O.retC Q19 vfs_nil)
  refine ⟨_, rfl, ?_⟩
  refine split_not ?_
  refine split_any_e e (fun c59 e => ?_) (fun c59 e => ?_)
  · obtain ⟨y22, g23, e⟩ := bind_e e
    refine (O21.os 0 rfl).addr rfl g23 fun a24 cs25 ha26 hc27 he28 => ?_
    obtain rfl : cs25 = [(Value.int .i64 y22)] := he28
    obtain ⟨y29, g30, e⟩ := bind_e e
    refine (O21.os 0 rfl).addr rfl g30 fun a31 cs32 ha33 hc34 he35 => ?_
    obtain rfl : cs32 = [(Value.int .i64 y29)] := he35
    refine ⟨_, ld0 (Sub.refl _) hc27 rfl, _, rfl, ?_⟩
    refine ⟨_, ld0 (Sub.refl _) hc34 rfl, _, rfl, ?_⟩
    obtain ⟨y36, g37, e⟩ := bind_e e
    refine (O21.os 0 rfl).addr rfl g37 fun a38 cs39 ha40 hc41 he42 => ?_
    obtain rfl : cs39 = [(Value.int .i64 y36)] := he42
    obtain ⟨l45, g46, e⟩ := bind_e e
    replace g46 := Option.some.inj g46
    refine O21.elst0 0 rfl g37 ha40 hc41 (by decide) (y' := y22) rfl trivial g46 fun h43 O44 => ?_
    obtain ⟨y47, g48, e⟩ := bind_e e
    refine (O44.os 0 rfl).addr (lset' g46) g48 fun a49 cs50 ha51 hc52 he53 => ?_
    obtain rfl : cs50 = [(Value.int .i64 y47)] := he53
    obtain ⟨l56, g57, e⟩ := bind_e e
    replace g57 := Option.some.inj g57
    refine O44.elst0 0 rfl g48 ha51 hc52 (by decide) (y' := y29) rfl trivial g57 fun h54 O55 => ?_
    have O58 := O55.nm
    exact (ih _ _ e) _ _ _ _ _ _ _ _ (O58.pick [0]).nm ((lset' g46).trans (lset' g57))
  · cases e
    exact ⟨_, O21.pick [0], rfl, rfl⟩
theorem sq89.l0_k.all {p : sq89.l0_k.Pt} {r : ((List Int))} (e : sq89.l0_k.go p = some r) : sq89.l0_k.I p r := fixF_ind (β := fun _ => ((List Int))) sq89.l0_k.mono (I := sq89.l0_k.I) (fun go ih p r e => match p with
  | .l0 a_0 x_2 x_3 x_8 => sq89.l0_k.step_l0 go ih a_0 x_2 x_3 x_8 r e
  | .j1 a_0 x_2 x_3 x_8 x_9 b_36 => sq89.l0_k.step_j1 go ih a_0 x_2 x_3 x_8 x_9 b_36 r e
  | .j0 a_0 x_2 x_3 x_8 x_9 => sq89.l0_k.step_j0 go ih a_0 x_2 x_3 x_8 x_9 r e
  ) e
theorem sq89.l0.walk {W : Nat → Prop} {h0 m0 h m : Heap} {A_0 : Option Addr} {n_0 c_0 : Nat} {a_0 : List Int} {x_2 : Int} {x_3 : Int} {x_8 : Int} (O : Hold W h0 m0 h m [rR (aE (tell_int .i64)) A_0 c_0 a_0]) (ne_0 : n_0 = List.length a_0) {r : (List Int)} (e : sq89.l0 a_0 x_2 x_3 x_8 = some r) : f89.l0 (sq89.post W A_0 n_0 c_0 h0 m0 r) A_0 n_0 c_0 x_2 x_3 x_8 h := sq89.l0_k.all (p := .l0 a_0 x_2 x_3 x_8) e W h0 m0 h m A_0 n_0 c_0 O ne_0
noncomputable def sq89 (a_0 : List Int) (x_1 : Int) (x_2 : Int) (x_3 : Int) : Option ((List Int)) :=
  (sq89.l0 a_0 x_2 x_3 x_1)
set_option maxRecDepth 100000 in
theorem sq89.walk {W : Nat → Prop} {h m : Heap} {A_0 : Option Addr} {n_0 c_0 : Nat} {a_0 : List Int} {x_1 : Int} {x_2 : Int} {x_3 : Int} (O : Hold W h m h m [rR (aE (tell_int .i64)) A_0 c_0 a_0]) (ne_0 : n_0 = List.length a_0) {r : (List Int)} (e : sq89 a_0 x_1 x_2 x_3 = some r) : Run Try.prog 89 #[Value.slice A_0 n_0 c_0, Value.int .i64 x_1, Value.int .i64 x_2, Value.int .i64 x_3] h (sq89.post W A_0 n_0 c_0 h m r) := by
  unfold sq89 at e
  subst ne_0
  refine f89.run ?_
  unfold f89.runT
  exact sq89.l0.walk (O.pick [0]).nm rfl e
def sq71.post (W : Nat → Prop) (Asl0 : Option Addr) (nsl0 csl0 : Nat) (h0 m0 : Heap) (r : (List Int)) (v : Value) (h : Heap) : Prop := ∃ m , Hold W h0 m0 h m [rR (aE (tell_int .i64)) Asl0 csl0 r] ∧ v = .tuple #[] ∧ nsl0 = List.length r
inductive sq71.l1_k.Pt where
  | l1 (a_0 : List Int) (x_6 : Int) (x_7 : Int) (x_10 : Int)
noncomputable def sq71.l1_k.body (go : (p : sq71.l1_k.Pt) → Option ((List Int))) : (p : sq71.l1_k.Pt) → Option ((List Int))
  | .l1 a_0 x_6 x_7 x_10 => if x_10 ≥ (0 : Int) then (Option.bind (gi a_0 (IntKind.wrap .i64 (x_6 + x_10))) fun y1 => Option.bind (gi a_0 x_6) fun y8 => Option.bind (gi a_0 x_6) fun y15 => Option.bind (some (List.set a_0 (Int.toNat x_6) y1)) fun l24 => Option.bind (gi l24 (IntKind.wrap .i64 (x_6 + x_10))) fun y26 => Option.bind (some (List.set l24 (Int.toNat (IntKind.wrap .i64 (x_6 + x_10))) y8)) fun l35 => Option.bind (sq89 l35 x_7 x_10 x_6) fun y37 => (go (.l1 y37 x_6 x_7 (IntKind.wrap .i64 (x_10 - (1 : Int)))))) else (some (a_0))
theorem sq71.l1_k.mono : MonoF (β := fun _ => ((List Int))) sq71.l1_k.body := fun f g hfg p => match p with
  | .l1 a_0 x_6 x_7 x_10 => LeO.ite (LeO.bind (LeO.refl _) fun y1 => LeO.bind (LeO.refl _) fun y8 => LeO.bind (LeO.refl _) fun y15 => LeO.bind (LeO.refl _) fun l24 => LeO.bind (LeO.refl _) fun y26 => LeO.bind (LeO.refl _) fun l35 => LeO.bind (LeO.refl _) fun y37 => (hfg _)) (LeO.refl _)
noncomputable def sq71.l1_k.go (p : sq71.l1_k.Pt) : Option ((List Int)) := fixF (β := fun _ => ((List Int))) sq71.l1_k.body p
noncomputable def sq71.l1 (a_0 : List Int) (x_6 : Int) (x_7 : Int) (x_10 : Int) : Option ((List Int)) := sq71.l1_k.go (.l1 a_0 x_6 x_7 x_10)
theorem sq71.l1_eq (a_0 : List Int) (x_6 : Int) (x_7 : Int) (x_10 : Int) : sq71.l1 a_0 x_6 x_7 x_10 = if x_10 ≥ (0 : Int) then (Option.bind (gi a_0 (IntKind.wrap .i64 (x_6 + x_10))) fun y1 => Option.bind (gi a_0 x_6) fun y8 => Option.bind (gi a_0 x_6) fun y15 => Option.bind (some (List.set a_0 (Int.toNat x_6) y1)) fun l24 => Option.bind (gi l24 (IntKind.wrap .i64 (x_6 + x_10))) fun y26 => Option.bind (some (List.set l24 (Int.toNat (IntKind.wrap .i64 (x_6 + x_10))) y8)) fun l35 => Option.bind (sq89 l35 x_7 x_10 x_6) fun y37 => (sq71.l1 y37 x_6 x_7 (IntKind.wrap .i64 (x_10 - (1 : Int))))) else (some (a_0)) := fixF_eq sq71.l1_k.mono _
def sq71.l1_k.I : (p : sq71.l1_k.Pt) → ((List Int)) → Prop
  | .l1 a_0 x_6 x_7 x_10, r => ∀ (W : Nat → Prop) (h0 m0 h m : Heap) (A_0 : Option Addr) (n_0 c_0 : Nat) (O : Hold W h0 m0 h m [rR (aE (tell_int .i64)) A_0 c_0 a_0]) (ne_0 : n_0 = List.length a_0), f71.l1 (sq71.post W A_0 n_0 c_0 h0 m0 r) A_0 n_0 c_0 x_6 x_7 x_10 h
set_option maxHeartbeats 4000000 in
set_option maxRecDepth 100000 in
theorem sq71.l1_k.step_l1 (go : (p : sq71.l1_k.Pt) → Option ((List Int))) (ih : ∀ p r, go p = some r → sq71.l1_k.I p r) (a_0 : List Int) (x_6 : Int) (x_7 : Int) (x_10 : Int) (r : (List Int)) (e : sq71.l1_k.body go (.l1 a_0 x_6 x_7 x_10) = some r) : sq71.l1_k.I (.l1 a_0 x_6 x_7 x_10) r := by
  unfold sq71.l1_k.body at e
  intro W h0 m0 h m A_0 n_0 c_0 O ne_0
  subst ne_0
  refine f71.l1_in ?_
  unfold f71.l1T
  refine split_dec_e e (fun c50 e => ?_) (fun c50 e => ?_)
  · obtain ⟨y1, g2, e⟩ := bind_e e
    refine (O.os 0 rfl).addr rfl g2 fun a3 cs4 ha5 hc6 he7 => ?_
    obtain rfl : cs4 = [(Value.int .i64 y1)] := he7
    obtain ⟨y8, g9, e⟩ := bind_e e
    refine (O.os 0 rfl).addr rfl g9 fun a10 cs11 ha12 hc13 he14 => ?_
    obtain rfl : cs11 = [(Value.int .i64 y8)] := he14
    refine ⟨_, ld0 (Sub.refl _) hc6 rfl, _, rfl, ?_⟩
    refine ⟨_, ld0 (Sub.refl _) hc13 rfl, _, rfl, ?_⟩
    obtain ⟨y15, g16, e⟩ := bind_e e
    refine (O.os 0 rfl).addr rfl g16 fun a17 cs18 ha19 hc20 he21 => ?_
    obtain rfl : cs18 = [(Value.int .i64 y15)] := he21
    obtain ⟨l24, g25, e⟩ := bind_e e
    replace g25 := Option.some.inj g25
    refine O.elst0 0 rfl g16 ha19 hc20 (by decide) (y' := y1) rfl trivial g25 fun h22 O23 => ?_
    obtain ⟨y26, g27, e⟩ := bind_e e
    refine (O23.os 0 rfl).addr (lset' g25) g27 fun a28 cs29 ha30 hc31 he32 => ?_
    obtain rfl : cs29 = [(Value.int .i64 y26)] := he32
    obtain ⟨l35, g36, e⟩ := bind_e e
    replace g36 := Option.some.inj g36
    refine O23.elst0 0 rfl g27 ha30 hc31 (by decide) (y' := y8) rfl trivial g36 fun h33 O34 => ?_
    obtain ⟨y37, g38, e⟩ := bind_e e
    have O43 := O34.nm
    obtain ⟨W44, P45, B46, C47⟩ := O43.callC [0]
    refine (sq89.walk P45 ((lset' g25).trans (lset' g36)) g38).mono ?_
    rintro _ h39 ⟨m40, Q41, rfl, hl48⟩
    have O49 := Hold.nm (C47 Q41 (vfs_cons (rR_vf (aE_vf (fun _ _ _ _ h => h))) vfs_nil))
    refine ⟨rfl, ?_⟩
    exact (ih _ _ e) _ _ _ _ _ _ _ _ (O49.pick [1]).nm hl48
  · cases e
    exact ⟨_, O.pick [0], rfl, rfl⟩
theorem sq71.l1_k.all {p : sq71.l1_k.Pt} {r : ((List Int))} (e : sq71.l1_k.go p = some r) : sq71.l1_k.I p r := fixF_ind (β := fun _ => ((List Int))) sq71.l1_k.mono (I := sq71.l1_k.I) (fun go ih p r e => match p with
  | .l1 a_0 x_6 x_7 x_10 => sq71.l1_k.step_l1 go ih a_0 x_6 x_7 x_10 r e
  ) e
theorem sq71.l1.walk {W : Nat → Prop} {h0 m0 h m : Heap} {A_0 : Option Addr} {n_0 c_0 : Nat} {a_0 : List Int} {x_6 : Int} {x_7 : Int} {x_10 : Int} (O : Hold W h0 m0 h m [rR (aE (tell_int .i64)) A_0 c_0 a_0]) (ne_0 : n_0 = List.length a_0) {r : (List Int)} (e : sq71.l1 a_0 x_6 x_7 x_10 = some r) : f71.l1 (sq71.post W A_0 n_0 c_0 h0 m0 r) A_0 n_0 c_0 x_6 x_7 x_10 h := sq71.l1_k.all (p := .l1 a_0 x_6 x_7 x_10) e W h0 m0 h m A_0 n_0 c_0 O ne_0
inductive sq71.l0_k.Pt where
  | l0 (a_0 : List Int) (x_6 : Int) (x_7 : Int) (x_8 : Int) (x_9 : Int)
noncomputable def sq71.l0_k.body (go : (p : sq71.l0_k.Pt) → Option ((List Int))) : (p : sq71.l0_k.Pt) → Option ((List Int))
  | .l0 a_0 x_6 x_7 x_8 x_9 => if x_9 ≥ (0 : Int) then (Option.bind (sq89 a_0 x_9 x_8 x_6) fun y1 => (go (.l0 y1 x_6 x_7 x_8 (IntKind.wrap .i64 (x_9 - (1 : Int)))))) else ((sq71.l1 a_0 x_6 x_7 (IntKind.wrap .i64 (x_8 - (1 : Int)))))
theorem sq71.l0_k.mono : MonoF (β := fun _ => ((List Int))) sq71.l0_k.body := fun f g hfg p => match p with
  | .l0 a_0 x_6 x_7 x_8 x_9 => LeO.ite (LeO.bind (LeO.refl _) fun y1 => (hfg _)) ((LeO.refl _))
noncomputable def sq71.l0_k.go (p : sq71.l0_k.Pt) : Option ((List Int)) := fixF (β := fun _ => ((List Int))) sq71.l0_k.body p
noncomputable def sq71.l0 (a_0 : List Int) (x_6 : Int) (x_7 : Int) (x_8 : Int) (x_9 : Int) : Option ((List Int)) := sq71.l0_k.go (.l0 a_0 x_6 x_7 x_8 x_9)
theorem sq71.l0_eq (a_0 : List Int) (x_6 : Int) (x_7 : Int) (x_8 : Int) (x_9 : Int) : sq71.l0 a_0 x_6 x_7 x_8 x_9 = if x_9 ≥ (0 : Int) then (Option.bind (sq89 a_0 x_9 x_8 x_6) fun y1 => (sq71.l0 y1 x_6 x_7 x_8 (IntKind.wrap .i64 (x_9 - (1 : Int))))) else ((sq71.l1 a_0 x_6 x_7 (IntKind.wrap .i64 (x_8 - (1 : Int))))) := fixF_eq sq71.l0_k.mono _
def sq71.l0_k.I : (p : sq71.l0_k.Pt) → ((List Int)) → Prop
  | .l0 a_0 x_6 x_7 x_8 x_9, r => ∀ (W : Nat → Prop) (h0 m0 h m : Heap) (A_0 : Option Addr) (n_0 c_0 : Nat) (O : Hold W h0 m0 h m [rR (aE (tell_int .i64)) A_0 c_0 a_0]) (ne_0 : n_0 = List.length a_0), f71.l0 (sq71.post W A_0 n_0 c_0 h0 m0 r) A_0 n_0 c_0 x_6 x_7 x_8 x_9 h
set_option maxRecDepth 100000 in
theorem sq71.l0_k.step_l0 (go : (p : sq71.l0_k.Pt) → Option ((List Int))) (ih : ∀ p r, go p = some r → sq71.l0_k.I p r) (a_0 : List Int) (x_6 : Int) (x_7 : Int) (x_8 : Int) (x_9 : Int) (r : (List Int)) (e : sq71.l0_k.body go (.l0 a_0 x_6 x_7 x_8 x_9) = some r) : sq71.l0_k.I (.l0 a_0 x_6 x_7 x_8 x_9) r := by
  unfold sq71.l0_k.body at e
  intro W h0 m0 h m A_0 n_0 c_0 O ne_0
  subst ne_0
  refine f71.l0_in ?_
  unfold f71.l0T
  refine split_dec_e e (fun c13 e => ?_) (fun c13 e => ?_)
  · obtain ⟨y1, g2, e⟩ := bind_e e
    obtain ⟨W7, P8, B9, C10⟩ := O.callC [0]
    refine (sq89.walk P8 rfl g2).mono ?_
    rintro _ h3 ⟨m4, Q5, rfl, hl11⟩
    have O12 := Hold.nm (C10 Q5 (vfs_cons (rR_vf (aE_vf (fun _ _ _ _ h => h))) vfs_nil))
    refine ⟨rfl, ?_⟩
    exact (ih _ _ e) _ _ _ _ _ _ _ _ (O12.pick [1]).nm hl11
  · exact sq71.l1.walk (O.pick [0]).nm rfl e
theorem sq71.l0_k.all {p : sq71.l0_k.Pt} {r : ((List Int))} (e : sq71.l0_k.go p = some r) : sq71.l0_k.I p r := fixF_ind (β := fun _ => ((List Int))) sq71.l0_k.mono (I := sq71.l0_k.I) (fun go ih p r e => match p with
  | .l0 a_0 x_6 x_7 x_8 x_9 => sq71.l0_k.step_l0 go ih a_0 x_6 x_7 x_8 x_9 r e
  ) e
theorem sq71.l0.walk {W : Nat → Prop} {h0 m0 h m : Heap} {A_0 : Option Addr} {n_0 c_0 : Nat} {a_0 : List Int} {x_6 : Int} {x_7 : Int} {x_8 : Int} {x_9 : Int} (O : Hold W h0 m0 h m [rR (aE (tell_int .i64)) A_0 c_0 a_0]) (ne_0 : n_0 = List.length a_0) {r : (List Int)} (e : sq71.l0 a_0 x_6 x_7 x_8 x_9 = some r) : f71.l0 (sq71.post W A_0 n_0 c_0 h0 m0 r) A_0 n_0 c_0 x_6 x_7 x_8 x_9 h := sq71.l0_k.all (p := .l0 a_0 x_6 x_7 x_8 x_9) e W h0 m0 h m A_0 n_0 c_0 O ne_0
noncomputable def sq71 (a_0 : List Int) (x_1 : Int) (x_2 : Int) : Option ((List Int)) :=
  (sq71.l0 a_0 x_1 (0 : Int) (IntKind.wrap .i64 (x_2 - x_1)) (IntKind.wrap .i64 (Int.tdiv (IntKind.wrap .i64 ((IntKind.wrap .i64 (x_2 - x_1)) - (1 : Int))) (2 : Int))))
set_option maxRecDepth 100000 in
theorem sq71.walk {W : Nat → Prop} {h m : Heap} {A_0 : Option Addr} {n_0 c_0 : Nat} {a_0 : List Int} {x_1 : Int} {x_2 : Int} (O : Hold W h m h m [rR (aE (tell_int .i64)) A_0 c_0 a_0]) (ne_0 : n_0 = List.length a_0) {r : (List Int)} (e : sq71 a_0 x_1 x_2 = some r) : Run Try.prog 71 #[Value.slice A_0 n_0 c_0, Value.int .i64 x_1, Value.int .i64 x_2] h (sq71.post W A_0 n_0 c_0 h m r) := by
  unfold sq71 at e
  subst ne_0
  refine f71.run ?_
  unfold f71.runT
  refine ⟨by decide, ?_⟩
  exact sq71.l0.walk (O.pick [0]).nm rfl e
def math_bits_Len64.post (W : Nat → Prop) (h0 m0 : Heap) (r : Int) (v : Value) (h : Heap) : Prop := ∃ m , Hold W h0 m0 h m [] ∧ v = .int .i64 r
noncomputable def math_bits_Len64.j2 (x_0 : Int) (x_2 : Int) : Option (Int) :=
  Option.bind (gb (ByteArray.mk #[0, 1, 2, 2, 3, 3, 3, 3, 4, 4, 4, 4, 4, 4, 4, 4, 5, 5, 5, 5, 5, 5, 5, 5, 5, 5, 5, 5, 5, 5, 5, 5, 6, 6, 6, 6, 6, 6, 6, 6, 6, 6, 6, 6, 6, 6, 6, 6, 6, 6, 6, 6, 6, 6, 6, 6, 6, 6, 6, 6, 6, 6, 6, 6, 7, 7, 7, 7, 7, 7, 7, 7, 7, 7, 7, 7, 7, 7, 7, 7, 7, 7, 7, 7, 7, 7, 7, 7, 7, 7, 7, 7, 7, 7, 7, 7, 7, 7, 7, 7, 7, 7, 7, 7, 7, 7, 7, 7, 7, 7, 7, 7, 7, 7, 7, 7, 7, 7, 7, 7, 7, 7, 7, 7, 7, 7, 7, 7, 8, 8, 8, 8, 8, 8, 8, 8, 8, 8, 8, 8, 8, 8, 8, 8, 8, 8, 8, 8, 8, 8, 8, 8, 8, 8, 8, 8, 8, 8, 8, 8, 8, 8, 8, 8, 8, 8, 8, 8, 8, 8, 8, 8, 8, 8, 8, 8, 8, 8, 8, 8, 8, 8, 8, 8, 8, 8, 8, 8, 8, 8, 8, 8, 8, 8, 8, 8, 8, 8, 8, 8, 8, 8, 8, 8, 8, 8, 8, 8, 8, 8, 8, 8, 8, 8, 8, 8, 8, 8, 8, 8, 8, 8, 8, 8, 8, 8, 8, 8, 8, 8, 8, 8, 8, 8, 8, 8, 8, 8, 8, 8, 8, 8, 8, 8, 8, 8, 8, 8, 8, 8, 8, 8, 8, 8, 8, 8]) (IntKind.wrap .u8 x_0)) fun y1 => some ((IntKind.wrap .i64 (x_2 + (IntKind.wrap .i64 y1))))
set_option maxRecDepth 100000 in
theorem math_bits_Len64.j2.walk {W : Nat → Prop} {h0 m0 h m : Heap} {x_0 : Int} {x_2 : Int} (O : Hold W h0 m0 h m []) {r : Int} (e : math_bits_Len64.j2 x_0 x_2 = some r) : f80.j2 (math_bits_Len64.post W h0 m0 r) x_0 x_2 h := by
  unfold math_bits_Len64.j2 at e
  refine f80.j2_in ?_
  unfold f80.j2T
  obtain ⟨y1, g2, e⟩ := bind_e e
  obtain ⟨q3, b4, q5, q6⟩ := gb_e g2
  refine ⟨q3, _, q5, ?_⟩
  try rw [← q6]
  cases e
  exact ⟨_, O.pick [], rfl⟩
noncomputable def math_bits_Len64.j1 (x_0 : Int) (x_2 : Int) : Option (Int) :=
  if x_0 ≥ (256 : Int) then ((math_bits_Len64.j2 (shrI .u64 x_0 (8 : Int)) (IntKind.wrap .i64 (x_2 + (8 : Int))))) else ((math_bits_Len64.j2 x_0 x_2))
set_option maxRecDepth 100000 in
theorem math_bits_Len64.j1.walk {W : Nat → Prop} {h0 m0 h m : Heap} {x_0 : Int} {x_2 : Int} (O : Hold W h0 m0 h m []) {r : Int} (e : math_bits_Len64.j1 x_0 x_2 = some r) : f80.j1 (math_bits_Len64.post W h0 m0 r) x_0 x_2 h := by
  unfold math_bits_Len64.j1 at e
  refine f80.j1_in ?_
  unfold f80.j1T
  refine split_dec_e e (fun c1 e => ?_) (fun c1 e => ?_)
  · refine ⟨by decide, ?_⟩
    exact math_bits_Len64.j2.walk (O.pick []).nm  e
  · exact math_bits_Len64.j2.walk (O.pick []).nm  e
noncomputable def math_bits_Len64.j0 (x_0 : Int) (x_2 : Int) : Option (Int) :=
  if x_0 ≥ (65536 : Int) then ((math_bits_Len64.j1 (shrI .u64 x_0 (16 : Int)) (IntKind.wrap .i64 (x_2 + (16 : Int))))) else ((math_bits_Len64.j1 x_0 x_2))
set_option maxRecDepth 100000 in
theorem math_bits_Len64.j0.walk {W : Nat → Prop} {h0 m0 h m : Heap} {x_0 : Int} {x_2 : Int} (O : Hold W h0 m0 h m []) {r : Int} (e : math_bits_Len64.j0 x_0 x_2 = some r) : f80.j0 (math_bits_Len64.post W h0 m0 r) x_0 x_2 h := by
  unfold math_bits_Len64.j0 at e
  refine f80.j0_in ?_
  unfold f80.j0T
  refine split_dec_e e (fun c1 e => ?_) (fun c1 e => ?_)
  · refine ⟨by decide, ?_⟩
    exact math_bits_Len64.j1.walk (O.pick []).nm  e
  · exact math_bits_Len64.j1.walk (O.pick []).nm  e
noncomputable def math_bits_Len64 (x_0 : Int) : Option (Int) :=
  if x_0 ≥ (4294967296 : Int) then ((math_bits_Len64.j0 (shrI .u64 x_0 (32 : Int)) (32 : Int))) else ((math_bits_Len64.j0 x_0 (0 : Int)))
set_option maxRecDepth 100000 in
theorem math_bits_Len64.walk {W : Nat → Prop} {h m : Heap} {x_0 : Int} (O : Hold W h m h m []) {r : Int} (e : math_bits_Len64 x_0 = some r) : Run Try.prog 80 #[Value.int .u64 x_0] h (math_bits_Len64.post W h m r) := by
  unfold math_bits_Len64 at e
  refine f80.run ?_
  unfold f80.runT
  refine split_dec_e e (fun c1 e => ?_) (fun c1 e => ?_)
  · refine ⟨by decide, ?_⟩
    exact math_bits_Len64.j0.walk (O.pick []).nm  e
  · exact math_bits_Len64.j0.walk (O.pick []).nm  e
def math_bits_Len.post (W : Nat → Prop) (h0 m0 : Heap) (r : Int) (v : Value) (h : Heap) : Prop := ∃ m , Hold W h0 m0 h m [] ∧ v = .int .i64 r
noncomputable def math_bits_Len (x_0 : Int) : Option (Int) :=
  Option.bind (math_bits_Len64 x_0) fun y1 => some (y1)
set_option maxRecDepth 100000 in
theorem math_bits_Len.walk {W : Nat → Prop} {h m : Heap} {x_0 : Int} (O : Hold W h m h m []) {r : Int} (e : math_bits_Len x_0 = some r) : Run Try.prog 48 #[Value.int .u64 x_0] h (math_bits_Len.post W h m r) := by
  unfold math_bits_Len at e
  refine f48.run ?_
  unfold f48.runT
  obtain ⟨y1, g2, e⟩ := bind_e e
  refine (math_bits_Len64.walk (Hold.start (W := No) O.s)  g2).mono ?_
  rintro _ h3 ⟨m4, Q5, rfl⟩
  have O7 := Hold.nm (O.retC Q5 vfs_nil)
  refine ⟨_, rfl, ?_⟩
  cases e
  exact ⟨_, O7.pick [], rfl⟩
def slices_nextPowerOfTwo.post (W : Nat → Prop) (h0 m0 : Heap) (r : Int) (v : Value) (h : Heap) : Prop := ∃ m , Hold W h0 m0 h m [] ∧ v = .int .u64 r
noncomputable def slices_nextPowerOfTwo (x_0 : Int) : Option (Int) :=
  Option.bind (math_bits_Len (IntKind.wrap .u64 x_0)) fun y1 => if 0 ≤ y1 then (some ((shlI .u64 (1 : Int) y1))) else none
set_option maxRecDepth 100000 in
theorem slices_nextPowerOfTwo.walk {W : Nat → Prop} {h m : Heap} {x_0 : Int} (O : Hold W h m h m []) {r : Int} (e : slices_nextPowerOfTwo x_0 = some r) : Run Try.prog 90 #[Value.int .i64 x_0] h (slices_nextPowerOfTwo.post W h m r) := by
  unfold slices_nextPowerOfTwo at e
  refine f90.run ?_
  unfold f90.runT
  obtain ⟨y1, g2, e⟩ := bind_e e
  refine (math_bits_Len.walk (Hold.start (W := No) O.s)  g2).mono ?_
  rintro _ h3 ⟨m4, Q5, rfl⟩
  have O7 := Hold.nm (O.retC Q5 vfs_nil)
  refine ⟨_, rfl, ?_⟩
  obtain ⟨g8, e⟩ := guard_e e
  refine ⟨g8, ?_⟩
  cases e
  exact ⟨_, O7.pick [], rfl⟩
def slices_xorshift_Next.post (W : Nat → Prop) (bkio0 : Nat) (h0 m0 : Heap) (r : Int × Int) (v : Value) (h : Heap) : Prop := ∃ m csio0, Hold W h0 m0 h m [rV bkio0 147 csio0] ∧ v = .int .u64 r.1 ∧ (eInt .u64) m r.2 csio0
noncomputable def slices_xorshift_Next (y_0 : Int) : Option (Int × Int) :=
  some ((bitsI .xor .u64 (bitsI .xor .u64 (bitsI .xor .u64 y_0 (shlI .u64 y_0 (13 : Int))) (shrI .u64 (bitsI .xor .u64 y_0 (shlI .u64 y_0 (13 : Int))) (7 : Int))) (shlI .u64 (bitsI .xor .u64 (bitsI .xor .u64 y_0 (shlI .u64 y_0 (13 : Int))) (shrI .u64 (bitsI .xor .u64 y_0 (shlI .u64 y_0 (13 : Int))) (7 : Int))) (17 : Int))), (bitsI .xor .u64 (bitsI .xor .u64 (bitsI .xor .u64 y_0 (shlI .u64 y_0 (13 : Int))) (shrI .u64 (bitsI .xor .u64 y_0 (shlI .u64 y_0 (13 : Int))) (7 : Int))) (shlI .u64 (bitsI .xor .u64 (bitsI .xor .u64 y_0 (shlI .u64 y_0 (13 : Int))) (shrI .u64 (bitsI .xor .u64 y_0 (shlI .u64 y_0 (13 : Int))) (7 : Int))) (17 : Int))))
set_option maxRecDepth 100000 in
theorem slices_xorshift_Next.walk {W : Nat → Prop} {h m : Heap} {bkio0 : Nat} {cs_0 : List Value} {y_0 : Int} (O : Hold W h m h m [rV bkio0 147 cs_0]) (e_0 : (eInt .u64) m y_0 cs_0) {r : Int × Int} (e : slices_xorshift_Next y_0 = some r) : Run Try.prog 91 #[Value.pointer (some ⟨bkio0, 0, none⟩)] h (slices_xorshift_Next.post W bkio0 h m r) := by
  unfold slices_xorshift_Next at e
  obtain rfl : cs_0 = [(Value.int .u64 y_0)] := e_0
  refine f91.run ?_
  unfold f91.runT
  refine ⟨_, ld0 (Sub.refl _) (O.all 0 rfl) rfl, _, rfl, ?_⟩
  refine ⟨_, ld0 (Sub.refl _) (O.all 0 rfl) rfl, _, rfl, ?_⟩
  refine ⟨by decide, ?_⟩
  refine O.st0 0 rfl (Nat.le_of_ble_eq_true rfl) trivial fun h1 O2 => ?_
  refine ⟨_, ld0 (Sub.refl _) (O2.all 0 rfl) rfl, _, rfl, ?_⟩
  refine ⟨_, ld0 (Sub.refl _) (O2.all 0 rfl) rfl, _, rfl, ?_⟩
  refine ⟨by decide, ?_⟩
  refine O2.st0 0 rfl (Nat.le_of_ble_eq_true rfl) trivial fun h3 O4 => ?_
  refine ⟨_, ld0 (Sub.refl _) (O4.all 0 rfl) rfl, _, rfl, ?_⟩
  refine ⟨_, ld0 (Sub.refl _) (O4.all 0 rfl) rfl, _, rfl, ?_⟩
  refine ⟨by decide, ?_⟩
  refine O4.st0 0 rfl (Nat.le_of_ble_eq_true rfl) trivial fun h5 O6 => ?_
  refine ⟨_, ld0 (Sub.refl _) (O6.all 0 rfl) rfl, _, rfl, ?_⟩
  have O7 := O6.nm
  cases e
  exact ⟨_, _, O7.pick [0], rfl, rfl⟩
def sq72.post (W : Nat → Prop) (Asl0 : Option Addr) (nsl0 csl0 : Nat) (h0 m0 : Heap) (r : (List Int)) (v : Value) (h : Heap) : Prop := ∃ m , Hold W h0 m0 h m [rR (aE (tell_int .i64)) Asl0 csl0 r] ∧ v = .tuple #[] ∧ nsl0 = List.length r
inductive sq72.l0_k.Pt where
  | l0 (a_0 : List Int) (x_1 : Int) (x_6 : Int) (y_7 : Int) (x_8 : Int) (x_9 : Int)
  | j1 (a_0 : List Int) (x_1 : Int) (x_6 : Int) (y_7 : Int) (x_8 : Int) (x_9 : Int) (x_10 : Int)
  | j0 (a_0 : List Int) (x_1 : Int) (x_6 : Int) (y_7 : Int) (x_8 : Int) (x_9 : Int)
noncomputable def sq72.l0_k.body (go : (p : sq72.l0_k.Pt) → Option ((List Int))) : (p : sq72.l0_k.Pt) → Option ((List Int))
  | .l0 a_0 x_1 x_6 y_7 x_8 x_9 => if x_9 ≤ (IntKind.wrap .i64 ((IntKind.wrap .i64 (x_1 + (IntKind.wrap .i64 ((IntKind.wrap .i64 (Int.tdiv x_6 (4 : Int))) * (2 : Int))))) + (1 : Int))) then (Option.bind (slices_xorshift_Next y_7) fun y1 => if (IntKind.wrap .i64 (bitsI .and .u64 y1.1 (IntKind.wrap .u64 (x_8 - (1 : Int))))) ≥ x_6 then ((go (.j1 a_0 x_1 x_6 y1.2 x_8 x_9 (IntKind.wrap .i64 ((IntKind.wrap .i64 (bitsI .and .u64 y1.1 (IntKind.wrap .u64 (x_8 - (1 : Int))))) - x_6))))) else ((go (.j1 a_0 x_1 x_6 y1.2 x_8 x_9 (IntKind.wrap .i64 (bitsI .and .u64 y1.1 (IntKind.wrap .u64 (x_8 - (1 : Int))))))))) else (some (a_0))
  | .j1 a_0 x_1 x_6 y_7 x_8 x_9 x_10 => Option.bind (gi a_0 (IntKind.wrap .i64 (x_1 + x_10))) fun y1 => Option.bind (gi a_0 x_9) fun y8 => Option.bind (gi a_0 x_9) fun y15 => Option.bind (some (List.set a_0 (Int.toNat x_9) y1)) fun l24 => Option.bind (gi l24 (IntKind.wrap .i64 (x_1 + x_10))) fun y26 => Option.bind (some (List.set l24 (Int.toNat (IntKind.wrap .i64 (x_1 + x_10))) y8)) fun l35 => (go (.j0 l35 x_1 x_6 y_7 x_8 x_9))
  | .j0 a_0 x_1 x_6 y_7 x_8 x_9 => (go (.l0 a_0 x_1 x_6 y_7 x_8 (IntKind.wrap .i64 (x_9 + (1 : Int)))))
attribute [local irreducible] slices_xorshift_Next in
theorem sq72.l0_k.mono : MonoF (β := fun _ => ((List Int))) sq72.l0_k.body := fun f g hfg p => match p with
  | .l0 a_0 x_1 x_6 y_7 x_8 x_9 => LeO.ite (LeO.bind (LeO.refl _) fun y1 => LeO.ite ((hfg _)) ((hfg _))) (LeO.refl _)
  | .j1 a_0 x_1 x_6 y_7 x_8 x_9 x_10 => LeO.bind (LeO.refl _) fun y1 => LeO.bind (LeO.refl _) fun y8 => LeO.bind (LeO.refl _) fun y15 => LeO.bind (LeO.refl _) fun l24 => LeO.bind (LeO.refl _) fun y26 => LeO.bind (LeO.refl _) fun l35 => (hfg _)
  | .j0 a_0 x_1 x_6 y_7 x_8 x_9 => (hfg _)
noncomputable def sq72.l0_k.go (p : sq72.l0_k.Pt) : Option ((List Int)) := fixF (β := fun _ => ((List Int))) sq72.l0_k.body p
noncomputable def sq72.l0 (a_0 : List Int) (x_1 : Int) (x_6 : Int) (y_7 : Int) (x_8 : Int) (x_9 : Int) : Option ((List Int)) := sq72.l0_k.go (.l0 a_0 x_1 x_6 y_7 x_8 x_9)
noncomputable def sq72.j1 (a_0 : List Int) (x_1 : Int) (x_6 : Int) (y_7 : Int) (x_8 : Int) (x_9 : Int) (x_10 : Int) : Option ((List Int)) := sq72.l0_k.go (.j1 a_0 x_1 x_6 y_7 x_8 x_9 x_10)
noncomputable def sq72.j0 (a_0 : List Int) (x_1 : Int) (x_6 : Int) (y_7 : Int) (x_8 : Int) (x_9 : Int) : Option ((List Int)) := sq72.l0_k.go (.j0 a_0 x_1 x_6 y_7 x_8 x_9)
theorem sq72.l0_eq (a_0 : List Int) (x_1 : Int) (x_6 : Int) (y_7 : Int) (x_8 : Int) (x_9 : Int) : sq72.l0 a_0 x_1 x_6 y_7 x_8 x_9 = if x_9 ≤ (IntKind.wrap .i64 ((IntKind.wrap .i64 (x_1 + (IntKind.wrap .i64 ((IntKind.wrap .i64 (Int.tdiv x_6 (4 : Int))) * (2 : Int))))) + (1 : Int))) then (Option.bind (slices_xorshift_Next y_7) fun y1 => if (IntKind.wrap .i64 (bitsI .and .u64 y1.1 (IntKind.wrap .u64 (x_8 - (1 : Int))))) ≥ x_6 then ((sq72.j1 a_0 x_1 x_6 y1.2 x_8 x_9 (IntKind.wrap .i64 ((IntKind.wrap .i64 (bitsI .and .u64 y1.1 (IntKind.wrap .u64 (x_8 - (1 : Int))))) - x_6)))) else ((sq72.j1 a_0 x_1 x_6 y1.2 x_8 x_9 (IntKind.wrap .i64 (bitsI .and .u64 y1.1 (IntKind.wrap .u64 (x_8 - (1 : Int)))))))) else (some (a_0)) := fixF_eq sq72.l0_k.mono _
theorem sq72.j1_eq (a_0 : List Int) (x_1 : Int) (x_6 : Int) (y_7 : Int) (x_8 : Int) (x_9 : Int) (x_10 : Int) : sq72.j1 a_0 x_1 x_6 y_7 x_8 x_9 x_10 = Option.bind (gi a_0 (IntKind.wrap .i64 (x_1 + x_10))) fun y1 => Option.bind (gi a_0 x_9) fun y8 => Option.bind (gi a_0 x_9) fun y15 => Option.bind (some (List.set a_0 (Int.toNat x_9) y1)) fun l24 => Option.bind (gi l24 (IntKind.wrap .i64 (x_1 + x_10))) fun y26 => Option.bind (some (List.set l24 (Int.toNat (IntKind.wrap .i64 (x_1 + x_10))) y8)) fun l35 => (sq72.j0 l35 x_1 x_6 y_7 x_8 x_9) := fixF_eq sq72.l0_k.mono _
theorem sq72.j0_eq (a_0 : List Int) (x_1 : Int) (x_6 : Int) (y_7 : Int) (x_8 : Int) (x_9 : Int) : sq72.j0 a_0 x_1 x_6 y_7 x_8 x_9 = (sq72.l0 a_0 x_1 x_6 y_7 x_8 (IntKind.wrap .i64 (x_9 + (1 : Int)))) := fixF_eq sq72.l0_k.mono _
def sq72.l0_k.I : (p : sq72.l0_k.Pt) → ((List Int)) → Prop
  | .l0 a_0 x_1 x_6 y_7 x_8 x_9, r => ∀ (W : Nat → Prop) (h0 m0 h m : Heap) (A_0 : Option Addr) (n_0 c_0 : Nat) (bk_7 : Nat) (cs_7 : List Value) (O : Hold W h0 m0 h m [rR (aE (tell_int .i64)) A_0 c_0 a_0, rV bk_7 147 cs_7]) (ne_0 : n_0 = List.length a_0) (e_7 : (eInt .u64) m y_7 cs_7), f72.l0 (sq72.post W A_0 n_0 c_0 h0 m0 r) A_0 n_0 c_0 x_1 x_6 (⟨bk_7, 0, none⟩ : Addr) x_8 x_9 h
  | .j1 a_0 x_1 x_6 y_7 x_8 x_9 x_10, r => ∀ (W : Nat → Prop) (h0 m0 h m : Heap) (A_0 : Option Addr) (n_0 c_0 : Nat) (bk_7 : Nat) (cs_7 : List Value) (O : Hold W h0 m0 h m [rR (aE (tell_int .i64)) A_0 c_0 a_0, rV bk_7 147 cs_7]) (ne_0 : n_0 = List.length a_0) (e_7 : (eInt .u64) m y_7 cs_7), f72.j1 (sq72.post W A_0 n_0 c_0 h0 m0 r) A_0 n_0 c_0 x_1 x_6 (⟨bk_7, 0, none⟩ : Addr) x_8 x_9 x_10 h
  | .j0 a_0 x_1 x_6 y_7 x_8 x_9, r => ∀ (W : Nat → Prop) (h0 m0 h m : Heap) (A_0 : Option Addr) (n_0 c_0 : Nat) (bk_7 : Nat) (cs_7 : List Value) (O : Hold W h0 m0 h m [rR (aE (tell_int .i64)) A_0 c_0 a_0, rV bk_7 147 cs_7]) (ne_0 : n_0 = List.length a_0) (e_7 : (eInt .u64) m y_7 cs_7), f72.j0 (sq72.post W A_0 n_0 c_0 h0 m0 r) A_0 n_0 c_0 x_1 x_6 (⟨bk_7, 0, none⟩ : Addr) x_8 x_9 h
set_option maxRecDepth 100000 in
theorem sq72.l0_k.step_l0 (go : (p : sq72.l0_k.Pt) → Option ((List Int))) (ih : ∀ p r, go p = some r → sq72.l0_k.I p r) (a_0 : List Int) (x_1 : Int) (x_6 : Int) (y_7 : Int) (x_8 : Int) (x_9 : Int) (r : (List Int)) (e : sq72.l0_k.body go (.l0 a_0 x_1 x_6 y_7 x_8 x_9) = some r) : sq72.l0_k.I (.l0 a_0 x_1 x_6 y_7 x_8 x_9) r := by
  unfold sq72.l0_k.body at e
  intro W h0 m0 h m A_0 n_0 c_0 bk_7 cs_7 O ne_0 e_7
  subst ne_0
  obtain rfl : cs_7 = [(Value.int .u64 y_7)] := e_7
  refine f72.l0_in ?_
  unfold f72.l0T
  refine ⟨by decide, ?_⟩
  refine split_dec_e e (fun c16 e => ?_) (fun c16 e => ?_)
  · obtain ⟨y1, g2, e⟩ := bind_e e
    obtain ⟨W7, P8, B9, C10⟩ := O.callC [1]
    refine (slices_xorshift_Next.walk P8 rfl g2).mono ?_
    rintro _ h3 ⟨m4, cs12, Q5, rfl, he13⟩
    have O14 := Hold.nm (C10 Q5 (vfs_cons rV_vf vfs_nil))
    obtain rfl : cs12 = [(Value.int .u64 y1.2)] := he13
    refine ⟨_, rfl, ?_⟩
    refine split_dec_e e (fun c15 e => ?_) (fun c15 e => ?_)
    · exact (ih _ _ e) _ _ _ _ _ _ _ _ _ _ (O14.pick [0, 2]).nm rfl rfl
    · exact (ih _ _ e) _ _ _ _ _ _ _ _ _ _ (O14.pick [0, 2]).nm rfl rfl
  · cases e
    exact ⟨_, O.pick [0], rfl, rfl⟩
set_option maxRecDepth 100000 in
theorem sq72.l0_k.step_j1 (go : (p : sq72.l0_k.Pt) → Option ((List Int))) (ih : ∀ p r, go p = some r → sq72.l0_k.I p r) (a_0 : List Int) (x_1 : Int) (x_6 : Int) (y_7 : Int) (x_8 : Int) (x_9 : Int) (x_10 : Int) (r : (List Int)) (e : sq72.l0_k.body go (.j1 a_0 x_1 x_6 y_7 x_8 x_9 x_10) = some r) : sq72.l0_k.I (.j1 a_0 x_1 x_6 y_7 x_8 x_9 x_10) r := by
  unfold sq72.l0_k.body at e
  intro W h0 m0 h m A_0 n_0 c_0 bk_7 cs_7 O ne_0 e_7
  subst ne_0
  obtain rfl : cs_7 = [(Value.int .u64 y_7)] := e_7
  refine f72.j1_in ?_
  unfold f72.j1T
  obtain ⟨y1, g2, e⟩ := bind_e e
  refine (O.os 0 rfl).addr rfl g2 fun a3 cs4 ha5 hc6 he7 => ?_
  obtain rfl : cs4 = [(Value.int .i64 y1)] := he7
  obtain ⟨y8, g9, e⟩ := bind_e e
  refine (O.os 0 rfl).addr rfl g9 fun a10 cs11 ha12 hc13 he14 => ?_
  obtain rfl : cs11 = [(Value.int .i64 y8)] := he14
  refine ⟨_, ld0 (Sub.refl _) hc6 rfl, _, rfl, ?_⟩
  refine ⟨_, ld0 (Sub.refl _) hc13 rfl, _, rfl, ?_⟩
  obtain ⟨y15, g16, e⟩ := bind_e e
  refine (O.os 0 rfl).addr rfl g16 fun a17 cs18 ha19 hc20 he21 => ?_
  obtain rfl : cs18 = [(Value.int .i64 y15)] := he21
  obtain ⟨l24, g25, e⟩ := bind_e e
  replace g25 := Option.some.inj g25
  refine O.elst0 0 rfl g16 ha19 hc20 (by decide) (y' := y1) rfl trivial g25 fun h22 O23 => ?_
  obtain ⟨y26, g27, e⟩ := bind_e e
  refine (O23.os 0 rfl).addr (lset' g25) g27 fun a28 cs29 ha30 hc31 he32 => ?_
  obtain rfl : cs29 = [(Value.int .i64 y26)] := he32
  obtain ⟨l35, g36, e⟩ := bind_e e
  replace g36 := Option.some.inj g36
  refine O23.elst0 0 rfl g27 ha30 hc31 (by decide) (y' := y8) rfl trivial g36 fun h33 O34 => ?_
  have O37 := O34.nm
  exact (ih _ _ e) _ _ _ _ _ _ _ _ _ _ (O37.pick [0, 1]).nm ((lset' g25).trans (lset' g36)) rfl
set_option maxRecDepth 100000 in
theorem sq72.l0_k.step_j0 (go : (p : sq72.l0_k.Pt) → Option ((List Int))) (ih : ∀ p r, go p = some r → sq72.l0_k.I p r) (a_0 : List Int) (x_1 : Int) (x_6 : Int) (y_7 : Int) (x_8 : Int) (x_9 : Int) (r : (List Int)) (e : sq72.l0_k.body go (.j0 a_0 x_1 x_6 y_7 x_8 x_9) = some r) : sq72.l0_k.I (.j0 a_0 x_1 x_6 y_7 x_8 x_9) r := by
  unfold sq72.l0_k.body at e
  intro W h0 m0 h m A_0 n_0 c_0 bk_7 cs_7 O ne_0 e_7
  subst ne_0
  obtain rfl : cs_7 = [(Value.int .u64 y_7)] := e_7
  refine f72.j0_in ?_
  unfold f72.j0T
  exact (ih _ _ e) _ _ _ _ _ _ _ _ _ _ (O.pick [0, 1]).nm rfl rfl
theorem sq72.l0_k.all {p : sq72.l0_k.Pt} {r : ((List Int))} (e : sq72.l0_k.go p = some r) : sq72.l0_k.I p r := fixF_ind (β := fun _ => ((List Int))) sq72.l0_k.mono (I := sq72.l0_k.I) (fun go ih p r e => match p with
  | .l0 a_0 x_1 x_6 y_7 x_8 x_9 => sq72.l0_k.step_l0 go ih a_0 x_1 x_6 y_7 x_8 x_9 r e
  | .j1 a_0 x_1 x_6 y_7 x_8 x_9 x_10 => sq72.l0_k.step_j1 go ih a_0 x_1 x_6 y_7 x_8 x_9 x_10 r e
  | .j0 a_0 x_1 x_6 y_7 x_8 x_9 => sq72.l0_k.step_j0 go ih a_0 x_1 x_6 y_7 x_8 x_9 r e
  ) e
theorem sq72.l0.walk {W : Nat → Prop} {h0 m0 h m : Heap} {A_0 : Option Addr} {n_0 c_0 : Nat} {bk_7 : Nat} {cs_7 : List Value} {a_0 : List Int} {x_1 : Int} {x_6 : Int} {y_7 : Int} {x_8 : Int} {x_9 : Int} (O : Hold W h0 m0 h m [rR (aE (tell_int .i64)) A_0 c_0 a_0, rV bk_7 147 cs_7]) (ne_0 : n_0 = List.length a_0) (e_7 : (eInt .u64) m y_7 cs_7) {r : (List Int)} (e : sq72.l0 a_0 x_1 x_6 y_7 x_8 x_9 = some r) : f72.l0 (sq72.post W A_0 n_0 c_0 h0 m0 r) A_0 n_0 c_0 x_1 x_6 (⟨bk_7, 0, none⟩ : Addr) x_8 x_9 h := sq72.l0_k.all (p := .l0 a_0 x_1 x_6 y_7 x_8 x_9) e W h0 m0 h m A_0 n_0 c_0 bk_7 cs_7 O ne_0 e_7
noncomputable def sq72 (a_0 : List Int) (x_1 : Int) (x_2 : Int) : Option ((List Int)) :=
  if (IntKind.wrap .i64 (x_2 - x_1)) ≥ (8 : Int) then (Option.bind (slices_nextPowerOfTwo (IntKind.wrap .i64 (x_2 - x_1))) fun y7 => (sq72.l0 a_0 x_1 (IntKind.wrap .i64 (x_2 - x_1)) (IntKind.wrap .u64 (IntKind.wrap .i64 (x_2 - x_1))) y7 (IntKind.wrap .i64 ((IntKind.wrap .i64 (x_1 + (IntKind.wrap .i64 ((IntKind.wrap .i64 (Int.tdiv (IntKind.wrap .i64 (x_2 - x_1)) (4 : Int))) * (2 : Int))))) - (1 : Int))))) else (some (a_0))
set_option maxRecDepth 100000 in
theorem sq72.walk {W : Nat → Prop} {h m : Heap} {A_0 : Option Addr} {n_0 c_0 : Nat} {a_0 : List Int} {x_1 : Int} {x_2 : Int} (O : Hold W h m h m [rR (aE (tell_int .i64)) A_0 c_0 a_0]) (ne_0 : n_0 = List.length a_0) {r : (List Int)} (e : sq72 a_0 x_1 x_2 = some r) : Run Try.prog 72 #[Value.slice A_0 n_0 c_0, Value.int .i64 x_1, Value.int .i64 x_2] h (sq72.post W A_0 n_0 c_0 h m r) := by
  unfold sq72 at e
  subst ne_0
  refine f72.run ?_
  unfold f72.runT
  refine split_dec_e e (fun c14 e => ?_) (fun c14 e => ?_)
  · refine O.new fun h1 x2 O3 => ?_
    refine O3.st0 1 rfl (Nat.le_of_ble_eq_true rfl) trivial fun h5 O6 => ?_
    obtain ⟨y7, g8, e⟩ := bind_e e
    refine (slices_nextPowerOfTwo.walk (Hold.start (W := No) O6.s)  g8).mono ?_
    rintro _ h9 ⟨m10, Q11, rfl⟩
    have O13 := Hold.nm (O6.retC Q11 vfs_nil)
    refine ⟨_, rfl, ?_⟩
    refine ⟨by decide, ?_⟩
    exact sq72.l0.walk (O13.pick [0, 1]).nm rfl rfl e
  · cases e
    exact ⟨_, O.pick [0], rfl, rfl⟩
def sq98.post (W : Nat → Prop) (bkio3 : Nat) (h0 m0 : Heap) (r : Int × Int × Int) (v : Value) (h : Heap) : Prop := ∃ m csio3, Hold W h0 m0 h m [rV bkio3 3 csio3] ∧ v = .tuple #[.int .i64 r.1, .int .i64 r.2.1] ∧ (eInt .i64) m r.2.2 csio3
noncomputable def sq98 (a_0 : List Int) (x_1 : Int) (x_2 : Int) (y_3 : Int) : Option (Int × Int × Int) :=
  Option.bind (gi a_0 x_2) fun y1 => Option.bind (gi a_0 x_1) fun y8 => Option.bind (cmp_Less_76 y1 y8) fun y15 => if y15 = true then (some (x_2, x_1, (IntKind.wrap .i64 (y_3 + (1 : Int))))) else (some (x_1, x_2, y_3))
set_option maxRecDepth 100000 in
theorem sq98.walk {W : Nat → Prop} {h m : Heap} {A_0 : Option Addr} {n_0 c_0 : Nat} {bkio3 : Nat} {cs_3 : List Value} {a_0 : List Int} {x_1 : Int} {x_2 : Int} {y_3 : Int} (O : Hold W h m h m [rV bkio3 3 cs_3]) (ne_0 : n_0 = List.length a_0) (k_0 : List.length a_0 ≤ c_0) (r_0 : Rd 1 (eInt .i64) m A_0 a_0) (e_3 : (eInt .i64) m y_3 cs_3) {r : Int × Int × Int} (e : sq98 a_0 x_1 x_2 y_3 = some r) : Run Try.prog 98 #[Value.slice A_0 n_0 c_0, Value.int .i64 x_1, Value.int .i64 x_2, Value.pointer (some ⟨bkio3, 0, none⟩)] h (sq98.post W bkio3 h m r) := by
  unfold sq98 at e
  subst ne_0
  obtain rfl : cs_3 = [(Value.int .i64 y_3)] := e_3
  refine f98.run ?_
  unfold f98.runT
  obtain ⟨y1, g2, e⟩ := bind_e e
  refine r_0.addr rfl g2 fun a3 cs4 ha5 hc6 he7 => ?_
  obtain rfl : cs4 = [(Value.int .i64 y1)] := he7
  obtain ⟨y8, g9, e⟩ := bind_e e
  refine r_0.addr rfl g9 fun a10 cs11 ha12 hc13 he14 => ?_
  obtain rfl : cs11 = [(Value.int .i64 y8)] := he14
  refine ⟨_, ld0 O.s hc6 rfl, _, rfl, ?_⟩
  refine ⟨_, ld0 O.s hc13 rfl, _, rfl, ?_⟩
  obtain ⟨y15, g16, e⟩ := bind_e e
  refine (cmp_Less_76.walk (Hold.start (W := No) O.s)  g16).mono ?_
  rintro _ h17 ⟨m18, Q19, rfl⟩
  have O21 := Hold.nm (O.retC Q19 vfs_nil)
  refine ⟨_, rfl, ?_⟩
  refine split_any_e e (fun c25 e => ?_) (fun c25 e => ?_)
  · refine ⟨_, ld0 (Sub.refl _) (O21.all 0 rfl) rfl, _, rfl, ?_⟩
    refine O21.st0 0 rfl (Nat.le_of_ble_eq_true rfl) trivial fun h22 O23 => ?_
    have O24 := O23.nm
    cases e
    exact ⟨_, _, O24.pick [0], rfl, rfl⟩
  · cases e
    exact ⟨_, _, O21.pick [0], rfl, rfl⟩
def sq93.post (W : Nat → Prop) (bkio4 : Nat) (h0 m0 : Heap) (r : Int × Int) (v : Value) (h : Heap) : Prop := ∃ m csio4, Hold W h0 m0 h m [rV bkio4 3 csio4] ∧ v = .int .i64 r.1 ∧ (eInt .i64) m r.2 csio4
noncomputable def sq93 (a_0 : List Int) (x_1 : Int) (x_2 : Int) (x_3 : Int) (y_4 : Int) : Option (Int × Int) :=
  Option.bind (sq98 a_0 x_1 x_2 y_4) fun y1 => Option.bind (sq98 a_0 y1.2.1 x_3 y1.2.2) fun y15 => Option.bind (sq98 a_0 y1.1 y15.1 y15.2.2) fun y29 => some (y29.2.1, y29.2.2)
set_option maxRecDepth 100000 in
theorem sq93.walk {W : Nat → Prop} {h m : Heap} {A_0 : Option Addr} {n_0 c_0 : Nat} {bkio4 : Nat} {cs_4 : List Value} {a_0 : List Int} {x_1 : Int} {x_2 : Int} {x_3 : Int} {y_4 : Int} (O : Hold W h m h m [rV bkio4 3 cs_4]) (ne_0 : n_0 = List.length a_0) (k_0 : List.length a_0 ≤ c_0) (r_0 : Rd 1 (eInt .i64) m A_0 a_0) (e_4 : (eInt .i64) m y_4 cs_4) {r : Int × Int} (e : sq93 a_0 x_1 x_2 x_3 y_4 = some r) : Run Try.prog 93 #[Value.slice A_0 n_0 c_0, Value.int .i64 x_1, Value.int .i64 x_2, Value.int .i64 x_3, Value.pointer (some ⟨bkio4, 0, none⟩)] h (sq93.post W bkio4 h m r) := by
  unfold sq93 at e
  subst ne_0
  obtain rfl : cs_4 = [(Value.int .i64 y_4)] := e_4
  refine f93.run ?_
  unfold f93.runT
  obtain ⟨y1, g2, e⟩ := bind_e e
  obtain ⟨W7, P8, B9, C10⟩ := O.callC [0]
  refine (sq98.walk P8 rfl k_0 r_0 rfl g2).mono ?_
  rintro _ h3 ⟨m4, cs12, Q5, rfl, he13⟩
  have O14 := Hold.nm (C10 Q5 (vfs_cons rV_vf vfs_nil))
  obtain rfl : cs12 = [(Value.int .i64 y1.2.2)] := he13
  refine ⟨_, _, rfl, ?_⟩
  obtain ⟨y15, g16, e⟩ := bind_e e
  obtain ⟨W21, P22, B23, C24⟩ := O14.callC [1]
  refine (sq98.walk P22 rfl k_0 r_0 rfl g16).mono ?_
  rintro _ h17 ⟨m18, cs26, Q19, rfl, he27⟩
  have O28 := Hold.nm (C24 Q19 (vfs_cons rV_vf vfs_nil))
  obtain rfl : cs26 = [(Value.int .i64 y15.2.2)] := he27
  refine ⟨_, _, rfl, ?_⟩
  obtain ⟨y29, g30, e⟩ := bind_e e
  obtain ⟨W35, P36, B37, C38⟩ := O28.callC [2]
  refine (sq98.walk P36 rfl k_0 r_0 rfl g30).mono ?_
  rintro _ h31 ⟨m32, cs40, Q33, rfl, he41⟩
  have O42 := Hold.nm (C38 Q33 (vfs_cons rV_vf vfs_nil))
  obtain rfl : cs40 = [(Value.int .i64 y29.2.2)] := he41
  refine ⟨_, _, rfl, ?_⟩
  cases e
  exact ⟨_, _, O42.pick [3], rfl, rfl⟩
def sq92.post (W : Nat → Prop) (bkio2 : Nat) (h0 m0 : Heap) (r : Int × Int) (v : Value) (h : Heap) : Prop := ∃ m csio2, Hold W h0 m0 h m [rV bkio2 3 csio2] ∧ v = .int .i64 r.1 ∧ (eInt .i64) m r.2 csio2
noncomputable def sq92 (a_0 : List Int) (x_1 : Int) (y_2 : Int) : Option (Int × Int) :=
  Option.bind (sq93 a_0 (IntKind.wrap .i64 (x_1 - (1 : Int))) x_1 (IntKind.wrap .i64 (x_1 + (1 : Int))) y_2) fun y1 => some (y1.1, y1.2)
set_option maxRecDepth 100000 in
theorem sq92.walk {W : Nat → Prop} {h m : Heap} {A_0 : Option Addr} {n_0 c_0 : Nat} {bkio2 : Nat} {cs_2 : List Value} {a_0 : List Int} {x_1 : Int} {y_2 : Int} (O : Hold W h m h m [rV bkio2 3 cs_2]) (ne_0 : n_0 = List.length a_0) (k_0 : List.length a_0 ≤ c_0) (r_0 : Rd 1 (eInt .i64) m A_0 a_0) (e_2 : (eInt .i64) m y_2 cs_2) {r : Int × Int} (e : sq92 a_0 x_1 y_2 = some r) : Run Try.prog 92 #[Value.slice A_0 n_0 c_0, Value.int .i64 x_1, Value.pointer (some ⟨bkio2, 0, none⟩)] h (sq92.post W bkio2 h m r) := by
  unfold sq92 at e
  subst ne_0
  obtain rfl : cs_2 = [(Value.int .i64 y_2)] := e_2
  refine f92.run ?_
  unfold f92.runT
  obtain ⟨y1, g2, e⟩ := bind_e e
  obtain ⟨W7, P8, B9, C10⟩ := O.callC [0]
  refine (sq93.walk P8 rfl k_0 r_0 rfl g2).mono ?_
  rintro _ h3 ⟨m4, cs12, Q5, rfl, he13⟩
  have O14 := Hold.nm (C10 Q5 (vfs_cons rV_vf vfs_nil))
  obtain rfl : cs12 = [(Value.int .i64 y1.2)] := he13
  refine ⟨_, rfl, ?_⟩
  cases e
  exact ⟨_, _, O14.pick [1], rfl, rfl⟩
def sq73.post (W : Nat → Prop) (h0 m0 : Heap) (r : Int × Int) (v : Value) (h : Heap) : Prop := ∃ m , Hold W h0 m0 h m [] ∧ v = .tuple #[.int .i64 r.1, .int .i64 r.2]
noncomputable def sq73.j0 (y_9 : Int) (x_11 : Int) : Option (Int × Int) :=
  if y_9 = (0 : Int) then (some (x_11, (1 : Int))) else (if y_9 = (12 : Int) then (some (x_11, (2 : Int))) else (some (x_11, (0 : Int))))
set_option maxRecDepth 100000 in
theorem sq73.j0.walk {W : Nat → Prop} {h0 m0 h m : Heap} {bk_9 : Nat} {cs_9 : List Value} {y_9 : Int} {x_11 : Int} (O : Hold W h0 m0 h m [rV bk_9 3 cs_9]) (e_9 : (eInt .i64) m y_9 cs_9) {r : Int × Int} (e : sq73.j0 y_9 x_11 = some r) : f73.j0 (sq73.post W h0 m0 r) (⟨bk_9, 0, none⟩ : Addr) x_11 h := by
  unfold sq73.j0 at e
  obtain rfl : cs_9 = [(Value.int .i64 y_9)] := e_9
  refine f73.j0_in ?_
  unfold f73.j0T
  refine ⟨_, ld0 (Sub.refl _) (O.all 0 rfl) rfl, _, rfl, ?_⟩
  refine split_eq_e e (fun c2 e => ?_) (fun c2 e => ?_)
  · cases e
    exact ⟨_, O.pick [], rfl⟩
  · refine split_eq_e e (fun c1 e => ?_) (fun c1 e => ?_)
    · cases e
      exact ⟨_, O.pick [], rfl⟩
    · cases e
      exact ⟨_, O.pick [], rfl⟩
noncomputable def sq73.j1 (a_0 : List Int) (y_9 : Int) (x_10 : Int) (x_11 : Int) (x_12 : Int) : Option (Int × Int) :=
  Option.bind (sq93 a_0 x_10 x_11 x_12 y_9) fun y1 => (sq73.j0 y1.2 y1.1)
set_option maxRecDepth 100000 in
theorem sq73.j1.walk {W : Nat → Prop} {h0 m0 h m : Heap} {A_0 : Option Addr} {n_0 c_0 : Nat} {bk_9 : Nat} {cs_9 : List Value} {a_0 : List Int} {y_9 : Int} {x_10 : Int} {x_11 : Int} {x_12 : Int} (O : Hold W h0 m0 h m [rV bk_9 3 cs_9]) (ne_0 : n_0 = List.length a_0) (k_0 : List.length a_0 ≤ c_0) (r_0 : Rd 1 (eInt .i64) m A_0 a_0) (e_9 : (eInt .i64) m y_9 cs_9) {r : Int × Int} (e : sq73.j1 a_0 y_9 x_10 x_11 x_12 = some r) : f73.j1 (sq73.post W h0 m0 r) A_0 n_0 c_0 (⟨bk_9, 0, none⟩ : Addr) x_10 x_11 x_12 h := by
  unfold sq73.j1 at e
  subst ne_0
  obtain rfl : cs_9 = [(Value.int .i64 y_9)] := e_9
  refine f73.j1_in ?_
  unfold f73.j1T
  obtain ⟨y1, g2, e⟩ := bind_e e
  obtain ⟨W7, P8, B9, C10⟩ := O.callC [0]
  refine (sq93.walk P8 rfl k_0 r_0 rfl g2).mono ?_
  rintro _ h3 ⟨m4, cs12, Q5, rfl, he13⟩
  have O14 := Hold.nm (C10 Q5 (vfs_cons rV_vf vfs_nil))
  obtain rfl : cs12 = [(Value.int .i64 y1.2)] := he13
  refine ⟨_, rfl, ?_⟩
  exact sq73.j0.walk (O14.pick [1]).nm rfl e
noncomputable def sq73 (a_0 : List Int) (x_1 : Int) (x_2 : Int) : Option (Int × Int) :=
  if (IntKind.wrap .i64 (x_2 - x_1)) ≥ (8 : Int) then (if (IntKind.wrap .i64 (x_2 - x_1)) ≥ (50 : Int) then (Option.bind (sq92 a_0 (IntKind.wrap .i64 (x_1 + (IntKind.wrap .i64 ((IntKind.wrap .i64 (Int.tdiv (IntKind.wrap .i64 (x_2 - x_1)) (4 : Int))) * (1 : Int))))) (0 : Int)) fun y5 => Option.bind (sq92 a_0 (IntKind.wrap .i64 (x_1 + (IntKind.wrap .i64 ((IntKind.wrap .i64 (Int.tdiv (IntKind.wrap .i64 (x_2 - x_1)) (4 : Int))) * (2 : Int))))) y5.2) fun y20 => Option.bind (sq92 a_0 (IntKind.wrap .i64 (x_1 + (IntKind.wrap .i64 ((IntKind.wrap .i64 (Int.tdiv (IntKind.wrap .i64 (x_2 - x_1)) (4 : Int))) * (3 : Int))))) y20.2) fun y34 => (sq73.j1 a_0 y34.2 y5.1 y20.1 y34.1)) else ((sq73.j1 a_0 (0 : Int) (IntKind.wrap .i64 (x_1 + (IntKind.wrap .i64 ((IntKind.wrap .i64 (Int.tdiv (IntKind.wrap .i64 (x_2 - x_1)) (4 : Int))) * (1 : Int))))) (IntKind.wrap .i64 (x_1 + (IntKind.wrap .i64 ((IntKind.wrap .i64 (Int.tdiv (IntKind.wrap .i64 (x_2 - x_1)) (4 : Int))) * (2 : Int))))) (IntKind.wrap .i64 (x_1 + (IntKind.wrap .i64 ((IntKind.wrap .i64 (Int.tdiv (IntKind.wrap .i64 (x_2 - x_1)) (4 : Int))) * (3 : Int)))))))) else ((sq73.j0 (0 : Int) (IntKind.wrap .i64 (x_1 + (IntKind.wrap .i64 ((IntKind.wrap .i64 (Int.tdiv (IntKind.wrap .i64 (x_2 - x_1)) (4 : Int))) * (2 : Int)))))))
set_option maxHeartbeats 4000000 in
set_option maxRecDepth 100000 in
theorem sq73.walk {W : Nat → Prop} {h m : Heap} {A_0 : Option Addr} {n_0 c_0 : Nat} {a_0 : List Int} {x_1 : Int} {x_2 : Int} (O : Hold W h m h m []) (ne_0 : n_0 = List.length a_0) (k_0 : List.length a_0 ≤ c_0) (r_0 : Rd 1 (eInt .i64) m A_0 a_0) {r : Int × Int} (e : sq73 a_0 x_1 x_2 = some r) : Run Try.prog 73 #[Value.slice A_0 n_0 c_0, Value.int .i64 x_1, Value.int .i64 x_2] h (sq73.post W h m r) := by
  unfold sq73 at e
  subst ne_0
  refine f73.run ?_
  unfold f73.runT
  refine O.new fun h1 x2 O3 => ?_
  refine ⟨by decide, ?_⟩
  refine ⟨by decide, ?_⟩
  refine ⟨by decide, ?_⟩
  refine split_dec_e e (fun c51 e => ?_) (fun c51 e => ?_)
  · refine split_dec_e e (fun c49 e => ?_) (fun c49 e => ?_)
    · obtain ⟨y5, g6, e⟩ := bind_e e
      have O11 := O3.nm
      obtain ⟨W12, P13, B14, C15⟩ := O11.callC [0]
      refine (sq92.walk P13 rfl k_0 r_0 rfl g6).mono ?_
      rintro _ h7 ⟨m8, cs17, Q9, rfl, he18⟩
      have O19 := Hold.nm (C15 Q9 (vfs_cons rV_vf vfs_nil))
      obtain rfl : cs17 = [(Value.int .i64 y5.2)] := he18
      refine ⟨_, rfl, ?_⟩
      obtain ⟨y20, g21, e⟩ := bind_e e
      obtain ⟨W26, P27, B28, C29⟩ := O19.callC [1]
      refine (sq92.walk P27 rfl k_0 r_0 rfl g21).mono ?_
      rintro _ h22 ⟨m23, cs31, Q24, rfl, he32⟩
      have O33 := Hold.nm (C29 Q24 (vfs_cons rV_vf vfs_nil))
      obtain rfl : cs31 = [(Value.int .i64 y20.2)] := he32
      refine ⟨_, rfl, ?_⟩
      obtain ⟨y34, g35, e⟩ := bind_e e
      obtain ⟨W40, P41, B42, C43⟩ := O33.callC [2]
      refine (sq92.walk P41 rfl k_0 r_0 rfl g35).mono ?_
      rintro _ h36 ⟨m37, cs45, Q38, rfl, he46⟩
      have O47 := Hold.nm (C43 Q38 (vfs_cons rV_vf vfs_nil))
      obtain rfl : cs45 = [(Value.int .i64 y34.2)] := he46
      refine ⟨_, rfl, ?_⟩
      exact sq73.j1.walk (O47.pick [3]).nm rfl k_0 r_0 rfl e
    · have O48 := O3.nm
      exact sq73.j1.walk (O48.pick [0]).nm rfl k_0 r_0 rfl e
  · have O50 := O3.nm
    exact sq73.j0.walk (O50.pick [0]).nm rfl e
def sq74.post (W : Nat → Prop) (Asl0 : Option Addr) (nsl0 csl0 : Nat) (h0 m0 : Heap) (r : (List Int)) (v : Value) (h : Heap) : Prop := ∃ m , Hold W h0 m0 h m [rR (aE (tell_int .i64)) Asl0 csl0 r] ∧ v = .tuple #[] ∧ nsl0 = List.length r
inductive sq74.l0_k.Pt where
  | l0 (a_0 : List Int) (x_6 : Int) (x_7 : Int)
noncomputable def sq74.l0_k.body (go : (p : sq74.l0_k.Pt) → Option ((List Int))) : (p : sq74.l0_k.Pt) → Option ((List Int))
  | .l0 a_0 x_6 x_7 => if x_6 < x_7 then (Option.bind (gi a_0 x_7) fun y1 => Option.bind (gi a_0 x_6) fun y8 => Option.bind (gi a_0 x_6) fun y15 => Option.bind (some (List.set a_0 (Int.toNat x_6) y1)) fun l24 => Option.bind (gi l24 x_7) fun y26 => Option.bind (some (List.set l24 (Int.toNat x_7) y8)) fun l35 => (go (.l0 l35 (IntKind.wrap .i64 (x_6 + (1 : Int))) (IntKind.wrap .i64 (x_7 - (1 : Int)))))) else (some (a_0))
theorem sq74.l0_k.mono : MonoF (β := fun _ => ((List Int))) sq74.l0_k.body := fun f g hfg p => match p with
  | .l0 a_0 x_6 x_7 => LeO.ite (LeO.bind (LeO.refl _) fun y1 => LeO.bind (LeO.refl _) fun y8 => LeO.bind (LeO.refl _) fun y15 => LeO.bind (LeO.refl _) fun l24 => LeO.bind (LeO.refl _) fun y26 => LeO.bind (LeO.refl _) fun l35 => (hfg _)) (LeO.refl _)
noncomputable def sq74.l0_k.go (p : sq74.l0_k.Pt) : Option ((List Int)) := fixF (β := fun _ => ((List Int))) sq74.l0_k.body p
noncomputable def sq74.l0 (a_0 : List Int) (x_6 : Int) (x_7 : Int) : Option ((List Int)) := sq74.l0_k.go (.l0 a_0 x_6 x_7)
theorem sq74.l0_eq (a_0 : List Int) (x_6 : Int) (x_7 : Int) : sq74.l0 a_0 x_6 x_7 = if x_6 < x_7 then (Option.bind (gi a_0 x_7) fun y1 => Option.bind (gi a_0 x_6) fun y8 => Option.bind (gi a_0 x_6) fun y15 => Option.bind (some (List.set a_0 (Int.toNat x_6) y1)) fun l24 => Option.bind (gi l24 x_7) fun y26 => Option.bind (some (List.set l24 (Int.toNat x_7) y8)) fun l35 => (sq74.l0 l35 (IntKind.wrap .i64 (x_6 + (1 : Int))) (IntKind.wrap .i64 (x_7 - (1 : Int))))) else (some (a_0)) := fixF_eq sq74.l0_k.mono _
def sq74.l0_k.I : (p : sq74.l0_k.Pt) → ((List Int)) → Prop
  | .l0 a_0 x_6 x_7, r => ∀ (W : Nat → Prop) (h0 m0 h m : Heap) (A_0 : Option Addr) (n_0 c_0 : Nat) (O : Hold W h0 m0 h m [rR (aE (tell_int .i64)) A_0 c_0 a_0]) (ne_0 : n_0 = List.length a_0), f74.l0 (sq74.post W A_0 n_0 c_0 h0 m0 r) A_0 n_0 c_0 x_6 x_7 h
set_option maxRecDepth 100000 in
theorem sq74.l0_k.step_l0 (go : (p : sq74.l0_k.Pt) → Option ((List Int))) (ih : ∀ p r, go p = some r → sq74.l0_k.I p r) (a_0 : List Int) (x_6 : Int) (x_7 : Int) (r : (List Int)) (e : sq74.l0_k.body go (.l0 a_0 x_6 x_7) = some r) : sq74.l0_k.I (.l0 a_0 x_6 x_7) r := by
  unfold sq74.l0_k.body at e
  intro W h0 m0 h m A_0 n_0 c_0 O ne_0
  subst ne_0
  refine f74.l0_in ?_
  unfold f74.l0T
  refine split_dec_e e (fun c38 e => ?_) (fun c38 e => ?_)
  · obtain ⟨y1, g2, e⟩ := bind_e e
    refine (O.os 0 rfl).addr rfl g2 fun a3 cs4 ha5 hc6 he7 => ?_
    obtain rfl : cs4 = [(Value.int .i64 y1)] := he7
    obtain ⟨y8, g9, e⟩ := bind_e e
    refine (O.os 0 rfl).addr rfl g9 fun a10 cs11 ha12 hc13 he14 => ?_
    obtain rfl : cs11 = [(Value.int .i64 y8)] := he14
    refine ⟨_, ld0 (Sub.refl _) hc6 rfl, _, rfl, ?_⟩
    refine ⟨_, ld0 (Sub.refl _) hc13 rfl, _, rfl, ?_⟩
    obtain ⟨y15, g16, e⟩ := bind_e e
    refine (O.os 0 rfl).addr rfl g16 fun a17 cs18 ha19 hc20 he21 => ?_
    obtain rfl : cs18 = [(Value.int .i64 y15)] := he21
    obtain ⟨l24, g25, e⟩ := bind_e e
    replace g25 := Option.some.inj g25
    refine O.elst0 0 rfl g16 ha19 hc20 (by decide) (y' := y1) rfl trivial g25 fun h22 O23 => ?_
    obtain ⟨y26, g27, e⟩ := bind_e e
    refine (O23.os 0 rfl).addr (lset' g25) g27 fun a28 cs29 ha30 hc31 he32 => ?_
    obtain rfl : cs29 = [(Value.int .i64 y26)] := he32
    obtain ⟨l35, g36, e⟩ := bind_e e
    replace g36 := Option.some.inj g36
    refine O23.elst0 0 rfl g27 ha30 hc31 (by decide) (y' := y8) rfl trivial g36 fun h33 O34 => ?_
    have O37 := O34.nm
    exact (ih _ _ e) _ _ _ _ _ _ _ _ (O37.pick [0]).nm ((lset' g25).trans (lset' g36))
  · cases e
    exact ⟨_, O.pick [0], rfl, rfl⟩
theorem sq74.l0_k.all {p : sq74.l0_k.Pt} {r : ((List Int))} (e : sq74.l0_k.go p = some r) : sq74.l0_k.I p r := fixF_ind (β := fun _ => ((List Int))) sq74.l0_k.mono (I := sq74.l0_k.I) (fun go ih p r e => match p with
  | .l0 a_0 x_6 x_7 => sq74.l0_k.step_l0 go ih a_0 x_6 x_7 r e
  ) e
theorem sq74.l0.walk {W : Nat → Prop} {h0 m0 h m : Heap} {A_0 : Option Addr} {n_0 c_0 : Nat} {a_0 : List Int} {x_6 : Int} {x_7 : Int} (O : Hold W h0 m0 h m [rR (aE (tell_int .i64)) A_0 c_0 a_0]) (ne_0 : n_0 = List.length a_0) {r : (List Int)} (e : sq74.l0 a_0 x_6 x_7 = some r) : f74.l0 (sq74.post W A_0 n_0 c_0 h0 m0 r) A_0 n_0 c_0 x_6 x_7 h := sq74.l0_k.all (p := .l0 a_0 x_6 x_7) e W h0 m0 h m A_0 n_0 c_0 O ne_0
noncomputable def sq74 (a_0 : List Int) (x_1 : Int) (x_2 : Int) : Option ((List Int)) :=
  (sq74.l0 a_0 x_1 (IntKind.wrap .i64 (x_2 - (1 : Int))))
set_option maxRecDepth 100000 in
theorem sq74.walk {W : Nat → Prop} {h m : Heap} {A_0 : Option Addr} {n_0 c_0 : Nat} {a_0 : List Int} {x_1 : Int} {x_2 : Int} (O : Hold W h m h m [rR (aE (tell_int .i64)) A_0 c_0 a_0]) (ne_0 : n_0 = List.length a_0) {r : (List Int)} (e : sq74 a_0 x_1 x_2 = some r) : Run Try.prog 74 #[Value.slice A_0 n_0 c_0, Value.int .i64 x_1, Value.int .i64 x_2] h (sq74.post W A_0 n_0 c_0 h m r) := by
  unfold sq74 at e
  subst ne_0
  refine f74.run ?_
  unfold f74.runT
  exact sq74.l0.walk (O.pick [0]).nm rfl e
def sq75.post (W : Nat → Prop) (Asl0 : Option Addr) (nsl0 csl0 : Nat) (h0 m0 : Heap) (r : Bool × (List Int)) (v : Value) (h : Heap) : Prop := ∃ m , Hold W h0 m0 h m [rR (aE (tell_int .i64)) Asl0 csl0 r.2] ∧ v = .bool r.1 ∧ nsl0 = List.length r.2
inductive sq75.l0_k.Pt where
  | l0 (a_0 : List Int) (x_1 : Int) (x_2 : Int) (x_7 : Int) (x_8 : Int)
  | l1 (a_0 : List Int) (x_1 : Int) (x_2 : Int) (x_7 : Int) (x_8 : Int)
  | j2 (a_0 : List Int) (x_1 : Int) (x_2 : Int) (x_7 : Int) (x_8 : Int)
  | j1 (a_0 : List Int) (x_1 : Int) (x_2 : Int) (x_7 : Int) (x_8 : Int)
  | l2 (a_0 : List Int) (x_1 : Int) (x_2 : Int) (x_7 : Int) (x_8 : Int) (x_9 : Int)
  | j3 (a_0 : List Int) (x_1 : Int) (x_2 : Int) (x_7 : Int) (x_8 : Int)
  | l3 (a_0 : List Int) (x_1 : Int) (x_2 : Int) (x_7 : Int) (x_8 : Int) (x_10 : Int)
  | j0 (a_0 : List Int) (x_1 : Int) (x_2 : Int) (x_7 : Int) (x_8 : Int)
noncomputable def sq75.l0_k.body (go : (p : sq75.l0_k.Pt) → Option (Bool × (List Int))) : (p : sq75.l0_k.Pt) → Option (Bool × (List Int))
  | .l0 a_0 x_1 x_2 x_7 x_8 => if x_8 < (5 : Int) then ((go (.l1 a_0 x_1 x_2 x_7 x_8))) else (some (false, a_0))
  | .l1 a_0 x_1 x_2 x_7 x_8 => if x_7 < x_2 then (Option.bind (gi a_0 x_7) fun y1 => Option.bind (gi a_0 (IntKind.wrap .i64 (x_7 - (1 : Int)))) fun y8 => Option.bind (cmp_Less_76 y1 y8) fun y15 => if y15 = true then ((go (.j1 a_0 x_1 x_2 x_7 x_8))) else ((go (.j2 a_0 x_1 x_2 x_7 x_8)))) else ((go (.j1 a_0 x_1 x_2 x_7 x_8)))
  | .j2 a_0 x_1 x_2 x_7 x_8 => (go (.l1 a_0 x_1 x_2 (IntKind.wrap .i64 (x_7 + (1 : Int))) x_8))
  | .j1 a_0 x_1 x_2 x_7 x_8 => if x_7 = x_2 then (some (true, a_0)) else (if (IntKind.wrap .i64 (x_2 - x_1)) < (50 : Int) then (some (false, a_0)) else (Option.bind (gi a_0 (IntKind.wrap .i64 (x_7 - (1 : Int)))) fun y1 => Option.bind (gi a_0 x_7) fun y8 => Option.bind (gi a_0 x_7) fun y15 => Option.bind (some (List.set a_0 (Int.toNat x_7) y1)) fun l24 => Option.bind (gi l24 (IntKind.wrap .i64 (x_7 - (1 : Int)))) fun y26 => Option.bind (some (List.set l24 (Int.toNat (IntKind.wrap .i64 (x_7 - (1 : Int)))) y8)) fun l35 => if (IntKind.wrap .i64 (x_7 - x_1)) ≥ (2 : Int) then ((go (.l2 l35 x_1 x_2 x_7 x_8 (IntKind.wrap .i64 (x_7 - (1 : Int)))))) else ((go (.j3 l35 x_1 x_2 x_7 x_8)))))
  | .l2 a_0 x_1 x_2 x_7 x_8 x_9 => if x_9 ≥ (1 : Int) then (Option.bind (gi a_0 x_9) fun y1 => Option.bind (gi a_0 (IntKind.wrap .i64 (x_9 - (1 : Int)))) fun y8 => Option.bind (cmp_Less_76 y1 y8) fun y15 => if y15 = true then (Option.bind (gi a_0 (IntKind.wrap .i64 (x_9 - (1 : Int)))) fun y22 => Option.bind (gi a_0 x_9) fun y29 => Option.bind (gi a_0 x_9) fun y36 => Option.bind (some (List.set a_0 (Int.toNat x_9) y22)) fun l45 => Option.bind (gi l45 (IntKind.wrap .i64 (x_9 - (1 : Int)))) fun y47 => Option.bind (some (List.set l45 (Int.toNat (IntKind.wrap .i64 (x_9 - (1 : Int)))) y29)) fun l56 => (go (.l2 l56 x_1 x_2 x_7 x_8 (IntKind.wrap .i64 (x_9 - (1 : Int)))))) else ((go (.j3 a_0 x_1 x_2 x_7 x_8)))) else ((go (.j3 a_0 x_1 x_2 x_7 x_8)))
  | .j3 a_0 x_1 x_2 x_7 x_8 => if (IntKind.wrap .i64 (x_2 - x_7)) ≥ (2 : Int) then ((go (.l3 a_0 x_1 x_2 x_7 x_8 (IntKind.wrap .i64 (x_7 + (1 : Int)))))) else ((go (.j0 a_0 x_1 x_2 x_7 x_8)))
  | .l3 a_0 x_1 x_2 x_7 x_8 x_10 => if x_10 < x_2 then (Option.bind (gi a_0 x_10) fun y1 => Option.bind (gi a_0 (IntKind.wrap .i64 (x_10 - (1 : Int)))) fun y8 => Option.bind (cmp_Less_76 y1 y8) fun y15 => if y15 = true then (Option.bind (gi a_0 (IntKind.wrap .i64 (x_10 - (1 : Int)))) fun y22 => Option.bind (gi a_0 x_10) fun y29 => Option.bind (gi a_0 x_10) fun y36 => Option.bind (some (List.set a_0 (Int.toNat x_10) y22)) fun l45 => Option.bind (gi l45 (IntKind.wrap .i64 (x_10 - (1 : Int)))) fun y47 => Option.bind (some (List.set l45 (Int.toNat (IntKind.wrap .i64 (x_10 - (1 : Int)))) y29)) fun l56 => (go (.l3 l56 x_1 x_2 x_7 x_8 (IntKind.wrap .i64 (x_10 + (1 : Int)))))) else ((go (.j0 a_0 x_1 x_2 x_7 x_8)))) else ((go (.j0 a_0 x_1 x_2 x_7 x_8)))
  | .j0 a_0 x_1 x_2 x_7 x_8 => (go (.l0 a_0 x_1 x_2 x_7 (IntKind.wrap .i64 (x_8 + (1 : Int)))))
attribute [local irreducible] cmp_Less_76 in
theorem sq75.l0_k.mono : MonoF (β := fun _ => (Bool × (List Int))) sq75.l0_k.body := fun f g hfg p => match p with
  | .l0 a_0 x_1 x_2 x_7 x_8 => LeO.ite ((hfg _)) (LeO.refl _)
  | .l1 a_0 x_1 x_2 x_7 x_8 => LeO.ite (LeO.bind (LeO.refl _) fun y1 => LeO.bind (LeO.refl _) fun y8 => LeO.bind (LeO.refl _) fun y15 => LeO.ite ((hfg _)) ((hfg _))) ((hfg _))
  | .j2 a_0 x_1 x_2 x_7 x_8 => (hfg _)
  | .j1 a_0 x_1 x_2 x_7 x_8 => LeO.ite (LeO.refl _) (LeO.ite (LeO.refl _) (LeO.bind (LeO.refl _) fun y1 => LeO.bind (LeO.refl _) fun y8 => LeO.bind (LeO.refl _) fun y15 => LeO.bind (LeO.refl _) fun l24 => LeO.bind (LeO.refl _) fun y26 => LeO.bind (LeO.refl _) fun l35 => LeO.ite ((hfg _)) ((hfg _))))
  | .l2 a_0 x_1 x_2 x_7 x_8 x_9 => LeO.ite (LeO.bind (LeO.refl _) fun y1 => LeO.bind (LeO.refl _) fun y8 => LeO.bind (LeO.refl _) fun y15 => LeO.ite (LeO.bind (LeO.refl _) fun y22 => LeO.bind (LeO.refl _) fun y29 => LeO.bind (LeO.refl _) fun y36 => LeO.bind (LeO.refl _) fun l45 => LeO.bind (LeO.refl _) fun y47 => LeO.bind (LeO.refl _) fun l56 => (hfg _)) ((hfg _))) ((hfg _))
  | .j3 a_0 x_1 x_2 x_7 x_8 => LeO.ite ((hfg _)) ((hfg _))
  | .l3 a_0 x_1 x_2 x_7 x_8 x_10 => LeO.ite (LeO.bind (LeO.refl _) fun y1 => LeO.bind (LeO.refl _) fun y8 => LeO.bind (LeO.refl _) fun y15 => LeO.ite (LeO.bind (LeO.refl _) fun y22 => LeO.bind (LeO.refl _) fun y29 => LeO.bind (LeO.refl _) fun y36 => LeO.bind (LeO.refl _) fun l45 => LeO.bind (LeO.refl _) fun y47 => LeO.bind (LeO.refl _) fun l56 => (hfg _)) ((hfg _))) ((hfg _))
  | .j0 a_0 x_1 x_2 x_7 x_8 => (hfg _)
noncomputable def sq75.l0_k.go (p : sq75.l0_k.Pt) : Option (Bool × (List Int)) := fixF (β := fun _ => (Bool × (List Int))) sq75.l0_k.body p
noncomputable def sq75.l0 (a_0 : List Int) (x_1 : Int) (x_2 : Int) (x_7 : Int) (x_8 : Int) : Option (Bool × (List Int)) := sq75.l0_k.go (.l0 a_0 x_1 x_2 x_7 x_8)
noncomputable def sq75.l1 (a_0 : List Int) (x_1 : Int) (x_2 : Int) (x_7 : Int) (x_8 : Int) : Option (Bool × (List Int)) := sq75.l0_k.go (.l1 a_0 x_1 x_2 x_7 x_8)
noncomputable def sq75.j2 (a_0 : List Int) (x_1 : Int) (x_2 : Int) (x_7 : Int) (x_8 : Int) : Option (Bool × (List Int)) := sq75.l0_k.go (.j2 a_0 x_1 x_2 x_7 x_8)
noncomputable def sq75.j1 (a_0 : List Int) (x_1 : Int) (x_2 : Int) (x_7 : Int) (x_8 : Int) : Option (Bool × (List Int)) := sq75.l0_k.go (.j1 a_0 x_1 x_2 x_7 x_8)
noncomputable def sq75.l2 (a_0 : List Int) (x_1 : Int) (x_2 : Int) (x_7 : Int) (x_8 : Int) (x_9 : Int) : Option (Bool × (List Int)) := sq75.l0_k.go (.l2 a_0 x_1 x_2 x_7 x_8 x_9)
noncomputable def sq75.j3 (a_0 : List Int) (x_1 : Int) (x_2 : Int) (x_7 : Int) (x_8 : Int) : Option (Bool × (List Int)) := sq75.l0_k.go (.j3 a_0 x_1 x_2 x_7 x_8)
noncomputable def sq75.l3 (a_0 : List Int) (x_1 : Int) (x_2 : Int) (x_7 : Int) (x_8 : Int) (x_10 : Int) : Option (Bool × (List Int)) := sq75.l0_k.go (.l3 a_0 x_1 x_2 x_7 x_8 x_10)
noncomputable def sq75.j0 (a_0 : List Int) (x_1 : Int) (x_2 : Int) (x_7 : Int) (x_8 : Int) : Option (Bool × (List Int)) := sq75.l0_k.go (.j0 a_0 x_1 x_2 x_7 x_8)
theorem sq75.l0_eq (a_0 : List Int) (x_1 : Int) (x_2 : Int) (x_7 : Int) (x_8 : Int) : sq75.l0 a_0 x_1 x_2 x_7 x_8 = if x_8 < (5 : Int) then ((sq75.l1 a_0 x_1 x_2 x_7 x_8)) else (some (false, a_0)) := fixF_eq sq75.l0_k.mono _
theorem sq75.l1_eq (a_0 : List Int) (x_1 : Int) (x_2 : Int) (x_7 : Int) (x_8 : Int) : sq75.l1 a_0 x_1 x_2 x_7 x_8 = if x_7 < x_2 then (Option.bind (gi a_0 x_7) fun y1 => Option.bind (gi a_0 (IntKind.wrap .i64 (x_7 - (1 : Int)))) fun y8 => Option.bind (cmp_Less_76 y1 y8) fun y15 => if y15 = true then ((sq75.j1 a_0 x_1 x_2 x_7 x_8)) else ((sq75.j2 a_0 x_1 x_2 x_7 x_8))) else ((sq75.j1 a_0 x_1 x_2 x_7 x_8)) := fixF_eq sq75.l0_k.mono _
theorem sq75.j2_eq (a_0 : List Int) (x_1 : Int) (x_2 : Int) (x_7 : Int) (x_8 : Int) : sq75.j2 a_0 x_1 x_2 x_7 x_8 = (sq75.l1 a_0 x_1 x_2 (IntKind.wrap .i64 (x_7 + (1 : Int))) x_8) := fixF_eq sq75.l0_k.mono _
theorem sq75.j1_eq (a_0 : List Int) (x_1 : Int) (x_2 : Int) (x_7 : Int) (x_8 : Int) : sq75.j1 a_0 x_1 x_2 x_7 x_8 = if x_7 = x_2 then (some (true, a_0)) else (if (IntKind.wrap .i64 (x_2 - x_1)) < (50 : Int) then (some (false, a_0)) else (Option.bind (gi a_0 (IntKind.wrap .i64 (x_7 - (1 : Int)))) fun y1 => Option.bind (gi a_0 x_7) fun y8 => Option.bind (gi a_0 x_7) fun y15 => Option.bind (some (List.set a_0 (Int.toNat x_7) y1)) fun l24 => Option.bind (gi l24 (IntKind.wrap .i64 (x_7 - (1 : Int)))) fun y26 => Option.bind (some (List.set l24 (Int.toNat (IntKind.wrap .i64 (x_7 - (1 : Int)))) y8)) fun l35 => if (IntKind.wrap .i64 (x_7 - x_1)) ≥ (2 : Int) then ((sq75.l2 l35 x_1 x_2 x_7 x_8 (IntKind.wrap .i64 (x_7 - (1 : Int))))) else ((sq75.j3 l35 x_1 x_2 x_7 x_8)))) := fixF_eq sq75.l0_k.mono _
theorem sq75.l2_eq (a_0 : List Int) (x_1 : Int) (x_2 : Int) (x_7 : Int) (x_8 : Int) (x_9 : Int) : sq75.l2 a_0 x_1 x_2 x_7 x_8 x_9 = if x_9 ≥ (1 : Int) then (Option.bind (gi a_0 x_9) fun y1 => Option.bind (gi a_0 (IntKind.wrap .i64 (x_9 - (1 : Int)))) fun y8 => Option.bind (cmp_Less_76 y1 y8) fun y15 => if y15 = true then (Option.bind (gi a_0 (IntKind.wrap .i64 (x_9 - (1 : Int)))) fun y22 => Option.bind (gi a_0 x_9) fun y29 => Option.bind (gi a_0 x_9) fun y36 => Option.bind (some (List.set a_0 (Int.toNat x_9) y22)) fun l45 => Option.bind (gi l45 (IntKind.wrap .i64 (x_9 - (1 : Int)))) fun y47 => Option.bind (some (List.set l45 (Int.toNat (IntKind.wrap .i64 (x_9 - (1 : Int)))) y29)) fun l56 => (sq75.l2 l56 x_1 x_2 x_7 x_8 (IntKind.wrap .i64 (x_9 - (1 : Int))))) else ((sq75.j3 a_0 x_1 x_2 x_7 x_8))) else ((sq75.j3 a_0 x_1 x_2 x_7 x_8)) := fixF_eq sq75.l0_k.mono _
theorem sq75.j3_eq (a_0 : List Int) (x_1 : Int) (x_2 : Int) (x_7 : Int) (x_8 : Int) : sq75.j3 a_0 x_1 x_2 x_7 x_8 = if (IntKind.wrap .i64 (x_2 - x_7)) ≥ (2 : Int) then ((sq75.l3 a_0 x_1 x_2 x_7 x_8 (IntKind.wrap .i64 (x_7 + (1 : Int))))) else ((sq75.j0 a_0 x_1 x_2 x_7 x_8)) := fixF_eq sq75.l0_k.mono _
theorem sq75.l3_eq (a_0 : List Int) (x_1 : Int) (x_2 : Int) (x_7 : Int) (x_8 : Int) (x_10 : Int) : sq75.l3 a_0 x_1 x_2 x_7 x_8 x_10 = if x_10 < x_2 then (Option.bind (gi a_0 x_10) fun y1 => Option.bind (gi a_0 (IntKind.wrap .i64 (x_10 - (1 : Int)))) fun y8 => Option.bind (cmp_Less_76 y1 y8) fun y15 => if y15 = true then (Option.bind (gi a_0 (IntKind.wrap .i64 (x_10 - (1 : Int)))) fun y22 => Option.bind (gi a_0 x_10) fun y29 => Option.bind (gi a_0 x_10) fun y36 => Option.bind (some (List.set a_0 (Int.toNat x_10) y22)) fun l45 => Option.bind (gi l45 (IntKind.wrap .i64 (x_10 - (1 : Int)))) fun y47 => Option.bind (some (List.set l45 (Int.toNat (IntKind.wrap .i64 (x_10 - (1 : Int)))) y29)) fun l56 => (sq75.l3 l56 x_1 x_2 x_7 x_8 (IntKind.wrap .i64 (x_10 + (1 : Int))))) else ((sq75.j0 a_0 x_1 x_2 x_7 x_8))) else ((sq75.j0 a_0 x_1 x_2 x_7 x_8)) := fixF_eq sq75.l0_k.mono _
theorem sq75.j0_eq (a_0 : List Int) (x_1 : Int) (x_2 : Int) (x_7 : Int) (x_8 : Int) : sq75.j0 a_0 x_1 x_2 x_7 x_8 = (sq75.l0 a_0 x_1 x_2 x_7 (IntKind.wrap .i64 (x_8 + (1 : Int)))) := fixF_eq sq75.l0_k.mono _
def sq75.l0_k.I : (p : sq75.l0_k.Pt) → (Bool × (List Int)) → Prop
  | .l0 a_0 x_1 x_2 x_7 x_8, r => ∀ (W : Nat → Prop) (h0 m0 h m : Heap) (A_0 : Option Addr) (n_0 c_0 : Nat) (O : Hold W h0 m0 h m [rR (aE (tell_int .i64)) A_0 c_0 a_0]) (ne_0 : n_0 = List.length a_0), f75.l0 (sq75.post W A_0 n_0 c_0 h0 m0 r) A_0 n_0 c_0 x_1 x_2 x_7 x_8 h
  | .l1 a_0 x_1 x_2 x_7 x_8, r => ∀ (W : Nat → Prop) (h0 m0 h m : Heap) (A_0 : Option Addr) (n_0 c_0 : Nat) (O : Hold W h0 m0 h m [rR (aE (tell_int .i64)) A_0 c_0 a_0]) (ne_0 : n_0 = List.length a_0), f75.l1 (sq75.post W A_0 n_0 c_0 h0 m0 r) A_0 n_0 c_0 x_1 x_2 x_7 x_8 h
  | .j2 a_0 x_1 x_2 x_7 x_8, r => ∀ (W : Nat → Prop) (h0 m0 h m : Heap) (A_0 : Option Addr) (n_0 c_0 : Nat) (O : Hold W h0 m0 h m [rR (aE (tell_int .i64)) A_0 c_0 a_0]) (ne_0 : n_0 = List.length a_0), f75.j2 (sq75.post W A_0 n_0 c_0 h0 m0 r) A_0 n_0 c_0 x_1 x_2 x_7 x_8 h
  | .j1 a_0 x_1 x_2 x_7 x_8, r => ∀ (W : Nat → Prop) (h0 m0 h m : Heap) (A_0 : Option Addr) (n_0 c_0 : Nat) (O : Hold W h0 m0 h m [rR (aE (tell_int .i64)) A_0 c_0 a_0]) (ne_0 : n_0 = List.length a_0), f75.j1 (sq75.post W A_0 n_0 c_0 h0 m0 r) A_0 n_0 c_0 x_1 x_2 x_7 x_8 h
  | .l2 a_0 x_1 x_2 x_7 x_8 x_9, r => ∀ (W : Nat → Prop) (h0 m0 h m : Heap) (A_0 : Option Addr) (n_0 c_0 : Nat) (O : Hold W h0 m0 h m [rR (aE (tell_int .i64)) A_0 c_0 a_0]) (ne_0 : n_0 = List.length a_0), f75.l2 (sq75.post W A_0 n_0 c_0 h0 m0 r) A_0 n_0 c_0 x_1 x_2 x_7 x_8 x_9 h
  | .j3 a_0 x_1 x_2 x_7 x_8, r => ∀ (W : Nat → Prop) (h0 m0 h m : Heap) (A_0 : Option Addr) (n_0 c_0 : Nat) (O : Hold W h0 m0 h m [rR (aE (tell_int .i64)) A_0 c_0 a_0]) (ne_0 : n_0 = List.length a_0), f75.j3 (sq75.post W A_0 n_0 c_0 h0 m0 r) A_0 n_0 c_0 x_1 x_2 x_7 x_8 h
  | .l3 a_0 x_1 x_2 x_7 x_8 x_10, r => ∀ (W : Nat → Prop) (h0 m0 h m : Heap) (A_0 : Option Addr) (n_0 c_0 : Nat) (O : Hold W h0 m0 h m [rR (aE (tell_int .i64)) A_0 c_0 a_0]) (ne_0 : n_0 = List.length a_0), f75.l3 (sq75.post W A_0 n_0 c_0 h0 m0 r) A_0 n_0 c_0 x_1 x_2 x_7 x_8 x_10 h
  | .j0 a_0 x_1 x_2 x_7 x_8, r => ∀ (W : Nat → Prop) (h0 m0 h m : Heap) (A_0 : Option Addr) (n_0 c_0 : Nat) (O : Hold W h0 m0 h m [rR (aE (tell_int .i64)) A_0 c_0 a_0]) (ne_0 : n_0 = List.length a_0), f75.j0 (sq75.post W A_0 n_0 c_0 h0 m0 r) A_0 n_0 c_0 x_1 x_2 x_7 x_8 h
set_option maxRecDepth 100000 in
theorem sq75.l0_k.step_l0 (go : (p : sq75.l0_k.Pt) → Option (Bool × (List Int))) (ih : ∀ p r, go p = some r → sq75.l0_k.I p r) (a_0 : List Int) (x_1 : Int) (x_2 : Int) (x_7 : Int) (x_8 : Int) (r : Bool × (List Int)) (e : sq75.l0_k.body go (.l0 a_0 x_1 x_2 x_7 x_8) = some r) : sq75.l0_k.I (.l0 a_0 x_1 x_2 x_7 x_8) r := by
  unfold sq75.l0_k.body at e
  intro W h0 m0 h m A_0 n_0 c_0 O ne_0
  subst ne_0
  refine f75.l0_in ?_
  unfold f75.l0T
  refine split_dec_e e (fun c1 e => ?_) (fun c1 e => ?_)
  · exact (ih _ _ e) _ _ _ _ _ _ _ _ (O.pick [0]).nm rfl
  · cases e
    exact ⟨_, O.pick [0], rfl, rfl⟩
set_option maxRecDepth 100000 in
theorem sq75.l0_k.step_l1 (go : (p : sq75.l0_k.Pt) → Option (Bool × (List Int))) (ih : ∀ p r, go p = some r → sq75.l0_k.I p r) (a_0 : List Int) (x_1 : Int) (x_2 : Int) (x_7 : Int) (x_8 : Int) (r : Bool × (List Int)) (e : sq75.l0_k.body go (.l1 a_0 x_1 x_2 x_7 x_8) = some r) : sq75.l0_k.I (.l1 a_0 x_1 x_2 x_7 x_8) r := by
  unfold sq75.l0_k.body at e
  intro W h0 m0 h m A_0 n_0 c_0 O ne_0
  subst ne_0
  refine f75.l1_in ?_
  unfold f75.l1T
  refine split_dec_e e (fun c23 e => ?_) (fun c23 e => ?_)
  · obtain ⟨y1, g2, e⟩ := bind_e e
    refine (O.os 0 rfl).addr rfl g2 fun a3 cs4 ha5 hc6 he7 => ?_
    obtain rfl : cs4 = [(Value.int .i64 y1)] := he7
    obtain ⟨y8, g9, e⟩ := bind_e e
    refine (O.os 0 rfl).addr rfl g9 fun a10 cs11 ha12 hc13 he14 => ?_
    obtain rfl : cs11 = [(Value.int .i64 y8)] := he14
    refine ⟨_, ld0 (Sub.refl _) hc6 rfl, _, rfl, ?_⟩
    refine ⟨_, ld0 (Sub.refl _) hc13 rfl, _, rfl, ?_⟩
    obtain ⟨y15, g16, e⟩ := bind_e e
    refine (cmp_Less_76.walk (Hold.start (W := No) O.s)  g16).mono ?_
    rintro _ h17 ⟨m18, Q19, rfl⟩
    have O21 := Hold.nm (O.retC Q19 vfs_nil)
    refine ⟨_, rfl, ?_⟩
    refine split_not ?_
    refine split_any_e e (fun c22 e => ?_) (fun c22 e => ?_)
    · exact (ih _ _ e) _ _ _ _ _ _ _ _ (O21.pick [0]).nm rfl
    · exact (ih _ _ e) _ _ _ _ _ _ _ _ (O21.pick [0]).nm rfl
  · exact (ih _ _ e) _ _ _ _ _ _ _ _ (O.pick [0]).nm rfl
set_option maxRecDepth 100000 in
theorem sq75.l0_k.step_j2 (go : (p : sq75.l0_k.Pt) → Option (Bool × (List Int))) (ih : ∀ p r, go p = some r → sq75.l0_k.I p r) (a_0 : List Int) (x_1 : Int) (x_2 : Int) (x_7 : Int) (x_8 : Int) (r : Bool × (List Int)) (e : sq75.l0_k.body go (.j2 a_0 x_1 x_2 x_7 x_8) = some r) : sq75.l0_k.I (.j2 a_0 x_1 x_2 x_7 x_8) r := by
  unfold sq75.l0_k.body at e
  intro W h0 m0 h m A_0 n_0 c_0 O ne_0
  subst ne_0
  refine f75.j2_in ?_
  unfold f75.j2T
  exact (ih _ _ e) _ _ _ _ _ _ _ _ (O.pick [0]).nm rfl
set_option maxHeartbeats 4000000 in
set_option maxRecDepth 100000 in
theorem sq75.l0_k.step_j1 (go : (p : sq75.l0_k.Pt) → Option (Bool × (List Int))) (ih : ∀ p r, go p = some r → sq75.l0_k.I p r) (a_0 : List Int) (x_1 : Int) (x_2 : Int) (x_7 : Int) (x_8 : Int) (r : Bool × (List Int)) (e : sq75.l0_k.body go (.j1 a_0 x_1 x_2 x_7 x_8) = some r) : sq75.l0_k.I (.j1 a_0 x_1 x_2 x_7 x_8) r := by
  unfold sq75.l0_k.body at e
  intro W h0 m0 h m A_0 n_0 c_0 O ne_0
  subst ne_0
  refine f75.j1_in ?_
  unfold f75.j1T
  refine split_eq_e e (fun c41 e => ?_) (fun c41 e => ?_)
  · cases e
    exact ⟨_, O.pick [0], rfl, rfl⟩
  · refine split_dec_e e (fun c40 e => ?_) (fun c40 e => ?_)
    · cases e
      exact ⟨_, O.pick [0], rfl, rfl⟩
    · obtain ⟨y1, g2, e⟩ := bind_e e
      refine (O.os 0 rfl).addr rfl g2 fun a3 cs4 ha5 hc6 he7 => ?_
      obtain rfl : cs4 = [(Value.int .i64 y1)] := he7
      obtain ⟨y8, g9, e⟩ := bind_e e
      refine (O.os 0 rfl).addr rfl g9 fun a10 cs11 ha12 hc13 he14 => ?_
      obtain rfl : cs11 = [(Value.int .i64 y8)] := he14
      refine ⟨_, ld0 (Sub.refl _) hc6 rfl, _, rfl, ?_⟩
      refine ⟨_, ld0 (Sub.refl _) hc13 rfl, _, rfl, ?_⟩
      obtain ⟨y15, g16, e⟩ := bind_e e
      refine (O.os 0 rfl).addr rfl g16 fun a17 cs18 ha19 hc20 he21 => ?_
      obtain rfl : cs18 = [(Value.int .i64 y15)] := he21
      obtain ⟨l24, g25, e⟩ := bind_e e
      replace g25 := Option.some.inj g25
      refine O.elst0 0 rfl g16 ha19 hc20 (by decide) (y' := y1) rfl trivial g25 fun h22 O23 => ?_
      obtain ⟨y26, g27, e⟩ := bind_e e
      refine (O23.os 0 rfl).addr (lset' g25) g27 fun a28 cs29 ha30 hc31 he32 => ?_
      obtain rfl : cs29 = [(Value.int .i64 y26)] := he32
      obtain ⟨l35, g36, e⟩ := bind_e e
      replace g36 := Option.some.inj g36
      refine O23.elst0 0 rfl g27 ha30 hc31 (by decide) (y' := y8) rfl trivial g36 fun h33 O34 => ?_
      refine split_dec_e e (fun c39 e => ?_) (fun c39 e => ?_)
      · have O37 := O34.nm
        exact (ih _ _ e) _ _ _ _ _ _ _ _ (O37.pick [0]).nm ((lset' g25).trans (lset' g36))
      · have O38 := O34.nm
        exact (ih _ _ e) _ _ _ _ _ _ _ _ (O38.pick [0]).nm ((lset' g25).trans (lset' g36))
set_option maxHeartbeats 4000000 in
set_option maxRecDepth 100000 in
theorem sq75.l0_k.step_l2 (go : (p : sq75.l0_k.Pt) → Option (Bool × (List Int))) (ih : ∀ p r, go p = some r → sq75.l0_k.I p r) (a_0 : List Int) (x_1 : Int) (x_2 : Int) (x_7 : Int) (x_8 : Int) (x_9 : Int) (r : Bool × (List Int)) (e : sq75.l0_k.body go (.l2 a_0 x_1 x_2 x_7 x_8 x_9) = some r) : sq75.l0_k.I (.l2 a_0 x_1 x_2 x_7 x_8 x_9) r := by
  unfold sq75.l0_k.body at e
  intro W h0 m0 h m A_0 n_0 c_0 O ne_0
  subst ne_0
  refine f75.l2_in ?_
  unfold f75.l2T
  refine split_dec_e e (fun c60 e => ?_) (fun c60 e => ?_)
  · obtain ⟨y1, g2, e⟩ := bind_e e
    refine (O.os 0 rfl).addr rfl g2 fun a3 cs4 ha5 hc6 he7 => ?_
    obtain rfl : cs4 = [(Value.int .i64 y1)] := he7
    obtain ⟨y8, g9, e⟩ := bind_e e
    refine (O.os 0 rfl).addr rfl g9 fun a10 cs11 ha12 hc13 he14 => ?_
    obtain rfl : cs11 = [(Value.int .i64 y8)] := he14
    refine ⟨_, ld0 (Sub.refl _) hc6 rfl, _, rfl, ?_⟩
    refine ⟨_, ld0 (Sub.refl _) hc13 rfl, _, rfl, ?_⟩
    obtain ⟨y15, g16, e⟩ := bind_e e
    refine (cmp_Less_76.walk (Hold.start (W := No) O.s)  g16).mono ?_
    rintro _ h17 ⟨m18, Q19, rfl⟩
    have O21 := Hold.nm (O.retC Q19 vfs_nil)
    refine ⟨_, rfl, ?_⟩
    refine split_not ?_
    refine split_any_e e (fun c59 e => ?_) (fun c59 e => ?_)
    · obtain ⟨y22, g23, e⟩ := bind_e e
      refine (O21.os 0 rfl).addr rfl g23 fun a24 cs25 ha26 hc27 he28 => ?_
      obtain rfl : cs25 = [(Value.int .i64 y22)] := he28
      obtain ⟨y29, g30, e⟩ := bind_e e
      refine (O21.os 0 rfl).addr rfl g30 fun a31 cs32 ha33 hc34 he35 => ?_
      obtain rfl : cs32 = [(Value.int .i64 y29)] := he35
      refine ⟨_, ld0 (Sub.refl _) hc27 rfl, _, rfl, ?_⟩
      refine ⟨_, ld0 (Sub.refl _) hc34 rfl, _, rfl, ?_⟩
      obtain ⟨y36, g37, e⟩ := bind_e e
      refine (O21.os 0 rfl).addr rfl g37 fun a38 cs39 ha40 hc41 he42 => ?_
      obtain rfl : cs39 = [(Value.int .i64 y36)] := he42
      obtain ⟨l45, g46, e⟩ := bind_e e
      replace g46 := Option.some.inj g46
      refine O21.elst0 0 rfl g37 ha40 hc41 (by decide) (y' := y22) rfl trivial g46 fun h43 O44 => ?_
      obtain ⟨y47, g48, e⟩ := bind_e e
      refine (O44.os 0 rfl).addr (lset' g46) g48 fun a49 cs50 ha51 hc52 he53 => ?_
      obtain rfl : cs50 = [(Value.int .i64 y47)] := he53
      obtain ⟨l56, g57, e⟩ := bind_e e
      replace g57 := Option.some.inj g57
      refine O44.elst0 0 rfl g48 ha51 hc52 (by decide) (y' := y29) rfl trivial g57 fun h54 O55 => ?_
      have O58 := O55.nm
      exact (ih _ _ e) _ _ _ _ _ _ _ _ (O58.pick [0]).nm ((lset' g46).trans (lset' g57))
    · exact (ih _ _ e) _ _ _ _ _ _ _ _ (O21.pick [0]).nm rfl
  · exact (ih _ _ e) _ _ _ _ _ _ _ _ (O.pick [0]).nm rfl
set_option maxRecDepth 100000 in
theorem sq75.l0_k.step_j3 (go : (p : sq75.l0_k.Pt) → Option (Bool × (List Int))) (ih : ∀ p r, go p = some r → sq75.l0_k.I p r) (a_0 : List Int) (x_1 : Int) (x_2 : Int) (x_7 : Int) (x_8 : Int) (r : Bool × (List Int)) (e : sq75.l0_k.body go (.j3 a_0 x_1 x_2 x_7 x_8) = some r) : sq75.l0_k.I (.j3 a_0 x_1 x_2 x_7 x_8) r := by
  unfold sq75.l0_k.body at e
  intro W h0 m0 h m A_0 n_0 c_0 O ne_0
  subst ne_0
  refine f75.j3_in ?_
  unfold f75.j3T
  refine split_dec_e e (fun c1 e => ?_) (fun c1 e => ?_)
  · exact (ih _ _ e) _ _ _ _ _ _ _ _ (O.pick [0]).nm rfl
  · exact (ih _ _ e) _ _ _ _ _ _ _ _ (O.pick [0]).nm rfl
set_option maxHeartbeats 4000000 in
set_option maxRecDepth 100000 in
theorem sq75.l0_k.step_l3 (go : (p : sq75.l0_k.Pt) → Option (Bool × (List Int))) (ih : ∀ p r, go p = some r → sq75.l0_k.I p r) (a_0 : List Int) (x_1 : Int) (x_2 : Int) (x_7 : Int) (x_8 : Int) (x_10 : Int) (r : Bool × (List Int)) (e : sq75.l0_k.body go (.l3 a_0 x_1 x_2 x_7 x_8 x_10) = some r) : sq75.l0_k.I (.l3 a_0 x_1 x_2 x_7 x_8 x_10) r := by
  unfold sq75.l0_k.body at e
  intro W h0 m0 h m A_0 n_0 c_0 O ne_0
  subst ne_0
  refine f75.l3_in ?_
  unfold f75.l3T
  refine split_dec_e e (fun c60 e => ?_) (fun c60 e => ?_)
  · obtain ⟨y1, g2, e⟩ := bind_e e
    refine (O.os 0 rfl).addr rfl g2 fun a3 cs4 ha5 hc6 he7 => ?_
    obtain rfl : cs4 = [(Value.int .i64 y1)] := he7
    obtain ⟨y8, g9, e⟩ := bind_e e
    refine (O.os 0 rfl).addr rfl g9 fun a10 cs11 ha12 hc13 he14 => ?_
    obtain rfl : cs11 = [(Value.int .i64 y8)] := he14
    refine ⟨_, ld0 (Sub.refl _) hc6 rfl, _, rfl, ?_⟩
    refine ⟨_, ld0 (Sub.refl _) hc13 rfl, _, rfl, ?_⟩
    obtain ⟨y15, g16, e⟩ := bind_e e
    refine (cmp_Less_76.walk (Hold.start (W := No) O.s)  g16).mono ?_
    rintro _ h17 ⟨m18, Q19, rfl⟩
    have O21 := Hold.nm (O.retC Q19 vfs_nil)
    refine ⟨_, rfl, ?_⟩
    refine split_not ?_
    refine split_any_e e (fun c59 e => ?_) (fun c59 e => ?_)
    · obtain ⟨y22, g23, e⟩ := bind_e e
      refine (O21.os 0 rfl).addr rfl g23 fun a24 cs25 ha26 hc27 he28 => ?_
      obtain rfl : cs25 = [(Value.int .i64 y22)] := he28
      obtain ⟨y29, g30, e⟩ := bind_e e
      refine (O21.os 0 rfl).addr rfl g30 fun a31 cs32 ha33 hc34 he35 => ?_
      obtain rfl : cs32 = [(Value.int .i64 y29)] := he35
      refine ⟨_, ld0 (Sub.refl _) hc27 rfl, _, rfl, ?_⟩
      refine ⟨_, ld0 (Sub.refl _) hc34 rfl, _, rfl, ?_⟩
      obtain ⟨y36, g37, e⟩ := bind_e e
      refine (O21.os 0 rfl).addr rfl g37 fun a38 cs39 ha40 hc41 he42 => ?_
      obtain rfl : cs39 = [(Value.int .i64 y36)] := he42
      obtain ⟨l45, g46, e⟩ := bind_e e
      replace g46 := Option.some.inj g46
      refine O21.elst0 0 rfl g37 ha40 hc41 (by decide) (y' := y22) rfl trivial g46 fun h43 O44 => ?_
      obtain ⟨y47, g48, e⟩ := bind_e e
      refine (O44.os 0 rfl).addr (lset' g46) g48 fun a49 cs50 ha51 hc52 he53 => ?_
      obtain rfl : cs50 = [(Value.int .i64 y47)] := he53
      obtain ⟨l56, g57, e⟩ := bind_e e
      replace g57 := Option.some.inj g57
      refine O44.elst0 0 rfl g48 ha51 hc52 (by decide) (y' := y29) rfl trivial g57 fun h54 O55 => ?_
      have O58 := O55.nm
      exact (ih _ _ e) _ _ _ _ _ _ _ _ (O58.pick [0]).nm ((lset' g46).trans (lset' g57))
    · exact (ih _ _ e) _ _ _ _ _ _ _ _ (O21.pick [0]).nm rfl
  · exact (ih _ _ e) _ _ _ _ _ _ _ _ (O.pick [0]).nm rfl
set_option maxRecDepth 100000 in
theorem sq75.l0_k.step_j0 (go : (p : sq75.l0_k.Pt) → Option (Bool × (List Int))) (ih : ∀ p r, go p = some r → sq75.l0_k.I p r) (a_0 : List Int) (x_1 : Int) (x_2 : Int) (x_7 : Int) (x_8 : Int) (r : Bool × (List Int)) (e : sq75.l0_k.body go (.j0 a_0 x_1 x_2 x_7 x_8) = some r) : sq75.l0_k.I (.j0 a_0 x_1 x_2 x_7 x_8) r := by
  unfold sq75.l0_k.body at e
  intro W h0 m0 h m A_0 n_0 c_0 O ne_0
  subst ne_0
  refine f75.j0_in ?_
  unfold f75.j0T
  exact (ih _ _ e) _ _ _ _ _ _ _ _ (O.pick [0]).nm rfl
theorem sq75.l0_k.all {p : sq75.l0_k.Pt} {r : (Bool × (List Int))} (e : sq75.l0_k.go p = some r) : sq75.l0_k.I p r := fixF_ind (β := fun _ => (Bool × (List Int))) sq75.l0_k.mono (I := sq75.l0_k.I) (fun go ih p r e => match p with
  | .l0 a_0 x_1 x_2 x_7 x_8 => sq75.l0_k.step_l0 go ih a_0 x_1 x_2 x_7 x_8 r e
  | .l1 a_0 x_1 x_2 x_7 x_8 => sq75.l0_k.step_l1 go ih a_0 x_1 x_2 x_7 x_8 r e
  | .j2 a_0 x_1 x_2 x_7 x_8 => sq75.l0_k.step_j2 go ih a_0 x_1 x_2 x_7 x_8 r e
  | .j1 a_0 x_1 x_2 x_7 x_8 => sq75.l0_k.step_j1 go ih a_0 x_1 x_2 x_7 x_8 r e
  | .l2 a_0 x_1 x_2 x_7 x_8 x_9 => sq75.l0_k.step_l2 go ih a_0 x_1 x_2 x_7 x_8 x_9 r e
  | .j3 a_0 x_1 x_2 x_7 x_8 => sq75.l0_k.step_j3 go ih a_0 x_1 x_2 x_7 x_8 r e
  | .l3 a_0 x_1 x_2 x_7 x_8 x_10 => sq75.l0_k.step_l3 go ih a_0 x_1 x_2 x_7 x_8 x_10 r e
  | .j0 a_0 x_1 x_2 x_7 x_8 => sq75.l0_k.step_j0 go ih a_0 x_1 x_2 x_7 x_8 r e
  ) e
theorem sq75.l0.walk {W : Nat → Prop} {h0 m0 h m : Heap} {A_0 : Option Addr} {n_0 c_0 : Nat} {a_0 : List Int} {x_1 : Int} {x_2 : Int} {x_7 : Int} {x_8 : Int} (O : Hold W h0 m0 h m [rR (aE (tell_int .i64)) A_0 c_0 a_0]) (ne_0 : n_0 = List.length a_0) {r : Bool × (List Int)} (e : sq75.l0 a_0 x_1 x_2 x_7 x_8 = some r) : f75.l0 (sq75.post W A_0 n_0 c_0 h0 m0 r) A_0 n_0 c_0 x_1 x_2 x_7 x_8 h := sq75.l0_k.all (p := .l0 a_0 x_1 x_2 x_7 x_8) e W h0 m0 h m A_0 n_0 c_0 O ne_0
noncomputable def sq75 (a_0 : List Int) (x_1 : Int) (x_2 : Int) : Option (Bool × (List Int)) :=
  (sq75.l0 a_0 x_1 x_2 (IntKind.wrap .i64 (x_1 + (1 : Int))) (0 : Int))
set_option maxRecDepth 100000 in
theorem sq75.walk {W : Nat → Prop} {h m : Heap} {A_0 : Option Addr} {n_0 c_0 : Nat} {a_0 : List Int} {x_1 : Int} {x_2 : Int} (O : Hold W h m h m [rR (aE (tell_int .i64)) A_0 c_0 a_0]) (ne_0 : n_0 = List.length a_0) {r : Bool × (List Int)} (e : sq75 a_0 x_1 x_2 = some r) : Run Try.prog 75 #[Value.slice A_0 n_0 c_0, Value.int .i64 x_1, Value.int .i64 x_2] h (sq75.post W A_0 n_0 c_0 h m r) := by
  unfold sq75 at e
  subst ne_0
  refine f75.run ?_
  unfold f75.runT
  exact sq75.l0.walk (O.pick [0]).nm rfl e
end Go.Proofs.Ytnlocljmalhddac.Fw

end
