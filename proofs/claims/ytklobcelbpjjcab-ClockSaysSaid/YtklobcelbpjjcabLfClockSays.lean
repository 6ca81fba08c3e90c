/- Data of the given program, and pure functions of its functions, with the walks. Printed by a program of this session. -/
import Derived.Test.YtklobcelbpjjcabFwClockSays
import Derived.Test.YtklobcelbpjjcabHwOe
namespace Go.Proofs.Ytklobcelbpjjcab.Fw
open Go Go.Hw Go.Proofs
set_option linter.unusedVariables false

structure T_api_Event where
  Place : Int
  Kind : Int
  Msg : Int
def T_api_Event.E (h : Heap) (x : T_api_Event) (cs : List Value) : Prop := cs = [.int .i64 x.Place, .int .i64 x.Kind, .int .i64 x.Msg]
theorem T_api_Event.T : Tell 3 T_api_Event.E := ⟨by rintro m h x _ s rfl; exact rfl, by rintro h x _ rfl; rfl, by rintro h x _ rfl; exact Flats.cons trivial (Flats.cons trivial (Flats.cons trivial Flats.nil))⟩
theorem T_api_Event.keep {m h : Heap} {x : T_api_Event} {cs : List Value} (e : T_api_Event.E m x cs) : T_api_Event.E h x cs := e
def T_api_Event.Q (x : T_api_Event) : Prop := (-9223372036854775808 ≤ x.Place ∧ x.Place ≤ 9223372036854775807) ∧ (-9223372036854775808 ≤ x.Kind ∧ x.Kind ≤ 9223372036854775807) ∧ (-9223372036854775808 ≤ x.Msg ∧ x.Msg ≤ 9223372036854775807)
theorem T_api_Event.tells {H : Type} {enc : TypeId × Value → H} {W : World} : Tells enc Try.prog W 88 T_api_Event.E T_api_Event.Q := tells_map (tells_struct (t := 88) (fs := [(3, 0), (3, 1), (3, 2)]) (T := 3) (by kernel_rfl) (by kernel_rfl) (tf_cons (s := 1) (f := 3) (by kernel_rfl) (tells_i64 (t := 3) (by kernel_rfl)) (tf_cons (s := 1) (f := 3) (by kernel_rfl) (tells_i64 (t := 3) (by kernel_rfl)) (tf_cons (s := 1) (f := 3) (by kernel_rfl) (tells_i64 (t := 3) (by kernel_rfl)) tf_nil)))) (by
  rintro ⟨x0, x1, x2, ⟨⟩⟩ cs e q
  obtain ⟨c0, r0, rfl, e0, c1, r1, rfl, e1, c2, r2, rfl, e2, eN⟩ := e
  obtain rfl : c0 = [.int .i64 x0] := e0
  obtain rfl : c1 = [.int .i64 x1] := e1
  obtain rfl : c2 = [.int .i64 x2] := e2
  obtain rfl : r2 = [] := eN
  exact ⟨⟨x0, x1, x2⟩, rfl, q.1, q.2.1, q.2.2.1⟩)
theorem T_api_Event.g1 {m : Heap} {x : T_api_Event} {cs : List Value} (e : T_api_Event.E m x cs) : cs[1]? = some (Value.int .i64 x.Kind) := by
  obtain rfl := e
  exact rfl
theorem T_api_Event.g0 {m : Heap} {x : T_api_Event} {cs : List Value} (e : T_api_Event.E m x cs) : cs[0]? = some (Value.int .i64 x.Place) := by
  obtain rfl := e
  exact rfl
theorem T_api_Event.g2 {m : Heap} {x : T_api_Event} {cs : List Value} (e : T_api_Event.E m x cs) : cs[2]? = some (Value.int .i64 x.Msg) := by
  obtain rfl := e
  exact rfl

/-! ### 27 roadstead/clock.Check -/
def clock_Check.post (W : Nat → Prop) (h0 m0 : Heap) (r : Int) (v : Value) (h : Heap) : Prop := ∃ m , Hold W h0 m0 h m [] ∧ v = .int .i64 r
inductive clock_Check.l0_k.Pt where
  | l0 (es_3 : (List (Int × Bool))) (es_4 : (List (Int × Bool))) (a_12 : List T_api_Event) (x_13 : Int) (x_14 : Int)
  | j0 (es_3 : (List (Int × Bool))) (es_4 : (List (Int × Bool))) (y_6 : T_api_Event) (a_12 : List T_api_Event) (x_13 : Int) (x_14 : Int)
  | j1 (es_3 : (List (Int × Bool))) (es_4 : (List (Int × Bool))) (y_6 : T_api_Event) (a_12 : List T_api_Event) (x_13 : Int) (x_14 : Int)
noncomputable def clock_Check.l0_k.body (go : (p : clock_Check.l0_k.Pt) → Option (Int)) : (p : clock_Check.l0_k.Pt) → Option (Int)
  | .l0 es_3 es_4 a_12 x_13 x_14 => if x_14 < x_13 then (Option.bind (gi a_12 x_14) fun y1 => if y1.Kind < (1 : Int) then (some ((3 : Int))) else (if y1.Kind > (3 : Int) then (some ((3 : Int))) else ((go (.j0 es_3 es_4 y1 a_12 x_13 x_14))))) else (some ((0 : Int)))
  | .j0 es_3 es_4 y_6 a_12 x_13 x_14 => if y_6.Place < (0 : Int) then (some ((1 : Int))) else (if y_6.Place ≥ (8 : Int) then (some ((1 : Int))) else (if y_6.Kind = (1 : Int) then ((go (.j1 es_3 es_4 y_6 a_12 x_13 x_14))) else (if y_6.Msg < (0 : Int) then (some ((1 : Int))) else (if y_6.Msg > (999 : Int) then (some ((1 : Int))) else ((go (.j1 es_3 es_4 y_6 a_12 x_13 x_14)))))))
  | .j1 es_3 es_4 y_6 a_12 x_13 x_14 => if y_6.Kind = (2 : Int) then (if (pgd es_3 y_6.Msg false) = true then (some ((5 : Int))) else (Option.bind (some (pset es_3 y_6.Msg true)) fun l5 => (go (.l0 l5 es_4 a_12 x_13 (IntKind.wrap .i64 (x_14 + (1 : Int))))))) else (if y_6.Kind = (3 : Int) then (if (pgd es_3 y_6.Msg false) = true then (if (pgd es_4 y_6.Msg false) = true then (some ((5 : Int))) else (Option.bind (some (pset es_4 y_6.Msg true)) fun l14 => (go (.l0 es_3 l14 a_12 x_13 (IntKind.wrap .i64 (x_14 + (1 : Int))))))) else (some ((4 : Int)))) else ((go (.l0 es_3 es_4 a_12 x_13 (IntKind.wrap .i64 (x_14 + (1 : Int)))))))
theorem clock_Check.l0_k.mono : MonoF (β := fun _ => (Int)) clock_Check.l0_k.body := fun f g hfg p => match p with
  | .l0 es_3 es_4 a_12 x_13 x_14 => LeO.ite (LeO.bind (LeO.refl _) fun y1 => LeO.ite (LeO.refl _) (LeO.ite (LeO.refl _) ((hfg _)))) (LeO.refl _)
  | .j0 es_3 es_4 y_6 a_12 x_13 x_14 => LeO.ite (LeO.refl _) (LeO.ite (LeO.refl _) (LeO.ite ((hfg _)) (LeO.ite (LeO.refl _) (LeO.ite (LeO.refl _) ((hfg _))))))
  | .j1 es_3 es_4 y_6 a_12 x_13 x_14 => LeO.ite (LeO.ite (LeO.refl _) (LeO.bind (LeO.refl _) fun l5 => (hfg _))) (LeO.ite (LeO.ite (LeO.ite (LeO.refl _) (LeO.bind (LeO.refl _) fun l14 => (hfg _))) (LeO.refl _)) ((hfg _)))
noncomputable def clock_Check.l0_k.go (p : clock_Check.l0_k.Pt) : Option (Int) := fixF (β := fun _ => (Int)) clock_Check.l0_k.body p
noncomputable def clock_Check.l0 (es_3 : (List (Int × Bool))) (es_4 : (List (Int × Bool))) (a_12 : List T_api_Event) (x_13 : Int) (x_14 : Int) : Option (Int) := clock_Check.l0_k.go (.l0 es_3 es_4 a_12 x_13 x_14)
noncomputable def clock_Check.j0 (es_3 : (List (Int × Bool))) (es_4 : (List (Int × Bool))) (y_6 : T_api_Event) (a_12 : List T_api_Event) (x_13 : Int) (x_14 : Int) : Option (Int) := clock_Check.l0_k.go (.j0 es_3 es_4 y_6 a_12 x_13 x_14)
noncomputable def clock_Check.j1 (es_3 : (List (Int × Bool))) (es_4 : (List (Int × Bool))) (y_6 : T_api_Event) (a_12 : List T_api_Event) (x_13 : Int) (x_14 : Int) : Option (Int) := clock_Check.l0_k.go (.j1 es_3 es_4 y_6 a_12 x_13 x_14)
theorem clock_Check.l0_eq (es_3 : (List (Int × Bool))) (es_4 : (List (Int × Bool))) (a_12 : List T_api_Event) (x_13 : Int) (x_14 : Int) : clock_Check.l0 es_3 es_4 a_12 x_13 x_14 = if x_14 < x_13 then (Option.bind (gi a_12 x_14) fun y1 => if y1.Kind < (1 : Int) then (some ((3 : Int))) else (if y1.Kind > (3 : Int) then (some ((3 : Int))) else ((clock_Check.j0 es_3 es_4 y1 a_12 x_13 x_14)))) else (some ((0 : Int))) := fixF_eq clock_Check.l0_k.mono _
theorem clock_Check.j0_eq (es_3 : (List (Int × Bool))) (es_4 : (List (Int × Bool))) (y_6 : T_api_Event) (a_12 : List T_api_Event) (x_13 : Int) (x_14 : Int) : clock_Check.j0 es_3 es_4 y_6 a_12 x_13 x_14 = if y_6.Place < (0 : Int) then (some ((1 : Int))) else (if y_6.Place ≥ (8 : Int) then (some ((1 : Int))) else (if y_6.Kind = (1 : Int) then ((clock_Check.j1 es_3 es_4 y_6 a_12 x_13 x_14)) else (if y_6.Msg < (0 : Int) then (some ((1 : Int))) else (if y_6.Msg > (999 : Int) then (some ((1 : Int))) else ((clock_Check.j1 es_3 es_4 y_6 a_12 x_13 x_14)))))) := fixF_eq clock_Check.l0_k.mono _
theorem clock_Check.j1_eq (es_3 : (List (Int × Bool))) (es_4 : (List (Int × Bool))) (y_6 : T_api_Event) (a_12 : List T_api_Event) (x_13 : Int) (x_14 : Int) : clock_Check.j1 es_3 es_4 y_6 a_12 x_13 x_14 = if y_6.Kind = (2 : Int) then (if (pgd es_3 y_6.Msg false) = true then (some ((5 : Int))) else (Option.bind (some (pset es_3 y_6.Msg true)) fun l5 => (clock_Check.l0 l5 es_4 a_12 x_13 (IntKind.wrap .i64 (x_14 + (1 : Int)))))) else (if y_6.Kind = (3 : Int) then (if (pgd es_3 y_6.Msg false) = true then (if (pgd es_4 y_6.Msg false) = true then (some ((5 : Int))) else (Option.bind (some (pset es_4 y_6.Msg true)) fun l14 => (clock_Check.l0 es_3 l14 a_12 x_13 (IntKind.wrap .i64 (x_14 + (1 : Int)))))) else (some ((4 : Int)))) else ((clock_Check.l0 es_3 es_4 a_12 x_13 (IntKind.wrap .i64 (x_14 + (1 : Int)))))) := fixF_eq clock_Check.l0_k.mono _
def clock_Check.l0_k.I : (p : clock_Check.l0_k.Pt) → (Int) → Prop
  | .l0 es_3 es_4 a_12 x_13 x_14, r => ∀ (W : Nat → Prop) (h0 m0 h m : Heap) (bk_3 : Nat) (bk_4 : Nat) (A_12 : Option Addr) (n_12 c_12 : Nat) (O : Hold W h0 m0 h m [rM (monoV0 tell_bool) (fun n : Int => Value.int .i64 n) bk_3 es_3, rM (monoV0 tell_bool) (fun n : Int => Value.int .i64 n) bk_4 es_4]) (ne_12 : n_12 = List.length a_12) (k_12 : List.length a_12 ≤ c_12) (r_12 : Rd 3 T_api_Event.E m A_12 a_12), f27.l0 (clock_Check.post W h0 m0 r) (Value.map (some bk_3)) (Value.map (some bk_4)) A_12 n_12 c_12 x_13 x_14 h
  | .j0 es_3 es_4 y_6 a_12 x_13 x_14, r => ∀ (W : Nat → Prop) (h0 m0 h m : Heap) (bk_3 : Nat) (bk_4 : Nat) (bk_6 : Nat) (cs_6 : List Value) (A_12 : Option Addr) (n_12 c_12 : Nat) (O : Hold W h0 m0 h m [rM (monoV0 tell_bool) (fun n : Int => Value.int .i64 n) bk_3 es_3, rM (monoV0 tell_bool) (fun n : Int => Value.int .i64 n) bk_4 es_4, rV bk_6 88 cs_6]) (e_6 : T_api_Event.E m y_6 cs_6) (ne_12 : n_12 = List.length a_12) (k_12 : List.length a_12 ≤ c_12) (r_12 : Rd 3 T_api_Event.E m A_12 a_12), f27.j0 (clock_Check.post W h0 m0 r) (Value.map (some bk_3)) (Value.map (some bk_4)) (⟨bk_6, 0, none⟩ : Addr) A_12 n_12 c_12 x_13 x_14 h
  | .j1 es_3 es_4 y_6 a_12 x_13 x_14, r => ∀ (W : Nat → Prop) (h0 m0 h m : Heap) (bk_3 : Nat) (bk_4 : Nat) (bk_6 : Nat) (cs_6 : List Value) (A_12 : Option Addr) (n_12 c_12 : Nat) (O : Hold W h0 m0 h m [rM (monoV0 tell_bool) (fun n : Int => Value.int .i64 n) bk_3 es_3, rM (monoV0 tell_bool) (fun n : Int => Value.int .i64 n) bk_4 es_4, rV bk_6 88 cs_6]) (e_6 : T_api_Event.E m y_6 cs_6) (ne_12 : n_12 = List.length a_12) (k_12 : List.length a_12 ≤ c_12) (r_12 : Rd 3 T_api_Event.E m A_12 a_12), f27.j1 (clock_Check.post W h0 m0 r) (Value.map (some bk_3)) (Value.map (some bk_4)) (⟨bk_6, 0, none⟩ : Addr) A_12 n_12 c_12 x_13 x_14 h
set_option maxRecDepth 100000 in
theorem clock_Check.l0_k.step_l0 (go : (p : clock_Check.l0_k.Pt) → Option (Int)) (ih : ∀ p r, go p = some r → clock_Check.l0_k.I p r) (es_3 : (List (Int × Bool))) (es_4 : (List (Int × Bool))) (a_12 : List T_api_Event) (x_13 : Int) (x_14 : Int) (r : Int) (e : clock_Check.l0_k.body go (.l0 es_3 es_4 a_12 x_13 x_14) = some r) : clock_Check.l0_k.I (.l0 es_3 es_4 a_12 x_13 x_14) r := by
  unfold clock_Check.l0_k.body at e
  intro W h0 m0 h m bk_3 bk_4 A_12 n_12 c_12 O ne_12 k_12 r_12
  subst ne_12
  refine f27.l0_in ?_
  unfold f27.l0T
  refine split_dec_e e (fun c16 e => ?_) (fun c16 e => ?_)
  · obtain ⟨y1, g2, e⟩ := bind_e e
    refine r_12.addr rfl g2 fun a3 cs4 ha5 hc6 he7 => ?_
    refine ⟨_, ldAn O.s hc6 rfl, ?_⟩
    refine O.new fun h8 x9 O10 => ?_
    refine ⟨_, rfl, (T_api_Event.T.len _ _ _ he7), ?_⟩
    refine O10.stA 2 rfl (T_api_Event.T.len _ _ _ he7) (T_api_Event.T.flat _ _ _ he7) fun h12 O13 => ?_
    refine ⟨_, ldk (k := 1) (Sub.refl _) (O13.all 2 rfl) (T_api_Event.g1 he7), _, rfl, ?_⟩
    refine split_dec_e e (fun c15 e => ?_) (fun c15 e => ?_)
    · cases e
      exact ⟨_, O13.pick [], rfl⟩
    · refine ⟨_, ldk (k := 1) (Sub.refl _) (O13.all 2 rfl) (T_api_Event.g1 he7), _, rfl, ?_⟩
      refine split_dec_e e (fun c14 e => ?_) (fun c14 e => ?_)
      · cases e
        exact ⟨_, O13.pick [], rfl⟩
      · exact (ih _ _ e) _ _ _ _ _ _ _ _ _ _ _ _ (O13.pick [0, 1, 2]) he7 rfl k_12 r_12
  · cases e
    exact ⟨_, O.pick [], rfl⟩
set_option maxRecDepth 100000 in
theorem clock_Check.l0_k.step_j0 (go : (p : clock_Check.l0_k.Pt) → Option (Int)) (ih : ∀ p r, go p = some r → clock_Check.l0_k.I p r) (es_3 : (List (Int × Bool))) (es_4 : (List (Int × Bool))) (y_6 : T_api_Event) (a_12 : List T_api_Event) (x_13 : Int) (x_14 : Int) (r : Int) (e : clock_Check.l0_k.body go (.j0 es_3 es_4 y_6 a_12 x_13 x_14) = some r) : clock_Check.l0_k.I (.j0 es_3 es_4 y_6 a_12 x_13 x_14) r := by
  unfold clock_Check.l0_k.body at e
  intro W h0 m0 h m bk_3 bk_4 bk_6 cs_6 A_12 n_12 c_12 O e_6 ne_12 k_12 r_12
  subst ne_12
  refine f27.j0_in ?_
  unfold f27.j0T
  refine ⟨_, ld0 (Sub.refl _) (O.all 2 rfl) (T_api_Event.g0 e_6), _, rfl, ?_⟩
  refine split_dec_e e (fun c5 e => ?_) (fun c5 e => ?_)
  · cases e
    exact ⟨_, O.pick [], rfl⟩
  · refine ⟨_, ld0 (Sub.refl _) (O.all 2 rfl) (T_api_Event.g0 e_6), _, rfl, ?_⟩
    refine split_dec_e e (fun c4 e => ?_) (fun c4 e => ?_)
    · cases e
      exact ⟨_, O.pick [], rfl⟩
    · refine ⟨_, ldk (k := 1) (Sub.refl _) (O.all 2 rfl) (T_api_Event.g1 e_6), _, rfl, ?_⟩
      refine split_ne_e e (fun c3 e => ?_) (fun c3 e => ?_)
      · refine ⟨_, ldk (k := 2) (Sub.refl _) (O.all 2 rfl) (T_api_Event.g2 e_6), _, rfl, ?_⟩
        refine split_dec_e e (fun c2 e => ?_) (fun c2 e => ?_)
        · cases e
          exact ⟨_, O.pick [], rfl⟩
        · refine ⟨_, ldk (k := 2) (Sub.refl _) (O.all 2 rfl) (T_api_Event.g2 e_6), _, rfl, ?_⟩
          refine split_dec_e e (fun c1 e => ?_) (fun c1 e => ?_)
          · cases e
            exact ⟨_, O.pick [], rfl⟩
          · exact (ih _ _ e) _ _ _ _ _ _ _ _ _ _ _ _ (O.pick [0, 1, 2]) e_6 rfl k_12 r_12
      · exact (ih _ _ e) _ _ _ _ _ _ _ _ _ _ _ _ (O.pick [0, 1, 2]) e_6 rfl k_12 r_12
set_option maxRecDepth 100000 in
theorem clock_Check.l0_k.step_j1 (go : (p : clock_Check.l0_k.Pt) → Option (Int)) (ih : ∀ p r, go p = some r → clock_Check.l0_k.I p r) (es_3 : (List (Int × Bool))) (es_4 : (List (Int × Bool))) (y_6 : T_api_Event) (a_12 : List T_api_Event) (x_13 : Int) (x_14 : Int) (r : Int) (e : clock_Check.l0_k.body go (.j1 es_3 es_4 y_6 a_12 x_13 x_14) = some r) : clock_Check.l0_k.I (.j1 es_3 es_4 y_6 a_12 x_13 x_14) r := by
  unfold clock_Check.l0_k.body at e
  intro W h0 m0 h m bk_3 bk_4 bk_6 cs_6 A_12 n_12 c_12 O e_6 ne_12 k_12 r_12
  subst ne_12
  refine f27.j1_in ?_
  unfold f27.j1T
  refine ⟨_, ldk (k := 1) (Sub.refl _) (O.all 2 rfl) (T_api_Event.g1 e_6), _, rfl, ?_⟩
  refine split_eq_e e (fun c19 e => ?_) (fun c19 e => ?_)
  · refine ⟨_, ldk (k := 2) (Sub.refl _) (O.all 2 rfl) (T_api_Event.g2 e_6), _, rfl, ?_⟩
    refine (O.om 0 rfl).look (zv := false) (z := (Value.bool false)) (keyOk_int (key := 3) (elem := 4) (by kernel_rfl) (by kernel_rfl)) y_6.Msg (by kernel_rfl) rfl (fun v1 hv2 => ?_)
    obtain rfl : v1 = (Value.bool (pgd es_3 y_6.Msg false)) := (List.cons.inj (show [v1] = [(Value.bool (pgd es_3 y_6.Msg false))] from hv2)).1
    refine ⟨_, rfl, ?_⟩
    refine split_any_e e (fun c7 e => ?_) (fun c7 e => ?_)
    · cases e
      exact ⟨_, O.pick [], rfl⟩
    · refine ⟨_, ldk (k := 2) (Sub.refl _) (O.all 2 rfl) (T_api_Event.g2 e_6), _, rfl, ?_⟩
      obtain ⟨l5, g6, e⟩ := bind_e e
      replace g6 := Option.some.inj g6
      refine O.mapUpd (x := true) (v := (Value.bool true)) 0 rfl (keyOk_int (key := 3) (elem := 4) (by kernel_rfl) (by kernel_rfl)) y_6.Msg (show (eV0 eBool) m true (Value.bool true) from rfl) g6 fun h3 O4 => ?_
      exact (ih _ _ e) _ _ _ _ _ _ _ _ _ _ (O4.pick [0, 1]) rfl k_12 r_12
  · refine split_eq_e e (fun c18 e => ?_) (fun c18 e => ?_)
    · refine ⟨_, ldk (k := 2) (Sub.refl _) (O.all 2 rfl) (T_api_Event.g2 e_6), _, rfl, ?_⟩
      refine (O.om 0 rfl).look (zv := false) (z := (Value.bool false)) (keyOk_int (key := 3) (elem := 4) (by kernel_rfl) (by kernel_rfl)) y_6.Msg (by kernel_rfl) rfl (fun v8 hv9 => ?_)
      obtain rfl : v8 = (Value.bool (pgd es_3 y_6.Msg false)) := (List.cons.inj (show [v8] = [(Value.bool (pgd es_3 y_6.Msg false))] from hv9)).1
      refine ⟨_, rfl, ?_⟩
      refine split_not ?_
      refine split_any_e e (fun c17 e => ?_) (fun c17 e => ?_)
      · refine ⟨_, ldk (k := 2) (Sub.refl _) (O.all 2 rfl) (T_api_Event.g2 e_6), _, rfl, ?_⟩
        refine (O.om 1 rfl).look (zv := false) (z := (Value.bool false)) (keyOk_int (key := 3) (elem := 4) (by kernel_rfl) (by kernel_rfl)) y_6.Msg (by kernel_rfl) rfl (fun v10 hv11 => ?_)
        obtain rfl : v10 = (Value.bool (pgd es_4 y_6.Msg false)) := (List.cons.inj (show [v10] = [(Value.bool (pgd es_4 y_6.Msg false))] from hv11)).1
        refine ⟨_, rfl, ?_⟩
        refine split_any_e e (fun c16 e => ?_) (fun c16 e => ?_)
        · cases e
          exact ⟨_, O.pick [], rfl⟩
        · refine ⟨_, ldk (k := 2) (Sub.refl _) (O.all 2 rfl) (T_api_Event.g2 e_6), _, rfl, ?_⟩
          obtain ⟨l14, g15, e⟩ := bind_e e
          replace g15 := Option.some.inj g15
          refine O.mapUpd (x := true) (v := (Value.bool true)) 1 rfl (keyOk_int (key := 3) (elem := 4) (by kernel_rfl) (by kernel_rfl)) y_6.Msg (show (eV0 eBool) m true (Value.bool true) from rfl) g15 fun h12 O13 => ?_
          exact (ih _ _ e) _ _ _ _ _ _ _ _ _ _ (O13.pick [0, 1]) rfl k_12 r_12
      · cases e
        exact ⟨_, O.pick [], rfl⟩
    · exact (ih _ _ e) _ _ _ _ _ _ _ _ _ _ (O.pick [0, 1]) rfl k_12 r_12
theorem clock_Check.l0_k.all {p : clock_Check.l0_k.Pt} {r : (Int)} (e : clock_Check.l0_k.go p = some r) : clock_Check.l0_k.I p r := fixF_ind (β := fun _ => (Int)) clock_Check.l0_k.mono (I := clock_Check.l0_k.I) (fun go ih p r e => match p with
  | .l0 es_3 es_4 a_12 x_13 x_14 => clock_Check.l0_k.step_l0 go ih es_3 es_4 a_12 x_13 x_14 r e
  | .j0 es_3 es_4 y_6 a_12 x_13 x_14 => clock_Check.l0_k.step_j0 go ih es_3 es_4 y_6 a_12 x_13 x_14 r e
  | .j1 es_3 es_4 y_6 a_12 x_13 x_14 => clock_Check.l0_k.step_j1 go ih es_3 es_4 y_6 a_12 x_13 x_14 r e
  ) e
theorem clock_Check.l0.walk {W : Nat → Prop} {h0 m0 h m : Heap} {bk_3 : Nat} {bk_4 : Nat} {A_12 : Option Addr} {n_12 c_12 : Nat} {es_3 : (List (Int × Bool))} {es_4 : (List (Int × Bool))} {a_12 : List T_api_Event} {x_13 : Int} {x_14 : Int} (O : Hold W h0 m0 h m [rM (monoV0 tell_bool) (fun n : Int => Value.int .i64 n) bk_3 es_3, rM (monoV0 tell_bool) (fun n : Int => Value.int .i64 n) bk_4 es_4]) (ne_12 : n_12 = List.length a_12) (k_12 : List.length a_12 ≤ c_12) (r_12 : Rd 3 T_api_Event.E m A_12 a_12) {r : Int} (e : clock_Check.l0 es_3 es_4 a_12 x_13 x_14 = some r) : f27.l0 (clock_Check.post W h0 m0 r) (Value.map (some bk_3)) (Value.map (some bk_4)) A_12 n_12 c_12 x_13 x_14 h := clock_Check.l0_k.all (p := .l0 es_3 es_4 a_12 x_13 x_14) e W h0 m0 h m bk_3 bk_4 A_12 n_12 c_12 O ne_12 k_12 r_12
theorem clock_Check.j0.walk {W : Nat → Prop} {h0 m0 h m : Heap} {bk_3 : Nat} {bk_4 : Nat} {bk_6 : Nat} {cs_6 : List Value} {A_12 : Option Addr} {n_12 c_12 : Nat} {es_3 : (List (Int × Bool))} {es_4 : (List (Int × Bool))} {y_6 : T_api_Event} {a_12 : List T_api_Event} {x_13 : Int} {x_14 : Int} (O : Hold W h0 m0 h m [rM (monoV0 tell_bool) (fun n : Int => Value.int .i64 n) bk_3 es_3, rM (monoV0 tell_bool) (fun n : Int => Value.int .i64 n) bk_4 es_4, rV bk_6 88 cs_6]) (e_6 : T_api_Event.E m y_6 cs_6) (ne_12 : n_12 = List.length a_12) (k_12 : List.length a_12 ≤ c_12) (r_12 : Rd 3 T_api_Event.E m A_12 a_12) {r : Int} (e : clock_Check.j0 es_3 es_4 y_6 a_12 x_13 x_14 = some r) : f27.j0 (clock_Check.post W h0 m0 r) (Value.map (some bk_3)) (Value.map (some bk_4)) (⟨bk_6, 0, none⟩ : Addr) A_12 n_12 c_12 x_13 x_14 h := clock_Check.l0_k.all (p := .j0 es_3 es_4 y_6 a_12 x_13 x_14) e W h0 m0 h m bk_3 bk_4 bk_6 cs_6 A_12 n_12 c_12 O e_6 ne_12 k_12 r_12
theorem clock_Check.j1.walk {W : Nat → Prop} {h0 m0 h m : Heap} {bk_3 : Nat} {bk_4 : Nat} {bk_6 : Nat} {cs_6 : List Value} {A_12 : Option Addr} {n_12 c_12 : Nat} {es_3 : (List (Int × Bool))} {es_4 : (List (Int × Bool))} {y_6 : T_api_Event} {a_12 : List T_api_Event} {x_13 : Int} {x_14 : Int} (O : Hold W h0 m0 h m [rM (monoV0 tell_bool) (fun n : Int => Value.int .i64 n) bk_3 es_3, rM (monoV0 tell_bool) (fun n : Int => Value.int .i64 n) bk_4 es_4, rV bk_6 88 cs_6]) (e_6 : T_api_Event.E m y_6 cs_6) (ne_12 : n_12 = List.length a_12) (k_12 : List.length a_12 ≤ c_12) (r_12 : Rd 3 T_api_Event.E m A_12 a_12) {r : Int} (e : clock_Check.j1 es_3 es_4 y_6 a_12 x_13 x_14 = some r) : f27.j1 (clock_Check.post W h0 m0 r) (Value.map (some bk_3)) (Value.map (some bk_4)) (⟨bk_6, 0, none⟩ : Addr) A_12 n_12 c_12 x_13 x_14 h := clock_Check.l0_k.all (p := .j1 es_3 es_4 y_6 a_12 x_13 x_14) e W h0 m0 h m bk_3 bk_4 bk_6 cs_6 A_12 n_12 c_12 O e_6 ne_12 k_12 r_12

noncomputable def clock_Check (a_0 : List T_api_Event) : Option (Int) :=
  if (((List.length a_0) : Nat) : Int) > (200 : Int) then (some ((2 : Int))) else ((clock_Check.l0 ([] : (List (Int × Bool))) ([] : (List (Int × Bool))) a_0 (((List.length a_0) : Nat) : Int) (0 : Int)))
set_option maxRecDepth 100000 in
theorem clock_Check.walk {W : Nat → Prop} {h m : Heap} {A_0 : Option Addr} {n_0 c_0 : Nat} {a_0 : List T_api_Event} (O : Hold W h m h m []) (ne_0 : n_0 = List.length a_0) (k_0 : List.length a_0 ≤ c_0) (r_0 : Rd 3 T_api_Event.E m A_0 a_0) {r : Int} (e : clock_Check a_0 = some r) : Run Try.prog 27 #[Value.slice A_0 n_0 c_0] h (clock_Check.post W h m r) := by
  unfold clock_Check at e
  subst ne_0
  refine f27.run ?_
  unfold f27.runT
  refine split_dec_e e (fun c9 e => ?_) (fun c9 e => ?_)
  · cases e
    exact ⟨_, O.pick [], rfl⟩
  · refine O.mkMap (ν := Bool) (monoV0 tell_bool) (fun n : Int => Value.int .i64 n) fun h1 x2 O3 => ?_
    refine O3.mkMap (ν := Bool) (monoV0 tell_bool) (fun n : Int => Value.int .i64 n) fun h5 x6 O7 => ?_
    exact clock_Check.l0.walk (O7.pick [0, 1]) rfl k_0 r_0 e

/-! ### 46 slices.Clone[[]int,int] -/
def slices_Clone_46.post (W : Nat → Prop) (h0 m0 : Heap) (r : (List Int)) (v : Value) (h : Heap) : Prop := ∃ m A0 n0 c0, Hold W h0 m0 h m [rR (aE (tell_int .i64)) A0 c0 r] ∧ v = .slice A0 n0 c0 ∧ n0 = List.length r
noncomputable def slices_Clone_46 (a0 : List Int) : Option (List Int) := ap 8 ([] : List Int) a0
set_option maxRecDepth 100000 in
theorem slices_Clone_46.walk {W : Nat → Prop} {h m : Heap} {A0 : Option Addr} {n0 c0 : Nat} {a0 : List Int} (O : Hold W h m h m []) (ne0 : n0 = List.length a0) (k0 : List.length a0 ≤ c0) (r0 : Rd 1 (eInt .i64) m A0 a0) {r : List Int} (e : slices_Clone_46 a0 = some r) : Run Try.prog 46 #[Value.slice A0 n0 c0] h (slices_Clone_46.post W h m r) := by
  unfold slices_Clone_46 at e
  subst ne0
  refine f46.run ?_
  unfold f46.runT
  cases A0 with
  | none =>
    refine split_t ?_
    obtain rfl := Rd.void r0
    obtain rfl : [] = r := by have := (ap_e e).2; simpa using this
    exact ⟨m, none, 0, 0, O.nil (aE (tell_int .i64)) none, rfl, rfl⟩
  | some a =>
    refine split_f ?_
    refine O.new fun h1 x1 O1 => ?_
    refine O1.appE0 (tell_int .i64) rfl rfl (r0.srcE (tell_int .i64) O1.s rfl) (by decide) e fun A4 c4 h4 x4 O4 => ?_
    refine ⟨_, _, _, rfl, ?_⟩
    exact ⟨m, _, _, _, O4.pick [1], rfl, rfl⟩
theorem slices_Clone_46.val (l : List Int) (h : l.length * 8 ≤ 140737488355328) : slices_Clone_46 l = some l := ap_nil h

/-! ### 103 roadstead/clock.at -/
def clock_at.post (W : Nat → Prop) (h0 m0 : Heap) (r : Int) (v : Value) (h : Heap) : Prop := ∃ m , Hold W h0 m0 h m [] ∧ v = .int .i64 r
noncomputable def clock_at (a_0 : List Int) (x_1 : Int) : Option (Int) :=
  if x_1 < (((List.length a_0) : Nat) : Int) then (Option.bind (gi a_0 x_1) fun y1 => some (y1)) else (some ((0 : Int)))
set_option maxRecDepth 100000 in
theorem clock_at.walk {W : Nat → Prop} {h m : Heap} {A_0 : Option Addr} {n_0 c_0 : Nat} {a_0 : List Int} {x_1 : Int} (O : Hold W h m h m []) (ne_0 : n_0 = List.length a_0) (k_0 : List.length a_0 ≤ c_0) (r_0 : Rd 1 (eInt .i64) m A_0 a_0) {r : Int} (e : clock_at a_0 x_1 = some r) : Run Try.prog 103 #[Value.slice A_0 n_0 c_0, Value.int .i64 x_1] h (clock_at.post W h m r) := by
  unfold clock_at at e
  subst ne_0
  refine f103.run ?_
  unfold f103.runT
  refine split_dec_e e (fun c8 e => ?_) (fun c8 e => ?_)
  · obtain ⟨y1, g2, e⟩ := bind_e e
    refine r_0.addr rfl g2 fun a3 cs4 ha5 hc6 he7 => ?_
    obtain rfl : cs4 = [(Value.int .i64 y1)] := he7
    refine ⟨_, ld0 O.s hc6 rfl, _, rfl, ?_⟩
    cases e
    exact ⟨_, O.pick [], rfl⟩
  · cases e
    exact ⟨_, O.pick [], rfl⟩

/-! ### 77 roadstead/clock.Join -/
def clock_Join.post (W : Nat → Prop) (h0 m0 : Heap) (r : (List Int)) (v : Value) (h : Heap) : Prop := ∃ m A0 n0 c0, Hold W h0 m0 h m [rR (aE (tell_int .i64)) A0 c0 r] ∧ v = .slice A0 n0 c0 ∧ n0 = List.length r
inductive clock_Join.l0_k.Pt where
  | l0 (a_0 : List Int) (a_1 : List Int) (a_5 : List Int) (x_14 : Int) (x_15 : Int)
noncomputable def clock_Join.l0_k.body (go : (p : clock_Join.l0_k.Pt) → Option ((List Int))) : (p : clock_Join.l0_k.Pt) → Option ((List Int))
  | .l0 a_0 a_1 a_5 x_14 x_15 => if x_15 < x_14 then (Option.bind (clock_at a_0 x_15) fun y1 => Option.bind (clock_at a_1 x_15) fun y8 => Option.bind (gi a_5 x_15) fun y15 => Option.bind (some (List.set a_5 (Int.toNat x_15) (if y8 > y1 then y8 else y1))) fun l24 => (go (.l0 a_0 a_1 l24 x_14 (IntKind.wrap .i64 (x_15 + (1 : Int)))))) else (some (a_5))
theorem clock_Join.l0_k.mono : MonoF (β := fun _ => ((List Int))) clock_Join.l0_k.body := fun f g hfg p => match p with
  | .l0 a_0 a_1 a_5 x_14 x_15 => LeO.ite (LeO.bind (LeO.refl _) fun y1 => LeO.bind (LeO.refl _) fun y8 => LeO.bind (LeO.refl _) fun y15 => LeO.bind (LeO.refl _) fun l24 => (hfg _)) (LeO.refl _)
noncomputable def clock_Join.l0_k.go (p : clock_Join.l0_k.Pt) : Option ((List Int)) := fixF (β := fun _ => ((List Int))) clock_Join.l0_k.body p
noncomputable def clock_Join.l0 (a_0 : List Int) (a_1 : List Int) (a_5 : List Int) (x_14 : Int) (x_15 : Int) : Option ((List Int)) := clock_Join.l0_k.go (.l0 a_0 a_1 a_5 x_14 x_15)
theorem clock_Join.l0_eq (a_0 : List Int) (a_1 : List Int) (a_5 : List Int) (x_14 : Int) (x_15 : Int) : clock_Join.l0 a_0 a_1 a_5 x_14 x_15 = if x_15 < x_14 then (Option.bind (clock_at a_0 x_15) fun y1 => Option.bind (clock_at a_1 x_15) fun y8 => Option.bind (gi a_5 x_15) fun y15 => Option.bind (some (List.set a_5 (Int.toNat x_15) (if y8 > y1 then y8 else y1))) fun l24 => (clock_Join.l0 a_0 a_1 l24 x_14 (IntKind.wrap .i64 (x_15 + (1 : Int))))) else (some (a_5)) := fixF_eq clock_Join.l0_k.mono _
def clock_Join.l0_k.I : (p : clock_Join.l0_k.Pt) → ((List Int)) → Prop
  | .l0 a_0 a_1 a_5 x_14 x_15, r => ∀ (W : Nat → Prop) (h0 m0 h m : Heap) (A_0 : Option Addr) (n_0 c_0 : Nat) (A_1 : Option Addr) (n_1 c_1 : Nat) (A_5 : Option Addr) (n_5 c_5 : Nat) (O : Hold W h0 m0 h m [rR (aE (tell_int .i64)) A_5 c_5 a_5]) (ne_0 : n_0 = List.length a_0) (k_0 : List.length a_0 ≤ c_0) (r_0 : Rd 1 (eInt .i64) m A_0 a_0) (ne_1 : n_1 = List.length a_1) (k_1 : List.length a_1 ≤ c_1) (r_1 : Rd 1 (eInt .i64) m A_1 a_1) (ne_5 : n_5 = List.length a_5), f77.l0 (clock_Join.post W h0 m0 r) A_0 n_0 c_0 A_1 n_1 c_1 A_5 n_5 c_5 x_14 x_15 h
set_option maxRecDepth 100000 in
theorem clock_Join.l0_k.step_l0 (go : (p : clock_Join.l0_k.Pt) → Option ((List Int))) (ih : ∀ p r, go p = some r → clock_Join.l0_k.I p r) (a_0 : List Int) (a_1 : List Int) (a_5 : List Int) (x_14 : Int) (x_15 : Int) (r : (List Int)) (e : clock_Join.l0_k.body go (.l0 a_0 a_1 a_5 x_14 x_15) = some r) : clock_Join.l0_k.I (.l0 a_0 a_1 a_5 x_14 x_15) r := by
  unfold clock_Join.l0_k.body at e
  intro W h0 m0 h m A_0 n_0 c_0 A_1 n_1 c_1 A_5 n_5 c_5 O ne_0 k_0 r_0 ne_1 k_1 r_1 ne_5
  subst ne_0
  subst ne_1
  subst ne_5
  refine f77.l0_in ?_
  unfold f77.l0T
  refine split_dec_e e (fun c26 e => ?_) (fun c26 e => ?_)
  · obtain ⟨y1, g2, e⟩ := bind_e e
    refine (clock_at.walk (Hold.start (W := No) O.s) rfl k_0 r_0 g2).mono ?_
    rintro _ h3 ⟨m4, Q5, rfl⟩
    have O7 := O.retC Q5 vfs_nil
    refine ⟨_, rfl, ?_⟩
    obtain ⟨y8, g9, e⟩ := bind_e e
    refine (clock_at.walk (Hold.start (W := No) O7.s) rfl k_1 r_1 g9).mono ?_
    rintro _ h10 ⟨m11, Q12, rfl⟩
    have O14 := O7.retC Q12 vfs_nil
    refine ⟨_, rfl, ?_⟩
    obtain ⟨y15, g16, e⟩ := bind_e e
    refine (O14.os 0 rfl).addr rfl g16 fun a17 cs18 ha19 hc20 he21 => ?_
    obtain rfl : cs18 = [(Value.int .i64 y15)] := he21
    obtain ⟨l24, g25, e⟩ := bind_e e
    replace g25 := Option.some.inj g25
    refine O14.elst0 0 rfl g16 ha19 hc20 (by decide) (y' := (if y8 > y1 then y8 else y1)) rfl trivial g25 fun h22 O23 => ?_
    exact (ih _ _ e) _ _ _ _ _ _ _ _ _ _ _ _ _ _ (O23.pick [0]) rfl k_0 r_0 rfl k_1 r_1 (lset' g25)
  · cases e
    exact ⟨_, _, _, _, O.pick [0], rfl, rfl⟩
theorem clock_Join.l0_k.all {p : clock_Join.l0_k.Pt} {r : ((List Int))} (e : clock_Join.l0_k.go p = some r) : clock_Join.l0_k.I p r := fixF_ind (β := fun _ => ((List Int))) clock_Join.l0_k.mono (I := clock_Join.l0_k.I) (fun go ih p r e => match p with
  | .l0 a_0 a_1 a_5 x_14 x_15 => clock_Join.l0_k.step_l0 go ih a_0 a_1 a_5 x_14 x_15 r e
  ) e
theorem clock_Join.l0.walk {W : Nat → Prop} {h0 m0 h m : Heap} {A_0 : Option Addr} {n_0 c_0 : Nat} {A_1 : Option Addr} {n_1 c_1 : Nat} {A_5 : Option Addr} {n_5 c_5 : Nat} {a_0 : List Int} {a_1 : List Int} {a_5 : List Int} {x_14 : Int} {x_15 : Int} (O : Hold W h0 m0 h m [rR (aE (tell_int .i64)) A_5 c_5 a_5]) (ne_0 : n_0 = List.length a_0) (k_0 : List.length a_0 ≤ c_0) (r_0 : Rd 1 (eInt .i64) m A_0 a_0) (ne_1 : n_1 = List.length a_1) (k_1 : List.length a_1 ≤ c_1) (r_1 : Rd 1 (eInt .i64) m A_1 a_1) (ne_5 : n_5 = List.length a_5) {r : (List Int)} (e : clock_Join.l0 a_0 a_1 a_5 x_14 x_15 = some r) : f77.l0 (clock_Join.post W h0 m0 r) A_0 n_0 c_0 A_1 n_1 c_1 A_5 n_5 c_5 x_14 x_15 h := clock_Join.l0_k.all (p := .l0 a_0 a_1 a_5 x_14 x_15) e W h0 m0 h m A_0 n_0 c_0 A_1 n_1 c_1 A_5 n_5 c_5 O ne_0 k_0 r_0 ne_1 k_1 r_1 ne_5

noncomputable def clock_Join (a_0 : List Int) (a_1 : List Int) : Option ((List Int)) :=
  Option.bind (mks 8 (if (((List.length a_1) : Nat) : Int) > (((List.length a_0) : Nat) : Int) then (((List.length a_1) : Nat) : Int) else (((List.length a_0) : Nat) : Int)) (0 : Int)) fun l1 => (clock_Join.l0 a_0 a_1 l1 (((List.length l1) : Nat) : Int) (0 : Int))
set_option maxRecDepth 100000 in
theorem clock_Join.walk {W : Nat → Prop} {h m : Heap} {A_0 : Option Addr} {n_0 c_0 : Nat} {A_1 : Option Addr} {n_1 c_1 : Nat} {a_0 : List Int} {a_1 : List Int} (O : Hold W h m h m []) (ne_0 : n_0 = List.length a_0) (k_0 : List.length a_0 ≤ c_0) (r_0 : Rd 1 (eInt .i64) m A_0 a_0) (ne_1 : n_1 = List.length a_1) (k_1 : List.length a_1 ≤ c_1) (r_1 : Rd 1 (eInt .i64) m A_1 a_1) {r : (List Int)} (e : clock_Join a_0 a_1 = some r) : Run Try.prog 77 #[Value.slice A_0 n_0 c_0, Value.slice A_1 n_1 c_1] h (clock_Join.post W h m r) := by
  unfold clock_Join at e
  subst ne_0
  subst ne_1
  refine f77.run ?_
  unfold f77.runT
  obtain ⟨l1, g2, e⟩ := bind_e e
  have q3 := mks_e g2
  refine ⟨q3.1, Int.le_refl _, q3.2.1, q3.2.2.1, ?_⟩
  refine O.new fun h4 x5 O6 => ?_
  have O7 := O6.made 0 rfl (aE (tell_int .i64)) g2 ⟨rfl, rfl⟩
  try rw [q3.2.2.2.1]
  exact clock_Join.l0.walk (O7.pick [0]) rfl k_0 r_0 rfl k_1 r_1 rfl e

/-! ### 23 roadstead/clock.Clocks -/
def clock_Clocks.post (W : Nat → Prop) (h0 m0 : Heap) (r : (List (List Int)) × Int) (v : Value) (h : Heap) : Prop := ∃ m A0 n0 c0, Hold W h0 m0 h m [rR (aE (tell_row (tell_int .i64))) A0 c0 r.1] ∧ v = .tuple #[.slice A0 n0 c0, .int .i64 r.2] ∧ n0 = List.length r.1
inductive clock_Clocks.l1_k.Pt where
  | l1 (y_5 : (List (List Int))) (es_7 : (List (Int × (List Int)))) (a_8 : List (List Int)) (a_25 : List T_api_Event) (x_26 : Int) (x_27 : Int)
  | j0 (y_5 : (List (List Int))) (es_7 : (List (Int × (List Int)))) (a_8 : List (List Int)) (y_10 : T_api_Event) (a_11 : List Int) (a_25 : List T_api_Event) (x_26 : Int) (x_27 : Int)
  | j1 (y_5 : (List (List Int))) (es_7 : (List (Int × (List Int)))) (a_8 : List (List Int)) (a_11 : List Int) (a_25 : List T_api_Event) (x_26 : Int) (x_27 : Int)
noncomputable def clock_Clocks.l1_k.body (go : (p : clock_Clocks.l1_k.Pt) → Option ((List (List Int)) × Int)) : (p : clock_Clocks.l1_k.Pt) → Option ((List (List Int)) × Int)
  | .l1 y_5 es_7 a_8 a_25 x_26 x_27 => if x_27 < x_26 then (Option.bind (gi a_25 x_27) fun y1 => Option.bind (gi y_5 y1.Place) fun y14 => Option.bind (slices_Clone_46 y14) fun y24 => if y1.Kind = (3 : Int) then (Option.bind (clock_Join y24 (pgd es_7 y1.Msg ([] : (List Int)))) fun y43 => (go (.j0 y_5 es_7 a_8 y1 y43 a_25 x_26 x_27))) else ((go (.j0 y_5 es_7 a_8 y1 y24 a_25 x_26 x_27)))) else (some (a_8, (0 : Int)))
  | .j0 y_5 es_7 a_8 y_10 a_11 a_25 x_26 x_27 => Option.bind (gi a_11 y_10.Place) fun y1 => Option.bind (gi a_11 y_10.Place) fun y8 => Option.bind (some (List.set a_11 (Int.toNat y_10.Place) (IntKind.wrap .i64 (y1 + (1 : Int))))) fun l17 => Option.bind (gi y_5 y_10.Place) fun y19 => Option.bind (some (List.set y_5 (Int.toNat y_10.Place) l17)) fun l30 => if y_10.Kind = (2 : Int) then (Option.bind (some (pset es_7 y_10.Msg l17)) fun l34 => (go (.j1 l30 l34 a_8 l17 a_25 x_26 x_27))) else ((go (.j1 l30 es_7 a_8 l17 a_25 x_26 x_27)))
  | .j1 y_5 es_7 a_8 a_11 a_25 x_26 x_27 => Option.bind (slices_Clone_46 a_11) fun y1 => Option.bind (ap 24 a_8 ([y1] : List (List Int))) fun l17 => (go (.l1 y_5 es_7 l17 a_25 x_26 (IntKind.wrap .i64 (x_27 + (1 : Int)))))
theorem clock_Clocks.l1_k.mono : MonoF (β := fun _ => ((List (List Int)) × Int)) clock_Clocks.l1_k.body := fun f g hfg p => match p with
  | .l1 y_5 es_7 a_8 a_25 x_26 x_27 => LeO.ite (LeO.bind (LeO.refl _) fun y1 => LeO.bind (LeO.refl _) fun y14 => LeO.bind (LeO.refl _) fun y24 => LeO.ite (LeO.bind (LeO.refl _) fun y43 => (hfg _)) ((hfg _))) (LeO.refl _)
  | .j0 y_5 es_7 a_8 y_10 a_11 a_25 x_26 x_27 => LeO.bind (LeO.refl _) fun y1 => LeO.bind (LeO.refl _) fun y8 => LeO.bind (LeO.refl _) fun l17 => LeO.bind (LeO.refl _) fun y19 => LeO.bind (LeO.refl _) fun l30 => LeO.ite (LeO.bind (LeO.refl _) fun l34 => (hfg _)) ((hfg _))
  | .j1 y_5 es_7 a_8 a_11 a_25 x_26 x_27 => LeO.bind (LeO.refl _) fun y1 => LeO.bind (LeO.refl _) fun l17 => (hfg _)
noncomputable def clock_Clocks.l1_k.go (p : clock_Clocks.l1_k.Pt) : Option ((List (List Int)) × Int) := fixF (β := fun _ => ((List (List Int)) × Int)) clock_Clocks.l1_k.body p
noncomputable def clock_Clocks.l1 (y_5 : (List (List Int))) (es_7 : (List (Int × (List Int)))) (a_8 : List (List Int)) (a_25 : List T_api_Event) (x_26 : Int) (x_27 : Int) : Option ((List (List Int)) × Int) := clock_Clocks.l1_k.go (.l1 y_5 es_7 a_8 a_25 x_26 x_27)
noncomputable def clock_Clocks.j0 (y_5 : (List (List Int))) (es_7 : (List (Int × (List Int)))) (a_8 : List (List Int)) (y_10 : T_api_Event) (a_11 : List Int) (a_25 : List T_api_Event) (x_26 : Int) (x_27 : Int) : Option ((List (List Int)) × Int) := clock_Clocks.l1_k.go (.j0 y_5 es_7 a_8 y_10 a_11 a_25 x_26 x_27)
noncomputable def clock_Clocks.j1 (y_5 : (List (List Int))) (es_7 : (List (Int × (List Int)))) (a_8 : List (List Int)) (a_11 : List Int) (a_25 : List T_api_Event) (x_26 : Int) (x_27 : Int) : Option ((List (List Int)) × Int) := clock_Clocks.l1_k.go (.j1 y_5 es_7 a_8 a_11 a_25 x_26 x_27)
theorem clock_Clocks.l1_eq (y_5 : (List (List Int))) (es_7 : (List (Int × (List Int)))) (a_8 : List (List Int)) (a_25 : List T_api_Event) (x_26 : Int) (x_27 : Int) : clock_Clocks.l1 y_5 es_7 a_8 a_25 x_26 x_27 = if x_27 < x_26 then (Option.bind (gi a_25 x_27) fun y1 => Option.bind (gi y_5 y1.Place) fun y14 => Option.bind (slices_Clone_46 y14) fun y24 => if y1.Kind = (3 : Int) then (Option.bind (clock_Join y24 (pgd es_7 y1.Msg ([] : (List Int)))) fun y43 => (clock_Clocks.j0 y_5 es_7 a_8 y1 y43 a_25 x_26 x_27)) else ((clock_Clocks.j0 y_5 es_7 a_8 y1 y24 a_25 x_26 x_27))) else (some (a_8, (0 : Int))) := fixF_eq clock_Clocks.l1_k.mono _
theorem clock_Clocks.j0_eq (y_5 : (List (List Int))) (es_7 : (List (Int × (List Int)))) (a_8 : List (List Int)) (y_10 : T_api_Event) (a_11 : List Int) (a_25 : List T_api_Event) (x_26 : Int) (x_27 : Int) : clock_Clocks.j0 y_5 es_7 a_8 y_10 a_11 a_25 x_26 x_27 = Option.bind (gi a_11 y_10.Place) fun y1 => Option.bind (gi a_11 y_10.Place) fun y8 => Option.bind (some (List.set a_11 (Int.toNat y_10.Place) (IntKind.wrap .i64 (y1 + (1 : Int))))) fun l17 => Option.bind (gi y_5 y_10.Place) fun y19 => Option.bind (some (List.set y_5 (Int.toNat y_10.Place) l17)) fun l30 => if y_10.Kind = (2 : Int) then (Option.bind (some (pset es_7 y_10.Msg l17)) fun l34 => (clock_Clocks.j1 l30 l34 a_8 l17 a_25 x_26 x_27)) else ((clock_Clocks.j1 l30 es_7 a_8 l17 a_25 x_26 x_27)) := fixF_eq clock_Clocks.l1_k.mono _
theorem clock_Clocks.j1_eq (y_5 : (List (List Int))) (es_7 : (List (Int × (List Int)))) (a_8 : List (List Int)) (a_11 : List Int) (a_25 : List T_api_Event) (x_26 : Int) (x_27 : Int) : clock_Clocks.j1 y_5 es_7 a_8 a_11 a_25 x_26 x_27 = Option.bind (slices_Clone_46 a_11) fun y1 => Option.bind (ap 24 a_8 ([y1] : List (List Int))) fun l17 => (clock_Clocks.l1 y_5 es_7 l17 a_25 x_26 (IntKind.wrap .i64 (x_27 + (1 : Int)))) := fixF_eq clock_Clocks.l1_k.mono _
def clock_Clocks.l1_k.I : (p : clock_Clocks.l1_k.Pt) → ((List (List Int)) × Int) → Prop
  | .l1 y_5 es_7 a_8 a_25 x_26 x_27, r => ∀ (W : Nat → Prop) (h0 m0 h m : Heap) (bk_5 : Nat) (cs_5 : List Value) (bk_7 : Nat) (A_8 : Option Addr) (n_8 c_8 : Nat) (A_25 : Option Addr) (n_25 c_25 : Nat) (O : Hold W h0 m0 h m [rV bk_5 146 cs_5, rM (monoV0 (tell_row (tell_int .i64))) (fun n : Int => Value.int .i64 n) bk_7 es_7, rR (aE (tell_row (tell_int .i64))) A_8 c_8 a_8]) (e_5 : (eArrE 8 1 (eRow 1 (eInt .i64))) m y_5 cs_5) (ne_8 : n_8 = List.length a_8) (ne_25 : n_25 = List.length a_25) (k_25 : List.length a_25 ≤ c_25) (r_25 : Rd 3 T_api_Event.E m A_25 a_25), f23.l1 (clock_Clocks.post W h0 m0 r) (⟨bk_5, 0, none⟩ : Addr) (Value.map (some bk_7)) A_8 n_8 c_8 A_25 n_25 c_25 x_26 x_27 h
  | .j0 y_5 es_7 a_8 y_10 a_11 a_25 x_26 x_27, r => ∀ (W : Nat → Prop) (h0 m0 h m : Heap) (bk_5 : Nat) (cs_5 : List Value) (bk_7 : Nat) (A_8 : Option Addr) (n_8 c_8 : Nat) (bk_10 : Nat) (cs_10 : List Value) (A_11 : Option Addr) (n_11 c_11 : Nat) (A_25 : Option Addr) (n_25 c_25 : Nat) (O : Hold W h0 m0 h m [rV bk_5 146 cs_5, rM (monoV0 (tell_row (tell_int .i64))) (fun n : Int => Value.int .i64 n) bk_7 es_7, rR (aE (tell_row (tell_int .i64))) A_8 c_8 a_8, rV bk_10 88 cs_10, rR (aE (tell_int .i64)) A_11 c_11 a_11]) (e_5 : (eArrE 8 1 (eRow 1 (eInt .i64))) m y_5 cs_5) (ne_8 : n_8 = List.length a_8) (e_10 : T_api_Event.E m y_10 cs_10) (ne_11 : n_11 = List.length a_11) (ne_25 : n_25 = List.length a_25) (k_25 : List.length a_25 ≤ c_25) (r_25 : Rd 3 T_api_Event.E m A_25 a_25), f23.j0 (clock_Clocks.post W h0 m0 r) (⟨bk_5, 0, none⟩ : Addr) (Value.map (some bk_7)) A_8 n_8 c_8 (⟨bk_10, 0, none⟩ : Addr) A_11 n_11 c_11 A_25 n_25 c_25 x_26 x_27 h
  | .j1 y_5 es_7 a_8 a_11 a_25 x_26 x_27, r => ∀ (W : Nat → Prop) (h0 m0 h m : Heap) (bk_5 : Nat) (cs_5 : List Value) (bk_7 : Nat) (A_8 : Option Addr) (n_8 c_8 : Nat) (A_11 : Option Addr) (n_11 c_11 : Nat) (A_25 : Option Addr) (n_25 c_25 : Nat) (O : Hold W h0 m0 h m [rV bk_5 146 cs_5, rM (monoV0 (tell_row (tell_int .i64))) (fun n : Int => Value.int .i64 n) bk_7 es_7, rR (aE (tell_row (tell_int .i64))) A_8 c_8 a_8]) (e_5 : (eArrE 8 1 (eRow 1 (eInt .i64))) m y_5 cs_5) (ne_8 : n_8 = List.length a_8) (ne_11 : n_11 = List.length a_11) (k_11 : List.length a_11 ≤ c_11) (r_11 : Rd 1 (eInt .i64) m A_11 a_11) (ne_25 : n_25 = List.length a_25) (k_25 : List.length a_25 ≤ c_25) (r_25 : Rd 3 T_api_Event.E m A_25 a_25), f23.j1 (clock_Clocks.post W h0 m0 r) (⟨bk_5, 0, none⟩ : Addr) (Value.map (some bk_7)) A_8 n_8 c_8 A_11 n_11 c_11 A_25 n_25 c_25 x_26 x_27 h
set_option maxRecDepth 100000 in
theorem clock_Clocks.l1_k.step_l1 (go : (p : clock_Clocks.l1_k.Pt) → Option ((List (List Int)) × Int)) (ih : ∀ p r, go p = some r → clock_Clocks.l1_k.I p r) (y_5 : (List (List Int))) (es_7 : (List (Int × (List Int)))) (a_8 : List (List Int)) (a_25 : List T_api_Event) (x_26 : Int) (x_27 : Int) (r : (List (List Int)) × Int) (e : clock_Clocks.l1_k.body go (.l1 y_5 es_7 a_8 a_25 x_26 x_27) = some r) : clock_Clocks.l1_k.I (.l1 y_5 es_7 a_8 a_25 x_26 x_27) r := by
  unfold clock_Clocks.l1_k.body at e
  intro W h0 m0 h m bk_5 cs_5 bk_7 A_8 n_8 c_8 A_25 n_25 c_25 O e_5 ne_8 ne_25 k_25 r_25
  subst ne_8
  subst ne_25
  refine f23.l1_in ?_
  unfold f23.l1T
  refine split_dec_e e (fun c63 e => ?_) (fun c63 e => ?_)
  · obtain ⟨y1, g2, e⟩ := bind_e e
    refine r_25.addr rfl g2 fun a3 cs4 ha5 hc6 he7 => ?_
    refine ⟨_, ldAn O.s hc6 rfl, ?_⟩
    refine O.new fun h8 x9 O10 => ?_
    refine ⟨_, rfl, (T_api_Event.T.len _ _ _ he7), ?_⟩
    refine O10.stA 3 rfl (T_api_Event.T.len _ _ _ he7) (T_api_Event.T.flat _ _ _ he7) fun h12 O13 => ?_
    refine ⟨_, ld0 (Sub.refl _) (O13.all 3 rfl) (T_api_Event.g0 he7), _, rfl, ?_⟩
    obtain ⟨y14, g15, e⟩ := bind_e e
    refine ⟨gi_le g15, eArrE.ltn e_5 g15, ?_⟩
    obtain ⟨v16, q17, he18⟩ := eArrE.get1 e_5 g15
    obtain ⟨A19, c20, q21, k22, r23⟩ := he18
    obtain rfl := (List.cons.inj q21).1
    refine ⟨_, ldk (k := Int.toNat y1.Place * 1) (Sub.refl _) (O13.all 0 rfl) q17, _, _, _, rfl, ?_⟩
    obtain ⟨y24, g25, e⟩ := bind_e e
    refine (slices_Clone_46.walk (Hold.start (W := No) O13.s) rfl k22 r23 g25).mono ?_
    rintro _ h26 ⟨m27, A30, n31, c32, Q28, rfl, ne33⟩
    have O35 := O13.retC Q28 (vfs_cons (rR_vf (aE_vf (fun _ _ _ _ h => h))) vfs_nil)
    subst ne33
    refine ⟨_, _, _, rfl, ?_⟩
    refine ⟨_, ldk (k := 1) (Sub.refl _) (O35.all 3 rfl) (T_api_Event.g1 he7), _, rfl, ?_⟩
    refine split_eq_e e (fun c62 e => ?_) (fun c62 e => ?_)
    · refine ⟨_, ldk (k := 2) (Sub.refl _) (O35.all 3 rfl) (T_api_Event.g2 he7), _, rfl, ?_⟩
      refine (O35.om 1 rfl).look (zv := ([] : (List Int))) (z := (Value.slice none 0 0)) (keyOk_int (key := 3) (elem := 37) (by kernel_rfl) (by kernel_rfl)) y1.Msg (by kernel_rfl) ⟨_, _, rfl, (Nat.le_refl 0), Rd.nil⟩ (fun v36 hv37 => ?_)
      obtain ⟨A38, c39, q42, k40, r41⟩ := hv37
      obtain rfl := (List.cons.inj q42).1
      refine ⟨_, _, _, rfl, ?_⟩
      obtain ⟨y43, g44, e⟩ := bind_e e
      obtain ⟨m49, u50, s55, ⟨⟨r53, k54⟩, _⟩, B51, C52⟩ := O35.lend0 [4]
      replace r53 : Rd 1 (eInt .i64) m49 A30 y24 := r53
      replace k54 : List.length y24 ≤ c32 := k54
      refine (clock_Join.walk (Hold.start (W := No) s55) rfl k54 r53 rfl k40 (r41.sub (tell_int .i64) u50) g44).mono ?_
      rintro _ h45 ⟨m46, A56, n57, c58, Q47, rfl, ne59⟩
      have O61 := C52 Q47 (vfs_cons (rR_vf (aE_vf (fun _ _ _ _ h => h))) vfs_nil)
      subst ne59
      refine ⟨_, _, _, rfl, ?_⟩
      exact (ih _ _ e) _ _ _ _ _ _ _ _ _ _ _ _ _ _ _ _ _ _ _ (O61.pick [0, 1, 2, 3, 5]) e_5 rfl he7 rfl rfl k_25 r_25
    · exact (ih _ _ e) _ _ _ _ _ _ _ _ _ _ _ _ _ _ _ _ _ _ _ (O35.pick [0, 1, 2, 3, 4]) e_5 rfl he7 rfl rfl k_25 r_25
  · cases e
    exact ⟨_, _, _, _, O.pick [2], rfl, rfl⟩
set_option maxRecDepth 100000 in
theorem clock_Clocks.l1_k.step_j0 (go : (p : clock_Clocks.l1_k.Pt) → Option ((List (List Int)) × Int)) (ih : ∀ p r, go p = some r → clock_Clocks.l1_k.I p r) (y_5 : (List (List Int))) (es_7 : (List (Int × (List Int)))) (a_8 : List (List Int)) (y_10 : T_api_Event) (a_11 : List Int) (a_25 : List T_api_Event) (x_26 : Int) (x_27 : Int) (r : (List (List Int)) × Int) (e : clock_Clocks.l1_k.body go (.j0 y_5 es_7 a_8 y_10 a_11 a_25 x_26 x_27) = some r) : clock_Clocks.l1_k.I (.j0 y_5 es_7 a_8 y_10 a_11 a_25 x_26 x_27) r := by
  unfold clock_Clocks.l1_k.body at e
  intro W h0 m0 h m bk_5 cs_5 bk_7 A_8 n_8 c_8 bk_10 cs_10 A_11 n_11 c_11 A_25 n_25 c_25 O e_5 ne_8 e_10 ne_11 ne_25 k_25 r_25
  subst ne_8
  subst ne_11
  subst ne_25
  refine f23.j0_in ?_
  unfold f23.j0T
  refine ⟨_, ld0 (Sub.refl _) (O.all 3 rfl) (T_api_Event.g0 e_10), _, rfl, ?_⟩
  obtain ⟨y1, g2, e⟩ := bind_e e
  refine (O.os 4 rfl).addr rfl g2 fun a3 cs4 ha5 hc6 he7 => ?_
  obtain rfl : cs4 = [(Value.int .i64 y1)] := he7
  refine ⟨_, ld0 (Sub.refl _) hc6 rfl, _, rfl, ?_⟩
  obtain ⟨y8, g9, e⟩ := bind_e e
  refine (O.os 4 rfl).addr rfl g9 fun a10 cs11 ha12 hc13 he14 => ?_
  obtain rfl : cs11 = [(Value.int .i64 y8)] := he14
  obtain ⟨l17, g18, e⟩ := bind_e e
  replace g18 := Option.some.inj g18
  refine O.elst0 4 rfl g9 ha12 hc13 (by decide) (y' := (IntKind.wrap .i64 (y1 + (1 : Int)))) rfl trivial g18 fun h15 O16 => ?_
  refine ⟨_, ld0 (Sub.refl _) (O16.all 3 rfl) (T_api_Event.g0 e_10), _, rfl, ?_⟩
  obtain ⟨y19, g20, e⟩ := bind_e e
  refine ⟨gi_le g20, eArrE.ltn e_5 g20, ?_⟩
  obtain ⟨l30, g31, e⟩ := bind_e e
  obtain ⟨m21, u22, ⟨r23, k24⟩, O25⟩ := O16.frz 4 rfl
  replace r23 : Rd 1 (eInt .i64) m21 A_11 l17 := r23
  replace g31 := Option.some.inj g31
  refine O25.stE 0 rfl (Int.toNat y_10.Place * 1) (eArrE.lt ((tell_arrE 8 (tell_row (tell_int .i64))).mono _ _ _ _ u22 e_5) g20) trivial (eArrE.set1 ((tell_arrE 8 (tell_row (tell_int .i64))).mono _ _ _ _ u22 e_5) g20 (show (eRow 1 (eInt .i64)) _ l17 [(Value.slice A_11 (List.length a_11) c_11)] from ⟨_, _, by rw [(lset' g18)], k24, r23⟩) g31) fun h26 cs28 e29 O27 => ?_
  refine ⟨_, ldk (k := 1) (Sub.refl _) (O27.all 3 rfl) (T_api_Event.g1 e_10), _, rfl, ?_⟩
  refine split_eq_e e (fun c36 e => ?_) (fun c36 e => ?_)
  · refine ⟨_, ldk (k := 2) (Sub.refl _) (O27.all 3 rfl) (T_api_Event.g2 e_10), _, rfl, ?_⟩
    obtain ⟨l34, g35, e⟩ := bind_e e
    replace g35 := Option.some.inj g35
    refine O27.mapUpd (x := l17) (v := (Value.slice A_11 (List.length a_11) c_11)) 1 rfl (keyOk_int (key := 3) (elem := 37) (by kernel_rfl) (by kernel_rfl)) y_10.Msg (show (eV0 (eRow 1 (eInt .i64))) m21 l17 (Value.slice A_11 (List.length a_11) c_11) from ⟨_, _, by rw [(lset' g18)], k24, r23⟩) g35 fun h32 O33 => ?_
    exact (ih _ _ e) _ _ _ _ _ _ _ _ _ _ _ _ _ _ _ _ _ (O33.pick [0, 1, 2]) e29 rfl (lset' g18) k24 r23 rfl k_25 (r_25.sub T_api_Event.T u22)
  · exact (ih _ _ e) _ _ _ _ _ _ _ _ _ _ _ _ _ _ _ _ _ (O27.pick [0, 1, 2]) e29 rfl (lset' g18) k24 r23 rfl k_25 (r_25.sub T_api_Event.T u22)
set_option maxRecDepth 100000 in
theorem clock_Clocks.l1_k.step_j1 (go : (p : clock_Clocks.l1_k.Pt) → Option ((List (List Int)) × Int)) (ih : ∀ p r, go p = some r → clock_Clocks.l1_k.I p r) (y_5 : (List (List Int))) (es_7 : (List (Int × (List Int)))) (a_8 : List (List Int)) (a_11 : List Int) (a_25 : List T_api_Event) (x_26 : Int) (x_27 : Int) (r : (List (List Int)) × Int) (e : clock_Clocks.l1_k.body go (.j1 y_5 es_7 a_8 a_11 a_25 x_26 x_27) = some r) : clock_Clocks.l1_k.I (.j1 y_5 es_7 a_8 a_11 a_25 x_26 x_27) r := by
  unfold clock_Clocks.l1_k.body at e
  intro W h0 m0 h m bk_5 cs_5 bk_7 A_8 n_8 c_8 A_11 n_11 c_11 A_25 n_25 c_25 O e_5 ne_8 ne_11 k_11 r_11 ne_25 k_25 r_25
  subst ne_8
  subst ne_11
  subst ne_25
  refine f23.j1_in ?_
  unfold f23.j1T
  obtain ⟨y1, g2, e⟩ := bind_e e
  refine (slices_Clone_46.walk (Hold.start (W := No) O.s) rfl k_11 r_11 g2).mono ?_
  rintro _ h3 ⟨m4, A7, n8, c9, Q5, rfl, ne10⟩
  have O12 := O.retC Q5 (vfs_cons (rR_vf (aE_vf (fun _ _ _ _ h => h))) vfs_nil)
  subst ne10
  refine ⟨_, _, _, rfl, ?_⟩
  refine O12.new fun h13 x14 O15 => ?_
  obtain ⟨l17, g18, e⟩ := bind_e e
  obtain ⟨m25, u26, ⟨r27, k28⟩, O29⟩ := O15.frz 3 rfl
  replace r27 : Rd 1 (eInt .i64) m25 A7 y1 := r27
  have O30 := O29.rowE (l := ([y1] : List (List Int))) 4 rfl (tell_row (tell_int .i64)) (show CsE _ _ _ _ _ from (CsE.cons (c1 := [(Value.slice A7 (List.length y1) c9)]) ⟨_, _, rfl, k28, r27⟩ rfl CsE.nil)) rfl
  refine O30.app 2 rfl rfl rfl ((O30.os 4 rfl).srcE rfl) (by decide) g18 fun A19 c20 h21 O22 => ?_
  refine ⟨_, _, _, rfl, ?_⟩
  exact (ih _ _ e) _ _ _ _ _ _ _ _ _ _ _ _ _ _ (O22.pick [0, 1, 2]) ((tell_arrE 8 (tell_row (tell_int .i64))).mono _ _ _ _ u26 e_5) rfl rfl k_25 (r_25.sub T_api_Event.T u26)
theorem clock_Clocks.l1_k.all {p : clock_Clocks.l1_k.Pt} {r : ((List (List Int)) × Int)} (e : clock_Clocks.l1_k.go p = some r) : clock_Clocks.l1_k.I p r := fixF_ind (β := fun _ => ((List (List Int)) × Int)) clock_Clocks.l1_k.mono (I := clock_Clocks.l1_k.I) (fun go ih p r e => match p with
  | .l1 y_5 es_7 a_8 a_25 x_26 x_27 => clock_Clocks.l1_k.step_l1 go ih y_5 es_7 a_8 a_25 x_26 x_27 r e
  | .j0 y_5 es_7 a_8 y_10 a_11 a_25 x_26 x_27 => clock_Clocks.l1_k.step_j0 go ih y_5 es_7 a_8 y_10 a_11 a_25 x_26 x_27 r e
  | .j1 y_5 es_7 a_8 a_11 a_25 x_26 x_27 => clock_Clocks.l1_k.step_j1 go ih y_5 es_7 a_8 a_11 a_25 x_26 x_27 r e
  ) e
theorem clock_Clocks.l1.walk {W : Nat → Prop} {h0 m0 h m : Heap} {bk_5 : Nat} {cs_5 : List Value} {bk_7 : Nat} {A_8 : Option Addr} {n_8 c_8 : Nat} {A_25 : Option Addr} {n_25 c_25 : Nat} {y_5 : (List (List Int))} {es_7 : (List (Int × (List Int)))} {a_8 : List (List Int)} {a_25 : List T_api_Event} {x_26 : Int} {x_27 : Int} (O : Hold W h0 m0 h m [rV bk_5 146 cs_5, rM (monoV0 (tell_row (tell_int .i64))) (fun n : Int => Value.int .i64 n) bk_7 es_7, rR (aE (tell_row (tell_int .i64))) A_8 c_8 a_8]) (e_5 : (eArrE 8 1 (eRow 1 (eInt .i64))) m y_5 cs_5) (ne_8 : n_8 = List.length a_8) (ne_25 : n_25 = List.length a_25) (k_25 : List.length a_25 ≤ c_25) (r_25 : Rd 3 T_api_Event.E m A_25 a_25) {r : (List (List Int)) × Int} (e : clock_Clocks.l1 y_5 es_7 a_8 a_25 x_26 x_27 = some r) : f23.l1 (clock_Clocks.post W h0 m0 r) (⟨bk_5, 0, none⟩ : Addr) (Value.map (some bk_7)) A_8 n_8 c_8 A_25 n_25 c_25 x_26 x_27 h := clock_Clocks.l1_k.all (p := .l1 y_5 es_7 a_8 a_25 x_26 x_27) e W h0 m0 h m bk_5 cs_5 bk_7 A_8 n_8 c_8 A_25 n_25 c_25 O e_5 ne_8 ne_25 k_25 r_25
theorem clock_Clocks.j0.walk {W : Nat → Prop} {h0 m0 h m : Heap} {bk_5 : Nat} {cs_5 : List Value} {bk_7 : Nat} {A_8 : Option Addr} {n_8 c_8 : Nat} {bk_10 : Nat} {cs_10 : List Value} {A_11 : Option Addr} {n_11 c_11 : Nat} {A_25 : Option Addr} {n_25 c_25 : Nat} {y_5 : (List (List Int))} {es_7 : (List (Int × (List Int)))} {a_8 : List (List Int)} {y_10 : T_api_Event} {a_11 : List Int} {a_25 : List T_api_Event} {x_26 : Int} {x_27 : Int} (O : Hold W h0 m0 h m [rV bk_5 146 cs_5, rM (monoV0 (tell_row (tell_int .i64))) (fun n : Int => Value.int .i64 n) bk_7 es_7, rR (aE (tell_row (tell_int .i64))) A_8 c_8 a_8, rV bk_10 88 cs_10, rR (aE (tell_int .i64)) A_11 c_11 a_11]) (e_5 : (eArrE 8 1 (eRow 1 (eInt .i64))) m y_5 cs_5) (ne_8 : n_8 = List.length a_8) (e_10 : T_api_Event.E m y_10 cs_10) (ne_11 : n_11 = List.length a_11) (ne_25 : n_25 = List.length a_25) (k_25 : List.length a_25 ≤ c_25) (r_25 : Rd 3 T_api_Event.E m A_25 a_25) {r : (List (List Int)) × Int} (e : clock_Clocks.j0 y_5 es_7 a_8 y_10 a_11 a_25 x_26 x_27 = some r) : f23.j0 (clock_Clocks.post W h0 m0 r) (⟨bk_5, 0, none⟩ : Addr) (Value.map (some bk_7)) A_8 n_8 c_8 (⟨bk_10, 0, none⟩ : Addr) A_11 n_11 c_11 A_25 n_25 c_25 x_26 x_27 h := clock_Clocks.l1_k.all (p := .j0 y_5 es_7 a_8 y_10 a_11 a_25 x_26 x_27) e W h0 m0 h m bk_5 cs_5 bk_7 A_8 n_8 c_8 bk_10 cs_10 A_11 n_11 c_11 A_25 n_25 c_25 O e_5 ne_8 e_10 ne_11 ne_25 k_25 r_25
theorem clock_Clocks.j1.walk {W : Nat → Prop} {h0 m0 h m : Heap} {bk_5 : Nat} {cs_5 : List Value} {bk_7 : Nat} {A_8 : Option Addr} {n_8 c_8 : Nat} {A_11 : Option Addr} {n_11 c_11 : Nat} {A_25 : Option Addr} {n_25 c_25 : Nat} {y_5 : (List (List Int))} {es_7 : (List (Int × (List Int)))} {a_8 : List (List Int)} {a_11 : List Int} {a_25 : List T_api_Event} {x_26 : Int} {x_27 : Int} (O : Hold W h0 m0 h m [rV bk_5 146 cs_5, rM (monoV0 (tell_row (tell_int .i64))) (fun n : Int => Value.int .i64 n) bk_7 es_7, rR (aE (tell_row (tell_int .i64))) A_8 c_8 a_8]) (e_5 : (eArrE 8 1 (eRow 1 (eInt .i64))) m y_5 cs_5) (ne_8 : n_8 = List.length a_8) (ne_11 : n_11 = List.length a_11) (k_11 : List.length a_11 ≤ c_11) (r_11 : Rd 1 (eInt .i64) m A_11 a_11) (ne_25 : n_25 = List.length a_25) (k_25 : List.length a_25 ≤ c_25) (r_25 : Rd 3 T_api_Event.E m A_25 a_25) {r : (List (List Int)) × Int} (e : clock_Clocks.j1 y_5 es_7 a_8 a_11 a_25 x_26 x_27 = some r) : f23.j1 (clock_Clocks.post W h0 m0 r) (⟨bk_5, 0, none⟩ : Addr) (Value.map (some bk_7)) A_8 n_8 c_8 A_11 n_11 c_11 A_25 n_25 c_25 x_26 x_27 h := clock_Clocks.l1_k.all (p := .j1 y_5 es_7 a_8 a_11 a_25 x_26 x_27) e W h0 m0 h m bk_5 cs_5 bk_7 A_8 n_8 c_8 A_11 n_11 c_11 A_25 n_25 c_25 O e_5 ne_8 ne_11 k_11 r_11 ne_25 k_25 r_25

inductive clock_Clocks.l0_k.Pt where
  | l0 (a_0 : List T_api_Event) (y_5 : (List (List Int))) (x_17 : Int)
noncomputable def clock_Clocks.l0_k.body (go : (p : clock_Clocks.l0_k.Pt) → Option ((List (List Int)) × Int)) : (p : clock_Clocks.l0_k.Pt) → Option ((List (List Int)) × Int)
  | .l0 a_0 y_5 x_17 => if x_17 < (8 : Int) then (Option.bind (mks 8 (8 : Int) (0 : Int)) fun l1 => Option.bind (gi y_5 x_17) fun y9 => Option.bind (some (List.set y_5 (Int.toNat x_17) l1)) fun l20 => (go (.l0 a_0 l20 (IntKind.wrap .i64 (x_17 + (1 : Int)))))) else ((clock_Clocks.l1 y_5 ([] : (List (Int × (List Int)))) ([] : List (List Int)) a_0 (((List.length a_0) : Nat) : Int) (0 : Int)))
theorem clock_Clocks.l0_k.mono : MonoF (β := fun _ => ((List (List Int)) × Int)) clock_Clocks.l0_k.body := fun f g hfg p => match p with
  | .l0 a_0 y_5 x_17 => LeO.ite (LeO.bind (LeO.refl _) fun l1 => LeO.bind (LeO.refl _) fun y9 => LeO.bind (LeO.refl _) fun l20 => (hfg _)) ((LeO.refl _))
noncomputable def clock_Clocks.l0_k.go (p : clock_Clocks.l0_k.Pt) : Option ((List (List Int)) × Int) := fixF (β := fun _ => ((List (List Int)) × Int)) clock_Clocks.l0_k.body p
noncomputable def clock_Clocks.l0 (a_0 : List T_api_Event) (y_5 : (List (List Int))) (x_17 : Int) : Option ((List (List Int)) × Int) := clock_Clocks.l0_k.go (.l0 a_0 y_5 x_17)
theorem clock_Clocks.l0_eq (a_0 : List T_api_Event) (y_5 : (List (List Int))) (x_17 : Int) : clock_Clocks.l0 a_0 y_5 x_17 = if x_17 < (8 : Int) then (Option.bind (mks 8 (8 : Int) (0 : Int)) fun l1 => Option.bind (gi y_5 x_17) fun y9 => Option.bind (some (List.set y_5 (Int.toNat x_17) l1)) fun l20 => (clock_Clocks.l0 a_0 l20 (IntKind.wrap .i64 (x_17 + (1 : Int))))) else ((clock_Clocks.l1 y_5 ([] : (List (Int × (List Int)))) ([] : List (List Int)) a_0 (((List.length a_0) : Nat) : Int) (0 : Int))) := fixF_eq clock_Clocks.l0_k.mono _
def clock_Clocks.l0_k.I : (p : clock_Clocks.l0_k.Pt) → ((List (List Int)) × Int) → Prop
  | .l0 a_0 y_5 x_17, r => ∀ (W : Nat → Prop) (h0 m0 h m : Heap) (A_0 : Option Addr) (n_0 c_0 : Nat) (bk_5 : Nat) (cs_5 : List Value) (O : Hold W h0 m0 h m [rV bk_5 146 cs_5]) (ne_0 : n_0 = List.length a_0) (k_0 : List.length a_0 ≤ c_0) (r_0 : Rd 3 T_api_Event.E m A_0 a_0) (e_5 : (eArrE 8 1 (eRow 1 (eInt .i64))) m y_5 cs_5), f23.l0 (clock_Clocks.post W h0 m0 r) A_0 n_0 c_0 (⟨bk_5, 0, none⟩ : Addr) x_17 h
set_option maxRecDepth 100000 in
theorem clock_Clocks.l0_k.step_l0 (go : (p : clock_Clocks.l0_k.Pt) → Option ((List (List Int)) × Int)) (ih : ∀ p r, go p = some r → clock_Clocks.l0_k.I p r) (a_0 : List T_api_Event) (y_5 : (List (List Int))) (x_17 : Int) (r : (List (List Int)) × Int) (e : clock_Clocks.l0_k.body go (.l0 a_0 y_5 x_17) = some r) : clock_Clocks.l0_k.I (.l0 a_0 y_5 x_17) r := by
  unfold clock_Clocks.l0_k.body at e
  intro W h0 m0 h m A_0 n_0 c_0 bk_5 cs_5 O ne_0 k_0 r_0 e_5
  subst ne_0
  refine f23.l0_in ?_
  unfold f23.l0T
  refine split_dec_e e (fun c28 e => ?_) (fun c28 e => ?_)
  · obtain ⟨l1, g2, e⟩ := bind_e e
    have q3 := mks_e g2
    refine ⟨q3.1, Int.le_refl _, q3.2.1, q3.2.2.1, ?_⟩
    refine O.new fun h4 x5 O6 => ?_
    have O7 := O6.made 1 rfl (aE (tell_int .i64)) g2 ⟨rfl, rfl⟩
    try rw [q3.2.2.2.1]
    obtain ⟨y9, g10, e⟩ := bind_e e
    refine ⟨gi_le g10, eArrE.ltn e_5 g10, ?_⟩
    obtain ⟨l20, g21, e⟩ := bind_e e
    obtain ⟨m11, u12, ⟨r13, k14⟩, O15⟩ := O7.frz 1 rfl
    replace r13 : Rd 1 (eInt .i64) m11 (some ⟨(Array.size h), 0, none⟩) l1 := r13
    replace g21 := Option.some.inj g21
    refine O15.stE 0 rfl (Int.toNat x_17 * 1) (eArrE.lt ((tell_arrE 8 (tell_row (tell_int .i64))).mono _ _ _ _ u12 e_5) g10) trivial (eArrE.set1 ((tell_arrE 8 (tell_row (tell_int .i64))).mono _ _ _ _ u12 e_5) g10 (show (eRow 1 (eInt .i64)) _ l1 [(Value.slice (some ⟨(Array.size h), 0, none⟩) (List.length l1) (List.length l1))] from ⟨_, _, rfl, k14, r13⟩) g21) fun h16 cs18 e19 O17 => ?_
    exact (ih _ _ e) _ _ _ _ _ _ _ _ _ _ (O17.pick [0]) rfl k_0 (r_0.sub T_api_Event.T u12) e19
  · refine O.mkMap (ν := (List Int)) (monoV0 (tell_row (tell_int .i64))) (fun n : Int => Value.int .i64 n) fun h22 x23 O24 => ?_
    have O26 := O24.nil (aE (tell_row (tell_int .i64))) none
    exact clock_Clocks.l1.walk (O26.pick [0, 1, 2]) e_5 rfl rfl k_0 r_0 e
theorem clock_Clocks.l0_k.all {p : clock_Clocks.l0_k.Pt} {r : ((List (List Int)) × Int)} (e : clock_Clocks.l0_k.go p = some r) : clock_Clocks.l0_k.I p r := fixF_ind (β := fun _ => ((List (List Int)) × Int)) clock_Clocks.l0_k.mono (I := clock_Clocks.l0_k.I) (fun go ih p r e => match p with
  | .l0 a_0 y_5 x_17 => clock_Clocks.l0_k.step_l0 go ih a_0 y_5 x_17 r e
  ) e
theorem clock_Clocks.l0.walk {W : Nat → Prop} {h0 m0 h m : Heap} {A_0 : Option Addr} {n_0 c_0 : Nat} {bk_5 : Nat} {cs_5 : List Value} {a_0 : List T_api_Event} {y_5 : (List (List Int))} {x_17 : Int} (O : Hold W h0 m0 h m [rV bk_5 146 cs_5]) (ne_0 : n_0 = List.length a_0) (k_0 : List.length a_0 ≤ c_0) (r_0 : Rd 3 T_api_Event.E m A_0 a_0) (e_5 : (eArrE 8 1 (eRow 1 (eInt .i64))) m y_5 cs_5) {r : (List (List Int)) × Int} (e : clock_Clocks.l0 a_0 y_5 x_17 = some r) : f23.l0 (clock_Clocks.post W h0 m0 r) A_0 n_0 c_0 (⟨bk_5, 0, none⟩ : Addr) x_17 h := clock_Clocks.l0_k.all (p := .l0 a_0 y_5 x_17) e W h0 m0 h m A_0 n_0 c_0 bk_5 cs_5 O ne_0 k_0 r_0 e_5

noncomputable def clock_Clocks (a_0 : List T_api_Event) : Option ((List (List Int)) × Int) :=
  Option.bind (clock_Check a_0) fun y1 => if y1 = (0 : Int) then ((clock_Clocks.l0 a_0 (List.replicate 8 ([] : (List Int))) (0 : Int))) else (some (([] : List (List Int)), y1))
set_option maxRecDepth 100000 in
theorem clock_Clocks.walk {W : Nat → Prop} {h m : Heap} {A_0 : Option Addr} {n_0 c_0 : Nat} {a_0 : List T_api_Event} (O : Hold W h m h m []) (ne_0 : n_0 = List.length a_0) (k_0 : List.length a_0 ≤ c_0) (r_0 : Rd 3 T_api_Event.E m A_0 a_0) {r : (List (List Int)) × Int} (e : clock_Clocks a_0 = some r) : Run Try.prog 23 #[Value.slice A_0 n_0 c_0] h (clock_Clocks.post W h m r) := by
  unfold clock_Clocks at e
  subst ne_0
  refine f23.run ?_
  unfold f23.runT
  obtain ⟨y1, g2, e⟩ := bind_e e
  refine (clock_Check.walk (Hold.start (W := No) O.s) rfl k_0 r_0 g2).mono ?_
  rintro _ h3 ⟨m4, Q5, rfl⟩
  have O7 := O.retC Q5 vfs_nil
  refine ⟨_, rfl, ?_⟩
  refine split_ne_e e (fun c15 e => ?_) (fun c15 e => ?_)
  · have O8 := O7.nil (aE (tell_row (tell_int .i64))) none
    cases e
    exact ⟨_, _, _, _, O8.pick [0], rfl, rfl⟩
  · refine O7.new fun h10 x11 O12 => ?_
    have O14 := O12.recell 0 rfl (cs' := (List.flatten (List.replicate 8 [(Value.slice none 0 0)]))) rfl
    exact clock_Clocks.l0.walk (O14.pick [0]) rfl k_0 r_0 (arrE_zero (z := ([] : (List Int))) (zc := [(Value.slice none 0 0)]) (show (eRow 1 (eInt .i64)) m ([] : (List Int)) [(Value.slice none 0 0)] from ⟨_, _, rfl, (Nat.le_refl 0), Rd.nil⟩) (tell_row (tell_int .i64)) 8) e

/-! ### 76 roadstead/clock.Less -/
def clock_Less.post (W : Nat → Prop) (h0 m0 : Heap) (r : Bool) (v : Value) (h : Heap) : Prop := ∃ m , Hold W h0 m0 h m [] ∧ v = .bool r
inductive clock_Less.l0_k.Pt where
  | l0 (a_0 : List Int) (a_1 : List Int) (b_5 : Bool) (x_11 : Int) (x_12 : Int)
noncomputable def clock_Less.l0_k.body (go : (p : clock_Less.l0_k.Pt) → Option (Bool)) : (p : clock_Less.l0_k.Pt) → Option (Bool)
  | .l0 a_0 a_1 b_5 x_11 x_12 => if x_12 < x_11 then (Option.bind (clock_at a_0 x_12) fun y1 => Option.bind (clock_at a_1 x_12) fun y8 => if y1 > y8 then (some (false)) else (if b_5 = true then ((go (.l0 a_0 a_1 true x_11 (IntKind.wrap .i64 (x_12 + (1 : Int)))))) else (Option.bind (clock_at a_0 x_12) fun y15 => Option.bind (clock_at a_1 x_12) fun y22 => (go (.l0 a_0 a_1 (decide (y15 < y22)) x_11 (IntKind.wrap .i64 (x_12 + (1 : Int)))))))) else (some (b_5))
theorem clock_Less.l0_k.mono : MonoF (β := fun _ => (Bool)) clock_Less.l0_k.body := fun f g hfg p => match p with
  | .l0 a_0 a_1 b_5 x_11 x_12 => LeO.ite (LeO.bind (LeO.refl _) fun y1 => LeO.bind (LeO.refl _) fun y8 => LeO.ite (LeO.refl _) (LeO.ite ((hfg _)) (LeO.bind (LeO.refl _) fun y15 => LeO.bind (LeO.refl _) fun y22 => (hfg _)))) (LeO.refl _)
noncomputable def clock_Less.l0_k.go (p : clock_Less.l0_k.Pt) : Option (Bool) := fixF (β := fun _ => (Bool)) clock_Less.l0_k.body p
noncomputable def clock_Less.l0 (a_0 : List Int) (a_1 : List Int) (b_5 : Bool) (x_11 : Int) (x_12 : Int) : Option (Bool) := clock_Less.l0_k.go (.l0 a_0 a_1 b_5 x_11 x_12)
theorem clock_Less.l0_eq (a_0 : List Int) (a_1 : List Int) (b_5 : Bool) (x_11 : Int) (x_12 : Int) : clock_Less.l0 a_0 a_1 b_5 x_11 x_12 = if x_12 < x_11 then (Option.bind (clock_at a_0 x_12) fun y1 => Option.bind (clock_at a_1 x_12) fun y8 => if y1 > y8 then (some (false)) else (if b_5 = true then ((clock_Less.l0 a_0 a_1 true x_11 (IntKind.wrap .i64 (x_12 + (1 : Int))))) else (Option.bind (clock_at a_0 x_12) fun y15 => Option.bind (clock_at a_1 x_12) fun y22 => (clock_Less.l0 a_0 a_1 (decide (y15 < y22)) x_11 (IntKind.wrap .i64 (x_12 + (1 : Int))))))) else (some (b_5)) := fixF_eq clock_Less.l0_k.mono _
def clock_Less.l0_k.I : (p : clock_Less.l0_k.Pt) → (Bool) → Prop
  | .l0 a_0 a_1 b_5 x_11 x_12, r => ∀ (W : Nat → Prop) (h0 m0 h m : Heap) (A_0 : Option Addr) (n_0 c_0 : Nat) (A_1 : Option Addr) (n_1 c_1 : Nat) (O : Hold W h0 m0 h m []) (ne_0 : n_0 = List.length a_0) (k_0 : List.length a_0 ≤ c_0) (r_0 : Rd 1 (eInt .i64) m A_0 a_0) (ne_1 : n_1 = List.length a_1) (k_1 : List.length a_1 ≤ c_1) (r_1 : Rd 1 (eInt .i64) m A_1 a_1), f76.l0 (clock_Less.post W h0 m0 r) A_0 n_0 c_0 A_1 n_1 c_1 b_5 x_11 x_12 h
set_option maxRecDepth 100000 in
theorem clock_Less.l0_k.step_l0 (go : (p : clock_Less.l0_k.Pt) → Option (Bool)) (ih : ∀ p r, go p = some r → clock_Less.l0_k.I p r) (a_0 : List Int) (a_1 : List Int) (b_5 : Bool) (x_11 : Int) (x_12 : Int) (r : Bool) (e : clock_Less.l0_k.body go (.l0 a_0 a_1 b_5 x_11 x_12) = some r) : clock_Less.l0_k.I (.l0 a_0 a_1 b_5 x_11 x_12) r := by
  unfold clock_Less.l0_k.body at e
  intro W h0 m0 h m A_0 n_0 c_0 A_1 n_1 c_1 O ne_0 k_0 r_0 ne_1 k_1 r_1
  subst ne_0
  subst ne_1
  refine f76.l0_in ?_
  unfold f76.l0T
  refine split_dec_e e (fun c31 e => ?_) (fun c31 e => ?_)
  · obtain ⟨y1, g2, e⟩ := bind_e e
    refine (clock_at.walk (Hold.start (W := No) O.s) rfl k_0 r_0 g2).mono ?_
    rintro _ h3 ⟨m4, Q5, rfl⟩
    have O7 := O.retC Q5 vfs_nil
    refine ⟨_, rfl, ?_⟩
    obtain ⟨y8, g9, e⟩ := bind_e e
    refine (clock_at.walk (Hold.start (W := No) O7.s) rfl k_1 r_1 g9).mono ?_
    rintro _ h10 ⟨m11, Q12, rfl⟩
    have O14 := O7.retC Q12 vfs_nil
    refine ⟨_, rfl, ?_⟩
    refine split_dec_e e (fun c30 e => ?_) (fun c30 e => ?_)
    · cases e
      exact ⟨_, O14.pick [], rfl⟩
    · refine split_any_e e (fun c29 e => ?_) (fun c29 e => ?_)
      · exact (ih _ _ e) _ _ _ _ _ _ _ _ _ _ _ (O14.pick []) rfl k_0 r_0 rfl k_1 r_1
      · obtain ⟨y15, g16, e⟩ := bind_e e
        refine (clock_at.walk (Hold.start (W := No) O14.s) rfl k_0 r_0 g16).mono ?_
        rintro _ h17 ⟨m18, Q19, rfl⟩
        have O21 := O14.retC Q19 vfs_nil
        refine ⟨_, rfl, ?_⟩
        obtain ⟨y22, g23, e⟩ := bind_e e
        refine (clock_at.walk (Hold.start (W := No) O21.s) rfl k_1 r_1 g23).mono ?_
        rintro _ h24 ⟨m25, Q26, rfl⟩
        have O28 := O21.retC Q26 vfs_nil
        refine ⟨_, rfl, ?_⟩
        exact (ih _ _ e) _ _ _ _ _ _ _ _ _ _ _ (O28.pick []) rfl k_0 r_0 rfl k_1 r_1
  · cases e
    exact ⟨_, O.pick [], rfl⟩
theorem clock_Less.l0_k.all {p : clock_Less.l0_k.Pt} {r : (Bool)} (e : clock_Less.l0_k.go p = some r) : clock_Less.l0_k.I p r := fixF_ind (β := fun _ => (Bool)) clock_Less.l0_k.mono (I := clock_Less.l0_k.I) (fun go ih p r e => match p with
  | .l0 a_0 a_1 b_5 x_11 x_12 => clock_Less.l0_k.step_l0 go ih a_0 a_1 b_5 x_11 x_12 r e
  ) e
theorem clock_Less.l0.walk {W : Nat → Prop} {h0 m0 h m : Heap} {A_0 : Option Addr} {n_0 c_0 : Nat} {A_1 : Option Addr} {n_1 c_1 : Nat} {a_0 : List Int} {a_1 : List Int} {b_5 : Bool} {x_11 : Int} {x_12 : Int} (O : Hold W h0 m0 h m []) (ne_0 : n_0 = List.length a_0) (k_0 : List.length a_0 ≤ c_0) (r_0 : Rd 1 (eInt .i64) m A_0 a_0) (ne_1 : n_1 = List.length a_1) (k_1 : List.length a_1 ≤ c_1) (r_1 : Rd 1 (eInt .i64) m A_1 a_1) {r : Bool} (e : clock_Less.l0 a_0 a_1 b_5 x_11 x_12 = some r) : f76.l0 (clock_Less.post W h0 m0 r) A_0 n_0 c_0 A_1 n_1 c_1 b_5 x_11 x_12 h := clock_Less.l0_k.all (p := .l0 a_0 a_1 b_5 x_11 x_12) e W h0 m0 h m A_0 n_0 c_0 A_1 n_1 c_1 O ne_0 k_0 r_0 ne_1 k_1 r_1

noncomputable def clock_Less (a_0 : List Int) (a_1 : List Int) : Option (Bool) :=
  (clock_Less.l0 a_0 a_1 false (if (((List.length a_1) : Nat) : Int) > (((List.length a_0) : Nat) : Int) then (((List.length a_1) : Nat) : Int) else (((List.length a_0) : Nat) : Int)) (0 : Int))
set_option maxRecDepth 100000 in
theorem clock_Less.walk {W : Nat → Prop} {h m : Heap} {A_0 : Option Addr} {n_0 c_0 : Nat} {A_1 : Option Addr} {n_1 c_1 : Nat} {a_0 : List Int} {a_1 : List Int} (O : Hold W h m h m []) (ne_0 : n_0 = List.length a_0) (k_0 : List.length a_0 ≤ c_0) (r_0 : Rd 1 (eInt .i64) m A_0 a_0) (ne_1 : n_1 = List.length a_1) (k_1 : List.length a_1 ≤ c_1) (r_1 : Rd 1 (eInt .i64) m A_1 a_1) {r : Bool} (e : clock_Less a_0 a_1 = some r) : Run Try.prog 76 #[Value.slice A_0 n_0 c_0, Value.slice A_1 n_1 c_1] h (clock_Less.post W h m r) := by
  unfold clock_Less at e
  subst ne_0
  subst ne_1
  refine f76.run ?_
  unfold f76.runT
  exact clock_Less.l0.walk (O.pick []) rfl k_0 r_0 rfl k_1 r_1 e

/-! ### 21 roadstead/clock.Ahead -/
def clock_Ahead.post (W : Nat → Prop) (h0 m0 : Heap) (r : Bool × Int) (v : Value) (h : Heap) : Prop := ∃ m , Hold W h0 m0 h m [] ∧ v = .tuple #[.bool r.1, .int .i64 r.2]
noncomputable def clock_Ahead.j0 (x_1 : Int) (x_2 : Int) (a_8 : List (List Int)) : Option (Bool × Int) :=
  Option.bind (gi a_8 x_1) fun y1 => Option.bind (gi a_8 x_2) fun y8 => Option.bind (clock_Less y1 y8) fun y15 => some (y15, (0 : Int))
set_option maxRecDepth 100000 in
theorem clock_Ahead.j0.walk {W : Nat → Prop} {h0 m0 h m : Heap} {A_8 : Option Addr} {n_8 c_8 : Nat} {x_1 : Int} {x_2 : Int} {a_8 : List (List Int)} (O : Hold W h0 m0 h m [rR (aE (tell_row (tell_int .i64))) A_8 c_8 a_8]) (ne_8 : n_8 = List.length a_8) {r : Bool × Int} (e : clock_Ahead.j0 x_1 x_2 a_8 = some r) : f21.j0 (clock_Ahead.post W h0 m0 r) x_1 x_2 A_8 n_8 c_8 h := by
  unfold clock_Ahead.j0 at e
  subst ne_8
  refine f21.j0_in ?_
  unfold f21.j0T
  obtain ⟨y1, g2, e⟩ := bind_e e
  refine (O.os 0 rfl).addr rfl g2 fun a3 cs4 ha5 hc6 he7 => ?_
  obtain ⟨Acs4_0, ccs4_0, rfl, kcs4_0, rcs4_0⟩ := id he7
  obtain ⟨y8, g9, e⟩ := bind_e e
  refine (O.os 0 rfl).addr rfl g9 fun a10 cs11 ha12 hc13 he14 => ?_
  obtain ⟨Acs11_0, ccs11_0, rfl, kcs11_0, rcs11_0⟩ := id he14
  refine ⟨_, ld0 (Sub.refl _) hc6 rfl, _, _, _, rfl, ?_⟩
  refine ⟨_, ld0 (Sub.refl _) hc13 rfl, _, _, _, rfl, ?_⟩
  obtain ⟨y15, g16, e⟩ := bind_e e
  refine (clock_Less.walk (Hold.start (W := No) O.s) rfl kcs4_0 rcs4_0 rfl kcs11_0 rcs11_0 g16).mono ?_
  rintro _ h17 ⟨m18, Q19, rfl⟩
  have O21 := O.retC Q19 vfs_nil
  refine ⟨_, rfl, ?_⟩
  cases e
  exact ⟨_, O21.pick [], rfl⟩

noncomputable def clock_Ahead.j1 (x_1 : Int) (x_2 : Int) (a_8 : List (List Int)) (b_35 : Bool) : Option (Bool × Int) :=
  if b_35 = true then (some (false, (1 : Int))) else ((clock_Ahead.j0 x_1 x_2 a_8))
set_option maxRecDepth 100000 in
theorem clock_Ahead.j1.walk {W : Nat → Prop} {h0 m0 h m : Heap} {A_8 : Option Addr} {n_8 c_8 : Nat} {x_1 : Int} {x_2 : Int} {a_8 : List (List Int)} {b_35 : Bool} (O : Hold W h0 m0 h m [rR (aE (tell_row (tell_int .i64))) A_8 c_8 a_8]) (ne_8 : n_8 = List.length a_8) {r : Bool × Int} (e : clock_Ahead.j1 x_1 x_2 a_8 b_35 = some r) : f21.j1 (clock_Ahead.post W h0 m0 r) x_1 x_2 A_8 n_8 c_8 b_35 h := by
  unfold clock_Ahead.j1 at e
  subst ne_8
  refine f21.j1_in ?_
  unfold f21.j1T
  refine split_any_e e (fun c1 e => ?_) (fun c1 e => ?_)
  · cases e
    exact ⟨_, O.pick [], rfl⟩
  · exact clock_Ahead.j0.walk (O.pick [0]) rfl e

noncomputable def clock_Ahead (a_0 : List T_api_Event) (x_1 : Int) (x_2 : Int) : Option (Bool × Int) :=
  Option.bind (clock_Clocks a_0) fun y1 => if y1.2 = (0 : Int) then (if x_1 < (0 : Int) then ((clock_Ahead.j1 x_1 x_2 y1.1 true)) else (if x_2 < (0 : Int) then ((clock_Ahead.j1 x_1 x_2 y1.1 true)) else (if x_1 ≥ (((List.length a_0) : Nat) : Int) then ((clock_Ahead.j1 x_1 x_2 y1.1 true)) else ((clock_Ahead.j1 x_1 x_2 y1.1 (decide (x_2 ≥ (((List.length a_0) : Nat) : Int)))))))) else (some (false, y1.2))
set_option maxRecDepth 100000 in
theorem clock_Ahead.walk {W : Nat → Prop} {h m : Heap} {A_0 : Option Addr} {n_0 c_0 : Nat} {a_0 : List T_api_Event} {x_1 : Int} {x_2 : Int} (O : Hold W h m h m []) (ne_0 : n_0 = List.length a_0) (k_0 : List.length a_0 ≤ c_0) (r_0 : Rd 3 T_api_Event.E m A_0 a_0) {r : Bool × Int} (e : clock_Ahead a_0 x_1 x_2 = some r) : Run Try.prog 21 #[Value.slice A_0 n_0 c_0, Value.int .i64 x_1, Value.int .i64 x_2] h (clock_Ahead.post W h m r) := by
  unfold clock_Ahead at e
  subst ne_0
  refine f21.run ?_
  unfold f21.runT
  obtain ⟨y1, g2, e⟩ := bind_e e
  refine (clock_Clocks.walk (Hold.start (W := No) O.s) rfl k_0 r_0 g2).mono ?_
  rintro _ h3 ⟨m4, A7, n8, c9, Q5, rfl, ne10⟩
  have O12 := O.ret Q5
  subst ne10
  refine ⟨_, _, _, _, rfl, ?_⟩
  refine split_ne_e e (fun c16 e => ?_) (fun c16 e => ?_)
  · cases e
    exact ⟨_, O12.pick [], rfl⟩
  · refine split_dec_e e (fun c15 e => ?_) (fun c15 e => ?_)
    · exact clock_Ahead.j1.walk (O12.pick [0]) rfl e
    · refine split_dec_e e (fun c14 e => ?_) (fun c14 e => ?_)
      · exact clock_Ahead.j1.walk (O12.pick [0]) rfl e
      · refine split_dec_e e (fun c13 e => ?_) (fun c13 e => ?_)
        · exact clock_Ahead.j1.walk (O12.pick [0]) rfl e
        · exact clock_Ahead.j1.walk (O12.pick [0]) rfl e

/-! ### 22 roadstead/roadlaw4.two -/
def roadlaw4_two.post (W : Nat → Prop) (h0 m0 : Heap) (r : (List T_api_Event)) (v : Value) (h : Heap) : Prop := ∃ m A0 n0 c0, Hold W h0 m0 h m [rR (aE T_api_Event.T) A0 c0 r] ∧ v = .slice A0 n0 c0 ∧ n0 = List.length r
noncomputable def roadlaw4_two  : Option ((List T_api_Event)) :=
  some (([(T_api_Event.mk (0 : Int) (2 : Int) (5 : Int)), (T_api_Event.mk (1 : Int) (3 : Int) (5 : Int))] : List T_api_Event))
set_option maxRecDepth 100000 in
theorem roadlaw4_two.walk {W : Nat → Prop} {h m : Heap}  (O : Hold W h m h m []) {r : (List T_api_Event)} (e : roadlaw4_two  = some r) : Run Try.prog 22 #[] h (roadlaw4_two.post W h m r) := by
  unfold roadlaw4_two at e
  refine f22.run ?_
  unfold f22.runT
  refine ⟨[(Value.int .i64 (0 : Int)), (Value.int .i64 (2 : Int)), (Value.int .i64 (5 : Int))], rfl, rfl, ?_⟩
  refine ⟨[(Value.int .i64 (1 : Int)), (Value.int .i64 (3 : Int)), (Value.int .i64 (5 : Int))], rfl, rfl, ?_⟩
  refine O.new fun h1 x2 O3 => ?_
  have O5 := O3.rowE (l := ([(T_api_Event.mk (0 : Int) (2 : Int) (5 : Int)), (T_api_Event.mk (1 : Int) (3 : Int) (5 : Int))] : List T_api_Event)) 0 rfl T_api_Event.T (show CsE _ _ _ _ _ from (CsE.cons (c1 := [(Value.int .i64 (0 : Int)), (Value.int .i64 (2 : Int)), (Value.int .i64 (5 : Int))]) (show T_api_Event.E _ (T_api_Event.mk (0 : Int) (2 : Int) (5 : Int)) [(Value.int .i64 (0 : Int)), (Value.int .i64 (2 : Int)), (Value.int .i64 (5 : Int))] from rfl) rfl (CsE.cons (c1 := [(Value.int .i64 (1 : Int)), (Value.int .i64 (3 : Int)), (Value.int .i64 (5 : Int))]) (show T_api_Event.E _ (T_api_Event.mk (1 : Int) (3 : Int) (5 : Int)) [(Value.int .i64 (1 : Int)), (Value.int .i64 (3 : Int)), (Value.int .i64 (5 : Int))] from rfl) rfl CsE.nil))) rfl
  cases e
  exact ⟨_, _, _, _, O5.pick [0], rfl, rfl⟩

/-! ### 24 roadstead/clock.Numbers -/
def clock_Numbers.post (W : Nat → Prop) (h0 m0 : Heap) (r : (List Int) × Int) (v : Value) (h : Heap) : Prop := ∃ m A0 n0 c0, Hold W h0 m0 h m [rR (aE (tell_int .i64)) A0 c0 r.1] ∧ v = .tuple #[.slice A0 n0 c0, .int .i64 r.2] ∧ n0 = List.length r.1
inductive clock_Numbers.l0_k.Pt where
  | l0 (y_5 : (List Int)) (es_6 : (List (Int × Int))) (a_7 : List Int) (a_17 : List T_api_Event) (x_18 : Int) (x_19 : Int)
  | j0 (y_5 : (List Int)) (es_6 : (List (Int × Int))) (a_7 : List Int) (y_9 : T_api_Event) (x_10 : Int) (a_17 : List T_api_Event) (x_18 : Int) (x_19 : Int)
  | j1 (y_5 : (List Int)) (es_6 : (List (Int × Int))) (a_7 : List Int) (x_10 : Int) (a_17 : List T_api_Event) (x_18 : Int) (x_19 : Int)
noncomputable def clock_Numbers.l0_k.body (go : (p : clock_Numbers.l0_k.Pt) → Option ((List Int) × Int)) : (p : clock_Numbers.l0_k.Pt) → Option ((List Int) × Int)
  | .l0 y_5 es_6 a_7 a_17 x_18 x_19 => if x_19 < x_18 then (Option.bind (gi a_17 x_19) fun y1 => Option.bind (gi y_5 y1.Place) fun y14 => if y1.Kind = (3 : Int) then ((go (.j0 y_5 es_6 a_7 y1 (if (pgd es_6 y1.Msg (0 : Int)) > y14 then (pgd es_6 y1.Msg (0 : Int)) else y14) a_17 x_18 x_19))) else ((go (.j0 y_5 es_6 a_7 y1 y14 a_17 x_18 x_19)))) else (some (a_7, (0 : Int)))
  | .j0 y_5 es_6 a_7 y_9 x_10 a_17 x_18 x_19 => Option.bind (gi y_5 y_9.Place) fun y1 => Option.bind (some (List.set y_5 (Int.toNat y_9.Place) (IntKind.wrap .i64 (x_10 + (1 : Int))))) fun l3 => if y_9.Kind = (2 : Int) then (Option.bind (some (pset es_6 y_9.Msg (IntKind.wrap .i64 (x_10 + (1 : Int))))) fun l13 => (go (.j1 l3 l13 a_7 (IntKind.wrap .i64 (x_10 + (1 : Int))) a_17 x_18 x_19))) else ((go (.j1 l3 es_6 a_7 (IntKind.wrap .i64 (x_10 + (1 : Int))) a_17 x_18 x_19)))
  | .j1 y_5 es_6 a_7 x_10 a_17 x_18 x_19 => Option.bind (ap 8 a_7 ([x_10] : List Int)) fun l5 => (go (.l0 y_5 es_6 l5 a_17 x_18 (IntKind.wrap .i64 (x_19 + (1 : Int)))))
theorem clock_Numbers.l0_k.mono : MonoF (β := fun _ => ((List Int) × Int)) clock_Numbers.l0_k.body := fun f g hfg p => match p with
  | .l0 y_5 es_6 a_7 a_17 x_18 x_19 => LeO.ite (LeO.bind (LeO.refl _) fun y1 => LeO.bind (LeO.refl _) fun y14 => LeO.ite ((hfg _)) ((hfg _))) (LeO.refl _)
  | .j0 y_5 es_6 a_7 y_9 x_10 a_17 x_18 x_19 => LeO.bind (LeO.refl _) fun y1 => LeO.bind (LeO.refl _) fun l3 => LeO.ite (LeO.bind (LeO.refl _) fun l13 => (hfg _)) ((hfg _))
  | .j1 y_5 es_6 a_7 x_10 a_17 x_18 x_19 => LeO.bind (LeO.refl _) fun l5 => (hfg _)
noncomputable def clock_Numbers.l0_k.go (p : clock_Numbers.l0_k.Pt) : Option ((List Int) × Int) := fixF (β := fun _ => ((List Int) × Int)) clock_Numbers.l0_k.body p
noncomputable def clock_Numbers.l0 (y_5 : (List Int)) (es_6 : (List (Int × Int))) (a_7 : List Int) (a_17 : List T_api_Event) (x_18 : Int) (x_19 : Int) : Option ((List Int) × Int) := clock_Numbers.l0_k.go (.l0 y_5 es_6 a_7 a_17 x_18 x_19)
noncomputable def clock_Numbers.j0 (y_5 : (List Int)) (es_6 : (List (Int × Int))) (a_7 : List Int) (y_9 : T_api_Event) (x_10 : Int) (a_17 : List T_api_Event) (x_18 : Int) (x_19 : Int) : Option ((List Int) × Int) := clock_Numbers.l0_k.go (.j0 y_5 es_6 a_7 y_9 x_10 a_17 x_18 x_19)
noncomputable def clock_Numbers.j1 (y_5 : (List Int)) (es_6 : (List (Int × Int))) (a_7 : List Int) (x_10 : Int) (a_17 : List T_api_Event) (x_18 : Int) (x_19 : Int) : Option ((List Int) × Int) := clock_Numbers.l0_k.go (.j1 y_5 es_6 a_7 x_10 a_17 x_18 x_19)
theorem clock_Numbers.l0_eq (y_5 : (List Int)) (es_6 : (List (Int × Int))) (a_7 : List Int) (a_17 : List T_api_Event) (x_18 : Int) (x_19 : Int) : clock_Numbers.l0 y_5 es_6 a_7 a_17 x_18 x_19 = if x_19 < x_18 then (Option.bind (gi a_17 x_19) fun y1 => Option.bind (gi y_5 y1.Place) fun y14 => if y1.Kind = (3 : Int) then ((clock_Numbers.j0 y_5 es_6 a_7 y1 (if (pgd es_6 y1.Msg (0 : Int)) > y14 then (pgd es_6 y1.Msg (0 : Int)) else y14) a_17 x_18 x_19)) else ((clock_Numbers.j0 y_5 es_6 a_7 y1 y14 a_17 x_18 x_19))) else (some (a_7, (0 : Int))) := fixF_eq clock_Numbers.l0_k.mono _
theorem clock_Numbers.j0_eq (y_5 : (List Int)) (es_6 : (List (Int × Int))) (a_7 : List Int) (y_9 : T_api_Event) (x_10 : Int) (a_17 : List T_api_Event) (x_18 : Int) (x_19 : Int) : clock_Numbers.j0 y_5 es_6 a_7 y_9 x_10 a_17 x_18 x_19 = Option.bind (gi y_5 y_9.Place) fun y1 => Option.bind (some (List.set y_5 (Int.toNat y_9.Place) (IntKind.wrap .i64 (x_10 + (1 : Int))))) fun l3 => if y_9.Kind = (2 : Int) then (Option.bind (some (pset es_6 y_9.Msg (IntKind.wrap .i64 (x_10 + (1 : Int))))) fun l13 => (clock_Numbers.j1 l3 l13 a_7 (IntKind.wrap .i64 (x_10 + (1 : Int))) a_17 x_18 x_19)) else ((clock_Numbers.j1 l3 es_6 a_7 (IntKind.wrap .i64 (x_10 + (1 : Int))) a_17 x_18 x_19)) := fixF_eq clock_Numbers.l0_k.mono _
theorem clock_Numbers.j1_eq (y_5 : (List Int)) (es_6 : (List (Int × Int))) (a_7 : List Int) (x_10 : Int) (a_17 : List T_api_Event) (x_18 : Int) (x_19 : Int) : clock_Numbers.j1 y_5 es_6 a_7 x_10 a_17 x_18 x_19 = Option.bind (ap 8 a_7 ([x_10] : List Int)) fun l5 => (clock_Numbers.l0 y_5 es_6 l5 a_17 x_18 (IntKind.wrap .i64 (x_19 + (1 : Int)))) := fixF_eq clock_Numbers.l0_k.mono _
def clock_Numbers.l0_k.I : (p : clock_Numbers.l0_k.Pt) → ((List Int) × Int) → Prop
  | .l0 y_5 es_6 a_7 a_17 x_18 x_19, r => ∀ (W : Nat → Prop) (h0 m0 h m : Heap) (bk_5 : Nat) (cs_5 : List Value) (bk_6 : Nat) (A_7 : Option Addr) (n_7 c_7 : Nat) (A_17 : Option Addr) (n_17 c_17 : Nat) (O : Hold W h0 m0 h m [rV bk_5 42 cs_5, rM (monoV0 (tell_int .i64)) (fun n : Int => Value.int .i64 n) bk_6 es_6, rR (aE (tell_int .i64)) A_7 c_7 a_7]) (e_5 : (eArr 8 (fun n : Int => Value.int .i64 n) (0 : Int)) m y_5 cs_5) (ne_7 : n_7 = List.length a_7) (ne_17 : n_17 = List.length a_17) (k_17 : List.length a_17 ≤ c_17) (r_17 : Rd 3 T_api_Event.E m A_17 a_17), f24.l0 (clock_Numbers.post W h0 m0 r) (⟨bk_5, 0, none⟩ : Addr) (Value.map (some bk_6)) A_7 n_7 c_7 A_17 n_17 c_17 x_18 x_19 h
  | .j0 y_5 es_6 a_7 y_9 x_10 a_17 x_18 x_19, r => ∀ (W : Nat → Prop) (h0 m0 h m : Heap) (bk_5 : Nat) (cs_5 : List Value) (bk_6 : Nat) (A_7 : Option Addr) (n_7 c_7 : Nat) (bk_9 : Nat) (cs_9 : List Value) (A_17 : Option Addr) (n_17 c_17 : Nat) (O : Hold W h0 m0 h m [rV bk_5 42 cs_5, rM (monoV0 (tell_int .i64)) (fun n : Int => Value.int .i64 n) bk_6 es_6, rR (aE (tell_int .i64)) A_7 c_7 a_7, rV bk_9 88 cs_9]) (e_5 : (eArr 8 (fun n : Int => Value.int .i64 n) (0 : Int)) m y_5 cs_5) (ne_7 : n_7 = List.length a_7) (e_9 : T_api_Event.E m y_9 cs_9) (ne_17 : n_17 = List.length a_17) (k_17 : List.length a_17 ≤ c_17) (r_17 : Rd 3 T_api_Event.E m A_17 a_17), f24.j0 (clock_Numbers.post W h0 m0 r) (⟨bk_5, 0, none⟩ : Addr) (Value.map (some bk_6)) A_7 n_7 c_7 (⟨bk_9, 0, none⟩ : Addr) x_10 A_17 n_17 c_17 x_18 x_19 h
  | .j1 y_5 es_6 a_7 x_10 a_17 x_18 x_19, r => ∀ (W : Nat → Prop) (h0 m0 h m : Heap) (bk_5 : Nat) (cs_5 : List Value) (bk_6 : Nat) (A_7 : Option Addr) (n_7 c_7 : Nat) (A_17 : Option Addr) (n_17 c_17 : Nat) (O : Hold W h0 m0 h m [rV bk_5 42 cs_5, rM (monoV0 (tell_int .i64)) (fun n : Int => Value.int .i64 n) bk_6 es_6, rR (aE (tell_int .i64)) A_7 c_7 a_7]) (e_5 : (eArr 8 (fun n : Int => Value.int .i64 n) (0 : Int)) m y_5 cs_5) (ne_7 : n_7 = List.length a_7) (ne_17 : n_17 = List.length a_17) (k_17 : List.length a_17 ≤ c_17) (r_17 : Rd 3 T_api_Event.E m A_17 a_17), f24.j1 (clock_Numbers.post W h0 m0 r) (⟨bk_5, 0, none⟩ : Addr) (Value.map (some bk_6)) A_7 n_7 c_7 x_10 A_17 n_17 c_17 x_18 x_19 h
set_option maxRecDepth 100000 in
theorem clock_Numbers.l0_k.step_l0 (go : (p : clock_Numbers.l0_k.Pt) → Option ((List Int) × Int)) (ih : ∀ p r, go p = some r → clock_Numbers.l0_k.I p r) (y_5 : (List Int)) (es_6 : (List (Int × Int))) (a_7 : List Int) (a_17 : List T_api_Event) (x_18 : Int) (x_19 : Int) (r : (List Int) × Int) (e : clock_Numbers.l0_k.body go (.l0 y_5 es_6 a_7 a_17 x_18 x_19) = some r) : clock_Numbers.l0_k.I (.l0 y_5 es_6 a_7 a_17 x_18 x_19) r := by
  unfold clock_Numbers.l0_k.body at e
  intro W h0 m0 h m bk_5 cs_5 bk_6 A_7 n_7 c_7 A_17 n_17 c_17 O e_5 ne_7 ne_17 k_17 r_17
  have qe_5_0 := e_5.1
  obtain rfl : cs_5 = [(Value.int .i64 (List.getD y_5 0 (0 : Int))), (Value.int .i64 (List.getD y_5 1 (0 : Int))), (Value.int .i64 (List.getD y_5 2 (0 : Int))), (Value.int .i64 (List.getD y_5 3 (0 : Int))), (Value.int .i64 (List.getD y_5 4 (0 : Int))), (Value.int .i64 (List.getD y_5 5 (0 : Int))), (Value.int .i64 (List.getD y_5 6 (0 : Int))), (Value.int .i64 (List.getD y_5 7 (0 : Int)))] := e_5.2
  subst ne_7
  subst ne_17
  refine f24.l0_in ?_
  unfold f24.l0T
  refine split_dec_e e (fun c19 e => ?_) (fun c19 e => ?_)
  · obtain ⟨y1, g2, e⟩ := bind_e e
    refine r_17.addr rfl g2 fun a3 cs4 ha5 hc6 he7 => ?_
    refine ⟨_, ldAn O.s hc6 rfl, ?_⟩
    refine O.new fun h8 x9 O10 => ?_
    refine ⟨_, rfl, (T_api_Event.T.len _ _ _ he7), ?_⟩
    refine O10.stA 3 rfl (T_api_Event.T.len _ _ _ he7) (T_api_Event.T.flat _ _ _ he7) fun h12 O13 => ?_
    refine ⟨_, ld0 (Sub.refl _) (O13.all 3 rfl) (T_api_Event.g0 he7), _, rfl, ?_⟩
    obtain ⟨y14, g15, e⟩ := bind_e e
    refine ⟨gi_le g15, gi_ltn g15 qe_5_0, ?_⟩
    refine ⟨_, ldArr0 (n := 8) (f := (fun n : Int => Value.int .i64 n)) (d := (0 : Int)) (Sub.refl _) (O13.all 0 rfl) rfl qe_5_0 g15, _, rfl, ?_⟩
    refine ⟨_, ldk (k := 1) (Sub.refl _) (O13.all 3 rfl) (T_api_Event.g1 he7), _, rfl, ?_⟩
    refine split_eq_e e (fun c18 e => ?_) (fun c18 e => ?_)
    · refine ⟨_, ldk (k := 2) (Sub.refl _) (O13.all 3 rfl) (T_api_Event.g2 he7), _, rfl, ?_⟩
      refine (O13.om 1 rfl).look (zv := (0 : Int)) (z := (Value.int .i64 (0 : Int))) (keyOk_int (key := 3) (elem := 3) (by kernel_rfl) (by kernel_rfl)) y1.Msg (by kernel_rfl) rfl (fun v16 hv17 => ?_)
      obtain rfl : v16 = (Value.int .i64 (pgd es_6 y1.Msg (0 : Int))) := (List.cons.inj (show [v16] = [(Value.int .i64 (pgd es_6 y1.Msg (0 : Int)))] from hv17)).1
      refine ⟨_, rfl, ?_⟩
      exact (ih _ _ e) _ _ _ _ _ _ _ _ _ _ _ _ _ _ _ _ (O13.pick [0, 1, 2, 3]) ⟨qe_5_0, rfl⟩ rfl he7 rfl k_17 r_17
    · exact (ih _ _ e) _ _ _ _ _ _ _ _ _ _ _ _ _ _ _ _ (O13.pick [0, 1, 2, 3]) ⟨qe_5_0, rfl⟩ rfl he7 rfl k_17 r_17
  · cases e
    exact ⟨_, _, _, _, O.pick [2], rfl, rfl⟩
set_option maxRecDepth 100000 in
theorem clock_Numbers.l0_k.step_j0 (go : (p : clock_Numbers.l0_k.Pt) → Option ((List Int) × Int)) (ih : ∀ p r, go p = some r → clock_Numbers.l0_k.I p r) (y_5 : (List Int)) (es_6 : (List (Int × Int))) (a_7 : List Int) (y_9 : T_api_Event) (x_10 : Int) (a_17 : List T_api_Event) (x_18 : Int) (x_19 : Int) (r : (List Int) × Int) (e : clock_Numbers.l0_k.body go (.j0 y_5 es_6 a_7 y_9 x_10 a_17 x_18 x_19) = some r) : clock_Numbers.l0_k.I (.j0 y_5 es_6 a_7 y_9 x_10 a_17 x_18 x_19) r := by
  unfold clock_Numbers.l0_k.body at e
  intro W h0 m0 h m bk_5 cs_5 bk_6 A_7 n_7 c_7 bk_9 cs_9 A_17 n_17 c_17 O e_5 ne_7 e_9 ne_17 k_17 r_17
  have qe_5_0 := e_5.1
  obtain rfl : cs_5 = [(Value.int .i64 (List.getD y_5 0 (0 : Int))), (Value.int .i64 (List.getD y_5 1 (0 : Int))), (Value.int .i64 (List.getD y_5 2 (0 : Int))), (Value.int .i64 (List.getD y_5 3 (0 : Int))), (Value.int .i64 (List.getD y_5 4 (0 : Int))), (Value.int .i64 (List.getD y_5 5 (0 : Int))), (Value.int .i64 (List.getD y_5 6 (0 : Int))), (Value.int .i64 (List.getD y_5 7 (0 : Int)))] := e_5.2
  subst ne_7
  subst ne_17
  refine f24.j0_in ?_
  unfold f24.j0T
  refine ⟨_, ld0 (Sub.refl _) (O.all 3 rfl) (T_api_Event.g0 e_9), _, rfl, ?_⟩
  obtain ⟨y1, g2, e⟩ := bind_e e
  refine ⟨gi_le g2, gi_ltn g2 qe_5_0, ?_⟩
  obtain ⟨l3, g4, e⟩ := bind_e e
  replace g4 := Option.some.inj g4
  have q5 : List.length l3 = 8 := by rw [← g4, List.length_set]; exact qe_5_0
  obtain ⟨h6, w7, o8, t9⟩ := (O.ob 0 rfl).stArr0 (n := 8) (f := (fun n : Int => Value.int .i64 n)) (d := (0 : Int)) (v := (IntKind.wrap .i64 (x_10 + (1 : Int)))) O.s rfl (Nat.le_of_ble_eq_true rfl) qe_5_0 g2 trivial
  rw [g4] at o8
  refine ⟨h6, w7, ?_⟩
  have O10 := O.setV 0 rfl (cs' := [(Value.int .i64 (List.getD l3 0 (0 : Int))), (Value.int .i64 (List.getD l3 1 (0 : Int))), (Value.int .i64 (List.getD l3 2 (0 : Int))), (Value.int .i64 (List.getD l3 3 (0 : Int))), (Value.int .i64 (List.getD l3 4 (0 : Int))), (Value.int .i64 (List.getD l3 5 (0 : Int))), (Value.int .i64 (List.getD l3 6 (0 : Int))), (Value.int .i64 (List.getD l3 7 (0 : Int)))]) o8 t9
  refine ⟨_, ldk (k := 1) (Sub.refl _) (O10.all 3 rfl) (T_api_Event.g1 e_9), _, rfl, ?_⟩
  refine split_eq_e e (fun c15 e => ?_) (fun c15 e => ?_)
  · refine ⟨_, ldk (k := 2) (Sub.refl _) (O10.all 3 rfl) (T_api_Event.g2 e_9), _, rfl, ?_⟩
    obtain ⟨l13, g14, e⟩ := bind_e e
    replace g14 := Option.some.inj g14
    refine O10.mapUpd (x := (IntKind.wrap .i64 (x_10 + (1 : Int)))) (v := (Value.int .i64 (IntKind.wrap .i64 (x_10 + (1 : Int))))) 1 rfl (keyOk_int (key := 3) (elem := 3) (by kernel_rfl) (by kernel_rfl)) y_9.Msg (show (eV0 (eInt .i64)) m (IntKind.wrap .i64 (x_10 + (1 : Int))) (Value.int .i64 (IntKind.wrap .i64 (x_10 + (1 : Int)))) from rfl) g14 fun h11 O12 => ?_
    exact (ih _ _ e) _ _ _ _ _ _ _ _ _ _ _ _ _ _ (O12.pick [0, 1, 2]) ⟨q5, rfl⟩ rfl rfl k_17 r_17
  · exact (ih _ _ e) _ _ _ _ _ _ _ _ _ _ _ _ _ _ (O10.pick [0, 1, 2]) ⟨q5, rfl⟩ rfl rfl k_17 r_17
set_option maxRecDepth 100000 in
theorem clock_Numbers.l0_k.step_j1 (go : (p : clock_Numbers.l0_k.Pt) → Option ((List Int) × Int)) (ih : ∀ p r, go p = some r → clock_Numbers.l0_k.I p r) (y_5 : (List Int)) (es_6 : (List (Int × Int))) (a_7 : List Int) (x_10 : Int) (a_17 : List T_api_Event) (x_18 : Int) (x_19 : Int) (r : (List Int) × Int) (e : clock_Numbers.l0_k.body go (.j1 y_5 es_6 a_7 x_10 a_17 x_18 x_19) = some r) : clock_Numbers.l0_k.I (.j1 y_5 es_6 a_7 x_10 a_17 x_18 x_19) r := by
  unfold clock_Numbers.l0_k.body at e
  intro W h0 m0 h m bk_5 cs_5 bk_6 A_7 n_7 c_7 A_17 n_17 c_17 O e_5 ne_7 ne_17 k_17 r_17
  have qe_5_0 := e_5.1
  obtain rfl : cs_5 = [(Value.int .i64 (List.getD y_5 0 (0 : Int))), (Value.int .i64 (List.getD y_5 1 (0 : Int))), (Value.int .i64 (List.getD y_5 2 (0 : Int))), (Value.int .i64 (List.getD y_5 3 (0 : Int))), (Value.int .i64 (List.getD y_5 4 (0 : Int))), (Value.int .i64 (List.getD y_5 5 (0 : Int))), (Value.int .i64 (List.getD y_5 6 (0 : Int))), (Value.int .i64 (List.getD y_5 7 (0 : Int)))] := e_5.2
  subst ne_7
  subst ne_17
  refine f24.j1_in ?_
  unfold f24.j1T
  refine O.new fun h1 x2 O3 => ?_
  obtain ⟨l5, g6, e⟩ := bind_e e
  have O13 := O3.rowE (l := ([x_10] : List Int)) 3 rfl (tell_int .i64) (show CsE _ _ _ _ _ from (CsE.cons (c1 := [(Value.int .i64 x_10)]) rfl rfl CsE.nil)) rfl
  refine O13.app 2 rfl rfl rfl ((O13.os 3 rfl).srcE rfl) (by decide) g6 fun A7 c8 h9 O10 => ?_
  refine ⟨_, _, _, rfl, ?_⟩
  exact (ih _ _ e) _ _ _ _ _ _ _ _ _ _ _ _ _ _ (O10.pick [0, 1, 2]) ⟨qe_5_0, rfl⟩ rfl rfl k_17 r_17
theorem clock_Numbers.l0_k.all {p : clock_Numbers.l0_k.Pt} {r : ((List Int) × Int)} (e : clock_Numbers.l0_k.go p = some r) : clock_Numbers.l0_k.I p r := fixF_ind (β := fun _ => ((List Int) × Int)) clock_Numbers.l0_k.mono (I := clock_Numbers.l0_k.I) (fun go ih p r e => match p with
  | .l0 y_5 es_6 a_7 a_17 x_18 x_19 => clock_Numbers.l0_k.step_l0 go ih y_5 es_6 a_7 a_17 x_18 x_19 r e
  | .j0 y_5 es_6 a_7 y_9 x_10 a_17 x_18 x_19 => clock_Numbers.l0_k.step_j0 go ih y_5 es_6 a_7 y_9 x_10 a_17 x_18 x_19 r e
  | .j1 y_5 es_6 a_7 x_10 a_17 x_18 x_19 => clock_Numbers.l0_k.step_j1 go ih y_5 es_6 a_7 x_10 a_17 x_18 x_19 r e
  ) e
theorem clock_Numbers.l0.walk {W : Nat → Prop} {h0 m0 h m : Heap} {bk_5 : Nat} {cs_5 : List Value} {bk_6 : Nat} {A_7 : Option Addr} {n_7 c_7 : Nat} {A_17 : Option Addr} {n_17 c_17 : Nat} {y_5 : (List Int)} {es_6 : (List (Int × Int))} {a_7 : List Int} {a_17 : List T_api_Event} {x_18 : Int} {x_19 : Int} (O : Hold W h0 m0 h m [rV bk_5 42 cs_5, rM (monoV0 (tell_int .i64)) (fun n : Int => Value.int .i64 n) bk_6 es_6, rR (aE (tell_int .i64)) A_7 c_7 a_7]) (e_5 : (eArr 8 (fun n : Int => Value.int .i64 n) (0 : Int)) m y_5 cs_5) (ne_7 : n_7 = List.length a_7) (ne_17 : n_17 = List.length a_17) (k_17 : List.length a_17 ≤ c_17) (r_17 : Rd 3 T_api_Event.E m A_17 a_17) {r : (List Int) × Int} (e : clock_Numbers.l0 y_5 es_6 a_7 a_17 x_18 x_19 = some r) : f24.l0 (clock_Numbers.post W h0 m0 r) (⟨bk_5, 0, none⟩ : Addr) (Value.map (some bk_6)) A_7 n_7 c_7 A_17 n_17 c_17 x_18 x_19 h := clock_Numbers.l0_k.all (p := .l0 y_5 es_6 a_7 a_17 x_18 x_19) e W h0 m0 h m bk_5 cs_5 bk_6 A_7 n_7 c_7 A_17 n_17 c_17 O e_5 ne_7 ne_17 k_17 r_17
theorem clock_Numbers.j0.walk {W : Nat → Prop} {h0 m0 h m : Heap} {bk_5 : Nat} {cs_5 : List Value} {bk_6 : Nat} {A_7 : Option Addr} {n_7 c_7 : Nat} {bk_9 : Nat} {cs_9 : List Value} {A_17 : Option Addr} {n_17 c_17 : Nat} {y_5 : (List Int)} {es_6 : (List (Int × Int))} {a_7 : List Int} {y_9 : T_api_Event} {x_10 : Int} {a_17 : List T_api_Event} {x_18 : Int} {x_19 : Int} (O : Hold W h0 m0 h m [rV bk_5 42 cs_5, rM (monoV0 (tell_int .i64)) (fun n : Int => Value.int .i64 n) bk_6 es_6, rR (aE (tell_int .i64)) A_7 c_7 a_7, rV bk_9 88 cs_9]) (e_5 : (eArr 8 (fun n : Int => Value.int .i64 n) (0 : Int)) m y_5 cs_5) (ne_7 : n_7 = List.length a_7) (e_9 : T_api_Event.E m y_9 cs_9) (ne_17 : n_17 = List.length a_17) (k_17 : List.length a_17 ≤ c_17) (r_17 : Rd 3 T_api_Event.E m A_17 a_17) {r : (List Int) × Int} (e : clock_Numbers.j0 y_5 es_6 a_7 y_9 x_10 a_17 x_18 x_19 = some r) : f24.j0 (clock_Numbers.post W h0 m0 r) (⟨bk_5, 0, none⟩ : Addr) (Value.map (some bk_6)) A_7 n_7 c_7 (⟨bk_9, 0, none⟩ : Addr) x_10 A_17 n_17 c_17 x_18 x_19 h := clock_Numbers.l0_k.all (p := .j0 y_5 es_6 a_7 y_9 x_10 a_17 x_18 x_19) e W h0 m0 h m bk_5 cs_5 bk_6 A_7 n_7 c_7 bk_9 cs_9 A_17 n_17 c_17 O e_5 ne_7 e_9 ne_17 k_17 r_17
theorem clock_Numbers.j1.walk {W : Nat → Prop} {h0 m0 h m : Heap} {bk_5 : Nat} {cs_5 : List Value} {bk_6 : Nat} {A_7 : Option Addr} {n_7 c_7 : Nat} {A_17 : Option Addr} {n_17 c_17 : Nat} {y_5 : (List Int)} {es_6 : (List (Int × Int))} {a_7 : List Int} {x_10 : Int} {a_17 : List T_api_Event} {x_18 : Int} {x_19 : Int} (O : Hold W h0 m0 h m [rV bk_5 42 cs_5, rM (monoV0 (tell_int .i64)) (fun n : Int => Value.int .i64 n) bk_6 es_6, rR (aE (tell_int .i64)) A_7 c_7 a_7]) (e_5 : (eArr 8 (fun n : Int => Value.int .i64 n) (0 : Int)) m y_5 cs_5) (ne_7 : n_7 = List.length a_7) (ne_17 : n_17 = List.length a_17) (k_17 : List.length a_17 ≤ c_17) (r_17 : Rd 3 T_api_Event.E m A_17 a_17) {r : (List Int) × Int} (e : clock_Numbers.j1 y_5 es_6 a_7 x_10 a_17 x_18 x_19 = some r) : f24.j1 (clock_Numbers.post W h0 m0 r) (⟨bk_5, 0, none⟩ : Addr) (Value.map (some bk_6)) A_7 n_7 c_7 x_10 A_17 n_17 c_17 x_18 x_19 h := clock_Numbers.l0_k.all (p := .j1 y_5 es_6 a_7 x_10 a_17 x_18 x_19) e W h0 m0 h m bk_5 cs_5 bk_6 A_7 n_7 c_7 A_17 n_17 c_17 O e_5 ne_7 ne_17 k_17 r_17

noncomputable def clock_Numbers (a_0 : List T_api_Event) : Option ((List Int) × Int) :=
  Option.bind (clock_Check a_0) fun y1 => if y1 = (0 : Int) then ((clock_Numbers.l0 (List.replicate 8 (0 : Int)) ([] : (List (Int × Int))) ([] : List Int) a_0 (((List.length a_0) : Nat) : Int) (0 : Int))) else (some (([] : List Int), y1))
set_option maxRecDepth 100000 in
theorem clock_Numbers.walk {W : Nat → Prop} {h m : Heap} {A_0 : Option Addr} {n_0 c_0 : Nat} {a_0 : List T_api_Event} (O : Hold W h m h m []) (ne_0 : n_0 = List.length a_0) (k_0 : List.length a_0 ≤ c_0) (r_0 : Rd 3 T_api_Event.E m A_0 a_0) {r : (List Int) × Int} (e : clock_Numbers a_0 = some r) : Run Try.prog 24 #[Value.slice A_0 n_0 c_0] h (clock_Numbers.post W h m r) := by
  unfold clock_Numbers at e
  subst ne_0
  refine f24.run ?_
  unfold f24.runT
  obtain ⟨y1, g2, e⟩ := bind_e e
  refine (clock_Check.walk (Hold.start (W := No) O.s) rfl k_0 r_0 g2).mono ?_
  rintro _ h3 ⟨m4, Q5, rfl⟩
  have O7 := O.retC Q5 vfs_nil
  refine ⟨_, rfl, ?_⟩
  refine split_ne_e e (fun c20 e => ?_) (fun c20 e => ?_)
  · have O8 := O7.nil (aE (tell_int .i64)) none
    cases e
    exact ⟨_, _, _, _, O8.pick [0], rfl, rfl⟩
  · refine O7.new fun h10 x11 O12 => ?_
    refine O12.mkMap (ν := Int) (monoV0 (tell_int .i64)) (fun n : Int => Value.int .i64 n) fun h14 x15 O16 => ?_
    have O18 := O16.nil (aE (tell_int .i64)) none
    exact clock_Numbers.l0.walk (O18.pick [0, 1, 2]) ⟨rfl, rfl⟩ rfl rfl k_0 r_0 e

/-! ### 25 roadstead/clock.Apart -/
def clock_Apart.post (W : Nat → Prop) (h0 m0 : Heap) (r : Int × Int) (v : Value) (h : Heap) : Prop := ∃ m , Hold W h0 m0 h m [] ∧ v = .tuple #[.int .i64 r.1, .int .i64 r.2]
inductive clock_Apart.l0_k.Pt where
  | l0 (a_4 : List (List Int)) (x_6 : Int) (x_18 : Int) (x_19 : Int)
  | l1 (a_4 : List (List Int)) (x_6 : Int) (x_7 : Int) (x_18 : Int) (x_19 : Int) (x_22 : Int) (x_23 : Int)
  | j0 (a_4 : List (List Int)) (x_6 : Int) (x_7 : Int) (x_18 : Int) (x_19 : Int) (x_22 : Int) (x_23 : Int) (b_47 : Bool)
noncomputable def clock_Apart.l0_k.body (go : (p : clock_Apart.l0_k.Pt) → Option (Int × Int)) : (p : clock_Apart.l0_k.Pt) → Option (Int × Int)
  | .l0 a_4 x_6 x_18 x_19 => if x_19 < x_18 then ((go (.l1 a_4 x_6 x_19 x_18 x_19 x_19 (0 : Int)))) else (some (x_6, (0 : Int)))
  | .l1 a_4 x_6 x_7 x_18 x_19 x_22 x_23 => if x_23 < x_22 then (Option.bind (gi a_4 x_23) fun y1 => Option.bind (gi a_4 x_7) fun y8 => Option.bind (clock_Less y1 y8) fun y15 => if y15 = true then ((go (.j0 a_4 x_6 x_7 x_18 x_19 x_22 x_23 false))) else (Option.bind (gi a_4 x_7) fun y22 => Option.bind (gi a_4 x_23) fun y29 => Option.bind (clock_Less y22 y29) fun y36 => (go (.j0 a_4 x_6 x_7 x_18 x_19 x_22 x_23 (!y36))))) else ((go (.l0 a_4 x_6 x_18 (IntKind.wrap .i64 (x_19 + (1 : Int))))))
  | .j0 a_4 x_6 x_7 x_18 x_19 x_22 x_23 b_47 => if b_47 = true then ((go (.l1 a_4 (IntKind.wrap .i64 (x_6 + (1 : Int))) x_7 x_18 x_19 x_22 (IntKind.wrap .i64 (x_23 + (1 : Int)))))) else ((go (.l1 a_4 x_6 x_7 x_18 x_19 x_22 (IntKind.wrap .i64 (x_23 + (1 : Int))))))
theorem clock_Apart.l0_k.mono : MonoF (β := fun _ => (Int × Int)) clock_Apart.l0_k.body := fun f g hfg p => match p with
  | .l0 a_4 x_6 x_18 x_19 => LeO.ite ((hfg _)) (LeO.refl _)
  | .l1 a_4 x_6 x_7 x_18 x_19 x_22 x_23 => LeO.ite (LeO.bind (LeO.refl _) fun y1 => LeO.bind (LeO.refl _) fun y8 => LeO.bind (LeO.refl _) fun y15 => LeO.ite ((hfg _)) (LeO.bind (LeO.refl _) fun y22 => LeO.bind (LeO.refl _) fun y29 => LeO.bind (LeO.refl _) fun y36 => (hfg _))) ((hfg _))
  | .j0 a_4 x_6 x_7 x_18 x_19 x_22 x_23 b_47 => LeO.ite ((hfg _)) ((hfg _))
noncomputable def clock_Apart.l0_k.go (p : clock_Apart.l0_k.Pt) : Option (Int × Int) := fixF (β := fun _ => (Int × Int)) clock_Apart.l0_k.body p
noncomputable def clock_Apart.l0 (a_4 : List (List Int)) (x_6 : Int) (x_18 : Int) (x_19 : Int) : Option (Int × Int) := clock_Apart.l0_k.go (.l0 a_4 x_6 x_18 x_19)
noncomputable def clock_Apart.l1 (a_4 : List (List Int)) (x_6 : Int) (x_7 : Int) (x_18 : Int) (x_19 : Int) (x_22 : Int) (x_23 : Int) : Option (Int × Int) := clock_Apart.l0_k.go (.l1 a_4 x_6 x_7 x_18 x_19 x_22 x_23)
noncomputable def clock_Apart.j0 (a_4 : List (List Int)) (x_6 : Int) (x_7 : Int) (x_18 : Int) (x_19 : Int) (x_22 : Int) (x_23 : Int) (b_47 : Bool) : Option (Int × Int) := clock_Apart.l0_k.go (.j0 a_4 x_6 x_7 x_18 x_19 x_22 x_23 b_47)
theorem clock_Apart.l0_eq (a_4 : List (List Int)) (x_6 : Int) (x_18 : Int) (x_19 : Int) : clock_Apart.l0 a_4 x_6 x_18 x_19 = if x_19 < x_18 then ((clock_Apart.l1 a_4 x_6 x_19 x_18 x_19 x_19 (0 : Int))) else (some (x_6, (0 : Int))) := fixF_eq clock_Apart.l0_k.mono _
theorem clock_Apart.l1_eq (a_4 : List (List Int)) (x_6 : Int) (x_7 : Int) (x_18 : Int) (x_19 : Int) (x_22 : Int) (x_23 : Int) : clock_Apart.l1 a_4 x_6 x_7 x_18 x_19 x_22 x_23 = if x_23 < x_22 then (Option.bind (gi a_4 x_23) fun y1 => Option.bind (gi a_4 x_7) fun y8 => Option.bind (clock_Less y1 y8) fun y15 => if y15 = true then ((clock_Apart.j0 a_4 x_6 x_7 x_18 x_19 x_22 x_23 false)) else (Option.bind (gi a_4 x_7) fun y22 => Option.bind (gi a_4 x_23) fun y29 => Option.bind (clock_Less y22 y29) fun y36 => (clock_Apart.j0 a_4 x_6 x_7 x_18 x_19 x_22 x_23 (!y36)))) else ((clock_Apart.l0 a_4 x_6 x_18 (IntKind.wrap .i64 (x_19 + (1 : Int))))) := fixF_eq clock_Apart.l0_k.mono _
theorem clock_Apart.j0_eq (a_4 : List (List Int)) (x_6 : Int) (x_7 : Int) (x_18 : Int) (x_19 : Int) (x_22 : Int) (x_23 : Int) (b_47 : Bool) : clock_Apart.j0 a_4 x_6 x_7 x_18 x_19 x_22 x_23 b_47 = if b_47 = true then ((clock_Apart.l1 a_4 (IntKind.wrap .i64 (x_6 + (1 : Int))) x_7 x_18 x_19 x_22 (IntKind.wrap .i64 (x_23 + (1 : Int))))) else ((clock_Apart.l1 a_4 x_6 x_7 x_18 x_19 x_22 (IntKind.wrap .i64 (x_23 + (1 : Int))))) := fixF_eq clock_Apart.l0_k.mono _
def clock_Apart.l0_k.I : (p : clock_Apart.l0_k.Pt) → (Int × Int) → Prop
  | .l0 a_4 x_6 x_18 x_19, r => ∀ (W : Nat → Prop) (h0 m0 h m : Heap) (A_4 : Option Addr) (n_4 c_4 : Nat) (O : Hold W h0 m0 h m [rR (aE (tell_row (tell_int .i64))) A_4 c_4 a_4]) (ne_4 : n_4 = List.length a_4), f25.l0 (clock_Apart.post W h0 m0 r) A_4 n_4 c_4 x_6 x_18 x_19 h
  | .l1 a_4 x_6 x_7 x_18 x_19 x_22 x_23, r => ∀ (W : Nat → Prop) (h0 m0 h m : Heap) (A_4 : Option Addr) (n_4 c_4 : Nat) (O : Hold W h0 m0 h m [rR (aE (tell_row (tell_int .i64))) A_4 c_4 a_4]) (ne_4 : n_4 = List.length a_4), f25.l1 (clock_Apart.post W h0 m0 r) A_4 n_4 c_4 x_6 x_7 x_18 x_19 x_22 x_23 h
  | .j0 a_4 x_6 x_7 x_18 x_19 x_22 x_23 b_47, r => ∀ (W : Nat → Prop) (h0 m0 h m : Heap) (A_4 : Option Addr) (n_4 c_4 : Nat) (O : Hold W h0 m0 h m [rR (aE (tell_row (tell_int .i64))) A_4 c_4 a_4]) (ne_4 : n_4 = List.length a_4), f25.j0 (clock_Apart.post W h0 m0 r) A_4 n_4 c_4 x_6 x_7 x_18 x_19 x_22 x_23 b_47 h
set_option maxRecDepth 100000 in
theorem clock_Apart.l0_k.step_l0 (go : (p : clock_Apart.l0_k.Pt) → Option (Int × Int)) (ih : ∀ p r, go p = some r → clock_Apart.l0_k.I p r) (a_4 : List (List Int)) (x_6 : Int) (x_18 : Int) (x_19 : Int) (r : Int × Int) (e : clock_Apart.l0_k.body go (.l0 a_4 x_6 x_18 x_19) = some r) : clock_Apart.l0_k.I (.l0 a_4 x_6 x_18 x_19) r := by
  unfold clock_Apart.l0_k.body at e
  intro W h0 m0 h m A_4 n_4 c_4 O ne_4
  subst ne_4
  refine f25.l0_in ?_
  unfold f25.l0T
  refine split_dec_e e (fun c1 e => ?_) (fun c1 e => ?_)
  · exact (ih _ _ e) _ _ _ _ _ _ _ _ (O.pick [0]) rfl
  · cases e
    exact ⟨_, O.pick [], rfl⟩
set_option maxRecDepth 100000 in
theorem clock_Apart.l0_k.step_l1 (go : (p : clock_Apart.l0_k.Pt) → Option (Int × Int)) (ih : ∀ p r, go p = some r → clock_Apart.l0_k.I p r) (a_4 : List (List Int)) (x_6 : Int) (x_7 : Int) (x_18 : Int) (x_19 : Int) (x_22 : Int) (x_23 : Int) (r : Int × Int) (e : clock_Apart.l0_k.body go (.l1 a_4 x_6 x_7 x_18 x_19 x_22 x_23) = some r) : clock_Apart.l0_k.I (.l1 a_4 x_6 x_7 x_18 x_19 x_22 x_23) r := by
  unfold clock_Apart.l0_k.body at e
  intro W h0 m0 h m A_4 n_4 c_4 O ne_4
  subst ne_4
  refine f25.l1_in ?_
  unfold f25.l1T
  refine split_dec_e e (fun c44 e => ?_) (fun c44 e => ?_)
  · obtain ⟨y1, g2, e⟩ := bind_e e
    refine (O.os 0 rfl).addr rfl g2 fun a3 cs4 ha5 hc6 he7 => ?_
    obtain ⟨Acs4_0, ccs4_0, rfl, kcs4_0, rcs4_0⟩ := id he7
    obtain ⟨y8, g9, e⟩ := bind_e e
    refine (O.os 0 rfl).addr rfl g9 fun a10 cs11 ha12 hc13 he14 => ?_
    obtain ⟨Acs11_0, ccs11_0, rfl, kcs11_0, rcs11_0⟩ := id he14
    refine ⟨_, ld0 (Sub.refl _) hc6 rfl, _, _, _, rfl, ?_⟩
    refine ⟨_, ld0 (Sub.refl _) hc13 rfl, _, _, _, rfl, ?_⟩
    obtain ⟨y15, g16, e⟩ := bind_e e
    refine (clock_Less.walk (Hold.start (W := No) O.s) rfl kcs4_0 rcs4_0 rfl kcs11_0 rcs11_0 g16).mono ?_
    rintro _ h17 ⟨m18, Q19, rfl⟩
    have O21 := O.retC Q19 vfs_nil
    refine ⟨_, rfl, ?_⟩
    refine ⟨Q19.S.ext, ?_⟩
    refine split_not ?_
    refine split_any_e e (fun c43 e => ?_) (fun c43 e => ?_)
    · exact (ih _ _ e) _ _ _ _ _ _ _ _ (O21.pick [0]) rfl
    · obtain ⟨y22, g23, e⟩ := bind_e e
      refine (O21.os 0 rfl).addr rfl g23 fun a24 cs25 ha26 hc27 he28 => ?_
      obtain ⟨Acs25_0, ccs25_0, rfl, kcs25_0, rcs25_0⟩ := id he28
      obtain ⟨y29, g30, e⟩ := bind_e e
      refine (O21.os 0 rfl).addr rfl g30 fun a31 cs32 ha33 hc34 he35 => ?_
      obtain ⟨Acs32_0, ccs32_0, rfl, kcs32_0, rcs32_0⟩ := id he35
      refine ⟨_, ld0 (Sub.refl _) hc27 rfl, _, _, _, rfl, ?_⟩
      refine ⟨_, ld0 (Sub.refl _) hc34 rfl, _, _, _, rfl, ?_⟩
      obtain ⟨y36, g37, e⟩ := bind_e e
      refine (clock_Less.walk (Hold.start (W := No) O21.s) rfl kcs25_0 rcs25_0 rfl kcs32_0 rcs32_0 g37).mono ?_
      rintro _ h38 ⟨m39, Q40, rfl⟩
      have O42 := O21.retC Q40 vfs_nil
      refine ⟨_, rfl, ?_⟩
      exact (ih _ _ e) _ _ _ _ _ _ _ _ (O42.pick [0]) rfl
  · exact (ih _ _ e) _ _ _ _ _ _ _ _ (O.pick [0]) rfl
set_option maxRecDepth 100000 in
theorem clock_Apart.l0_k.step_j0 (go : (p : clock_Apart.l0_k.Pt) → Option (Int × Int)) (ih : ∀ p r, go p = some r → clock_Apart.l0_k.I p r) (a_4 : List (List Int)) (x_6 : Int) (x_7 : Int) (x_18 : Int) (x_19 : Int) (x_22 : Int) (x_23 : Int) (b_47 : Bool) (r : Int × Int) (e : clock_Apart.l0_k.body go (.j0 a_4 x_6 x_7 x_18 x_19 x_22 x_23 b_47) = some r) : clock_Apart.l0_k.I (.j0 a_4 x_6 x_7 x_18 x_19 x_22 x_23 b_47) r := by
  unfold clock_Apart.l0_k.body at e
  intro W h0 m0 h m A_4 n_4 c_4 O ne_4
  subst ne_4
  refine f25.j0_in ?_
  unfold f25.j0T
  refine split_any_e e (fun c1 e => ?_) (fun c1 e => ?_)
  · exact (ih _ _ e) _ _ _ _ _ _ _ _ (O.pick [0]) rfl
  · exact (ih _ _ e) _ _ _ _ _ _ _ _ (O.pick [0]) rfl
theorem clock_Apart.l0_k.all {p : clock_Apart.l0_k.Pt} {r : (Int × Int)} (e : clock_Apart.l0_k.go p = some r) : clock_Apart.l0_k.I p r := fixF_ind (β := fun _ => (Int × Int)) clock_Apart.l0_k.mono (I := clock_Apart.l0_k.I) (fun go ih p r e => match p with
  | .l0 a_4 x_6 x_18 x_19 => clock_Apart.l0_k.step_l0 go ih a_4 x_6 x_18 x_19 r e
  | .l1 a_4 x_6 x_7 x_18 x_19 x_22 x_23 => clock_Apart.l0_k.step_l1 go ih a_4 x_6 x_7 x_18 x_19 x_22 x_23 r e
  | .j0 a_4 x_6 x_7 x_18 x_19 x_22 x_23 b_47 => clock_Apart.l0_k.step_j0 go ih a_4 x_6 x_7 x_18 x_19 x_22 x_23 b_47 r e
  ) e
theorem clock_Apart.l0.walk {W : Nat → Prop} {h0 m0 h m : Heap} {A_4 : Option Addr} {n_4 c_4 : Nat} {a_4 : List (List Int)} {x_6 : Int} {x_18 : Int} {x_19 : Int} (O : Hold W h0 m0 h m [rR (aE (tell_row (tell_int .i64))) A_4 c_4 a_4]) (ne_4 : n_4 = List.length a_4) {r : Int × Int} (e : clock_Apart.l0 a_4 x_6 x_18 x_19 = some r) : f25.l0 (clock_Apart.post W h0 m0 r) A_4 n_4 c_4 x_6 x_18 x_19 h := clock_Apart.l0_k.all (p := .l0 a_4 x_6 x_18 x_19) e W h0 m0 h m A_4 n_4 c_4 O ne_4
theorem clock_Apart.l1.walk {W : Nat → Prop} {h0 m0 h m : Heap} {A_4 : Option Addr} {n_4 c_4 : Nat} {a_4 : List (List Int)} {x_6 : Int} {x_7 : Int} {x_18 : Int} {x_19 : Int} {x_22 : Int} {x_23 : Int} (O : Hold W h0 m0 h m [rR (aE (tell_row (tell_int .i64))) A_4 c_4 a_4]) (ne_4 : n_4 = List.length a_4) {r : Int × Int} (e : clock_Apart.l1 a_4 x_6 x_7 x_18 x_19 x_22 x_23 = some r) : f25.l1 (clock_Apart.post W h0 m0 r) A_4 n_4 c_4 x_6 x_7 x_18 x_19 x_22 x_23 h := clock_Apart.l0_k.all (p := .l1 a_4 x_6 x_7 x_18 x_19 x_22 x_23) e W h0 m0 h m A_4 n_4 c_4 O ne_4
theorem clock_Apart.j0.walk {W : Nat → Prop} {h0 m0 h m : Heap} {A_4 : Option Addr} {n_4 c_4 : Nat} {a_4 : List (List Int)} {x_6 : Int} {x_7 : Int} {x_18 : Int} {x_19 : Int} {x_22 : Int} {x_23 : Int} {b_47 : Bool} (O : Hold W h0 m0 h m [rR (aE (tell_row (tell_int .i64))) A_4 c_4 a_4]) (ne_4 : n_4 = List.length a_4) {r : Int × Int} (e : clock_Apart.j0 a_4 x_6 x_7 x_18 x_19 x_22 x_23 b_47 = some r) : f25.j0 (clock_Apart.post W h0 m0 r) A_4 n_4 c_4 x_6 x_7 x_18 x_19 x_22 x_23 b_47 h := clock_Apart.l0_k.all (p := .j0 a_4 x_6 x_7 x_18 x_19 x_22 x_23 b_47) e W h0 m0 h m A_4 n_4 c_4 O ne_4

noncomputable def clock_Apart (a_0 : List T_api_Event) : Option (Int × Int) :=
  Option.bind (clock_Clocks a_0) fun y1 => if y1.2 = (0 : Int) then ((clock_Apart.l0 y1.1 (0 : Int) (((List.length y1.1) : Nat) : Int) (0 : Int))) else (some ((0 : Int), y1.2))
set_option maxRecDepth 100000 in
theorem clock_Apart.walk {W : Nat → Prop} {h m : Heap} {A_0 : Option Addr} {n_0 c_0 : Nat} {a_0 : List T_api_Event} (O : Hold W h m h m []) (ne_0 : n_0 = List.length a_0) (k_0 : List.length a_0 ≤ c_0) (r_0 : Rd 3 T_api_Event.E m A_0 a_0) {r : Int × Int} (e : clock_Apart a_0 = some r) : Run Try.prog 25 #[Value.slice A_0 n_0 c_0] h (clock_Apart.post W h m r) := by
  unfold clock_Apart at e
  subst ne_0
  refine f25.run ?_
  unfold f25.runT
  obtain ⟨y1, g2, e⟩ := bind_e e
  refine (clock_Clocks.walk (Hold.start (W := No) O.s) rfl k_0 r_0 g2).mono ?_
  rintro _ h3 ⟨m4, A7, n8, c9, Q5, rfl, ne10⟩
  have O12 := O.ret Q5
  subst ne10
  refine ⟨_, _, _, _, rfl, ?_⟩
  refine split_ne_e e (fun c13 e => ?_) (fun c13 e => ?_)
  · cases e
    exact ⟨_, O12.pick [], rfl⟩
  · exact clock_Apart.l0.walk (O12.pick [0]) rfl e

/-! ### 104 slices.IndexFunc[[]roadstead/api.Event,roadstead/api.Event] -/
def slices_IndexFunc_104.post (W : Nat → Prop) (h0 m0 : Heap) (r : Int) (v : Value) (h : Heap) : Prop := ∃ m , Hold W h0 m0 h m [] ∧ v = .int .i64 r
inductive slices_IndexFunc_104.l0_k.Pt where
  | l0 (a_0 : List T_api_Event) (p_1 : T_api_Event → Option Bool) (x_7 : Int) (x_8 : Int)
noncomputable def slices_IndexFunc_104.l0_k.body (go : (p : slices_IndexFunc_104.l0_k.Pt) → Option (Int)) : (p : slices_IndexFunc_104.l0_k.Pt) → Option (Int)
  | .l0 a_0 p_1 x_7 x_8 => if x_8 < x_7 then (Option.bind (gi a_0 x_8) fun y1 => Option.bind (p_1 y1) fun y8 => if y8 = true then (some (x_8)) else ((go (.l0 a_0 p_1 x_7 (IntKind.wrap .i64 (x_8 + (1 : Int))))))) else (some ((-1 : Int)))
theorem slices_IndexFunc_104.l0_k.mono : MonoF (β := fun _ => (Int)) slices_IndexFunc_104.l0_k.body := fun f g hfg p => match p with
  | .l0 a_0 p_1 x_7 x_8 => LeO.ite (LeO.bind (LeO.refl _) fun y1 => LeO.bind (LeO.refl _) fun y8 => LeO.ite (LeO.refl _) ((hfg _))) (LeO.refl _)
noncomputable def slices_IndexFunc_104.l0_k.go (p : slices_IndexFunc_104.l0_k.Pt) : Option (Int) := fixF (β := fun _ => (Int)) slices_IndexFunc_104.l0_k.body p
noncomputable def slices_IndexFunc_104.l0 (a_0 : List T_api_Event) (p_1 : T_api_Event → Option Bool) (x_7 : Int) (x_8 : Int) : Option (Int) := slices_IndexFunc_104.l0_k.go (.l0 a_0 p_1 x_7 x_8)
theorem slices_IndexFunc_104.l0_eq (a_0 : List T_api_Event) (p_1 : T_api_Event → Option Bool) (x_7 : Int) (x_8 : Int) : slices_IndexFunc_104.l0 a_0 p_1 x_7 x_8 = if x_8 < x_7 then (Option.bind (gi a_0 x_8) fun y1 => Option.bind (p_1 y1) fun y8 => if y8 = true then (some (x_8)) else ((slices_IndexFunc_104.l0 a_0 p_1 x_7 (IntKind.wrap .i64 (x_8 + (1 : Int)))))) else (some ((-1 : Int))) := fixF_eq slices_IndexFunc_104.l0_k.mono _
def slices_IndexFunc_104.l0_k.I : (p : slices_IndexFunc_104.l0_k.Pt) → (Int) → Prop
  | .l0 a_0 p_1 x_7 x_8, r => ∀ (W : Nat → Prop) (h0 m0 h m : Heap) (A_0 : Option Addr) (n_0 c_0 : Nat) (fv_1 : Value) (O : Hold W h0 m0 h m []) (ne_0 : n_0 = List.length a_0) (k_0 : List.length a_0 ≤ c_0) (r_0 : Rd 3 T_api_Event.E m A_0 a_0) (f_1 : ∀ h' m', Sub m0 m' → Sub m' h' → ∀ (y0 : T_api_Event) (cs0 : List Value) (_ : T_api_Event.E m' y0 cs0) (r : Bool), p_1 y0 = some r → CallF Try.prog fv_1 [.agg cs0.toArray] h' (fun v h'' => v = .bool r ∧ Ext h' h'')), f104.l0 (slices_IndexFunc_104.post W h0 m0 r) A_0 n_0 c_0 fv_1 x_7 x_8 h
set_option maxRecDepth 100000 in
theorem slices_IndexFunc_104.l0_k.step_l0 (go : (p : slices_IndexFunc_104.l0_k.Pt) → Option (Int)) (ih : ∀ p r, go p = some r → slices_IndexFunc_104.l0_k.I p r) (a_0 : List T_api_Event) (p_1 : T_api_Event → Option Bool) (x_7 : Int) (x_8 : Int) (r : Int) (e : slices_IndexFunc_104.l0_k.body go (.l0 a_0 p_1 x_7 x_8) = some r) : slices_IndexFunc_104.l0_k.I (.l0 a_0 p_1 x_7 x_8) r := by
  unfold slices_IndexFunc_104.l0_k.body at e
  intro W h0 m0 h m A_0 n_0 c_0 fv_1 O ne_0 k_0 r_0 f_1
  subst ne_0
  refine f104.l0_in ?_
  unfold f104.l0T
  refine split_dec_e e (fun c14 e => ?_) (fun c14 e => ?_)
  · obtain ⟨y1, g2, e⟩ := bind_e e
    refine r_0.addr rfl g2 fun a3 cs4 ha5 hc6 he7 => ?_
    refine ⟨_, ldAn O.s hc6 rfl, ?_⟩
    obtain ⟨y8, g9, e⟩ := bind_e e
    refine CallF.mono (f_1 _ _ O.up O.s _ _ he7 _ g9) ?_
    rintro _ h10 ⟨rfl, x11⟩
    have O12 := O.ext x11
    refine ⟨_, rfl, ?_⟩
    refine split_any_e e (fun c13 e => ?_) (fun c13 e => ?_)
    · cases e
      exact ⟨_, O12.pick [], rfl⟩
    · exact (ih _ _ e) _ _ _ _ _ _ _ _ _ (O12.pick []) rfl k_0 r_0 f_1
  · cases e
    exact ⟨_, O.pick [], rfl⟩
theorem slices_IndexFunc_104.l0_k.all {p : slices_IndexFunc_104.l0_k.Pt} {r : (Int)} (e : slices_IndexFunc_104.l0_k.go p = some r) : slices_IndexFunc_104.l0_k.I p r := fixF_ind (β := fun _ => (Int)) slices_IndexFunc_104.l0_k.mono (I := slices_IndexFunc_104.l0_k.I) (fun go ih p r e => match p with
  | .l0 a_0 p_1 x_7 x_8 => slices_IndexFunc_104.l0_k.step_l0 go ih a_0 p_1 x_7 x_8 r e
  ) e
theorem slices_IndexFunc_104.l0.walk {W : Nat → Prop} {h0 m0 h m : Heap} {A_0 : Option Addr} {n_0 c_0 : Nat} {fv_1 : Value} {a_0 : List T_api_Event} {p_1 : T_api_Event → Option Bool} {x_7 : Int} {x_8 : Int} (O : Hold W h0 m0 h m []) (ne_0 : n_0 = List.length a_0) (k_0 : List.length a_0 ≤ c_0) (r_0 : Rd 3 T_api_Event.E m A_0 a_0) (f_1 : ∀ h' m', Sub m0 m' → Sub m' h' → ∀ (y0 : T_api_Event) (cs0 : List Value) (_ : T_api_Event.E m' y0 cs0) (r : Bool), p_1 y0 = some r → CallF Try.prog fv_1 [.agg cs0.toArray] h' (fun v h'' => v = .bool r ∧ Ext h' h'')) {r : Int} (e : slices_IndexFunc_104.l0 a_0 p_1 x_7 x_8 = some r) : f104.l0 (slices_IndexFunc_104.post W h0 m0 r) A_0 n_0 c_0 fv_1 x_7 x_8 h := slices_IndexFunc_104.l0_k.all (p := .l0 a_0 p_1 x_7 x_8) e W h0 m0 h m A_0 n_0 c_0 fv_1 O ne_0 k_0 r_0 f_1

noncomputable def slices_IndexFunc_104 (a_0 : List T_api_Event) (p_1 : T_api_Event → Option Bool) : Option (Int) :=
  (slices_IndexFunc_104.l0 a_0 p_1 (((List.length a_0) : Nat) : Int) (0 : Int))
set_option maxRecDepth 100000 in
theorem slices_IndexFunc_104.walk {W : Nat → Prop} {h m : Heap} {A_0 : Option Addr} {n_0 c_0 : Nat} {fv_1 : Value} {a_0 : List T_api_Event} {p_1 : T_api_Event → Option Bool} (O : Hold W h m h m []) (ne_0 : n_0 = List.length a_0) (k_0 : List.length a_0 ≤ c_0) (r_0 : Rd 3 T_api_Event.E m A_0 a_0) (f_1 : ∀ h' m', Sub m m' → Sub m' h' → ∀ (y0 : T_api_Event) (cs0 : List Value) (_ : T_api_Event.E m' y0 cs0) (r : Bool), p_1 y0 = some r → CallF Try.prog fv_1 [.agg cs0.toArray] h' (fun v h'' => v = .bool r ∧ Ext h' h'')) {r : Int} (e : slices_IndexFunc_104 a_0 p_1 = some r) : Run Try.prog 104 #[Value.slice A_0 n_0 c_0, fv_1] h (slices_IndexFunc_104.post W h m r) := by
  unfold slices_IndexFunc_104 at e
  subst ne_0
  refine f104.run ?_
  unfold f104.runT
  exact slices_IndexFunc_104.l0.walk (O.pick []) rfl k_0 r_0 f_1 e
theorem slices_IndexFunc_104.val {l : List T_api_Event} {p : T_api_Event → Option Bool} (q : T_api_Event → Bool) (hp : ∀ x ∈ l, p x = some (q x)) (hl : l.length ≤ 4611686018427387904) : slices_IndexFunc_104 l p = some (idxOf q l) := find_val (fun a p n i => slices_IndexFunc_104.l0_eq a p n i) q hp hl

/-! ### 79 slices.ContainsFunc[[]roadstead/api.Event,roadstead/api.Event] -/
def slices_ContainsFunc_79.post (W : Nat → Prop) (h0 m0 : Heap) (r : Bool) (v : Value) (h : Heap) : Prop := ∃ m , Hold W h0 m0 h m [] ∧ v = .bool r
noncomputable def slices_ContainsFunc_79 (a_0 : List T_api_Event) (p_1 : T_api_Event → Option Bool) : Option (Bool) :=
  Option.bind (slices_IndexFunc_104 a_0 p_1) fun y1 => some ((decide (y1 ≥ (0 : Int))))
set_option maxRecDepth 100000 in
theorem slices_ContainsFunc_79.walk {W : Nat → Prop} {h m : Heap} {A_0 : Option Addr} {n_0 c_0 : Nat} {fv_1 : Value} {a_0 : List T_api_Event} {p_1 : T_api_Event → Option Bool} (O : Hold W h m h m []) (ne_0 : n_0 = List.length a_0) (k_0 : List.length a_0 ≤ c_0) (r_0 : Rd 3 T_api_Event.E m A_0 a_0) (f_1 : ∀ h' m', Sub m m' → Sub m' h' → ∀ (y0 : T_api_Event) (cs0 : List Value) (_ : T_api_Event.E m' y0 cs0) (r : Bool), p_1 y0 = some r → CallF Try.prog fv_1 [.agg cs0.toArray] h' (fun v h'' => v = .bool r ∧ Ext h' h'')) {r : Bool} (e : slices_ContainsFunc_79 a_0 p_1 = some r) : Run Try.prog 79 #[Value.slice A_0 n_0 c_0, fv_1] h (slices_ContainsFunc_79.post W h m r) := by
  unfold slices_ContainsFunc_79 at e
  subst ne_0
  refine f79.run ?_
  unfold f79.runT
  obtain ⟨y1, g2, e⟩ := bind_e e
  refine (slices_IndexFunc_104.walk (Hold.start (W := No) O.s) rfl k_0 r_0 f_1 g2).mono ?_
  rintro _ h3 ⟨m4, Q5, rfl⟩
  have O7 := O.retC Q5 vfs_nil
  refine ⟨_, rfl, ?_⟩
  cases e
  exact ⟨_, O7.pick [], rfl⟩
theorem slices_ContainsFunc_79.val {l : List T_api_Event} {p : T_api_Event → Option Bool} (q : T_api_Event → Bool) (hp : ∀ x ∈ l, p x = some (q x)) (hl : l.length ≤ 4611686018427387904) : slices_ContainsFunc_79 l p = some (l.any q) := findB_val (fun a p n i => slices_IndexFunc_104.l0_eq a p n i) (fun _ _ => rfl) (fun _ _ => rfl) q hp hl

/-! ### 80 roadstead/roadref4.History$1$1 -/
def roadref4_History_1_1.post (W : Nat → Prop) (h0 m0 : Heap) (r : Bool) (v : Value) (h : Heap) : Prop := ∃ m , Hold W h0 m0 h m [] ∧ v = .bool r
noncomputable def roadref4_History_1_1 (y_0 : T_api_Event) (y_1 : Int) (y_2 : T_api_Event) : Option (Bool) :=
  if y_0.Kind = y_1 then (some ((y_0.Msg == y_2.Msg))) else (some (false))
set_option maxRecDepth 100000 in
theorem roadref4_History_1_1.walk {W : Nat → Prop} {h m : Heap} {cs_0 : List Value} {bk_1 : Nat} {bk_2 : Nat} {y_0 : T_api_Event} {y_1 : Int} {y_2 : T_api_Event} (O : Hold W h m h m []) (e_0 : T_api_Event.E m y_0 cs_0) (v_1 : VB (eInt .i64) m bk_1 y_1) (v_2 : VB T_api_Event.E m bk_2 y_2) {r : Bool} (e : roadref4_History_1_1 y_0 y_1 y_2 = some r) : Run Try.prog 80 #[Value.agg cs_0.toArray, Value.pointer (some ⟨bk_1, 0, none⟩), Value.pointer (some ⟨bk_2, 0, none⟩)] h (roadref4_History_1_1.post W h m r) := by
  unfold roadref4_History_1_1 at e
  obtain ⟨cs_1, t_1, hb_1, nn_1, e_1⟩ := id v_1
  obtain rfl : cs_1 = [(Value.int .i64 y_1)] := e_1
  obtain ⟨cs_2, t_2, hb_2, nn_2, e_2⟩ := id v_2
  refine f80.run ?_
  unfold f80.runT
  refine O.new fun h1 x2 O3 => ?_
  refine ⟨_, ldk (k := 1) (Sub.refl _) (O3.all 0 rfl) (T_api_Event.g1 e_0), _, rfl, ?_⟩
  refine ⟨_, ld0 O3.s (Blk.all' hb_1) rfl, _, rfl, ?_⟩
  refine split_eq_e e (fun c5 e => ?_) (fun c5 e => ?_)
  · refine ⟨_, ldk (k := 2) (Sub.refl _) (O3.all 0 rfl) (T_api_Event.g2 e_0), _, rfl, ?_⟩
    refine ⟨_, ldk (k := 2) O3.s (Blk.all' hb_2) (T_api_Event.g2 e_2), _, rfl, ?_⟩
    cases e
    exact ⟨_, O3.pick [], rfl⟩
  · cases e
    exact ⟨_, O3.pick [], rfl⟩

/-! ### 78 roadstead/roadref4.History$1 -/
def roadref4_History_1.post (W : Nat → Prop) (h0 m0 : Heap) (r : Bool) (v : Value) (h : Heap) : Prop := ∃ m , Hold W h0 m0 h m [] ∧ v = .bool r
noncomputable def roadref4_History_1 (x_0 : Int) (y_1 : (List T_api_Event)) (y_2 : Int) (y_3 : T_api_Event) : Option (Bool) :=
  Option.bind (sls y_1 (0 : Int) y_2) fun l5 => Option.bind (slices_ContainsFunc_79 l5 (fun z22 => roadref4_History_1_1 z22 x_0 y_3)) fun y10 => some (y10)
set_option maxRecDepth 100000 in
theorem roadref4_History_1.walk {W : Nat → Prop} {h m : Heap} {bk_1 : Nat} {bk_2 : Nat} {bk_3 : Nat} {x_0 : Int} {y_1 : (List T_api_Event)} {y_2 : Int} {y_3 : T_api_Event} (O : Hold W h m h m []) (v_1 : VB (eRow 3 T_api_Event.E) m bk_1 y_1) (v_2 : VB (eInt .i64) m bk_2 y_2) (v_3 : VB T_api_Event.E m bk_3 y_3) {r : Bool} (e : roadref4_History_1 x_0 y_1 y_2 y_3 = some r) : Run Try.prog 78 #[Value.int .i64 x_0, Value.pointer (some ⟨bk_1, 0, none⟩), Value.pointer (some ⟨bk_2, 0, none⟩), Value.pointer (some ⟨bk_3, 0, none⟩)] h (roadref4_History_1.post W h m r) := by
  unfold roadref4_History_1 at e
  obtain ⟨cs_1, t_1, hb_1, nn_1, e_1⟩ := id v_1
  obtain ⟨Ae_1_0, ce_1_0, rfl, ke_1_0, re_1_0⟩ := id e_1
  obtain ⟨cs_2, t_2, hb_2, nn_2, e_2⟩ := id v_2
  obtain rfl : cs_2 = [(Value.int .i64 y_2)] := e_2
  obtain ⟨cs_3, t_3, hb_3, nn_3, e_3⟩ := id v_3
  refine f78.run ?_
  unfold f78.runT
  refine O.new fun h1 x2 O3 => ?_
  refine ⟨_, ld0 O3.s (Blk.all' hb_1) rfl, _, _, _, rfl, ?_⟩
  refine ⟨_, ld0 O3.s (Blk.all' hb_2) rfl, _, rfl, ?_⟩
  obtain ⟨l5, g6, e⟩ := bind_e e
  have q7 := sls_e g6
  refine ⟨q7.1, q7.2.1, cap_in q7.2.2.1 ke_1_0, ?_⟩
  try rw [q7.2.2.2.1]
  have k8 : List.length l5 ≤ (ce_1_0 - Int.toNat (0 : Int)) := sls_cap g6 ke_1_0
  have r9 := re_1_0.sls g6 (le_mx q7.2.2.1 ke_1_0)
  obtain ⟨y10, g11, e⟩ := bind_e e
  obtain ⟨m16, u17, s21, ⟨hb20, _⟩, B18, C19⟩ := O3.lend0 [0]
  refine (slices_ContainsFunc_79.walk (Hold.start (W := No) s21) rfl k8 (r9.sub T_api_Event.T u17) (fun h23 m24 u25 s26 y29 cs29 he29 r27 e28 => CallF.of [Value.agg cs29.toArray, Value.pointer (some ⟨(Array.size h), 0, none⟩), Value.pointer (some ⟨bk_3, 0, none⟩)] f80.ok rfl ((roadref4_History_1_1.walk (Hold.start (W := No) s26) he29 (VB.sub (show VB (eInt .i64) _ _ _ from ⟨_, _, hb20, nn, rfl⟩) (tell_int .i64) u25) (VB.sub (v_3.sub T_api_Event.T u17) T_api_Event.T u25) e28).mono (fun _ _ h => let ⟨_, t, e⟩ := h; ⟨e, t.S.ext⟩))) g11).mono ?_
  rintro _ h12 ⟨m13, Q14, rfl⟩
  have O30 := C19 Q14 vfs_nil
  refine ⟨_, rfl, ?_⟩
  cases e
  exact ⟨_, O30.pick [], rfl⟩

/-! ### 81 roadstead/roadref4.within -/
def roadref4_within.post (W : Nat → Prop) (h0 m0 : Heap) (r : Bool) (v : Value) (h : Heap) : Prop := ∃ m , Hold W h0 m0 h m [] ∧ v = .bool r
noncomputable def roadref4_within (x_0 : Int) (x_1 : Int) (x_2 : Int) : Option (Bool) :=
  if x_0 ≥ x_1 then (some ((decide (x_0 ≤ x_2)))) else (some (false))
set_option maxRecDepth 100000 in
theorem roadref4_within.walk {W : Nat → Prop} {h m : Heap} {x_0 : Int} {x_1 : Int} {x_2 : Int} (O : Hold W h m h m []) {r : Bool} (e : roadref4_within x_0 x_1 x_2 = some r) : Run Try.prog 81 #[Value.int .i64 x_0, Value.int .i64 x_1, Value.int .i64 x_2] h (roadref4_within.post W h m r) := by
  unfold roadref4_within at e
  refine f81.run ?_
  unfold f81.runT
  refine split_dec_e e (fun c1 e => ?_) (fun c1 e => ?_)
  · cases e
    exact ⟨_, O.pick [], rfl⟩
  · cases e
    exact ⟨_, O.pick [], rfl⟩

/-! ### 26 roadstead/roadref4.History -/
def roadref4_History.post (W : Nat → Prop) (h0 m0 : Heap) (r : Int) (v : Value) (h : Heap) : Prop := ∃ m , Hold W h0 m0 h m [] ∧ v = .int .i64 r
inductive roadref4_History.l0_k.Pt where
  | l0 (y_1 : (List T_api_Event)) (a_9 : List T_api_Event) (x_10 : Int) (x_11 : Int)
  | j0 (y_1 : (List T_api_Event)) (y_4 : T_api_Event) (y_5_c_1 : Int) (a_9 : List T_api_Event) (x_10 : Int) (x_11 : Int) (b_22 : Bool)
  | j1 (y_1 : (List T_api_Event)) (y_4 : T_api_Event) (y_5_c_1 : Int) (a_9 : List T_api_Event) (x_10 : Int) (x_11 : Int) (b_36 : Bool)
  | j2 (y_1 : (List T_api_Event)) (y_4 : T_api_Event) (y_5_c_1 : Int) (a_9 : List T_api_Event) (x_10 : Int) (x_11 : Int) (b_44 : Bool)
noncomputable def roadref4_History.l0_k.body (go : (p : roadref4_History.l0_k.Pt) → Option (Int)) : (p : roadref4_History.l0_k.Pt) → Option (Int)
  | .l0 y_1 a_9 x_10 x_11 => if x_11 < x_10 then (Option.bind (gi a_9 x_11) fun y1 => Option.bind (roadref4_within y1.Kind (1 : Int) (3 : Int)) fun y20 => if y20 = true then (Option.bind (roadref4_within y1.Place (0 : Int) (7 : Int)) fun y27 => if y27 = true then (if y1.Kind > (1 : Int) then (Option.bind (roadref4_within y1.Msg (0 : Int) (999 : Int)) fun y34 => (go (.j0 y_1 y1 x_11 a_9 x_10 x_11 (!y34)))) else ((go (.j0 y_1 y1 x_11 a_9 x_10 x_11 false)))) else ((go (.j0 y_1 y1 x_11 a_9 x_10 x_11 (!y27))))) else (some ((3 : Int)))) else (some ((0 : Int)))
  | .j0 y_1 y_4 y_5_c_1 a_9 x_10 x_11 b_22 => if b_22 = true then (some ((1 : Int))) else (if y_4.Kind = (2 : Int) then (Option.bind (roadref4_History_1 (2 : Int) y_1 y_5_c_1 y_4) fun y1 => (go (.j1 y_1 y_4 y_5_c_1 a_9 x_10 x_11 y1))) else ((go (.j1 y_1 y_4 y_5_c_1 a_9 x_10 x_11 false))))
  | .j1 y_1 y_4 y_5_c_1 a_9 x_10 x_11 b_36 => if b_36 = true then (some ((5 : Int))) else (if y_4.Kind = (3 : Int) then (Option.bind (roadref4_History_1 (2 : Int) y_1 y_5_c_1 y_4) fun y1 => (go (.j2 y_1 y_4 y_5_c_1 a_9 x_10 x_11 (!y1)))) else ((go (.j2 y_1 y_4 y_5_c_1 a_9 x_10 x_11 false))))
  | .j2 y_1 y_4 y_5_c_1 a_9 x_10 x_11 b_44 => if b_44 = true then (some ((4 : Int))) else (if y_4.Kind = (3 : Int) then (Option.bind (roadref4_History_1 (3 : Int) y_1 y_5_c_1 y_4) fun y1 => if y1 = true then (some ((5 : Int))) else ((go (.l0 y_1 a_9 x_10 (IntKind.wrap .i64 (x_11 + (1 : Int))))))) else ((go (.l0 y_1 a_9 x_10 (IntKind.wrap .i64 (x_11 + (1 : Int)))))))
theorem roadref4_History.l0_k.mono : MonoF (β := fun _ => (Int)) roadref4_History.l0_k.body := fun f g hfg p => match p with
  | .l0 y_1 a_9 x_10 x_11 => LeO.ite (LeO.bind (LeO.refl _) fun y1 => LeO.bind (LeO.refl _) fun y20 => LeO.ite (LeO.bind (LeO.refl _) fun y27 => LeO.ite (LeO.ite (LeO.bind (LeO.refl _) fun y34 => (hfg _)) ((hfg _))) ((hfg _))) (LeO.refl _)) (LeO.refl _)
  | .j0 y_1 y_4 y_5_c_1 a_9 x_10 x_11 b_22 => LeO.ite (LeO.refl _) (LeO.ite (LeO.bind (LeO.refl _) fun y1 => (hfg _)) ((hfg _)))
  | .j1 y_1 y_4 y_5_c_1 a_9 x_10 x_11 b_36 => LeO.ite (LeO.refl _) (LeO.ite (LeO.bind (LeO.refl _) fun y1 => (hfg _)) ((hfg _)))
  | .j2 y_1 y_4 y_5_c_1 a_9 x_10 x_11 b_44 => LeO.ite (LeO.refl _) (LeO.ite (LeO.bind (LeO.refl _) fun y1 => LeO.ite (LeO.refl _) ((hfg _))) ((hfg _)))
noncomputable def roadref4_History.l0_k.go (p : roadref4_History.l0_k.Pt) : Option (Int) := fixF (β := fun _ => (Int)) roadref4_History.l0_k.body p
noncomputable def roadref4_History.l0 (y_1 : (List T_api_Event)) (a_9 : List T_api_Event) (x_10 : Int) (x_11 : Int) : Option (Int) := roadref4_History.l0_k.go (.l0 y_1 a_9 x_10 x_11)
noncomputable def roadref4_History.j0 (y_1 : (List T_api_Event)) (y_4 : T_api_Event) (y_5_c_1 : Int) (a_9 : List T_api_Event) (x_10 : Int) (x_11 : Int) (b_22 : Bool) : Option (Int) := roadref4_History.l0_k.go (.j0 y_1 y_4 y_5_c_1 a_9 x_10 x_11 b_22)
noncomputable def roadref4_History.j1 (y_1 : (List T_api_Event)) (y_4 : T_api_Event) (y_5_c_1 : Int) (a_9 : List T_api_Event) (x_10 : Int) (x_11 : Int) (b_36 : Bool) : Option (Int) := roadref4_History.l0_k.go (.j1 y_1 y_4 y_5_c_1 a_9 x_10 x_11 b_36)
noncomputable def roadref4_History.j2 (y_1 : (List T_api_Event)) (y_4 : T_api_Event) (y_5_c_1 : Int) (a_9 : List T_api_Event) (x_10 : Int) (x_11 : Int) (b_44 : Bool) : Option (Int) := roadref4_History.l0_k.go (.j2 y_1 y_4 y_5_c_1 a_9 x_10 x_11 b_44)
theorem roadref4_History.l0_eq (y_1 : (List T_api_Event)) (a_9 : List T_api_Event) (x_10 : Int) (x_11 : Int) : roadref4_History.l0 y_1 a_9 x_10 x_11 = if x_11 < x_10 then (Option.bind (gi a_9 x_11) fun y1 => Option.bind (roadref4_within y1.Kind (1 : Int) (3 : Int)) fun y20 => if y20 = true then (Option.bind (roadref4_within y1.Place (0 : Int) (7 : Int)) fun y27 => if y27 = true then (if y1.Kind > (1 : Int) then (Option.bind (roadref4_within y1.Msg (0 : Int) (999 : Int)) fun y34 => (roadref4_History.j0 y_1 y1 x_11 a_9 x_10 x_11 (!y34))) else ((roadref4_History.j0 y_1 y1 x_11 a_9 x_10 x_11 false))) else ((roadref4_History.j0 y_1 y1 x_11 a_9 x_10 x_11 (!y27)))) else (some ((3 : Int)))) else (some ((0 : Int))) := fixF_eq roadref4_History.l0_k.mono _
theorem roadref4_History.j0_eq (y_1 : (List T_api_Event)) (y_4 : T_api_Event) (y_5_c_1 : Int) (a_9 : List T_api_Event) (x_10 : Int) (x_11 : Int) (b_22 : Bool) : roadref4_History.j0 y_1 y_4 y_5_c_1 a_9 x_10 x_11 b_22 = if b_22 = true then (some ((1 : Int))) else (if y_4.Kind = (2 : Int) then (Option.bind (roadref4_History_1 (2 : Int) y_1 y_5_c_1 y_4) fun y1 => (roadref4_History.j1 y_1 y_4 y_5_c_1 a_9 x_10 x_11 y1)) else ((roadref4_History.j1 y_1 y_4 y_5_c_1 a_9 x_10 x_11 false))) := fixF_eq roadref4_History.l0_k.mono _
theorem roadref4_History.j1_eq (y_1 : (List T_api_Event)) (y_4 : T_api_Event) (y_5_c_1 : Int) (a_9 : List T_api_Event) (x_10 : Int) (x_11 : Int) (b_36 : Bool) : roadref4_History.j1 y_1 y_4 y_5_c_1 a_9 x_10 x_11 b_36 = if b_36 = true then (some ((5 : Int))) else (if y_4.Kind = (3 : Int) then (Option.bind (roadref4_History_1 (2 : Int) y_1 y_5_c_1 y_4) fun y1 => (roadref4_History.j2 y_1 y_4 y_5_c_1 a_9 x_10 x_11 (!y1))) else ((roadref4_History.j2 y_1 y_4 y_5_c_1 a_9 x_10 x_11 false))) := fixF_eq roadref4_History.l0_k.mono _
theorem roadref4_History.j2_eq (y_1 : (List T_api_Event)) (y_4 : T_api_Event) (y_5_c_1 : Int) (a_9 : List T_api_Event) (x_10 : Int) (x_11 : Int) (b_44 : Bool) : roadref4_History.j2 y_1 y_4 y_5_c_1 a_9 x_10 x_11 b_44 = if b_44 = true then (some ((4 : Int))) else (if y_4.Kind = (3 : Int) then (Option.bind (roadref4_History_1 (3 : Int) y_1 y_5_c_1 y_4) fun y1 => if y1 = true then (some ((5 : Int))) else ((roadref4_History.l0 y_1 a_9 x_10 (IntKind.wrap .i64 (x_11 + (1 : Int)))))) else ((roadref4_History.l0 y_1 a_9 x_10 (IntKind.wrap .i64 (x_11 + (1 : Int)))))) := fixF_eq roadref4_History.l0_k.mono _
def roadref4_History.l0_k.I : (p : roadref4_History.l0_k.Pt) → (Int) → Prop
  | .l0 y_1 a_9 x_10 x_11, r => ∀ (W : Nat → Prop) (h0 m0 h m : Heap) (bk_1 : Nat) (cs_1 : List Value) (A_9 : Option Addr) (n_9 c_9 : Nat) (O : Hold W h0 m0 h m [rV bk_1 46 cs_1]) (e_1 : (eRow 3 T_api_Event.E) m y_1 cs_1) (ne_9 : n_9 = List.length a_9) (k_9 : List.length a_9 ≤ c_9) (r_9 : Rd 3 T_api_Event.E m A_9 a_9), f26.l0 (roadref4_History.post W h0 m0 r) (⟨bk_1, 0, none⟩ : Addr) A_9 n_9 c_9 x_10 x_11 h
  | .j0 y_1 y_4 y_5_c_1 a_9 x_10 x_11 b_22, r => ∀ (W : Nat → Prop) (h0 m0 h m : Heap) (bk_1 : Nat) (cs_1 : List Value) (bk_4 : Nat) (cs_4 : List Value) (bk_5_c_1 : Nat) (cs_5_c_1 : List Value) (A_9 : Option Addr) (n_9 c_9 : Nat) (O : Hold W h0 m0 h m [rV bk_1 46 cs_1, rV bk_4 88 cs_4, rV bk_5_c_1 3 cs_5_c_1]) (e_1 : (eRow 3 T_api_Event.E) m y_1 cs_1) (e_4 : T_api_Event.E m y_4 cs_4) (e_5_c_1 : (eInt .i64) m y_5_c_1 cs_5_c_1) (ne_9 : n_9 = List.length a_9) (k_9 : List.length a_9 ≤ c_9) (r_9 : Rd 3 T_api_Event.E m A_9 a_9), f26.j0 (roadref4_History.post W h0 m0 r) (⟨bk_1, 0, none⟩ : Addr) (⟨bk_4, 0, none⟩ : Addr) (⟨bk_1, 0, none⟩ : Addr) (⟨bk_5_c_1, 0, none⟩ : Addr) (⟨bk_4, 0, none⟩ : Addr) A_9 n_9 c_9 x_10 x_11 b_22 h
  | .j1 y_1 y_4 y_5_c_1 a_9 x_10 x_11 b_36, r => ∀ (W : Nat → Prop) (h0 m0 h m : Heap) (bk_1 : Nat) (cs_1 : List Value) (bk_4 : Nat) (cs_4 : List Value) (bk_5_c_1 : Nat) (cs_5_c_1 : List Value) (A_9 : Option Addr) (n_9 c_9 : Nat) (O : Hold W h0 m0 h m [rV bk_1 46 cs_1, rV bk_4 88 cs_4, rV bk_5_c_1 3 cs_5_c_1]) (e_1 : (eRow 3 T_api_Event.E) m y_1 cs_1) (e_4 : T_api_Event.E m y_4 cs_4) (e_5_c_1 : (eInt .i64) m y_5_c_1 cs_5_c_1) (ne_9 : n_9 = List.length a_9) (k_9 : List.length a_9 ≤ c_9) (r_9 : Rd 3 T_api_Event.E m A_9 a_9), f26.j1 (roadref4_History.post W h0 m0 r) (⟨bk_1, 0, none⟩ : Addr) (⟨bk_4, 0, none⟩ : Addr) (⟨bk_1, 0, none⟩ : Addr) (⟨bk_5_c_1, 0, none⟩ : Addr) (⟨bk_4, 0, none⟩ : Addr) A_9 n_9 c_9 x_10 x_11 b_36 h
  | .j2 y_1 y_4 y_5_c_1 a_9 x_10 x_11 b_44, r => ∀ (W : Nat → Prop) (h0 m0 h m : Heap) (bk_1 : Nat) (cs_1 : List Value) (bk_4 : Nat) (cs_4 : List Value) (bk_5_c_1 : Nat) (cs_5_c_1 : List Value) (A_9 : Option Addr) (n_9 c_9 : Nat) (O : Hold W h0 m0 h m [rV bk_1 46 cs_1, rV bk_4 88 cs_4, rV bk_5_c_1 3 cs_5_c_1]) (e_1 : (eRow 3 T_api_Event.E) m y_1 cs_1) (e_4 : T_api_Event.E m y_4 cs_4) (e_5_c_1 : (eInt .i64) m y_5_c_1 cs_5_c_1) (ne_9 : n_9 = List.length a_9) (k_9 : List.length a_9 ≤ c_9) (r_9 : Rd 3 T_api_Event.E m A_9 a_9), f26.j2 (roadref4_History.post W h0 m0 r) (⟨bk_1, 0, none⟩ : Addr) (⟨bk_4, 0, none⟩ : Addr) (⟨bk_1, 0, none⟩ : Addr) (⟨bk_5_c_1, 0, none⟩ : Addr) (⟨bk_4, 0, none⟩ : Addr) A_9 n_9 c_9 x_10 x_11 b_44 h
set_option maxRecDepth 100000 in
theorem roadref4_History.l0_k.step_l0 (go : (p : roadref4_History.l0_k.Pt) → Option (Int)) (ih : ∀ p r, go p = some r → roadref4_History.l0_k.I p r) (y_1 : (List T_api_Event)) (a_9 : List T_api_Event) (x_10 : Int) (x_11 : Int) (r : Int) (e : roadref4_History.l0_k.body go (.l0 y_1 a_9 x_10 x_11) = some r) : roadref4_History.l0_k.I (.l0 y_1 a_9 x_10 x_11) r := by
  unfold roadref4_History.l0_k.body at e
  intro W h0 m0 h m bk_1 cs_1 A_9 n_9 c_9 O e_1 ne_9 k_9 r_9
  obtain ⟨Ae_1_0, ce_1_0, rfl, ke_1_0, re_1_0⟩ := id e_1
  subst ne_9
  refine f26.l0_in ?_
  unfold f26.l0T
  refine split_dec_e e (fun c44 e => ?_) (fun c44 e => ?_)
  · obtain ⟨y1, g2, e⟩ := bind_e e
    refine r_9.addr rfl g2 fun a3 cs4 ha5 hc6 he7 => ?_
    refine ⟨_, ldAn O.s hc6 rfl, ?_⟩
    refine O.new fun h8 x9 O10 => ?_
    refine O10.new fun h12 x13 O14 => ?_
    refine O14.st0 1 rfl (Nat.le_of_ble_eq_true rfl) trivial fun h16 O17 => ?_
    refine ⟨_, rfl, (T_api_Event.T.len _ _ _ he7), ?_⟩
    refine O17.stA 2 rfl (T_api_Event.T.len _ _ _ he7) (T_api_Event.T.flat _ _ _ he7) fun h18 O19 => ?_
    refine ⟨_, ldk (k := 1) (Sub.refl _) (O19.all 2 rfl) (T_api_Event.g1 he7), _, rfl, ?_⟩
    obtain ⟨y20, g21, e⟩ := bind_e e
    refine (roadref4_within.walk (Hold.start (W := No) O19.s)  g21).mono ?_
    rintro _ h22 ⟨m23, Q24, rfl⟩
    have O26 := O19.retC Q24 vfs_nil
    refine ⟨_, rfl, ?_⟩
    refine split_not ?_
    refine split_any_e e (fun c43 e => ?_) (fun c43 e => ?_)
    · refine ⟨_, ld0 (Sub.refl _) (O26.all 2 rfl) (T_api_Event.g0 he7), _, rfl, ?_⟩
      obtain ⟨y27, g28, e⟩ := bind_e e
      refine (roadref4_within.walk (Hold.start (W := No) O26.s)  g28).mono ?_
      rintro _ h29 ⟨m30, Q31, rfl⟩
      have O33 := O26.retC Q31 vfs_nil
      refine ⟨_, rfl, ?_⟩
      refine split_not ?_
      refine split_any_e e (fun c42 e => ?_) (fun c42 e => ?_)
      · refine ⟨_, ldk (k := 1) (Sub.refl _) (O33.all 2 rfl) (T_api_Event.g1 he7), _, rfl, ?_⟩
        refine split_dec_e e (fun c41 e => ?_) (fun c41 e => ?_)
        · refine ⟨_, ldk (k := 2) (Sub.refl _) (O33.all 2 rfl) (T_api_Event.g2 he7), _, rfl, ?_⟩
          obtain ⟨y34, g35, e⟩ := bind_e e
          refine (roadref4_within.walk (Hold.start (W := No) O33.s)  g35).mono ?_
          rintro _ h36 ⟨m37, Q38, rfl⟩
          have O40 := O33.retC Q38 vfs_nil
          refine ⟨_, rfl, ?_⟩
          exact (ih _ _ e) _ _ _ _ _ _ _ _ _ _ _ _ _ _ (O40.pick [0, 2, 1]) ⟨_, _, rfl, ke_1_0, re_1_0⟩ he7 rfl rfl k_9 r_9
        · exact (ih _ _ e) _ _ _ _ _ _ _ _ _ _ _ _ _ _ (O33.pick [0, 2, 1]) ⟨_, _, rfl, ke_1_0, re_1_0⟩ he7 rfl rfl k_9 r_9
      · exact (ih _ _ e) _ _ _ _ _ _ _ _ _ _ _ _ _ _ (O33.pick [0, 2, 1]) ⟨_, _, rfl, ke_1_0, re_1_0⟩ he7 rfl rfl k_9 r_9
    · cases e
      exact ⟨_, O26.pick [], rfl⟩
  · cases e
    exact ⟨_, O.pick [], rfl⟩
set_option maxRecDepth 100000 in
theorem roadref4_History.l0_k.step_j0 (go : (p : roadref4_History.l0_k.Pt) → Option (Int)) (ih : ∀ p r, go p = some r → roadref4_History.l0_k.I p r) (y_1 : (List T_api_Event)) (y_4 : T_api_Event) (y_5_c_1 : Int) (a_9 : List T_api_Event) (x_10 : Int) (x_11 : Int) (b_22 : Bool) (r : Int) (e : roadref4_History.l0_k.body go (.j0 y_1 y_4 y_5_c_1 a_9 x_10 x_11 b_22) = some r) : roadref4_History.l0_k.I (.j0 y_1 y_4 y_5_c_1 a_9 x_10 x_11 b_22) r := by
  unfold roadref4_History.l0_k.body at e
  intro W h0 m0 h m bk_1 cs_1 bk_4 cs_4 bk_5_c_1 cs_5_c_1 A_9 n_9 c_9 O e_1 e_4 e_5_c_1 ne_9 k_9 r_9
  obtain ⟨Ae_1_0, ce_1_0, rfl, ke_1_0, re_1_0⟩ := id e_1
  obtain rfl : cs_5_c_1 = [(Value.int .i64 y_5_c_1)] := e_5_c_1
  subst ne_9
  refine f26.j0_in ?_
  unfold f26.j0T
  refine split_any_e e (fun c17 e => ?_) (fun c17 e => ?_)
  · cases e
    exact ⟨_, O.pick [], rfl⟩
  · refine ⟨_, ldk (k := 1) (Sub.refl _) (O.all 1 rfl) (T_api_Event.g1 e_4), _, rfl, ?_⟩
    refine split_eq_e e (fun c16 e => ?_) (fun c16 e => ?_)
    · obtain ⟨y1, g2, e⟩ := bind_e e
      obtain ⟨m7, u8, s14, ⟨hb11, hb12, hb13, _⟩, B9, C10⟩ := O.lend0 [0, 2, 1]
      refine (roadref4_History_1.walk (Hold.start (W := No) s14) ⟨_, _, hb11, nn, ⟨_, _, rfl, ke_1_0, (re_1_0.sub T_api_Event.T u8)⟩⟩ ⟨_, _, hb12, nn, rfl⟩ ⟨_, _, hb13, nn_len (T_api_Event.T.len _ _ _ e_4), (T_api_Event.T.mono _ _ _ _ u8 e_4)⟩ g2).mono ?_
      rintro _ h3 ⟨m4, Q5, rfl⟩
      have O15 := C10 Q5 vfs_nil
      refine ⟨_, rfl, ?_⟩
      exact (ih _ _ e) _ _ _ _ _ _ _ _ _ _ _ _ _ _ (O15.pick [0, 1, 2]) ⟨_, _, rfl, ke_1_0, re_1_0⟩ e_4 rfl rfl k_9 r_9
    · exact (ih _ _ e) _ _ _ _ _ _ _ _ _ _ _ _ _ _ (O.pick [0, 1, 2]) ⟨_, _, rfl, ke_1_0, re_1_0⟩ e_4 rfl rfl k_9 r_9
set_option maxRecDepth 100000 in
theorem roadref4_History.l0_k.step_j1 (go : (p : roadref4_History.l0_k.Pt) → Option (Int)) (ih : ∀ p r, go p = some r → roadref4_History.l0_k.I p r) (y_1 : (List T_api_Event)) (y_4 : T_api_Event) (y_5_c_1 : Int) (a_9 : List T_api_Event) (x_10 : Int) (x_11 : Int) (b_36 : Bool) (r : Int) (e : roadref4_History.l0_k.body go (.j1 y_1 y_4 y_5_c_1 a_9 x_10 x_11 b_36) = some r) : roadref4_History.l0_k.I (.j1 y_1 y_4 y_5_c_1 a_9 x_10 x_11 b_36) r := by
  unfold roadref4_History.l0_k.body at e
  intro W h0 m0 h m bk_1 cs_1 bk_4 cs_4 bk_5_c_1 cs_5_c_1 A_9 n_9 c_9 O e_1 e_4 e_5_c_1 ne_9 k_9 r_9
  obtain ⟨Ae_1_0, ce_1_0, rfl, ke_1_0, re_1_0⟩ := id e_1
  obtain rfl : cs_5_c_1 = [(Value.int .i64 y_5_c_1)] := e_5_c_1
  subst ne_9
  refine f26.j1_in ?_
  unfold f26.j1T
  refine split_any_e e (fun c17 e => ?_) (fun c17 e => ?_)
  · cases e
    exact ⟨_, O.pick [], rfl⟩
  · refine ⟨_, ldk (k := 1) (Sub.refl _) (O.all 1 rfl) (T_api_Event.g1 e_4), _, rfl, ?_⟩
    refine split_eq_e e (fun c16 e => ?_) (fun c16 e => ?_)
    · obtain ⟨y1, g2, e⟩ := bind_e e
      obtain ⟨m7, u8, s14, ⟨hb11, hb12, hb13, _⟩, B9, C10⟩ := O.lend0 [0, 2, 1]
      refine (roadref4_History_1.walk (Hold.start (W := No) s14) ⟨_, _, hb11, nn, ⟨_, _, rfl, ke_1_0, (re_1_0.sub T_api_Event.T u8)⟩⟩ ⟨_, _, hb12, nn, rfl⟩ ⟨_, _, hb13, nn_len (T_api_Event.T.len _ _ _ e_4), (T_api_Event.T.mono _ _ _ _ u8 e_4)⟩ g2).mono ?_
      rintro _ h3 ⟨m4, Q5, rfl⟩
      have O15 := C10 Q5 vfs_nil
      refine ⟨_, rfl, ?_⟩
      exact (ih _ _ e) _ _ _ _ _ _ _ _ _ _ _ _ _ _ (O15.pick [0, 1, 2]) ⟨_, _, rfl, ke_1_0, re_1_0⟩ e_4 rfl rfl k_9 r_9
    · exact (ih _ _ e) _ _ _ _ _ _ _ _ _ _ _ _ _ _ (O.pick [0, 1, 2]) ⟨_, _, rfl, ke_1_0, re_1_0⟩ e_4 rfl rfl k_9 r_9
set_option maxRecDepth 100000 in
theorem roadref4_History.l0_k.step_j2 (go : (p : roadref4_History.l0_k.Pt) → Option (Int)) (ih : ∀ p r, go p = some r → roadref4_History.l0_k.I p r) (y_1 : (List T_api_Event)) (y_4 : T_api_Event) (y_5_c_1 : Int) (a_9 : List T_api_Event) (x_10 : Int) (x_11 : Int) (b_44 : Bool) (r : Int) (e : roadref4_History.l0_k.body go (.j2 y_1 y_4 y_5_c_1 a_9 x_10 x_11 b_44) = some r) : roadref4_History.l0_k.I (.j2 y_1 y_4 y_5_c_1 a_9 x_10 x_11 b_44) r := by
  unfold roadref4_History.l0_k.body at e
  intro W h0 m0 h m bk_1 cs_1 bk_4 cs_4 bk_5_c_1 cs_5_c_1 A_9 n_9 c_9 O e_1 e_4 e_5_c_1 ne_9 k_9 r_9
  obtain ⟨Ae_1_0, ce_1_0, rfl, ke_1_0, re_1_0⟩ := id e_1
  obtain rfl : cs_5_c_1 = [(Value.int .i64 y_5_c_1)] := e_5_c_1
  subst ne_9
  refine f26.j2_in ?_
  unfold f26.j2T
  refine split_any_e e (fun c18 e => ?_) (fun c18 e => ?_)
  · cases e
    exact ⟨_, O.pick [], rfl⟩
  · refine ⟨_, ldk (k := 1) (Sub.refl _) (O.all 1 rfl) (T_api_Event.g1 e_4), _, rfl, ?_⟩
    refine split_eq_e e (fun c17 e => ?_) (fun c17 e => ?_)
    · obtain ⟨y1, g2, e⟩ := bind_e e
      obtain ⟨m7, u8, s14, ⟨hb11, hb12, hb13, _⟩, B9, C10⟩ := O.lend0 [0, 2, 1]
      refine (roadref4_History_1.walk (Hold.start (W := No) s14) ⟨_, _, hb11, nn, ⟨_, _, rfl, ke_1_0, (re_1_0.sub T_api_Event.T u8)⟩⟩ ⟨_, _, hb12, nn, rfl⟩ ⟨_, _, hb13, nn_len (T_api_Event.T.len _ _ _ e_4), (T_api_Event.T.mono _ _ _ _ u8 e_4)⟩ g2).mono ?_
      rintro _ h3 ⟨m4, Q5, rfl⟩
      have O15 := C10 Q5 vfs_nil
      refine ⟨_, rfl, ?_⟩
      refine split_any_e e (fun c16 e => ?_) (fun c16 e => ?_)
      · cases e
        exact ⟨_, O15.pick [], rfl⟩
      · exact (ih _ _ e) _ _ _ _ _ _ _ _ _ _ (O15.pick [0]) ⟨_, _, rfl, ke_1_0, re_1_0⟩ rfl k_9 r_9
    · exact (ih _ _ e) _ _ _ _ _ _ _ _ _ _ (O.pick [0]) ⟨_, _, rfl, ke_1_0, re_1_0⟩ rfl k_9 r_9
theorem roadref4_History.l0_k.all {p : roadref4_History.l0_k.Pt} {r : (Int)} (e : roadref4_History.l0_k.go p = some r) : roadref4_History.l0_k.I p r := fixF_ind (β := fun _ => (Int)) roadref4_History.l0_k.mono (I := roadref4_History.l0_k.I) (fun go ih p r e => match p with
  | .l0 y_1 a_9 x_10 x_11 => roadref4_History.l0_k.step_l0 go ih y_1 a_9 x_10 x_11 r e
  | .j0 y_1 y_4 y_5_c_1 a_9 x_10 x_11 b_22 => roadref4_History.l0_k.step_j0 go ih y_1 y_4 y_5_c_1 a_9 x_10 x_11 b_22 r e
  | .j1 y_1 y_4 y_5_c_1 a_9 x_10 x_11 b_36 => roadref4_History.l0_k.step_j1 go ih y_1 y_4 y_5_c_1 a_9 x_10 x_11 b_36 r e
  | .j2 y_1 y_4 y_5_c_1 a_9 x_10 x_11 b_44 => roadref4_History.l0_k.step_j2 go ih y_1 y_4 y_5_c_1 a_9 x_10 x_11 b_44 r e
  ) e
theorem roadref4_History.l0.walk {W : Nat → Prop} {h0 m0 h m : Heap} {bk_1 : Nat} {cs_1 : List Value} {A_9 : Option Addr} {n_9 c_9 : Nat} {y_1 : (List T_api_Event)} {a_9 : List T_api_Event} {x_10 : Int} {x_11 : Int} (O : Hold W h0 m0 h m [rV bk_1 46 cs_1]) (e_1 : (eRow 3 T_api_Event.E) m y_1 cs_1) (ne_9 : n_9 = List.length a_9) (k_9 : List.length a_9 ≤ c_9) (r_9 : Rd 3 T_api_Event.E m A_9 a_9) {r : Int} (e : roadref4_History.l0 y_1 a_9 x_10 x_11 = some r) : f26.l0 (roadref4_History.post W h0 m0 r) (⟨bk_1, 0, none⟩ : Addr) A_9 n_9 c_9 x_10 x_11 h := roadref4_History.l0_k.all (p := .l0 y_1 a_9 x_10 x_11) e W h0 m0 h m bk_1 cs_1 A_9 n_9 c_9 O e_1 ne_9 k_9 r_9
theorem roadref4_History.j0.walk {W : Nat → Prop} {h0 m0 h m : Heap} {bk_1 : Nat} {cs_1 : List Value} {bk_4 : Nat} {cs_4 : List Value} {bk_5_c_1 : Nat} {cs_5_c_1 : List Value} {A_9 : Option Addr} {n_9 c_9 : Nat} {y_1 : (List T_api_Event)} {y_4 : T_api_Event} {y_5_c_1 : Int} {a_9 : List T_api_Event} {x_10 : Int} {x_11 : Int} {b_22 : Bool} (O : Hold W h0 m0 h m [rV bk_1 46 cs_1, rV bk_4 88 cs_4, rV bk_5_c_1 3 cs_5_c_1]) (e_1 : (eRow 3 T_api_Event.E) m y_1 cs_1) (e_4 : T_api_Event.E m y_4 cs_4) (e_5_c_1 : (eInt .i64) m y_5_c_1 cs_5_c_1) (ne_9 : n_9 = List.length a_9) (k_9 : List.length a_9 ≤ c_9) (r_9 : Rd 3 T_api_Event.E m A_9 a_9) {r : Int} (e : roadref4_History.j0 y_1 y_4 y_5_c_1 a_9 x_10 x_11 b_22 = some r) : f26.j0 (roadref4_History.post W h0 m0 r) (⟨bk_1, 0, none⟩ : Addr) (⟨bk_4, 0, none⟩ : Addr) (⟨bk_1, 0, none⟩ : Addr) (⟨bk_5_c_1, 0, none⟩ : Addr) (⟨bk_4, 0, none⟩ : Addr) A_9 n_9 c_9 x_10 x_11 b_22 h := roadref4_History.l0_k.all (p := .j0 y_1 y_4 y_5_c_1 a_9 x_10 x_11 b_22) e W h0 m0 h m bk_1 cs_1 bk_4 cs_4 bk_5_c_1 cs_5_c_1 A_9 n_9 c_9 O e_1 e_4 e_5_c_1 ne_9 k_9 r_9
theorem roadref4_History.j1.walk {W : Nat → Prop} {h0 m0 h m : Heap} {bk_1 : Nat} {cs_1 : List Value} {bk_4 : Nat} {cs_4 : List Value} {bk_5_c_1 : Nat} {cs_5_c_1 : List Value} {A_9 : Option Addr} {n_9 c_9 : Nat} {y_1 : (List T_api_Event)} {y_4 : T_api_Event} {y_5_c_1 : Int} {a_9 : List T_api_Event} {x_10 : Int} {x_11 : Int} {b_36 : Bool} (O : Hold W h0 m0 h m [rV bk_1 46 cs_1, rV bk_4 88 cs_4, rV bk_5_c_1 3 cs_5_c_1]) (e_1 : (eRow 3 T_api_Event.E) m y_1 cs_1) (e_4 : T_api_Event.E m y_4 cs_4) (e_5_c_1 : (eInt .i64) m y_5_c_1 cs_5_c_1) (ne_9 : n_9 = List.length a_9) (k_9 : List.length a_9 ≤ c_9) (r_9 : Rd 3 T_api_Event.E m A_9 a_9) {r : Int} (e : roadref4_History.j1 y_1 y_4 y_5_c_1 a_9 x_10 x_11 b_36 = some r) : f26.j1 (roadref4_History.post W h0 m0 r) (⟨bk_1, 0, none⟩ : Addr) (⟨bk_4, 0, none⟩ : Addr) (⟨bk_1, 0, none⟩ : Addr) (⟨bk_5_c_1, 0, none⟩ : Addr) (⟨bk_4, 0, none⟩ : Addr) A_9 n_9 c_9 x_10 x_11 b_36 h := roadref4_History.l0_k.all (p := .j1 y_1 y_4 y_5_c_1 a_9 x_10 x_11 b_36) e W h0 m0 h m bk_1 cs_1 bk_4 cs_4 bk_5_c_1 cs_5_c_1 A_9 n_9 c_9 O e_1 e_4 e_5_c_1 ne_9 k_9 r_9
theorem roadref4_History.j2.walk {W : Nat → Prop} {h0 m0 h m : Heap} {bk_1 : Nat} {cs_1 : List Value} {bk_4 : Nat} {cs_4 : List Value} {bk_5_c_1 : Nat} {cs_5_c_1 : List Value} {A_9 : Option Addr} {n_9 c_9 : Nat} {y_1 : (List T_api_Event)} {y_4 : T_api_Event} {y_5_c_1 : Int} {a_9 : List T_api_Event} {x_10 : Int} {x_11 : Int} {b_44 : Bool} (O : Hold W h0 m0 h m [rV bk_1 46 cs_1, rV bk_4 88 cs_4, rV bk_5_c_1 3 cs_5_c_1]) (e_1 : (eRow 3 T_api_Event.E) m y_1 cs_1) (e_4 : T_api_Event.E m y_4 cs_4) (e_5_c_1 : (eInt .i64) m y_5_c_1 cs_5_c_1) (ne_9 : n_9 = List.length a_9) (k_9 : List.length a_9 ≤ c_9) (r_9 : Rd 3 T_api_Event.E m A_9 a_9) {r : Int} (e : roadref4_History.j2 y_1 y_4 y_5_c_1 a_9 x_10 x_11 b_44 = some r) : f26.j2 (roadref4_History.post W h0 m0 r) (⟨bk_1, 0, none⟩ : Addr) (⟨bk_4, 0, none⟩ : Addr) (⟨bk_1, 0, none⟩ : Addr) (⟨bk_5_c_1, 0, none⟩ : Addr) (⟨bk_4, 0, none⟩ : Addr) A_9 n_9 c_9 x_10 x_11 b_44 h := roadref4_History.l0_k.all (p := .j2 y_1 y_4 y_5_c_1 a_9 x_10 x_11 b_44) e W h0 m0 h m bk_1 cs_1 bk_4 cs_4 bk_5_c_1 cs_5_c_1 A_9 n_9 c_9 O e_1 e_4 e_5_c_1 ne_9 k_9 r_9

noncomputable def roadref4_History (a_0 : List T_api_Event) : Option (Int) :=
  if (((List.length a_0) : Nat) : Int) > (200 : Int) then (some ((2 : Int))) else ((roadref4_History.l0 a_0 a_0 (((List.length a_0) : Nat) : Int) (0 : Int)))
set_option maxRecDepth 100000 in
theorem roadref4_History.walk {W : Nat → Prop} {h m : Heap} {A_0 : Option Addr} {n_0 c_0 : Nat} {a_0 : List T_api_Event} (O : Hold W h m h m []) (ne_0 : n_0 = List.length a_0) (k_0 : List.length a_0 ≤ c_0) (r_0 : Rd 3 T_api_Event.E m A_0 a_0) {r : Int} (e : roadref4_History a_0 = some r) : Run Try.prog 26 #[Value.slice A_0 n_0 c_0] h (roadref4_History.post W h m r) := by
  unfold roadref4_History at e
  subst ne_0
  refine f26.run ?_
  unfold f26.runT
  refine O.new fun h1 x2 O3 => ?_
  refine ⟨_, ld0 (Sub.refl _) (O3.all 0 rfl) rfl, _, _, _, rfl, ?_⟩
  refine split_dec_e e (fun c5 e => ?_) (fun c5 e => ?_)
  · cases e
    exact ⟨_, O3.pick [], rfl⟩
  · refine ⟨_, ld0 (Sub.refl _) (O3.all 0 rfl) rfl, _, _, _, rfl, ?_⟩
    exact roadref4_History.l0.walk (O3.pick [0]) ⟨_, _, rfl, k_0, r_0⟩ rfl k_0 r_0 e

/-! ### 28 roadstead/roadref4.Past -/
def roadref4_Past.post (W : Nat → Prop) (h0 m0 : Heap) (r : (List (List Bool))) (v : Value) (h : Heap) : Prop := ∃ m A0 n0 c0, Hold W h0 m0 h m [rR (aRow (aE tell_bool)) A0 c0 r] ∧ v = .slice A0 n0 c0 ∧ n0 = List.length r
inductive roadref4_Past.l0_k.Pt where
  | l0 (a_0 : List T_api_Event) (a_3 : List (List Bool)) (a_13 : List T_api_Event) (x_14 : Int) (x_15 : Int)
  | l1 (a_0 : List T_api_Event) (a_3 : List (List Bool)) (x_4 : Int) (y_5 : T_api_Event) (x_6 : Int) (a_13 : List T_api_Event) (x_14 : Int) (x_15 : Int)
  | j1 (a_0 : List T_api_Event) (a_3 : List (List Bool)) (x_4 : Int) (y_5 : T_api_Event) (x_6 : Int) (a_13 : List T_api_Event) (x_14 : Int) (x_15 : Int) (b_57 : Bool)
  | l2 (a_0 : List T_api_Event) (a_3 : List (List Bool)) (x_4 : Int) (y_5 : T_api_Event) (x_6 : Int) (a_13 : List T_api_Event) (x_14 : Int) (x_15 : Int) (x_68 : Int) (x_69 : Int) (x_67 : Int) (a_67 : List Bool)
  | j0 (a_0 : List T_api_Event) (a_3 : List (List Bool)) (x_4 : Int) (y_5 : T_api_Event) (x_6 : Int) (a_13 : List T_api_Event) (x_14 : Int) (x_15 : Int)
noncomputable def roadref4_Past.l0_k.body (go : (p : roadref4_Past.l0_k.Pt) → Option ((List (List Bool)))) : (p : roadref4_Past.l0_k.Pt) → Option ((List (List Bool)))
  | .l0 a_0 a_3 a_13 x_14 x_15 => if x_15 < x_14 then (Option.bind (gi a_13 x_15) fun y1 => Option.bind (mks 1 (((List.length a_0) : Nat) : Int) false) fun l14 => Option.bind (gi a_3 x_15) fun y24 => Option.bind (some (List.set a_3 (Int.toNat x_15) l14)) fun l38 => (go (.l1 a_0 l38 x_15 y1 (IntKind.wrap .i64 (x_15 - (1 : Int))) a_13 x_14 x_15))) else (some (a_3))
  | .l1 a_0 a_3 x_4 y_5 x_6 a_13 x_14 x_15 => if x_6 ≥ (0 : Int) then (Option.bind (gi a_0 x_6) fun y1 => if y1.Place = y_5.Place then ((go (.j1 a_0 a_3 x_4 y_5 x_6 a_13 x_14 x_15 true))) else (if y_5.Kind = (3 : Int) then (if y1.Kind = (2 : Int) then ((go (.j1 a_0 a_3 x_4 y_5 x_6 a_13 x_14 x_15 (y1.Msg == y_5.Msg)))) else ((go (.j1 a_0 a_3 x_4 y_5 x_6 a_13 x_14 x_15 false)))) else ((go (.j1 a_0 a_3 x_4 y_5 x_6 a_13 x_14 x_15 false))))) else ((go (.l0 a_0 a_3 a_13 x_14 (IntKind.wrap .i64 (x_15 + (1 : Int))))))
  | .j1 a_0 a_3 x_4 y_5 x_6 a_13 x_14 x_15 b_57 => if b_57 = true then (Option.bind (gi a_3 x_4) fun y3 => Option.bind (gi y3 x_6) fun y13 => Option.bind (some (List.set y3 (Int.toNat x_6) true)) fun l23 => Option.bind (gi (List.set a_3 (Int.toNat x_4) l23) x_6) fun y29 => (go (.l2 a_0 (List.set a_3 (Int.toNat x_4) l23) x_4 y_5 x_6 a_13 x_14 x_15 (((List.length y29) : Nat) : Int) (0 : Int) x_6 y29))) else ((go (.j0 a_0 a_3 x_4 y_5 x_6 a_13 x_14 x_15)))
  | .l2 a_0 a_3 x_4 y_5 x_6 a_13 x_14 x_15 x_68 x_69 x_67 a_67 => if x_69 < x_68 then (Option.bind (gi a_67 x_69) fun y1 => Option.bind (gi a_3 x_4) fun y10 => Option.bind (gi a_3 x_4) fun y14 => Option.bind (gi y10 x_69) fun y22 => if y22 = true then (Option.bind (gi y10 x_69) fun y29 => Option.bind (some (List.set y10 (Int.toNat x_69) true)) fun l39 => if Int.toNat x_4 ≠ Int.toNat x_67 then ((go (.l2 a_0 (List.set a_3 (Int.toNat x_4) l39) x_4 y_5 x_6 a_13 x_14 x_15 x_68 (IntKind.wrap .i64 (x_69 + (1 : Int))) x_67 a_67))) else none) else (Option.bind (gi y10 x_69) fun y44 => Option.bind (some (List.set y10 (Int.toNat x_69) y1)) fun l54 => if Int.toNat x_4 ≠ Int.toNat x_67 then ((go (.l2 a_0 (List.set a_3 (Int.toNat x_4) l54) x_4 y_5 x_6 a_13 x_14 x_15 x_68 (IntKind.wrap .i64 (x_69 + (1 : Int))) x_67 a_67))) else none)) else ((go (.j0 a_0 a_3 x_4 y_5 x_6 a_13 x_14 x_15)))
  | .j0 a_0 a_3 x_4 y_5 x_6 a_13 x_14 x_15 => (go (.l1 a_0 a_3 x_4 y_5 (IntKind.wrap .i64 (x_6 - (1 : Int))) a_13 x_14 x_15))
theorem roadref4_Past.l0_k.mono : MonoF (β := fun _ => ((List (List Bool)))) roadref4_Past.l0_k.body := fun f g hfg p => match p with
  | .l0 a_0 a_3 a_13 x_14 x_15 => LeO.ite (LeO.bind (LeO.refl _) fun y1 => LeO.bind (LeO.refl _) fun l14 => LeO.bind (LeO.refl _) fun y24 => LeO.bind (LeO.refl _) fun l38 => (hfg _)) (LeO.refl _)
  | .l1 a_0 a_3 x_4 y_5 x_6 a_13 x_14 x_15 => LeO.ite (LeO.bind (LeO.refl _) fun y1 => LeO.ite ((hfg _)) (LeO.ite (LeO.ite ((hfg _)) ((hfg _))) ((hfg _)))) ((hfg _))
  | .j1 a_0 a_3 x_4 y_5 x_6 a_13 x_14 x_15 b_57 => LeO.ite (LeO.bind (LeO.refl _) fun y3 => LeO.bind (LeO.refl _) fun y13 => LeO.bind (LeO.refl _) fun l23 => LeO.bind (LeO.refl _) fun y29 => (hfg _)) ((hfg _))
  | .l2 a_0 a_3 x_4 y_5 x_6 a_13 x_14 x_15 x_68 x_69 x_67 a_67 => LeO.ite (LeO.bind (LeO.refl _) fun y1 => LeO.bind (LeO.refl _) fun y10 => LeO.bind (LeO.refl _) fun y14 => LeO.bind (LeO.refl _) fun y22 => LeO.ite (LeO.bind (LeO.refl _) fun y29 => LeO.bind (LeO.refl _) fun l39 => LeO.ite ((hfg _)) (LeO.refl _)) (LeO.bind (LeO.refl _) fun y44 => LeO.bind (LeO.refl _) fun l54 => LeO.ite ((hfg _)) (LeO.refl _))) ((hfg _))
  | .j0 a_0 a_3 x_4 y_5 x_6 a_13 x_14 x_15 => (hfg _)
noncomputable def roadref4_Past.l0_k.go (p : roadref4_Past.l0_k.Pt) : Option ((List (List Bool))) := fixF (β := fun _ => ((List (List Bool)))) roadref4_Past.l0_k.body p
noncomputable def roadref4_Past.l0 (a_0 : List T_api_Event) (a_3 : List (List Bool)) (a_13 : List T_api_Event) (x_14 : Int) (x_15 : Int) : Option ((List (List Bool))) := roadref4_Past.l0_k.go (.l0 a_0 a_3 a_13 x_14 x_15)
noncomputable def roadref4_Past.l1 (a_0 : List T_api_Event) (a_3 : List (List Bool)) (x_4 : Int) (y_5 : T_api_Event) (x_6 : Int) (a_13 : List T_api_Event) (x_14 : Int) (x_15 : Int) : Option ((List (List Bool))) := roadref4_Past.l0_k.go (.l1 a_0 a_3 x_4 y_5 x_6 a_13 x_14 x_15)
noncomputable def roadref4_Past.j1 (a_0 : List T_api_Event) (a_3 : List (List Bool)) (x_4 : Int) (y_5 : T_api_Event) (x_6 : Int) (a_13 : List T_api_Event) (x_14 : Int) (x_15 : Int) (b_57 : Bool) : Option ((List (List Bool))) := roadref4_Past.l0_k.go (.j1 a_0 a_3 x_4 y_5 x_6 a_13 x_14 x_15 b_57)
noncomputable def roadref4_Past.l2 (a_0 : List T_api_Event) (a_3 : List (List Bool)) (x_4 : Int) (y_5 : T_api_Event) (x_6 : Int) (a_13 : List T_api_Event) (x_14 : Int) (x_15 : Int) (x_68 : Int) (x_69 : Int) (x_67 : Int) (a_67 : List Bool) : Option ((List (List Bool))) := roadref4_Past.l0_k.go (.l2 a_0 a_3 x_4 y_5 x_6 a_13 x_14 x_15 x_68 x_69 x_67 a_67)
noncomputable def roadref4_Past.j0 (a_0 : List T_api_Event) (a_3 : List (List Bool)) (x_4 : Int) (y_5 : T_api_Event) (x_6 : Int) (a_13 : List T_api_Event) (x_14 : Int) (x_15 : Int) : Option ((List (List Bool))) := roadref4_Past.l0_k.go (.j0 a_0 a_3 x_4 y_5 x_6 a_13 x_14 x_15)
theorem roadref4_Past.l0_eq (a_0 : List T_api_Event) (a_3 : List (List Bool)) (a_13 : List T_api_Event) (x_14 : Int) (x_15 : Int) : roadref4_Past.l0 a_0 a_3 a_13 x_14 x_15 = if x_15 < x_14 then (Option.bind (gi a_13 x_15) fun y1 => Option.bind (mks 1 (((List.length a_0) : Nat) : Int) false) fun l14 => Option.bind (gi a_3 x_15) fun y24 => Option.bind (some (List.set a_3 (Int.toNat x_15) l14)) fun l38 => (roadref4_Past.l1 a_0 l38 x_15 y1 (IntKind.wrap .i64 (x_15 - (1 : Int))) a_13 x_14 x_15)) else (some (a_3)) := fixF_eq roadref4_Past.l0_k.mono _
theorem roadref4_Past.l1_eq (a_0 : List T_api_Event) (a_3 : List (List Bool)) (x_4 : Int) (y_5 : T_api_Event) (x_6 : Int) (a_13 : List T_api_Event) (x_14 : Int) (x_15 : Int) : roadref4_Past.l1 a_0 a_3 x_4 y_5 x_6 a_13 x_14 x_15 = if x_6 ≥ (0 : Int) then (Option.bind (gi a_0 x_6) fun y1 => if y1.Place = y_5.Place then ((roadref4_Past.j1 a_0 a_3 x_4 y_5 x_6 a_13 x_14 x_15 true)) else (if y_5.Kind = (3 : Int) then (if y1.Kind = (2 : Int) then ((roadref4_Past.j1 a_0 a_3 x_4 y_5 x_6 a_13 x_14 x_15 (y1.Msg == y_5.Msg))) else ((roadref4_Past.j1 a_0 a_3 x_4 y_5 x_6 a_13 x_14 x_15 false))) else ((roadref4_Past.j1 a_0 a_3 x_4 y_5 x_6 a_13 x_14 x_15 false)))) else ((roadref4_Past.l0 a_0 a_3 a_13 x_14 (IntKind.wrap .i64 (x_15 + (1 : Int))))) := fixF_eq roadref4_Past.l0_k.mono _
theorem roadref4_Past.j1_eq (a_0 : List T_api_Event) (a_3 : List (List Bool)) (x_4 : Int) (y_5 : T_api_Event) (x_6 : Int) (a_13 : List T_api_Event) (x_14 : Int) (x_15 : Int) (b_57 : Bool) : roadref4_Past.j1 a_0 a_3 x_4 y_5 x_6 a_13 x_14 x_15 b_57 = if b_57 = true then (Option.bind (gi a_3 x_4) fun y3 => Option.bind (gi y3 x_6) fun y13 => Option.bind (some (List.set y3 (Int.toNat x_6) true)) fun l23 => Option.bind (gi (List.set a_3 (Int.toNat x_4) l23) x_6) fun y29 => (roadref4_Past.l2 a_0 (List.set a_3 (Int.toNat x_4) l23) x_4 y_5 x_6 a_13 x_14 x_15 (((List.length y29) : Nat) : Int) (0 : Int) x_6 y29)) else ((roadref4_Past.j0 a_0 a_3 x_4 y_5 x_6 a_13 x_14 x_15)) := fixF_eq roadref4_Past.l0_k.mono _
theorem roadref4_Past.l2_eq (a_0 : List T_api_Event) (a_3 : List (List Bool)) (x_4 : Int) (y_5 : T_api_Event) (x_6 : Int) (a_13 : List T_api_Event) (x_14 : Int) (x_15 : Int) (x_68 : Int) (x_69 : Int) (x_67 : Int) (a_67 : List Bool) : roadref4_Past.l2 a_0 a_3 x_4 y_5 x_6 a_13 x_14 x_15 x_68 x_69 x_67 a_67 = if x_69 < x_68 then (Option.bind (gi a_67 x_69) fun y1 => Option.bind (gi a_3 x_4) fun y10 => Option.bind (gi a_3 x_4) fun y14 => Option.bind (gi y10 x_69) fun y22 => if y22 = true then (Option.bind (gi y10 x_69) fun y29 => Option.bind (some (List.set y10 (Int.toNat x_69) true)) fun l39 => if Int.toNat x_4 ≠ Int.toNat x_67 then ((roadref4_Past.l2 a_0 (List.set a_3 (Int.toNat x_4) l39) x_4 y_5 x_6 a_13 x_14 x_15 x_68 (IntKind.wrap .i64 (x_69 + (1 : Int))) x_67 a_67)) else none) else (Option.bind (gi y10 x_69) fun y44 => Option.bind (some (List.set y10 (Int.toNat x_69) y1)) fun l54 => if Int.toNat x_4 ≠ Int.toNat x_67 then ((roadref4_Past.l2 a_0 (List.set a_3 (Int.toNat x_4) l54) x_4 y_5 x_6 a_13 x_14 x_15 x_68 (IntKind.wrap .i64 (x_69 + (1 : Int))) x_67 a_67)) else none)) else ((roadref4_Past.j0 a_0 a_3 x_4 y_5 x_6 a_13 x_14 x_15)) := fixF_eq roadref4_Past.l0_k.mono _
theorem roadref4_Past.j0_eq (a_0 : List T_api_Event) (a_3 : List (List Bool)) (x_4 : Int) (y_5 : T_api_Event) (x_6 : Int) (a_13 : List T_api_Event) (x_14 : Int) (x_15 : Int) : roadref4_Past.j0 a_0 a_3 x_4 y_5 x_6 a_13 x_14 x_15 = (roadref4_Past.l1 a_0 a_3 x_4 y_5 (IntKind.wrap .i64 (x_6 - (1 : Int))) a_13 x_14 x_15) := fixF_eq roadref4_Past.l0_k.mono _
def roadref4_Past.l0_k.I : (p : roadref4_Past.l0_k.Pt) → ((List (List Bool))) → Prop
  | .l0 a_0 a_3 a_13 x_14 x_15, r => ∀ (W : Nat → Prop) (h0 m0 h m : Heap) (A_0 : Option Addr) (n_0 c_0 : Nat) (A_3 : Option Addr) (n_3 c_3 : Nat) (A_13 : Option Addr) (n_13 c_13 : Nat) (O : Hold W h0 m0 h m [rR (aRow (aE tell_bool)) A_3 c_3 a_3]) (ne_0 : n_0 = List.length a_0) (k_0 : List.length a_0 ≤ c_0) (r_0 : Rd 3 T_api_Event.E m A_0 a_0) (ne_3 : n_3 = List.length a_3) (ne_13 : n_13 = List.length a_13) (k_13 : List.length a_13 ≤ c_13) (r_13 : Rd 3 T_api_Event.E m A_13 a_13), f28.l0 (roadref4_Past.post W h0 m0 r) A_0 n_0 c_0 A_3 n_3 c_3 A_13 n_13 c_13 x_14 x_15 h
  | .l1 a_0 a_3 x_4 y_5 x_6 a_13 x_14 x_15, r => ∀ (W : Nat → Prop) (h0 m0 h m : Heap) (A_0 : Option Addr) (n_0 c_0 : Nat) (A_3 : Option Addr) (n_3 c_3 : Nat) (bk_5 : Nat) (cs_5 : List Value) (A_13 : Option Addr) (n_13 c_13 : Nat) (O : Hold W h0 m0 h m [rR (aRow (aE tell_bool)) A_3 c_3 a_3, rV bk_5 88 cs_5]) (ne_0 : n_0 = List.length a_0) (k_0 : List.length a_0 ≤ c_0) (r_0 : Rd 3 T_api_Event.E m A_0 a_0) (ne_3 : n_3 = List.length a_3) (e_5 : T_api_Event.E m y_5 cs_5) (ne_13 : n_13 = List.length a_13) (k_13 : List.length a_13 ≤ c_13) (r_13 : Rd 3 T_api_Event.E m A_13 a_13), f28.l1 (roadref4_Past.post W h0 m0 r) A_0 n_0 c_0 A_3 n_3 c_3 x_4 (⟨bk_5, 0, none⟩ : Addr) x_6 A_13 n_13 c_13 x_14 x_15 h
  | .j1 a_0 a_3 x_4 y_5 x_6 a_13 x_14 x_15 b_57, r => ∀ (W : Nat → Prop) (h0 m0 h m : Heap) (A_0 : Option Addr) (n_0 c_0 : Nat) (A_3 : Option Addr) (n_3 c_3 : Nat) (bk_5 : Nat) (cs_5 : List Value) (A_13 : Option Addr) (n_13 c_13 : Nat) (O : Hold W h0 m0 h m [rR (aRow (aE tell_bool)) A_3 c_3 a_3, rV bk_5 88 cs_5]) (ne_0 : n_0 = List.length a_0) (k_0 : List.length a_0 ≤ c_0) (r_0 : Rd 3 T_api_Event.E m A_0 a_0) (ne_3 : n_3 = List.length a_3) (e_5 : T_api_Event.E m y_5 cs_5) (ne_13 : n_13 = List.length a_13) (k_13 : List.length a_13 ≤ c_13) (r_13 : Rd 3 T_api_Event.E m A_13 a_13), f28.j1 (roadref4_Past.post W h0 m0 r) A_0 n_0 c_0 A_3 n_3 c_3 x_4 (⟨bk_5, 0, none⟩ : Addr) x_6 A_13 n_13 c_13 x_14 x_15 b_57 h
  | .l2 a_0 a_3 x_4 y_5 x_6 a_13 x_14 x_15 x_68 x_69 x_67 a_67, r => ∀ (W : Nat → Prop) (h0 m0 h m : Heap) (A_0 : Option Addr) (n_0 c_0 : Nat) (A_3 : Option Addr) (n_3 c_3 : Nat) (hs_3 : List Value) (bk_5 : Nat) (cs_5 : List Value) (A_13 : Option Addr) (n_13 c_13 : Nat) (A_67 : Option Addr) (n_67 c_67 : Nat) (O : Hold W h0 m0 h m [rX (aRow (aE tell_bool)) A_3 c_3 a_3 hs_3 none, rV bk_5 88 cs_5]) (ne_0 : n_0 = List.length a_0) (k_0 : List.length a_0 ≤ c_0) (r_0 : Rd 3 T_api_Event.E m A_0 a_0) (ne_3 : n_3 = List.length a_3) (e_5 : T_api_Event.E m y_5 cs_5) (ne_13 : n_13 = List.length a_13) (k_13 : List.length a_13 ≤ c_13) (r_13 : Rd 3 T_api_Event.E m A_13 a_13) (ne_67 : n_67 = List.length a_67) (hx_67 : hs_3[Int.toNat x_67]? = some (.slice A_67 n_67 c_67)) (g_67 : gi a_3 x_67 = some a_67), f28.l2 (roadref4_Past.post W h0 m0 r) A_0 n_0 c_0 A_3 n_3 c_3 x_4 (⟨bk_5, 0, none⟩ : Addr) x_6 A_13 n_13 c_13 x_14 x_15 A_67 n_67 c_67 x_68 x_69 h
  | .j0 a_0 a_3 x_4 y_5 x_6 a_13 x_14 x_15, r => ∀ (W : Nat → Prop) (h0 m0 h m : Heap) (A_0 : Option Addr) (n_0 c_0 : Nat) (A_3 : Option Addr) (n_3 c_3 : Nat) (bk_5 : Nat) (cs_5 : List Value) (A_13 : Option Addr) (n_13 c_13 : Nat) (O : Hold W h0 m0 h m [rR (aRow (aE tell_bool)) A_3 c_3 a_3, rV bk_5 88 cs_5]) (ne_0 : n_0 = List.length a_0) (k_0 : List.length a_0 ≤ c_0) (r_0 : Rd 3 T_api_Event.E m A_0 a_0) (ne_3 : n_3 = List.length a_3) (e_5 : T_api_Event.E m y_5 cs_5) (ne_13 : n_13 = List.length a_13) (k_13 : List.length a_13 ≤ c_13) (r_13 : Rd 3 T_api_Event.E m A_13 a_13), f28.j0 (roadref4_Past.post W h0 m0 r) A_0 n_0 c_0 A_3 n_3 c_3 x_4 (⟨bk_5, 0, none⟩ : Addr) x_6 A_13 n_13 c_13 x_14 x_15 h
set_option maxRecDepth 100000 in
theorem roadref4_Past.l0_k.step_l0 (go : (p : roadref4_Past.l0_k.Pt) → Option ((List (List Bool)))) (ih : ∀ p r, go p = some r → roadref4_Past.l0_k.I p r) (a_0 : List T_api_Event) (a_3 : List (List Bool)) (a_13 : List T_api_Event) (x_14 : Int) (x_15 : Int) (r : (List (List Bool))) (e : roadref4_Past.l0_k.body go (.l0 a_0 a_3 a_13 x_14 x_15) = some r) : roadref4_Past.l0_k.I (.l0 a_0 a_3 a_13 x_14 x_15) r := by
  unfold roadref4_Past.l0_k.body at e
  intro W h0 m0 h m A_0 n_0 c_0 A_3 n_3 c_3 A_13 n_13 c_13 O ne_0 k_0 r_0 ne_3 ne_13 k_13 r_13
  subst ne_0
  subst ne_3
  subst ne_13
  refine f28.l0_in ?_
  unfold f28.l0T
  refine split_dec_e e (fun c43 e => ?_) (fun c43 e => ?_)
  · obtain ⟨y1, g2, e⟩ := bind_e e
    refine r_13.addr rfl g2 fun a3 cs4 ha5 hc6 he7 => ?_
    refine ⟨_, ldAn O.s hc6 rfl, ?_⟩
    refine O.new fun h8 x9 O10 => ?_
    refine ⟨_, rfl, (T_api_Event.T.len _ _ _ he7), ?_⟩
    refine O10.stA 1 rfl (T_api_Event.T.len _ _ _ he7) (T_api_Event.T.flat _ _ _ he7) fun h12 O13 => ?_
    obtain ⟨l14, g15, e⟩ := bind_e e
    have q16 := mks_e g15
    refine ⟨q16.1, Int.le_refl _, q16.2.1, q16.2.2.1, ?_⟩
    refine O13.new fun h17 x18 O19 => ?_
    have O20 := O19.made 2 rfl (aE tell_bool) g15 ⟨rfl, rfl⟩
    try rw [q16.2.2.2.1]
    obtain ⟨y24, g25, e⟩ := bind_e e
    refine O20.adr 0 rfl rfl g25 fun a22 ha23 => ?_
    obtain ⟨l38, g39, e⟩ := bind_e e
    obtain ⟨hs26, O27⟩ := O20.openX 0 rfl g25
    obtain ⟨A28, c29, hx30, hc31, k32⟩ := O27.hdX 0 rfl ha23 g25
    have O34 := O27.takeX 0 rfl hx30 g25
    replace g39 := Option.some.inj g39
    refine O34.hdSt 0 rfl ha23 (v := (Value.slice (some ⟨(Array.size h12), 0, none⟩) (List.length l14) (List.length l14))) trivial fun h35 O36 => ?_
    have hx40 := hs_set (v := (Value.slice (some ⟨(Array.size h12), 0, none⟩) (List.length l14) (List.length l14))) hx30
    have O37 := O36.putX 0 2 rfl rfl hx40 rfl g39
    have O42 := O37.closeX 0 rfl
    exact (ih _ _ e) _ _ _ _ _ _ _ _ _ _ _ _ _ _ _ _ (O42.pick [0, 1]) rfl k_0 r_0 (lset' g39) he7 rfl k_13 r_13
  · cases e
    exact ⟨_, _, _, _, O.pick [0], rfl, rfl⟩
set_option maxRecDepth 100000 in
theorem roadref4_Past.l0_k.step_l1 (go : (p : roadref4_Past.l0_k.Pt) → Option ((List (List Bool)))) (ih : ∀ p r, go p = some r → roadref4_Past.l0_k.I p r) (a_0 : List T_api_Event) (a_3 : List (List Bool)) (x_4 : Int) (y_5 : T_api_Event) (x_6 : Int) (a_13 : List T_api_Event) (x_14 : Int) (x_15 : Int) (r : (List (List Bool))) (e : roadref4_Past.l0_k.body go (.l1 a_0 a_3 x_4 y_5 x_6 a_13 x_14 x_15) = some r) : roadref4_Past.l0_k.I (.l1 a_0 a_3 x_4 y_5 x_6 a_13 x_14 x_15) r := by
  unfold roadref4_Past.l0_k.body at e
  intro W h0 m0 h m A_0 n_0 c_0 A_3 n_3 c_3 bk_5 cs_5 A_13 n_13 c_13 O ne_0 k_0 r_0 ne_3 e_5 ne_13 k_13 r_13
  subst ne_0
  subst ne_3
  subst ne_13
  refine f28.l1_in ?_
  unfold f28.l1T
  refine split_dec_e e (fun c17 e => ?_) (fun c17 e => ?_)
  · obtain ⟨y1, g2, e⟩ := bind_e e
    refine r_0.addr rfl g2 fun a3 cs4 ha5 hc6 he7 => ?_
    refine ⟨_, ldAn O.s hc6 rfl, ?_⟩
    refine O.new fun h8 x9 O10 => ?_
    refine ⟨_, rfl, (T_api_Event.T.len _ _ _ he7), ?_⟩
    refine O10.stA 2 rfl (T_api_Event.T.len _ _ _ he7) (T_api_Event.T.flat _ _ _ he7) fun h12 O13 => ?_
    refine ⟨_, ld0 (Sub.refl _) (O13.all 2 rfl) (T_api_Event.g0 he7), _, rfl, ?_⟩
    refine ⟨_, ld0 (Sub.refl _) (O13.all 1 rfl) (T_api_Event.g0 e_5), _, rfl, ?_⟩
    refine split_eq_e e (fun c16 e => ?_) (fun c16 e => ?_)
    · exact (ih _ _ e) _ _ _ _ _ _ _ _ _ _ _ _ _ _ _ _ (O13.pick [0, 1]) rfl k_0 r_0 rfl e_5 rfl k_13 r_13
    · refine ⟨_, ldk (k := 1) (Sub.refl _) (O13.all 1 rfl) (T_api_Event.g1 e_5), _, rfl, ?_⟩
      refine split_eq_e e (fun c15 e => ?_) (fun c15 e => ?_)
      · refine ⟨_, ldk (k := 1) (Sub.refl _) (O13.all 2 rfl) (T_api_Event.g1 he7), _, rfl, ?_⟩
        refine split_eq_e e (fun c14 e => ?_) (fun c14 e => ?_)
        · refine ⟨_, ldk (k := 2) (Sub.refl _) (O13.all 2 rfl) (T_api_Event.g2 he7), _, rfl, ?_⟩
          refine ⟨_, ldk (k := 2) (Sub.refl _) (O13.all 1 rfl) (T_api_Event.g2 e_5), _, rfl, ?_⟩
          exact (ih _ _ e) _ _ _ _ _ _ _ _ _ _ _ _ _ _ _ _ (O13.pick [0, 1]) rfl k_0 r_0 rfl e_5 rfl k_13 r_13
        · exact (ih _ _ e) _ _ _ _ _ _ _ _ _ _ _ _ _ _ _ _ (O13.pick [0, 1]) rfl k_0 r_0 rfl e_5 rfl k_13 r_13
      · exact (ih _ _ e) _ _ _ _ _ _ _ _ _ _ _ _ _ _ _ _ (O13.pick [0, 1]) rfl k_0 r_0 rfl e_5 rfl k_13 r_13
  · exact (ih _ _ e) _ _ _ _ _ _ _ _ _ _ _ _ _ _ (O.pick [0]) rfl k_0 r_0 rfl rfl k_13 r_13
set_option maxRecDepth 100000 in
theorem roadref4_Past.l0_k.step_j1 (go : (p : roadref4_Past.l0_k.Pt) → Option ((List (List Bool)))) (ih : ∀ p r, go p = some r → roadref4_Past.l0_k.I p r) (a_0 : List T_api_Event) (a_3 : List (List Bool)) (x_4 : Int) (y_5 : T_api_Event) (x_6 : Int) (a_13 : List T_api_Event) (x_14 : Int) (x_15 : Int) (b_57 : Bool) (r : (List (List Bool))) (e : roadref4_Past.l0_k.body go (.j1 a_0 a_3 x_4 y_5 x_6 a_13 x_14 x_15 b_57) = some r) : roadref4_Past.l0_k.I (.j1 a_0 a_3 x_4 y_5 x_6 a_13 x_14 x_15 b_57) r := by
  unfold roadref4_Past.l0_k.body at e
  intro W h0 m0 h m A_0 n_0 c_0 A_3 n_3 c_3 bk_5 cs_5 A_13 n_13 c_13 O ne_0 k_0 r_0 ne_3 e_5 ne_13 k_13 r_13
  subst ne_0
  subst ne_3
  subst ne_13
  refine f28.j1_in ?_
  unfold f28.j1T
  refine split_any_e e (fun c37 e => ?_) (fun c37 e => ?_)
  · obtain ⟨y3, g4, e⟩ := bind_e e
    refine O.adr 0 rfl rfl g4 fun a1 ha2 => ?_
    obtain ⟨hs5, O6⟩ := O.openX 0 rfl g4
    obtain ⟨A7, c8, hx9, hc10, k11⟩ := O6.hdX 0 rfl ha2 g4
    refine ⟨_, ld0 (Sub.refl _) hc10 rfl, _, _, _, rfl, ?_⟩
    obtain ⟨y13, g14, e⟩ := bind_e e
    refine (O6.xos 0 rfl hx9 g4).addr rfl g14 fun a15 cs16 ha17 hc18 he19 => ?_
    obtain rfl : cs16 = [(Value.bool y13)] := he19
    obtain ⟨l23, g24, e⟩ := bind_e e
    have O20 := O6.takeX 0 rfl hx9 g4
    replace g24 := Option.some.inj g24
    refine O20.elst0 2 rfl g14 ha17 hc18 (by decide) (y' := true) rfl trivial g24 fun h21 O22 => ?_
    obtain ⟨y29, g30, e⟩ := bind_e e
    have O25 := O22.putX 0 2 rfl rfl hx9 (lset' g24) rfl
    have hx26 := hx_len hx9 (lset' g24)
    refine O25.adrX 0 rfl lset g30 fun a27 ha28 => ?_
    obtain ⟨A31, c32, hx33, hc34, k35⟩ := O25.hdX 0 rfl ha28 g30
    refine ⟨_, ld0 (Sub.refl _) hc34 rfl, _, _, _, rfl, ?_⟩
    exact (ih _ _ e) _ _ _ _ _ _ _ _ _ _ _ _ _ _ _ _ _ _ _ _ (O25.pick [0, 1]) rfl k_0 r_0 lset e_5 rfl k_13 r_13 rfl hx33 g30
  · exact (ih _ _ e) _ _ _ _ _ _ _ _ _ _ _ _ _ _ _ _ (O.pick [0, 1]) rfl k_0 r_0 rfl e_5 rfl k_13 r_13
set_option maxRecDepth 100000 in
theorem roadref4_Past.l0_k.step_l2 (go : (p : roadref4_Past.l0_k.Pt) → Option ((List (List Bool)))) (ih : ∀ p r, go p = some r → roadref4_Past.l0_k.I p r) (a_0 : List T_api_Event) (a_3 : List (List Bool)) (x_4 : Int) (y_5 : T_api_Event) (x_6 : Int) (a_13 : List T_api_Event) (x_14 : Int) (x_15 : Int) (x_68 : Int) (x_69 : Int) (x_67 : Int) (a_67 : List Bool) (r : (List (List Bool))) (e : roadref4_Past.l0_k.body go (.l2 a_0 a_3 x_4 y_5 x_6 a_13 x_14 x_15 x_68 x_69 x_67 a_67) = some r) : roadref4_Past.l0_k.I (.l2 a_0 a_3 x_4 y_5 x_6 a_13 x_14 x_15 x_68 x_69 x_67 a_67) r := by
  unfold roadref4_Past.l0_k.body at e
  intro W h0 m0 h m A_0 n_0 c_0 A_3 n_3 c_3 hs_3 bk_5 cs_5 A_13 n_13 c_13 A_67 n_67 c_67 O ne_0 k_0 r_0 ne_3 e_5 ne_13 k_13 r_13 ne_67 hx_67 g_67
  subst ne_0
  subst ne_3
  subst ne_13
  subst ne_67
  refine f28.l2_in ?_
  unfold f28.l2T
  refine split_dec_e e (fun c61 e => ?_) (fun c61 e => ?_)
  · obtain ⟨y1, g2, e⟩ := bind_e e
    refine (O.xos 0 rfl hx_67 g_67).addr rfl g2 fun a3 cs4 ha5 hc6 he7 => ?_
    obtain rfl : cs4 = [(Value.bool y1)] := he7
    refine ⟨_, ld0 (Sub.refl _) hc6 rfl, _, rfl, ?_⟩
    obtain ⟨y10, g11, e⟩ := bind_e e
    refine O.adrX 0 rfl rfl g11 fun a8 ha9 => ?_
    obtain ⟨y14, g15, e⟩ := bind_e e
    refine O.adrX 0 rfl rfl g15 fun a12 ha13 => ?_
    obtain ⟨A16, c17, hx18, hc19, k20⟩ := O.hdX 0 rfl ha9 g11
    refine ⟨_, ld0 (Sub.refl _) hc19 rfl, _, _, _, rfl, ?_⟩
    refine ⟨_, ld0 (Sub.refl _) (O.hcX 0 rfl ha13 hx18) rfl, _, _, _, rfl, ?_⟩
    obtain ⟨y22, g23, e⟩ := bind_e e
    refine (O.xos 0 rfl hx18 g11).addr rfl g23 fun a24 cs25 ha26 hc27 he28 => ?_
    obtain rfl : cs25 = [(Value.bool y22)] := he28
    refine ⟨_, ld0 (Sub.refl _) hc27 rfl, _, rfl, ?_⟩
    refine split_any_e e (fun c59 e => ?_) (fun c59 e => ?_)
    · obtain ⟨y29, g30, e⟩ := bind_e e
      refine (O.xos 0 rfl hx18 g11).addr rfl g30 fun a31 cs32 ha33 hc34 he35 => ?_
      obtain rfl : cs32 = [(Value.bool y29)] := he35
      obtain ⟨l39, g40, e⟩ := bind_e e
      have O36 := O.takeX 0 rfl hx18 g11
      replace g40 := Option.some.inj g40
      refine O36.elst0 2 rfl g30 ha33 hc34 (by decide) (y' := true) rfl trivial g40 fun h37 O38 => ?_
      have O41 := O38.putX 0 2 rfl rfl hx18 (lset' g40) rfl
      have hx42 := hx_len hx18 (lset' g40)
      obtain ⟨g43, e⟩ := guard_e e
      exact (ih _ _ e) _ _ _ _ _ _ _ _ _ _ _ _ _ _ _ _ _ _ _ _ (O41.pick [0, 1]) rfl k_0 r_0 lset e_5 rfl k_13 r_13 rfl hx_67 (gi_ne g_67 rfl g43)
    · obtain ⟨y44, g45, e⟩ := bind_e e
      refine (O.xos 0 rfl hx18 g11).addr rfl g45 fun a46 cs47 ha48 hc49 he50 => ?_
      obtain rfl : cs47 = [(Value.bool y44)] := he50
      obtain ⟨l54, g55, e⟩ := bind_e e
      have O51 := O.takeX 0 rfl hx18 g11
      replace g55 := Option.some.inj g55
      refine O51.elst0 2 rfl g45 ha48 hc49 (by decide) (y' := y1) rfl trivial g55 fun h52 O53 => ?_
      have O56 := O53.putX 0 2 rfl rfl hx18 (lset' g55) rfl
      have hx57 := hx_len hx18 (lset' g55)
      obtain ⟨g58, e⟩ := guard_e e
      exact (ih _ _ e) _ _ _ _ _ _ _ _ _ _ _ _ _ _ _ _ _ _ _ _ (O56.pick [0, 1]) rfl k_0 r_0 lset e_5 rfl k_13 r_13 rfl hx_67 (gi_ne g_67 rfl g58)
  · have O60 := O.closeX 0 rfl
    exact (ih _ _ e) _ _ _ _ _ _ _ _ _ _ _ _ _ _ _ _ (O60.pick [0, 1]) rfl k_0 r_0 rfl e_5 rfl k_13 r_13
set_option maxRecDepth 100000 in
theorem roadref4_Past.l0_k.step_j0 (go : (p : roadref4_Past.l0_k.Pt) → Option ((List (List Bool)))) (ih : ∀ p r, go p = some r → roadref4_Past.l0_k.I p r) (a_0 : List T_api_Event) (a_3 : List (List Bool)) (x_4 : Int) (y_5 : T_api_Event) (x_6 : Int) (a_13 : List T_api_Event) (x_14 : Int) (x_15 : Int) (r : (List (List Bool))) (e : roadref4_Past.l0_k.body go (.j0 a_0 a_3 x_4 y_5 x_6 a_13 x_14 x_15) = some r) : roadref4_Past.l0_k.I (.j0 a_0 a_3 x_4 y_5 x_6 a_13 x_14 x_15) r := by
  unfold roadref4_Past.l0_k.body at e
  intro W h0 m0 h m A_0 n_0 c_0 A_3 n_3 c_3 bk_5 cs_5 A_13 n_13 c_13 O ne_0 k_0 r_0 ne_3 e_5 ne_13 k_13 r_13
  subst ne_0
  subst ne_3
  subst ne_13
  refine f28.j0_in ?_
  unfold f28.j0T
  exact (ih _ _ e) _ _ _ _ _ _ _ _ _ _ _ _ _ _ _ _ (O.pick [0, 1]) rfl k_0 r_0 rfl e_5 rfl k_13 r_13
theorem roadref4_Past.l0_k.all {p : roadref4_Past.l0_k.Pt} {r : ((List (List Bool)))} (e : roadref4_Past.l0_k.go p = some r) : roadref4_Past.l0_k.I p r := fixF_ind (β := fun _ => ((List (List Bool)))) roadref4_Past.l0_k.mono (I := roadref4_Past.l0_k.I) (fun go ih p r e => match p with
  | .l0 a_0 a_3 a_13 x_14 x_15 => roadref4_Past.l0_k.step_l0 go ih a_0 a_3 a_13 x_14 x_15 r e
  | .l1 a_0 a_3 x_4 y_5 x_6 a_13 x_14 x_15 => roadref4_Past.l0_k.step_l1 go ih a_0 a_3 x_4 y_5 x_6 a_13 x_14 x_15 r e
  | .j1 a_0 a_3 x_4 y_5 x_6 a_13 x_14 x_15 b_57 => roadref4_Past.l0_k.step_j1 go ih a_0 a_3 x_4 y_5 x_6 a_13 x_14 x_15 b_57 r e
  | .l2 a_0 a_3 x_4 y_5 x_6 a_13 x_14 x_15 x_68 x_69 x_67 a_67 => roadref4_Past.l0_k.step_l2 go ih a_0 a_3 x_4 y_5 x_6 a_13 x_14 x_15 x_68 x_69 x_67 a_67 r e
  | .j0 a_0 a_3 x_4 y_5 x_6 a_13 x_14 x_15 => roadref4_Past.l0_k.step_j0 go ih a_0 a_3 x_4 y_5 x_6 a_13 x_14 x_15 r e
  ) e
theorem roadref4_Past.l0.walk {W : Nat → Prop} {h0 m0 h m : Heap} {A_0 : Option Addr} {n_0 c_0 : Nat} {A_3 : Option Addr} {n_3 c_3 : Nat} {A_13 : Option Addr} {n_13 c_13 : Nat} {a_0 : List T_api_Event} {a_3 : List (List Bool)} {a_13 : List T_api_Event} {x_14 : Int} {x_15 : Int} (O : Hold W h0 m0 h m [rR (aRow (aE tell_bool)) A_3 c_3 a_3]) (ne_0 : n_0 = List.length a_0) (k_0 : List.length a_0 ≤ c_0) (r_0 : Rd 3 T_api_Event.E m A_0 a_0) (ne_3 : n_3 = List.length a_3) (ne_13 : n_13 = List.length a_13) (k_13 : List.length a_13 ≤ c_13) (r_13 : Rd 3 T_api_Event.E m A_13 a_13) {r : (List (List Bool))} (e : roadref4_Past.l0 a_0 a_3 a_13 x_14 x_15 = some r) : f28.l0 (roadref4_Past.post W h0 m0 r) A_0 n_0 c_0 A_3 n_3 c_3 A_13 n_13 c_13 x_14 x_15 h := roadref4_Past.l0_k.all (p := .l0 a_0 a_3 a_13 x_14 x_15) e W h0 m0 h m A_0 n_0 c_0 A_3 n_3 c_3 A_13 n_13 c_13 O ne_0 k_0 r_0 ne_3 ne_13 k_13 r_13
theorem roadref4_Past.l1.walk {W : Nat → Prop} {h0 m0 h m : Heap} {A_0 : Option Addr} {n_0 c_0 : Nat} {A_3 : Option Addr} {n_3 c_3 : Nat} {bk_5 : Nat} {cs_5 : List Value} {A_13 : Option Addr} {n_13 c_13 : Nat} {a_0 : List T_api_Event} {a_3 : List (List Bool)} {x_4 : Int} {y_5 : T_api_Event} {x_6 : Int} {a_13 : List T_api_Event} {x_14 : Int} {x_15 : Int} (O : Hold W h0 m0 h m [rR (aRow (aE tell_bool)) A_3 c_3 a_3, rV bk_5 88 cs_5]) (ne_0 : n_0 = List.length a_0) (k_0 : List.length a_0 ≤ c_0) (r_0 : Rd 3 T_api_Event.E m A_0 a_0) (ne_3 : n_3 = List.length a_3) (e_5 : T_api_Event.E m y_5 cs_5) (ne_13 : n_13 = List.length a_13) (k_13 : List.length a_13 ≤ c_13) (r_13 : Rd 3 T_api_Event.E m A_13 a_13) {r : (List (List Bool))} (e : roadref4_Past.l1 a_0 a_3 x_4 y_5 x_6 a_13 x_14 x_15 = some r) : f28.l1 (roadref4_Past.post W h0 m0 r) A_0 n_0 c_0 A_3 n_3 c_3 x_4 (⟨bk_5, 0, none⟩ : Addr) x_6 A_13 n_13 c_13 x_14 x_15 h := roadref4_Past.l0_k.all (p := .l1 a_0 a_3 x_4 y_5 x_6 a_13 x_14 x_15) e W h0 m0 h m A_0 n_0 c_0 A_3 n_3 c_3 bk_5 cs_5 A_13 n_13 c_13 O ne_0 k_0 r_0 ne_3 e_5 ne_13 k_13 r_13
theorem roadref4_Past.j1.walk {W : Nat → Prop} {h0 m0 h m : Heap} {A_0 : Option Addr} {n_0 c_0 : Nat} {A_3 : Option Addr} {n_3 c_3 : Nat} {bk_5 : Nat} {cs_5 : List Value} {A_13 : Option Addr} {n_13 c_13 : Nat} {a_0 : List T_api_Event} {a_3 : List (List Bool)} {x_4 : Int} {y_5 : T_api_Event} {x_6 : Int} {a_13 : List T_api_Event} {x_14 : Int} {x_15 : Int} {b_57 : Bool} (O : Hold W h0 m0 h m [rR (aRow (aE tell_bool)) A_3 c_3 a_3, rV bk_5 88 cs_5]) (ne_0 : n_0 = List.length a_0) (k_0 : List.length a_0 ≤ c_0) (r_0 : Rd 3 T_api_Event.E m A_0 a_0) (ne_3 : n_3 = List.length a_3) (e_5 : T_api_Event.E m y_5 cs_5) (ne_13 : n_13 = List.length a_13) (k_13 : List.length a_13 ≤ c_13) (r_13 : Rd 3 T_api_Event.E m A_13 a_13) {r : (List (List Bool))} (e : roadref4_Past.j1 a_0 a_3 x_4 y_5 x_6 a_13 x_14 x_15 b_57 = some r) : f28.j1 (roadref4_Past.post W h0 m0 r) A_0 n_0 c_0 A_3 n_3 c_3 x_4 (⟨bk_5, 0, none⟩ : Addr) x_6 A_13 n_13 c_13 x_14 x_15 b_57 h := roadref4_Past.l0_k.all (p := .j1 a_0 a_3 x_4 y_5 x_6 a_13 x_14 x_15 b_57) e W h0 m0 h m A_0 n_0 c_0 A_3 n_3 c_3 bk_5 cs_5 A_13 n_13 c_13 O ne_0 k_0 r_0 ne_3 e_5 ne_13 k_13 r_13
theorem roadref4_Past.l2.walk {W : Nat → Prop} {h0 m0 h m : Heap} {A_0 : Option Addr} {n_0 c_0 : Nat} {A_3 : Option Addr} {n_3 c_3 : Nat} {hs_3 : List Value} {bk_5 : Nat} {cs_5 : List Value} {A_13 : Option Addr} {n_13 c_13 : Nat} {A_67 : Option Addr} {n_67 c_67 : Nat} {a_0 : List T_api_Event} {a_3 : List (List Bool)} {x_4 : Int} {y_5 : T_api_Event} {x_6 : Int} {a_13 : List T_api_Event} {x_14 : Int} {x_15 : Int} {x_68 : Int} {x_69 : Int} {x_67 : Int} {a_67 : List Bool} (O : Hold W h0 m0 h m [rX (aRow (aE tell_bool)) A_3 c_3 a_3 hs_3 none, rV bk_5 88 cs_5]) (ne_0 : n_0 = List.length a_0) (k_0 : List.length a_0 ≤ c_0) (r_0 : Rd 3 T_api_Event.E m A_0 a_0) (ne_3 : n_3 = List.length a_3) (e_5 : T_api_Event.E m y_5 cs_5) (ne_13 : n_13 = List.length a_13) (k_13 : List.length a_13 ≤ c_13) (r_13 : Rd 3 T_api_Event.E m A_13 a_13) (ne_67 : n_67 = List.length a_67) (hx_67 : hs_3[Int.toNat x_67]? = some (.slice A_67 n_67 c_67)) (g_67 : gi a_3 x_67 = some a_67) {r : (List (List Bool))} (e : roadref4_Past.l2 a_0 a_3 x_4 y_5 x_6 a_13 x_14 x_15 x_68 x_69 x_67 a_67 = some r) : f28.l2 (roadref4_Past.post W h0 m0 r) A_0 n_0 c_0 A_3 n_3 c_3 x_4 (⟨bk_5, 0, none⟩ : Addr) x_6 A_13 n_13 c_13 x_14 x_15 A_67 n_67 c_67 x_68 x_69 h := roadref4_Past.l0_k.all (p := .l2 a_0 a_3 x_4 y_5 x_6 a_13 x_14 x_15 x_68 x_69 x_67 a_67) e W h0 m0 h m A_0 n_0 c_0 A_3 n_3 c_3 hs_3 bk_5 cs_5 A_13 n_13 c_13 A_67 n_67 c_67 O ne_0 k_0 r_0 ne_3 e_5 ne_13 k_13 r_13 ne_67 hx_67 g_67
theorem roadref4_Past.j0.walk {W : Nat → Prop} {h0 m0 h m : Heap} {A_0 : Option Addr} {n_0 c_0 : Nat} {A_3 : Option Addr} {n_3 c_3 : Nat} {bk_5 : Nat} {cs_5 : List Value} {A_13 : Option Addr} {n_13 c_13 : Nat} {a_0 : List T_api_Event} {a_3 : List (List Bool)} {x_4 : Int} {y_5 : T_api_Event} {x_6 : Int} {a_13 : List T_api_Event} {x_14 : Int} {x_15 : Int} (O : Hold W h0 m0 h m [rR (aRow (aE tell_bool)) A_3 c_3 a_3, rV bk_5 88 cs_5]) (ne_0 : n_0 = List.length a_0) (k_0 : List.length a_0 ≤ c_0) (r_0 : Rd 3 T_api_Event.E m A_0 a_0) (ne_3 : n_3 = List.length a_3) (e_5 : T_api_Event.E m y_5 cs_5) (ne_13 : n_13 = List.length a_13) (k_13 : List.length a_13 ≤ c_13) (r_13 : Rd 3 T_api_Event.E m A_13 a_13) {r : (List (List Bool))} (e : roadref4_Past.j0 a_0 a_3 x_4 y_5 x_6 a_13 x_14 x_15 = some r) : f28.j0 (roadref4_Past.post W h0 m0 r) A_0 n_0 c_0 A_3 n_3 c_3 x_4 (⟨bk_5, 0, none⟩ : Addr) x_6 A_13 n_13 c_13 x_14 x_15 h := roadref4_Past.l0_k.all (p := .j0 a_0 a_3 x_4 y_5 x_6 a_13 x_14 x_15) e W h0 m0 h m A_0 n_0 c_0 A_3 n_3 c_3 bk_5 cs_5 A_13 n_13 c_13 O ne_0 k_0 r_0 ne_3 e_5 ne_13 k_13 r_13

noncomputable def roadref4_Past (a_0 : List T_api_Event) : Option ((List (List Bool))) :=
  Option.bind (mks 24 (((List.length a_0) : Nat) : Int) ([] : (List Bool))) fun l1 => (roadref4_Past.l0 a_0 l1 a_0 (((List.length a_0) : Nat) : Int) (0 : Int))
set_option maxRecDepth 100000 in
theorem roadref4_Past.walk {W : Nat → Prop} {h m : Heap} {A_0 : Option Addr} {n_0 c_0 : Nat} {a_0 : List T_api_Event} (O : Hold W h m h m []) (ne_0 : n_0 = List.length a_0) (k_0 : List.length a_0 ≤ c_0) (r_0 : Rd 3 T_api_Event.E m A_0 a_0) {r : (List (List Bool))} (e : roadref4_Past a_0 = some r) : Run Try.prog 28 #[Value.slice A_0 n_0 c_0] h (roadref4_Past.post W h m r) := by
  unfold roadref4_Past at e
  subst ne_0
  refine f28.run ?_
  unfold f28.runT
  obtain ⟨l1, g2, e⟩ := bind_e e
  have q3 := mks_e g2
  refine ⟨q3.1, Int.le_refl _, q3.2.1, q3.2.2.1, ?_⟩
  refine O.new fun h4 x5 O6 => ?_
  have O7 := O6.made 0 rfl (aRow (aE tell_bool)) g2 aRow_nil
  try rw [q3.2.2.2.1]
  exact roadref4_Past.l0.walk (O7.pick [0]) rfl k_0 r_0 rfl rfl k_0 r_0 e

/-! ### 29 slices.Equal[[]int,int] -/
def slices_Equal_29.post (W : Nat → Prop) (h0 m0 : Heap) (r : Bool) (v : Value) (h : Heap) : Prop := ∃ m , Hold W h0 m0 h m [] ∧ v = .bool r
inductive slices_Equal_29.l0_k.Pt where
  | l0 (a_0 : List Int) (a_1 : List Int) (x_12 : Int) (x_13 : Int)
noncomputable def slices_Equal_29.l0_k.body (go : (p : slices_Equal_29.l0_k.Pt) → Option (Bool)) : (p : slices_Equal_29.l0_k.Pt) → Option (Bool)
  | .l0 a_0 a_1 x_12 x_13 => if x_13 < x_12 then (Option.bind (gi a_0 x_13) fun y1 => Option.bind (gi a_1 x_13) fun y8 => if y1 = y8 then ((go (.l0 a_0 a_1 x_12 (IntKind.wrap .i64 (x_13 + (1 : Int)))))) else (some (false))) else (some (true))
theorem slices_Equal_29.l0_k.mono : MonoF (β := fun _ => (Bool)) slices_Equal_29.l0_k.body := fun f g hfg p => match p with
  | .l0 a_0 a_1 x_12 x_13 => LeO.ite (LeO.bind (LeO.refl _) fun y1 => LeO.bind (LeO.refl _) fun y8 => LeO.ite ((hfg _)) (LeO.refl _)) (LeO.refl _)
noncomputable def slices_Equal_29.l0_k.go (p : slices_Equal_29.l0_k.Pt) : Option (Bool) := fixF (β := fun _ => (Bool)) slices_Equal_29.l0_k.body p
noncomputable def slices_Equal_29.l0 (a_0 : List Int) (a_1 : List Int) (x_12 : Int) (x_13 : Int) : Option (Bool) := slices_Equal_29.l0_k.go (.l0 a_0 a_1 x_12 x_13)
theorem slices_Equal_29.l0_eq (a_0 : List Int) (a_1 : List Int) (x_12 : Int) (x_13 : Int) : slices_Equal_29.l0 a_0 a_1 x_12 x_13 = if x_13 < x_12 then (Option.bind (gi a_0 x_13) fun y1 => Option.bind (gi a_1 x_13) fun y8 => if y1 = y8 then ((slices_Equal_29.l0 a_0 a_1 x_12 (IntKind.wrap .i64 (x_13 + (1 : Int))))) else (some (false))) else (some (true)) := fixF_eq slices_Equal_29.l0_k.mono _
def slices_Equal_29.l0_k.I : (p : slices_Equal_29.l0_k.Pt) → (Bool) → Prop
  | .l0 a_0 a_1 x_12 x_13, r => ∀ (W : Nat → Prop) (h0 m0 h m : Heap) (A_0 : Option Addr) (n_0 c_0 : Nat) (A_1 : Option Addr) (n_1 c_1 : Nat) (O : Hold W h0 m0 h m []) (ne_0 : n_0 = List.length a_0) (k_0 : List.length a_0 ≤ c_0) (r_0 : Rd 1 (eInt .i64) m A_0 a_0) (ne_1 : n_1 = List.length a_1) (k_1 : List.length a_1 ≤ c_1) (r_1 : Rd 1 (eInt .i64) m A_1 a_1), f29.l0 (slices_Equal_29.post W h0 m0 r) A_0 n_0 c_0 A_1 n_1 c_1 x_12 x_13 h
set_option maxRecDepth 100000 in
theorem slices_Equal_29.l0_k.step_l0 (go : (p : slices_Equal_29.l0_k.Pt) → Option (Bool)) (ih : ∀ p r, go p = some r → slices_Equal_29.l0_k.I p r) (a_0 : List Int) (a_1 : List Int) (x_12 : Int) (x_13 : Int) (r : Bool) (e : slices_Equal_29.l0_k.body go (.l0 a_0 a_1 x_12 x_13) = some r) : slices_Equal_29.l0_k.I (.l0 a_0 a_1 x_12 x_13) r := by
  unfold slices_Equal_29.l0_k.body at e
  intro W h0 m0 h m A_0 n_0 c_0 A_1 n_1 c_1 O ne_0 k_0 r_0 ne_1 k_1 r_1
  subst ne_0
  subst ne_1
  refine f29.l0_in ?_
  unfold f29.l0T
  refine split_dec_e e (fun c16 e => ?_) (fun c16 e => ?_)
  · obtain ⟨y1, g2, e⟩ := bind_e e
    refine r_0.addr rfl g2 fun a3 cs4 ha5 hc6 he7 => ?_
    obtain rfl : cs4 = [(Value.int .i64 y1)] := he7
    obtain ⟨y8, g9, e⟩ := bind_e e
    refine r_1.addr rfl g9 fun a10 cs11 ha12 hc13 he14 => ?_
    obtain rfl : cs11 = [(Value.int .i64 y8)] := he14
    refine ⟨_, ld0 O.s hc6 rfl, _, rfl, ?_⟩
    refine ⟨_, ld0 O.s hc13 rfl, _, rfl, ?_⟩
    refine split_ne_e e (fun c15 e => ?_) (fun c15 e => ?_)
    · cases e
      exact ⟨_, O.pick [], rfl⟩
    · exact (ih _ _ e) _ _ _ _ _ _ _ _ _ _ _ (O.pick []) rfl k_0 r_0 rfl k_1 r_1
  · cases e
    exact ⟨_, O.pick [], rfl⟩
theorem slices_Equal_29.l0_k.all {p : slices_Equal_29.l0_k.Pt} {r : (Bool)} (e : slices_Equal_29.l0_k.go p = some r) : slices_Equal_29.l0_k.I p r := fixF_ind (β := fun _ => (Bool)) slices_Equal_29.l0_k.mono (I := slices_Equal_29.l0_k.I) (fun go ih p r e => match p with
  | .l0 a_0 a_1 x_12 x_13 => slices_Equal_29.l0_k.step_l0 go ih a_0 a_1 x_12 x_13 r e
  ) e
theorem slices_Equal_29.l0.walk {W : Nat → Prop} {h0 m0 h m : Heap} {A_0 : Option Addr} {n_0 c_0 : Nat} {A_1 : Option Addr} {n_1 c_1 : Nat} {a_0 : List Int} {a_1 : List Int} {x_12 : Int} {x_13 : Int} (O : Hold W h0 m0 h m []) (ne_0 : n_0 = List.length a_0) (k_0 : List.length a_0 ≤ c_0) (r_0 : Rd 1 (eInt .i64) m A_0 a_0) (ne_1 : n_1 = List.length a_1) (k_1 : List.length a_1 ≤ c_1) (r_1 : Rd 1 (eInt .i64) m A_1 a_1) {r : Bool} (e : slices_Equal_29.l0 a_0 a_1 x_12 x_13 = some r) : f29.l0 (slices_Equal_29.post W h0 m0 r) A_0 n_0 c_0 A_1 n_1 c_1 x_12 x_13 h := slices_Equal_29.l0_k.all (p := .l0 a_0 a_1 x_12 x_13) e W h0 m0 h m A_0 n_0 c_0 A_1 n_1 c_1 O ne_0 k_0 r_0 ne_1 k_1 r_1

noncomputable def slices_Equal_29 (a_0 : List Int) (a_1 : List Int) : Option (Bool) :=
  if (((List.length a_0) : Nat) : Int) = (((List.length a_1) : Nat) : Int) then ((slices_Equal_29.l0 a_0 a_1 (((List.length a_0) : Nat) : Int) (0 : Int))) else (some (false))
set_option maxRecDepth 100000 in
theorem slices_Equal_29.walk {W : Nat → Prop} {h m : Heap} {A_0 : Option Addr} {n_0 c_0 : Nat} {A_1 : Option Addr} {n_1 c_1 : Nat} {a_0 : List Int} {a_1 : List Int} (O : Hold W h m h m []) (ne_0 : n_0 = List.length a_0) (k_0 : List.length a_0 ≤ c_0) (r_0 : Rd 1 (eInt .i64) m A_0 a_0) (ne_1 : n_1 = List.length a_1) (k_1 : List.length a_1 ≤ c_1) (r_1 : Rd 1 (eInt .i64) m A_1 a_1) {r : Bool} (e : slices_Equal_29 a_0 a_1 = some r) : Run Try.prog 29 #[Value.slice A_0 n_0 c_0, Value.slice A_1 n_1 c_1] h (slices_Equal_29.post W h m r) := by
  unfold slices_Equal_29 at e
  subst ne_0
  subst ne_1
  refine f29.run ?_
  unfold f29.runT
  refine split_ne_e e (fun c1 e => ?_) (fun c1 e => ?_)
  · cases e
    exact ⟨_, O.pick [], rfl⟩
  · exact slices_Equal_29.l0.walk (O.pick []) rfl k_0 r_0 rfl k_1 r_1 e
theorem slices_Equal_29.val (l m : List Int) (hl : l.length ≤ 4611686018427387904) : ∃ b, slices_Equal_29 l m = some b ∧ (b = true ↔ l = m) := equal_val (R := fun x y => x = y) (fun a b n i => slices_Equal_29.l0_eq a b n i) (fun _ _ => rfl) (fun _ _ => Iff.rfl) l m hl

/-! ### 30 roadstead/roadref4.Clock -/
def roadref4_Clock.post (W : Nat → Prop) (h0 m0 : Heap) (r : (List Int)) (v : Value) (h : Heap) : Prop := ∃ m A0 n0 c0, Hold W h0 m0 h m [rR (aE (tell_int .i64)) A0 c0 r] ∧ v = .slice A0 n0 c0 ∧ n0 = List.length r
inductive roadref4_Clock.l0_k.Pt where
  | l0 (a_1 : List Bool) (x_2 : Int) (a_7 : List Int) (a_11 : List T_api_Event) (x_12 : Int) (x_13 : Int)
  | j0 (a_1 : List Bool) (x_2 : Int) (a_7 : List Int) (y_9 : T_api_Event) (a_11 : List T_api_Event) (x_12 : Int) (x_13 : Int) (b_26 : Bool)
noncomputable def roadref4_Clock.l0_k.body (go : (p : roadref4_Clock.l0_k.Pt) → Option ((List Int))) : (p : roadref4_Clock.l0_k.Pt) → Option ((List Int))
  | .l0 a_1 x_2 a_7 a_11 x_12 x_13 => if x_13 < x_12 then (Option.bind (gi a_11 x_13) fun y1 => if x_13 = x_2 then ((go (.j0 a_1 x_2 a_7 y1 a_11 x_12 x_13 true))) else (Option.bind (gi a_1 x_13) fun y14 => (go (.j0 a_1 x_2 a_7 y1 a_11 x_12 x_13 y14)))) else (some (a_7))
  | .j0 a_1 x_2 a_7 y_9 a_11 x_12 x_13 b_26 => if b_26 = true then (Option.bind (gi a_7 y_9.Place) fun y1 => Option.bind (gi a_7 y_9.Place) fun y8 => Option.bind (some (List.set a_7 (Int.toNat y_9.Place) (IntKind.wrap .i64 (y1 + (1 : Int))))) fun l17 => (go (.l0 a_1 x_2 l17 a_11 x_12 (IntKind.wrap .i64 (x_13 + (1 : Int)))))) else ((go (.l0 a_1 x_2 a_7 a_11 x_12 (IntKind.wrap .i64 (x_13 + (1 : Int))))))
theorem roadref4_Clock.l0_k.mono : MonoF (β := fun _ => ((List Int))) roadref4_Clock.l0_k.body := fun f g hfg p => match p with
  | .l0 a_1 x_2 a_7 a_11 x_12 x_13 => LeO.ite (LeO.bind (LeO.refl _) fun y1 => LeO.ite ((hfg _)) (LeO.bind (LeO.refl _) fun y14 => (hfg _))) (LeO.refl _)
  | .j0 a_1 x_2 a_7 y_9 a_11 x_12 x_13 b_26 => LeO.ite (LeO.bind (LeO.refl _) fun y1 => LeO.bind (LeO.refl _) fun y8 => LeO.bind (LeO.refl _) fun l17 => (hfg _)) ((hfg _))
noncomputable def roadref4_Clock.l0_k.go (p : roadref4_Clock.l0_k.Pt) : Option ((List Int)) := fixF (β := fun _ => ((List Int))) roadref4_Clock.l0_k.body p
noncomputable def roadref4_Clock.l0 (a_1 : List Bool) (x_2 : Int) (a_7 : List Int) (a_11 : List T_api_Event) (x_12 : Int) (x_13 : Int) : Option ((List Int)) := roadref4_Clock.l0_k.go (.l0 a_1 x_2 a_7 a_11 x_12 x_13)
noncomputable def roadref4_Clock.j0 (a_1 : List Bool) (x_2 : Int) (a_7 : List Int) (y_9 : T_api_Event) (a_11 : List T_api_Event) (x_12 : Int) (x_13 : Int) (b_26 : Bool) : Option ((List Int)) := roadref4_Clock.l0_k.go (.j0 a_1 x_2 a_7 y_9 a_11 x_12 x_13 b_26)
theorem roadref4_Clock.l0_eq (a_1 : List Bool) (x_2 : Int) (a_7 : List Int) (a_11 : List T_api_Event) (x_12 : Int) (x_13 : Int) : roadref4_Clock.l0 a_1 x_2 a_7 a_11 x_12 x_13 = if x_13 < x_12 then (Option.bind (gi a_11 x_13) fun y1 => if x_13 = x_2 then ((roadref4_Clock.j0 a_1 x_2 a_7 y1 a_11 x_12 x_13 true)) else (Option.bind (gi a_1 x_13) fun y14 => (roadref4_Clock.j0 a_1 x_2 a_7 y1 a_11 x_12 x_13 y14))) else (some (a_7)) := fixF_eq roadref4_Clock.l0_k.mono _
theorem roadref4_Clock.j0_eq (a_1 : List Bool) (x_2 : Int) (a_7 : List Int) (y_9 : T_api_Event) (a_11 : List T_api_Event) (x_12 : Int) (x_13 : Int) (b_26 : Bool) : roadref4_Clock.j0 a_1 x_2 a_7 y_9 a_11 x_12 x_13 b_26 = if b_26 = true then (Option.bind (gi a_7 y_9.Place) fun y1 => Option.bind (gi a_7 y_9.Place) fun y8 => Option.bind (some (List.set a_7 (Int.toNat y_9.Place) (IntKind.wrap .i64 (y1 + (1 : Int))))) fun l17 => (roadref4_Clock.l0 a_1 x_2 l17 a_11 x_12 (IntKind.wrap .i64 (x_13 + (1 : Int))))) else ((roadref4_Clock.l0 a_1 x_2 a_7 a_11 x_12 (IntKind.wrap .i64 (x_13 + (1 : Int))))) := fixF_eq roadref4_Clock.l0_k.mono _
def roadref4_Clock.l0_k.I : (p : roadref4_Clock.l0_k.Pt) → ((List Int)) → Prop
  | .l0 a_1 x_2 a_7 a_11 x_12 x_13, r => ∀ (W : Nat → Prop) (h0 m0 h m : Heap) (A_1 : Option Addr) (n_1 c_1 : Nat) (A_7 : Option Addr) (n_7 c_7 : Nat) (A_11 : Option Addr) (n_11 c_11 : Nat) (O : Hold W h0 m0 h m [rR (aE (tell_int .i64)) A_7 c_7 a_7]) (ne_1 : n_1 = List.length a_1) (k_1 : List.length a_1 ≤ c_1) (r_1 : Rd 1 eBool m A_1 a_1) (ne_7 : n_7 = List.length a_7) (ne_11 : n_11 = List.length a_11) (k_11 : List.length a_11 ≤ c_11) (r_11 : Rd 3 T_api_Event.E m A_11 a_11), f30.l0 (roadref4_Clock.post W h0 m0 r) A_1 n_1 c_1 x_2 A_7 n_7 c_7 A_11 n_11 c_11 x_12 x_13 h
  | .j0 a_1 x_2 a_7 y_9 a_11 x_12 x_13 b_26, r => ∀ (W : Nat → Prop) (h0 m0 h m : Heap) (A_1 : Option Addr) (n_1 c_1 : Nat) (A_7 : Option Addr) (n_7 c_7 : Nat) (bk_9 : Nat) (cs_9 : List Value) (A_11 : Option Addr) (n_11 c_11 : Nat) (O : Hold W h0 m0 h m [rR (aE (tell_int .i64)) A_7 c_7 a_7, rV bk_9 88 cs_9]) (ne_1 : n_1 = List.length a_1) (k_1 : List.length a_1 ≤ c_1) (r_1 : Rd 1 eBool m A_1 a_1) (ne_7 : n_7 = List.length a_7) (e_9 : T_api_Event.E m y_9 cs_9) (ne_11 : n_11 = List.length a_11) (k_11 : List.length a_11 ≤ c_11) (r_11 : Rd 3 T_api_Event.E m A_11 a_11), f30.j0 (roadref4_Clock.post W h0 m0 r) A_1 n_1 c_1 x_2 A_7 n_7 c_7 (⟨bk_9, 0, none⟩ : Addr) A_11 n_11 c_11 x_12 x_13 b_26 h
set_option maxRecDepth 100000 in
theorem roadref4_Clock.l0_k.step_l0 (go : (p : roadref4_Clock.l0_k.Pt) → Option ((List Int))) (ih : ∀ p r, go p = some r → roadref4_Clock.l0_k.I p r) (a_1 : List Bool) (x_2 : Int) (a_7 : List Int) (a_11 : List T_api_Event) (x_12 : Int) (x_13 : Int) (r : (List Int)) (e : roadref4_Clock.l0_k.body go (.l0 a_1 x_2 a_7 a_11 x_12 x_13) = some r) : roadref4_Clock.l0_k.I (.l0 a_1 x_2 a_7 a_11 x_12 x_13) r := by
  unfold roadref4_Clock.l0_k.body at e
  intro W h0 m0 h m A_1 n_1 c_1 A_7 n_7 c_7 A_11 n_11 c_11 O ne_1 k_1 r_1 ne_7 ne_11 k_11 r_11
  subst ne_1
  subst ne_7
  subst ne_11
  refine f30.l0_in ?_
  unfold f30.l0T
  refine split_dec_e e (fun c22 e => ?_) (fun c22 e => ?_)
  · obtain ⟨y1, g2, e⟩ := bind_e e
    refine r_11.addr rfl g2 fun a3 cs4 ha5 hc6 he7 => ?_
    refine ⟨_, ldAn O.s hc6 rfl, ?_⟩
    refine O.new fun h8 x9 O10 => ?_
    refine ⟨_, rfl, (T_api_Event.T.len _ _ _ he7), ?_⟩
    refine O10.stA 1 rfl (T_api_Event.T.len _ _ _ he7) (T_api_Event.T.flat _ _ _ he7) fun h12 O13 => ?_
    refine split_eq_e e (fun c21 e => ?_) (fun c21 e => ?_)
    · exact (ih _ _ e) _ _ _ _ _ _ _ _ _ _ _ _ _ _ _ _ (O13.pick [0, 1]) rfl k_1 r_1 rfl he7 rfl k_11 r_11
    · obtain ⟨y14, g15, e⟩ := bind_e e
      refine r_1.addr rfl g15 fun a16 cs17 ha18 hc19 he20 => ?_
      obtain rfl : cs17 = [(Value.bool y14)] := he20
      refine ⟨_, ld0 O13.s hc19 rfl, _, rfl, ?_⟩
      exact (ih _ _ e) _ _ _ _ _ _ _ _ _ _ _ _ _ _ _ _ (O13.pick [0, 1]) rfl k_1 r_1 rfl he7 rfl k_11 r_11
  · cases e
    exact ⟨_, _, _, _, O.pick [0], rfl, rfl⟩
set_option maxRecDepth 100000 in
theorem roadref4_Clock.l0_k.step_j0 (go : (p : roadref4_Clock.l0_k.Pt) → Option ((List Int))) (ih : ∀ p r, go p = some r → roadref4_Clock.l0_k.I p r) (a_1 : List Bool) (x_2 : Int) (a_7 : List Int) (y_9 : T_api_Event) (a_11 : List T_api_Event) (x_12 : Int) (x_13 : Int) (b_26 : Bool) (r : (List Int)) (e : roadref4_Clock.l0_k.body go (.j0 a_1 x_2 a_7 y_9 a_11 x_12 x_13 b_26) = some r) : roadref4_Clock.l0_k.I (.j0 a_1 x_2 a_7 y_9 a_11 x_12 x_13 b_26) r := by
  unfold roadref4_Clock.l0_k.body at e
  intro W h0 m0 h m A_1 n_1 c_1 A_7 n_7 c_7 bk_9 cs_9 A_11 n_11 c_11 O ne_1 k_1 r_1 ne_7 e_9 ne_11 k_11 r_11
  subst ne_1
  subst ne_7
  subst ne_11
  refine f30.j0_in ?_
  unfold f30.j0T
  refine split_any_e e (fun c19 e => ?_) (fun c19 e => ?_)
  · refine ⟨_, ld0 (Sub.refl _) (O.all 1 rfl) (T_api_Event.g0 e_9), _, rfl, ?_⟩
    obtain ⟨y1, g2, e⟩ := bind_e e
    refine (O.os 0 rfl).addr rfl g2 fun a3 cs4 ha5 hc6 he7 => ?_
    obtain rfl : cs4 = [(Value.int .i64 y1)] := he7
    refine ⟨_, ld0 (Sub.refl _) hc6 rfl, _, rfl, ?_⟩
    obtain ⟨y8, g9, e⟩ := bind_e e
    refine (O.os 0 rfl).addr rfl g9 fun a10 cs11 ha12 hc13 he14 => ?_
    obtain rfl : cs11 = [(Value.int .i64 y8)] := he14
    obtain ⟨l17, g18, e⟩ := bind_e e
    replace g18 := Option.some.inj g18
    refine O.elst0 0 rfl g9 ha12 hc13 (by decide) (y' := (IntKind.wrap .i64 (y1 + (1 : Int)))) rfl trivial g18 fun h15 O16 => ?_
    exact (ih _ _ e) _ _ _ _ _ _ _ _ _ _ _ _ _ _ (O16.pick [0]) rfl k_1 r_1 (lset' g18) rfl k_11 r_11
  · exact (ih _ _ e) _ _ _ _ _ _ _ _ _ _ _ _ _ _ (O.pick [0]) rfl k_1 r_1 rfl rfl k_11 r_11
theorem roadref4_Clock.l0_k.all {p : roadref4_Clock.l0_k.Pt} {r : ((List Int))} (e : roadref4_Clock.l0_k.go p = some r) : roadref4_Clock.l0_k.I p r := fixF_ind (β := fun _ => ((List Int))) roadref4_Clock.l0_k.mono (I := roadref4_Clock.l0_k.I) (fun go ih p r e => match p with
  | .l0 a_1 x_2 a_7 a_11 x_12 x_13 => roadref4_Clock.l0_k.step_l0 go ih a_1 x_2 a_7 a_11 x_12 x_13 r e
  | .j0 a_1 x_2 a_7 y_9 a_11 x_12 x_13 b_26 => roadref4_Clock.l0_k.step_j0 go ih a_1 x_2 a_7 y_9 a_11 x_12 x_13 b_26 r e
  ) e
theorem roadref4_Clock.l0.walk {W : Nat → Prop} {h0 m0 h m : Heap} {A_1 : Option Addr} {n_1 c_1 : Nat} {A_7 : Option Addr} {n_7 c_7 : Nat} {A_11 : Option Addr} {n_11 c_11 : Nat} {a_1 : List Bool} {x_2 : Int} {a_7 : List Int} {a_11 : List T_api_Event} {x_12 : Int} {x_13 : Int} (O : Hold W h0 m0 h m [rR (aE (tell_int .i64)) A_7 c_7 a_7]) (ne_1 : n_1 = List.length a_1) (k_1 : List.length a_1 ≤ c_1) (r_1 : Rd 1 eBool m A_1 a_1) (ne_7 : n_7 = List.length a_7) (ne_11 : n_11 = List.length a_11) (k_11 : List.length a_11 ≤ c_11) (r_11 : Rd 3 T_api_Event.E m A_11 a_11) {r : (List Int)} (e : roadref4_Clock.l0 a_1 x_2 a_7 a_11 x_12 x_13 = some r) : f30.l0 (roadref4_Clock.post W h0 m0 r) A_1 n_1 c_1 x_2 A_7 n_7 c_7 A_11 n_11 c_11 x_12 x_13 h := roadref4_Clock.l0_k.all (p := .l0 a_1 x_2 a_7 a_11 x_12 x_13) e W h0 m0 h m A_1 n_1 c_1 A_7 n_7 c_7 A_11 n_11 c_11 O ne_1 k_1 r_1 ne_7 ne_11 k_11 r_11
theorem roadref4_Clock.j0.walk {W : Nat → Prop} {h0 m0 h m : Heap} {A_1 : Option Addr} {n_1 c_1 : Nat} {A_7 : Option Addr} {n_7 c_7 : Nat} {bk_9 : Nat} {cs_9 : List Value} {A_11 : Option Addr} {n_11 c_11 : Nat} {a_1 : List Bool} {x_2 : Int} {a_7 : List Int} {y_9 : T_api_Event} {a_11 : List T_api_Event} {x_12 : Int} {x_13 : Int} {b_26 : Bool} (O : Hold W h0 m0 h m [rR (aE (tell_int .i64)) A_7 c_7 a_7, rV bk_9 88 cs_9]) (ne_1 : n_1 = List.length a_1) (k_1 : List.length a_1 ≤ c_1) (r_1 : Rd 1 eBool m A_1 a_1) (ne_7 : n_7 = List.length a_7) (e_9 : T_api_Event.E m y_9 cs_9) (ne_11 : n_11 = List.length a_11) (k_11 : List.length a_11 ≤ c_11) (r_11 : Rd 3 T_api_Event.E m A_11 a_11) {r : (List Int)} (e : roadref4_Clock.j0 a_1 x_2 a_7 y_9 a_11 x_12 x_13 b_26 = some r) : f30.j0 (roadref4_Clock.post W h0 m0 r) A_1 n_1 c_1 x_2 A_7 n_7 c_7 (⟨bk_9, 0, none⟩ : Addr) A_11 n_11 c_11 x_12 x_13 b_26 h := roadref4_Clock.l0_k.all (p := .j0 a_1 x_2 a_7 y_9 a_11 x_12 x_13 b_26) e W h0 m0 h m A_1 n_1 c_1 A_7 n_7 c_7 bk_9 cs_9 A_11 n_11 c_11 O ne_1 k_1 r_1 ne_7 e_9 ne_11 k_11 r_11

noncomputable def roadref4_Clock (a_0 : List T_api_Event) (a_1 : List Bool) (x_2 : Int) : Option ((List Int)) :=
  Option.bind (mks 8 (8 : Int) (0 : Int)) fun l1 => (roadref4_Clock.l0 a_1 x_2 l1 a_0 (((List.length a_0) : Nat) : Int) (0 : Int))
set_option maxRecDepth 100000 in
theorem roadref4_Clock.walk {W : Nat → Prop} {h m : Heap} {A_0 : Option Addr} {n_0 c_0 : Nat} {A_1 : Option Addr} {n_1 c_1 : Nat} {a_0 : List T_api_Event} {a_1 : List Bool} {x_2 : Int} (O : Hold W h m h m []) (ne_0 : n_0 = List.length a_0) (k_0 : List.length a_0 ≤ c_0) (r_0 : Rd 3 T_api_Event.E m A_0 a_0) (ne_1 : n_1 = List.length a_1) (k_1 : List.length a_1 ≤ c_1) (r_1 : Rd 1 eBool m A_1 a_1) {r : (List Int)} (e : roadref4_Clock a_0 a_1 x_2 = some r) : Run Try.prog 30 #[Value.slice A_0 n_0 c_0, Value.slice A_1 n_1 c_1, Value.int .i64 x_2] h (roadref4_Clock.post W h m r) := by
  unfold roadref4_Clock at e
  subst ne_0
  subst ne_1
  refine f30.run ?_
  unfold f30.runT
  obtain ⟨l1, g2, e⟩ := bind_e e
  have q3 := mks_e g2
  refine ⟨q3.1, Int.le_refl _, q3.2.1, q3.2.2.1, ?_⟩
  refine O.new fun h4 x5 O6 => ?_
  have O7 := O6.made 0 rfl (aE (tell_int .i64)) g2 ⟨rfl, rfl⟩
  try rw [q3.2.2.2.1]
  exact roadref4_Clock.l0.walk (O7.pick [0]) rfl k_1 r_1 rfl rfl k_0 r_0 e

/-! ### 31 roadstead/roadref4.Number -/
def roadref4_Number.post (W : Nat → Prop) (h0 m0 : Heap) (r : Int) (v : Value) (h : Heap) : Prop := ∃ m , Hold W h0 m0 h m [] ∧ v = .int .i64 r
inductive roadref4_Number.l0_k.Pt where
  | l0 (a_0 : List (List Bool)) (x_1 : Int) (a_5 : List Int) (x_12 : Int) (x_13 : Int)
  | l1 (a_0 : List (List Bool)) (x_1 : Int) (a_5 : List Int) (x_6 : Int) (x_12 : Int) (x_13 : Int) (x_19 : Int) (x_20 : Int)
  | j0 (a_0 : List (List Bool)) (x_1 : Int) (a_5 : List Int) (x_6 : Int) (x_7 : Int) (x_12 : Int) (x_13 : Int) (x_19 : Int) (x_20 : Int) (b_41 : Bool)
noncomputable def roadref4_Number.l0_k.body (go : (p : roadref4_Number.l0_k.Pt) → Option (Int)) : (p : roadref4_Number.l0_k.Pt) → Option (Int)
  | .l0 a_0 x_1 a_5 x_12 x_13 => if x_13 < x_12 then (Option.bind (gi a_5 x_13) fun y1 => Option.bind (some (List.set a_5 (Int.toNat x_13) (1 : Int))) fun l10 => (go (.l1 a_0 x_1 l10 x_13 x_12 x_13 x_13 (0 : Int)))) else (Option.bind (gi a_5 x_1) fun y12 => some (y12))
  | .l1 a_0 x_1 a_5 x_6 x_12 x_13 x_19 x_20 => if x_20 < x_19 then (Option.bind (gi a_0 x_6) fun y1 => Option.bind (gi y1 x_20) fun y8 => if y8 = true then (Option.bind (gi a_5 x_20) fun y15 => Option.bind (gi a_5 x_6) fun y22 => (go (.j0 a_0 x_1 a_5 x_6 x_20 x_12 x_13 x_19 x_20 (decide ((IntKind.wrap .i64 (y15 + (1 : Int))) > y22))))) else ((go (.j0 a_0 x_1 a_5 x_6 x_20 x_12 x_13 x_19 x_20 false)))) else ((go (.l0 a_0 x_1 a_5 x_12 (IntKind.wrap .i64 (x_13 + (1 : Int))))))
  | .j0 a_0 x_1 a_5 x_6 x_7 x_12 x_13 x_19 x_20 b_41 => if b_41 = true then (Option.bind (gi a_5 x_7) fun y1 => Option.bind (gi a_5 x_6) fun y8 => Option.bind (some (List.set a_5 (Int.toNat x_6) (IntKind.wrap .i64 (y1 + (1 : Int))))) fun l17 => (go (.l1 a_0 x_1 l17 x_6 x_12 x_13 x_19 (IntKind.wrap .i64 (x_20 + (1 : Int)))))) else ((go (.l1 a_0 x_1 a_5 x_6 x_12 x_13 x_19 (IntKind.wrap .i64 (x_20 + (1 : Int))))))
theorem roadref4_Number.l0_k.mono : MonoF (β := fun _ => (Int)) roadref4_Number.l0_k.body := fun f g hfg p => match p with
  | .l0 a_0 x_1 a_5 x_12 x_13 => LeO.ite (LeO.bind (LeO.refl _) fun y1 => LeO.bind (LeO.refl _) fun l10 => (hfg _)) (LeO.bind (LeO.refl _) fun y12 => LeO.refl _)
  | .l1 a_0 x_1 a_5 x_6 x_12 x_13 x_19 x_20 => LeO.ite (LeO.bind (LeO.refl _) fun y1 => LeO.bind (LeO.refl _) fun y8 => LeO.ite (LeO.bind (LeO.refl _) fun y15 => LeO.bind (LeO.refl _) fun y22 => (hfg _)) ((hfg _))) ((hfg _))
  | .j0 a_0 x_1 a_5 x_6 x_7 x_12 x_13 x_19 x_20 b_41 => LeO.ite (LeO.bind (LeO.refl _) fun y1 => LeO.bind (LeO.refl _) fun y8 => LeO.bind (LeO.refl _) fun l17 => (hfg _)) ((hfg _))
noncomputable def roadref4_Number.l0_k.go (p : roadref4_Number.l0_k.Pt) : Option (Int) := fixF (β := fun _ => (Int)) roadref4_Number.l0_k.body p
noncomputable def roadref4_Number.l0 (a_0 : List (List Bool)) (x_1 : Int) (a_5 : List Int) (x_12 : Int) (x_13 : Int) : Option (Int) := roadref4_Number.l0_k.go (.l0 a_0 x_1 a_5 x_12 x_13)
noncomputable def roadref4_Number.l1 (a_0 : List (List Bool)) (x_1 : Int) (a_5 : List Int) (x_6 : Int) (x_12 : Int) (x_13 : Int) (x_19 : Int) (x_20 : Int) : Option (Int) := roadref4_Number.l0_k.go (.l1 a_0 x_1 a_5 x_6 x_12 x_13 x_19 x_20)
noncomputable def roadref4_Number.j0 (a_0 : List (List Bool)) (x_1 : Int) (a_5 : List Int) (x_6 : Int) (x_7 : Int) (x_12 : Int) (x_13 : Int) (x_19 : Int) (x_20 : Int) (b_41 : Bool) : Option (Int) := roadref4_Number.l0_k.go (.j0 a_0 x_1 a_5 x_6 x_7 x_12 x_13 x_19 x_20 b_41)
theorem roadref4_Number.l0_eq (a_0 : List (List Bool)) (x_1 : Int) (a_5 : List Int) (x_12 : Int) (x_13 : Int) : roadref4_Number.l0 a_0 x_1 a_5 x_12 x_13 = if x_13 < x_12 then (Option.bind (gi a_5 x_13) fun y1 => Option.bind (some (List.set a_5 (Int.toNat x_13) (1 : Int))) fun l10 => (roadref4_Number.l1 a_0 x_1 l10 x_13 x_12 x_13 x_13 (0 : Int))) else (Option.bind (gi a_5 x_1) fun y12 => some (y12)) := fixF_eq roadref4_Number.l0_k.mono _
theorem roadref4_Number.l1_eq (a_0 : List (List Bool)) (x_1 : Int) (a_5 : List Int) (x_6 : Int) (x_12 : Int) (x_13 : Int) (x_19 : Int) (x_20 : Int) : roadref4_Number.l1 a_0 x_1 a_5 x_6 x_12 x_13 x_19 x_20 = if x_20 < x_19 then (Option.bind (gi a_0 x_6) fun y1 => Option.bind (gi y1 x_20) fun y8 => if y8 = true then (Option.bind (gi a_5 x_20) fun y15 => Option.bind (gi a_5 x_6) fun y22 => (roadref4_Number.j0 a_0 x_1 a_5 x_6 x_20 x_12 x_13 x_19 x_20 (decide ((IntKind.wrap .i64 (y15 + (1 : Int))) > y22)))) else ((roadref4_Number.j0 a_0 x_1 a_5 x_6 x_20 x_12 x_13 x_19 x_20 false))) else ((roadref4_Number.l0 a_0 x_1 a_5 x_12 (IntKind.wrap .i64 (x_13 + (1 : Int))))) := fixF_eq roadref4_Number.l0_k.mono _
theorem roadref4_Number.j0_eq (a_0 : List (List Bool)) (x_1 : Int) (a_5 : List Int) (x_6 : Int) (x_7 : Int) (x_12 : Int) (x_13 : Int) (x_19 : Int) (x_20 : Int) (b_41 : Bool) : roadref4_Number.j0 a_0 x_1 a_5 x_6 x_7 x_12 x_13 x_19 x_20 b_41 = if b_41 = true then (Option.bind (gi a_5 x_7) fun y1 => Option.bind (gi a_5 x_6) fun y8 => Option.bind (some (List.set a_5 (Int.toNat x_6) (IntKind.wrap .i64 (y1 + (1 : Int))))) fun l17 => (roadref4_Number.l1 a_0 x_1 l17 x_6 x_12 x_13 x_19 (IntKind.wrap .i64 (x_20 + (1 : Int))))) else ((roadref4_Number.l1 a_0 x_1 a_5 x_6 x_12 x_13 x_19 (IntKind.wrap .i64 (x_20 + (1 : Int))))) := fixF_eq roadref4_Number.l0_k.mono _
def roadref4_Number.l0_k.I : (p : roadref4_Number.l0_k.Pt) → (Int) → Prop
  | .l0 a_0 x_1 a_5 x_12 x_13, r => ∀ (W : Nat → Prop) (h0 m0 h m : Heap) (A_0 : Option Addr) (n_0 c_0 : Nat) (A_5 : Option Addr) (n_5 c_5 : Nat) (O : Hold W h0 m0 h m [rR (aE (tell_int .i64)) A_5 c_5 a_5]) (ne_0 : n_0 = List.length a_0) (k_0 : List.length a_0 ≤ c_0) (r_0 : Rd 1 (eRow 1 eBool) m A_0 a_0) (ne_5 : n_5 = List.length a_5), f31.l0 (roadref4_Number.post W h0 m0 r) A_0 n_0 c_0 x_1 A_5 n_5 c_5 x_12 x_13 h
  | .l1 a_0 x_1 a_5 x_6 x_12 x_13 x_19 x_20, r => ∀ (W : Nat → Prop) (h0 m0 h m : Heap) (A_0 : Option Addr) (n_0 c_0 : Nat) (A_5 : Option Addr) (n_5 c_5 : Nat) (O : Hold W h0 m0 h m [rR (aE (tell_int .i64)) A_5 c_5 a_5]) (ne_0 : n_0 = List.length a_0) (k_0 : List.length a_0 ≤ c_0) (r_0 : Rd 1 (eRow 1 eBool) m A_0 a_0) (ne_5 : n_5 = List.length a_5), f31.l1 (roadref4_Number.post W h0 m0 r) A_0 n_0 c_0 x_1 A_5 n_5 c_5 x_6 x_12 x_13 x_19 x_20 h
  | .j0 a_0 x_1 a_5 x_6 x_7 x_12 x_13 x_19 x_20 b_41, r => ∀ (W : Nat → Prop) (h0 m0 h m : Heap) (A_0 : Option Addr) (n_0 c_0 : Nat) (A_5 : Option Addr) (n_5 c_5 : Nat) (O : Hold W h0 m0 h m [rR (aE (tell_int .i64)) A_5 c_5 a_5]) (ne_0 : n_0 = List.length a_0) (k_0 : List.length a_0 ≤ c_0) (r_0 : Rd 1 (eRow 1 eBool) m A_0 a_0) (ne_5 : n_5 = List.length a_5), f31.j0 (roadref4_Number.post W h0 m0 r) A_0 n_0 c_0 x_1 A_5 n_5 c_5 x_6 x_7 x_12 x_13 x_19 x_20 b_41 h
set_option maxRecDepth 100000 in
theorem roadref4_Number.l0_k.step_l0 (go : (p : roadref4_Number.l0_k.Pt) → Option (Int)) (ih : ∀ p r, go p = some r → roadref4_Number.l0_k.I p r) (a_0 : List (List Bool)) (x_1 : Int) (a_5 : List Int) (x_12 : Int) (x_13 : Int) (r : Int) (e : roadref4_Number.l0_k.body go (.l0 a_0 x_1 a_5 x_12 x_13) = some r) : roadref4_Number.l0_k.I (.l0 a_0 x_1 a_5 x_12 x_13) r := by
  unfold roadref4_Number.l0_k.body at e
  intro W h0 m0 h m A_0 n_0 c_0 A_5 n_5 c_5 O ne_0 k_0 r_0 ne_5
  subst ne_0
  subst ne_5
  refine f31.l0_in ?_
  unfold f31.l0T
  refine split_dec_e e (fun c19 e => ?_) (fun c19 e => ?_)
  · obtain ⟨y1, g2, e⟩ := bind_e e
    refine (O.os 0 rfl).addr rfl g2 fun a3 cs4 ha5 hc6 he7 => ?_
    obtain rfl : cs4 = [(Value.int .i64 y1)] := he7
    obtain ⟨l10, g11, e⟩ := bind_e e
    replace g11 := Option.some.inj g11
    refine O.elst0 0 rfl g2 ha5 hc6 (by decide) (y' := (1 : Int)) rfl trivial g11 fun h8 O9 => ?_
    exact (ih _ _ e) _ _ _ _ _ _ _ _ _ _ _ (O9.pick [0]) rfl k_0 r_0 (lset' g11)
  · obtain ⟨y12, g13, e⟩ := bind_e e
    refine (O.os 0 rfl).addr rfl g13 fun a14 cs15 ha16 hc17 he18 => ?_
    obtain rfl : cs15 = [(Value.int .i64 y12)] := he18
    refine ⟨_, ld0 (Sub.refl _) hc17 rfl, _, rfl, ?_⟩
    cases e
    exact ⟨_, O.pick [], rfl⟩
set_option maxRecDepth 100000 in
theorem roadref4_Number.l0_k.step_l1 (go : (p : roadref4_Number.l0_k.Pt) → Option (Int)) (ih : ∀ p r, go p = some r → roadref4_Number.l0_k.I p r) (a_0 : List (List Bool)) (x_1 : Int) (a_5 : List Int) (x_6 : Int) (x_12 : Int) (x_13 : Int) (x_19 : Int) (x_20 : Int) (r : Int) (e : roadref4_Number.l0_k.body go (.l1 a_0 x_1 a_5 x_6 x_12 x_13 x_19 x_20) = some r) : roadref4_Number.l0_k.I (.l1 a_0 x_1 a_5 x_6 x_12 x_13 x_19 x_20) r := by
  unfold roadref4_Number.l0_k.body at e
  intro W h0 m0 h m A_0 n_0 c_0 A_5 n_5 c_5 O ne_0 k_0 r_0 ne_5
  subst ne_0
  subst ne_5
  refine f31.l1_in ?_
  unfold f31.l1T
  refine split_dec_e e (fun c30 e => ?_) (fun c30 e => ?_)
  · obtain ⟨y1, g2, e⟩ := bind_e e
    refine r_0.addr rfl g2 fun a3 cs4 ha5 hc6 he7 => ?_
    obtain ⟨Acs4_0, ccs4_0, rfl, kcs4_0, rcs4_0⟩ := id he7
    refine ⟨_, ld0 O.s hc6 rfl, _, _, _, rfl, ?_⟩
    obtain ⟨y8, g9, e⟩ := bind_e e
    refine rcs4_0.addr rfl g9 fun a10 cs11 ha12 hc13 he14 => ?_
    obtain rfl : cs11 = [(Value.bool y8)] := he14
    refine ⟨_, ld0 O.s hc13 rfl, _, rfl, ?_⟩
    refine split_any_e e (fun c29 e => ?_) (fun c29 e => ?_)
    · obtain ⟨y15, g16, e⟩ := bind_e e
      refine (O.os 0 rfl).addr rfl g16 fun a17 cs18 ha19 hc20 he21 => ?_
      obtain rfl : cs18 = [(Value.int .i64 y15)] := he21
      obtain ⟨y22, g23, e⟩ := bind_e e
      refine (O.os 0 rfl).addr rfl g23 fun a24 cs25 ha26 hc27 he28 => ?_
      obtain rfl : cs25 = [(Value.int .i64 y22)] := he28
      refine ⟨_, ld0 (Sub.refl _) hc20 rfl, _, rfl, ?_⟩
      refine ⟨_, ld0 (Sub.refl _) hc27 rfl, _, rfl, ?_⟩
      exact (ih _ _ e) _ _ _ _ _ _ _ _ _ _ _ (O.pick [0]) rfl k_0 r_0 rfl
    · exact (ih _ _ e) _ _ _ _ _ _ _ _ _ _ _ (O.pick [0]) rfl k_0 r_0 rfl
  · exact (ih _ _ e) _ _ _ _ _ _ _ _ _ _ _ (O.pick [0]) rfl k_0 r_0 rfl
set_option maxRecDepth 100000 in
theorem roadref4_Number.l0_k.step_j0 (go : (p : roadref4_Number.l0_k.Pt) → Option (Int)) (ih : ∀ p r, go p = some r → roadref4_Number.l0_k.I p r) (a_0 : List (List Bool)) (x_1 : Int) (a_5 : List Int) (x_6 : Int) (x_7 : Int) (x_12 : Int) (x_13 : Int) (x_19 : Int) (x_20 : Int) (b_41 : Bool) (r : Int) (e : roadref4_Number.l0_k.body go (.j0 a_0 x_1 a_5 x_6 x_7 x_12 x_13 x_19 x_20 b_41) = some r) : roadref4_Number.l0_k.I (.j0 a_0 x_1 a_5 x_6 x_7 x_12 x_13 x_19 x_20 b_41) r := by
  unfold roadref4_Number.l0_k.body at e
  intro W h0 m0 h m A_0 n_0 c_0 A_5 n_5 c_5 O ne_0 k_0 r_0 ne_5
  subst ne_0
  subst ne_5
  refine f31.j0_in ?_
  unfold f31.j0T
  refine split_any_e e (fun c19 e => ?_) (fun c19 e => ?_)
  · obtain ⟨y1, g2, e⟩ := bind_e e
    refine (O.os 0 rfl).addr rfl g2 fun a3 cs4 ha5 hc6 he7 => ?_
    obtain rfl : cs4 = [(Value.int .i64 y1)] := he7
    refine ⟨_, ld0 (Sub.refl _) hc6 rfl, _, rfl, ?_⟩
    obtain ⟨y8, g9, e⟩ := bind_e e
    refine (O.os 0 rfl).addr rfl g9 fun a10 cs11 ha12 hc13 he14 => ?_
    obtain rfl : cs11 = [(Value.int .i64 y8)] := he14
    obtain ⟨l17, g18, e⟩ := bind_e e
    replace g18 := Option.some.inj g18
    refine O.elst0 0 rfl g9 ha12 hc13 (by decide) (y' := (IntKind.wrap .i64 (y1 + (1 : Int)))) rfl trivial g18 fun h15 O16 => ?_
    exact (ih _ _ e) _ _ _ _ _ _ _ _ _ _ _ (O16.pick [0]) rfl k_0 r_0 (lset' g18)
  · exact (ih _ _ e) _ _ _ _ _ _ _ _ _ _ _ (O.pick [0]) rfl k_0 r_0 rfl
theorem roadref4_Number.l0_k.all {p : roadref4_Number.l0_k.Pt} {r : (Int)} (e : roadref4_Number.l0_k.go p = some r) : roadref4_Number.l0_k.I p r := fixF_ind (β := fun _ => (Int)) roadref4_Number.l0_k.mono (I := roadref4_Number.l0_k.I) (fun go ih p r e => match p with
  | .l0 a_0 x_1 a_5 x_12 x_13 => roadref4_Number.l0_k.step_l0 go ih a_0 x_1 a_5 x_12 x_13 r e
  | .l1 a_0 x_1 a_5 x_6 x_12 x_13 x_19 x_20 => roadref4_Number.l0_k.step_l1 go ih a_0 x_1 a_5 x_6 x_12 x_13 x_19 x_20 r e
  | .j0 a_0 x_1 a_5 x_6 x_7 x_12 x_13 x_19 x_20 b_41 => roadref4_Number.l0_k.step_j0 go ih a_0 x_1 a_5 x_6 x_7 x_12 x_13 x_19 x_20 b_41 r e
  ) e
theorem roadref4_Number.l0.walk {W : Nat → Prop} {h0 m0 h m : Heap} {A_0 : Option Addr} {n_0 c_0 : Nat} {A_5 : Option Addr} {n_5 c_5 : Nat} {a_0 : List (List Bool)} {x_1 : Int} {a_5 : List Int} {x_12 : Int} {x_13 : Int} (O : Hold W h0 m0 h m [rR (aE (tell_int .i64)) A_5 c_5 a_5]) (ne_0 : n_0 = List.length a_0) (k_0 : List.length a_0 ≤ c_0) (r_0 : Rd 1 (eRow 1 eBool) m A_0 a_0) (ne_5 : n_5 = List.length a_5) {r : Int} (e : roadref4_Number.l0 a_0 x_1 a_5 x_12 x_13 = some r) : f31.l0 (roadref4_Number.post W h0 m0 r) A_0 n_0 c_0 x_1 A_5 n_5 c_5 x_12 x_13 h := roadref4_Number.l0_k.all (p := .l0 a_0 x_1 a_5 x_12 x_13) e W h0 m0 h m A_0 n_0 c_0 A_5 n_5 c_5 O ne_0 k_0 r_0 ne_5
theorem roadref4_Number.l1.walk {W : Nat → Prop} {h0 m0 h m : Heap} {A_0 : Option Addr} {n_0 c_0 : Nat} {A_5 : Option Addr} {n_5 c_5 : Nat} {a_0 : List (List Bool)} {x_1 : Int} {a_5 : List Int} {x_6 : Int} {x_12 : Int} {x_13 : Int} {x_19 : Int} {x_20 : Int} (O : Hold W h0 m0 h m [rR (aE (tell_int .i64)) A_5 c_5 a_5]) (ne_0 : n_0 = List.length a_0) (k_0 : List.length a_0 ≤ c_0) (r_0 : Rd 1 (eRow 1 eBool) m A_0 a_0) (ne_5 : n_5 = List.length a_5) {r : Int} (e : roadref4_Number.l1 a_0 x_1 a_5 x_6 x_12 x_13 x_19 x_20 = some r) : f31.l1 (roadref4_Number.post W h0 m0 r) A_0 n_0 c_0 x_1 A_5 n_5 c_5 x_6 x_12 x_13 x_19 x_20 h := roadref4_Number.l0_k.all (p := .l1 a_0 x_1 a_5 x_6 x_12 x_13 x_19 x_20) e W h0 m0 h m A_0 n_0 c_0 A_5 n_5 c_5 O ne_0 k_0 r_0 ne_5
theorem roadref4_Number.j0.walk {W : Nat → Prop} {h0 m0 h m : Heap} {A_0 : Option Addr} {n_0 c_0 : Nat} {A_5 : Option Addr} {n_5 c_5 : Nat} {a_0 : List (List Bool)} {x_1 : Int} {a_5 : List Int} {x_6 : Int} {x_7 : Int} {x_12 : Int} {x_13 : Int} {x_19 : Int} {x_20 : Int} {b_41 : Bool} (O : Hold W h0 m0 h m [rR (aE (tell_int .i64)) A_5 c_5 a_5]) (ne_0 : n_0 = List.length a_0) (k_0 : List.length a_0 ≤ c_0) (r_0 : Rd 1 (eRow 1 eBool) m A_0 a_0) (ne_5 : n_5 = List.length a_5) {r : Int} (e : roadref4_Number.j0 a_0 x_1 a_5 x_6 x_7 x_12 x_13 x_19 x_20 b_41 = some r) : f31.j0 (roadref4_Number.post W h0 m0 r) A_0 n_0 c_0 x_1 A_5 n_5 c_5 x_6 x_7 x_12 x_13 x_19 x_20 b_41 h := roadref4_Number.l0_k.all (p := .j0 a_0 x_1 a_5 x_6 x_7 x_12 x_13 x_19 x_20 b_41) e W h0 m0 h m A_0 n_0 c_0 A_5 n_5 c_5 O ne_0 k_0 r_0 ne_5

noncomputable def roadref4_Number (a_0 : List (List Bool)) (x_1 : Int) : Option (Int) :=
  Option.bind (mks 8 (IntKind.wrap .i64 (x_1 + (1 : Int))) (0 : Int)) fun l1 => (roadref4_Number.l0 a_0 x_1 l1 (((List.length l1) : Nat) : Int) (0 : Int))
set_option maxRecDepth 100000 in
theorem roadref4_Number.walk {W : Nat → Prop} {h m : Heap} {A_0 : Option Addr} {n_0 c_0 : Nat} {a_0 : List (List Bool)} {x_1 : Int} (O : Hold W h m h m []) (ne_0 : n_0 = List.length a_0) (k_0 : List.length a_0 ≤ c_0) (r_0 : Rd 1 (eRow 1 eBool) m A_0 a_0) {r : Int} (e : roadref4_Number a_0 x_1 = some r) : Run Try.prog 31 #[Value.slice A_0 n_0 c_0, Value.int .i64 x_1] h (roadref4_Number.post W h m r) := by
  unfold roadref4_Number at e
  subst ne_0
  refine f31.run ?_
  unfold f31.runT
  obtain ⟨l1, g2, e⟩ := bind_e e
  have q3 := mks_e g2
  refine ⟨q3.1, Int.le_refl _, q3.2.1, q3.2.2.1, ?_⟩
  refine O.new fun h4 x5 O6 => ?_
  have O7 := O6.made 0 rfl (aE (tell_int .i64)) g2 ⟨rfl, rfl⟩
  try rw [q3.2.2.2.1]
  exact roadref4_Number.l0.walk (O7.pick [0]) rfl k_0 r_0 rfl e

/-! ### 4 roadstead/roadlaw4.ClockSays -/
def roadlaw4_ClockSays.post (W : Nat → Prop) (h0 m0 : Heap) (r : Bool) (v : Value) (h : Heap) : Prop := ∃ m , Hold W h0 m0 h m [] ∧ v = .bool r
noncomputable def roadlaw4_ClockSays.j2 (x_1 : Int) (x_2 : Int) (b_13 : Bool) (x_14 : Int) (a_18 : List (List Bool)) : Option (Bool) :=
  if x_14 = (0 : Int) then (Option.bind (gi a_18 x_2) fun y3 => Option.bind (gi y3 x_1) fun y13 => some ((b_13 == y13))) else (some (false))
set_option maxRecDepth 100000 in
theorem roadlaw4_ClockSays.j2.walk {W : Nat → Prop} {h0 m0 h m : Heap} {A_18 : Option Addr} {n_18 c_18 : Nat} {x_1 : Int} {x_2 : Int} {b_13 : Bool} {x_14 : Int} {a_18 : List (List Bool)} (O : Hold W h0 m0 h m [rR (aRow (aE tell_bool)) A_18 c_18 a_18]) (ne_18 : n_18 = List.length a_18) {r : Bool} (e : roadlaw4_ClockSays.j2 x_1 x_2 b_13 x_14 a_18 = some r) : f4.j2 (roadlaw4_ClockSays.post W h0 m0 r) x_1 x_2 b_13 x_14 A_18 n_18 c_18 h := by
  unfold roadlaw4_ClockSays.j2 at e
  subst ne_18
  refine f4.j2_in ?_
  unfold f4.j2T
  refine split_eq_e e (fun c20 e => ?_) (fun c20 e => ?_)
  · obtain ⟨y3, g4, e⟩ := bind_e e
    refine O.adr 0 rfl rfl g4 fun a1 ha2 => ?_
    obtain ⟨hs5, O6⟩ := O.openX 0 rfl g4
    obtain ⟨A7, c8, hx9, hc10, k11⟩ := O6.hdX 0 rfl ha2 g4
    refine ⟨_, ld0 (Sub.refl _) hc10 rfl, _, _, _, rfl, ?_⟩
    obtain ⟨y13, g14, e⟩ := bind_e e
    refine (O6.xos 0 rfl hx9 g4).addr rfl g14 fun a15 cs16 ha17 hc18 he19 => ?_
    obtain rfl : cs16 = [(Value.bool y13)] := he19
    refine ⟨_, ld0 (Sub.refl _) hc18 rfl, _, rfl, ?_⟩
    cases e
    exact ⟨_, O6.pick [], rfl⟩
  · cases e
    exact ⟨_, O.pick [], rfl⟩

noncomputable def roadlaw4_ClockSays.j3 (x_1 : Int) (x_2 : Int) (b_13 : Bool) (x_14 : Int) (a_18 : List (List Bool)) (b_189 : Bool) : Option (Bool) :=
  if b_189 = true then (if x_14 = (1 : Int) then (some ((!b_13))) else (some (false))) else ((roadlaw4_ClockSays.j2 x_1 x_2 b_13 x_14 a_18))
set_option maxRecDepth 100000 in
theorem roadlaw4_ClockSays.j3.walk {W : Nat → Prop} {h0 m0 h m : Heap} {A_18 : Option Addr} {n_18 c_18 : Nat} {x_1 : Int} {x_2 : Int} {b_13 : Bool} {x_14 : Int} {a_18 : List (List Bool)} {b_189 : Bool} (O : Hold W h0 m0 h m [rR (aRow (aE tell_bool)) A_18 c_18 a_18]) (ne_18 : n_18 = List.length a_18) {r : Bool} (e : roadlaw4_ClockSays.j3 x_1 x_2 b_13 x_14 a_18 b_189 = some r) : f4.j3 (roadlaw4_ClockSays.post W h0 m0 r) x_1 x_2 b_13 x_14 A_18 n_18 c_18 b_189 h := by
  unfold roadlaw4_ClockSays.j3 at e
  subst ne_18
  refine f4.j3_in ?_
  unfold f4.j3T
  refine split_any_e e (fun c2 e => ?_) (fun c2 e => ?_)
  · refine split_eq_e e (fun c1 e => ?_) (fun c1 e => ?_)
    · cases e
      exact ⟨_, O.pick [], rfl⟩
    · cases e
      exact ⟨_, O.pick [], rfl⟩
  · exact roadlaw4_ClockSays.j2.walk (O.pick [0]) rfl e

inductive roadlaw4_ClockSays.l0_k.Pt where
  | l0 (a_0 : List T_api_Event) (x_1 : Int) (x_2 : Int) (a_9 : List (List Int)) (a_11 : List Int) (b_13 : Bool) (x_14 : Int) (x_15 : Int) (a_18 : List (List Bool)) (x_19 : Int) (x_126 : Int) (x_127 : Int)
  | j4 (a_0 : List T_api_Event) (x_1 : Int) (x_2 : Int) (a_9 : List (List Int)) (a_11 : List Int) (b_13 : Bool) (x_14 : Int) (x_15 : Int) (a_18 : List (List Bool)) (x_19 : Int) (x_20 : Int) (x_126 : Int) (x_127 : Int)
  | l1 (a_0 : List T_api_Event) (x_1 : Int) (x_2 : Int) (a_9 : List (List Int)) (a_11 : List Int) (b_13 : Bool) (x_14 : Int) (x_15 : Int) (a_18 : List (List Bool)) (x_19 : Int) (x_20 : Int) (x_126 : Int) (x_127 : Int) (x_153 : Int) (x_154 : Int)
noncomputable def roadlaw4_ClockSays.l0_k.body (go : (p : roadlaw4_ClockSays.l0_k.Pt) → Option (Bool)) : (p : roadlaw4_ClockSays.l0_k.Pt) → Option (Bool)
  | .l0 a_0 x_1 x_2 a_9 a_11 b_13 x_14 x_15 a_18 x_19 x_126 x_127 => if x_127 < x_126 then (Option.bind (gi a_9 x_127) fun y1 => Option.bind (gi a_18 x_127) fun y10 => Option.bind (roadref4_Clock a_0 y10 x_127) fun y21 => Option.bind (slices_Equal_29 y1 y21) fun y40 => if y40 = true then (Option.bind (gi a_11 x_127) fun y54 => Option.bind (roadref4_Number a_18 x_127) fun y63 => if y54 = y63 then ((go (.j4 a_0 x_1 x_2 a_9 a_11 b_13 x_14 x_15 a_18 x_19 x_127 x_126 x_127))) else (some (false))) else (some (false))) else (if x_15 = x_19 then (if x_1 < (0 : Int) then ((roadlaw4_ClockSays.j3 x_1 x_2 b_13 x_14 a_18 true)) else (if x_2 < (0 : Int) then ((roadlaw4_ClockSays.j3 x_1 x_2 b_13 x_14 a_18 true)) else (if x_1 ≥ (((List.length a_0) : Nat) : Int) then ((roadlaw4_ClockSays.j3 x_1 x_2 b_13 x_14 a_18 true)) else ((roadlaw4_ClockSays.j3 x_1 x_2 b_13 x_14 a_18 (decide (x_2 ≥ (((List.length a_0) : Nat) : Int)))))))) else (some (false)))
  | .j4 a_0 x_1 x_2 a_9 a_11 b_13 x_14 x_15 a_18 x_19 x_20 x_126 x_127 => (go (.l1 a_0 x_1 x_2 a_9 a_11 b_13 x_14 x_15 a_18 x_19 x_20 x_126 x_127 x_20 (0 : Int)))
  | .l1 a_0 x_1 x_2 a_9 a_11 b_13 x_14 x_15 a_18 x_19 x_20 x_126 x_127 x_153 x_154 => if x_154 < x_153 then (Option.bind (gi a_18 x_20) fun y3 => Option.bind (gi y3 x_154) fun y13 => if y13 = true then ((go (.l1 a_0 x_1 x_2 a_9 a_11 b_13 x_14 x_15 a_18 x_19 x_20 x_126 x_127 x_153 (IntKind.wrap .i64 (x_154 + (1 : Int)))))) else ((go (.l1 a_0 x_1 x_2 a_9 a_11 b_13 x_14 x_15 a_18 (IntKind.wrap .i64 (x_19 + (1 : Int))) x_20 x_126 x_127 x_153 (IntKind.wrap .i64 (x_154 + (1 : Int))))))) else ((go (.l0 a_0 x_1 x_2 a_9 a_11 b_13 x_14 x_15 a_18 x_19 x_126 (IntKind.wrap .i64 (x_127 + (1 : Int))))))
theorem roadlaw4_ClockSays.l0_k.mono : MonoF (β := fun _ => (Bool)) roadlaw4_ClockSays.l0_k.body := fun f g hfg p => match p with
  | .l0 a_0 x_1 x_2 a_9 a_11 b_13 x_14 x_15 a_18 x_19 x_126 x_127 => LeO.ite (LeO.bind (LeO.refl _) fun y1 => LeO.bind (LeO.refl _) fun y10 => LeO.bind (LeO.refl _) fun y21 => LeO.bind (LeO.refl _) fun y40 => LeO.ite (LeO.bind (LeO.refl _) fun y54 => LeO.bind (LeO.refl _) fun y63 => LeO.ite ((hfg _)) (LeO.refl _)) (LeO.refl _)) (LeO.ite (LeO.ite ((LeO.refl _)) (LeO.ite ((LeO.refl _)) (LeO.ite ((LeO.refl _)) ((LeO.refl _))))) (LeO.refl _))
  | .j4 a_0 x_1 x_2 a_9 a_11 b_13 x_14 x_15 a_18 x_19 x_20 x_126 x_127 => (hfg _)
  | .l1 a_0 x_1 x_2 a_9 a_11 b_13 x_14 x_15 a_18 x_19 x_20 x_126 x_127 x_153 x_154 => LeO.ite (LeO.bind (LeO.refl _) fun y3 => LeO.bind (LeO.refl _) fun y13 => LeO.ite ((hfg _)) ((hfg _))) ((hfg _))
noncomputable def roadlaw4_ClockSays.l0_k.go (p : roadlaw4_ClockSays.l0_k.Pt) : Option (Bool) := fixF (β := fun _ => (Bool)) roadlaw4_ClockSays.l0_k.body p
noncomputable def roadlaw4_ClockSays.l0 (a_0 : List T_api_Event) (x_1 : Int) (x_2 : Int) (a_9 : List (List Int)) (a_11 : List Int) (b_13 : Bool) (x_14 : Int) (x_15 : Int) (a_18 : List (List Bool)) (x_19 : Int) (x_126 : Int) (x_127 : Int) : Option (Bool) := roadlaw4_ClockSays.l0_k.go (.l0 a_0 x_1 x_2 a_9 a_11 b_13 x_14 x_15 a_18 x_19 x_126 x_127)
noncomputable def roadlaw4_ClockSays.j4 (a_0 : List T_api_Event) (x_1 : Int) (x_2 : Int) (a_9 : List (List Int)) (a_11 : List Int) (b_13 : Bool) (x_14 : Int) (x_15 : Int) (a_18 : List (List Bool)) (x_19 : Int) (x_20 : Int) (x_126 : Int) (x_127 : Int) : Option (Bool) := roadlaw4_ClockSays.l0_k.go (.j4 a_0 x_1 x_2 a_9 a_11 b_13 x_14 x_15 a_18 x_19 x_20 x_126 x_127)
noncomputable def roadlaw4_ClockSays.l1 (a_0 : List T_api_Event) (x_1 : Int) (x_2 : Int) (a_9 : List (List Int)) (a_11 : List Int) (b_13 : Bool) (x_14 : Int) (x_15 : Int) (a_18 : List (List Bool)) (x_19 : Int) (x_20 : Int) (x_126 : Int) (x_127 : Int) (x_153 : Int) (x_154 : Int) : Option (Bool) := roadlaw4_ClockSays.l0_k.go (.l1 a_0 x_1 x_2 a_9 a_11 b_13 x_14 x_15 a_18 x_19 x_20 x_126 x_127 x_153 x_154)
theorem roadlaw4_ClockSays.l0_eq (a_0 : List T_api_Event) (x_1 : Int) (x_2 : Int) (a_9 : List (List Int)) (a_11 : List Int) (b_13 : Bool) (x_14 : Int) (x_15 : Int) (a_18 : List (List Bool)) (x_19 : Int) (x_126 : Int) (x_127 : Int) : roadlaw4_ClockSays.l0 a_0 x_1 x_2 a_9 a_11 b_13 x_14 x_15 a_18 x_19 x_126 x_127 = if x_127 < x_126 then (Option.bind (gi a_9 x_127) fun y1 => Option.bind (gi a_18 x_127) fun y10 => Option.bind (roadref4_Clock a_0 y10 x_127) fun y21 => Option.bind (slices_Equal_29 y1 y21) fun y40 => if y40 = true then (Option.bind (gi a_11 x_127) fun y54 => Option.bind (roadref4_Number a_18 x_127) fun y63 => if y54 = y63 then ((roadlaw4_ClockSays.j4 a_0 x_1 x_2 a_9 a_11 b_13 x_14 x_15 a_18 x_19 x_127 x_126 x_127)) else (some (false))) else (some (false))) else (if x_15 = x_19 then (if x_1 < (0 : Int) then ((roadlaw4_ClockSays.j3 x_1 x_2 b_13 x_14 a_18 true)) else (if x_2 < (0 : Int) then ((roadlaw4_ClockSays.j3 x_1 x_2 b_13 x_14 a_18 true)) else (if x_1 ≥ (((List.length a_0) : Nat) : Int) then ((roadlaw4_ClockSays.j3 x_1 x_2 b_13 x_14 a_18 true)) else ((roadlaw4_ClockSays.j3 x_1 x_2 b_13 x_14 a_18 (decide (x_2 ≥ (((List.length a_0) : Nat) : Int)))))))) else (some (false))) := fixF_eq roadlaw4_ClockSays.l0_k.mono _
theorem roadlaw4_ClockSays.j4_eq (a_0 : List T_api_Event) (x_1 : Int) (x_2 : Int) (a_9 : List (List Int)) (a_11 : List Int) (b_13 : Bool) (x_14 : Int) (x_15 : Int) (a_18 : List (List Bool)) (x_19 : Int) (x_20 : Int) (x_126 : Int) (x_127 : Int) : roadlaw4_ClockSays.j4 a_0 x_1 x_2 a_9 a_11 b_13 x_14 x_15 a_18 x_19 x_20 x_126 x_127 = (roadlaw4_ClockSays.l1 a_0 x_1 x_2 a_9 a_11 b_13 x_14 x_15 a_18 x_19 x_20 x_126 x_127 x_20 (0 : Int)) := fixF_eq roadlaw4_ClockSays.l0_k.mono _
theorem roadlaw4_ClockSays.l1_eq (a_0 : List T_api_Event) (x_1 : Int) (x_2 : Int) (a_9 : List (List Int)) (a_11 : List Int) (b_13 : Bool) (x_14 : Int) (x_15 : Int) (a_18 : List (List Bool)) (x_19 : Int) (x_20 : Int) (x_126 : Int) (x_127 : Int) (x_153 : Int) (x_154 : Int) : roadlaw4_ClockSays.l1 a_0 x_1 x_2 a_9 a_11 b_13 x_14 x_15 a_18 x_19 x_20 x_126 x_127 x_153 x_154 = if x_154 < x_153 then (Option.bind (gi a_18 x_20) fun y3 => Option.bind (gi y3 x_154) fun y13 => if y13 = true then ((roadlaw4_ClockSays.l1 a_0 x_1 x_2 a_9 a_11 b_13 x_14 x_15 a_18 x_19 x_20 x_126 x_127 x_153 (IntKind.wrap .i64 (x_154 + (1 : Int))))) else ((roadlaw4_ClockSays.l1 a_0 x_1 x_2 a_9 a_11 b_13 x_14 x_15 a_18 (IntKind.wrap .i64 (x_19 + (1 : Int))) x_20 x_126 x_127 x_153 (IntKind.wrap .i64 (x_154 + (1 : Int)))))) else ((roadlaw4_ClockSays.l0 a_0 x_1 x_2 a_9 a_11 b_13 x_14 x_15 a_18 x_19 x_126 (IntKind.wrap .i64 (x_127 + (1 : Int))))) := fixF_eq roadlaw4_ClockSays.l0_k.mono _
def roadlaw4_ClockSays.l0_k.I : (p : roadlaw4_ClockSays.l0_k.Pt) → (Bool) → Prop
  | .l0 a_0 x_1 x_2 a_9 a_11 b_13 x_14 x_15 a_18 x_19 x_126 x_127, r => ∀ (W : Nat → Prop) (h0 m0 h m : Heap) (A_0 : Option Addr) (n_0 c_0 : Nat) (A_9 : Option Addr) (n_9 c_9 : Nat) (A_11 : Option Addr) (n_11 c_11 : Nat) (A_18 : Option Addr) (n_18 c_18 : Nat) (O : Hold W h0 m0 h m [rR (aE (tell_row (tell_int .i64))) A_9 c_9 a_9, rR (aE (tell_int .i64)) A_11 c_11 a_11, rR (aRow (aE tell_bool)) A_18 c_18 a_18]) (ne_0 : n_0 = List.length a_0) (k_0 : List.length a_0 ≤ c_0) (r_0 : Rd 3 T_api_Event.E m A_0 a_0) (ne_9 : n_9 = List.length a_9) (ne_11 : n_11 = List.length a_11) (ne_18 : n_18 = List.length a_18), f4.l0 (roadlaw4_ClockSays.post W h0 m0 r) A_0 n_0 c_0 x_1 x_2 A_9 n_9 c_9 A_11 n_11 c_11 b_13 x_14 x_15 A_18 n_18 c_18 x_19 x_126 x_127 h
  | .j4 a_0 x_1 x_2 a_9 a_11 b_13 x_14 x_15 a_18 x_19 x_20 x_126 x_127, r => ∀ (W : Nat → Prop) (h0 m0 h m : Heap) (A_0 : Option Addr) (n_0 c_0 : Nat) (A_9 : Option Addr) (n_9 c_9 : Nat) (A_11 : Option Addr) (n_11 c_11 : Nat) (A_18 : Option Addr) (n_18 c_18 : Nat) (O : Hold W h0 m0 h m [rR (aE (tell_row (tell_int .i64))) A_9 c_9 a_9, rR (aE (tell_int .i64)) A_11 c_11 a_11, rR (aRow (aE tell_bool)) A_18 c_18 a_18]) (ne_0 : n_0 = List.length a_0) (k_0 : List.length a_0 ≤ c_0) (r_0 : Rd 3 T_api_Event.E m A_0 a_0) (ne_9 : n_9 = List.length a_9) (ne_11 : n_11 = List.length a_11) (ne_18 : n_18 = List.length a_18), f4.j4 (roadlaw4_ClockSays.post W h0 m0 r) A_0 n_0 c_0 x_1 x_2 A_9 n_9 c_9 A_11 n_11 c_11 b_13 x_14 x_15 A_18 n_18 c_18 x_19 x_20 x_126 x_127 h
  | .l1 a_0 x_1 x_2 a_9 a_11 b_13 x_14 x_15 a_18 x_19 x_20 x_126 x_127 x_153 x_154, r => ∀ (W : Nat → Prop) (h0 m0 h m : Heap) (A_0 : Option Addr) (n_0 c_0 : Nat) (A_9 : Option Addr) (n_9 c_9 : Nat) (A_11 : Option Addr) (n_11 c_11 : Nat) (A_18 : Option Addr) (n_18 c_18 : Nat) (O : Hold W h0 m0 h m [rR (aE (tell_row (tell_int .i64))) A_9 c_9 a_9, rR (aE (tell_int .i64)) A_11 c_11 a_11, rR (aRow (aE tell_bool)) A_18 c_18 a_18]) (ne_0 : n_0 = List.length a_0) (k_0 : List.length a_0 ≤ c_0) (r_0 : Rd 3 T_api_Event.E m A_0 a_0) (ne_9 : n_9 = List.length a_9) (ne_11 : n_11 = List.length a_11) (ne_18 : n_18 = List.length a_18), f4.l1 (roadlaw4_ClockSays.post W h0 m0 r) A_0 n_0 c_0 x_1 x_2 A_9 n_9 c_9 A_11 n_11 c_11 b_13 x_14 x_15 A_18 n_18 c_18 x_19 x_20 x_126 x_127 x_153 x_154 h
set_option maxRecDepth 100000 in
theorem roadlaw4_ClockSays.l0_k.step_l0 (go : (p : roadlaw4_ClockSays.l0_k.Pt) → Option (Bool)) (ih : ∀ p r, go p = some r → roadlaw4_ClockSays.l0_k.I p r) (a_0 : List T_api_Event) (x_1 : Int) (x_2 : Int) (a_9 : List (List Int)) (a_11 : List Int) (b_13 : Bool) (x_14 : Int) (x_15 : Int) (a_18 : List (List Bool)) (x_19 : Int) (x_126 : Int) (x_127 : Int) (r : Bool) (e : roadlaw4_ClockSays.l0_k.body go (.l0 a_0 x_1 x_2 a_9 a_11 b_13 x_14 x_15 a_18 x_19 x_126 x_127) = some r) : roadlaw4_ClockSays.l0_k.I (.l0 a_0 x_1 x_2 a_9 a_11 b_13 x_14 x_15 a_18 x_19 x_126 x_127) r := by
  unfold roadlaw4_ClockSays.l0_k.body at e
  intro W h0 m0 h m A_0 n_0 c_0 A_9 n_9 c_9 A_11 n_11 c_11 A_18 n_18 c_18 O ne_0 k_0 r_0 ne_9 ne_11 ne_18
  subst ne_0
  subst ne_9
  subst ne_11
  subst ne_18
  refine f4.l0_in ?_
  unfold f4.l0T
  refine split_dec_e e (fun c83 e => ?_) (fun c83 e => ?_)
  · obtain ⟨y1, g2, e⟩ := bind_e e
    refine (O.os 0 rfl).addr rfl g2 fun a3 cs4 ha5 hc6 he7 => ?_
    obtain ⟨Acs4_0, ccs4_0, rfl, kcs4_0, rcs4_0⟩ := id he7
    obtain ⟨y10, g11, e⟩ := bind_e e
    refine O.adr 2 rfl rfl g11 fun a8 ha9 => ?_
    refine ⟨_, ld0 (Sub.refl _) hc6 rfl, _, _, _, rfl, ?_⟩
    obtain ⟨hs12, O13⟩ := O.openX 2 rfl g11
    obtain ⟨A14, c15, hx16, hc17, k18⟩ := O13.hdX 2 rfl ha9 g11
    refine ⟨_, ld0 (Sub.refl _) hc17 rfl, _, _, _, rfl, ?_⟩
    obtain ⟨y21, g22, e⟩ := bind_e e
    have O20 := O13.takeX 2 rfl hx16 g11
    obtain ⟨m27, u28, s33, ⟨⟨r31, k32⟩, _⟩, B29, C30⟩ := O20.lend0 [3]
    replace r31 : Rd 1 eBool m27 A14 y10 := r31
    replace k32 : List.length y10 ≤ c15 := k32
    refine (roadref4_Clock.walk (Hold.start (W := No) s33) rfl k_0 (r_0.sub T_api_Event.T u28) rfl k32 r31 g22).mono ?_
    rintro _ h23 ⟨m24, A34, n35, c36, Q25, rfl, ne37⟩
    have O39 := C30 Q25 (vfs_cons (rR_vf (aE_vf (fun _ _ _ _ h => h))) vfs_nil)
    subst ne37
    refine ⟨_, _, _, rfl, ?_⟩
    refine ⟨Q25.S.ext, ?_⟩
    obtain ⟨y40, g41, e⟩ := bind_e e
    obtain ⟨m46, u47, s52, ⟨⟨r50, k51⟩, _⟩, B48, C49⟩ := O39.lend0 [4]
    replace r50 : Rd 1 (eInt .i64) m46 A34 y21 := r50
    replace k51 : List.length y21 ≤ c36 := k51
    refine (slices_Equal_29.walk (Hold.start (W := No) s52) rfl kcs4_0 (rcs4_0.sub (tell_int .i64) u47) rfl k51 r50 g41).mono ?_
    rintro _ h42 ⟨m43, Q44, rfl⟩
    have O53 := C49 Q44 vfs_nil
    refine ⟨_, rfl, ?_⟩
    refine ⟨Q44.S.ext, ?_⟩
    refine split_not ?_
    refine split_any_e e (fun c78 e => ?_) (fun c78 e => ?_)
    · obtain ⟨y54, g55, e⟩ := bind_e e
      refine (O53.os 1 rfl).addr rfl g55 fun a56 cs57 ha58 hc59 he60 => ?_
      obtain rfl : cs57 = [(Value.int .i64 y54)] := he60
      refine ⟨_, ld0 (Sub.refl _) hc59 rfl, _, rfl, ?_⟩
      obtain ⟨y63, g64, e⟩ := bind_e e
      have O61 := O53.putX 2 3 rfl rfl hx16 rfl (gi_set_self g11)
      have O62 := O61.closeX 2 rfl
      obtain ⟨m69, u70, s75, ⟨⟨r73, k74⟩, _⟩, B71, C72⟩ := O62.lend0 [2]
      replace r73 : Rd 1 (eRow 1 eBool) m69 A_18 a_18 := r73
      replace k74 : List.length a_18 ≤ c_18 := k74
      refine (roadref4_Number.walk (Hold.start (W := No) s75) rfl k74 r73 g64).mono ?_
      rintro _ h65 ⟨m66, Q67, rfl⟩
      have O76 := C72 Q67 vfs_nil
      refine ⟨_, rfl, ?_⟩
      refine ⟨Q67.S.ext, ?_⟩
      refine split_ne_e e (fun c77 e => ?_) (fun c77 e => ?_)
      · cases e
        exact ⟨_, O76.pick [], rfl⟩
      · exact (ih _ _ e) _ _ _ _ _ _ _ _ _ _ _ _ _ _ _ _ _ (O76.pick [0, 1, 2]) rfl k_0 r_0 rfl rfl rfl
    · refine ⟨Ext.refl _, ?_⟩
      cases e
      exact ⟨_, O53.pick [], rfl⟩
  · refine split_ne_e e (fun c82 e => ?_) (fun c82 e => ?_)
    · cases e
      exact ⟨_, O.pick [], rfl⟩
    · refine split_dec_e e (fun c81 e => ?_) (fun c81 e => ?_)
      · exact roadlaw4_ClockSays.j3.walk (O.pick [2]) rfl e
      · refine split_dec_e e (fun c80 e => ?_) (fun c80 e => ?_)
        · exact roadlaw4_ClockSays.j3.walk (O.pick [2]) rfl e
        · refine split_dec_e e (fun c79 e => ?_) (fun c79 e => ?_)
          · exact roadlaw4_ClockSays.j3.walk (O.pick [2]) rfl e
          · exact roadlaw4_ClockSays.j3.walk (O.pick [2]) rfl e
set_option maxRecDepth 100000 in
theorem roadlaw4_ClockSays.l0_k.step_j4 (go : (p : roadlaw4_ClockSays.l0_k.Pt) → Option (Bool)) (ih : ∀ p r, go p = some r → roadlaw4_ClockSays.l0_k.I p r) (a_0 : List T_api_Event) (x_1 : Int) (x_2 : Int) (a_9 : List (List Int)) (a_11 : List Int) (b_13 : Bool) (x_14 : Int) (x_15 : Int) (a_18 : List (List Bool)) (x_19 : Int) (x_20 : Int) (x_126 : Int) (x_127 : Int) (r : Bool) (e : roadlaw4_ClockSays.l0_k.body go (.j4 a_0 x_1 x_2 a_9 a_11 b_13 x_14 x_15 a_18 x_19 x_20 x_126 x_127) = some r) : roadlaw4_ClockSays.l0_k.I (.j4 a_0 x_1 x_2 a_9 a_11 b_13 x_14 x_15 a_18 x_19 x_20 x_126 x_127) r := by
  unfold roadlaw4_ClockSays.l0_k.body at e
  intro W h0 m0 h m A_0 n_0 c_0 A_9 n_9 c_9 A_11 n_11 c_11 A_18 n_18 c_18 O ne_0 k_0 r_0 ne_9 ne_11 ne_18
  subst ne_0
  subst ne_9
  subst ne_11
  subst ne_18
  refine f4.j4_in ?_
  unfold f4.j4T
  exact (ih _ _ e) _ _ _ _ _ _ _ _ _ _ _ _ _ _ _ _ _ (O.pick [0, 1, 2]) rfl k_0 r_0 rfl rfl rfl
set_option maxRecDepth 100000 in
theorem roadlaw4_ClockSays.l0_k.step_l1 (go : (p : roadlaw4_ClockSays.l0_k.Pt) → Option (Bool)) (ih : ∀ p r, go p = some r → roadlaw4_ClockSays.l0_k.I p r) (a_0 : List T_api_Event) (x_1 : Int) (x_2 : Int) (a_9 : List (List Int)) (a_11 : List Int) (b_13 : Bool) (x_14 : Int) (x_15 : Int) (a_18 : List (List Bool)) (x_19 : Int) (x_20 : Int) (x_126 : Int) (x_127 : Int) (x_153 : Int) (x_154 : Int) (r : Bool) (e : roadlaw4_ClockSays.l0_k.body go (.l1 a_0 x_1 x_2 a_9 a_11 b_13 x_14 x_15 a_18 x_19 x_20 x_126 x_127 x_153 x_154) = some r) : roadlaw4_ClockSays.l0_k.I (.l1 a_0 x_1 x_2 a_9 a_11 b_13 x_14 x_15 a_18 x_19 x_20 x_126 x_127 x_153 x_154) r := by
  unfold roadlaw4_ClockSays.l0_k.body at e
  intro W h0 m0 h m A_0 n_0 c_0 A_9 n_9 c_9 A_11 n_11 c_11 A_18 n_18 c_18 O ne_0 k_0 r_0 ne_9 ne_11 ne_18
  subst ne_0
  subst ne_9
  subst ne_11
  subst ne_18
  refine f4.l1_in ?_
  unfold f4.l1T
  refine split_dec_e e (fun c23 e => ?_) (fun c23 e => ?_)
  · obtain ⟨y3, g4, e⟩ := bind_e e
    refine O.adr 2 rfl rfl g4 fun a1 ha2 => ?_
    obtain ⟨hs5, O6⟩ := O.openX 2 rfl g4
    obtain ⟨A7, c8, hx9, hc10, k11⟩ := O6.hdX 2 rfl ha2 g4
    refine ⟨_, ld0 (Sub.refl _) hc10 rfl, _, _, _, rfl, ?_⟩
    obtain ⟨y13, g14, e⟩ := bind_e e
    refine (O6.xos 2 rfl hx9 g4).addr rfl g14 fun a15 cs16 ha17 hc18 he19 => ?_
    obtain rfl : cs16 = [(Value.bool y13)] := he19
    refine ⟨_, ld0 (Sub.refl _) hc18 rfl, _, rfl, ?_⟩
    refine split_not ?_
    refine split_any_e e (fun c22 e => ?_) (fun c22 e => ?_)
    · have O20 := O6.closeX 2 rfl
      exact (ih _ _ e) _ _ _ _ _ _ _ _ _ _ _ _ _ _ _ _ _ (O20.pick [0, 1, 2]) rfl k_0 r_0 rfl rfl rfl
    · have O21 := O6.closeX 2 rfl
      exact (ih _ _ e) _ _ _ _ _ _ _ _ _ _ _ _ _ _ _ _ _ (O21.pick [0, 1, 2]) rfl k_0 r_0 rfl rfl rfl
  · exact (ih _ _ e) _ _ _ _ _ _ _ _ _ _ _ _ _ _ _ _ _ (O.pick [0, 1, 2]) rfl k_0 r_0 rfl rfl rfl
theorem roadlaw4_ClockSays.l0_k.all {p : roadlaw4_ClockSays.l0_k.Pt} {r : (Bool)} (e : roadlaw4_ClockSays.l0_k.go p = some r) : roadlaw4_ClockSays.l0_k.I p r := fixF_ind (β := fun _ => (Bool)) roadlaw4_ClockSays.l0_k.mono (I := roadlaw4_ClockSays.l0_k.I) (fun go ih p r e => match p with
  | .l0 a_0 x_1 x_2 a_9 a_11 b_13 x_14 x_15 a_18 x_19 x_126 x_127 => roadlaw4_ClockSays.l0_k.step_l0 go ih a_0 x_1 x_2 a_9 a_11 b_13 x_14 x_15 a_18 x_19 x_126 x_127 r e
  | .j4 a_0 x_1 x_2 a_9 a_11 b_13 x_14 x_15 a_18 x_19 x_20 x_126 x_127 => roadlaw4_ClockSays.l0_k.step_j4 go ih a_0 x_1 x_2 a_9 a_11 b_13 x_14 x_15 a_18 x_19 x_20 x_126 x_127 r e
  | .l1 a_0 x_1 x_2 a_9 a_11 b_13 x_14 x_15 a_18 x_19 x_20 x_126 x_127 x_153 x_154 => roadlaw4_ClockSays.l0_k.step_l1 go ih a_0 x_1 x_2 a_9 a_11 b_13 x_14 x_15 a_18 x_19 x_20 x_126 x_127 x_153 x_154 r e
  ) e
theorem roadlaw4_ClockSays.l0.walk {W : Nat → Prop} {h0 m0 h m : Heap} {A_0 : Option Addr} {n_0 c_0 : Nat} {A_9 : Option Addr} {n_9 c_9 : Nat} {A_11 : Option Addr} {n_11 c_11 : Nat} {A_18 : Option Addr} {n_18 c_18 : Nat} {a_0 : List T_api_Event} {x_1 : Int} {x_2 : Int} {a_9 : List (List Int)} {a_11 : List Int} {b_13 : Bool} {x_14 : Int} {x_15 : Int} {a_18 : List (List Bool)} {x_19 : Int} {x_126 : Int} {x_127 : Int} (O : Hold W h0 m0 h m [rR (aE (tell_row (tell_int .i64))) A_9 c_9 a_9, rR (aE (tell_int .i64)) A_11 c_11 a_11, rR (aRow (aE tell_bool)) A_18 c_18 a_18]) (ne_0 : n_0 = List.length a_0) (k_0 : List.length a_0 ≤ c_0) (r_0 : Rd 3 T_api_Event.E m A_0 a_0) (ne_9 : n_9 = List.length a_9) (ne_11 : n_11 = List.length a_11) (ne_18 : n_18 = List.length a_18) {r : Bool} (e : roadlaw4_ClockSays.l0 a_0 x_1 x_2 a_9 a_11 b_13 x_14 x_15 a_18 x_19 x_126 x_127 = some r) : f4.l0 (roadlaw4_ClockSays.post W h0 m0 r) A_0 n_0 c_0 x_1 x_2 A_9 n_9 c_9 A_11 n_11 c_11 b_13 x_14 x_15 A_18 n_18 c_18 x_19 x_126 x_127 h := roadlaw4_ClockSays.l0_k.all (p := .l0 a_0 x_1 x_2 a_9 a_11 b_13 x_14 x_15 a_18 x_19 x_126 x_127) e W h0 m0 h m A_0 n_0 c_0 A_9 n_9 c_9 A_11 n_11 c_11 A_18 n_18 c_18 O ne_0 k_0 r_0 ne_9 ne_11 ne_18
theorem roadlaw4_ClockSays.j4.walk {W : Nat → Prop} {h0 m0 h m : Heap} {A_0 : Option Addr} {n_0 c_0 : Nat} {A_9 : Option Addr} {n_9 c_9 : Nat} {A_11 : Option Addr} {n_11 c_11 : Nat} {A_18 : Option Addr} {n_18 c_18 : Nat} {a_0 : List T_api_Event} {x_1 : Int} {x_2 : Int} {a_9 : List (List Int)} {a_11 : List Int} {b_13 : Bool} {x_14 : Int} {x_15 : Int} {a_18 : List (List Bool)} {x_19 : Int} {x_20 : Int} {x_126 : Int} {x_127 : Int} (O : Hold W h0 m0 h m [rR (aE (tell_row (tell_int .i64))) A_9 c_9 a_9, rR (aE (tell_int .i64)) A_11 c_11 a_11, rR (aRow (aE tell_bool)) A_18 c_18 a_18]) (ne_0 : n_0 = List.length a_0) (k_0 : List.length a_0 ≤ c_0) (r_0 : Rd 3 T_api_Event.E m A_0 a_0) (ne_9 : n_9 = List.length a_9) (ne_11 : n_11 = List.length a_11) (ne_18 : n_18 = List.length a_18) {r : Bool} (e : roadlaw4_ClockSays.j4 a_0 x_1 x_2 a_9 a_11 b_13 x_14 x_15 a_18 x_19 x_20 x_126 x_127 = some r) : f4.j4 (roadlaw4_ClockSays.post W h0 m0 r) A_0 n_0 c_0 x_1 x_2 A_9 n_9 c_9 A_11 n_11 c_11 b_13 x_14 x_15 A_18 n_18 c_18 x_19 x_20 x_126 x_127 h := roadlaw4_ClockSays.l0_k.all (p := .j4 a_0 x_1 x_2 a_9 a_11 b_13 x_14 x_15 a_18 x_19 x_20 x_126 x_127) e W h0 m0 h m A_0 n_0 c_0 A_9 n_9 c_9 A_11 n_11 c_11 A_18 n_18 c_18 O ne_0 k_0 r_0 ne_9 ne_11 ne_18
theorem roadlaw4_ClockSays.l1.walk {W : Nat → Prop} {h0 m0 h m : Heap} {A_0 : Option Addr} {n_0 c_0 : Nat} {A_9 : Option Addr} {n_9 c_9 : Nat} {A_11 : Option Addr} {n_11 c_11 : Nat} {A_18 : Option Addr} {n_18 c_18 : Nat} {a_0 : List T_api_Event} {x_1 : Int} {x_2 : Int} {a_9 : List (List Int)} {a_11 : List Int} {b_13 : Bool} {x_14 : Int} {x_15 : Int} {a_18 : List (List Bool)} {x_19 : Int} {x_20 : Int} {x_126 : Int} {x_127 : Int} {x_153 : Int} {x_154 : Int} (O : Hold W h0 m0 h m [rR (aE (tell_row (tell_int .i64))) A_9 c_9 a_9, rR (aE (tell_int .i64)) A_11 c_11 a_11, rR (aRow (aE tell_bool)) A_18 c_18 a_18]) (ne_0 : n_0 = List.length a_0) (k_0 : List.length a_0 ≤ c_0) (r_0 : Rd 3 T_api_Event.E m A_0 a_0) (ne_9 : n_9 = List.length a_9) (ne_11 : n_11 = List.length a_11) (ne_18 : n_18 = List.length a_18) {r : Bool} (e : roadlaw4_ClockSays.l1 a_0 x_1 x_2 a_9 a_11 b_13 x_14 x_15 a_18 x_19 x_20 x_126 x_127 x_153 x_154 = some r) : f4.l1 (roadlaw4_ClockSays.post W h0 m0 r) A_0 n_0 c_0 x_1 x_2 A_9 n_9 c_9 A_11 n_11 c_11 b_13 x_14 x_15 A_18 n_18 c_18 x_19 x_20 x_126 x_127 x_153 x_154 h := roadlaw4_ClockSays.l0_k.all (p := .l1 a_0 x_1 x_2 a_9 a_11 b_13 x_14 x_15 a_18 x_19 x_20 x_126 x_127 x_153 x_154) e W h0 m0 h m A_0 n_0 c_0 A_9 n_9 c_9 A_11 n_11 c_11 A_18 n_18 c_18 O ne_0 k_0 r_0 ne_9 ne_11 ne_18

noncomputable def roadlaw4_ClockSays.j1 (a_0 : List T_api_Event) (x_1 : Int) (x_2 : Int) (a_9 : List (List Int)) (a_11 : List Int) (b_13 : Bool) (x_14 : Int) (x_15 : Int) : Option (Bool) :=
  Option.bind (roadref4_Past a_0) fun y1 => (roadlaw4_ClockSays.l0 a_0 x_1 x_2 a_9 a_11 b_13 x_14 x_15 y1 (0 : Int) (((List.length a_0) : Nat) : Int) (0 : Int))
set_option maxRecDepth 100000 in
theorem roadlaw4_ClockSays.j1.walk {W : Nat → Prop} {h0 m0 h m : Heap} {A_0 : Option Addr} {n_0 c_0 : Nat} {A_9 : Option Addr} {n_9 c_9 : Nat} {A_11 : Option Addr} {n_11 c_11 : Nat} {a_0 : List T_api_Event} {x_1 : Int} {x_2 : Int} {a_9 : List (List Int)} {a_11 : List Int} {b_13 : Bool} {x_14 : Int} {x_15 : Int} (O : Hold W h0 m0 h m [rR (aE (tell_row (tell_int .i64))) A_9 c_9 a_9, rR (aE (tell_int .i64)) A_11 c_11 a_11]) (ne_0 : n_0 = List.length a_0) (k_0 : List.length a_0 ≤ c_0) (r_0 : Rd 3 T_api_Event.E m A_0 a_0) (ne_9 : n_9 = List.length a_9) (ne_11 : n_11 = List.length a_11) {r : Bool} (e : roadlaw4_ClockSays.j1 a_0 x_1 x_2 a_9 a_11 b_13 x_14 x_15 = some r) : f4.j1 (roadlaw4_ClockSays.post W h0 m0 r) A_0 n_0 c_0 x_1 x_2 A_9 n_9 c_9 A_11 n_11 c_11 b_13 x_14 x_15 h := by
  unfold roadlaw4_ClockSays.j1 at e
  subst ne_0
  subst ne_9
  subst ne_11
  refine f4.j1_in ?_
  unfold f4.j1T
  obtain ⟨y1, g2, e⟩ := bind_e e
  refine (roadref4_Past.walk (Hold.start (W := No) O.s) rfl k_0 r_0 g2).mono ?_
  rintro _ h3 ⟨m4, A7, n8, c9, Q5, rfl, ne10⟩
  have O12 := O.ret Q5
  subst ne10
  refine ⟨_, _, _, rfl, ?_⟩
  exact roadlaw4_ClockSays.l0.walk (O12.pick [0, 1, 2]) rfl k_0 (r_0.sub T_api_Event.T Q5.S.up) rfl rfl rfl e

noncomputable def roadlaw4_ClockSays.j0 (a_0 : List T_api_Event) (x_1 : Int) (x_2 : Int) : Option (Bool) :=
  Option.bind (clock_Clocks a_0) fun y1 => Option.bind (clock_Numbers a_0) fun y13 => Option.bind (clock_Ahead a_0 x_1 x_2) fun y25 => Option.bind (clock_Apart a_0) fun y32 => Option.bind (roadref4_History a_0) fun y39 => Option.bind (clock_Check a_0) fun y46 => if y46 = y39 then (if y39 = (0 : Int) then (if y1.2 = (0 : Int) then (if y13.2 = (0 : Int) then (if y32.2 = (0 : Int) then (if (((List.length y1.1) : Nat) : Int) = (((List.length a_0) : Nat) : Int) then (if (((List.length y13.1) : Nat) : Int) = (((List.length a_0) : Nat) : Int) then ((roadlaw4_ClockSays.j1 a_0 x_1 x_2 y1.1 y13.1 y25.1 y25.2 y32.1)) else (some (false))) else (some (false))) else (some (false))) else (some (false))) else (some (false))) else (if y1.2 = y39 then (if y13.2 = y39 then (if y25.2 = y39 then (if y32.2 = y39 then (if (((List.length y1.1) : Nat) : Int) = (0 : Int) then (if (((List.length y13.1) : Nat) : Int) = (0 : Int) then (if y25.1 = true then (some (false)) else (some ((y32.1 == (0 : Int))))) else (some (false))) else (some (false))) else (some (false))) else (some (false))) else (some (false))) else (some (false)))) else (some (false))
set_option maxRecDepth 100000 in
theorem roadlaw4_ClockSays.j0.walk {W : Nat → Prop} {h0 m0 h m : Heap} {A_0 : Option Addr} {n_0 c_0 : Nat} {a_0 : List T_api_Event} {x_1 : Int} {x_2 : Int} (O : Hold W h0 m0 h m []) (ne_0 : n_0 = List.length a_0) (k_0 : List.length a_0 ≤ c_0) (r_0 : Rd 3 T_api_Event.E m A_0 a_0) {r : Bool} (e : roadlaw4_ClockSays.j0 a_0 x_1 x_2 = some r) : f4.j0 (roadlaw4_ClockSays.post W h0 m0 r) A_0 n_0 c_0 x_1 x_2 h := by
  unfold roadlaw4_ClockSays.j0 at e
  subst ne_0
  refine f4.j0_in ?_
  unfold f4.j0T
  obtain ⟨y1, g2, e⟩ := bind_e e
  refine (clock_Clocks.walk (Hold.start (W := No) O.s) rfl k_0 r_0 g2).mono ?_
  rintro _ h3 ⟨m4, A7, n8, c9, Q5, rfl, ne10⟩
  have O12 := O.ret Q5
  subst ne10
  refine ⟨_, _, _, _, rfl, ?_⟩
  obtain ⟨y13, g14, e⟩ := bind_e e
  refine (clock_Numbers.walk (Hold.start (W := No) O12.s) rfl k_0 (r_0.sub T_api_Event.T Q5.S.up) g14).mono ?_
  rintro _ h15 ⟨m16, A19, n20, c21, Q17, rfl, ne22⟩
  have O24 := O12.retC Q17 (vfs_cons (rR_vf (aE_vf (fun _ _ _ _ h => h))) vfs_nil)
  subst ne22
  refine ⟨_, _, _, _, rfl, ?_⟩
  obtain ⟨y25, g26, e⟩ := bind_e e
  refine (clock_Ahead.walk (Hold.start (W := No) O24.s) rfl k_0 (r_0.sub T_api_Event.T Q5.S.up) g26).mono ?_
  rintro _ h27 ⟨m28, Q29, rfl⟩
  have O31 := O24.retC Q29 vfs_nil
  refine ⟨_, _, rfl, ?_⟩
  obtain ⟨y32, g33, e⟩ := bind_e e
  refine (clock_Apart.walk (Hold.start (W := No) O31.s) rfl k_0 (r_0.sub T_api_Event.T Q5.S.up) g33).mono ?_
  rintro _ h34 ⟨m35, Q36, rfl⟩
  have O38 := O31.retC Q36 vfs_nil
  refine ⟨_, _, rfl, ?_⟩
  obtain ⟨y39, g40, e⟩ := bind_e e
  refine (roadref4_History.walk (Hold.start (W := No) O38.s) rfl k_0 (r_0.sub T_api_Event.T Q5.S.up) g40).mono ?_
  rintro _ h41 ⟨m42, Q43, rfl⟩
  have O45 := O38.retC Q43 vfs_nil
  refine ⟨_, rfl, ?_⟩
  obtain ⟨y46, g47, e⟩ := bind_e e
  refine (clock_Check.walk (Hold.start (W := No) O45.s) rfl k_0 (r_0.sub T_api_Event.T Q5.S.up) g47).mono ?_
  rintro _ h48 ⟨m49, Q50, rfl⟩
  have O52 := O45.retC Q50 vfs_nil
  refine ⟨_, rfl, ?_⟩
  refine split_ne_e e (fun c66 e => ?_) (fun c66 e => ?_)
  · cases e
    exact ⟨_, O52.pick [], rfl⟩
  · refine split_ne_e e (fun c65 e => ?_) (fun c65 e => ?_)
    · refine split_eq_e e (fun c59 e => ?_) (fun c59 e => ?_)
      · refine split_eq_e e (fun c58 e => ?_) (fun c58 e => ?_)
        · refine split_eq_e e (fun c57 e => ?_) (fun c57 e => ?_)
          · refine split_eq_e e (fun c56 e => ?_) (fun c56 e => ?_)
            · refine split_eq_e e (fun c55 e => ?_) (fun c55 e => ?_)
              · refine split_eq_e e (fun c54 e => ?_) (fun c54 e => ?_)
                · refine split_not ?_
                  refine split_any_e e (fun c53 e => ?_) (fun c53 e => ?_)
                  · cases e
                    exact ⟨_, O52.pick [], rfl⟩
                  · cases e
                    exact ⟨_, O52.pick [], rfl⟩
                · cases e
                  exact ⟨_, O52.pick [], rfl⟩
              · cases e
                exact ⟨_, O52.pick [], rfl⟩
            · cases e
              exact ⟨_, O52.pick [], rfl⟩
          · cases e
            exact ⟨_, O52.pick [], rfl⟩
        · cases e
          exact ⟨_, O52.pick [], rfl⟩
      · cases e
        exact ⟨_, O52.pick [], rfl⟩
    · refine split_ne_e e (fun c64 e => ?_) (fun c64 e => ?_)
      · cases e
        exact ⟨_, O52.pick [], rfl⟩
      · refine split_ne_e e (fun c63 e => ?_) (fun c63 e => ?_)
        · cases e
          exact ⟨_, O52.pick [], rfl⟩
        · refine split_ne_e e (fun c62 e => ?_) (fun c62 e => ?_)
          · cases e
            exact ⟨_, O52.pick [], rfl⟩
          · refine split_ne_e e (fun c61 e => ?_) (fun c61 e => ?_)
            · cases e
              exact ⟨_, O52.pick [], rfl⟩
            · refine split_ne_e e (fun c60 e => ?_) (fun c60 e => ?_)
              · cases e
                exact ⟨_, O52.pick [], rfl⟩
              · exact roadlaw4_ClockSays.j1.walk (O52.pick [0, 1]) rfl k_0 (r_0.sub T_api_Event.T Q5.S.up) rfl rfl e

noncomputable def roadlaw4_ClockSays (a_0 : List T_api_Event) (x_1 : Int) (x_2 : Int) : Option (Bool) :=
  Option.bind (roadlaw4_two ) fun y1 => Option.bind (clock_Ahead y1 (0 : Int) (1 : Int)) fun y13 => if y13.2 = (0 : Int) then (if y13.1 = true then ((roadlaw4_ClockSays.j0 a_0 x_1 x_2)) else (some (false))) else (some (false))
set_option maxRecDepth 100000 in
theorem roadlaw4_ClockSays.walk {W : Nat → Prop} {h m : Heap} {A_0 : Option Addr} {n_0 c_0 : Nat} {a_0 : List T_api_Event} {x_1 : Int} {x_2 : Int} (O : Hold W h m h m []) (ne_0 : n_0 = List.length a_0) (k_0 : List.length a_0 ≤ c_0) (r_0 : Rd 3 T_api_Event.E m A_0 a_0) {r : Bool} (e : roadlaw4_ClockSays a_0 x_1 x_2 = some r) : Run Try.prog 4 #[Value.slice A_0 n_0 c_0, Value.int .i64 x_1, Value.int .i64 x_2] h (roadlaw4_ClockSays.post W h m r) := by
  unfold roadlaw4_ClockSays at e
  subst ne_0
  refine f4.run ?_
  unfold f4.runT
  obtain ⟨y1, g2, e⟩ := bind_e e
  refine (roadlaw4_two.walk (Hold.start (W := No) O.s)  g2).mono ?_
  rintro _ h3 ⟨m4, A7, n8, c9, Q5, rfl, ne10⟩
  have O12 := O.retC Q5 (vfs_cons (rR_vf (aE_vf (fun _ _ _ _ h => T_api_Event.keep h))) vfs_nil)
  subst ne10
  refine ⟨_, _, _, rfl, ?_⟩
  obtain ⟨y13, g14, e⟩ := bind_e e
  obtain ⟨m19, u20, s25, ⟨⟨r23, k24⟩, _⟩, B21, C22⟩ := O12.lend0 [0]
  replace r23 : Rd 3 T_api_Event.E m19 A7 y1 := r23
  replace k24 : List.length y1 ≤ c9 := k24
  refine (clock_Ahead.walk (Hold.start (W := No) s25) rfl k24 r23 g14).mono ?_
  rintro _ h15 ⟨m16, Q17, rfl⟩
  have O26 := C22 Q17 vfs_nil
  refine ⟨_, _, rfl, ?_⟩
  refine split_ne_e e (fun c28 e => ?_) (fun c28 e => ?_)
  · cases e
    exact ⟨_, O26.pick [], rfl⟩
  · refine split_not ?_
    refine split_any_e e (fun c27 e => ?_) (fun c27 e => ?_)
    · exact roadlaw4_ClockSays.j0.walk (O26.pick []) rfl k_0 r_0 e
    · cases e
      exact ⟨_, O26.pick [], rfl⟩

end Go.Proofs.Ytklobcelbpjjcab.Fw
