/- Data of the given program, and pure functions of its functions, with the walks. Printed by a program of this session. -/
import Derived.Test.YtklobcelbpjjcabFwTraceTells
import Derived.Test.YtklobcelbpjjcabHwOf
namespace Go.Proofs.Ytklobcelbpjjcab.Fw
open Go Go.Hw Go.Proofs
set_option linter.unusedVariables false

structure T_api_Event where
  Place : Int
  Kind : Int
  Msg : Int
def T_api_Event.E (h : Heap) (x : T_api_Event) (cs : List Value) : Prop := cs = [.int .i64 x.Place, .int .i64 x.Kind, .int .i64 x.Msg]
theorem T_api_Event.T : Tell 3 T_api_Event.E := ⟨by rintro m h x _ s rfl; exact rfl, by rintro h x _ rfl; rfl, by rintro h x _ rfl; exact Flats.cons trivial (Flats.cons trivial (Flats.cons trivial Flats.nil))⟩
theorem T_api_Event.keep {m h : Heap} {x : T_api_Event} {cs : List Value} (e : T_api_Event.E m x cs) : T_api_Event.E h x cs := e
def T_api_Event.Q (x : T_api_Event) : Prop := (-9223372036854775808 ≤ x.Place ∧ x.Place ≤ 9223372036854775807) ∧ (-9223372036854775808 ≤ x.Kind ∧ x.Kind ≤ 9223372036854775807) ∧ (-9223372036854775808 ≤ x.Msg ∧ x.Msg ≤ 9223372036854775807)
theorem T_api_Event.tells {H : Type} {enc : TypeId × Value → H} {W : World} : Tells enc Try.prog W 88 T_api_Event.E T_api_Event.Q := tells_map (tells_struct (t := 88) (fs := [(3, 0), (3, 1), (3, 2)]) (T := 3) (by kernel_rfl) (by kernel_rfl) (tf_cons (s := 1) (f := 3) (by kernel_rfl) (tells_i64 (t := 3) (by kernel_rfl)) (tf_cons (s := 1) (f := 3) (by kernel_rfl) (tells_i64 (t := 3) (by kernel_rfl)) (tf_cons (s := 1) (f := 3) (by kernel_rfl) (tells_i64 (t := 3) (by kernel_rfl)) tf_nil)))) (by
  rintro ⟨x0, x1, x2, ⟨⟩⟩ cs e q
  obtain ⟨c0, r0, rfl, e0, c1, r1, rfl, e1, c2, r2, rfl, e2, eN⟩ := e
  obtain rfl : c0 = [.int .i64 x0] := e0
  obtain rfl : c1 = [.int .i64 x1] := e1
  obtain rfl : c2 = [.int .i64 x2] := e2
  obtain rfl : r2 = [] := eN
  exact ⟨⟨x0, x1, x2⟩, rfl, q.1, q.2.1, q.2.2.1⟩)
theorem T_api_Event.g1 {m : Heap} {x : T_api_Event} {cs : List Value} (e : T_api_Event.E m x cs) : cs[1]? = some (Value.int .i64 x.Kind) := by
  obtain rfl := e
  exact rfl
theorem T_api_Event.g2 {m : Heap} {x : T_api_Event} {cs : List Value} (e : T_api_Event.E m x cs) : cs[2]? = some (Value.int .i64 x.Msg) := by
  obtain rfl := e
  exact rfl
theorem T_api_Event.g0 {m : Heap} {x : T_api_Event} {cs : List Value} (e : T_api_Event.E m x cs) : cs[0]? = some (Value.int .i64 x.Place) := by
  obtain rfl := e
  exact rfl

/-! ### 22 roadstead/roadlaw4.two -/
def roadlaw4_two.post (W : Nat → Prop) (h0 m0 : Heap) (r : (List T_api_Event)) (v : Value) (h : Heap) : Prop := ∃ m A0 n0 c0, Hold W h0 m0 h m [rR (aE T_api_Event.T) A0 c0 r] ∧ v = .slice A0 n0 c0 ∧ n0 = List.length r
noncomputable def roadlaw4_two  : Option ((List T_api_Event)) :=
  some (([(T_api_Event.mk (0 : Int) (2 : Int) (5 : Int)), (T_api_Event.mk (1 : Int) (3 : Int) (5 : Int))] : List T_api_Event))
set_option maxRecDepth 100000 in
theorem roadlaw4_two.walk {W : Nat → Prop} {h m : Heap}  (O : Hold W h m h m []) {r : (List T_api_Event)} (e : roadlaw4_two  = some r) : Run Try.prog 22 #[] h (roadlaw4_two.post W h m r) := by
  unfold roadlaw4_two at e
  refine f22.run ?_
  unfold f22.runT
  refine ⟨[(Value.int .i64 (0 : Int)), (Value.int .i64 (2 : Int)), (Value.int .i64 (5 : Int))], rfl, rfl, ?_⟩
  refine ⟨[(Value.int .i64 (1 : Int)), (Value.int .i64 (3 : Int)), (Value.int .i64 (5 : Int))], rfl, rfl, ?_⟩
  refine O.new fun h1 x2 O3 => ?_
  have O5 := O3.rowE (l := ([(T_api_Event.mk (0 : Int) (2 : Int) (5 : Int)), (T_api_Event.mk (1 : Int) (3 : Int) (5 : Int))] : List T_api_Event)) 0 rfl T_api_Event.T (show CsE _ _ _ _ _ from (CsE.cons (c1 := [(Value.int .i64 (0 : Int)), (Value.int .i64 (2 : Int)), (Value.int .i64 (5 : Int))]) (show T_api_Event.E _ (T_api_Event.mk (0 : Int) (2 : Int) (5 : Int)) [(Value.int .i64 (0 : Int)), (Value.int .i64 (2 : Int)), (Value.int .i64 (5 : Int))] from rfl) rfl (CsE.cons (c1 := [(Value.int .i64 (1 : Int)), (Value.int .i64 (3 : Int)), (Value.int .i64 (5 : Int))]) (show T_api_Event.E _ (T_api_Event.mk (1 : Int) (3 : Int) (5 : Int)) [(Value.int .i64 (1 : Int)), (Value.int .i64 (3 : Int)), (Value.int .i64 (5 : Int))] from rfl) rfl CsE.nil))) rfl
  have O6 := O5.nm
  cases e
  exact ⟨_, _, _, _, O6.pick [0], rfl, rfl⟩

/-! ### 104 slices.IndexFunc[[]roadstead/api.Event,roadstead/api.Event] -/
def slices_IndexFunc_104.post (W : Nat → Prop) (h0 m0 : Heap) (r : Int) (v : Value) (h : Heap) : Prop := ∃ m , Hold W h0 m0 h m [] ∧ v = .int .i64 r
inductive slices_IndexFunc_104.l0_k.Pt where
  | l0 (a_0 : List T_api_Event) (p_1 : T_api_Event → Option Bool) (x_7 : Int) (x_8 : Int)
noncomputable def slices_IndexFunc_104.l0_k.body (go : (p : slices_IndexFunc_104.l0_k.Pt) → Option (Int)) : (p : slices_IndexFunc_104.l0_k.Pt) → Option (Int)
  | .l0 a_0 p_1 x_7 x_8 => if x_8 < x_7 then (Option.bind (gi a_0 x_8) fun y1 => Option.bind (p_1 y1) fun y8 => if y8 = true then (some (x_8)) else ((go (.l0 a_0 p_1 x_7 (IntKind.wrap .i64 (x_8 + (1 : Int))))))) else (some ((-1 : Int)))
theorem slices_IndexFunc_104.l0_k.mono : MonoF (β := fun _ => (Int)) slices_IndexFunc_104.l0_k.body := fun f g hfg p => match p with
  | .l0 a_0 p_1 x_7 x_8 => LeO.ite (LeO.bind (LeO.refl _) fun y1 => LeO.bind (LeO.refl _) fun y8 => LeO.ite (LeO.refl _) ((hfg _))) (LeO.refl _)
noncomputable def slices_IndexFunc_104.l0_k.go (p : slices_IndexFunc_104.l0_k.Pt) : Option (Int) := fixF (β := fun _ => (Int)) slices_IndexFunc_104.l0_k.body p
noncomputable def slices_IndexFunc_104.l0 (a_0 : List T_api_Event) (p_1 : T_api_Event → Option Bool) (x_7 : Int) (x_8 : Int) : Option (Int) := slices_IndexFunc_104.l0_k.go (.l0 a_0 p_1 x_7 x_8)
theorem slices_IndexFunc_104.l0_eq (a_0 : List T_api_Event) (p_1 : T_api_Event → Option Bool) (x_7 : Int) (x_8 : Int) : slices_IndexFunc_104.l0 a_0 p_1 x_7 x_8 = if x_8 < x_7 then (Option.bind (gi a_0 x_8) fun y1 => Option.bind (p_1 y1) fun y8 => if y8 = true then (some (x_8)) else ((slices_IndexFunc_104.l0 a_0 p_1 x_7 (IntKind.wrap .i64 (x_8 + (1 : Int)))))) else (some ((-1 : Int))) := fixF_eq slices_IndexFunc_104.l0_k.mono _
def slices_IndexFunc_104.l0_k.I : (p : slices_IndexFunc_104.l0_k.Pt) → (Int) → Prop
  | .l0 a_0 p_1 x_7 x_8, r => ∀ (W : Nat → Prop) (h0 m0 h m : Heap) (A_0 : Option Addr) (n_0 c_0 : Nat) (fv_1 : Value) (O : Hold W h0 m0 h m []) (ne_0 : n_0 = List.length a_0) (k_0 : List.length a_0 ≤ c_0) (r_0 : Rd 3 T_api_Event.E m A_0 a_0) (f_1 : ∀ h' m', Sub m0 m' → Sub m' h' → ∀ (y0 : T_api_Event) (cs0 : List Value) (_ : T_api_Event.E m' y0 cs0) (r : Bool), p_1 y0 = some r → CallF Try.prog fv_1 [.agg cs0.toArray] h' (fun v h'' => v = .bool r ∧ Ext h' h'')), f104.l0 (slices_IndexFunc_104.post W h0 m0 r) A_0 n_0 c_0 fv_1 x_7 x_8 h
set_option maxRecDepth 100000 in
theorem slices_IndexFunc_104.l0_k.step_l0 (go : (p : slices_IndexFunc_104.l0_k.Pt) → Option (Int)) (ih : ∀ p r, go p = some r → slices_IndexFunc_104.l0_k.I p r) (a_0 : List T_api_Event) (p_1 : T_api_Event → Option Bool) (x_7 : Int) (x_8 : Int) (r : Int) (e : slices_IndexFunc_104.l0_k.body go (.l0 a_0 p_1 x_7 x_8) = some r) : slices_IndexFunc_104.l0_k.I (.l0 a_0 p_1 x_7 x_8) r := by
  unfold slices_IndexFunc_104.l0_k.body at e
  intro W h0 m0 h m A_0 n_0 c_0 fv_1 O ne_0 k_0 r_0 f_1
  subst ne_0
  refine f104.l0_in ?_
  unfold f104.l0T
  refine split_dec_e e (fun c14 e => ?_) (fun c14 e => ?_)
  · obtain ⟨y1, g2, e⟩ := bind_e e
    refine r_0.addr rfl g2 fun a3 cs4 ha5 hc6 he7 => ?_
    refine ⟨_, ldAn O.s hc6 rfl, ?_⟩
    obtain ⟨y8, g9, e⟩ := bind_e e
    refine CallF.mono (f_1 _ _ O.up O.s _ _ he7 _ g9) ?_
    rintro _ h10 ⟨rfl, x11⟩
    have O12 := O.ext x11
    refine ⟨_, rfl, ?_⟩
    refine split_any_e e (fun c13 e => ?_) (fun c13 e => ?_)
    · cases e
      exact ⟨_, O12.pick [], rfl⟩
    · exact (ih _ _ e) _ _ _ _ _ _ _ _ _ (O12.pick []).nm rfl k_0 r_0 f_1
  · cases e
    exact ⟨_, O.pick [], rfl⟩
theorem slices_IndexFunc_104.l0_k.all {p : slices_IndexFunc_104.l0_k.Pt} {r : (Int)} (e : slices_IndexFunc_104.l0_k.go p = some r) : slices_IndexFunc_104.l0_k.I p r := fixF_ind (β := fun _ => (Int)) slices_IndexFunc_104.l0_k.mono (I := slices_IndexFunc_104.l0_k.I) (fun go ih p r e => match p with
  | .l0 a_0 p_1 x_7 x_8 => slices_IndexFunc_104.l0_k.step_l0 go ih a_0 p_1 x_7 x_8 r e
  ) e
theorem slices_IndexFunc_104.l0.walk {W : Nat → Prop} {h0 m0 h m : Heap} {A_0 : Option Addr} {n_0 c_0 : Nat} {fv_1 : Value} {a_0 : List T_api_Event} {p_1 : T_api_Event → Option Bool} {x_7 : Int} {x_8 : Int} (O : Hold W h0 m0 h m []) (ne_0 : n_0 = List.length a_0) (k_0 : List.length a_0 ≤ c_0) (r_0 : Rd 3 T_api_Event.E m A_0 a_0) (f_1 : ∀ h' m', Sub m0 m' → Sub m' h' → ∀ (y0 : T_api_Event) (cs0 : List Value) (_ : T_api_Event.E m' y0 cs0) (r : Bool), p_1 y0 = some r → CallF Try.prog fv_1 [.agg cs0.toArray] h' (fun v h'' => v = .bool r ∧ Ext h' h'')) {r : Int} (e : slices_IndexFunc_104.l0 a_0 p_1 x_7 x_8 = some r) : f104.l0 (slices_IndexFunc_104.post W h0 m0 r) A_0 n_0 c_0 fv_1 x_7 x_8 h := slices_IndexFunc_104.l0_k.all (p := .l0 a_0 p_1 x_7 x_8) e W h0 m0 h m A_0 n_0 c_0 fv_1 O ne_0 k_0 r_0 f_1

noncomputable def slices_IndexFunc_104 (a_0 : List T_api_Event) (p_1 : T_api_Event → Option Bool) : Option (Int) :=
  (slices_IndexFunc_104.l0 a_0 p_1 (((List.length a_0) : Nat) : Int) (0 : Int))
set_option maxRecDepth 100000 in
theorem slices_IndexFunc_104.walk {W : Nat → Prop} {h m : Heap} {A_0 : Option Addr} {n_0 c_0 : Nat} {fv_1 : Value} {a_0 : List T_api_Event} {p_1 : T_api_Event → Option Bool} (O : Hold W h m h m []) (ne_0 : n_0 = List.length a_0) (k_0 : List.length a_0 ≤ c_0) (r_0 : Rd 3 T_api_Event.E m A_0 a_0) (f_1 : ∀ h' m', Sub m m' → Sub m' h' → ∀ (y0 : T_api_Event) (cs0 : List Value) (_ : T_api_Event.E m' y0 cs0) (r : Bool), p_1 y0 = some r → CallF Try.prog fv_1 [.agg cs0.toArray] h' (fun v h'' => v = .bool r ∧ Ext h' h'')) {r : Int} (e : slices_IndexFunc_104 a_0 p_1 = some r) : Run Try.prog 104 #[Value.slice A_0 n_0 c_0, fv_1] h (slices_IndexFunc_104.post W h m r) := by
  unfold slices_IndexFunc_104 at e
  subst ne_0
  refine f104.run ?_
  unfold f104.runT
  exact slices_IndexFunc_104.l0.walk (O.pick []).nm rfl k_0 r_0 f_1 e
theorem slices_IndexFunc_104.val {l : List T_api_Event} {p : T_api_Event → Option Bool} (q : T_api_Event → Bool) (hp : ∀ x ∈ l, p x = some (q x)) (hl : l.length ≤ 4611686018427387904) : slices_IndexFunc_104 l p = some (idxOf q l) := find_val (fun a p n i => slices_IndexFunc_104.l0_eq a p n i) q hp hl

/-! ### 79 slices.ContainsFunc[[]roadstead/api.Event,roadstead/api.Event] -/
def slices_ContainsFunc_79.post (W : Nat → Prop) (h0 m0 : Heap) (r : Bool) (v : Value) (h : Heap) : Prop := ∃ m , Hold W h0 m0 h m [] ∧ v = .bool r
noncomputable def slices_ContainsFunc_79 (a_0 : List T_api_Event) (p_1 : T_api_Event → Option Bool) : Option (Bool) :=
  Option.bind (slices_IndexFunc_104 a_0 p_1) fun y1 => some ((decide (y1 ≥ (0 : Int))))
set_option maxRecDepth 100000 in
theorem slices_ContainsFunc_79.walk {W : Nat → Prop} {h m : Heap} {A_0 : Option Addr} {n_0 c_0 : Nat} {fv_1 : Value} {a_0 : List T_api_Event} {p_1 : T_api_Event → Option Bool} (O : Hold W h m h m []) (ne_0 : n_0 = List.length a_0) (k_0 : List.length a_0 ≤ c_0) (r_0 : Rd 3 T_api_Event.E m A_0 a_0) (f_1 : ∀ h' m', Sub m m' → Sub m' h' → ∀ (y0 : T_api_Event) (cs0 : List Value) (_ : T_api_Event.E m' y0 cs0) (r : Bool), p_1 y0 = some r → CallF Try.prog fv_1 [.agg cs0.toArray] h' (fun v h'' => v = .bool r ∧ Ext h' h'')) {r : Bool} (e : slices_ContainsFunc_79 a_0 p_1 = some r) : Run Try.prog 79 #[Value.slice A_0 n_0 c_0, fv_1] h (slices_ContainsFunc_79.post W h m r) := by
  unfold slices_ContainsFunc_79 at e
  subst ne_0
  refine f79.run ?_
  unfold f79.runT
  obtain ⟨y1, g2, e⟩ := bind_e e
  refine (slices_IndexFunc_104.walk (Hold.start (W := No) O.s) rfl k_0 r_0 f_1 g2).mono ?_
  rintro _ h3 ⟨m4, Q5, rfl⟩
  have O7 := Hold.nm (O.retC Q5 vfs_nil)
  refine ⟨_, rfl, ?_⟩
  cases e
  exact ⟨_, O7.pick [], rfl⟩
theorem slices_ContainsFunc_79.val {l : List T_api_Event} {p : T_api_Event → Option Bool} (q : T_api_Event → Bool) (hp : ∀ x ∈ l, p x = some (q x)) (hl : l.length ≤ 4611686018427387904) : slices_ContainsFunc_79 l p = some (l.any q) := findB_val (fun a p n i => slices_IndexFunc_104.l0_eq a p n i) (fun _ _ => rfl) (fun _ _ => rfl) q hp hl

/-! ### 80 roadstead/roadref4.History$1$1 -/
def roadref4_History_1_1.post (W : Nat → Prop) (h0 m0 : Heap) (r : Bool) (v : Value) (h : Heap) : Prop := ∃ m , Hold W h0 m0 h m [] ∧ v = .bool r
noncomputable def roadref4_History_1_1 (y_0 : T_api_Event) (y_1 : Int) (y_2 : T_api_Event) : Option (Bool) :=
  if y_0.Kind = y_1 then (some ((y_0.Msg == y_2.Msg))) else (some (false))
set_option maxRecDepth 100000 in
theorem roadref4_History_1_1.walk {W : Nat → Prop} {h m : Heap} {cs_0 : List Value} {bk_1 : Nat} {bk_2 : Nat} {y_0 : T_api_Event} {y_1 : Int} {y_2 : T_api_Event} (O : Hold W h m h m []) (e_0 : T_api_Event.E m y_0 cs_0) (v_1 : VB (eInt .i64) m bk_1 y_1) (v_2 : VB T_api_Event.E m bk_2 y_2) {r : Bool} (e : roadref4_History_1_1 y_0 y_1 y_2 = some r) : Run Try.prog 80 #[Value.agg cs_0.toArray, Value.pointer (some ⟨bk_1, 0, none⟩), Value.pointer (some ⟨bk_2, 0, none⟩)] h (roadref4_History_1_1.post W h m r) := by
  unfold roadref4_History_1_1 at e
  obtain ⟨cs_1, t_1, hb_1, nn_1, e_1⟩ := id v_1
  obtain rfl : cs_1 = [(Value.int .i64 y_1)] := e_1
  obtain ⟨cs_2, t_2, hb_2, nn_2, e_2⟩ := id v_2
  refine f80.run ?_
  unfold f80.runT
  refine O.new fun h1 x2 O3 => ?_
  refine ⟨_, ldk (k := 1) (Sub.refl _) (O3.all 0 rfl) (T_api_Event.g1 e_0), _, rfl, ?_⟩
  refine ⟨_, ld0 O3.s (Blk.all' hb_1) rfl, _, rfl, ?_⟩
  refine split_eq_e e (fun c7 e => ?_) (fun c7 e => ?_)
  · refine ⟨_, ldk (k := 2) (Sub.refl _) (O3.all 0 rfl) (T_api_Event.g2 e_0), _, rfl, ?_⟩
    refine ⟨_, ldk (k := 2) O3.s (Blk.all' hb_2) (T_api_Event.g2 e_2), _, rfl, ?_⟩
    have O5 := O3.nm
    cases e
    exact ⟨_, O5.pick [], rfl⟩
  · have O6 := O3.nm
    cases e
    exact ⟨_, O6.pick [], rfl⟩

/-! ### 78 roadstead/roadref4.History$1 -/
def roadref4_History_1.post (W : Nat → Prop) (h0 m0 : Heap) (r : Bool) (v : Value) (h : Heap) : Prop := ∃ m , Hold W h0 m0 h m [] ∧ v = .bool r
noncomputable def roadref4_History_1 (x_0 : Int) (y_1 : (List T_api_Event)) (y_2 : Int) (y_3 : T_api_Event) : Option (Bool) :=
  Option.bind (sls y_1 (0 : Int) y_2) fun l5 => Option.bind (slices_ContainsFunc_79 l5 (fun z23 => roadref4_History_1_1 z23 x_0 y_3)) fun y10 => some (y10)
set_option maxRecDepth 100000 in
theorem roadref4_History_1.walk {W : Nat → Prop} {h m : Heap} {bk_1 : Nat} {bk_2 : Nat} {bk_3 : Nat} {x_0 : Int} {y_1 : (List T_api_Event)} {y_2 : Int} {y_3 : T_api_Event} (O : Hold W h m h m []) (v_1 : VB (eRow 3 T_api_Event.E) m bk_1 y_1) (v_2 : VB (eInt .i64) m bk_2 y_2) (v_3 : VB T_api_Event.E m bk_3 y_3) {r : Bool} (e : roadref4_History_1 x_0 y_1 y_2 y_3 = some r) : Run Try.prog 78 #[Value.int .i64 x_0, Value.pointer (some ⟨bk_1, 0, none⟩), Value.pointer (some ⟨bk_2, 0, none⟩), Value.pointer (some ⟨bk_3, 0, none⟩)] h (roadref4_History_1.post W h m r) := by
  unfold roadref4_History_1 at e
  obtain ⟨cs_1, t_1, hb_1, nn_1, e_1⟩ := id v_1
  obtain ⟨Ae_1_0, ce_1_0, rfl, ke_1_0, re_1_0⟩ := id e_1
  obtain ⟨cs_2, t_2, hb_2, nn_2, e_2⟩ := id v_2
  obtain rfl : cs_2 = [(Value.int .i64 y_2)] := e_2
  obtain ⟨cs_3, t_3, hb_3, nn_3, e_3⟩ := id v_3
  refine f78.run ?_
  unfold f78.runT
  refine O.new fun h1 x2 O3 => ?_
  refine ⟨_, ld0 O3.s (Blk.all' hb_1) rfl, _, _, _, rfl, ?_⟩
  refine ⟨_, ld0 O3.s (Blk.all' hb_2) rfl, _, rfl, ?_⟩
  obtain ⟨l5, g6, e⟩ := bind_e e
  have q7 := sls_e g6
  refine ⟨q7.1, q7.2.1, cap_in q7.2.2.1 ke_1_0, ?_⟩
  try rw [q7.2.2.2.1]
  have k8 : List.length l5 ≤ (ce_1_0 - Int.toNat (0 : Int)) := sls_cap g6 ke_1_0
  have r9 := re_1_0.sls g6 (le_mx q7.2.2.1 ke_1_0)
  obtain ⟨y10, g11, e⟩ := bind_e e
  have O16 := O3.nm
  obtain ⟨m17, u18, s22, ⟨hb21, _⟩, B19, C20⟩ := O16.lend0 [0]
  refine (slices_ContainsFunc_79.walk (Hold.start (W := No) s22) rfl k8 (r9.sub T_api_Event.T u18) (fun h24 m25 u26 s27 y30 cs30 he30 r28 e29 => CallF.of [Value.agg cs30.toArray, Value.pointer (some ⟨(Array.size h), 0, none⟩), Value.pointer (some ⟨bk_3, 0, none⟩)] f80.ok rfl ((roadref4_History_1_1.walk (Hold.start (W := No) s27) he30 (VB.sub (show VB (eInt .i64) _ _ _ from ⟨_, _, hb21, nn, rfl⟩) (tell_int .i64) u26) (VB.sub (v_3.sub T_api_Event.T u18) T_api_Event.T u26) e29).mono (fun _ _ h => let ⟨_, t, e⟩ := h; ⟨e, t.S.ext⟩))) g11).mono ?_
  rintro _ h12 ⟨m13, Q14, rfl⟩
  have O31 := Hold.nm (C20 Q14 vfs_nil)
  refine ⟨_, rfl, ?_⟩
  cases e
  exact ⟨_, O31.pick [], rfl⟩

/-! ### 81 roadstead/roadref4.within -/
def roadref4_within.post (W : Nat → Prop) (h0 m0 : Heap) (r : Bool) (v : Value) (h : Heap) : Prop := ∃ m , Hold W h0 m0 h m [] ∧ v = .bool r
noncomputable def roadref4_within (x_0 : Int) (x_1 : Int) (x_2 : Int) : Option (Bool) :=
  if x_0 ≥ x_1 then (some ((decide (x_0 ≤ x_2)))) else (some (false))
set_option maxRecDepth 100000 in
theorem roadref4_within.walk {W : Nat → Prop} {h m : Heap} {x_0 : Int} {x_1 : Int} {x_2 : Int} (O : Hold W h m h m []) {r : Bool} (e : roadref4_within x_0 x_1 x_2 = some r) : Run Try.prog 81 #[Value.int .i64 x_0, Value.int .i64 x_1, Value.int .i64 x_2] h (roadref4_within.post W h m r) := by
  unfold roadref4_within at e
  refine f81.run ?_
  unfold f81.runT
  refine split_dec_e e (fun c1 e => ?_) (fun c1 e => ?_)
  · cases e
    exact ⟨_, O.pick [], rfl⟩
  · cases e
    exact ⟨_, O.pick [], rfl⟩

/-! ### 26 roadstead/roadref4.History -/
def roadref4_History.post (W : Nat → Prop) (h0 m0 : Heap) (r : Int) (v : Value) (h : Heap) : Prop := ∃ m , Hold W h0 m0 h m [] ∧ v = .int .i64 r
inductive roadref4_History.l0_k.Pt where
  | l0 (y_1 : (List T_api_Event)) (a_9 : List T_api_Event) (x_10 : Int) (x_11 : Int)
  | j0 (y_1 : (List T_api_Event)) (y_4 : T_api_Event) (y_5_c_1 : Int) (a_9 : List T_api_Event) (x_10 : Int) (x_11 : Int) (b_22 : Bool)
  | j1 (y_1 : (List T_api_Event)) (y_4 : T_api_Event) (y_5_c_1 : Int) (a_9 : List T_api_Event) (x_10 : Int) (x_11 : Int) (b_36 : Bool)
  | j2 (y_1 : (List T_api_Event)) (y_4 : T_api_Event) (y_5_c_1 : Int) (a_9 : List T_api_Event) (x_10 : Int) (x_11 : Int) (b_44 : Bool)
noncomputable def roadref4_History.l0_k.body (go : (p : roadref4_History.l0_k.Pt) → Option (Int)) : (p : roadref4_History.l0_k.Pt) → Option (Int)
  | .l0 y_1 a_9 x_10 x_11 => if x_11 < x_10 then (Option.bind (gi a_9 x_11) fun y1 => Option.bind (roadref4_within y1.Kind (1 : Int) (3 : Int)) fun y20 => if y20 = true then (Option.bind (roadref4_within y1.Place (0 : Int) (7 : Int)) fun y27 => if y27 = true then (if y1.Kind > (1 : Int) then (Option.bind (roadref4_within y1.Msg (0 : Int) (999 : Int)) fun y34 => (go (.j0 y_1 y1 x_11 a_9 x_10 x_11 (!y34)))) else ((go (.j0 y_1 y1 x_11 a_9 x_10 x_11 false)))) else ((go (.j0 y_1 y1 x_11 a_9 x_10 x_11 (!y27))))) else (some ((3 : Int)))) else (some ((0 : Int)))
  | .j0 y_1 y_4 y_5_c_1 a_9 x_10 x_11 b_22 => if b_22 = true then (some ((1 : Int))) else (if y_4.Kind = (2 : Int) then (Option.bind (roadref4_History_1 (2 : Int) y_1 y_5_c_1 y_4) fun y1 => (go (.j1 y_1 y_4 y_5_c_1 a_9 x_10 x_11 y1))) else ((go (.j1 y_1 y_4 y_5_c_1 a_9 x_10 x_11 false))))
  | .j1 y_1 y_4 y_5_c_1 a_9 x_10 x_11 b_36 => if b_36 = true then (some ((5 : Int))) else (if y_4.Kind = (3 : Int) then (Option.bind (roadref4_History_1 (2 : Int) y_1 y_5_c_1 y_4) fun y1 => (go (.j2 y_1 y_4 y_5_c_1 a_9 x_10 x_11 (!y1)))) else ((go (.j2 y_1 y_4 y_5_c_1 a_9 x_10 x_11 false))))
  | .j2 y_1 y_4 y_5_c_1 a_9 x_10 x_11 b_44 => if b_44 = true then (some ((4 : Int))) else (if y_4.Kind = (3 : Int) then (Option.bind (roadref4_History_1 (3 : Int) y_1 y_5_c_1 y_4) fun y1 => if y1 = true then (some ((5 : Int))) else ((go (.l0 y_1 a_9 x_10 (IntKind.wrap .i64 (x_11 + (1 : Int))))))) else ((go (.l0 y_1 a_9 x_10 (IntKind.wrap .i64 (x_11 + (1 : Int)))))))
theorem roadref4_History.l0_k.mono : MonoF (β := fun _ => (Int)) roadref4_History.l0_k.body := fun f g hfg p => match p with
  | .l0 y_1 a_9 x_10 x_11 => LeO.ite (LeO.bind (LeO.refl _) fun y1 => LeO.bind (LeO.refl _) fun y20 => LeO.ite (LeO.bind (LeO.refl _) fun y27 => LeO.ite (LeO.ite (LeO.bind (LeO.refl _) fun y34 => (hfg _)) ((hfg _))) ((hfg _))) (LeO.refl _)) (LeO.refl _)
  | .j0 y_1 y_4 y_5_c_1 a_9 x_10 x_11 b_22 => LeO.ite (LeO.refl _) (LeO.ite (LeO.bind (LeO.refl _) fun y1 => (hfg _)) ((hfg _)))
  | .j1 y_1 y_4 y_5_c_1 a_9 x_10 x_11 b_36 => LeO.ite (LeO.refl _) (LeO.ite (LeO.bind (LeO.refl _) fun y1 => (hfg _)) ((hfg _)))
  | .j2 y_1 y_4 y_5_c_1 a_9 x_10 x_11 b_44 => LeO.ite (LeO.refl _) (LeO.ite (LeO.bind (LeO.refl _) fun y1 => LeO.ite (LeO.refl _) ((hfg _))) ((hfg _)))
noncomputable def roadref4_History.l0_k.go (p : roadref4_History.l0_k.Pt) : Option (Int) := fixF (β := fun _ => (Int)) roadref4_History.l0_k.body p
noncomputable def roadref4_History.l0 (y_1 : (List T_api_Event)) (a_9 : List T_api_Event) (x_10 : Int) (x_11 : Int) : Option (Int) := roadref4_History.l0_k.go (.l0 y_1 a_9 x_10 x_11)
noncomputable def roadref4_History.j0 (y_1 : (List T_api_Event)) (y_4 : T_api_Event) (y_5_c_1 : Int) (a_9 : List T_api_Event) (x_10 : Int) (x_11 : Int) (b_22 : Bool) : Option (Int) := roadref4_History.l0_k.go (.j0 y_1 y_4 y_5_c_1 a_9 x_10 x_11 b_22)
noncomputable def roadref4_History.j1 (y_1 : (List T_api_Event)) (y_4 : T_api_Event) (y_5_c_1 : Int) (a_9 : List T_api_Event) (x_10 : Int) (x_11 : Int) (b_36 : Bool) : Option (Int) := roadref4_History.l0_k.go (.j1 y_1 y_4 y_5_c_1 a_9 x_10 x_11 b_36)
noncomputable def roadref4_History.j2 (y_1 : (List T_api_Event)) (y_4 : T_api_Event) (y_5_c_1 : Int) (a_9 : List T_api_Event) (x_10 : Int) (x_11 : Int) (b_44 : Bool) : Option (Int) := roadref4_History.l0_k.go (.j2 y_1 y_4 y_5_c_1 a_9 x_10 x_11 b_44)
theorem roadref4_History.l0_eq (y_1 : (List T_api_Event)) (a_9 : List T_api_Event) (x_10 : Int) (x_11 : Int) : roadref4_History.l0 y_1 a_9 x_10 x_11 = if x_11 < x_10 then (Option.bind (gi a_9 x_11) fun y1 => Option.bind (roadref4_within y1.Kind (1 : Int) (3 : Int)) fun y20 => if y20 = true then (Option.bind (roadref4_within y1.Place (0 : Int) (7 : Int)) fun y27 => if y27 = true then (if y1.Kind > (1 : Int) then (Option.bind (roadref4_within y1.Msg (0 : Int) (999 : Int)) fun y34 => (roadref4_History.j0 y_1 y1 x_11 a_9 x_10 x_11 (!y34))) else ((roadref4_History.j0 y_1 y1 x_11 a_9 x_10 x_11 false))) else ((roadref4_History.j0 y_1 y1 x_11 a_9 x_10 x_11 (!y27)))) else (some ((3 : Int)))) else (some ((0 : Int))) := fixF_eq roadref4_History.l0_k.mono _
theorem roadref4_History.j0_eq (y_1 : (List T_api_Event)) (y_4 : T_api_Event) (y_5_c_1 : Int) (a_9 : List T_api_Event) (x_10 : Int) (x_11 : Int) (b_22 : Bool) : roadref4_History.j0 y_1 y_4 y_5_c_1 a_9 x_10 x_11 b_22 = if b_22 = true then (some ((1 : Int))) else (if y_4.Kind = (2 : Int) then (Option.bind (roadref4_History_1 (2 : Int) y_1 y_5_c_1 y_4) fun y1 => (roadref4_History.j1 y_1 y_4 y_5_c_1 a_9 x_10 x_11 y1)) else ((roadref4_History.j1 y_1 y_4 y_5_c_1 a_9 x_10 x_11 false))) := fixF_eq roadref4_History.l0_k.mono _
theorem roadref4_History.j1_eq (y_1 : (List T_api_Event)) (y_4 : T_api_Event) (y_5_c_1 : Int) (a_9 : List T_api_Event) (x_10 : Int) (x_11 : Int) (b_36 : Bool) : roadref4_History.j1 y_1 y_4 y_5_c_1 a_9 x_10 x_11 b_36 = if b_36 = true then (some ((5 : Int))) else (if y_4.Kind = (3 : Int) then (Option.bind (roadref4_History_1 (2 : Int) y_1 y_5_c_1 y_4) fun y1 => (roadref4_History.j2 y_1 y_4 y_5_c_1 a_9 x_10 x_11 (!y1))) else ((roadref4_History.j2 y_1 y_4 y_5_c_1 a_9 x_10 x_11 false))) := fixF_eq roadref4_History.l0_k.mono _
theorem roadref4_History.j2_eq (y_1 : (List T_api_Event)) (y_4 : T_api_Event) (y_5_c_1 : Int) (a_9 : List T_api_Event) (x_10 : Int) (x_11 : Int) (b_44 : Bool) : roadref4_History.j2 y_1 y_4 y_5_c_1 a_9 x_10 x_11 b_44 = if b_44 = true then (some ((4 : Int))) else (if y_4.Kind = (3 : Int) then (Option.bind (roadref4_History_1 (3 : Int) y_1 y_5_c_1 y_4) fun y1 => if y1 = true then (some ((5 : Int))) else ((roadref4_History.l0 y_1 a_9 x_10 (IntKind.wrap .i64 (x_11 + (1 : Int)))))) else ((roadref4_History.l0 y_1 a_9 x_10 (IntKind.wrap .i64 (x_11 + (1 : Int)))))) := fixF_eq roadref4_History.l0_k.mono _
def roadref4_History.l0_k.I : (p : roadref4_History.l0_k.Pt) → (Int) → Prop
  | .l0 y_1 a_9 x_10 x_11, r => ∀ (W : Nat → Prop) (h0 m0 h m : Heap) (bk_1 : Nat) (cs_1 : List Value) (A_9 : Option Addr) (n_9 c_9 : Nat) (O : Hold W h0 m0 h m [rV bk_1 46 cs_1]) (e_1 : (eRow 3 T_api_Event.E) m y_1 cs_1) (ne_9 : n_9 = List.length a_9) (k_9 : List.length a_9 ≤ c_9) (r_9 : Rd 3 T_api_Event.E m A_9 a_9), f26.l0 (roadref4_History.post W h0 m0 r) (⟨bk_1, 0, none⟩ : Addr) A_9 n_9 c_9 x_10 x_11 h
  | .j0 y_1 y_4 y_5_c_1 a_9 x_10 x_11 b_22, r => ∀ (W : Nat → Prop) (h0 m0 h m : Heap) (bk_1 : Nat) (cs_1 : List Value) (bk_4 : Nat) (cs_4 : List Value) (bk_5_c_1 : Nat) (cs_5_c_1 : List Value) (A_9 : Option Addr) (n_9 c_9 : Nat) (O : Hold W h0 m0 h m [rV bk_1 46 cs_1, rV bk_4 88 cs_4, rV bk_5_c_1 3 cs_5_c_1]) (e_1 : (eRow 3 T_api_Event.E) m y_1 cs_1) (e_4 : T_api_Event.E m y_4 cs_4) (e_5_c_1 : (eInt .i64) m y_5_c_1 cs_5_c_1) (ne_9 : n_9 = List.length a_9) (k_9 : List.length a_9 ≤ c_9) (r_9 : Rd 3 T_api_Event.E m A_9 a_9), f26.j0 (roadref4_History.post W h0 m0 r) (⟨bk_1, 0, none⟩ : Addr) (⟨bk_4, 0, none⟩ : Addr) (⟨bk_1, 0, none⟩ : Addr) (⟨bk_5_c_1, 0, none⟩ : Addr) (⟨bk_4, 0, none⟩ : Addr) A_9 n_9 c_9 x_10 x_11 b_22 h
  | .j1 y_1 y_4 y_5_c_1 a_9 x_10 x_11 b_36, r => ∀ (W : Nat → Prop) (h0 m0 h m : Heap) (bk_1 : Nat) (cs_1 : List Value) (bk_4 : Nat) (cs_4 : List Value) (bk_5_c_1 : Nat) (cs_5_c_1 : List Value) (A_9 : Option Addr) (n_9 c_9 : Nat) (O : Hold W h0 m0 h m [rV bk_1 46 cs_1, rV bk_4 88 cs_4, rV bk_5_c_1 3 cs_5_c_1]) (e_1 : (eRow 3 T_api_Event.E) m y_1 cs_1) (e_4 : T_api_Event.E m y_4 cs_4) (e_5_c_1 : (eInt .i64) m y_5_c_1 cs_5_c_1) (ne_9 : n_9 = List.length a_9) (k_9 : List.length a_9 ≤ c_9) (r_9 : Rd 3 T_api_Event.E m A_9 a_9), f26.j1 (roadref4_History.post W h0 m0 r) (⟨bk_1, 0, none⟩ : Addr) (⟨bk_4, 0, none⟩ : Addr) (⟨bk_1, 0, none⟩ : Addr) (⟨bk_5_c_1, 0, none⟩ : Addr) (⟨bk_4, 0, none⟩ : Addr) A_9 n_9 c_9 x_10 x_11 b_36 h
  | .j2 y_1 y_4 y_5_c_1 a_9 x_10 x_11 b_44, r => ∀ (W : Nat → Prop) (h0 m0 h m : Heap) (bk_1 : Nat) (cs_1 : List Value) (bk_4 : Nat) (cs_4 : List Value) (bk_5_c_1 : Nat) (cs_5_c_1 : List Value) (A_9 : Option Addr) (n_9 c_9 : Nat) (O : Hold W h0 m0 h m [rV bk_1 46 cs_1, rV bk_4 88 cs_4, rV bk_5_c_1 3 cs_5_c_1]) (e_1 : (eRow 3 T_api_Event.E) m y_1 cs_1) (e_4 : T_api_Event.E m y_4 cs_4) (e_5_c_1 : (eInt .i64) m y_5_c_1 cs_5_c_1) (ne_9 : n_9 = List.length a_9) (k_9 : List.length a_9 ≤ c_9) (r_9 : Rd 3 T_api_Event.E m A_9 a_9), f26.j2 (roadref4_History.post W h0 m0 r) (⟨bk_1, 0, none⟩ : Addr) (⟨bk_4, 0, none⟩ : Addr) (⟨bk_1, 0, none⟩ : Addr) (⟨bk_5_c_1, 0, none⟩ : Addr) (⟨bk_4, 0, none⟩ : Addr) A_9 n_9 c_9 x_10 x_11 b_44 h
set_option maxHeartbeats 4000000 in
set_option maxRecDepth 100000 in
theorem roadref4_History.l0_k.step_l0 (go : (p : roadref4_History.l0_k.Pt) → Option (Int)) (ih : ∀ p r, go p = some r → roadref4_History.l0_k.I p r) (y_1 : (List T_api_Event)) (a_9 : List T_api_Event) (x_10 : Int) (x_11 : Int) (r : Int) (e : roadref4_History.l0_k.body go (.l0 y_1 a_9 x_10 x_11) = some r) : roadref4_History.l0_k.I (.l0 y_1 a_9 x_10 x_11) r := by
  unfold roadref4_History.l0_k.body at e
  intro W h0 m0 h m bk_1 cs_1 A_9 n_9 c_9 O e_1 ne_9 k_9 r_9
  obtain ⟨Ae_1_0, ce_1_0, rfl, ke_1_0, re_1_0⟩ := id e_1
  subst ne_9
  refine f26.l0_in ?_
  unfold f26.l0T
  refine split_dec_e e (fun c44 e => ?_) (fun c44 e => ?_)
  · obtain ⟨y1, g2, e⟩ := bind_e e
    refine r_9.addr rfl g2 fun a3 cs4 ha5 hc6 he7 => ?_
    refine ⟨_, ldAn O.s hc6 rfl, ?_⟩
    refine O.new fun h8 x9 O10 => ?_
    refine O10.new fun h12 x13 O14 => ?_
    refine O14.st0 1 rfl (Nat.le_of_ble_eq_true rfl) trivial fun h16 O17 => ?_
    refine ⟨_, rfl, (T_api_Event.T.len _ _ _ he7), ?_⟩
    refine O17.stA 2 rfl (T_api_Event.T.len _ _ _ he7) (T_api_Event.T.flat _ _ _ he7) fun h18 O19 => ?_
    refine ⟨_, ldk (k := 1) (Sub.refl _) (O19.all 2 rfl) (T_api_Event.g1 he7), _, rfl, ?_⟩
    obtain ⟨y20, g21, e⟩ := bind_e e
    refine (roadref4_within.walk (Hold.start (W := No) O19.s)  g21).mono ?_
    rintro _ h22 ⟨m23, Q24, rfl⟩
    have O26 := Hold.nm (O19.retC Q24 vfs_nil)
    refine ⟨_, rfl, ?_⟩
    refine split_not ?_
    refine split_any_e e (fun c43 e => ?_) (fun c43 e => ?_)
    · refine ⟨_, ld0 (Sub.refl _) (O26.all 2 rfl) (T_api_Event.g0 he7), _, rfl, ?_⟩
      obtain ⟨y27, g28, e⟩ := bind_e e
      refine (roadref4_within.walk (Hold.start (W := No) O26.s)  g28).mono ?_
      rintro _ h29 ⟨m30, Q31, rfl⟩
      have O33 := Hold.nm (O26.retC Q31 vfs_nil)
      refine ⟨_, rfl, ?_⟩
      refine split_not ?_
      refine split_any_e e (fun c42 e => ?_) (fun c42 e => ?_)
      · refine ⟨_, ldk (k := 1) (Sub.refl _) (O33.all 2 rfl) (T_api_Event.g1 he7), _, rfl, ?_⟩
        refine split_dec_e e (fun c41 e => ?_) (fun c41 e => ?_)
        · refine ⟨_, ldk (k := 2) (Sub.refl _) (O33.all 2 rfl) (T_api_Event.g2 he7), _, rfl, ?_⟩
          obtain ⟨y34, g35, e⟩ := bind_e e
          refine (roadref4_within.walk (Hold.start (W := No) O33.s)  g35).mono ?_
          rintro _ h36 ⟨m37, Q38, rfl⟩
          have O40 := Hold.nm (O33.retC Q38 vfs_nil)
          refine ⟨_, rfl, ?_⟩
          exact (ih _ _ e) _ _ _ _ _ _ _ _ _ _ _ _ _ _ (O40.pick [0, 2, 1]).nm ⟨_, _, rfl, ke_1_0, re_1_0⟩ he7 rfl rfl k_9 r_9
        · exact (ih _ _ e) _ _ _ _ _ _ _ _ _ _ _ _ _ _ (O33.pick [0, 2, 1]).nm ⟨_, _, rfl, ke_1_0, re_1_0⟩ he7 rfl rfl k_9 r_9
      · exact (ih _ _ e) _ _ _ _ _ _ _ _ _ _ _ _ _ _ (O33.pick [0, 2, 1]).nm ⟨_, _, rfl, ke_1_0, re_1_0⟩ he7 rfl rfl k_9 r_9
    · cases e
      exact ⟨_, O26.pick [], rfl⟩
  · cases e
    exact ⟨_, O.pick [], rfl⟩
set_option maxRecDepth 100000 in
theorem roadref4_History.l0_k.step_j0 (go : (p : roadref4_History.l0_k.Pt) → Option (Int)) (ih : ∀ p r, go p = some r → roadref4_History.l0_k.I p r) (y_1 : (List T_api_Event)) (y_4 : T_api_Event) (y_5_c_1 : Int) (a_9 : List T_api_Event) (x_10 : Int) (x_11 : Int) (b_22 : Bool) (r : Int) (e : roadref4_History.l0_k.body go (.j0 y_1 y_4 y_5_c_1 a_9 x_10 x_11 b_22) = some r) : roadref4_History.l0_k.I (.j0 y_1 y_4 y_5_c_1 a_9 x_10 x_11 b_22) r := by
  unfold roadref4_History.l0_k.body at e
  intro W h0 m0 h m bk_1 cs_1 bk_4 cs_4 bk_5_c_1 cs_5_c_1 A_9 n_9 c_9 O e_1 e_4 e_5_c_1 ne_9 k_9 r_9
  obtain ⟨Ae_1_0, ce_1_0, rfl, ke_1_0, re_1_0⟩ := id e_1
  obtain rfl : cs_5_c_1 = [(Value.int .i64 y_5_c_1)] := e_5_c_1
  subst ne_9
  refine f26.j0_in ?_
  unfold f26.j0T
  refine split_any_e e (fun c17 e => ?_) (fun c17 e => ?_)
  · cases e
    exact ⟨_, O.pick [], rfl⟩
  · refine ⟨_, ldk (k := 1) (Sub.refl _) (O.all 1 rfl) (T_api_Event.g1 e_4), _, rfl, ?_⟩
    refine split_eq_e e (fun c16 e => ?_) (fun c16 e => ?_)
    · obtain ⟨y1, g2, e⟩ := bind_e e
      obtain ⟨m7, u8, s14, ⟨hb11, hb12, hb13, _⟩, B9, C10⟩ := O.lend0 [0, 2, 1]
      refine (roadref4_History_1.walk (Hold.start (W := No) s14) ⟨_, _, hb11, nn, ⟨_, _, rfl, ke_1_0, (re_1_0.sub T_api_Event.T u8)⟩⟩ ⟨_, _, hb12, nn, rfl⟩ ⟨_, _, hb13, nn_len (T_api_Event.T.len _ _ _ e_4), (T_api_Event.T.mono _ _ _ _ u8 e_4)⟩ g2).mono ?_
      rintro _ h3 ⟨m4, Q5, rfl⟩
      have O15 := Hold.nm (C10 Q5 vfs_nil)
      refine ⟨_, rfl, ?_⟩
      exact (ih _ _ e) _ _ _ _ _ _ _ _ _ _ _ _ _ _ (O15.pick [0, 1, 2]).nm ⟨_, _, rfl, ke_1_0, re_1_0⟩ e_4 rfl rfl k_9 r_9
    · exact (ih _ _ e) _ _ _ _ _ _ _ _ _ _ _ _ _ _ (O.pick [0, 1, 2]).nm ⟨_, _, rfl, ke_1_0, re_1_0⟩ e_4 rfl rfl k_9 r_9
set_option maxRecDepth 100000 in
theorem roadref4_History.l0_k.step_j1 (go : (p : roadref4_History.l0_k.Pt) → Option (Int)) (ih : ∀ p r, go p = some r → roadref4_History.l0_k.I p r) (y_1 : (List T_api_Event)) (y_4 : T_api_Event) (y_5_c_1 : Int) (a_9 : List T_api_Event) (x_10 : Int) (x_11 : Int) (b_36 : Bool) (r : Int) (e : roadref4_History.l0_k.body go (.j1 y_1 y_4 y_5_c_1 a_9 x_10 x_11 b_36) = some r) : roadref4_History.l0_k.I (.j1 y_1 y_4 y_5_c_1 a_9 x_10 x_11 b_36) r := by
  unfold roadref4_History.l0_k.body at e
  intro W h0 m0 h m bk_1 cs_1 bk_4 cs_4 bk_5_c_1 cs_5_c_1 A_9 n_9 c_9 O e_1 e_4 e_5_c_1 ne_9 k_9 r_9
  obtain ⟨Ae_1_0, ce_1_0, rfl, ke_1_0, re_1_0⟩ := id e_1
  obtain rfl : cs_5_c_1 = [(Value.int .i64 y_5_c_1)] := e_5_c_1
  subst ne_9
  refine f26.j1_in ?_
  unfold f26.j1T
  refine split_any_e e (fun c17 e => ?_) (fun c17 e => ?_)
  · cases e
    exact ⟨_, O.pick [], rfl⟩
  · refine ⟨_, ldk (k := 1) (Sub.refl _) (O.all 1 rfl) (T_api_Event.g1 e_4), _, rfl, ?_⟩
    refine split_eq_e e (fun c16 e => ?_) (fun c16 e => ?_)
    · obtain ⟨y1, g2, e⟩ := bind_e e
      obtain ⟨m7, u8, s14, ⟨hb11, hb12, hb13, _⟩, B9, C10⟩ := O.lend0 [0, 2, 1]
      refine (roadref4_History_1.walk (Hold.start (W := No) s14) ⟨_, _, hb11, nn, ⟨_, _, rfl, ke_1_0, (re_1_0.sub T_api_Event.T u8)⟩⟩ ⟨_, _, hb12, nn, rfl⟩ ⟨_, _, hb13, nn_len (T_api_Event.T.len _ _ _ e_4), (T_api_Event.T.mono _ _ _ _ u8 e_4)⟩ g2).mono ?_
      rintro _ h3 ⟨m4, Q5, rfl⟩
      have O15 := Hold.nm (C10 Q5 vfs_nil)
      refine ⟨_, rfl, ?_⟩
      exact (ih _ _ e) _ _ _ _ _ _ _ _ _ _ _ _ _ _ (O15.pick [0, 1, 2]).nm ⟨_, _, rfl, ke_1_0, re_1_0⟩ e_4 rfl rfl k_9 r_9
    · exact (ih _ _ e) _ _ _ _ _ _ _ _ _ _ _ _ _ _ (O.pick [0, 1, 2]).nm ⟨_, _, rfl, ke_1_0, re_1_0⟩ e_4 rfl rfl k_9 r_9
set_option maxRecDepth 100000 in
theorem roadref4_History.l0_k.step_j2 (go : (p : roadref4_History.l0_k.Pt) → Option (Int)) (ih : ∀ p r, go p = some r → roadref4_History.l0_k.I p r) (y_1 : (List T_api_Event)) (y_4 : T_api_Event) (y_5_c_1 : Int) (a_9 : List T_api_Event) (x_10 : Int) (x_11 : Int) (b_44 : Bool) (r : Int) (e : roadref4_History.l0_k.body go (.j2 y_1 y_4 y_5_c_1 a_9 x_10 x_11 b_44) = some r) : roadref4_History.l0_k.I (.j2 y_1 y_4 y_5_c_1 a_9 x_10 x_11 b_44) r := by
  unfold roadref4_History.l0_k.body at e
  intro W h0 m0 h m bk_1 cs_1 bk_4 cs_4 bk_5_c_1 cs_5_c_1 A_9 n_9 c_9 O e_1 e_4 e_5_c_1 ne_9 k_9 r_9
  obtain ⟨Ae_1_0, ce_1_0, rfl, ke_1_0, re_1_0⟩ := id e_1
  obtain rfl : cs_5_c_1 = [(Value.int .i64 y_5_c_1)] := e_5_c_1
  subst ne_9
  refine f26.j2_in ?_
  unfold f26.j2T
  refine split_any_e e (fun c18 e => ?_) (fun c18 e => ?_)
  · cases e
    exact ⟨_, O.pick [], rfl⟩
  · refine ⟨_, ldk (k := 1) (Sub.refl _) (O.all 1 rfl) (T_api_Event.g1 e_4), _, rfl, ?_⟩
    refine split_eq_e e (fun c17 e => ?_) (fun c17 e => ?_)
    · obtain ⟨y1, g2, e⟩ := bind_e e
      obtain ⟨m7, u8, s14, ⟨hb11, hb12, hb13, _⟩, B9, C10⟩ := O.lend0 [0, 2, 1]
      refine (roadref4_History_1.walk (Hold.start (W := No) s14) ⟨_, _, hb11, nn, ⟨_, _, rfl, ke_1_0, (re_1_0.sub T_api_Event.T u8)⟩⟩ ⟨_, _, hb12, nn, rfl⟩ ⟨_, _, hb13, nn_len (T_api_Event.T.len _ _ _ e_4), (T_api_Event.T.mono _ _ _ _ u8 e_4)⟩ g2).mono ?_
      rintro _ h3 ⟨m4, Q5, rfl⟩
      have O15 := Hold.nm (C10 Q5 vfs_nil)
      refine ⟨_, rfl, ?_⟩
      refine split_any_e e (fun c16 e => ?_) (fun c16 e => ?_)
      · cases e
        exact ⟨_, O15.pick [], rfl⟩
      · exact (ih _ _ e) _ _ _ _ _ _ _ _ _ _ (O15.pick [0]).nm ⟨_, _, rfl, ke_1_0, re_1_0⟩ rfl k_9 r_9
    · exact (ih _ _ e) _ _ _ _ _ _ _ _ _ _ (O.pick [0]).nm ⟨_, _, rfl, ke_1_0, re_1_0⟩ rfl k_9 r_9
theorem roadref4_History.l0_k.all {p : roadref4_History.l0_k.Pt} {r : (Int)} (e : roadref4_History.l0_k.go p = some r) : roadref4_History.l0_k.I p r := fixF_ind (β := fun _ => (Int)) roadref4_History.l0_k.mono (I := roadref4_History.l0_k.I) (fun go ih p r e => match p with
  | .l0 y_1 a_9 x_10 x_11 => roadref4_History.l0_k.step_l0 go ih y_1 a_9 x_10 x_11 r e
  | .j0 y_1 y_4 y_5_c_1 a_9 x_10 x_11 b_22 => roadref4_History.l0_k.step_j0 go ih y_1 y_4 y_5_c_1 a_9 x_10 x_11 b_22 r e
  | .j1 y_1 y_4 y_5_c_1 a_9 x_10 x_11 b_36 => roadref4_History.l0_k.step_j1 go ih y_1 y_4 y_5_c_1 a_9 x_10 x_11 b_36 r e
  | .j2 y_1 y_4 y_5_c_1 a_9 x_10 x_11 b_44 => roadref4_History.l0_k.step_j2 go ih y_1 y_4 y_5_c_1 a_9 x_10 x_11 b_44 r e
  ) e
theorem roadref4_History.l0.walk {W : Nat → Prop} {h0 m0 h m : Heap} {bk_1 : Nat} {cs_1 : List Value} {A_9 : Option Addr} {n_9 c_9 : Nat} {y_1 : (List T_api_Event)} {a_9 : List T_api_Event} {x_10 : Int} {x_11 : Int} (O : Hold W h0 m0 h m [rV bk_1 46 cs_1]) (e_1 : (eRow 3 T_api_Event.E) m y_1 cs_1) (ne_9 : n_9 = List.length a_9) (k_9 : List.length a_9 ≤ c_9) (r_9 : Rd 3 T_api_Event.E m A_9 a_9) {r : Int} (e : roadref4_History.l0 y_1 a_9 x_10 x_11 = some r) : f26.l0 (roadref4_History.post W h0 m0 r) (⟨bk_1, 0, none⟩ : Addr) A_9 n_9 c_9 x_10 x_11 h := roadref4_History.l0_k.all (p := .l0 y_1 a_9 x_10 x_11) e W h0 m0 h m bk_1 cs_1 A_9 n_9 c_9 O e_1 ne_9 k_9 r_9
theorem roadref4_History.j0.walk {W : Nat → Prop} {h0 m0 h m : Heap} {bk_1 : Nat} {cs_1 : List Value} {bk_4 : Nat} {cs_4 : List Value} {bk_5_c_1 : Nat} {cs_5_c_1 : List Value} {A_9 : Option Addr} {n_9 c_9 : Nat} {y_1 : (List T_api_Event)} {y_4 : T_api_Event} {y_5_c_1 : Int} {a_9 : List T_api_Event} {x_10 : Int} {x_11 : Int} {b_22 : Bool} (O : Hold W h0 m0 h m [rV bk_1 46 cs_1, rV bk_4 88 cs_4, rV bk_5_c_1 3 cs_5_c_1]) (e_1 : (eRow 3 T_api_Event.E) m y_1 cs_1) (e_4 : T_api_Event.E m y_4 cs_4) (e_5_c_1 : (eInt .i64) m y_5_c_1 cs_5_c_1) (ne_9 : n_9 = List.length a_9) (k_9 : List.length a_9 ≤ c_9) (r_9 : Rd 3 T_api_Event.E m A_9 a_9) {r : Int} (e : roadref4_History.j0 y_1 y_4 y_5_c_1 a_9 x_10 x_11 b_22 = some r) : f26.j0 (roadref4_History.post W h0 m0 r) (⟨bk_1, 0, none⟩ : Addr) (⟨bk_4, 0, none⟩ : Addr) (⟨bk_1, 0, none⟩ : Addr) (⟨bk_5_c_1, 0, none⟩ : Addr) (⟨bk_4, 0, none⟩ : Addr) A_9 n_9 c_9 x_10 x_11 b_22 h := roadref4_History.l0_k.all (p := .j0 y_1 y_4 y_5_c_1 a_9 x_10 x_11 b_22) e W h0 m0 h m bk_1 cs_1 bk_4 cs_4 bk_5_c_1 cs_5_c_1 A_9 n_9 c_9 O e_1 e_4 e_5_c_1 ne_9 k_9 r_9
theorem roadref4_History.j1.walk {W : Nat → Prop} {h0 m0 h m : Heap} {bk_1 : Nat} {cs_1 : List Value} {bk_4 : Nat} {cs_4 : List Value} {bk_5_c_1 : Nat} {cs_5_c_1 : List Value} {A_9 : Option Addr} {n_9 c_9 : Nat} {y_1 : (List T_api_Event)} {y_4 : T_api_Event} {y_5_c_1 : Int} {a_9 : List T_api_Event} {x_10 : Int} {x_11 : Int} {b_36 : Bool} (O : Hold W h0 m0 h m [rV bk_1 46 cs_1, rV bk_4 88 cs_4, rV bk_5_c_1 3 cs_5_c_1]) (e_1 : (eRow 3 T_api_Event.E) m y_1 cs_1) (e_4 : T_api_Event.E m y_4 cs_4) (e_5_c_1 : (eInt .i64) m y_5_c_1 cs_5_c_1) (ne_9 : n_9 = List.length a_9) (k_9 : List.length a_9 ≤ c_9) (r_9 : Rd 3 T_api_Event.E m A_9 a_9) {r : Int} (e : roadref4_History.j1 y_1 y_4 y_5_c_1 a_9 x_10 x_11 b_36 = some r) : f26.j1 (roadref4_History.post W h0 m0 r) (⟨bk_1, 0, none⟩ : Addr) (⟨bk_4, 0, none⟩ : Addr) (⟨bk_1, 0, none⟩ : Addr) (⟨bk_5_c_1, 0, none⟩ : Addr) (⟨bk_4, 0, none⟩ : Addr) A_9 n_9 c_9 x_10 x_11 b_36 h := roadref4_History.l0_k.all (p := .j1 y_1 y_4 y_5_c_1 a_9 x_10 x_11 b_36) e W h0 m0 h m bk_1 cs_1 bk_4 cs_4 bk_5_c_1 cs_5_c_1 A_9 n_9 c_9 O e_1 e_4 e_5_c_1 ne_9 k_9 r_9
theorem roadref4_History.j2.walk {W : Nat → Prop} {h0 m0 h m : Heap} {bk_1 : Nat} {cs_1 : List Value} {bk_4 : Nat} {cs_4 : List Value} {bk_5_c_1 : Nat} {cs_5_c_1 : List Value} {A_9 : Option Addr} {n_9 c_9 : Nat} {y_1 : (List T_api_Event)} {y_4 : T_api_Event} {y_5_c_1 : Int} {a_9 : List T_api_Event} {x_10 : Int} {x_11 : Int} {b_44 : Bool} (O : Hold W h0 m0 h m [rV bk_1 46 cs_1, rV bk_4 88 cs_4, rV bk_5_c_1 3 cs_5_c_1]) (e_1 : (eRow 3 T_api_Event.E) m y_1 cs_1) (e_4 : T_api_Event.E m y_4 cs_4) (e_5_c_1 : (eInt .i64) m y_5_c_1 cs_5_c_1) (ne_9 : n_9 = List.length a_9) (k_9 : List.length a_9 ≤ c_9) (r_9 : Rd 3 T_api_Event.E m A_9 a_9) {r : Int} (e : roadref4_History.j2 y_1 y_4 y_5_c_1 a_9 x_10 x_11 b_44 = some r) : f26.j2 (roadref4_History.post W h0 m0 r) (⟨bk_1, 0, none⟩ : Addr) (⟨bk_4, 0, none⟩ : Addr) (⟨bk_1, 0, none⟩ : Addr) (⟨bk_5_c_1, 0, none⟩ : Addr) (⟨bk_4, 0, none⟩ : Addr) A_9 n_9 c_9 x_10 x_11 b_44 h := roadref4_History.l0_k.all (p := .j2 y_1 y_4 y_5_c_1 a_9 x_10 x_11 b_44) e W h0 m0 h m bk_1 cs_1 bk_4 cs_4 bk_5_c_1 cs_5_c_1 A_9 n_9 c_9 O e_1 e_4 e_5_c_1 ne_9 k_9 r_9

noncomputable def roadref4_History (a_0 : List T_api_Event) : Option (Int) :=
  if (((List.length a_0) : Nat) : Int) > (200 : Int) then (some ((2 : Int))) else ((roadref4_History.l0 a_0 a_0 (((List.length a_0) : Nat) : Int) (0 : Int)))
set_option maxRecDepth 100000 in
theorem roadref4_History.walk {W : Nat → Prop} {h m : Heap} {A_0 : Option Addr} {n_0 c_0 : Nat} {a_0 : List T_api_Event} (O : Hold W h m h m []) (ne_0 : n_0 = List.length a_0) (k_0 : List.length a_0 ≤ c_0) (r_0 : Rd 3 T_api_Event.E m A_0 a_0) {r : Int} (e : roadref4_History a_0 = some r) : Run Try.prog 26 #[Value.slice A_0 n_0 c_0] h (roadref4_History.post W h m r) := by
  unfold roadref4_History at e
  subst ne_0
  refine f26.run ?_
  unfold f26.runT
  refine O.new fun h1 x2 O3 => ?_
  refine ⟨_, ld0 (Sub.refl _) (O3.all 0 rfl) rfl, _, _, _, rfl, ?_⟩
  refine split_dec_e e (fun c7 e => ?_) (fun c7 e => ?_)
  · have O5 := O3.nm
    cases e
    exact ⟨_, O5.pick [], rfl⟩
  · refine ⟨_, ld0 (Sub.refl _) (O3.all 0 rfl) rfl, _, _, _, rfl, ?_⟩
    have O6 := O3.nm
    exact roadref4_History.l0.walk (O6.pick [0]).nm ⟨_, _, rfl, k_0, r_0⟩ rfl k_0 r_0 e

/-! ### 28 roadstead/roadref4.Past -/
def roadref4_Past.post (W : Nat → Prop) (h0 m0 : Heap) (r : (List (List Bool))) (v : Value) (h : Heap) : Prop := ∃ m A0 n0 c0, Hold W h0 m0 h m [rR (aRow (aE tell_bool)) A0 c0 r] ∧ v = .slice A0 n0 c0 ∧ n0 = List.length r
inductive roadref4_Past.l0_k.Pt where
  | l0 (a_0 : List T_api_Event) (a_3 : List (List Bool)) (a_13 : List T_api_Event) (x_14 : Int) (x_15 : Int)
  | l1 (a_0 : List T_api_Event) (a_3 : List (List Bool)) (x_4 : Int) (y_5 : T_api_Event) (x_6 : Int) (a_13 : List T_api_Event) (x_14 : Int) (x_15 : Int)
  | j1 (a_0 : List T_api_Event) (a_3 : List (List Bool)) (x_4 : Int) (y_5 : T_api_Event) (x_6 : Int) (a_13 : List T_api_Event) (x_14 : Int) (x_15 : Int) (b_57 : Bool)
  | l2 (a_0 : List T_api_Event) (a_3 : List (List Bool)) (x_4 : Int) (y_5 : T_api_Event) (x_6 : Int) (a_13 : List T_api_Event) (x_14 : Int) (x_15 : Int) (x_68 : Int) (x_69 : Int) (x_67 : Int) (a_67 : List Bool)
  | j0 (a_0 : List T_api_Event) (a_3 : List (List Bool)) (x_4 : Int) (y_5 : T_api_Event) (x_6 : Int) (a_13 : List T_api_Event) (x_14 : Int) (x_15 : Int)
noncomputable def roadref4_Past.l0_k.body (go : (p : roadref4_Past.l0_k.Pt) → Option ((List (List Bool)))) : (p : roadref4_Past.l0_k.Pt) → Option ((List (List Bool)))
  | .l0 a_0 a_3 a_13 x_14 x_15 => if x_15 < x_14 then (Option.bind (gi a_13 x_15) fun y1 => Option.bind (mks 1 (((List.length a_0) : Nat) : Int) false) fun l14 => Option.bind (gi a_3 x_15) fun y24 => Option.bind (some (List.set a_3 (Int.toNat x_15) l14)) fun l38 => (go (.l1 a_0 l38 x_15 y1 (IntKind.wrap .i64 (x_15 - (1 : Int))) a_13 x_14 x_15))) else (some (a_3))
  | .l1 a_0 a_3 x_4 y_5 x_6 a_13 x_14 x_15 => if x_6 ≥ (0 : Int) then (Option.bind (gi a_0 x_6) fun y1 => if y1.Place = y_5.Place then ((go (.j1 a_0 a_3 x_4 y_5 x_6 a_13 x_14 x_15 true))) else (if y_5.Kind = (3 : Int) then (if y1.Kind = (2 : Int) then ((go (.j1 a_0 a_3 x_4 y_5 x_6 a_13 x_14 x_15 (y1.Msg == y_5.Msg)))) else ((go (.j1 a_0 a_3 x_4 y_5 x_6 a_13 x_14 x_15 false)))) else ((go (.j1 a_0 a_3 x_4 y_5 x_6 a_13 x_14 x_15 false))))) else ((go (.l0 a_0 a_3 a_13 x_14 (IntKind.wrap .i64 (x_15 + (1 : Int))))))
  | .j1 a_0 a_3 x_4 y_5 x_6 a_13 x_14 x_15 b_57 => if b_57 = true then (Option.bind (gi a_3 x_4) fun y3 => Option.bind (gi y3 x_6) fun y13 => Option.bind (some (List.set y3 (Int.toNat x_6) true)) fun l23 => Option.bind (gi (List.set a_3 (Int.toNat x_4) l23) x_6) fun y29 => (go (.l2 a_0 (List.set a_3 (Int.toNat x_4) l23) x_4 y_5 x_6 a_13 x_14 x_15 (((List.length y29) : Nat) : Int) (0 : Int) x_6 y29))) else ((go (.j0 a_0 a_3 x_4 y_5 x_6 a_13 x_14 x_15)))
  | .l2 a_0 a_3 x_4 y_5 x_6 a_13 x_14 x_15 x_68 x_69 x_67 a_67 => if x_69 < x_68 then (Option.bind (gi a_67 x_69) fun y1 => Option.bind (gi a_3 x_4) fun y10 => Option.bind (gi a_3 x_4) fun y14 => Option.bind (gi y10 x_69) fun y22 => if y22 = true then (Option.bind (gi y10 x_69) fun y29 => Option.bind (some (List.set y10 (Int.toNat x_69) true)) fun l39 => if Int.toNat x_4 ≠ Int.toNat x_67 then ((go (.l2 a_0 (List.set a_3 (Int.toNat x_4) l39) x_4 y_5 x_6 a_13 x_14 x_15 x_68 (IntKind.wrap .i64 (x_69 + (1 : Int))) x_67 a_67))) else none) else (Option.bind (gi y10 x_69) fun y45 => Option.bind (some (List.set y10 (Int.toNat x_69) y1)) fun l55 => if Int.toNat x_4 ≠ Int.toNat x_67 then ((go (.l2 a_0 (List.set a_3 (Int.toNat x_4) l55) x_4 y_5 x_6 a_13 x_14 x_15 x_68 (IntKind.wrap .i64 (x_69 + (1 : Int))) x_67 a_67))) else none)) else ((go (.j0 a_0 a_3 x_4 y_5 x_6 a_13 x_14 x_15)))
  | .j0 a_0 a_3 x_4 y_5 x_6 a_13 x_14 x_15 => (go (.l1 a_0 a_3 x_4 y_5 (IntKind.wrap .i64 (x_6 - (1 : Int))) a_13 x_14 x_15))
theorem roadref4_Past.l0_k.mono : MonoF (β := fun _ => ((List (List Bool)))) roadref4_Past.l0_k.body := fun f g hfg p => match p with
  | .l0 a_0 a_3 a_13 x_14 x_15 => LeO.ite (LeO.bind (LeO.refl _) fun y1 => LeO.bind (LeO.refl _) fun l14 => LeO.bind (LeO.refl _) fun y24 => LeO.bind (LeO.refl _) fun l38 => (hfg _)) (LeO.refl _)
  | .l1 a_0 a_3 x_4 y_5 x_6 a_13 x_14 x_15 => LeO.ite (LeO.bind (LeO.refl _) fun y1 => LeO.ite ((hfg _)) (LeO.ite (LeO.ite ((hfg _)) ((hfg _))) ((hfg _)))) ((hfg _))
  | .j1 a_0 a_3 x_4 y_5 x_6 a_13 x_14 x_15 b_57 => LeO.ite (LeO.bind (LeO.refl _) fun y3 => LeO.bind (LeO.refl _) fun y13 => LeO.bind (LeO.refl _) fun l23 => LeO.bind (LeO.refl _) fun y29 => (hfg _)) ((hfg _))
  | .l2 a_0 a_3 x_4 y_5 x_6 a_13 x_14 x_15 x_68 x_69 x_67 a_67 => LeO.ite (LeO.bind (LeO.refl _) fun y1 => LeO.bind (LeO.refl _) fun y10 => LeO.bind (LeO.refl _) fun y14 => LeO.bind (LeO.refl _) fun y22 => LeO.ite (LeO.bind (LeO.refl _) fun y29 => LeO.bind (LeO.refl _) fun l39 => LeO.ite ((hfg _)) (LeO.refl _)) (LeO.bind (LeO.refl _) fun y45 => LeO.bind (LeO.refl _) fun l55 => LeO.ite ((hfg _)) (LeO.refl _))) ((hfg _))
  | .j0 a_0 a_3 x_4 y_5 x_6 a_13 x_14 x_15 => (hfg _)
noncomputable def roadref4_Past.l0_k.go (p : roadref4_Past.l0_k.Pt) : Option ((List (List Bool))) := fixF (β := fun _ => ((List (List Bool)))) roadref4_Past.l0_k.body p
noncomputable def roadref4_Past.l0 (a_0 : List T_api_Event) (a_3 : List (List Bool)) (a_13 : List T_api_Event) (x_14 : Int) (x_15 : Int) : Option ((List (List Bool))) := roadref4_Past.l0_k.go (.l0 a_0 a_3 a_13 x_14 x_15)
noncomputable def roadref4_Past.l1 (a_0 : List T_api_Event) (a_3 : List (List Bool)) (x_4 : Int) (y_5 : T_api_Event) (x_6 : Int) (a_13 : List T_api_Event) (x_14 : Int) (x_15 : Int) : Option ((List (List Bool))) := roadref4_Past.l0_k.go (.l1 a_0 a_3 x_4 y_5 x_6 a_13 x_14 x_15)
noncomputable def roadref4_Past.j1 (a_0 : List T_api_Event) (a_3 : List (List Bool)) (x_4 : Int) (y_5 : T_api_Event) (x_6 : Int) (a_13 : List T_api_Event) (x_14 : Int) (x_15 : Int) (b_57 : Bool) : Option ((List (List Bool))) := roadref4_Past.l0_k.go (.j1 a_0 a_3 x_4 y_5 x_6 a_13 x_14 x_15 b_57)
noncomputable def roadref4_Past.l2 (a_0 : List T_api_Event) (a_3 : List (List Bool)) (x_4 : Int) (y_5 : T_api_Event) (x_6 : Int) (a_13 : List T_api_Event) (x_14 : Int) (x_15 : Int) (x_68 : Int) (x_69 : Int) (x_67 : Int) (a_67 : List Bool) : Option ((List (List Bool))) := roadref4_Past.l0_k.go (.l2 a_0 a_3 x_4 y_5 x_6 a_13 x_14 x_15 x_68 x_69 x_67 a_67)
noncomputable def roadref4_Past.j0 (a_0 : List T_api_Event) (a_3 : List (List Bool)) (x_4 : Int) (y_5 : T_api_Event) (x_6 : Int) (a_13 : List T_api_Event) (x_14 : Int) (x_15 : Int) : Option ((List (List Bool))) := roadref4_Past.l0_k.go (.j0 a_0 a_3 x_4 y_5 x_6 a_13 x_14 x_15)
theorem roadref4_Past.l0_eq (a_0 : List T_api_Event) (a_3 : List (List Bool)) (a_13 : List T_api_Event) (x_14 : Int) (x_15 : Int) : roadref4_Past.l0 a_0 a_3 a_13 x_14 x_15 = if x_15 < x_14 then (Option.bind (gi a_13 x_15) fun y1 => Option.bind (mks 1 (((List.length a_0) : Nat) : Int) false) fun l14 => Option.bind (gi a_3 x_15) fun y24 => Option.bind (some (List.set a_3 (Int.toNat x_15) l14)) fun l38 => (roadref4_Past.l1 a_0 l38 x_15 y1 (IntKind.wrap .i64 (x_15 - (1 : Int))) a_13 x_14 x_15)) else (some (a_3)) := fixF_eq roadref4_Past.l0_k.mono _
theorem roadref4_Past.l1_eq (a_0 : List T_api_Event) (a_3 : List (List Bool)) (x_4 : Int) (y_5 : T_api_Event) (x_6 : Int) (a_13 : List T_api_Event) (x_14 : Int) (x_15 : Int) : roadref4_Past.l1 a_0 a_3 x_4 y_5 x_6 a_13 x_14 x_15 = if x_6 ≥ (0 : Int) then (Option.bind (gi a_0 x_6) fun y1 => if y1.Place = y_5.Place then ((roadref4_Past.j1 a_0 a_3 x_4 y_5 x_6 a_13 x_14 x_15 true)) else (if y_5.Kind = (3 : Int) then (if y1.Kind = (2 : Int) then ((roadref4_Past.j1 a_0 a_3 x_4 y_5 x_6 a_13 x_14 x_15 (y1.Msg == y_5.Msg))) else ((roadref4_Past.j1 a_0 a_3 x_4 y_5 x_6 a_13 x_14 x_15 false))) else ((roadref4_Past.j1 a_0 a_3 x_4 y_5 x_6 a_13 x_14 x_15 false)))) else ((roadref4_Past.l0 a_0 a_3 a_13 x_14 (IntKind.wrap .i64 (x_15 + (1 : Int))))) := fixF_eq roadref4_Past.l0_k.mono _
theorem roadref4_Past.j1_eq (a_0 : List T_api_Event) (a_3 : List (List Bool)) (x_4 : Int) (y_5 : T_api_Event) (x_6 : Int) (a_13 : List T_api_Event) (x_14 : Int) (x_15 : Int) (b_57 : Bool) : roadref4_Past.j1 a_0 a_3 x_4 y_5 x_6 a_13 x_14 x_15 b_57 = if b_57 = true then (Option.bind (gi a_3 x_4) fun y3 => Option.bind (gi y3 x_6) fun y13 => Option.bind (some (List.set y3 (Int.toNat x_6) true)) fun l23 => Option.bind (gi (List.set a_3 (Int.toNat x_4) l23) x_6) fun y29 => (roadref4_Past.l2 a_0 (List.set a_3 (Int.toNat x_4) l23) x_4 y_5 x_6 a_13 x_14 x_15 (((List.length y29) : Nat) : Int) (0 : Int) x_6 y29)) else ((roadref4_Past.j0 a_0 a_3 x_4 y_5 x_6 a_13 x_14 x_15)) := fixF_eq roadref4_Past.l0_k.mono _
theorem roadref4_Past.l2_eq (a_0 : List T_api_Event) (a_3 : List (List Bool)) (x_4 : Int) (y_5 : T_api_Event) (x_6 : Int) (a_13 : List T_api_Event) (x_14 : Int) (x_15 : Int) (x_68 : Int) (x_69 : Int) (x_67 : Int) (a_67 : List Bool) : roadref4_Past.l2 a_0 a_3 x_4 y_5 x_6 a_13 x_14 x_15 x_68 x_69 x_67 a_67 = if x_69 < x_68 then (Option.bind (gi a_67 x_69) fun y1 => Option.bind (gi a_3 x_4) fun y10 => Option.bind (gi a_3 x_4) fun y14 => Option.bind (gi y10 x_69) fun y22 => if y22 = true then (Option.bind (gi y10 x_69) fun y29 => Option.bind (some (List.set y10 (Int.toNat x_69) true)) fun l39 => if Int.toNat x_4 ≠ Int.toNat x_67 then ((roadref4_Past.l2 a_0 (List.set a_3 (Int.toNat x_4) l39) x_4 y_5 x_6 a_13 x_14 x_15 x_68 (IntKind.wrap .i64 (x_69 + (1 : Int))) x_67 a_67)) else none) else (Option.bind (gi y10 x_69) fun y45 => Option.bind (some (List.set y10 (Int.toNat x_69) y1)) fun l55 => if Int.toNat x_4 ≠ Int.toNat x_67 then ((roadref4_Past.l2 a_0 (List.set a_3 (Int.toNat x_4) l55) x_4 y_5 x_6 a_13 x_14 x_15 x_68 (IntKind.wrap .i64 (x_69 + (1 : Int))) x_67 a_67)) else none)) else ((roadref4_Past.j0 a_0 a_3 x_4 y_5 x_6 a_13 x_14 x_15)) := fixF_eq roadref4_Past.l0_k.mono _
theorem roadref4_Past.j0_eq (a_0 : List T_api_Event) (a_3 : List (List Bool)) (x_4 : Int) (y_5 : T_api_Event) (x_6 : Int) (a_13 : List T_api_Event) (x_14 : Int) (x_15 : Int) : roadref4_Past.j0 a_0 a_3 x_4 y_5 x_6 a_13 x_14 x_15 = (roadref4_Past.l1 a_0 a_3 x_4 y_5 (IntKind.wrap .i64 (x_6 - (1 : Int))) a_13 x_14 x_15) := fixF_eq roadref4_Past.l0_k.mono _
def roadref4_Past.l0_k.I : (p : roadref4_Past.l0_k.Pt) → ((List (List Bool))) → Prop
  | .l0 a_0 a_3 a_13 x_14 x_15, r => ∀ (W : Nat → Prop) (h0 m0 h m : Heap) (A_0 : Option Addr) (n_0 c_0 : Nat) (A_3 : Option Addr) (n_3 c_3 : Nat) (A_13 : Option Addr) (n_13 c_13 : Nat) (O : Hold W h0 m0 h m [rR (aRow (aE tell_bool)) A_3 c_3 a_3]) (ne_0 : n_0 = List.length a_0) (k_0 : List.length a_0 ≤ c_0) (r_0 : Rd 3 T_api_Event.E m A_0 a_0) (ne_3 : n_3 = List.length a_3) (ne_13 : n_13 = List.length a_13) (k_13 : List.length a_13 ≤ c_13) (r_13 : Rd 3 T_api_Event.E m A_13 a_13), f28.l0 (roadref4_Past.post W h0 m0 r) A_0 n_0 c_0 A_3 n_3 c_3 A_13 n_13 c_13 x_14 x_15 h
  | .l1 a_0 a_3 x_4 y_5 x_6 a_13 x_14 x_15, r => ∀ (W : Nat → Prop) (h0 m0 h m : Heap) (A_0 : Option Addr) (n_0 c_0 : Nat) (A_3 : Option Addr) (n_3 c_3 : Nat) (bk_5 : Nat) (cs_5 : List Value) (A_13 : Option Addr) (n_13 c_13 : Nat) (O : Hold W h0 m0 h m [rR (aRow (aE tell_bool)) A_3 c_3 a_3, rV bk_5 88 cs_5]) (ne_0 : n_0 = List.length a_0) (k_0 : List.length a_0 ≤ c_0) (r_0 : Rd 3 T_api_Event.E m A_0 a_0) (ne_3 : n_3 = List.length a_3) (e_5 : T_api_Event.E m y_5 cs_5) (ne_13 : n_13 = List.length a_13) (k_13 : List.length a_13 ≤ c_13) (r_13 : Rd 3 T_api_Event.E m A_13 a_13), f28.l1 (roadref4_Past.post W h0 m0 r) A_0 n_0 c_0 A_3 n_3 c_3 x_4 (⟨bk_5, 0, none⟩ : Addr) x_6 A_13 n_13 c_13 x_14 x_15 h
  | .j1 a_0 a_3 x_4 y_5 x_6 a_13 x_14 x_15 b_57, r => ∀ (W : Nat → Prop) (h0 m0 h m : Heap) (A_0 : Option Addr) (n_0 c_0 : Nat) (A_3 : Option Addr) (n_3 c_3 : Nat) (bk_5 : Nat) (cs_5 : List Value) (A_13 : Option Addr) (n_13 c_13 : Nat) (O : Hold W h0 m0 h m [rR (aRow (aE tell_bool)) A_3 c_3 a_3, rV bk_5 88 cs_5]) (ne_0 : n_0 = List.length a_0) (k_0 : List.length a_0 ≤ c_0) (r_0 : Rd 3 T_api_Event.E m A_0 a_0) (ne_3 : n_3 = List.length a_3) (e_5 : T_api_Event.E m y_5 cs_5) (ne_13 : n_13 = List.length a_13) (k_13 : List.length a_13 ≤ c_13) (r_13 : Rd 3 T_api_Event.E m A_13 a_13), f28.j1 (roadref4_Past.post W h0 m0 r) A_0 n_0 c_0 A_3 n_3 c_3 x_4 (⟨bk_5, 0, none⟩ : Addr) x_6 A_13 n_13 c_13 x_14 x_15 b_57 h
  | .l2 a_0 a_3 x_4 y_5 x_6 a_13 x_14 x_15 x_68 x_69 x_67 a_67, r => ∀ (W : Nat → Prop) (h0 m0 h m : Heap) (A_0 : Option Addr) (n_0 c_0 : Nat) (A_3 : Option Addr) (n_3 c_3 : Nat) (hs_3 : List Value) (bk_5 : Nat) (cs_5 : List Value) (A_13 : Option Addr) (n_13 c_13 : Nat) (A_67 : Option Addr) (n_67 c_67 : Nat) (O : Hold W h0 m0 h m [rX (aRow (aE tell_bool)) A_3 c_3 a_3 hs_3 none, rV bk_5 88 cs_5]) (ne_0 : n_0 = List.length a_0) (k_0 : List.length a_0 ≤ c_0) (r_0 : Rd 3 T_api_Event.E m A_0 a_0) (ne_3 : n_3 = List.length a_3) (e_5 : T_api_Event.E m y_5 cs_5) (ne_13 : n_13 = List.length a_13) (k_13 : List.length a_13 ≤ c_13) (r_13 : Rd 3 T_api_Event.E m A_13 a_13) (ne_67 : n_67 = List.length a_67) (hx_67 : hs_3[Int.toNat x_67]? = some (.slice A_67 n_67 c_67)) (g_67 : gi a_3 x_67 = some a_67), f28.l2 (roadref4_Past.post W h0 m0 r) A_0 n_0 c_0 A_3 n_3 c_3 x_4 (⟨bk_5, 0, none⟩ : Addr) x_6 A_13 n_13 c_13 x_14 x_15 A_67 n_67 c_67 x_68 x_69 h
  | .j0 a_0 a_3 x_4 y_5 x_6 a_13 x_14 x_15, r => ∀ (W : Nat → Prop) (h0 m0 h m : Heap) (A_0 : Option Addr) (n_0 c_0 : Nat) (A_3 : Option Addr) (n_3 c_3 : Nat) (bk_5 : Nat) (cs_5 : List Value) (A_13 : Option Addr) (n_13 c_13 : Nat) (O : Hold W h0 m0 h m [rR (aRow (aE tell_bool)) A_3 c_3 a_3, rV bk_5 88 cs_5]) (ne_0 : n_0 = List.length a_0) (k_0 : List.length a_0 ≤ c_0) (r_0 : Rd 3 T_api_Event.E m A_0 a_0) (ne_3 : n_3 = List.length a_3) (e_5 : T_api_Event.E m y_5 cs_5) (ne_13 : n_13 = List.length a_13) (k_13 : List.length a_13 ≤ c_13) (r_13 : Rd 3 T_api_Event.E m A_13 a_13), f28.j0 (roadref4_Past.post W h0 m0 r) A_0 n_0 c_0 A_3 n_3 c_3 x_4 (⟨bk_5, 0, none⟩ : Addr) x_6 A_13 n_13 c_13 x_14 x_15 h
set_option maxRecDepth 100000 in
theorem roadref4_Past.l0_k.step_l0 (go : (p : roadref4_Past.l0_k.Pt) → Option ((List (List Bool)))) (ih : ∀ p r, go p = some r → roadref4_Past.l0_k.I p r) (a_0 : List T_api_Event) (a_3 : List (List Bool)) (a_13 : List T_api_Event) (x_14 : Int) (x_15 : Int) (r : (List (List Bool))) (e : roadref4_Past.l0_k.body go (.l0 a_0 a_3 a_13 x_14 x_15) = some r) : roadref4_Past.l0_k.I (.l0 a_0 a_3 a_13 x_14 x_15) r := by
  unfold roadref4_Past.l0_k.body at e
  intro W h0 m0 h m A_0 n_0 c_0 A_3 n_3 c_3 A_13 n_13 c_13 O ne_0 k_0 r_0 ne_3 ne_13 k_13 r_13
  subst ne_0
  subst ne_3
  subst ne_13
  refine f28.l0_in ?_
  unfold f28.l0T
  refine split_dec_e e (fun c45 e => ?_) (fun c45 e => ?_)
  · obtain ⟨y1, g2, e⟩ := bind_e e
    refine r_13.addr rfl g2 fun a3 cs4 ha5 hc6 he7 => ?_
    refine ⟨_, ldAn O.s hc6 rfl, ?_⟩
    refine O.new fun h8 x9 O10 => ?_
    refine ⟨_, rfl, (T_api_Event.T.len _ _ _ he7), ?_⟩
    refine O10.stA 1 rfl (T_api_Event.T.len _ _ _ he7) (T_api_Event.T.flat _ _ _ he7) fun h12 O13 => ?_
    obtain ⟨l14, g15, e⟩ := bind_e e
    have q16 := mks_e g15
    refine ⟨q16.1, Int.le_refl _, q16.2.1, q16.2.2.1, ?_⟩
    refine O13.new fun h17 x18 O19 => ?_
    have O20 := O19.made 2 rfl (aE tell_bool) g15 ⟨rfl, rfl⟩
    try rw [q16.2.2.2.1]
    obtain ⟨y24, g25, e⟩ := bind_e e
    refine O20.adr 0 rfl rfl g25 fun a22 ha23 => ?_
    obtain ⟨l38, g39, e⟩ := bind_e e
    obtain ⟨hs26, O27⟩ := O20.openX 0 rfl g25
    obtain ⟨A28, c29, hx30, hc31, k32⟩ := O27.hdX 0 rfl ha23 g25
    have O34 := O27.takeX 0 rfl hx30 g25
    replace g39 := Option.some.inj g39
    refine O34.hdSt 0 rfl ha23 (v := (Value.slice (some ⟨(Array.size h12), 0, none⟩) (List.length l14) (List.length l14))) trivial fun h35 O36 => ?_
    have hx40 := hs_set (v := (Value.slice (some ⟨(Array.size h12), 0, none⟩) (List.length l14) (List.length l14))) hx30
    have O37 := O36.putX 0 2 rfl rfl hx40 rfl g39
    have O42 := O37.nm
    have O43 := O42.closeX 0 rfl
    have O44 := O43.nm
    exact (ih _ _ e) _ _ _ _ _ _ _ _ _ _ _ _ _ _ _ _ (O44.pick [0, 1]).nm rfl k_0 r_0 (lset' g39) he7 rfl k_13 r_13
  · cases e
    exact ⟨_, _, _, _, O.pick [0], rfl, rfl⟩
set_option maxRecDepth 100000 in
theorem roadref4_Past.l0_k.step_l1 (go : (p : roadref4_Past.l0_k.Pt) → Option ((List (List Bool)))) (ih : ∀ p r, go p = some r → roadref4_Past.l0_k.I p r) (a_0 : List T_api_Event) (a_3 : List (List Bool)) (x_4 : Int) (y_5 : T_api_Event) (x_6 : Int) (a_13 : List T_api_Event) (x_14 : Int) (x_15 : Int) (r : (List (List Bool))) (e : roadref4_Past.l0_k.body go (.l1 a_0 a_3 x_4 y_5 x_6 a_13 x_14 x_15) = some r) : roadref4_Past.l0_k.I (.l1 a_0 a_3 x_4 y_5 x_6 a_13 x_14 x_15) r := by
  unfold roadref4_Past.l0_k.body at e
  intro W h0 m0 h m A_0 n_0 c_0 A_3 n_3 c_3 bk_5 cs_5 A_13 n_13 c_13 O ne_0 k_0 r_0 ne_3 e_5 ne_13 k_13 r_13
  subst ne_0
  subst ne_3
  subst ne_13
  refine f28.l1_in ?_
  unfold f28.l1T
  refine split_dec_e e (fun c21 e => ?_) (fun c21 e => ?_)
  · obtain ⟨y1, g2, e⟩ := bind_e e
    refine r_0.addr rfl g2 fun a3 cs4 ha5 hc6 he7 => ?_
    refine ⟨_, ldAn O.s hc6 rfl, ?_⟩
    refine O.new fun h8 x9 O10 => ?_
    refine ⟨_, rfl, (T_api_Event.T.len _ _ _ he7), ?_⟩
    refine O10.stA 2 rfl (T_api_Event.T.len _ _ _ he7) (T_api_Event.T.flat _ _ _ he7) fun h12 O13 => ?_
    refine ⟨_, ld0 (Sub.refl _) (O13.all 2 rfl) (T_api_Event.g0 he7), _, rfl, ?_⟩
    refine ⟨_, ld0 (Sub.refl _) (O13.all 1 rfl) (T_api_Event.g0 e_5), _, rfl, ?_⟩
    refine split_eq_e e (fun c20 e => ?_) (fun c20 e => ?_)
    · have O14 := O13.nm
      exact (ih _ _ e) _ _ _ _ _ _ _ _ _ _ _ _ _ _ _ _ (O14.pick [0, 1]).nm rfl k_0 r_0 rfl e_5 rfl k_13 r_13
    · refine ⟨_, ldk (k := 1) (Sub.refl _) (O13.all 1 rfl) (T_api_Event.g1 e_5), _, rfl, ?_⟩
      refine split_eq_e e (fun c19 e => ?_) (fun c19 e => ?_)
      · refine ⟨_, ldk (k := 1) (Sub.refl _) (O13.all 2 rfl) (T_api_Event.g1 he7), _, rfl, ?_⟩
        refine split_eq_e e (fun c17 e => ?_) (fun c17 e => ?_)
        · refine ⟨_, ldk (k := 2) (Sub.refl _) (O13.all 2 rfl) (T_api_Event.g2 he7), _, rfl, ?_⟩
          refine ⟨_, ldk (k := 2) (Sub.refl _) (O13.all 1 rfl) (T_api_Event.g2 e_5), _, rfl, ?_⟩
          have O15 := O13.nm
          exact (ih _ _ e) _ _ _ _ _ _ _ _ _ _ _ _ _ _ _ _ (O15.pick [0, 1]).nm rfl k_0 r_0 rfl e_5 rfl k_13 r_13
        · have O16 := O13.nm
          exact (ih _ _ e) _ _ _ _ _ _ _ _ _ _ _ _ _ _ _ _ (O16.pick [0, 1]).nm rfl k_0 r_0 rfl e_5 rfl k_13 r_13
      · have O18 := O13.nm
        exact (ih _ _ e) _ _ _ _ _ _ _ _ _ _ _ _ _ _ _ _ (O18.pick [0, 1]).nm rfl k_0 r_0 rfl e_5 rfl k_13 r_13
  · exact (ih _ _ e) _ _ _ _ _ _ _ _ _ _ _ _ _ _ (O.pick [0]).nm rfl k_0 r_0 rfl rfl k_13 r_13
set_option maxRecDepth 100000 in
theorem roadref4_Past.l0_k.step_j1 (go : (p : roadref4_Past.l0_k.Pt) → Option ((List (List Bool)))) (ih : ∀ p r, go p = some r → roadref4_Past.l0_k.I p r) (a_0 : List T_api_Event) (a_3 : List (List Bool)) (x_4 : Int) (y_5 : T_api_Event) (x_6 : Int) (a_13 : List T_api_Event) (x_14 : Int) (x_15 : Int) (b_57 : Bool) (r : (List (List Bool))) (e : roadref4_Past.l0_k.body go (.j1 a_0 a_3 x_4 y_5 x_6 a_13 x_14 x_15 b_57) = some r) : roadref4_Past.l0_k.I (.j1 a_0 a_3 x_4 y_5 x_6 a_13 x_14 x_15 b_57) r := by
  unfold roadref4_Past.l0_k.body at e
  intro W h0 m0 h m A_0 n_0 c_0 A_3 n_3 c_3 bk_5 cs_5 A_13 n_13 c_13 O ne_0 k_0 r_0 ne_3 e_5 ne_13 k_13 r_13
  subst ne_0
  subst ne_3
  subst ne_13
  refine f28.j1_in ?_
  unfold f28.j1T
  refine split_any_e e (fun c38 e => ?_) (fun c38 e => ?_)
  · obtain ⟨y3, g4, e⟩ := bind_e e
    refine O.adr 0 rfl rfl g4 fun a1 ha2 => ?_
    obtain ⟨hs5, O6⟩ := O.openX 0 rfl g4
    obtain ⟨A7, c8, hx9, hc10, k11⟩ := O6.hdX 0 rfl ha2 g4
    refine ⟨_, ld0 (Sub.refl _) hc10 rfl, _, _, _, rfl, ?_⟩
    obtain ⟨y13, g14, e⟩ := bind_e e
    refine (O6.xos 0 rfl hx9 g4).addr rfl g14 fun a15 cs16 ha17 hc18 he19 => ?_
    obtain rfl : cs16 = [(Value.bool y13)] := he19
    obtain ⟨l23, g24, e⟩ := bind_e e
    have O20 := O6.takeX 0 rfl hx9 g4
    replace g24 := Option.some.inj g24
    refine O20.elst0 2 rfl g14 ha17 hc18 (by decide) (y' := true) rfl trivial g24 fun h21 O22 => ?_
    obtain ⟨y29, g30, e⟩ := bind_e e
    have O25 := O22.putX 0 2 rfl rfl hx9 (lset' g24) rfl
    have hx26 := hx_len hx9 (lset' g24)
    refine O25.adrX 0 rfl lset g30 fun a27 ha28 => ?_
    obtain ⟨A31, c32, hx33, hc34, k35⟩ := O25.hdX 0 rfl ha28 g30
    refine ⟨_, ld0 (Sub.refl _) hc34 rfl, _, _, _, rfl, ?_⟩
    have O37 := O25.nm
    exact (ih _ _ e) _ _ _ _ _ _ _ _ _ _ _ _ _ _ _ _ _ _ _ _ (O37.pick [0, 1]).nm rfl k_0 r_0 lset e_5 rfl k_13 r_13 rfl hx33 g30
  · exact (ih _ _ e) _ _ _ _ _ _ _ _ _ _ _ _ _ _ _ _ (O.pick [0, 1]).nm rfl k_0 r_0 rfl e_5 rfl k_13 r_13
set_option maxHeartbeats 4000000 in
set_option maxRecDepth 100000 in
theorem roadref4_Past.l0_k.step_l2 (go : (p : roadref4_Past.l0_k.Pt) → Option ((List (List Bool)))) (ih : ∀ p r, go p = some r → roadref4_Past.l0_k.I p r) (a_0 : List T_api_Event) (a_3 : List (List Bool)) (x_4 : Int) (y_5 : T_api_Event) (x_6 : Int) (a_13 : List T_api_Event) (x_14 : Int) (x_15 : Int) (x_68 : Int) (x_69 : Int) (x_67 : Int) (a_67 : List Bool) (r : (List (List Bool))) (e : roadref4_Past.l0_k.body go (.l2 a_0 a_3 x_4 y_5 x_6 a_13 x_14 x_15 x_68 x_69 x_67 a_67) = some r) : roadref4_Past.l0_k.I (.l2 a_0 a_3 x_4 y_5 x_6 a_13 x_14 x_15 x_68 x_69 x_67 a_67) r := by
  unfold roadref4_Past.l0_k.body at e
  intro W h0 m0 h m A_0 n_0 c_0 A_3 n_3 c_3 hs_3 bk_5 cs_5 A_13 n_13 c_13 A_67 n_67 c_67 O ne_0 k_0 r_0 ne_3 e_5 ne_13 k_13 r_13 ne_67 hx_67 g_67
  subst ne_0
  subst ne_3
  subst ne_13
  subst ne_67
  refine f28.l2_in ?_
  unfold f28.l2T
  refine split_dec_e e (fun c64 e => ?_) (fun c64 e => ?_)
  · obtain ⟨y1, g2, e⟩ := bind_e e
    refine (O.xos 0 rfl hx_67 g_67).addr rfl g2 fun a3 cs4 ha5 hc6 he7 => ?_
    obtain rfl : cs4 = [(Value.bool y1)] := he7
    refine ⟨_, ld0 (Sub.refl _) hc6 rfl, _, rfl, ?_⟩
    obtain ⟨y10, g11, e⟩ := bind_e e
    refine O.adrX 0 rfl rfl g11 fun a8 ha9 => ?_
    obtain ⟨y14, g15, e⟩ := bind_e e
    refine O.adrX 0 rfl rfl g15 fun a12 ha13 => ?_
    obtain ⟨A16, c17, hx18, hc19, k20⟩ := O.hdX 0 rfl ha9 g11
    refine ⟨_, ld0 (Sub.refl _) hc19 rfl, _, _, _, rfl, ?_⟩
    refine ⟨_, ld0 (Sub.refl _) (O.hcX 0 rfl ha13 hx18) rfl, _, _, _, rfl, ?_⟩
    obtain ⟨y22, g23, e⟩ := bind_e e
    refine (O.xos 0 rfl hx18 g11).addr rfl g23 fun a24 cs25 ha26 hc27 he28 => ?_
    obtain rfl : cs25 = [(Value.bool y22)] := he28
    refine ⟨_, ld0 (Sub.refl _) hc27 rfl, _, rfl, ?_⟩
    refine split_any_e e (fun c61 e => ?_) (fun c61 e => ?_)
    · obtain ⟨y29, g30, e⟩ := bind_e e
      refine (O.xos 0 rfl hx18 g11).addr rfl g30 fun a31 cs32 ha33 hc34 he35 => ?_
      obtain rfl : cs32 = [(Value.bool y29)] := he35
      obtain ⟨l39, g40, e⟩ := bind_e e
      have O36 := O.takeX 0 rfl hx18 g11
      replace g40 := Option.some.inj g40
      refine O36.elst0 2 rfl g30 ha33 hc34 (by decide) (y' := true) rfl trivial g40 fun h37 O38 => ?_
      have O41 := O38.putX 0 2 rfl rfl hx18 (lset' g40) rfl
      have hx42 := hx_len hx18 (lset' g40)
      obtain ⟨g43, e⟩ := guard_e e
      have O44 := O41.nm
      exact (ih _ _ e) _ _ _ _ _ _ _ _ _ _ _ _ _ _ _ _ _ _ _ _ (O44.pick [0, 1]).nm rfl k_0 r_0 lset e_5 rfl k_13 r_13 rfl hx_67 (gi_ne g_67 rfl g43)
    · obtain ⟨y45, g46, e⟩ := bind_e e
      refine (O.xos 0 rfl hx18 g11).addr rfl g46 fun a47 cs48 ha49 hc50 he51 => ?_
      obtain rfl : cs48 = [(Value.bool y45)] := he51
      obtain ⟨l55, g56, e⟩ := bind_e e
      have O52 := O.takeX 0 rfl hx18 g11
      replace g56 := Option.some.inj g56
      refine O52.elst0 2 rfl g46 ha49 hc50 (by decide) (y' := y1) rfl trivial g56 fun h53 O54 => ?_
      have O57 := O54.putX 0 2 rfl rfl hx18 (lset' g56) rfl
      have hx58 := hx_len hx18 (lset' g56)
      obtain ⟨g59, e⟩ := guard_e e
      have O60 := O57.nm
      exact (ih _ _ e) _ _ _ _ _ _ _ _ _ _ _ _ _ _ _ _ _ _ _ _ (O60.pick [0, 1]).nm rfl k_0 r_0 lset e_5 rfl k_13 r_13 rfl hx_67 (gi_ne g_67 rfl g59)
  · have O62 := O.closeX 0 rfl
    have O63 := O62.nm
    exact (ih _ _ e) _ _ _ _ _ _ _ _ _ _ _ _ _ _ _ _ (O63.pick [0, 1]).nm rfl k_0 r_0 rfl e_5 rfl k_13 r_13
set_option maxRecDepth 100000 in
theorem roadref4_Past.l0_k.step_j0 (go : (p : roadref4_Past.l0_k.Pt) → Option ((List (List Bool)))) (ih : ∀ p r, go p = some r → roadref4_Past.l0_k.I p r) (a_0 : List T_api_Event) (a_3 : List (List Bool)) (x_4 : Int) (y_5 : T_api_Event) (x_6 : Int) (a_13 : List T_api_Event) (x_14 : Int) (x_15 : Int) (r : (List (List Bool))) (e : roadref4_Past.l0_k.body go (.j0 a_0 a_3 x_4 y_5 x_6 a_13 x_14 x_15) = some r) : roadref4_Past.l0_k.I (.j0 a_0 a_3 x_4 y_5 x_6 a_13 x_14 x_15) r := by
  unfold roadref4_Past.l0_k.body at e
  intro W h0 m0 h m A_0 n_0 c_0 A_3 n_3 c_3 bk_5 cs_5 A_13 n_13 c_13 O ne_0 k_0 r_0 ne_3 e_5 ne_13 k_13 r_13
  subst ne_0
  subst ne_3
  subst ne_13
  refine f28.j0_in ?_
  unfold f28.j0T
  exact (ih _ _ e) _ _ _ _ _ _ _ _ _ _ _ _ _ _ _ _ (O.pick [0, 1]).nm rfl k_0 r_0 rfl e_5 rfl k_13 r_13
theorem roadref4_Past.l0_k.all {p : roadref4_Past.l0_k.Pt} {r : ((List (List Bool)))} (e : roadref4_Past.l0_k.go p = some r) : roadref4_Past.l0_k.I p r := fixF_ind (β := fun _ => ((List (List Bool)))) roadref4_Past.l0_k.mono (I := roadref4_Past.l0_k.I) (fun go ih p r e => match p with
  | .l0 a_0 a_3 a_13 x_14 x_15 => roadref4_Past.l0_k.step_l0 go ih a_0 a_3 a_13 x_14 x_15 r e
  | .l1 a_0 a_3 x_4 y_5 x_6 a_13 x_14 x_15 => roadref4_Past.l0_k.step_l1 go ih a_0 a_3 x_4 y_5 x_6 a_13 x_14 x_15 r e
  | .j1 a_0 a_3 x_4 y_5 x_6 a_13 x_14 x_15 b_57 => roadref4_Past.l0_k.step_j1 go ih a_0 a_3 x_4 y_5 x_6 a_13 x_14 x_15 b_57 r e
  | .l2 a_0 a_3 x_4 y_5 x_6 a_13 x_14 x_15 x_68 x_69 x_67 a_67 => roadref4_Past.l0_k.step_l2 go ih a_0 a_3 x_4 y_5 x_6 a_13 x_14 x_15 x_68 x_69 x_67 a_67 r e
  | .j0 a_0 a_3 x_4 y_5 x_6 a_13 x_14 x_15 => roadref4_Past.l0_k.step_j0 go ih a_0 a_3 x_4 y_5 x_6 a_13 x_14 x_15 r e
  ) e
theorem roadref4_Past.l0.walk {W : Nat → Prop} {h0 m0 h m : Heap} {A_0 : Option Addr} {n_0 c_0 : Nat} {A_3 : Option Addr} {n_3 c_3 : Nat} {A_13 : Option Addr} {n_13 c_13 : Nat} {a_0 : List T_api_Event} {a_3 : List (List Bool)} {a_13 : List T_api_Event} {x_14 : Int} {x_15 : Int} (O : Hold W h0 m0 h m [rR (aRow (aE tell_bool)) A_3 c_3 a_3]) (ne_0 : n_0 = List.length a_0) (k_0 : List.length a_0 ≤ c_0) (r_0 : Rd 3 T_api_Event.E m A_0 a_0) (ne_3 : n_3 = List.length a_3) (ne_13 : n_13 = List.length a_13) (k_13 : List.length a_13 ≤ c_13) (r_13 : Rd 3 T_api_Event.E m A_13 a_13) {r : (List (List Bool))} (e : roadref4_Past.l0 a_0 a_3 a_13 x_14 x_15 = some r) : f28.l0 (roadref4_Past.post W h0 m0 r) A_0 n_0 c_0 A_3 n_3 c_3 A_13 n_13 c_13 x_14 x_15 h := roadref4_Past.l0_k.all (p := .l0 a_0 a_3 a_13 x_14 x_15) e W h0 m0 h m A_0 n_0 c_0 A_3 n_3 c_3 A_13 n_13 c_13 O ne_0 k_0 r_0 ne_3 ne_13 k_13 r_13
theorem roadref4_Past.l1.walk {W : Nat → Prop} {h0 m0 h m : Heap} {A_0 : Option Addr} {n_0 c_0 : Nat} {A_3 : Option Addr} {n_3 c_3 : Nat} {bk_5 : Nat} {cs_5 : List Value} {A_13 : Option Addr} {n_13 c_13 : Nat} {a_0 : List T_api_Event} {a_3 : List (List Bool)} {x_4 : Int} {y_5 : T_api_Event} {x_6 : Int} {a_13 : List T_api_Event} {x_14 : Int} {x_15 : Int} (O : Hold W h0 m0 h m [rR (aRow (aE tell_bool)) A_3 c_3 a_3, rV bk_5 88 cs_5]) (ne_0 : n_0 = List.length a_0) (k_0 : List.length a_0 ≤ c_0) (r_0 : Rd 3 T_api_Event.E m A_0 a_0) (ne_3 : n_3 = List.length a_3) (e_5 : T_api_Event.E m y_5 cs_5) (ne_13 : n_13 = List.length a_13) (k_13 : List.length a_13 ≤ c_13) (r_13 : Rd 3 T_api_Event.E m A_13 a_13) {r : (List (List Bool))} (e : roadref4_Past.l1 a_0 a_3 x_4 y_5 x_6 a_13 x_14 x_15 = some r) : f28.l1 (roadref4_Past.post W h0 m0 r) A_0 n_0 c_0 A_3 n_3 c_3 x_4 (⟨bk_5, 0, none⟩ : Addr) x_6 A_13 n_13 c_13 x_14 x_15 h := roadref4_Past.l0_k.all (p := .l1 a_0 a_3 x_4 y_5 x_6 a_13 x_14 x_15) e W h0 m0 h m A_0 n_0 c_0 A_3 n_3 c_3 bk_5 cs_5 A_13 n_13 c_13 O ne_0 k_0 r_0 ne_3 e_5 ne_13 k_13 r_13
theorem roadref4_Past.j1.walk {W : Nat → Prop} {h0 m0 h m : Heap} {A_0 : Option Addr} {n_0 c_0 : Nat} {A_3 : Option Addr} {n_3 c_3 : Nat} {bk_5 : Nat} {cs_5 : List Value} {A_13 : Option Addr} {n_13 c_13 : Nat} {a_0 : List T_api_Event} {a_3 : List (List Bool)} {x_4 : Int} {y_5 : T_api_Event} {x_6 : Int} {a_13 : List T_api_Event} {x_14 : Int} {x_15 : Int} {b_57 : Bool} (O : Hold W h0 m0 h m [rR (aRow (aE tell_bool)) A_3 c_3 a_3, rV bk_5 88 cs_5]) (ne_0 : n_0 = List.length a_0) (k_0 : List.length a_0 ≤ c_0) (r_0 : Rd 3 T_api_Event.E m A_0 a_0) (ne_3 : n_3 = List.length a_3) (e_5 : T_api_Event.E m y_5 cs_5) (ne_13 : n_13 = List.length a_13) (k_13 : List.length a_13 ≤ c_13) (r_13 : Rd 3 T_api_Event.E m A_13 a_13) {r : (List (List Bool))} (e : roadref4_Past.j1 a_0 a_3 x_4 y_5 x_6 a_13 x_14 x_15 b_57 = some r) : f28.j1 (roadref4_Past.post W h0 m0 r) A_0 n_0 c_0 A_3 n_3 c_3 x_4 (⟨bk_5, 0, none⟩ : Addr) x_6 A_13 n_13 c_13 x_14 x_15 b_57 h := roadref4_Past.l0_k.all (p := .j1 a_0 a_3 x_4 y_5 x_6 a_13 x_14 x_15 b_57) e W h0 m0 h m A_0 n_0 c_0 A_3 n_3 c_3 bk_5 cs_5 A_13 n_13 c_13 O ne_0 k_0 r_0 ne_3 e_5 ne_13 k_13 r_13
theorem roadref4_Past.l2.walk {W : Nat → Prop} {h0 m0 h m : Heap} {A_0 : Option Addr} {n_0 c_0 : Nat} {A_3 : Option Addr} {n_3 c_3 : Nat} {hs_3 : List Value} {bk_5 : Nat} {cs_5 : List Value} {A_13 : Option Addr} {n_13 c_13 : Nat} {A_67 : Option Addr} {n_67 c_67 : Nat} {a_0 : List T_api_Event} {a_3 : List (List Bool)} {x_4 : Int} {y_5 : T_api_Event} {x_6 : Int} {a_13 : List T_api_Event} {x_14 : Int} {x_15 : Int} {x_68 : Int} {x_69 : Int} {x_67 : Int} {a_67 : List Bool} (O : Hold W h0 m0 h m [rX (aRow (aE tell_bool)) A_3 c_3 a_3 hs_3 none, rV bk_5 88 cs_5]) (ne_0 : n_0 = List.length a_0) (k_0 : List.length a_0 ≤ c_0) (r_0 : Rd 3 T_api_Event.E m A_0 a_0) (ne_3 : n_3 = List.length a_3) (e_5 : T_api_Event.E m y_5 cs_5) (ne_13 : n_13 = List.length a_13) (k_13 : List.length a_13 ≤ c_13) (r_13 : Rd 3 T_api_Event.E m A_13 a_13) (ne_67 : n_67 = List.length a_67) (hx_67 : hs_3[Int.toNat x_67]? = some (.slice A_67 n_67 c_67)) (g_67 : gi a_3 x_67 = some a_67) {r : (List (List Bool))} (e : roadref4_Past.l2 a_0 a_3 x_4 y_5 x_6 a_13 x_14 x_15 x_68 x_69 x_67 a_67 = some r) : f28.l2 (roadref4_Past.post W h0 m0 r) A_0 n_0 c_0 A_3 n_3 c_3 x_4 (⟨bk_5, 0, none⟩ : Addr) x_6 A_13 n_13 c_13 x_14 x_15 A_67 n_67 c_67 x_68 x_69 h := roadref4_Past.l0_k.all (p := .l2 a_0 a_3 x_4 y_5 x_6 a_13 x_14 x_15 x_68 x_69 x_67 a_67) e W h0 m0 h m A_0 n_0 c_0 A_3 n_3 c_3 hs_3 bk_5 cs_5 A_13 n_13 c_13 A_67 n_67 c_67 O ne_0 k_0 r_0 ne_3 e_5 ne_13 k_13 r_13 ne_67 hx_67 g_67
theorem roadref4_Past.j0.walk {W : Nat → Prop} {h0 m0 h m : Heap} {A_0 : Option Addr} {n_0 c_0 : Nat} {A_3 : Option Addr} {n_3 c_3 : Nat} {bk_5 : Nat} {cs_5 : List Value} {A_13 : Option Addr} {n_13 c_13 : Nat} {a_0 : List T_api_Event} {a_3 : List (List Bool)} {x_4 : Int} {y_5 : T_api_Event} {x_6 : Int} {a_13 : List T_api_Event} {x_14 : Int} {x_15 : Int} (O : Hold W h0 m0 h m [rR (aRow (aE tell_bool)) A_3 c_3 a_3, rV bk_5 88 cs_5]) (ne_0 : n_0 = List.length a_0) (k_0 : List.length a_0 ≤ c_0) (r_0 : Rd 3 T_api_Event.E m A_0 a_0) (ne_3 : n_3 = List.length a_3) (e_5 : T_api_Event.E m y_5 cs_5) (ne_13 : n_13 = List.length a_13) (k_13 : List.length a_13 ≤ c_13) (r_13 : Rd 3 T_api_Event.E m A_13 a_13) {r : (List (List Bool))} (e : roadref4_Past.j0 a_0 a_3 x_4 y_5 x_6 a_13 x_14 x_15 = some r) : f28.j0 (roadref4_Past.post W h0 m0 r) A_0 n_0 c_0 A_3 n_3 c_3 x_4 (⟨bk_5, 0, none⟩ : Addr) x_6 A_13 n_13 c_13 x_14 x_15 h := roadref4_Past.l0_k.all (p := .j0 a_0 a_3 x_4 y_5 x_6 a_13 x_14 x_15) e W h0 m0 h m A_0 n_0 c_0 A_3 n_3 c_3 bk_5 cs_5 A_13 n_13 c_13 O ne_0 k_0 r_0 ne_3 e_5 ne_13 k_13 r_13

noncomputable def roadref4_Past (a_0 : List T_api_Event) : Option ((List (List Bool))) :=
  Option.bind (mks 24 (((List.length a_0) : Nat) : Int) ([] : (List Bool))) fun l1 => (roadref4_Past.l0 a_0 l1 a_0 (((List.length a_0) : Nat) : Int) (0 : Int))
set_option maxRecDepth 100000 in
theorem roadref4_Past.walk {W : Nat → Prop} {h m : Heap} {A_0 : Option Addr} {n_0 c_0 : Nat} {a_0 : List T_api_Event} (O : Hold W h m h m []) (ne_0 : n_0 = List.length a_0) (k_0 : List.length a_0 ≤ c_0) (r_0 : Rd 3 T_api_Event.E m A_0 a_0) {r : (List (List Bool))} (e : roadref4_Past a_0 = some r) : Run Try.prog 28 #[Value.slice A_0 n_0 c_0] h (roadref4_Past.post W h m r) := by
  unfold roadref4_Past at e
  subst ne_0
  refine f28.run ?_
  unfold f28.runT
  obtain ⟨l1, g2, e⟩ := bind_e e
  have q3 := mks_e g2
  refine ⟨q3.1, Int.le_refl _, q3.2.1, q3.2.2.1, ?_⟩
  refine O.new fun h4 x5 O6 => ?_
  have O7 := O6.made 0 rfl (aRow (aE tell_bool)) g2 aRow_nil
  try rw [q3.2.2.2.1]
  have O9 := O7.nm
  exact roadref4_Past.l0.walk (O9.pick [0]).nm rfl k_0 r_0 rfl rfl k_0 r_0 e

/-! ### 27 roadstead/clock.Check -/
def clock_Check.post (W : Nat → Prop) (h0 m0 : Heap) (r : Int) (v : Value) (h : Heap) : Prop := ∃ m , Hold W h0 m0 h m [] ∧ v = .int .i64 r
inductive clock_Check.l0_k.Pt where
  | l0 (es_3 : (List (Int × Bool))) (es_4 : (List (Int × Bool))) (a_12 : List T_api_Event) (x_13 : Int) (x_14 : Int)
  | j0 (es_3 : (List (Int × Bool))) (es_4 : (List (Int × Bool))) (y_6 : T_api_Event) (a_12 : List T_api_Event) (x_13 : Int) (x_14 : Int)
  | j1 (es_3 : (List (Int × Bool))) (es_4 : (List (Int × Bool))) (y_6 : T_api_Event) (a_12 : List T_api_Event) (x_13 : Int) (x_14 : Int)
noncomputable def clock_Check.l0_k.body (go : (p : clock_Check.l0_k.Pt) → Option (Int)) : (p : clock_Check.l0_k.Pt) → Option (Int)
  | .l0 es_3 es_4 a_12 x_13 x_14 => if x_14 < x_13 then (Option.bind (gi a_12 x_14) fun y1 => if y1.Kind < (1 : Int) then (some ((3 : Int))) else (if y1.Kind > (3 : Int) then (some ((3 : Int))) else ((go (.j0 es_3 es_4 y1 a_12 x_13 x_14))))) else (some ((0 : Int)))
  | .j0 es_3 es_4 y_6 a_12 x_13 x_14 => if y_6.Place < (0 : Int) then (some ((1 : Int))) else (if y_6.Place ≥ (8 : Int) then (some ((1 : Int))) else (if y_6.Kind = (1 : Int) then ((go (.j1 es_3 es_4 y_6 a_12 x_13 x_14))) else (if y_6.Msg < (0 : Int) then (some ((1 : Int))) else (if y_6.Msg > (999 : Int) then (some ((1 : Int))) else ((go (.j1 es_3 es_4 y_6 a_12 x_13 x_14)))))))
  | .j1 es_3 es_4 y_6 a_12 x_13 x_14 => if y_6.Kind = (2 : Int) then (if (pgd es_3 y_6.Msg false) = true then (some ((5 : Int))) else (Option.bind (some (pset es_3 y_6.Msg true)) fun l5 => (go (.l0 l5 es_4 a_12 x_13 (IntKind.wrap .i64 (x_14 + (1 : Int))))))) else (if y_6.Kind = (3 : Int) then (if (pgd es_3 y_6.Msg false) = true then (if (pgd es_4 y_6.Msg false) = true then (some ((5 : Int))) else (Option.bind (some (pset es_4 y_6.Msg true)) fun l15 => (go (.l0 es_3 l15 a_12 x_13 (IntKind.wrap .i64 (x_14 + (1 : Int))))))) else (some ((4 : Int)))) else ((go (.l0 es_3 es_4 a_12 x_13 (IntKind.wrap .i64 (x_14 + (1 : Int)))))))
theorem clock_Check.l0_k.mono : MonoF (β := fun _ => (Int)) clock_Check.l0_k.body := fun f g hfg p => match p with
  | .l0 es_3 es_4 a_12 x_13 x_14 => LeO.ite (LeO.bind (LeO.refl _) fun y1 => LeO.ite (LeO.refl _) (LeO.ite (LeO.refl _) ((hfg _)))) (LeO.refl _)
  | .j0 es_3 es_4 y_6 a_12 x_13 x_14 => LeO.ite (LeO.refl _) (LeO.ite (LeO.refl _) (LeO.ite ((hfg _)) (LeO.ite (LeO.refl _) (LeO.ite (LeO.refl _) ((hfg _))))))
  | .j1 es_3 es_4 y_6 a_12 x_13 x_14 => LeO.ite (LeO.ite (LeO.refl _) (LeO.bind (LeO.refl _) fun l5 => (hfg _))) (LeO.ite (LeO.ite (LeO.ite (LeO.refl _) (LeO.bind (LeO.refl _) fun l15 => (hfg _))) (LeO.refl _)) ((hfg _)))
noncomputable def clock_Check.l0_k.go (p : clock_Check.l0_k.Pt) : Option (Int) := fixF (β := fun _ => (Int)) clock_Check.l0_k.body p
noncomputable def clock_Check.l0 (es_3 : (List (Int × Bool))) (es_4 : (List (Int × Bool))) (a_12 : List T_api_Event) (x_13 : Int) (x_14 : Int) : Option (Int) := clock_Check.l0_k.go (.l0 es_3 es_4 a_12 x_13 x_14)
noncomputable def clock_Check.j0 (es_3 : (List (Int × Bool))) (es_4 : (List (Int × Bool))) (y_6 : T_api_Event) (a_12 : List T_api_Event) (x_13 : Int) (x_14 : Int) : Option (Int) := clock_Check.l0_k.go (.j0 es_3 es_4 y_6 a_12 x_13 x_14)
noncomputable def clock_Check.j1 (es_3 : (List (Int × Bool))) (es_4 : (List (Int × Bool))) (y_6 : T_api_Event) (a_12 : List T_api_Event) (x_13 : Int) (x_14 : Int) : Option (Int) := clock_Check.l0_k.go (.j1 es_3 es_4 y_6 a_12 x_13 x_14)
theorem clock_Check.l0_eq (es_3 : (List (Int × Bool))) (es_4 : (List (Int × Bool))) (a_12 : List T_api_Event) (x_13 : Int) (x_14 : Int) : clock_Check.l0 es_3 es_4 a_12 x_13 x_14 = if x_14 < x_13 then (Option.bind (gi a_12 x_14) fun y1 => if y1.Kind < (1 : Int) then (some ((3 : Int))) else (if y1.Kind > (3 : Int) then (some ((3 : Int))) else ((clock_Check.j0 es_3 es_4 y1 a_12 x_13 x_14)))) else (some ((0 : Int))) := fixF_eq clock_Check.l0_k.mono _
theorem clock_Check.j0_eq (es_3 : (List (Int × Bool))) (es_4 : (List (Int × Bool))) (y_6 : T_api_Event) (a_12 : List T_api_Event) (x_13 : Int) (x_14 : Int) : clock_Check.j0 es_3 es_4 y_6 a_12 x_13 x_14 = if y_6.Place < (0 : Int) then (some ((1 : Int))) else (if y_6.Place ≥ (8 : Int) then (some ((1 : Int))) else (if y_6.Kind = (1 : Int) then ((clock_Check.j1 es_3 es_4 y_6 a_12 x_13 x_14)) else (if y_6.Msg < (0 : Int) then (some ((1 : Int))) else (if y_6.Msg > (999 : Int) then (some ((1 : Int))) else ((clock_Check.j1 es_3 es_4 y_6 a_12 x_13 x_14)))))) := fixF_eq clock_Check.l0_k.mono _
theorem clock_Check.j1_eq (es_3 : (List (Int × Bool))) (es_4 : (List (Int × Bool))) (y_6 : T_api_Event) (a_12 : List T_api_Event) (x_13 : Int) (x_14 : Int) : clock_Check.j1 es_3 es_4 y_6 a_12 x_13 x_14 = if y_6.Kind = (2 : Int) then (if (pgd es_3 y_6.Msg false) = true then (some ((5 : Int))) else (Option.bind (some (pset es_3 y_6.Msg true)) fun l5 => (clock_Check.l0 l5 es_4 a_12 x_13 (IntKind.wrap .i64 (x_14 + (1 : Int)))))) else (if y_6.Kind = (3 : Int) then (if (pgd es_3 y_6.Msg false) = true then (if (pgd es_4 y_6.Msg false) = true then (some ((5 : Int))) else (Option.bind (some (pset es_4 y_6.Msg true)) fun l15 => (clock_Check.l0 es_3 l15 a_12 x_13 (IntKind.wrap .i64 (x_14 + (1 : Int)))))) else (some ((4 : Int)))) else ((clock_Check.l0 es_3 es_4 a_12 x_13 (IntKind.wrap .i64 (x_14 + (1 : Int)))))) := fixF_eq clock_Check.l0_k.mono _
def clock_Check.l0_k.I : (p : clock_Check.l0_k.Pt) → (Int) → Prop
  | .l0 es_3 es_4 a_12 x_13 x_14, r => ∀ (W : Nat → Prop) (h0 m0 h m : Heap) (bk_3 : Nat) (bk_4 : Nat) (A_12 : Option Addr) (n_12 c_12 : Nat) (O : Hold W h0 m0 h m [rM (monoV0 tell_bool) (fun n : Int => Value.int .i64 n) bk_3 es_3, rM (monoV0 tell_bool) (fun n : Int => Value.int .i64 n) bk_4 es_4]) (ne_12 : n_12 = List.length a_12) (k_12 : List.length a_12 ≤ c_12) (r_12 : Rd 3 T_api_Event.E m A_12 a_12), f27.l0 (clock_Check.post W h0 m0 r) (Value.map (some bk_3)) (Value.map (some bk_4)) A_12 n_12 c_12 x_13 x_14 h
  | .j0 es_3 es_4 y_6 a_12 x_13 x_14, r => ∀ (W : Nat → Prop) (h0 m0 h m : Heap) (bk_3 : Nat) (bk_4 : Nat) (bk_6 : Nat) (cs_6 : List Value) (A_12 : Option Addr) (n_12 c_12 : Nat) (O : Hold W h0 m0 h m [rM (monoV0 tell_bool) (fun n : Int => Value.int .i64 n) bk_3 es_3, rM (monoV0 tell_bool) (fun n : Int => Value.int .i64 n) bk_4 es_4, rV bk_6 88 cs_6]) (e_6 : T_api_Event.E m y_6 cs_6) (ne_12 : n_12 = List.length a_12) (k_12 : List.length a_12 ≤ c_12) (r_12 : Rd 3 T_api_Event.E m A_12 a_12), f27.j0 (clock_Check.post W h0 m0 r) (Value.map (some bk_3)) (Value.map (some bk_4)) (⟨bk_6, 0, none⟩ : Addr) A_12 n_12 c_12 x_13 x_14 h
  | .j1 es_3 es_4 y_6 a_12 x_13 x_14, r => ∀ (W : Nat → Prop) (h0 m0 h m : Heap) (bk_3 : Nat) (bk_4 : Nat) (bk_6 : Nat) (cs_6 : List Value) (A_12 : Option Addr) (n_12 c_12 : Nat) (O : Hold W h0 m0 h m [rM (monoV0 tell_bool) (fun n : Int => Value.int .i64 n) bk_3 es_3, rM (monoV0 tell_bool) (fun n : Int => Value.int .i64 n) bk_4 es_4, rV bk_6 88 cs_6]) (e_6 : T_api_Event.E m y_6 cs_6) (ne_12 : n_12 = List.length a_12) (k_12 : List.length a_12 ≤ c_12) (r_12 : Rd 3 T_api_Event.E m A_12 a_12), f27.j1 (clock_Check.post W h0 m0 r) (Value.map (some bk_3)) (Value.map (some bk_4)) (⟨bk_6, 0, none⟩ : Addr) A_12 n_12 c_12 x_13 x_14 h
set_option maxRecDepth 100000 in
theorem clock_Check.l0_k.step_l0 (go : (p : clock_Check.l0_k.Pt) → Option (Int)) (ih : ∀ p r, go p = some r → clock_Check.l0_k.I p r) (es_3 : (List (Int × Bool))) (es_4 : (List (Int × Bool))) (a_12 : List T_api_Event) (x_13 : Int) (x_14 : Int) (r : Int) (e : clock_Check.l0_k.body go (.l0 es_3 es_4 a_12 x_13 x_14) = some r) : clock_Check.l0_k.I (.l0 es_3 es_4 a_12 x_13 x_14) r := by
  unfold clock_Check.l0_k.body at e
  intro W h0 m0 h m bk_3 bk_4 A_12 n_12 c_12 O ne_12 k_12 r_12
  subst ne_12
  refine f27.l0_in ?_
  unfold f27.l0T
  refine split_dec_e e (fun c19 e => ?_) (fun c19 e => ?_)
  · obtain ⟨y1, g2, e⟩ := bind_e e
    refine r_12.addr rfl g2 fun a3 cs4 ha5 hc6 he7 => ?_
    refine ⟨_, ldAn O.s hc6 rfl, ?_⟩
    refine O.new fun h8 x9 O10 => ?_
    refine ⟨_, rfl, (T_api_Event.T.len _ _ _ he7), ?_⟩
    refine O10.stA 2 rfl (T_api_Event.T.len _ _ _ he7) (T_api_Event.T.flat _ _ _ he7) fun h12 O13 => ?_
    refine ⟨_, ldk (k := 1) (Sub.refl _) (O13.all 2 rfl) (T_api_Event.g1 he7), _, rfl, ?_⟩
    refine split_dec_e e (fun c18 e => ?_) (fun c18 e => ?_)
    · have O14 := O13.nm
      cases e
      exact ⟨_, O14.pick [], rfl⟩
    · refine ⟨_, ldk (k := 1) (Sub.refl _) (O13.all 2 rfl) (T_api_Event.g1 he7), _, rfl, ?_⟩
      refine split_dec_e e (fun c17 e => ?_) (fun c17 e => ?_)
      · have O15 := O13.nm
        cases e
        exact ⟨_, O15.pick [], rfl⟩
      · have O16 := O13.nm
        exact (ih _ _ e) _ _ _ _ _ _ _ _ _ _ _ _ (O16.pick [0, 1, 2]).nm he7 rfl k_12 r_12
  · cases e
    exact ⟨_, O.pick [], rfl⟩
set_option maxRecDepth 100000 in
theorem clock_Check.l0_k.step_j0 (go : (p : clock_Check.l0_k.Pt) → Option (Int)) (ih : ∀ p r, go p = some r → clock_Check.l0_k.I p r) (es_3 : (List (Int × Bool))) (es_4 : (List (Int × Bool))) (y_6 : T_api_Event) (a_12 : List T_api_Event) (x_13 : Int) (x_14 : Int) (r : Int) (e : clock_Check.l0_k.body go (.j0 es_3 es_4 y_6 a_12 x_13 x_14) = some r) : clock_Check.l0_k.I (.j0 es_3 es_4 y_6 a_12 x_13 x_14) r := by
  unfold clock_Check.l0_k.body at e
  intro W h0 m0 h m bk_3 bk_4 bk_6 cs_6 A_12 n_12 c_12 O e_6 ne_12 k_12 r_12
  subst ne_12
  refine f27.j0_in ?_
  unfold f27.j0T
  refine ⟨_, ld0 (Sub.refl _) (O.all 2 rfl) (T_api_Event.g0 e_6), _, rfl, ?_⟩
  refine split_dec_e e (fun c5 e => ?_) (fun c5 e => ?_)
  · cases e
    exact ⟨_, O.pick [], rfl⟩
  · refine ⟨_, ld0 (Sub.refl _) (O.all 2 rfl) (T_api_Event.g0 e_6), _, rfl, ?_⟩
    refine split_dec_e e (fun c4 e => ?_) (fun c4 e => ?_)
    · cases e
      exact ⟨_, O.pick [], rfl⟩
    · refine ⟨_, ldk (k := 1) (Sub.refl _) (O.all 2 rfl) (T_api_Event.g1 e_6), _, rfl, ?_⟩
      refine split_ne_e e (fun c3 e => ?_) (fun c3 e => ?_)
      · refine ⟨_, ldk (k := 2) (Sub.refl _) (O.all 2 rfl) (T_api_Event.g2 e_6), _, rfl, ?_⟩
        refine split_dec_e e (fun c2 e => ?_) (fun c2 e => ?_)
        · cases e
          exact ⟨_, O.pick [], rfl⟩
        · refine ⟨_, ldk (k := 2) (Sub.refl _) (O.all 2 rfl) (T_api_Event.g2 e_6), _, rfl, ?_⟩
          refine split_dec_e e (fun c1 e => ?_) (fun c1 e => ?_)
          · cases e
            exact ⟨_, O.pick [], rfl⟩
          · exact (ih _ _ e) _ _ _ _ _ _ _ _ _ _ _ _ (O.pick [0, 1, 2]).nm e_6 rfl k_12 r_12
      · exact (ih _ _ e) _ _ _ _ _ _ _ _ _ _ _ _ (O.pick [0, 1, 2]).nm e_6 rfl k_12 r_12
set_option maxHeartbeats 4000000 in
set_option maxRecDepth 100000 in
theorem clock_Check.l0_k.step_j1 (go : (p : clock_Check.l0_k.Pt) → Option (Int)) (ih : ∀ p r, go p = some r → clock_Check.l0_k.I p r) (es_3 : (List (Int × Bool))) (es_4 : (List (Int × Bool))) (y_6 : T_api_Event) (a_12 : List T_api_Event) (x_13 : Int) (x_14 : Int) (r : Int) (e : clock_Check.l0_k.body go (.j1 es_3 es_4 y_6 a_12 x_13 x_14) = some r) : clock_Check.l0_k.I (.j1 es_3 es_4 y_6 a_12 x_13 x_14) r := by
  unfold clock_Check.l0_k.body at e
  intro W h0 m0 h m bk_3 bk_4 bk_6 cs_6 A_12 n_12 c_12 O e_6 ne_12 k_12 r_12
  subst ne_12
  refine f27.j1_in ?_
  unfold f27.j1T
  refine ⟨_, ldk (k := 1) (Sub.refl _) (O.all 2 rfl) (T_api_Event.g1 e_6), _, rfl, ?_⟩
  refine split_eq_e e (fun c21 e => ?_) (fun c21 e => ?_)
  · refine ⟨_, ldk (k := 2) (Sub.refl _) (O.all 2 rfl) (T_api_Event.g2 e_6), _, rfl, ?_⟩
    refine (O.om 0 rfl).look (zv := false) (z := (Value.bool false)) (keyOk_int (key := 3) (elem := 4) (by kernel_rfl) (by kernel_rfl)) y_6.Msg (by kernel_rfl) rfl (fun v1 hv2 => ?_)
    obtain rfl : v1 = (Value.bool (pgd es_3 y_6.Msg false)) := (List.cons.inj (show [v1] = [(Value.bool (pgd es_3 y_6.Msg false))] from hv2)).1
    refine ⟨_, rfl, ?_⟩
    refine split_any_e e (fun c8 e => ?_) (fun c8 e => ?_)
    · cases e
      exact ⟨_, O.pick [], rfl⟩
    · refine ⟨_, ldk (k := 2) (Sub.refl _) (O.all 2 rfl) (T_api_Event.g2 e_6), _, rfl, ?_⟩
      obtain ⟨l5, g6, e⟩ := bind_e e
      replace g6 := Option.some.inj g6
      refine O.mapUpd (x := true) (v := (Value.bool true)) 0 rfl (keyOk_int (key := 3) (elem := 4) (by kernel_rfl) (by kernel_rfl)) y_6.Msg (show (eV0 eBool) m true (Value.bool true) from rfl) g6 fun h3 O4 => ?_
      have O7 := O4.nm
      exact (ih _ _ e) _ _ _ _ _ _ _ _ _ _ (O7.pick [0, 1]).nm rfl k_12 r_12
  · refine split_eq_e e (fun c20 e => ?_) (fun c20 e => ?_)
    · refine ⟨_, ldk (k := 2) (Sub.refl _) (O.all 2 rfl) (T_api_Event.g2 e_6), _, rfl, ?_⟩
      refine (O.om 0 rfl).look (zv := false) (z := (Value.bool false)) (keyOk_int (key := 3) (elem := 4) (by kernel_rfl) (by kernel_rfl)) y_6.Msg (by kernel_rfl) rfl (fun v9 hv10 => ?_)
      obtain rfl : v9 = (Value.bool (pgd es_3 y_6.Msg false)) := (List.cons.inj (show [v9] = [(Value.bool (pgd es_3 y_6.Msg false))] from hv10)).1
      refine ⟨_, rfl, ?_⟩
      refine split_not ?_
      refine split_any_e e (fun c19 e => ?_) (fun c19 e => ?_)
      · refine ⟨_, ldk (k := 2) (Sub.refl _) (O.all 2 rfl) (T_api_Event.g2 e_6), _, rfl, ?_⟩
        refine (O.om 1 rfl).look (zv := false) (z := (Value.bool false)) (keyOk_int (key := 3) (elem := 4) (by kernel_rfl) (by kernel_rfl)) y_6.Msg (by kernel_rfl) rfl (fun v11 hv12 => ?_)
        obtain rfl : v11 = (Value.bool (pgd es_4 y_6.Msg false)) := (List.cons.inj (show [v11] = [(Value.bool (pgd es_4 y_6.Msg false))] from hv12)).1
        refine ⟨_, rfl, ?_⟩
        refine split_any_e e (fun c18 e => ?_) (fun c18 e => ?_)
        · cases e
          exact ⟨_, O.pick [], rfl⟩
        · refine ⟨_, ldk (k := 2) (Sub.refl _) (O.all 2 rfl) (T_api_Event.g2 e_6), _, rfl, ?_⟩
          obtain ⟨l15, g16, e⟩ := bind_e e
          replace g16 := Option.some.inj g16
          refine O.mapUpd (x := true) (v := (Value.bool true)) 1 rfl (keyOk_int (key := 3) (elem := 4) (by kernel_rfl) (by kernel_rfl)) y_6.Msg (show (eV0 eBool) m true (Value.bool true) from rfl) g16 fun h13 O14 => ?_
          have O17 := O14.nm
          exact (ih _ _ e) _ _ _ _ _ _ _ _ _ _ (O17.pick [0, 1]).nm rfl k_12 r_12
      · cases e
        exact ⟨_, O.pick [], rfl⟩
    · exact (ih _ _ e) _ _ _ _ _ _ _ _ _ _ (O.pick [0, 1]).nm rfl k_12 r_12
theorem clock_Check.l0_k.all {p : clock_Check.l0_k.Pt} {r : (Int)} (e : clock_Check.l0_k.go p = some r) : clock_Check.l0_k.I p r := fixF_ind (β := fun _ => (Int)) clock_Check.l0_k.mono (I := clock_Check.l0_k.I) (fun go ih p r e => match p with
  | .l0 es_3 es_4 a_12 x_13 x_14 => clock_Check.l0_k.step_l0 go ih es_3 es_4 a_12 x_13 x_14 r e
  | .j0 es_3 es_4 y_6 a_12 x_13 x_14 => clock_Check.l0_k.step_j0 go ih es_3 es_4 y_6 a_12 x_13 x_14 r e
  | .j1 es_3 es_4 y_6 a_12 x_13 x_14 => clock_Check.l0_k.step_j1 go ih es_3 es_4 y_6 a_12 x_13 x_14 r e
  ) e
theorem clock_Check.l0.walk {W : Nat → Prop} {h0 m0 h m : Heap} {bk_3 : Nat} {bk_4 : Nat} {A_12 : Option Addr} {n_12 c_12 : Nat} {es_3 : (List (Int × Bool))} {es_4 : (List (Int × Bool))} {a_12 : List T_api_Event} {x_13 : Int} {x_14 : Int} (O : Hold W h0 m0 h m [rM (monoV0 tell_bool) (fun n : Int => Value.int .i64 n) bk_3 es_3, rM (monoV0 tell_bool) (fun n : Int => Value.int .i64 n) bk_4 es_4]) (ne_12 : n_12 = List.length a_12) (k_12 : List.length a_12 ≤ c_12) (r_12 : Rd 3 T_api_Event.E m A_12 a_12) {r : Int} (e : clock_Check.l0 es_3 es_4 a_12 x_13 x_14 = some r) : f27.l0 (clock_Check.post W h0 m0 r) (Value.map (some bk_3)) (Value.map (some bk_4)) A_12 n_12 c_12 x_13 x_14 h := clock_Check.l0_k.all (p := .l0 es_3 es_4 a_12 x_13 x_14) e W h0 m0 h m bk_3 bk_4 A_12 n_12 c_12 O ne_12 k_12 r_12
theorem clock_Check.j0.walk {W : Nat → Prop} {h0 m0 h m : Heap} {bk_3 : Nat} {bk_4 : Nat} {bk_6 : Nat} {cs_6 : List Value} {A_12 : Option Addr} {n_12 c_12 : Nat} {es_3 : (List (Int × Bool))} {es_4 : (List (Int × Bool))} {y_6 : T_api_Event} {a_12 : List T_api_Event} {x_13 : Int} {x_14 : Int} (O : Hold W h0 m0 h m [rM (monoV0 tell_bool) (fun n : Int => Value.int .i64 n) bk_3 es_3, rM (monoV0 tell_bool) (fun n : Int => Value.int .i64 n) bk_4 es_4, rV bk_6 88 cs_6]) (e_6 : T_api_Event.E m y_6 cs_6) (ne_12 : n_12 = List.length a_12) (k_12 : List.length a_12 ≤ c_12) (r_12 : Rd 3 T_api_Event.E m A_12 a_12) {r : Int} (e : clock_Check.j0 es_3 es_4 y_6 a_12 x_13 x_14 = some r) : f27.j0 (clock_Check.post W h0 m0 r) (Value.map (some bk_3)) (Value.map (some bk_4)) (⟨bk_6, 0, none⟩ : Addr) A_12 n_12 c_12 x_13 x_14 h := clock_Check.l0_k.all (p := .j0 es_3 es_4 y_6 a_12 x_13 x_14) e W h0 m0 h m bk_3 bk_4 bk_6 cs_6 A_12 n_12 c_12 O e_6 ne_12 k_12 r_12
theorem clock_Check.j1.walk {W : Nat → Prop} {h0 m0 h m : Heap} {bk_3 : Nat} {bk_4 : Nat} {bk_6 : Nat} {cs_6 : List Value} {A_12 : Option Addr} {n_12 c_12 : Nat} {es_3 : (List (Int × Bool))} {es_4 : (List (Int × Bool))} {y_6 : T_api_Event} {a_12 : List T_api_Event} {x_13 : Int} {x_14 : Int} (O : Hold W h0 m0 h m [rM (monoV0 tell_bool) (fun n : Int => Value.int .i64 n) bk_3 es_3, rM (monoV0 tell_bool) (fun n : Int => Value.int .i64 n) bk_4 es_4, rV bk_6 88 cs_6]) (e_6 : T_api_Event.E m y_6 cs_6) (ne_12 : n_12 = List.length a_12) (k_12 : List.length a_12 ≤ c_12) (r_12 : Rd 3 T_api_Event.E m A_12 a_12) {r : Int} (e : clock_Check.j1 es_3 es_4 y_6 a_12 x_13 x_14 = some r) : f27.j1 (clock_Check.post W h0 m0 r) (Value.map (some bk_3)) (Value.map (some bk_4)) (⟨bk_6, 0, none⟩ : Addr) A_12 n_12 c_12 x_13 x_14 h := clock_Check.l0_k.all (p := .j1 es_3 es_4 y_6 a_12 x_13 x_14) e W h0 m0 h m bk_3 bk_4 bk_6 cs_6 A_12 n_12 c_12 O e_6 ne_12 k_12 r_12

noncomputable def clock_Check (a_0 : List T_api_Event) : Option (Int) :=
  if (((List.length a_0) : Nat) : Int) > (200 : Int) then (some ((2 : Int))) else ((clock_Check.l0 ([] : (List (Int × Bool))) ([] : (List (Int × Bool))) a_0 (((List.length a_0) : Nat) : Int) (0 : Int)))
set_option maxRecDepth 100000 in
theorem clock_Check.walk {W : Nat → Prop} {h m : Heap} {A_0 : Option Addr} {n_0 c_0 : Nat} {a_0 : List T_api_Event} (O : Hold W h m h m []) (ne_0 : n_0 = List.length a_0) (k_0 : List.length a_0 ≤ c_0) (r_0 : Rd 3 T_api_Event.E m A_0 a_0) {r : Int} (e : clock_Check a_0 = some r) : Run Try.prog 27 #[Value.slice A_0 n_0 c_0] h (clock_Check.post W h m r) := by
  unfold clock_Check at e
  subst ne_0
  refine f27.run ?_
  unfold f27.runT
  refine split_dec_e e (fun c10 e => ?_) (fun c10 e => ?_)
  · cases e
    exact ⟨_, O.pick [], rfl⟩
  · refine O.mkMap (ν := Bool) (monoV0 tell_bool) (fun n : Int => Value.int .i64 n) fun h1 x2 O3 => ?_
    refine O3.mkMap (ν := Bool) (monoV0 tell_bool) (fun n : Int => Value.int .i64 n) fun h5 x6 O7 => ?_
    have O9 := O7.nm
    exact clock_Check.l0.walk (O9.pick [0, 1]).nm rfl k_0 r_0 e

/-! ### 46 slices.Clone[[]int,int] -/
def slices_Clone_46.post (W : Nat → Prop) (h0 m0 : Heap) (r : (List Int)) (v : Value) (h : Heap) : Prop := ∃ m A0 n0 c0, Hold W h0 m0 h m [rR (aE (tell_int .i64)) A0 c0 r] ∧ v = .slice A0 n0 c0 ∧ n0 = List.length r
noncomputable def slices_Clone_46 (a0 : List Int) : Option (List Int) := ap 8 ([] : List Int) a0
set_option maxRecDepth 100000 in
theorem slices_Clone_46.walk {W : Nat → Prop} {h m : Heap} {A0 : Option Addr} {n0 c0 : Nat} {a0 : List Int} (O : Hold W h m h m []) (ne0 : n0 = List.length a0) (k0 : List.length a0 ≤ c0) (r0 : Rd 1 (eInt .i64) m A0 a0) {r : List Int} (e : slices_Clone_46 a0 = some r) : Run Try.prog 46 #[Value.slice A0 n0 c0] h (slices_Clone_46.post W h m r) := by
  unfold slices_Clone_46 at e
  subst ne0
  refine f46.run ?_
  unfold f46.runT
  cases A0 with
  | none =>
    refine split_t ?_
    obtain rfl := Rd.void r0
    obtain rfl : [] = r := by have := (ap_e e).2; simpa using this
    exact ⟨m, none, 0, 0, O.nil (aE (tell_int .i64)) none, rfl, rfl⟩
  | some a =>
    refine split_f ?_
    refine O.new fun h1 x1 O1 => ?_
    refine O1.appE0 (tell_int .i64) rfl rfl (r0.srcE (tell_int .i64) O1.s rfl) (by decide) e fun A4 c4 h4 x4 O4 => ?_
    refine ⟨_, _, _, rfl, ?_⟩
    exact ⟨m, _, _, _, O4.pick [1], rfl, rfl⟩
theorem slices_Clone_46.val (l : List Int) (h : l.length * 8 ≤ 140737488355328) : slices_Clone_46 l = some l := ap_nil h

/-! ### 103 roadstead/clock.at -/
def clock_at.post (W : Nat → Prop) (h0 m0 : Heap) (r : Int) (v : Value) (h : Heap) : Prop := ∃ m , Hold W h0 m0 h m [] ∧ v = .int .i64 r
noncomputable def clock_at (a_0 : List Int) (x_1 : Int) : Option (Int) :=
  if x_1 < (((List.length a_0) : Nat) : Int) then (Option.bind (gi a_0 x_1) fun y1 => some (y1)) else (some ((0 : Int)))
set_option maxRecDepth 100000 in
theorem clock_at.walk {W : Nat → Prop} {h m : Heap} {A_0 : Option Addr} {n_0 c_0 : Nat} {a_0 : List Int} {x_1 : Int} (O : Hold W h m h m []) (ne_0 : n_0 = List.length a_0) (k_0 : List.length a_0 ≤ c_0) (r_0 : Rd 1 (eInt .i64) m A_0 a_0) {r : Int} (e : clock_at a_0 x_1 = some r) : Run Try.prog 103 #[Value.slice A_0 n_0 c_0, Value.int .i64 x_1] h (clock_at.post W h m r) := by
  unfold clock_at at e
  subst ne_0
  refine f103.run ?_
  unfold f103.runT
  refine split_dec_e e (fun c8 e => ?_) (fun c8 e => ?_)
  · obtain ⟨y1, g2, e⟩ := bind_e e
    refine r_0.addr rfl g2 fun a3 cs4 ha5 hc6 he7 => ?_
    obtain rfl : cs4 = [(Value.int .i64 y1)] := he7
    refine ⟨_, ld0 O.s hc6 rfl, _, rfl, ?_⟩
    cases e
    exact ⟨_, O.pick [], rfl⟩
  · cases e
    exact ⟨_, O.pick [], rfl⟩

/-! ### 77 roadstead/clock.Join -/
def clock_Join.post (W : Nat → Prop) (h0 m0 : Heap) (r : (List Int)) (v : Value) (h : Heap) : Prop := ∃ m A0 n0 c0, Hold W h0 m0 h m [rR (aE (tell_int .i64)) A0 c0 r] ∧ v = .slice A0 n0 c0 ∧ n0 = List.length r
inductive clock_Join.l0_k.Pt where
  | l0 (a_0 : List Int) (a_1 : List Int) (a_5 : List Int) (x_14 : Int) (x_15 : Int)
noncomputable def clock_Join.l0_k.body (go : (p : clock_Join.l0_k.Pt) → Option ((List Int))) : (p : clock_Join.l0_k.Pt) → Option ((List Int))
  | .l0 a_0 a_1 a_5 x_14 x_15 => if x_15 < x_14 then (Option.bind (clock_at a_0 x_15) fun y1 => Option.bind (clock_at a_1 x_15) fun y8 => Option.bind (gi a_5 x_15) fun y15 => Option.bind (some (List.set a_5 (Int.toNat x_15) (if y8 > y1 then y8 else y1))) fun l24 => (go (.l0 a_0 a_1 l24 x_14 (IntKind.wrap .i64 (x_15 + (1 : Int)))))) else (some (a_5))
theorem clock_Join.l0_k.mono : MonoF (β := fun _ => ((List Int))) clock_Join.l0_k.body := fun f g hfg p => match p with
  | .l0 a_0 a_1 a_5 x_14 x_15 => LeO.ite (LeO.bind (LeO.refl _) fun y1 => LeO.bind (LeO.refl _) fun y8 => LeO.bind (LeO.refl _) fun y15 => LeO.bind (LeO.refl _) fun l24 => (hfg _)) (LeO.refl _)
noncomputable def clock_Join.l0_k.go (p : clock_Join.l0_k.Pt) : Option ((List Int)) := fixF (β := fun _ => ((List Int))) clock_Join.l0_k.body p
noncomputable def clock_Join.l0 (a_0 : List Int) (a_1 : List Int) (a_5 : List Int) (x_14 : Int) (x_15 : Int) : Option ((List Int)) := clock_Join.l0_k.go (.l0 a_0 a_1 a_5 x_14 x_15)
theorem clock_Join.l0_eq (a_0 : List Int) (a_1 : List Int) (a_5 : List Int) (x_14 : Int) (x_15 : Int) : clock_Join.l0 a_0 a_1 a_5 x_14 x_15 = if x_15 < x_14 then (Option.bind (clock_at a_0 x_15) fun y1 => Option.bind (clock_at a_1 x_15) fun y8 => Option.bind (gi a_5 x_15) fun y15 => Option.bind (some (List.set a_5 (Int.toNat x_15) (if y8 > y1 then y8 else y1))) fun l24 => (clock_Join.l0 a_0 a_1 l24 x_14 (IntKind.wrap .i64 (x_15 + (1 : Int))))) else (some (a_5)) := fixF_eq clock_Join.l0_k.mono _
def clock_Join.l0_k.I : (p : clock_Join.l0_k.Pt) → ((List Int)) → Prop
  | .l0 a_0 a_1 a_5 x_14 x_15, r => ∀ (W : Nat → Prop) (h0 m0 h m : Heap) (A_0 : Option Addr) (n_0 c_0 : Nat) (A_1 : Option Addr) (n_1 c_1 : Nat) (A_5 : Option Addr) (n_5 c_5 : Nat) (O : Hold W h0 m0 h m [rR (aE (tell_int .i64)) A_5 c_5 a_5]) (ne_0 : n_0 = List.length a_0) (k_0 : List.length a_0 ≤ c_0) (r_0 : Rd 1 (eInt .i64) m A_0 a_0) (ne_1 : n_1 = List.length a_1) (k_1 : List.length a_1 ≤ c_1) (r_1 : Rd 1 (eInt .i64) m A_1 a_1) (ne_5 : n_5 = List.length a_5), f77.l0 (clock_Join.post W h0 m0 r) A_0 n_0 c_0 A_1 n_1 c_1 A_5 n_5 c_5 x_14 x_15 h
set_option maxRecDepth 100000 in
theorem clock_Join.l0_k.step_l0 (go : (p : clock_Join.l0_k.Pt) → Option ((List Int))) (ih : ∀ p r, go p = some r → clock_Join.l0_k.I p r) (a_0 : List Int) (a_1 : List Int) (a_5 : List Int) (x_14 : Int) (x_15 : Int) (r : (List Int)) (e : clock_Join.l0_k.body go (.l0 a_0 a_1 a_5 x_14 x_15) = some r) : clock_Join.l0_k.I (.l0 a_0 a_1 a_5 x_14 x_15) r := by
  unfold clock_Join.l0_k.body at e
  intro W h0 m0 h m A_0 n_0 c_0 A_1 n_1 c_1 A_5 n_5 c_5 O ne_0 k_0 r_0 ne_1 k_1 r_1 ne_5
  subst ne_0
  subst ne_1
  subst ne_5
  refine f77.l0_in ?_
  unfold f77.l0T
  refine split_dec_e e (fun c27 e => ?_) (fun c27 e => ?_)
  · obtain ⟨y1, g2, e⟩ := bind_e e
    refine (clock_at.walk (Hold.start (W := No) O.s) rfl k_0 r_0 g2).mono ?_
    rintro _ h3 ⟨m4, Q5, rfl⟩
    have O7 := Hold.nm (O.retC Q5 vfs_nil)
    refine ⟨_, rfl, ?_⟩
    obtain ⟨y8, g9, e⟩ := bind_e e
    refine (clock_at.walk (Hold.start (W := No) O7.s) rfl k_1 r_1 g9).mono ?_
    rintro _ h10 ⟨m11, Q12, rfl⟩
    have O14 := Hold.nm (O7.retC Q12 vfs_nil)
    refine ⟨_, rfl, ?_⟩
    obtain ⟨y15, g16, e⟩ := bind_e e
    refine (O14.os 0 rfl).addr rfl g16 fun a17 cs18 ha19 hc20 he21 => ?_
    obtain rfl : cs18 = [(Value.int .i64 y15)] := he21
    obtain ⟨l24, g25, e⟩ := bind_e e
    replace g25 := Option.some.inj g25
    refine O14.elst0 0 rfl g16 ha19 hc20 (by decide) (y' := (if y8 > y1 then y8 else y1)) rfl trivial g25 fun h22 O23 => ?_
    have O26 := O23.nm
    exact (ih _ _ e) _ _ _ _ _ _ _ _ _ _ _ _ _ _ (O26.pick [0]).nm rfl k_0 r_0 rfl k_1 r_1 (lset' g25)
  · cases e
    exact ⟨_, _, _, _, O.pick [0], rfl, rfl⟩
theorem clock_Join.l0_k.all {p : clock_Join.l0_k.Pt} {r : ((List Int))} (e : clock_Join.l0_k.go p = some r) : clock_Join.l0_k.I p r := fixF_ind (β := fun _ => ((List Int))) clock_Join.l0_k.mono (I := clock_Join.l0_k.I) (fun go ih p r e => match p with
  | .l0 a_0 a_1 a_5 x_14 x_15 => clock_Join.l0_k.step_l0 go ih a_0 a_1 a_5 x_14 x_15 r e
  ) e
theorem clock_Join.l0.walk {W : Nat → Prop} {h0 m0 h m : Heap} {A_0 : Option Addr} {n_0 c_0 : Nat} {A_1 : Option Addr} {n_1 c_1 : Nat} {A_5 : Option Addr} {n_5 c_5 : Nat} {a_0 : List Int} {a_1 : List Int} {a_5 : List Int} {x_14 : Int} {x_15 : Int} (O : Hold W h0 m0 h m [rR (aE (tell_int .i64)) A_5 c_5 a_5]) (ne_0 : n_0 = List.length a_0) (k_0 : List.length a_0 ≤ c_0) (r_0 : Rd 1 (eInt .i64) m A_0 a_0) (ne_1 : n_1 = List.length a_1) (k_1 : List.length a_1 ≤ c_1) (r_1 : Rd 1 (eInt .i64) m A_1 a_1) (ne_5 : n_5 = List.length a_5) {r : (List Int)} (e : clock_Join.l0 a_0 a_1 a_5 x_14 x_15 = some r) : f77.l0 (clock_Join.post W h0 m0 r) A_0 n_0 c_0 A_1 n_1 c_1 A_5 n_5 c_5 x_14 x_15 h := clock_Join.l0_k.all (p := .l0 a_0 a_1 a_5 x_14 x_15) e W h0 m0 h m A_0 n_0 c_0 A_1 n_1 c_1 A_5 n_5 c_5 O ne_0 k_0 r_0 ne_1 k_1 r_1 ne_5

noncomputable def clock_Join (a_0 : List Int) (a_1 : List Int) : Option ((List Int)) :=
  Option.bind (mks 8 (if (((List.length a_1) : Nat) : Int) > (((List.length a_0) : Nat) : Int) then (((List.length a_1) : Nat) : Int) else (((List.length a_0) : Nat) : Int)) (0 : Int)) fun l1 => (clock_Join.l0 a_0 a_1 l1 (((List.length l1) : Nat) : Int) (0 : Int))
set_option maxRecDepth 100000 in
theorem clock_Join.walk {W : Nat → Prop} {h m : Heap} {A_0 : Option Addr} {n_0 c_0 : Nat} {A_1 : Option Addr} {n_1 c_1 : Nat} {a_0 : List Int} {a_1 : List Int} (O : Hold W h m h m []) (ne_0 : n_0 = List.length a_0) (k_0 : List.length a_0 ≤ c_0) (r_0 : Rd 1 (eInt .i64) m A_0 a_0) (ne_1 : n_1 = List.length a_1) (k_1 : List.length a_1 ≤ c_1) (r_1 : Rd 1 (eInt .i64) m A_1 a_1) {r : (List Int)} (e : clock_Join a_0 a_1 = some r) : Run Try.prog 77 #[Value.slice A_0 n_0 c_0, Value.slice A_1 n_1 c_1] h (clock_Join.post W h m r) := by
  unfold clock_Join at e
  subst ne_0
  subst ne_1
  refine f77.run ?_
  unfold f77.runT
  obtain ⟨l1, g2, e⟩ := bind_e e
  have q3 := mks_e g2
  refine ⟨q3.1, Int.le_refl _, q3.2.1, q3.2.2.1, ?_⟩
  refine O.new fun h4 x5 O6 => ?_
  have O7 := O6.made 0 rfl (aE (tell_int .i64)) g2 ⟨rfl, rfl⟩
  try rw [q3.2.2.2.1]
  have O9 := O7.nm
  exact clock_Join.l0.walk (O9.pick [0]).nm rfl k_0 r_0 rfl k_1 r_1 rfl e

/-! ### 23 roadstead/clock.Clocks -/
def clock_Clocks.post (W : Nat → Prop) (h0 m0 : Heap) (r : (List (List Int)) × Int) (v : Value) (h : Heap) : Prop := ∃ m A0 n0 c0, Hold W h0 m0 h m [rR (aE (tell_row (tell_int .i64))) A0 c0 r.1] ∧ v = .tuple #[.slice A0 n0 c0, .int .i64 r.2] ∧ n0 = List.length r.1
inductive clock_Clocks.l1_k.Pt where
  | l1 (y_5 : (List (List Int))) (es_7 : (List (Int × (List Int)))) (a_8 : List (List Int)) (a_25 : List T_api_Event) (x_26 : Int) (x_27 : Int)
  | j0 (y_5 : (List (List Int))) (es_7 : (List (Int × (List Int)))) (a_8 : List (List Int)) (y_10 : T_api_Event) (a_11 : List Int) (a_25 : List T_api_Event) (x_26 : Int) (x_27 : Int)
  | j1 (y_5 : (List (List Int))) (es_7 : (List (Int × (List Int)))) (a_8 : List (List Int)) (a_11 : List Int) (a_25 : List T_api_Event) (x_26 : Int) (x_27 : Int)
noncomputable def clock_Clocks.l1_k.body (go : (p : clock_Clocks.l1_k.Pt) → Option ((List (List Int)) × Int)) : (p : clock_Clocks.l1_k.Pt) → Option ((List (List Int)) × Int)
  | .l1 y_5 es_7 a_8 a_25 x_26 x_27 => if x_27 < x_26 then (Option.bind (gi a_25 x_27) fun y1 => Option.bind (gi y_5 y1.Place) fun y14 => Option.bind (slices_Clone_46 y14) fun y24 => if y1.Kind = (3 : Int) then (Option.bind (clock_Join y24 (pgd es_7 y1.Msg ([] : (List Int)))) fun y43 => (go (.j0 y_5 es_7 a_8 y1 y43 a_25 x_26 x_27))) else ((go (.j0 y_5 es_7 a_8 y1 y24 a_25 x_26 x_27)))) else (some (a_8, (0 : Int)))
  | .j0 y_5 es_7 a_8 y_10 a_11 a_25 x_26 x_27 => Option.bind (gi a_11 y_10.Place) fun y1 => Option.bind (gi a_11 y_10.Place) fun y8 => Option.bind (some (List.set a_11 (Int.toNat y_10.Place) (IntKind.wrap .i64 (y1 + (1 : Int))))) fun l17 => Option.bind (gi y_5 y_10.Place) fun y19 => Option.bind (some (List.set y_5 (Int.toNat y_10.Place) l17)) fun l30 => if y_10.Kind = (2 : Int) then (Option.bind (some (pset es_7 y_10.Msg l17)) fun l34 => (go (.j1 l30 l34 a_8 l17 a_25 x_26 x_27))) else ((go (.j1 l30 es_7 a_8 l17 a_25 x_26 x_27)))
  | .j1 y_5 es_7 a_8 a_11 a_25 x_26 x_27 => Option.bind (slices_Clone_46 a_11) fun y1 => Option.bind (ap 24 a_8 ([y1] : List (List Int))) fun l17 => (go (.l1 y_5 es_7 l17 a_25 x_26 (IntKind.wrap .i64 (x_27 + (1 : Int)))))
theorem clock_Clocks.l1_k.mono : MonoF (β := fun _ => ((List (List Int)) × Int)) clock_Clocks.l1_k.body := fun f g hfg p => match p with
  | .l1 y_5 es_7 a_8 a_25 x_26 x_27 => LeO.ite (LeO.bind (LeO.refl _) fun y1 => LeO.bind (LeO.refl _) fun y14 => LeO.bind (LeO.refl _) fun y24 => LeO.ite (LeO.bind (LeO.refl _) fun y43 => (hfg _)) ((hfg _))) (LeO.refl _)
  | .j0 y_5 es_7 a_8 y_10 a_11 a_25 x_26 x_27 => LeO.bind (LeO.refl _) fun y1 => LeO.bind (LeO.refl _) fun y8 => LeO.bind (LeO.refl _) fun l17 => LeO.bind (LeO.refl _) fun y19 => LeO.bind (LeO.refl _) fun l30 => LeO.ite (LeO.bind (LeO.refl _) fun l34 => (hfg _)) ((hfg _))
  | .j1 y_5 es_7 a_8 a_11 a_25 x_26 x_27 => LeO.bind (LeO.refl _) fun y1 => LeO.bind (LeO.refl _) fun l17 => (hfg _)
noncomputable def clock_Clocks.l1_k.go (p : clock_Clocks.l1_k.Pt) : Option ((List (List Int)) × Int) := fixF (β := fun _ => ((List (List Int)) × Int)) clock_Clocks.l1_k.body p
noncomputable def clock_Clocks.l1 (y_5 : (List (List Int))) (es_7 : (List (Int × (List Int)))) (a_8 : List (List Int)) (a_25 : List T_api_Event) (x_26 : Int) (x_27 : Int) : Option ((List (List Int)) × Int) := clock_Clocks.l1_k.go (.l1 y_5 es_7 a_8 a_25 x_26 x_27)
noncomputable def clock_Clocks.j0 (y_5 : (List (List Int))) (es_7 : (List (Int × (List Int)))) (a_8 : List (List Int)) (y_10 : T_api_Event) (a_11 : List Int) (a_25 : List T_api_Event) (x_26 : Int) (x_27 : Int) : Option ((List (List Int)) × Int) := clock_Clocks.l1_k.go (.j0 y_5 es_7 a_8 y_10 a_11 a_25 x_26 x_27)
noncomputable def clock_Clocks.j1 (y_5 : (List (List Int))) (es_7 : (List (Int × (List Int)))) (a_8 : List (List Int)) (a_11 : List Int) (a_25 : List T_api_Event) (x_26 : Int) (x_27 : Int) : Option ((List (List Int)) × Int) := clock_Clocks.l1_k.go (.j1 y_5 es_7 a_8 a_11 a_25 x_26 x_27)
theorem clock_Clocks.l1_eq (y_5 : (List (List Int))) (es_7 : (List (Int × (List Int)))) (a_8 : List (List Int)) (a_25 : List T_api_Event) (x_26 : Int) (x_27 : Int) : clock_Clocks.l1 y_5 es_7 a_8 a_25 x_26 x_27 = if x_27 < x_26 then (Option.bind (gi a_25 x_27) fun y1 => Option.bind (gi y_5 y1.Place) fun y14 => Option.bind (slices_Clone_46 y14) fun y24 => if y1.Kind = (3 : Int) then (Option.bind (clock_Join y24 (pgd es_7 y1.Msg ([] : (List Int)))) fun y43 => (clock_Clocks.j0 y_5 es_7 a_8 y1 y43 a_25 x_26 x_27)) else ((clock_Clocks.j0 y_5 es_7 a_8 y1 y24 a_25 x_26 x_27))) else (some (a_8, (0 : Int))) := fixF_eq clock_Clocks.l1_k.mono _
theorem clock_Clocks.j0_eq (y_5 : (List (List Int))) (es_7 : (List (Int × (List Int)))) (a_8 : List (List Int)) (y_10 : T_api_Event) (a_11 : List Int) (a_25 : List T_api_Event) (x_26 : Int) (x_27 : Int) : clock_Clocks.j0 y_5 es_7 a_8 y_10 a_11 a_25 x_26 x_27 = Option.bind (gi a_11 y_10.Place) fun y1 => Option.bind (gi a_11 y_10.Place) fun y8 => Option.bind (some (List.set a_11 (Int.toNat y_10.Place) (IntKind.wrap .i64 (y1 + (1 : Int))))) fun l17 => Option.bind (gi y_5 y_10.Place) fun y19 => Option.bind (some (List.set y_5 (Int.toNat y_10.Place) l17)) fun l30 => if y_10.Kind = (2 : Int) then (Option.bind (some (pset es_7 y_10.Msg l17)) fun l34 => (clock_Clocks.j1 l30 l34 a_8 l17 a_25 x_26 x_27)) else ((clock_Clocks.j1 l30 es_7 a_8 l17 a_25 x_26 x_27)) := fixF_eq clock_Clocks.l1_k.mono _
theorem clock_Clocks.j1_eq (y_5 : (List (List Int))) (es_7 : (List (Int × (List Int)))) (a_8 : List (List Int)) (a_11 : List Int) (a_25 : List T_api_Event) (x_26 : Int) (x_27 : Int) : clock_Clocks.j1 y_5 es_7 a_8 a_11 a_25 x_26 x_27 = Option.bind (slices_Clone_46 a_11) fun y1 => Option.bind (ap 24 a_8 ([y1] : List (List Int))) fun l17 => (clock_Clocks.l1 y_5 es_7 l17 a_25 x_26 (IntKind.wrap .i64 (x_27 + (1 : Int)))) := fixF_eq clock_Clocks.l1_k.mono _
def clock_Clocks.l1_k.I : (p : clock_Clocks.l1_k.Pt) → ((List (List Int)) × Int) → Prop
  | .l1 y_5 es_7 a_8 a_25 x_26 x_27, r => ∀ (W : Nat → Prop) (h0 m0 h m : Heap) (bk_5 : Nat) (cs_5 : List Value) (bk_7 : Nat) (A_8 : Option Addr) (n_8 c_8 : Nat) (A_25 : Option Addr) (n_25 c_25 : Nat) (O : Hold W h0 m0 h m [rV bk_5 146 cs_5, rM (monoV0 (tell_row (tell_int .i64))) (fun n : Int => Value.int .i64 n) bk_7 es_7, rR (aE (tell_row (tell_int .i64))) A_8 c_8 a_8]) (e_5 : (eArrE 8 1 (eRow 1 (eInt .i64))) m y_5 cs_5) (ne_8 : n_8 = List.length a_8) (ne_25 : n_25 = List.length a_25) (k_25 : List.length a_25 ≤ c_25) (r_25 : Rd 3 T_api_Event.E m A_25 a_25), f23.l1 (clock_Clocks.post W h0 m0 r) (⟨bk_5, 0, none⟩ : Addr) (Value.map (some bk_7)) A_8 n_8 c_8 A_25 n_25 c_25 x_26 x_27 h
  | .j0 y_5 es_7 a_8 y_10 a_11 a_25 x_26 x_27, r => ∀ (W : Nat → Prop) (h0 m0 h m : Heap) (bk_5 : Nat) (cs_5 : List Value) (bk_7 : Nat) (A_8 : Option Addr) (n_8 c_8 : Nat) (bk_10 : Nat) (cs_10 : List Value) (A_11 : Option Addr) (n_11 c_11 : Nat) (A_25 : Option Addr) (n_25 c_25 : Nat) (O : Hold W h0 m0 h m [rV bk_5 146 cs_5, rM (monoV0 (tell_row (tell_int .i64))) (fun n : Int => Value.int .i64 n) bk_7 es_7, rR (aE (tell_row (tell_int .i64))) A_8 c_8 a_8, rV bk_10 88 cs_10, rR (aE (tell_int .i64)) A_11 c_11 a_11]) (e_5 : (eArrE 8 1 (eRow 1 (eInt .i64))) m y_5 cs_5) (ne_8 : n_8 = List.length a_8) (e_10 : T_api_Event.E m y_10 cs_10) (ne_11 : n_11 = List.length a_11) (ne_25 : n_25 = List.length a_25) (k_25 : List.length a_25 ≤ c_25) (r_25 : Rd 3 T_api_Event.E m A_25 a_25), f23.j0 (clock_Clocks.post W h0 m0 r) (⟨bk_5, 0, none⟩ : Addr) (Value.map (some bk_7)) A_8 n_8 c_8 (⟨bk_10, 0, none⟩ : Addr) A_11 n_11 c_11 A_25 n_25 c_25 x_26 x_27 h
  | .j1 y_5 es_7 a_8 a_11 a_25 x_26 x_27, r => ∀ (W : Nat → Prop) (h0 m0 h m : Heap) (bk_5 : Nat) (cs_5 : List Value) (bk_7 : Nat) (A_8 : Option Addr) (n_8 c_8 : Nat) (A_11 : Option Addr) (n_11 c_11 : Nat) (A_25 : Option Addr) (n_25 c_25 : Nat) (O : Hold W h0 m0 h m [rV bk_5 146 cs_5, rM (monoV0 (tell_row (tell_int .i64))) (fun n : Int => Value.int .i64 n) bk_7 es_7, rR (aE (tell_row (tell_int .i64))) A_8 c_8 a_8]) (e_5 : (eArrE 8 1 (eRow 1 (eInt .i64))) m y_5 cs_5) (ne_8 : n_8 = List.length a_8) (ne_11 : n_11 = List.length a_11) (k_11 : List.length a_11 ≤ c_11) (r_11 : Rd 1 (eInt .i64) m A_11 a_11) (ne_25 : n_25 = List.length a_25) (k_25 : List.length a_25 ≤ c_25) (r_25 : Rd 3 T_api_Event.E m A_25 a_25), f23.j1 (clock_Clocks.post W h0 m0 r) (⟨bk_5, 0, none⟩ : Addr) (Value.map (some bk_7)) A_8 n_8 c_8 A_11 n_11 c_11 A_25 n_25 c_25 x_26 x_27 h
set_option maxHeartbeats 4000000 in
set_option maxRecDepth 100000 in
theorem clock_Clocks.l1_k.step_l1 (go : (p : clock_Clocks.l1_k.Pt) → Option ((List (List Int)) × Int)) (ih : ∀ p r, go p = some r → clock_Clocks.l1_k.I p r) (y_5 : (List (List Int))) (es_7 : (List (Int × (List Int)))) (a_8 : List (List Int)) (a_25 : List T_api_Event) (x_26 : Int) (x_27 : Int) (r : (List (List Int)) × Int) (e : clock_Clocks.l1_k.body go (.l1 y_5 es_7 a_8 a_25 x_26 x_27) = some r) : clock_Clocks.l1_k.I (.l1 y_5 es_7 a_8 a_25 x_26 x_27) r := by
  unfold clock_Clocks.l1_k.body at e
  intro W h0 m0 h m bk_5 cs_5 bk_7 A_8 n_8 c_8 A_25 n_25 c_25 O e_5 ne_8 ne_25 k_25 r_25
  subst ne_8
  subst ne_25
  refine f23.l1_in ?_
  unfold f23.l1T
  refine split_dec_e e (fun c63 e => ?_) (fun c63 e => ?_)
  · obtain ⟨y1, g2, e⟩ := bind_e e
    refine r_25.addr rfl g2 fun a3 cs4 ha5 hc6 he7 => ?_
    refine ⟨_, ldAn O.s hc6 rfl, ?_⟩
    refine O.new fun h8 x9 O10 => ?_
    refine ⟨_, rfl, (T_api_Event.T.len _ _ _ he7), ?_⟩
    refine O10.stA 3 rfl (T_api_Event.T.len _ _ _ he7) (T_api_Event.T.flat _ _ _ he7) fun h12 O13 => ?_
    refine ⟨_, ld0 (Sub.refl _) (O13.all 3 rfl) (T_api_Event.g0 he7), _, rfl, ?_⟩
    obtain ⟨y14, g15, e⟩ := bind_e e
    refine ⟨gi_le g15, eArrE.ltn e_5 g15, ?_⟩
    obtain ⟨v16, q17, he18⟩ := eArrE.get1 e_5 g15
    obtain ⟨A19, c20, q21, k22, r23⟩ := he18
    obtain rfl := (List.cons.inj q21).1
    refine ⟨_, ldk (k := Int.toNat y1.Place * 1) (Sub.refl _) (O13.all 0 rfl) q17, _, _, _, rfl, ?_⟩
    obtain ⟨y24, g25, e⟩ := bind_e e
    refine (slices_Clone_46.walk (Hold.start (W := No) O13.s) rfl k22 r23 g25).mono ?_
    rintro _ h26 ⟨m27, A30, n31, c32, Q28, rfl, ne33⟩
    have O35 := Hold.nm (O13.retC Q28 (vfs_cons (rR_vf (aE_vf (fun _ _ _ _ h => h))) vfs_nil))
    subst ne33
    refine ⟨_, _, _, rfl, ?_⟩
    refine ⟨_, ldk (k := 1) (Sub.refl _) (O35.all 3 rfl) (T_api_Event.g1 he7), _, rfl, ?_⟩
    refine split_eq_e e (fun c62 e => ?_) (fun c62 e => ?_)
    · refine ⟨_, ldk (k := 2) (Sub.refl _) (O35.all 3 rfl) (T_api_Event.g2 he7), _, rfl, ?_⟩
      refine (O35.om 1 rfl).look (zv := ([] : (List Int))) (z := (Value.slice none 0 0)) (keyOk_int (key := 3) (elem := 37) (by kernel_rfl) (by kernel_rfl)) y1.Msg (by kernel_rfl) ⟨_, _, rfl, (Nat.le_refl 0), Rd.nil⟩ (fun v36 hv37 => ?_)
      obtain ⟨A38, c39, q42, k40, r41⟩ := hv37
      obtain rfl := (List.cons.inj q42).1
      refine ⟨_, _, _, rfl, ?_⟩
      obtain ⟨y43, g44, e⟩ := bind_e e
      obtain ⟨m49, u50, s55, ⟨⟨r53, k54⟩, _⟩, B51, C52⟩ := O35.lend0 [4]
      replace r53 : Rd 1 (eInt .i64) m49 A30 y24 := r53
      replace k54 : List.length y24 ≤ c32 := k54
      refine (clock_Join.walk (Hold.start (W := No) s55) rfl k54 r53 rfl k40 (r41.sub (tell_int .i64) u50) g44).mono ?_
      rintro _ h45 ⟨m46, A56, n57, c58, Q47, rfl, ne59⟩
      have O61 := Hold.nm (C52 Q47 (vfs_cons (rR_vf (aE_vf (fun _ _ _ _ h => h))) vfs_nil))
      subst ne59
      refine ⟨_, _, _, rfl, ?_⟩
      exact (ih _ _ e) _ _ _ _ _ _ _ _ _ _ _ _ _ _ _ _ _ _ _ (O61.pick [0, 1, 2, 3, 5]).nm e_5 rfl he7 rfl rfl k_25 r_25
    · exact (ih _ _ e) _ _ _ _ _ _ _ _ _ _ _ _ _ _ _ _ _ _ _ (O35.pick [0, 1, 2, 3, 4]).nm e_5 rfl he7 rfl rfl k_25 r_25
  · cases e
    exact ⟨_, _, _, _, O.pick [2], rfl, rfl⟩
set_option maxRecDepth 100000 in
theorem clock_Clocks.l1_k.step_j0 (go : (p : clock_Clocks.l1_k.Pt) → Option ((List (List Int)) × Int)) (ih : ∀ p r, go p = some r → clock_Clocks.l1_k.I p r) (y_5 : (List (List Int))) (es_7 : (List (Int × (List Int)))) (a_8 : List (List Int)) (y_10 : T_api_Event) (a_11 : List Int) (a_25 : List T_api_Event) (x_26 : Int) (x_27 : Int) (r : (List (List Int)) × Int) (e : clock_Clocks.l1_k.body go (.j0 y_5 es_7 a_8 y_10 a_11 a_25 x_26 x_27) = some r) : clock_Clocks.l1_k.I (.j0 y_5 es_7 a_8 y_10 a_11 a_25 x_26 x_27) r := by
  unfold clock_Clocks.l1_k.body at e
  intro W h0 m0 h m bk_5 cs_5 bk_7 A_8 n_8 c_8 bk_10 cs_10 A_11 n_11 c_11 A_25 n_25 c_25 O e_5 ne_8 e_10 ne_11 ne_25 k_25 r_25
  subst ne_8
  subst ne_11
  subst ne_25
  refine f23.j0_in ?_
  unfold f23.j0T
  refine ⟨_, ld0 (Sub.refl _) (O.all 3 rfl) (T_api_Event.g0 e_10), _, rfl, ?_⟩
  obtain ⟨y1, g2, e⟩ := bind_e e
  refine (O.os 4 rfl).addr rfl g2 fun a3 cs4 ha5 hc6 he7 => ?_
  obtain rfl : cs4 = [(Value.int .i64 y1)] := he7
  refine ⟨_, ld0 (Sub.refl _) hc6 rfl, _, rfl, ?_⟩
  obtain ⟨y8, g9, e⟩ := bind_e e
  refine (O.os 4 rfl).addr rfl g9 fun a10 cs11 ha12 hc13 he14 => ?_
  obtain rfl : cs11 = [(Value.int .i64 y8)] := he14
  obtain ⟨l17, g18, e⟩ := bind_e e
  replace g18 := Option.some.inj g18
  refine O.elst0 4 rfl g9 ha12 hc13 (by decide) (y' := (IntKind.wrap .i64 (y1 + (1 : Int)))) rfl trivial g18 fun h15 O16 => ?_
  refine ⟨_, ld0 (Sub.refl _) (O16.all 3 rfl) (T_api_Event.g0 e_10), _, rfl, ?_⟩
  obtain ⟨y19, g20, e⟩ := bind_e e
  refine ⟨gi_le g20, eArrE.ltn e_5 g20, ?_⟩
  obtain ⟨l30, g31, e⟩ := bind_e e
  obtain ⟨m21, u22, ⟨r23, k24⟩, O25⟩ := O16.frz 4 rfl
  replace r23 : Rd 1 (eInt .i64) m21 A_11 l17 := r23
  replace g31 := Option.some.inj g31
  refine O25.stE 0 rfl (Int.toNat y_10.Place * 1) (eArrE.lt ((tell_arrE 8 (tell_row (tell_int .i64))).mono _ _ _ _ u22 e_5) g20) trivial (eArrE.set1 ((tell_arrE 8 (tell_row (tell_int .i64))).mono _ _ _ _ u22 e_5) g20 (show (eRow 1 (eInt .i64)) _ l17 [(Value.slice A_11 (List.length a_11) c_11)] from ⟨_, _, by rw [(lset' g18)], k24, r23⟩) g31) fun h26 cs28 e29 O27 => ?_
  refine ⟨_, ldk (k := 1) (Sub.refl _) (O27.all 3 rfl) (T_api_Event.g1 e_10), _, rfl, ?_⟩
  refine split_eq_e e (fun c38 e => ?_) (fun c38 e => ?_)
  · refine ⟨_, ldk (k := 2) (Sub.refl _) (O27.all 3 rfl) (T_api_Event.g2 e_10), _, rfl, ?_⟩
    obtain ⟨l34, g35, e⟩ := bind_e e
    replace g35 := Option.some.inj g35
    refine O27.mapUpd (x := l17) (v := (Value.slice A_11 (List.length a_11) c_11)) 1 rfl (keyOk_int (key := 3) (elem := 37) (by kernel_rfl) (by kernel_rfl)) y_10.Msg (show (eV0 (eRow 1 (eInt .i64))) m21 l17 (Value.slice A_11 (List.length a_11) c_11) from ⟨_, _, by rw [(lset' g18)], k24, r23⟩) g35 fun h32 O33 => ?_
    have O36 := O33.nm
    exact (ih _ _ e) _ _ _ _ _ _ _ _ _ _ _ _ _ _ _ _ _ (O36.pick [0, 1, 2]).nm e29 rfl (lset' g18) k24 r23 rfl k_25 (r_25.sub T_api_Event.T u22)
  · have O37 := O27.nm
    exact (ih _ _ e) _ _ _ _ _ _ _ _ _ _ _ _ _ _ _ _ _ (O37.pick [0, 1, 2]).nm e29 rfl (lset' g18) k24 r23 rfl k_25 (r_25.sub T_api_Event.T u22)
set_option maxRecDepth 100000 in
theorem clock_Clocks.l1_k.step_j1 (go : (p : clock_Clocks.l1_k.Pt) → Option ((List (List Int)) × Int)) (ih : ∀ p r, go p = some r → clock_Clocks.l1_k.I p r) (y_5 : (List (List Int))) (es_7 : (List (Int × (List Int)))) (a_8 : List (List Int)) (a_11 : List Int) (a_25 : List T_api_Event) (x_26 : Int) (x_27 : Int) (r : (List (List Int)) × Int) (e : clock_Clocks.l1_k.body go (.j1 y_5 es_7 a_8 a_11 a_25 x_26 x_27) = some r) : clock_Clocks.l1_k.I (.j1 y_5 es_7 a_8 a_11 a_25 x_26 x_27) r := by
  unfold clock_Clocks.l1_k.body at e
  intro W h0 m0 h m bk_5 cs_5 bk_7 A_8 n_8 c_8 A_11 n_11 c_11 A_25 n_25 c_25 O e_5 ne_8 ne_11 k_11 r_11 ne_25 k_25 r_25
  subst ne_8
  subst ne_11
  subst ne_25
  refine f23.j1_in ?_
  unfold f23.j1T
  obtain ⟨y1, g2, e⟩ := bind_e e
  refine (slices_Clone_46.walk (Hold.start (W := No) O.s) rfl k_11 r_11 g2).mono ?_
  rintro _ h3 ⟨m4, A7, n8, c9, Q5, rfl, ne10⟩
  have O12 := Hold.nm (O.retC Q5 (vfs_cons (rR_vf (aE_vf (fun _ _ _ _ h => h))) vfs_nil))
  subst ne10
  refine ⟨_, _, _, rfl, ?_⟩
  refine O12.new fun h13 x14 O15 => ?_
  obtain ⟨l17, g18, e⟩ := bind_e e
  obtain ⟨m25, u26, ⟨r27, k28⟩, O29⟩ := O15.frz 3 rfl
  replace r27 : Rd 1 (eInt .i64) m25 A7 y1 := r27
  have O30 := O29.rowE (l := ([y1] : List (List Int))) 4 rfl (tell_row (tell_int .i64)) (show CsE _ _ _ _ _ from (CsE.cons (c1 := [(Value.slice A7 (List.length y1) c9)]) ⟨_, _, rfl, k28, r27⟩ rfl CsE.nil)) rfl
  refine O30.app 2 rfl rfl rfl ((O30.os 4 rfl).srcE rfl) (by decide) g18 fun A19 c20 h21 O22 => ?_
  refine ⟨_, _, _, rfl, ?_⟩
  have O31 := O22.nm
  exact (ih _ _ e) _ _ _ _ _ _ _ _ _ _ _ _ _ _ (O31.pick [0, 1, 2]).nm ((tell_arrE 8 (tell_row (tell_int .i64))).mono _ _ _ _ u26 e_5) rfl rfl k_25 (r_25.sub T_api_Event.T u26)
theorem clock_Clocks.l1_k.all {p : clock_Clocks.l1_k.Pt} {r : ((List (List Int)) × Int)} (e : clock_Clocks.l1_k.go p = some r) : clock_Clocks.l1_k.I p r := fixF_ind (β := fun _ => ((List (List Int)) × Int)) clock_Clocks.l1_k.mono (I := clock_Clocks.l1_k.I) (fun go ih p r e => match p with
  | .l1 y_5 es_7 a_8 a_25 x_26 x_27 => clock_Clocks.l1_k.step_l1 go ih y_5 es_7 a_8 a_25 x_26 x_27 r e
  | .j0 y_5 es_7 a_8 y_10 a_11 a_25 x_26 x_27 => clock_Clocks.l1_k.step_j0 go ih y_5 es_7 a_8 y_10 a_11 a_25 x_26 x_27 r e
  | .j1 y_5 es_7 a_8 a_11 a_25 x_26 x_27 => clock_Clocks.l1_k.step_j1 go ih y_5 es_7 a_8 a_11 a_25 x_26 x_27 r e
  ) e
theorem clock_Clocks.l1.walk {W : Nat → Prop} {h0 m0 h m : Heap} {bk_5 : Nat} {cs_5 : List Value} {bk_7 : Nat} {A_8 : Option Addr} {n_8 c_8 : Nat} {A_25 : Option Addr} {n_25 c_25 : Nat} {y_5 : (List (List Int))} {es_7 : (List (Int × (List Int)))} {a_8 : List (List Int)} {a_25 : List T_api_Event} {x_26 : Int} {x_27 : Int} (O : Hold W h0 m0 h m [rV bk_5 146 cs_5, rM (monoV0 (tell_row (tell_int .i64))) (fun n : Int => Value.int .i64 n) bk_7 es_7, rR (aE (tell_row (tell_int .i64))) A_8 c_8 a_8]) (e_5 : (eArrE 8 1 (eRow 1 (eInt .i64))) m y_5 cs_5) (ne_8 : n_8 = List.length a_8) (ne_25 : n_25 = List.length a_25) (k_25 : List.length a_25 ≤ c_25) (r_25 : Rd 3 T_api_Event.E m A_25 a_25) {r : (List (List Int)) × Int} (e : clock_Clocks.l1 y_5 es_7 a_8 a_25 x_26 x_27 = some r) : f23.l1 (clock_Clocks.post W h0 m0 r) (⟨bk_5, 0, none⟩ : Addr) (Value.map (some bk_7)) A_8 n_8 c_8 A_25 n_25 c_25 x_26 x_27 h := clock_Clocks.l1_k.all (p := .l1 y_5 es_7 a_8 a_25 x_26 x_27) e W h0 m0 h m bk_5 cs_5 bk_7 A_8 n_8 c_8 A_25 n_25 c_25 O e_5 ne_8 ne_25 k_25 r_25
theorem clock_Clocks.j0.walk {W : Nat → Prop} {h0 m0 h m : Heap} {bk_5 : Nat} {cs_5 : List Value} {bk_7 : Nat} {A_8 : Option Addr} {n_8 c_8 : Nat} {bk_10 : Nat} {cs_10 : List Value} {A_11 : Option Addr} {n_11 c_11 : Nat} {A_25 : Option Addr} {n_25 c_25 : Nat} {y_5 : (List (List Int))} {es_7 : (List (Int × (List Int)))} {a_8 : List (List Int)} {y_10 : T_api_Event} {a_11 : List Int} {a_25 : List T_api_Event} {x_26 : Int} {x_27 : Int} (O : Hold W h0 m0 h m [rV bk_5 146 cs_5, rM (monoV0 (tell_row (tell_int .i64))) (fun n : Int => Value.int .i64 n) bk_7 es_7, rR (aE (tell_row (tell_int .i64))) A_8 c_8 a_8, rV bk_10 88 cs_10, rR (aE (tell_int .i64)) A_11 c_11 a_11]) (e_5 : (eArrE 8 1 (eRow 1 (eInt .i64))) m y_5 cs_5) (ne_8 : n_8 = List.length a_8) (e_10 : T_api_Event.E m y_10 cs_10) (ne_11 : n_11 = List.length a_11) (ne_25 : n_25 = List.length a_25) (k_25 : List.length a_25 ≤ c_25) (r_25 : Rd 3 T_api_Event.E m A_25 a_25) {r : (List (List Int)) × Int} (e : clock_Clocks.j0 y_5 es_7 a_8 y_10 a_11 a_25 x_26 x_27 = some r) : f23.j0 (clock_Clocks.post W h0 m0 r) (⟨bk_5, 0, none⟩ : Addr) (Value.map (some bk_7)) A_8 n_8 c_8 (⟨bk_10, 0, none⟩ : Addr) A_11 n_11 c_11 A_25 n_25 c_25 x_26 x_27 h := clock_Clocks.l1_k.all (p := .j0 y_5 es_7 a_8 y_10 a_11 a_25 x_26 x_27) e W h0 m0 h m bk_5 cs_5 bk_7 A_8 n_8 c_8 bk_10 cs_10 A_11 n_11 c_11 A_25 n_25 c_25 O e_5 ne_8 e_10 ne_11 ne_25 k_25 r_25
theorem clock_Clocks.j1.walk {W : Nat → Prop} {h0 m0 h m : Heap} {bk_5 : Nat} {cs_5 : List Value} {bk_7 : Nat} {A_8 : Option Addr} {n_8 c_8 : Nat} {A_11 : Option Addr} {n_11 c_11 : Nat} {A_25 : Option Addr} {n_25 c_25 : Nat} {y_5 : (List (List Int))} {es_7 : (List (Int × (List Int)))} {a_8 : List (List Int)} {a_11 : List Int} {a_25 : List T_api_Event} {x_26 : Int} {x_27 : Int} (O : Hold W h0 m0 h m [rV bk_5 146 cs_5, rM (monoV0 (tell_row (tell_int .i64))) (fun n : Int => Value.int .i64 n) bk_7 es_7, rR (aE (tell_row (tell_int .i64))) A_8 c_8 a_8]) (e_5 : (eArrE 8 1 (eRow 1 (eInt .i64))) m y_5 cs_5) (ne_8 : n_8 = List.length a_8) (ne_11 : n_11 = List.length a_11) (k_11 : List.length a_11 ≤ c_11) (r_11 : Rd 1 (eInt .i64) m A_11 a_11) (ne_25 : n_25 = List.length a_25) (k_25 : List.length a_25 ≤ c_25) (r_25 : Rd 3 T_api_Event.E m A_25 a_25) {r : (List (List Int)) × Int} (e : clock_Clocks.j1 y_5 es_7 a_8 a_11 a_25 x_26 x_27 = some r) : f23.j1 (clock_Clocks.post W h0 m0 r) (⟨bk_5, 0, none⟩ : Addr) (Value.map (some bk_7)) A_8 n_8 c_8 A_11 n_11 c_11 A_25 n_25 c_25 x_26 x_27 h := clock_Clocks.l1_k.all (p := .j1 y_5 es_7 a_8 a_11 a_25 x_26 x_27) e W h0 m0 h m bk_5 cs_5 bk_7 A_8 n_8 c_8 A_11 n_11 c_11 A_25 n_25 c_25 O e_5 ne_8 ne_11 k_11 r_11 ne_25 k_25 r_25

inductive clock_Clocks.l0_k.Pt where
  | l0 (a_0 : List T_api_Event) (y_5 : (List (List Int))) (x_17 : Int)
noncomputable def clock_Clocks.l0_k.body (go : (p : clock_Clocks.l0_k.Pt) → Option ((List (List Int)) × Int)) : (p : clock_Clocks.l0_k.Pt) → Option ((List (List Int)) × Int)
  | .l0 a_0 y_5 x_17 => if x_17 < (8 : Int) then (Option.bind (mks 8 (8 : Int) (0 : Int)) fun l1 => Option.bind (gi y_5 x_17) fun y9 => Option.bind (some (List.set y_5 (Int.toNat x_17) l1)) fun l20 => (go (.l0 a_0 l20 (IntKind.wrap .i64 (x_17 + (1 : Int)))))) else ((clock_Clocks.l1 y_5 ([] : (List (Int × (List Int)))) ([] : List (List Int)) a_0 (((List.length a_0) : Nat) : Int) (0 : Int)))
theorem clock_Clocks.l0_k.mono : MonoF (β := fun _ => ((List (List Int)) × Int)) clock_Clocks.l0_k.body := fun f g hfg p => match p with
  | .l0 a_0 y_5 x_17 => LeO.ite (LeO.bind (LeO.refl _) fun l1 => LeO.bind (LeO.refl _) fun y9 => LeO.bind (LeO.refl _) fun l20 => (hfg _)) ((LeO.refl _))
noncomputable def clock_Clocks.l0_k.go (p : clock_Clocks.l0_k.Pt) : Option ((List (List Int)) × Int) := fixF (β := fun _ => ((List (List Int)) × Int)) clock_Clocks.l0_k.body p
noncomputable def clock_Clocks.l0 (a_0 : List T_api_Event) (y_5 : (List (List Int))) (x_17 : Int) : Option ((List (List Int)) × Int) := clock_Clocks.l0_k.go (.l0 a_0 y_5 x_17)
theorem clock_Clocks.l0_eq (a_0 : List T_api_Event) (y_5 : (List (List Int))) (x_17 : Int) : clock_Clocks.l0 a_0 y_5 x_17 = if x_17 < (8 : Int) then (Option.bind (mks 8 (8 : Int) (0 : Int)) fun l1 => Option.bind (gi y_5 x_17) fun y9 => Option.bind (some (List.set y_5 (Int.toNat x_17) l1)) fun l20 => (clock_Clocks.l0 a_0 l20 (IntKind.wrap .i64 (x_17 + (1 : Int))))) else ((clock_Clocks.l1 y_5 ([] : (List (Int × (List Int)))) ([] : List (List Int)) a_0 (((List.length a_0) : Nat) : Int) (0 : Int))) := fixF_eq clock_Clocks.l0_k.mono _
def clock_Clocks.l0_k.I : (p : clock_Clocks.l0_k.Pt) → ((List (List Int)) × Int) → Prop
  | .l0 a_0 y_5 x_17, r => ∀ (W : Nat → Prop) (h0 m0 h m : Heap) (A_0 : Option Addr) (n_0 c_0 : Nat) (bk_5 : Nat) (cs_5 : List Value) (O : Hold W h0 m0 h m [rV bk_5 146 cs_5]) (ne_0 : n_0 = List.length a_0) (k_0 : List.length a_0 ≤ c_0) (r_0 : Rd 3 T_api_Event.E m A_0 a_0) (e_5 : (eArrE 8 1 (eRow 1 (eInt .i64))) m y_5 cs_5), f23.l0 (clock_Clocks.post W h0 m0 r) A_0 n_0 c_0 (⟨bk_5, 0, none⟩ : Addr) x_17 h
set_option maxRecDepth 100000 in
theorem clock_Clocks.l0_k.step_l0 (go : (p : clock_Clocks.l0_k.Pt) → Option ((List (List Int)) × Int)) (ih : ∀ p r, go p = some r → clock_Clocks.l0_k.I p r) (a_0 : List T_api_Event) (y_5 : (List (List Int))) (x_17 : Int) (r : (List (List Int)) × Int) (e : clock_Clocks.l0_k.body go (.l0 a_0 y_5 x_17) = some r) : clock_Clocks.l0_k.I (.l0 a_0 y_5 x_17) r := by
  unfold clock_Clocks.l0_k.body at e
  intro W h0 m0 h m A_0 n_0 c_0 bk_5 cs_5 O ne_0 k_0 r_0 e_5
  subst ne_0
  refine f23.l0_in ?_
  unfold f23.l0T
  refine split_dec_e e (fun c30 e => ?_) (fun c30 e => ?_)
  · obtain ⟨l1, g2, e⟩ := bind_e e
    have q3 := mks_e g2
    refine ⟨q3.1, Int.le_refl _, q3.2.1, q3.2.2.1, ?_⟩
    refine O.new fun h4 x5 O6 => ?_
    have O7 := O6.made 1 rfl (aE (tell_int .i64)) g2 ⟨rfl, rfl⟩
    try rw [q3.2.2.2.1]
    obtain ⟨y9, g10, e⟩ := bind_e e
    refine ⟨gi_le g10, eArrE.ltn e_5 g10, ?_⟩
    obtain ⟨l20, g21, e⟩ := bind_e e
    obtain ⟨m11, u12, ⟨r13, k14⟩, O15⟩ := O7.frz 1 rfl
    replace r13 : Rd 1 (eInt .i64) m11 (some ⟨(Array.size h), 0, none⟩) l1 := r13
    replace g21 := Option.some.inj g21
    refine O15.stE 0 rfl (Int.toNat x_17 * 1) (eArrE.lt ((tell_arrE 8 (tell_row (tell_int .i64))).mono _ _ _ _ u12 e_5) g10) trivial (eArrE.set1 ((tell_arrE 8 (tell_row (tell_int .i64))).mono _ _ _ _ u12 e_5) g10 (show (eRow 1 (eInt .i64)) _ l1 [(Value.slice (some ⟨(Array.size h), 0, none⟩) (List.length l1) (List.length l1))] from ⟨_, _, rfl, k14, r13⟩) g21) fun h16 cs18 e19 O17 => ?_
    have O22 := O17.nm
    exact (ih _ _ e) _ _ _ _ _ _ _ _ _ _ (O22.pick [0]).nm rfl k_0 (r_0.sub T_api_Event.T u12) e19
  · refine O.mkMap (ν := (List Int)) (monoV0 (tell_row (tell_int .i64))) (fun n : Int => Value.int .i64 n) fun h23 x24 O25 => ?_
    have O27 := O25.nil (aE (tell_row (tell_int .i64))) none
    have O29 := O27.nm
    exact clock_Clocks.l1.walk (O29.pick [0, 1, 2]).nm e_5 rfl rfl k_0 r_0 e
theorem clock_Clocks.l0_k.all {p : clock_Clocks.l0_k.Pt} {r : ((List (List Int)) × Int)} (e : clock_Clocks.l0_k.go p = some r) : clock_Clocks.l0_k.I p r := fixF_ind (β := fun _ => ((List (List Int)) × Int)) clock_Clocks.l0_k.mono (I := clock_Clocks.l0_k.I) (fun go ih p r e => match p with
  | .l0 a_0 y_5 x_17 => clock_Clocks.l0_k.step_l0 go ih a_0 y_5 x_17 r e
  ) e
theorem clock_Clocks.l0.walk {W : Nat → Prop} {h0 m0 h m : Heap} {A_0 : Option Addr} {n_0 c_0 : Nat} {bk_5 : Nat} {cs_5 : List Value} {a_0 : List T_api_Event} {y_5 : (List (List Int))} {x_17 : Int} (O : Hold W h0 m0 h m [rV bk_5 146 cs_5]) (ne_0 : n_0 = List.length a_0) (k_0 : List.length a_0 ≤ c_0) (r_0 : Rd 3 T_api_Event.E m A_0 a_0) (e_5 : (eArrE 8 1 (eRow 1 (eInt .i64))) m y_5 cs_5) {r : (List (List Int)) × Int} (e : clock_Clocks.l0 a_0 y_5 x_17 = some r) : f23.l0 (clock_Clocks.post W h0 m0 r) A_0 n_0 c_0 (⟨bk_5, 0, none⟩ : Addr) x_17 h := clock_Clocks.l0_k.all (p := .l0 a_0 y_5 x_17) e W h0 m0 h m A_0 n_0 c_0 bk_5 cs_5 O ne_0 k_0 r_0 e_5

noncomputable def clock_Clocks (a_0 : List T_api_Event) : Option ((List (List Int)) × Int) :=
  Option.bind (clock_Check a_0) fun y1 => if y1 = (0 : Int) then ((clock_Clocks.l0 a_0 (List.replicate 8 ([] : (List Int))) (0 : Int))) else (some (([] : List (List Int)), y1))
set_option maxRecDepth 100000 in
theorem clock_Clocks.walk {W : Nat → Prop} {h m : Heap} {A_0 : Option Addr} {n_0 c_0 : Nat} {a_0 : List T_api_Event} (O : Hold W h m h m []) (ne_0 : n_0 = List.length a_0) (k_0 : List.length a_0 ≤ c_0) (r_0 : Rd 3 T_api_Event.E m A_0 a_0) {r : (List (List Int)) × Int} (e : clock_Clocks a_0 = some r) : Run Try.prog 23 #[Value.slice A_0 n_0 c_0] h (clock_Clocks.post W h m r) := by
  unfold clock_Clocks at e
  subst ne_0
  refine f23.run ?_
  unfold f23.runT
  obtain ⟨y1, g2, e⟩ := bind_e e
  refine (clock_Check.walk (Hold.start (W := No) O.s) rfl k_0 r_0 g2).mono ?_
  rintro _ h3 ⟨m4, Q5, rfl⟩
  have O7 := Hold.nm (O.retC Q5 vfs_nil)
  refine ⟨_, rfl, ?_⟩
  refine split_ne_e e (fun c17 e => ?_) (fun c17 e => ?_)
  · have O8 := O7.nil (aE (tell_row (tell_int .i64))) none
    have O10 := O8.nm
    cases e
    exact ⟨_, _, _, _, O10.pick [0], rfl, rfl⟩
  · refine O7.new fun h11 x12 O13 => ?_
    have O15 := O13.recell 0 rfl (cs' := (List.flatten (List.replicate 8 [(Value.slice none 0 0)]))) rfl
    have O16 := O15.nm
    exact clock_Clocks.l0.walk (O16.pick [0]).nm rfl k_0 r_0 (arrE_zero (z := ([] : (List Int))) (zc := [(Value.slice none 0 0)]) (show (eRow 1 (eInt .i64)) m ([] : (List Int)) [(Value.slice none 0 0)] from ⟨_, _, rfl, (Nat.le_refl 0), Rd.nil⟩) (tell_row (tell_int .i64)) 8) e

/-! ### 76 roadstead/clock.Less -/
def clock_Less.post (W : Nat → Prop) (h0 m0 : Heap) (r : Bool) (v : Value) (h : Heap) : Prop := ∃ m , Hold W h0 m0 h m [] ∧ v = .bool r
inductive clock_Less.l0_k.Pt where
  | l0 (a_0 : List Int) (a_1 : List Int) (b_5 : Bool) (x_11 : Int) (x_12 : Int)
noncomputable def clock_Less.l0_k.body (go : (p : clock_Less.l0_k.Pt) → Option (Bool)) : (p : clock_Less.l0_k.Pt) → Option (Bool)
  | .l0 a_0 a_1 b_5 x_11 x_12 => if x_12 < x_11 then (Option.bind (clock_at a_0 x_12) fun y1 => Option.bind (clock_at a_1 x_12) fun y8 => if y1 > y8 then (some (false)) else (if b_5 = true then ((go (.l0 a_0 a_1 true x_11 (IntKind.wrap .i64 (x_12 + (1 : Int)))))) else (Option.bind (clock_at a_0 x_12) fun y15 => Option.bind (clock_at a_1 x_12) fun y22 => (go (.l0 a_0 a_1 (decide (y15 < y22)) x_11 (IntKind.wrap .i64 (x_12 + (1 : Int)))))))) else (some (b_5))
theorem clock_Less.l0_k.mono : MonoF (β := fun _ => (Bool)) clock_Less.l0_k.body := fun f g hfg p => match p with
  | .l0 a_0 a_1 b_5 x_11 x_12 => LeO.ite (LeO.bind (LeO.refl _) fun y1 => LeO.bind (LeO.refl _) fun y8 => LeO.ite (LeO.refl _) (LeO.ite ((hfg _)) (LeO.bind (LeO.refl _) fun y15 => LeO.bind (LeO.refl _) fun y22 => (hfg _)))) (LeO.refl _)
noncomputable def clock_Less.l0_k.go (p : clock_Less.l0_k.Pt) : Option (Bool) := fixF (β := fun _ => (Bool)) clock_Less.l0_k.body p
noncomputable def clock_Less.l0 (a_0 : List Int) (a_1 : List Int) (b_5 : Bool) (x_11 : Int) (x_12 : Int) : Option (Bool) := clock_Less.l0_k.go (.l0 a_0 a_1 b_5 x_11 x_12)
theorem clock_Less.l0_eq (a_0 : List Int) (a_1 : List Int) (b_5 : Bool) (x_11 : Int) (x_12 : Int) : clock_Less.l0 a_0 a_1 b_5 x_11 x_12 = if x_12 < x_11 then (Option.bind (clock_at a_0 x_12) fun y1 => Option.bind (clock_at a_1 x_12) fun y8 => if y1 > y8 then (some (false)) else (if b_5 = true then ((clock_Less.l0 a_0 a_1 true x_11 (IntKind.wrap .i64 (x_12 + (1 : Int))))) else (Option.bind (clock_at a_0 x_12) fun y15 => Option.bind (clock_at a_1 x_12) fun y22 => (clock_Less.l0 a_0 a_1 (decide (y15 < y22)) x_11 (IntKind.wrap .i64 (x_12 + (1 : Int))))))) else (some (b_5)) := fixF_eq clock_Less.l0_k.mono _
def clock_Less.l0_k.I : (p : clock_Less.l0_k.Pt) → (Bool) → Prop
  | .l0 a_0 a_1 b_5 x_11 x_12, r => ∀ (W : Nat → Prop) (h0 m0 h m : Heap) (A_0 : Option Addr) (n_0 c_0 : Nat) (A_1 : Option Addr) (n_1 c_1 : Nat) (O : Hold W h0 m0 h m []) (ne_0 : n_0 = List.length a_0) (k_0 : List.length a_0 ≤ c_0) (r_0 : Rd 1 (eInt .i64) m A_0 a_0) (ne_1 : n_1 = List.length a_1) (k_1 : List.length a_1 ≤ c_1) (r_1 : Rd 1 (eInt .i64) m A_1 a_1), f76.l0 (clock_Less.post W h0 m0 r) A_0 n_0 c_0 A_1 n_1 c_1 b_5 x_11 x_12 h
set_option maxRecDepth 100000 in
theorem clock_Less.l0_k.step_l0 (go : (p : clock_Less.l0_k.Pt) → Option (Bool)) (ih : ∀ p r, go p = some r → clock_Less.l0_k.I p r) (a_0 : List Int) (a_1 : List Int) (b_5 : Bool) (x_11 : Int) (x_12 : Int) (r : Bool) (e : clock_Less.l0_k.body go (.l0 a_0 a_1 b_5 x_11 x_12) = some r) : clock_Less.l0_k.I (.l0 a_0 a_1 b_5 x_11 x_12) r := by
  unfold clock_Less.l0_k.body at e
  intro W h0 m0 h m A_0 n_0 c_0 A_1 n_1 c_1 O ne_0 k_0 r_0 ne_1 k_1 r_1
  subst ne_0
  subst ne_1
  refine f76.l0_in ?_
  unfold f76.l0T
  refine split_dec_e e (fun c31 e => ?_) (fun c31 e => ?_)
  · obtain ⟨y1, g2, e⟩ := bind_e e
    refine (clock_at.walk (Hold.start (W := No) O.s) rfl k_0 r_0 g2).mono ?_
    rintro _ h3 ⟨m4, Q5, rfl⟩
    have O7 := Hold.nm (O.retC Q5 vfs_nil)
    refine ⟨_, rfl, ?_⟩
    obtain ⟨y8, g9, e⟩ := bind_e e
    refine (clock_at.walk (Hold.start (W := No) O7.s) rfl k_1 r_1 g9).mono ?_
    rintro _ h10 ⟨m11, Q12, rfl⟩
    have O14 := Hold.nm (O7.retC Q12 vfs_nil)
    refine ⟨_, rfl, ?_⟩
    refine split_dec_e e (fun c30 e => ?_) (fun c30 e => ?_)
    · cases e
      exact ⟨_, O14.pick [], rfl⟩
    · refine split_any_e e (fun c29 e => ?_) (fun c29 e => ?_)
      · exact (ih _ _ e) _ _ _ _ _ _ _ _ _ _ _ (O14.pick []).nm rfl k_0 r_0 rfl k_1 r_1
      · obtain ⟨y15, g16, e⟩ := bind_e e
        refine (clock_at.walk (Hold.start (W := No) O14.s) rfl k_0 r_0 g16).mono ?_
        rintro _ h17 ⟨m18, Q19, rfl⟩
        have O21 := Hold.nm (O14.retC Q19 vfs_nil)
        refine ⟨_, rfl, ?_⟩
        obtain ⟨y22, g23, e⟩ := bind_e e
        refine (clock_at.walk (Hold.start (W := No) O21.s) rfl k_1 r_1 g23).mono ?_
        rintro _ h24 ⟨m25, Q26, rfl⟩
        have O28 := Hold.nm (O21.retC Q26 vfs_nil)
        refine ⟨_, rfl, ?_⟩
        exact (ih _ _ e) _ _ _ _ _ _ _ _ _ _ _ (O28.pick []).nm rfl k_0 r_0 rfl k_1 r_1
  · cases e
    exact ⟨_, O.pick [], rfl⟩
theorem clock_Less.l0_k.all {p : clock_Less.l0_k.Pt} {r : (Bool)} (e : clock_Less.l0_k.go p = some r) : clock_Less.l0_k.I p r := fixF_ind (β := fun _ => (Bool)) clock_Less.l0_k.mono (I := clock_Less.l0_k.I) (fun go ih p r e => match p with
  | .l0 a_0 a_1 b_5 x_11 x_12 => clock_Less.l0_k.step_l0 go ih a_0 a_1 b_5 x_11 x_12 r e
  ) e
theorem clock_Less.l0.walk {W : Nat → Prop} {h0 m0 h m : Heap} {A_0 : Option Addr} {n_0 c_0 : Nat} {A_1 : Option Addr} {n_1 c_1 : Nat} {a_0 : List Int} {a_1 : List Int} {b_5 : Bool} {x_11 : Int} {x_12 : Int} (O : Hold W h0 m0 h m []) (ne_0 : n_0 = List.length a_0) (k_0 : List.length a_0 ≤ c_0) (r_0 : Rd 1 (eInt .i64) m A_0 a_0) (ne_1 : n_1 = List.length a_1) (k_1 : List.length a_1 ≤ c_1) (r_1 : Rd 1 (eInt .i64) m A_1 a_1) {r : Bool} (e : clock_Less.l0 a_0 a_1 b_5 x_11 x_12 = some r) : f76.l0 (clock_Less.post W h0 m0 r) A_0 n_0 c_0 A_1 n_1 c_1 b_5 x_11 x_12 h := clock_Less.l0_k.all (p := .l0 a_0 a_1 b_5 x_11 x_12) e W h0 m0 h m A_0 n_0 c_0 A_1 n_1 c_1 O ne_0 k_0 r_0 ne_1 k_1 r_1

noncomputable def clock_Less (a_0 : List Int) (a_1 : List Int) : Option (Bool) :=
  (clock_Less.l0 a_0 a_1 false (if (((List.length a_1) : Nat) : Int) > (((List.length a_0) : Nat) : Int) then (((List.length a_1) : Nat) : Int) else (((List.length a_0) : Nat) : Int)) (0 : Int))
set_option maxRecDepth 100000 in
theorem clock_Less.walk {W : Nat → Prop} {h m : Heap} {A_0 : Option Addr} {n_0 c_0 : Nat} {A_1 : Option Addr} {n_1 c_1 : Nat} {a_0 : List Int} {a_1 : List Int} (O : Hold W h m h m []) (ne_0 : n_0 = List.length a_0) (k_0 : List.length a_0 ≤ c_0) (r_0 : Rd 1 (eInt .i64) m A_0 a_0) (ne_1 : n_1 = List.length a_1) (k_1 : List.length a_1 ≤ c_1) (r_1 : Rd 1 (eInt .i64) m A_1 a_1) {r : Bool} (e : clock_Less a_0 a_1 = some r) : Run Try.prog 76 #[Value.slice A_0 n_0 c_0, Value.slice A_1 n_1 c_1] h (clock_Less.post W h m r) := by
  unfold clock_Less at e
  subst ne_0
  subst ne_1
  refine f76.run ?_
  unfold f76.runT
  exact clock_Less.l0.walk (O.pick []).nm rfl k_0 r_0 rfl k_1 r_1 e

/-! ### 47 roadstead/trace.Led -/
def trace_Led.post (W : Nat → Prop) (h0 m0 : Heap) (r : (List T_api_Event) × Int) (v : Value) (h : Heap) : Prop := ∃ m A0 n0 c0, Hold W h0 m0 h m [rR (aE T_api_Event.T) A0 c0 r.1] ∧ v = .tuple #[.slice A0 n0 c0, .int .i64 r.2] ∧ n0 = List.length r.1
inductive trace_Led.l0_k.Pt where
  | l0 (a_0 : List T_api_Event) (x_1 : Int) (a_6 : List (List Int)) (a_8 : List T_api_Event) (x_27 : Int) (x_28 : Int)
  | j2 (a_0 : List T_api_Event) (x_1 : Int) (a_6 : List (List Int)) (a_8 : List T_api_Event) (x_9 : Int) (x_27 : Int) (x_28 : Int) (b_44 : Bool)
noncomputable def trace_Led.l0_k.body (go : (p : trace_Led.l0_k.Pt) → Option ((List T_api_Event) × Int)) : (p : trace_Led.l0_k.Pt) → Option ((List T_api_Event) × Int)
  | .l0 a_0 x_1 a_6 a_8 x_27 x_28 => if x_28 < x_27 then (if x_28 = x_1 then ((go (.j2 a_0 x_1 a_6 a_8 x_28 x_27 x_28 true))) else (Option.bind (gi a_6 x_28) fun y1 => Option.bind (gi a_6 x_1) fun y8 => Option.bind (clock_Less y1 y8) fun y15 => (go (.j2 a_0 x_1 a_6 a_8 x_28 x_27 x_28 y15)))) else (some (a_8, (0 : Int)))
  | .j2 a_0 x_1 a_6 a_8 x_9 x_27 x_28 b_44 => if b_44 = true then (Option.bind (gi a_0 x_9) fun y1 => Option.bind (ap 24 a_8 ([y1] : List T_api_Event)) fun l13 => (go (.l0 a_0 x_1 a_6 l13 x_27 (IntKind.wrap .i64 (x_28 + (1 : Int)))))) else ((go (.l0 a_0 x_1 a_6 a_8 x_27 (IntKind.wrap .i64 (x_28 + (1 : Int))))))
theorem trace_Led.l0_k.mono : MonoF (β := fun _ => ((List T_api_Event) × Int)) trace_Led.l0_k.body := fun f g hfg p => match p with
  | .l0 a_0 x_1 a_6 a_8 x_27 x_28 => LeO.ite (LeO.ite ((hfg _)) (LeO.bind (LeO.refl _) fun y1 => LeO.bind (LeO.refl _) fun y8 => LeO.bind (LeO.refl _) fun y15 => (hfg _))) (LeO.refl _)
  | .j2 a_0 x_1 a_6 a_8 x_9 x_27 x_28 b_44 => LeO.ite (LeO.bind (LeO.refl _) fun y1 => LeO.bind (LeO.refl _) fun l13 => (hfg _)) ((hfg _))
noncomputable def trace_Led.l0_k.go (p : trace_Led.l0_k.Pt) : Option ((List T_api_Event) × Int) := fixF (β := fun _ => ((List T_api_Event) × Int)) trace_Led.l0_k.body p
noncomputable def trace_Led.l0 (a_0 : List T_api_Event) (x_1 : Int) (a_6 : List (List Int)) (a_8 : List T_api_Event) (x_27 : Int) (x_28 : Int) : Option ((List T_api_Event) × Int) := trace_Led.l0_k.go (.l0 a_0 x_1 a_6 a_8 x_27 x_28)
noncomputable def trace_Led.j2 (a_0 : List T_api_Event) (x_1 : Int) (a_6 : List (List Int)) (a_8 : List T_api_Event) (x_9 : Int) (x_27 : Int) (x_28 : Int) (b_44 : Bool) : Option ((List T_api_Event) × Int) := trace_Led.l0_k.go (.j2 a_0 x_1 a_6 a_8 x_9 x_27 x_28 b_44)
theorem trace_Led.l0_eq (a_0 : List T_api_Event) (x_1 : Int) (a_6 : List (List Int)) (a_8 : List T_api_Event) (x_27 : Int) (x_28 : Int) : trace_Led.l0 a_0 x_1 a_6 a_8 x_27 x_28 = if x_28 < x_27 then (if x_28 = x_1 then ((trace_Led.j2 a_0 x_1 a_6 a_8 x_28 x_27 x_28 true)) else (Option.bind (gi a_6 x_28) fun y1 => Option.bind (gi a_6 x_1) fun y8 => Option.bind (clock_Less y1 y8) fun y15 => (trace_Led.j2 a_0 x_1 a_6 a_8 x_28 x_27 x_28 y15))) else (some (a_8, (0 : Int))) := fixF_eq trace_Led.l0_k.mono _
theorem trace_Led.j2_eq (a_0 : List T_api_Event) (x_1 : Int) (a_6 : List (List Int)) (a_8 : List T_api_Event) (x_9 : Int) (x_27 : Int) (x_28 : Int) (b_44 : Bool) : trace_Led.j2 a_0 x_1 a_6 a_8 x_9 x_27 x_28 b_44 = if b_44 = true then (Option.bind (gi a_0 x_9) fun y1 => Option.bind (ap 24 a_8 ([y1] : List T_api_Event)) fun l13 => (trace_Led.l0 a_0 x_1 a_6 l13 x_27 (IntKind.wrap .i64 (x_28 + (1 : Int))))) else ((trace_Led.l0 a_0 x_1 a_6 a_8 x_27 (IntKind.wrap .i64 (x_28 + (1 : Int))))) := fixF_eq trace_Led.l0_k.mono _
def trace_Led.l0_k.I : (p : trace_Led.l0_k.Pt) → ((List T_api_Event) × Int) → Prop
  | .l0 a_0 x_1 a_6 a_8 x_27 x_28, r => ∀ (W : Nat → Prop) (h0 m0 h m : Heap) (A_0 : Option Addr) (n_0 c_0 : Nat) (A_6 : Option Addr) (n_6 c_6 : Nat) (A_8 : Option Addr) (n_8 c_8 : Nat) (O : Hold W h0 m0 h m [rR (aE (tell_row (tell_int .i64))) A_6 c_6 a_6, rR (aE T_api_Event.T) A_8 c_8 a_8]) (ne_0 : n_0 = List.length a_0) (k_0 : List.length a_0 ≤ c_0) (r_0 : Rd 3 T_api_Event.E m A_0 a_0) (ne_6 : n_6 = List.length a_6) (ne_8 : n_8 = List.length a_8), f47.l0 (trace_Led.post W h0 m0 r) A_0 n_0 c_0 x_1 A_6 n_6 c_6 A_8 n_8 c_8 x_27 x_28 h
  | .j2 a_0 x_1 a_6 a_8 x_9 x_27 x_28 b_44, r => ∀ (W : Nat → Prop) (h0 m0 h m : Heap) (A_0 : Option Addr) (n_0 c_0 : Nat) (A_6 : Option Addr) (n_6 c_6 : Nat) (A_8 : Option Addr) (n_8 c_8 : Nat) (O : Hold W h0 m0 h m [rR (aE (tell_row (tell_int .i64))) A_6 c_6 a_6, rR (aE T_api_Event.T) A_8 c_8 a_8]) (ne_0 : n_0 = List.length a_0) (k_0 : List.length a_0 ≤ c_0) (r_0 : Rd 3 T_api_Event.E m A_0 a_0) (ne_6 : n_6 = List.length a_6) (ne_8 : n_8 = List.length a_8), f47.j2 (trace_Led.post W h0 m0 r) A_0 n_0 c_0 x_1 A_6 n_6 c_6 A_8 n_8 c_8 x_9 x_27 x_28 b_44 h
set_option maxRecDepth 100000 in
theorem trace_Led.l0_k.step_l0 (go : (p : trace_Led.l0_k.Pt) → Option ((List T_api_Event) × Int)) (ih : ∀ p r, go p = some r → trace_Led.l0_k.I p r) (a_0 : List T_api_Event) (x_1 : Int) (a_6 : List (List Int)) (a_8 : List T_api_Event) (x_27 : Int) (x_28 : Int) (r : (List T_api_Event) × Int) (e : trace_Led.l0_k.body go (.l0 a_0 x_1 a_6 a_8 x_27 x_28) = some r) : trace_Led.l0_k.I (.l0 a_0 x_1 a_6 a_8 x_27 x_28) r := by
  unfold trace_Led.l0_k.body at e
  intro W h0 m0 h m A_0 n_0 c_0 A_6 n_6 c_6 A_8 n_8 c_8 O ne_0 k_0 r_0 ne_6 ne_8
  subst ne_0
  subst ne_6
  subst ne_8
  refine f47.l0_in ?_
  unfold f47.l0T
  refine split_dec_e e (fun c23 e => ?_) (fun c23 e => ?_)
  · refine split_eq_e e (fun c22 e => ?_) (fun c22 e => ?_)
    · exact (ih _ _ e) _ _ _ _ _ _ _ _ _ _ _ _ _ _ (O.pick [0, 1]).nm rfl k_0 r_0 rfl rfl
    · obtain ⟨y1, g2, e⟩ := bind_e e
      refine (O.os 0 rfl).addr rfl g2 fun a3 cs4 ha5 hc6 he7 => ?_
      obtain ⟨Acs4_0, ccs4_0, rfl, kcs4_0, rcs4_0⟩ := id he7
      obtain ⟨y8, g9, e⟩ := bind_e e
      refine (O.os 0 rfl).addr rfl g9 fun a10 cs11 ha12 hc13 he14 => ?_
      obtain ⟨Acs11_0, ccs11_0, rfl, kcs11_0, rcs11_0⟩ := id he14
      refine ⟨_, ld0 (Sub.refl _) hc6 rfl, _, _, _, rfl, ?_⟩
      refine ⟨_, ld0 (Sub.refl _) hc13 rfl, _, _, _, rfl, ?_⟩
      obtain ⟨y15, g16, e⟩ := bind_e e
      refine (clock_Less.walk (Hold.start (W := No) O.s) rfl kcs4_0 rcs4_0 rfl kcs11_0 rcs11_0 g16).mono ?_
      rintro _ h17 ⟨m18, Q19, rfl⟩
      have O21 := Hold.nm (O.retC Q19 vfs_nil)
      refine ⟨_, rfl, ?_⟩
      exact (ih _ _ e) _ _ _ _ _ _ _ _ _ _ _ _ _ _ (O21.pick [0, 1]).nm rfl k_0 r_0 rfl rfl
  · cases e
    exact ⟨_, _, _, _, O.pick [1], rfl, rfl⟩
set_option maxRecDepth 100000 in
theorem trace_Led.l0_k.step_j2 (go : (p : trace_Led.l0_k.Pt) → Option ((List T_api_Event) × Int)) (ih : ∀ p r, go p = some r → trace_Led.l0_k.I p r) (a_0 : List T_api_Event) (x_1 : Int) (a_6 : List (List Int)) (a_8 : List T_api_Event) (x_9 : Int) (x_27 : Int) (x_28 : Int) (b_44 : Bool) (r : (List T_api_Event) × Int) (e : trace_Led.l0_k.body go (.j2 a_0 x_1 a_6 a_8 x_9 x_27 x_28 b_44) = some r) : trace_Led.l0_k.I (.j2 a_0 x_1 a_6 a_8 x_9 x_27 x_28 b_44) r := by
  unfold trace_Led.l0_k.body at e
  intro W h0 m0 h m A_0 n_0 c_0 A_6 n_6 c_6 A_8 n_8 c_8 O ne_0 k_0 r_0 ne_6 ne_8
  subst ne_0
  subst ne_6
  subst ne_8
  refine f47.j2_in ?_
  unfold f47.j2T
  refine split_any_e e (fun c23 e => ?_) (fun c23 e => ?_)
  · obtain ⟨y1, g2, e⟩ := bind_e e
    refine r_0.addr rfl g2 fun a3 cs4 ha5 hc6 he7 => ?_
    refine ⟨_, ldAn O.s hc6 rfl, ?_⟩
    refine ⟨cs4, rfl, (T_api_Event.T.len _ _ _ he7), ?_⟩
    refine O.new fun h8 x9 O10 => ?_
    have O12 := O10.recell 2 rfl (cs' := cs4 ++ []) rfl
    obtain ⟨l13, g14, e⟩ := bind_e e
    have O21 := O12.rowE (l := ([y1] : List T_api_Event)) 2 rfl T_api_Event.T (show CsE _ _ _ _ _ from (CsE.cons he7 (T_api_Event.T.len _ _ _ he7) CsE.nil)) rfl
    refine O21.app 1 rfl rfl rfl ((O21.os 2 rfl).srcE rfl) (by decide) g14 fun A15 c16 h17 O18 => ?_
    refine ⟨_, _, _, rfl, ?_⟩
    have O22 := O18.nm
    exact (ih _ _ e) _ _ _ _ _ _ _ _ _ _ _ _ _ _ (O22.pick [0, 1]).nm rfl k_0 r_0 rfl rfl
  · exact (ih _ _ e) _ _ _ _ _ _ _ _ _ _ _ _ _ _ (O.pick [0, 1]).nm rfl k_0 r_0 rfl rfl
theorem trace_Led.l0_k.all {p : trace_Led.l0_k.Pt} {r : ((List T_api_Event) × Int)} (e : trace_Led.l0_k.go p = some r) : trace_Led.l0_k.I p r := fixF_ind (β := fun _ => ((List T_api_Event) × Int)) trace_Led.l0_k.mono (I := trace_Led.l0_k.I) (fun go ih p r e => match p with
  | .l0 a_0 x_1 a_6 a_8 x_27 x_28 => trace_Led.l0_k.step_l0 go ih a_0 x_1 a_6 a_8 x_27 x_28 r e
  | .j2 a_0 x_1 a_6 a_8 x_9 x_27 x_28 b_44 => trace_Led.l0_k.step_j2 go ih a_0 x_1 a_6 a_8 x_9 x_27 x_28 b_44 r e
  ) e
theorem trace_Led.l0.walk {W : Nat → Prop} {h0 m0 h m : Heap} {A_0 : Option Addr} {n_0 c_0 : Nat} {A_6 : Option Addr} {n_6 c_6 : Nat} {A_8 : Option Addr} {n_8 c_8 : Nat} {a_0 : List T_api_Event} {x_1 : Int} {a_6 : List (List Int)} {a_8 : List T_api_Event} {x_27 : Int} {x_28 : Int} (O : Hold W h0 m0 h m [rR (aE (tell_row (tell_int .i64))) A_6 c_6 a_6, rR (aE T_api_Event.T) A_8 c_8 a_8]) (ne_0 : n_0 = List.length a_0) (k_0 : List.length a_0 ≤ c_0) (r_0 : Rd 3 T_api_Event.E m A_0 a_0) (ne_6 : n_6 = List.length a_6) (ne_8 : n_8 = List.length a_8) {r : (List T_api_Event) × Int} (e : trace_Led.l0 a_0 x_1 a_6 a_8 x_27 x_28 = some r) : f47.l0 (trace_Led.post W h0 m0 r) A_0 n_0 c_0 x_1 A_6 n_6 c_6 A_8 n_8 c_8 x_27 x_28 h := trace_Led.l0_k.all (p := .l0 a_0 x_1 a_6 a_8 x_27 x_28) e W h0 m0 h m A_0 n_0 c_0 A_6 n_6 c_6 A_8 n_8 c_8 O ne_0 k_0 r_0 ne_6 ne_8
theorem trace_Led.j2.walk {W : Nat → Prop} {h0 m0 h m : Heap} {A_0 : Option Addr} {n_0 c_0 : Nat} {A_6 : Option Addr} {n_6 c_6 : Nat} {A_8 : Option Addr} {n_8 c_8 : Nat} {a_0 : List T_api_Event} {x_1 : Int} {a_6 : List (List Int)} {a_8 : List T_api_Event} {x_9 : Int} {x_27 : Int} {x_28 : Int} {b_44 : Bool} (O : Hold W h0 m0 h m [rR (aE (tell_row (tell_int .i64))) A_6 c_6 a_6, rR (aE T_api_Event.T) A_8 c_8 a_8]) (ne_0 : n_0 = List.length a_0) (k_0 : List.length a_0 ≤ c_0) (r_0 : Rd 3 T_api_Event.E m A_0 a_0) (ne_6 : n_6 = List.length a_6) (ne_8 : n_8 = List.length a_8) {r : (List T_api_Event) × Int} (e : trace_Led.j2 a_0 x_1 a_6 a_8 x_9 x_27 x_28 b_44 = some r) : f47.j2 (trace_Led.post W h0 m0 r) A_0 n_0 c_0 x_1 A_6 n_6 c_6 A_8 n_8 c_8 x_9 x_27 x_28 b_44 h := trace_Led.l0_k.all (p := .j2 a_0 x_1 a_6 a_8 x_9 x_27 x_28 b_44) e W h0 m0 h m A_0 n_0 c_0 A_6 n_6 c_6 A_8 n_8 c_8 O ne_0 k_0 r_0 ne_6 ne_8

noncomputable def trace_Led.j0 (a_0 : List T_api_Event) (x_1 : Int) (a_6 : List (List Int)) : Option ((List T_api_Event) × Int) :=
  (trace_Led.l0 a_0 x_1 a_6 ([] : List T_api_Event) (IntKind.wrap .i64 (x_1 + (1 : Int))) (0 : Int))
set_option maxRecDepth 100000 in
theorem trace_Led.j0.walk {W : Nat → Prop} {h0 m0 h m : Heap} {A_0 : Option Addr} {n_0 c_0 : Nat} {A_6 : Option Addr} {n_6 c_6 : Nat} {a_0 : List T_api_Event} {x_1 : Int} {a_6 : List (List Int)} (O : Hold W h0 m0 h m [rR (aE (tell_row (tell_int .i64))) A_6 c_6 a_6]) (ne_0 : n_0 = List.length a_0) (k_0 : List.length a_0 ≤ c_0) (r_0 : Rd 3 T_api_Event.E m A_0 a_0) (ne_6 : n_6 = List.length a_6) {r : (List T_api_Event) × Int} (e : trace_Led.j0 a_0 x_1 a_6 = some r) : f47.j0 (trace_Led.post W h0 m0 r) A_0 n_0 c_0 x_1 A_6 n_6 c_6 h := by
  unfold trace_Led.j0 at e
  subst ne_0
  subst ne_6
  refine f47.j0_in ?_
  unfold f47.j0T
  have O1 := O.nil (aE T_api_Event.T) none
  have O3 := O1.nm
  exact trace_Led.l0.walk (O3.pick [0, 1]).nm rfl k_0 r_0 rfl rfl e

noncomputable def trace_Led.j1 (a_0 : List T_api_Event) (x_1 : Int) (a_6 : List (List Int)) (b_25 : Bool) : Option ((List T_api_Event) × Int) :=
  if b_25 = true then (some (([] : List T_api_Event), (1 : Int))) else ((trace_Led.j0 a_0 x_1 a_6))
set_option maxRecDepth 100000 in
theorem trace_Led.j1.walk {W : Nat → Prop} {h0 m0 h m : Heap} {A_0 : Option Addr} {n_0 c_0 : Nat} {A_6 : Option Addr} {n_6 c_6 : Nat} {a_0 : List T_api_Event} {x_1 : Int} {a_6 : List (List Int)} {b_25 : Bool} (O : Hold W h0 m0 h m [rR (aE (tell_row (tell_int .i64))) A_6 c_6 a_6]) (ne_0 : n_0 = List.length a_0) (k_0 : List.length a_0 ≤ c_0) (r_0 : Rd 3 T_api_Event.E m A_0 a_0) (ne_6 : n_6 = List.length a_6) {r : (List T_api_Event) × Int} (e : trace_Led.j1 a_0 x_1 a_6 b_25 = some r) : f47.j1 (trace_Led.post W h0 m0 r) A_0 n_0 c_0 x_1 A_6 n_6 c_6 b_25 h := by
  unfold trace_Led.j1 at e
  subst ne_0
  subst ne_6
  refine f47.j1_in ?_
  unfold f47.j1T
  refine split_any_e e (fun c4 e => ?_) (fun c4 e => ?_)
  · have O1 := O.nil (aE T_api_Event.T) none
    have O3 := O1.nm
    cases e
    exact ⟨_, _, _, _, O3.pick [1], rfl, rfl⟩
  · exact trace_Led.j0.walk (O.pick [0]).nm rfl k_0 r_0 rfl e

noncomputable def trace_Led (a_0 : List T_api_Event) (x_1 : Int) : Option ((List T_api_Event) × Int) :=
  Option.bind (clock_Clocks a_0) fun y1 => if y1.2 = (0 : Int) then (if x_1 < (0 : Int) then ((trace_Led.j1 a_0 x_1 y1.1 true)) else ((trace_Led.j1 a_0 x_1 y1.1 (decide (x_1 ≥ (((List.length a_0) : Nat) : Int)))))) else (some (([] : List T_api_Event), y1.2))
set_option maxRecDepth 100000 in
theorem trace_Led.walk {W : Nat → Prop} {h m : Heap} {A_0 : Option Addr} {n_0 c_0 : Nat} {a_0 : List T_api_Event} {x_1 : Int} (O : Hold W h m h m []) (ne_0 : n_0 = List.length a_0) (k_0 : List.length a_0 ≤ c_0) (r_0 : Rd 3 T_api_Event.E m A_0 a_0) {r : (List T_api_Event) × Int} (e : trace_Led a_0 x_1 = some r) : Run Try.prog 47 #[Value.slice A_0 n_0 c_0, Value.int .i64 x_1] h (trace_Led.post W h m r) := by
  unfold trace_Led at e
  subst ne_0
  refine f47.run ?_
  unfold f47.runT
  obtain ⟨y1, g2, e⟩ := bind_e e
  refine (clock_Clocks.walk (Hold.start (W := No) O.s) rfl k_0 r_0 g2).mono ?_
  rintro _ h3 ⟨m4, A7, n8, c9, Q5, rfl, ne10⟩
  have O12 := Hold.nm (O.ret Q5)
  subst ne10
  refine ⟨_, _, _, _, rfl, ?_⟩
  refine split_ne_e e (fun c17 e => ?_) (fun c17 e => ?_)
  · have O13 := O12.nil (aE T_api_Event.T) none
    have O15 := O13.nm
    cases e
    exact ⟨_, _, _, _, O15.pick [1], rfl, rfl⟩
  · refine split_dec_e e (fun c16 e => ?_) (fun c16 e => ?_)
    · exact trace_Led.j1.walk (O12.pick [0]).nm rfl k_0 (r_0.sub T_api_Event.T Q5.S.up) rfl e
    · exact trace_Led.j1.walk (O12.pick [0]).nm rfl k_0 (r_0.sub T_api_Event.T Q5.S.up) rfl e

/-! ### 48 roadstead/trace.At -/
def trace_At.post (W : Nat → Prop) (h0 m0 : Heap) (r : (List T_api_Event) × Int) (v : Value) (h : Heap) : Prop := ∃ m A0 n0 c0, Hold W h0 m0 h m [rR (aE T_api_Event.T) A0 c0 r.1] ∧ v = .tuple #[.slice A0 n0 c0, .int .i64 r.2] ∧ n0 = List.length r.1
inductive trace_At.l0_k.Pt where
  | l0 (x_1 : Int) (a_7 : List T_api_Event) (a_21 : List T_api_Event) (x_22 : Int) (x_23 : Int)
noncomputable def trace_At.l0_k.body (go : (p : trace_At.l0_k.Pt) → Option ((List T_api_Event) × Int)) : (p : trace_At.l0_k.Pt) → Option ((List T_api_Event) × Int)
  | .l0 x_1 a_7 a_21 x_22 x_23 => if x_23 < x_22 then (Option.bind (gi a_21 x_23) fun y1 => if y1.Place = x_1 then (Option.bind (ap 24 a_7 ([y1] : List T_api_Event)) fun l19 => (go (.l0 x_1 l19 a_21 x_22 (IntKind.wrap .i64 (x_23 + (1 : Int)))))) else ((go (.l0 x_1 a_7 a_21 x_22 (IntKind.wrap .i64 (x_23 + (1 : Int))))))) else (some (a_7, (0 : Int)))
theorem trace_At.l0_k.mono : MonoF (β := fun _ => ((List T_api_Event) × Int)) trace_At.l0_k.body := fun f g hfg p => match p with
  | .l0 x_1 a_7 a_21 x_22 x_23 => LeO.ite (LeO.bind (LeO.refl _) fun y1 => LeO.ite (LeO.bind (LeO.refl _) fun l19 => (hfg _)) ((hfg _))) (LeO.refl _)
noncomputable def trace_At.l0_k.go (p : trace_At.l0_k.Pt) : Option ((List T_api_Event) × Int) := fixF (β := fun _ => ((List T_api_Event) × Int)) trace_At.l0_k.body p
noncomputable def trace_At.l0 (x_1 : Int) (a_7 : List T_api_Event) (a_21 : List T_api_Event) (x_22 : Int) (x_23 : Int) : Option ((List T_api_Event) × Int) := trace_At.l0_k.go (.l0 x_1 a_7 a_21 x_22 x_23)
theorem trace_At.l0_eq (x_1 : Int) (a_7 : List T_api_Event) (a_21 : List T_api_Event) (x_22 : Int) (x_23 : Int) : trace_At.l0 x_1 a_7 a_21 x_22 x_23 = if x_23 < x_22 then (Option.bind (gi a_21 x_23) fun y1 => if y1.Place = x_1 then (Option.bind (ap 24 a_7 ([y1] : List T_api_Event)) fun l19 => (trace_At.l0 x_1 l19 a_21 x_22 (IntKind.wrap .i64 (x_23 + (1 : Int))))) else ((trace_At.l0 x_1 a_7 a_21 x_22 (IntKind.wrap .i64 (x_23 + (1 : Int)))))) else (some (a_7, (0 : Int))) := fixF_eq trace_At.l0_k.mono _
def trace_At.l0_k.I : (p : trace_At.l0_k.Pt) → ((List T_api_Event) × Int) → Prop
  | .l0 x_1 a_7 a_21 x_22 x_23, r => ∀ (W : Nat → Prop) (h0 m0 h m : Heap) (A_7 : Option Addr) (n_7 c_7 : Nat) (A_21 : Option Addr) (n_21 c_21 : Nat) (O : Hold W h0 m0 h m [rR (aE T_api_Event.T) A_7 c_7 a_7]) (ne_7 : n_7 = List.length a_7) (ne_21 : n_21 = List.length a_21) (k_21 : List.length a_21 ≤ c_21) (r_21 : Rd 3 T_api_Event.E m A_21 a_21), f48.l0 (trace_At.post W h0 m0 r) x_1 A_7 n_7 c_7 A_21 n_21 c_21 x_22 x_23 h
set_option maxRecDepth 100000 in
theorem trace_At.l0_k.step_l0 (go : (p : trace_At.l0_k.Pt) → Option ((List T_api_Event) × Int)) (ih : ∀ p r, go p = some r → trace_At.l0_k.I p r) (x_1 : Int) (a_7 : List T_api_Event) (a_21 : List T_api_Event) (x_22 : Int) (x_23 : Int) (r : (List T_api_Event) × Int) (e : trace_At.l0_k.body go (.l0 x_1 a_7 a_21 x_22 x_23) = some r) : trace_At.l0_k.I (.l0 x_1 a_7 a_21 x_22 x_23) r := by
  unfold trace_At.l0_k.body at e
  intro W h0 m0 h m A_7 n_7 c_7 A_21 n_21 c_21 O ne_7 ne_21 k_21 r_21
  subst ne_7
  subst ne_21
  refine f48.l0_in ?_
  unfold f48.l0T
  refine split_dec_e e (fun c31 e => ?_) (fun c31 e => ?_)
  · obtain ⟨y1, g2, e⟩ := bind_e e
    refine r_21.addr rfl g2 fun a3 cs4 ha5 hc6 he7 => ?_
    refine ⟨_, ldAn O.s hc6 rfl, ?_⟩
    refine O.new fun h8 x9 O10 => ?_
    refine ⟨_, rfl, (T_api_Event.T.len _ _ _ he7), ?_⟩
    refine O10.stA 1 rfl (T_api_Event.T.len _ _ _ he7) (T_api_Event.T.flat _ _ _ he7) fun h12 O13 => ?_
    refine ⟨_, ld0 (Sub.refl _) (O13.all 1 rfl) (T_api_Event.g0 he7), _, rfl, ?_⟩
    refine split_eq_e e (fun c30 e => ?_) (fun c30 e => ?_)
    · refine ⟨_, ldAn (Sub.refl _) (O13.all 1 rfl) (T_api_Event.T.len _ _ _ he7), ?_⟩
      refine ⟨cs4, rfl, (T_api_Event.T.len _ _ _ he7), ?_⟩
      refine O13.new fun h14 x15 O16 => ?_
      have O18 := O16.recell 2 rfl (cs' := cs4 ++ []) rfl
      obtain ⟨l19, g20, e⟩ := bind_e e
      have O27 := O18.rowE (l := ([y1] : List T_api_Event)) 2 rfl T_api_Event.T (show CsE _ _ _ _ _ from (CsE.cons he7 (T_api_Event.T.len _ _ _ he7) CsE.nil)) rfl
      refine O27.app 0 rfl rfl rfl ((O27.os 2 rfl).srcE rfl) (by decide) g20 fun A21 c22 h23 O24 => ?_
      refine ⟨_, _, _, rfl, ?_⟩
      have O28 := O24.nm
      exact (ih _ _ e) _ _ _ _ _ _ _ _ _ _ _ (O28.pick [0]).nm rfl rfl k_21 r_21
    · have O29 := O13.nm
      exact (ih _ _ e) _ _ _ _ _ _ _ _ _ _ _ (O29.pick [0]).nm rfl rfl k_21 r_21
  · cases e
    exact ⟨_, _, _, _, O.pick [0], rfl, rfl⟩
theorem trace_At.l0_k.all {p : trace_At.l0_k.Pt} {r : ((List T_api_Event) × Int)} (e : trace_At.l0_k.go p = some r) : trace_At.l0_k.I p r := fixF_ind (β := fun _ => ((List T_api_Event) × Int)) trace_At.l0_k.mono (I := trace_At.l0_k.I) (fun go ih p r e => match p with
  | .l0 x_1 a_7 a_21 x_22 x_23 => trace_At.l0_k.step_l0 go ih x_1 a_7 a_21 x_22 x_23 r e
  ) e
theorem trace_At.l0.walk {W : Nat → Prop} {h0 m0 h m : Heap} {A_7 : Option Addr} {n_7 c_7 : Nat} {A_21 : Option Addr} {n_21 c_21 : Nat} {x_1 : Int} {a_7 : List T_api_Event} {a_21 : List T_api_Event} {x_22 : Int} {x_23 : Int} (O : Hold W h0 m0 h m [rR (aE T_api_Event.T) A_7 c_7 a_7]) (ne_7 : n_7 = List.length a_7) (ne_21 : n_21 = List.length a_21) (k_21 : List.length a_21 ≤ c_21) (r_21 : Rd 3 T_api_Event.E m A_21 a_21) {r : (List T_api_Event) × Int} (e : trace_At.l0 x_1 a_7 a_21 x_22 x_23 = some r) : f48.l0 (trace_At.post W h0 m0 r) x_1 A_7 n_7 c_7 A_21 n_21 c_21 x_22 x_23 h := trace_At.l0_k.all (p := .l0 x_1 a_7 a_21 x_22 x_23) e W h0 m0 h m A_7 n_7 c_7 A_21 n_21 c_21 O ne_7 ne_21 k_21 r_21

noncomputable def trace_At.j0 (a_0 : List T_api_Event) (x_1 : Int) : Option ((List T_api_Event) × Int) :=
  (trace_At.l0 x_1 ([] : List T_api_Event) a_0 (((List.length a_0) : Nat) : Int) (0 : Int))
set_option maxRecDepth 100000 in
theorem trace_At.j0.walk {W : Nat → Prop} {h0 m0 h m : Heap} {A_0 : Option Addr} {n_0 c_0 : Nat} {a_0 : List T_api_Event} {x_1 : Int} (O : Hold W h0 m0 h m []) (ne_0 : n_0 = List.length a_0) (k_0 : List.length a_0 ≤ c_0) (r_0 : Rd 3 T_api_Event.E m A_0 a_0) {r : (List T_api_Event) × Int} (e : trace_At.j0 a_0 x_1 = some r) : f48.j0 (trace_At.post W h0 m0 r) A_0 n_0 c_0 x_1 h := by
  unfold trace_At.j0 at e
  subst ne_0
  refine f48.j0_in ?_
  unfold f48.j0T
  have O1 := O.nil (aE T_api_Event.T) none
  have O3 := O1.nm
  exact trace_At.l0.walk (O3.pick [0]).nm rfl rfl k_0 r_0 e

noncomputable def trace_At.j1 (a_0 : List T_api_Event) (x_1 : Int) (b_20 : Bool) : Option ((List T_api_Event) × Int) :=
  if b_20 = true then (some (([] : List T_api_Event), (1 : Int))) else ((trace_At.j0 a_0 x_1))
set_option maxRecDepth 100000 in
theorem trace_At.j1.walk {W : Nat → Prop} {h0 m0 h m : Heap} {A_0 : Option Addr} {n_0 c_0 : Nat} {a_0 : List T_api_Event} {x_1 : Int} {b_20 : Bool} (O : Hold W h0 m0 h m []) (ne_0 : n_0 = List.length a_0) (k_0 : List.length a_0 ≤ c_0) (r_0 : Rd 3 T_api_Event.E m A_0 a_0) {r : (List T_api_Event) × Int} (e : trace_At.j1 a_0 x_1 b_20 = some r) : f48.j1 (trace_At.post W h0 m0 r) A_0 n_0 c_0 x_1 b_20 h := by
  unfold trace_At.j1 at e
  subst ne_0
  refine f48.j1_in ?_
  unfold f48.j1T
  refine split_any_e e (fun c4 e => ?_) (fun c4 e => ?_)
  · have O1 := O.nil (aE T_api_Event.T) none
    have O3 := O1.nm
    cases e
    exact ⟨_, _, _, _, O3.pick [0], rfl, rfl⟩
  · exact trace_At.j0.walk (O.pick []).nm rfl k_0 r_0 e

noncomputable def trace_At (a_0 : List T_api_Event) (x_1 : Int) : Option ((List T_api_Event) × Int) :=
  Option.bind (clock_Check a_0) fun y1 => if y1 = (0 : Int) then (if x_1 < (0 : Int) then ((trace_At.j1 a_0 x_1 true)) else ((trace_At.j1 a_0 x_1 (decide (x_1 ≥ (8 : Int)))))) else (some (([] : List T_api_Event), y1))
set_option maxRecDepth 100000 in
theorem trace_At.walk {W : Nat → Prop} {h m : Heap} {A_0 : Option Addr} {n_0 c_0 : Nat} {a_0 : List T_api_Event} {x_1 : Int} (O : Hold W h m h m []) (ne_0 : n_0 = List.length a_0) (k_0 : List.length a_0 ≤ c_0) (r_0 : Rd 3 T_api_Event.E m A_0 a_0) {r : (List T_api_Event) × Int} (e : trace_At a_0 x_1 = some r) : Run Try.prog 48 #[Value.slice A_0 n_0 c_0, Value.int .i64 x_1] h (trace_At.post W h m r) := by
  unfold trace_At at e
  subst ne_0
  refine f48.run ?_
  unfold f48.runT
  obtain ⟨y1, g2, e⟩ := bind_e e
  refine (clock_Check.walk (Hold.start (W := No) O.s) rfl k_0 r_0 g2).mono ?_
  rintro _ h3 ⟨m4, Q5, rfl⟩
  have O7 := Hold.nm (O.retC Q5 vfs_nil)
  refine ⟨_, rfl, ?_⟩
  refine split_ne_e e (fun c12 e => ?_) (fun c12 e => ?_)
  · have O8 := O7.nil (aE T_api_Event.T) none
    have O10 := O8.nm
    cases e
    exact ⟨_, _, _, _, O10.pick [0], rfl, rfl⟩
  · refine split_dec_e e (fun c11 e => ?_) (fun c11 e => ?_)
    · exact trace_At.j1.walk (O7.pick []).nm rfl k_0 r_0 e
    · exact trace_At.j1.walk (O7.pick []).nm rfl k_0 r_0 e

/-! ### 52 slices.EqualFunc[[]roadstead/api.Event,[]roadstead/api.Event,roadstead/api.Event,roadstead/api.Event] -/
def slices_EqualFunc_52.post (W : Nat → Prop) (h0 m0 : Heap) (r : Bool) (v : Value) (h : Heap) : Prop := ∃ m , Hold W h0 m0 h m [] ∧ v = .bool r
inductive slices_EqualFunc_52.l0_k.Pt where
  | l0 (a_1 : List T_api_Event) (p_2 : T_api_Event → T_api_Event → Option Bool) (a_15 : List T_api_Event) (x_16 : Int) (x_17 : Int)
noncomputable def slices_EqualFunc_52.l0_k.body (go : (p : slices_EqualFunc_52.l0_k.Pt) → Option (Bool)) : (p : slices_EqualFunc_52.l0_k.Pt) → Option (Bool)
  | .l0 a_1 p_2 a_15 x_16 x_17 => if x_17 < x_16 then (Option.bind (gi a_15 x_17) fun y1 => Option.bind (gi a_1 x_17) fun y14 => Option.bind (p_2 y1 y14) fun y27 => if y27 = true then ((go (.l0 a_1 p_2 a_15 x_16 (IntKind.wrap .i64 (x_17 + (1 : Int)))))) else (some (false))) else (some (true))
theorem slices_EqualFunc_52.l0_k.mono : MonoF (β := fun _ => (Bool)) slices_EqualFunc_52.l0_k.body := fun f g hfg p => match p with
  | .l0 a_1 p_2 a_15 x_16 x_17 => LeO.ite (LeO.bind (LeO.refl _) fun y1 => LeO.bind (LeO.refl _) fun y14 => LeO.bind (LeO.refl _) fun y27 => LeO.ite ((hfg _)) (LeO.refl _)) (LeO.refl _)
noncomputable def slices_EqualFunc_52.l0_k.go (p : slices_EqualFunc_52.l0_k.Pt) : Option (Bool) := fixF (β := fun _ => (Bool)) slices_EqualFunc_52.l0_k.body p
noncomputable def slices_EqualFunc_52.l0 (a_1 : List T_api_Event) (p_2 : T_api_Event → T_api_Event → Option Bool) (a_15 : List T_api_Event) (x_16 : Int) (x_17 : Int) : Option (Bool) := slices_EqualFunc_52.l0_k.go (.l0 a_1 p_2 a_15 x_16 x_17)
theorem slices_EqualFunc_52.l0_eq (a_1 : List T_api_Event) (p_2 : T_api_Event → T_api_Event → Option Bool) (a_15 : List T_api_Event) (x_16 : Int) (x_17 : Int) : slices_EqualFunc_52.l0 a_1 p_2 a_15 x_16 x_17 = if x_17 < x_16 then (Option.bind (gi a_15 x_17) fun y1 => Option.bind (gi a_1 x_17) fun y14 => Option.bind (p_2 y1 y14) fun y27 => if y27 = true then ((slices_EqualFunc_52.l0 a_1 p_2 a_15 x_16 (IntKind.wrap .i64 (x_17 + (1 : Int))))) else (some (false))) else (some (true)) := fixF_eq slices_EqualFunc_52.l0_k.mono _
def slices_EqualFunc_52.l0_k.I : (p : slices_EqualFunc_52.l0_k.Pt) → (Bool) → Prop
  | .l0 a_1 p_2 a_15 x_16 x_17, r => ∀ (W : Nat → Prop) (h0 m0 h m : Heap) (A_1 : Option Addr) (n_1 c_1 : Nat) (fv_2 : Value) (A_15 : Option Addr) (n_15 c_15 : Nat) (O : Hold W h0 m0 h m []) (ne_1 : n_1 = List.length a_1) (k_1 : List.length a_1 ≤ c_1) (r_1 : Rd 3 T_api_Event.E m A_1 a_1) (f_2 : ∀ h' m', Sub m0 m' → Sub m' h' → ∀ (y0 : T_api_Event) (cs0 : List Value) (_ : T_api_Event.E m' y0 cs0) (y1 : T_api_Event) (cs1 : List Value) (_ : T_api_Event.E m' y1 cs1) (r : Bool), p_2 y0 y1 = some r → CallF Try.prog fv_2 [.agg cs0.toArray, .agg cs1.toArray] h' (fun v h'' => v = .bool r ∧ Ext h' h'')) (ne_15 : n_15 = List.length a_15) (k_15 : List.length a_15 ≤ c_15) (r_15 : Rd 3 T_api_Event.E m A_15 a_15), f52.l0 (slices_EqualFunc_52.post W h0 m0 r) A_1 n_1 c_1 fv_2 A_15 n_15 c_15 x_16 x_17 h
set_option maxRecDepth 100000 in
theorem slices_EqualFunc_52.l0_k.step_l0 (go : (p : slices_EqualFunc_52.l0_k.Pt) → Option (Bool)) (ih : ∀ p r, go p = some r → slices_EqualFunc_52.l0_k.I p r) (a_1 : List T_api_Event) (p_2 : T_api_Event → T_api_Event → Option Bool) (a_15 : List T_api_Event) (x_16 : Int) (x_17 : Int) (r : Bool) (e : slices_EqualFunc_52.l0_k.body go (.l0 a_1 p_2 a_15 x_16 x_17) = some r) : slices_EqualFunc_52.l0_k.I (.l0 a_1 p_2 a_15 x_16 x_17) r := by
  unfold slices_EqualFunc_52.l0_k.body at e
  intro W h0 m0 h m A_1 n_1 c_1 fv_2 A_15 n_15 c_15 O ne_1 k_1 r_1 f_2 ne_15 k_15 r_15
  subst ne_1
  subst ne_15
  refine f52.l0_in ?_
  unfold f52.l0T
  refine split_dec_e e (fun c35 e => ?_) (fun c35 e => ?_)
  · obtain ⟨y1, g2, e⟩ := bind_e e
    refine r_15.addr rfl g2 fun a3 cs4 ha5 hc6 he7 => ?_
    refine ⟨_, ldAn O.s hc6 rfl, ?_⟩
    refine O.new fun h8 x9 O10 => ?_
    refine ⟨_, rfl, (T_api_Event.T.len _ _ _ he7), ?_⟩
    refine O10.stA 0 rfl (T_api_Event.T.len _ _ _ he7) (T_api_Event.T.flat _ _ _ he7) fun h12 O13 => ?_
    obtain ⟨y14, g15, e⟩ := bind_e e
    refine r_1.addr rfl g15 fun a16 cs17 ha18 hc19 he20 => ?_
    refine ⟨_, ldAn O13.s hc19 rfl, ?_⟩
    refine O13.new fun h21 x22 O23 => ?_
    refine ⟨_, rfl, (T_api_Event.T.len _ _ _ he20), ?_⟩
    refine O23.stA 1 rfl (T_api_Event.T.len _ _ _ he20) (T_api_Event.T.flat _ _ _ he20) fun h25 O26 => ?_
    refine ⟨_, ldAn (Sub.refl _) (O26.all 0 rfl) (T_api_Event.T.len _ _ _ he7), ?_⟩
    refine ⟨_, ldAn (Sub.refl _) (O26.all 1 rfl) (T_api_Event.T.len _ _ _ he20), ?_⟩
    obtain ⟨y27, g28, e⟩ := bind_e e
    refine CallF.mono (f_2 _ _ O.up O26.s _ _ he7 _ _ he20 _ g28) ?_
    rintro _ h29 ⟨rfl, x30⟩
    have O31 := O26.ext x30
    refine ⟨_, rfl, ?_⟩
    refine split_not ?_
    refine split_any_e e (fun c34 e => ?_) (fun c34 e => ?_)
    · have O32 := O31.nm
      exact (ih _ _ e) _ _ _ _ _ _ _ _ _ _ _ _ (O32.pick []).nm rfl k_1 r_1 f_2 rfl k_15 r_15
    · have O33 := O31.nm
      cases e
      exact ⟨_, O33.pick [], rfl⟩
  · cases e
    exact ⟨_, O.pick [], rfl⟩
theorem slices_EqualFunc_52.l0_k.all {p : slices_EqualFunc_52.l0_k.Pt} {r : (Bool)} (e : slices_EqualFunc_52.l0_k.go p = some r) : slices_EqualFunc_52.l0_k.I p r := fixF_ind (β := fun _ => (Bool)) slices_EqualFunc_52.l0_k.mono (I := slices_EqualFunc_52.l0_k.I) (fun go ih p r e => match p with
  | .l0 a_1 p_2 a_15 x_16 x_17 => slices_EqualFunc_52.l0_k.step_l0 go ih a_1 p_2 a_15 x_16 x_17 r e
  ) e
theorem slices_EqualFunc_52.l0.walk {W : Nat → Prop} {h0 m0 h m : Heap} {A_1 : Option Addr} {n_1 c_1 : Nat} {fv_2 : Value} {A_15 : Option Addr} {n_15 c_15 : Nat} {a_1 : List T_api_Event} {p_2 : T_api_Event → T_api_Event → Option Bool} {a_15 : List T_api_Event} {x_16 : Int} {x_17 : Int} (O : Hold W h0 m0 h m []) (ne_1 : n_1 = List.length a_1) (k_1 : List.length a_1 ≤ c_1) (r_1 : Rd 3 T_api_Event.E m A_1 a_1) (f_2 : ∀ h' m', Sub m0 m' → Sub m' h' → ∀ (y0 : T_api_Event) (cs0 : List Value) (_ : T_api_Event.E m' y0 cs0) (y1 : T_api_Event) (cs1 : List Value) (_ : T_api_Event.E m' y1 cs1) (r : Bool), p_2 y0 y1 = some r → CallF Try.prog fv_2 [.agg cs0.toArray, .agg cs1.toArray] h' (fun v h'' => v = .bool r ∧ Ext h' h'')) (ne_15 : n_15 = List.length a_15) (k_15 : List.length a_15 ≤ c_15) (r_15 : Rd 3 T_api_Event.E m A_15 a_15) {r : Bool} (e : slices_EqualFunc_52.l0 a_1 p_2 a_15 x_16 x_17 = some r) : f52.l0 (slices_EqualFunc_52.post W h0 m0 r) A_1 n_1 c_1 fv_2 A_15 n_15 c_15 x_16 x_17 h := slices_EqualFunc_52.l0_k.all (p := .l0 a_1 p_2 a_15 x_16 x_17) e W h0 m0 h m A_1 n_1 c_1 fv_2 A_15 n_15 c_15 O ne_1 k_1 r_1 f_2 ne_15 k_15 r_15

noncomputable def slices_EqualFunc_52 (a_0 : List T_api_Event) (a_1 : List T_api_Event) (p_2 : T_api_Event → T_api_Event → Option Bool) : Option (Bool) :=
  if (((List.length a_0) : Nat) : Int) = (((List.length a_1) : Nat) : Int) then ((slices_EqualFunc_52.l0 a_1 p_2 a_0 (((List.length a_0) : Nat) : Int) (0 : Int))) else (some (false))
set_option maxRecDepth 100000 in
theorem slices_EqualFunc_52.walk {W : Nat → Prop} {h m : Heap} {A_0 : Option Addr} {n_0 c_0 : Nat} {A_1 : Option Addr} {n_1 c_1 : Nat} {fv_2 : Value} {a_0 : List T_api_Event} {a_1 : List T_api_Event} {p_2 : T_api_Event → T_api_Event → Option Bool} (O : Hold W h m h m []) (ne_0 : n_0 = List.length a_0) (k_0 : List.length a_0 ≤ c_0) (r_0 : Rd 3 T_api_Event.E m A_0 a_0) (ne_1 : n_1 = List.length a_1) (k_1 : List.length a_1 ≤ c_1) (r_1 : Rd 3 T_api_Event.E m A_1 a_1) (f_2 : ∀ h' m', Sub m m' → Sub m' h' → ∀ (y0 : T_api_Event) (cs0 : List Value) (_ : T_api_Event.E m' y0 cs0) (y1 : T_api_Event) (cs1 : List Value) (_ : T_api_Event.E m' y1 cs1) (r : Bool), p_2 y0 y1 = some r → CallF Try.prog fv_2 [.agg cs0.toArray, .agg cs1.toArray] h' (fun v h'' => v = .bool r ∧ Ext h' h'')) {r : Bool} (e : slices_EqualFunc_52 a_0 a_1 p_2 = some r) : Run Try.prog 52 #[Value.slice A_0 n_0 c_0, Value.slice A_1 n_1 c_1, fv_2] h (slices_EqualFunc_52.post W h m r) := by
  unfold slices_EqualFunc_52 at e
  subst ne_0
  subst ne_1
  refine f52.run ?_
  unfold f52.runT
  refine split_ne_e e (fun c1 e => ?_) (fun c1 e => ?_)
  · cases e
    exact ⟨_, O.pick [], rfl⟩
  · exact slices_EqualFunc_52.l0.walk (O.pick []).nm rfl k_1 r_1 f_2 rfl k_0 r_0 e
theorem slices_EqualFunc_52.val {l : List T_api_Event} {m : List T_api_Event} {p : T_api_Event → T_api_Event → Option Bool} (q : T_api_Event → T_api_Event → Bool) (hp : ∀ x ∈ l, ∀ y ∈ m, p x y = some (q x y)) (hl : l.length ≤ 4611686018427387904) : slices_EqualFunc_52 l m p = some (decide (l.length = m.length) && (l.zip m).all fun x => q x.1 x.2) := equalFunc_val (fun a b p n i => slices_EqualFunc_52.l0_eq b p a n i) (fun _ _ _ => rfl) q hp hl

/-! ### 87 roadstead/trace.alike -/
def trace_alike.post (W : Nat → Prop) (h0 m0 : Heap) (r : Bool) (v : Value) (h : Heap) : Prop := ∃ m , Hold W h0 m0 h m [] ∧ v = .bool r
noncomputable def trace_alike (y_0 : T_api_Event) (y_1 : T_api_Event) : Option (Bool) :=
  if y_0.Place = y_1.Place then (if y_0.Kind = y_1.Kind then (if y_0.Kind = (1 : Int) then (some (true)) else (some ((y_0.Msg == y_1.Msg)))) else (some (false))) else (some (false))
set_option maxRecDepth 100000 in
theorem trace_alike.walk {W : Nat → Prop} {h m : Heap} {cs_0 : List Value} {cs_1 : List Value} {y_0 : T_api_Event} {y_1 : T_api_Event} (O : Hold W h m h m []) (e_0 : T_api_Event.E m y_0 cs_0) (e_1 : T_api_Event.E m y_1 cs_1) {r : Bool} (e : trace_alike y_0 y_1 = some r) : Run Try.prog 87 #[Value.agg cs_0.toArray, Value.agg cs_1.toArray] h (trace_alike.post W h m r) := by
  unfold trace_alike at e
  refine f87.run ?_
  unfold f87.runT
  refine O.new fun h1 x2 O3 => ?_
  refine O3.new fun h5 x6 O7 => ?_
  refine ⟨_, ld0 (Sub.refl _) (O7.all 0 rfl) (T_api_Event.g0 e_0), _, rfl, ?_⟩
  refine ⟨_, ld0 (Sub.refl _) (O7.all 1 rfl) (T_api_Event.g0 e_1), _, rfl, ?_⟩
  refine split_eq_e e (fun c15 e => ?_) (fun c15 e => ?_)
  · refine ⟨_, ldk (k := 1) (Sub.refl _) (O7.all 0 rfl) (T_api_Event.g1 e_0), _, rfl, ?_⟩
    refine ⟨_, ldk (k := 1) (Sub.refl _) (O7.all 1 rfl) (T_api_Event.g1 e_1), _, rfl, ?_⟩
    refine split_eq_e e (fun c13 e => ?_) (fun c13 e => ?_)
    · refine ⟨_, ldk (k := 1) (Sub.refl _) (O7.all 0 rfl) (T_api_Event.g1 e_0), _, rfl, ?_⟩
      refine split_eq_e e (fun c11 e => ?_) (fun c11 e => ?_)
      · have O9 := O7.nm
        cases e
        exact ⟨_, O9.pick [], rfl⟩
      · refine ⟨_, ldk (k := 2) (Sub.refl _) (O7.all 0 rfl) (T_api_Event.g2 e_0), _, rfl, ?_⟩
        refine ⟨_, ldk (k := 2) (Sub.refl _) (O7.all 1 rfl) (T_api_Event.g2 e_1), _, rfl, ?_⟩
        have O10 := O7.nm
        cases e
        exact ⟨_, O10.pick [], rfl⟩
    · have O12 := O7.nm
      cases e
      exact ⟨_, O12.pick [], rfl⟩
  · have O14 := O7.nm
    cases e
    exact ⟨_, O14.pick [], rfl⟩

/-! ### 49 roadstead/trace.Same -/
def trace_Same.post (W : Nat → Prop) (h0 m0 : Heap) (r : Bool × Int) (v : Value) (h : Heap) : Prop := ∃ m , Hold W h0 m0 h m [] ∧ v = .tuple #[.bool r.1, .int .i64 r.2]
inductive trace_Same.l0_k.Pt where
  | l0 (a_0 : List T_api_Event) (a_1 : List T_api_Event) (x_23 : Int)
noncomputable def trace_Same.l0_k.body (go : (p : trace_Same.l0_k.Pt) → Option (Bool × Int)) : (p : trace_Same.l0_k.Pt) → Option (Bool × Int)
  | .l0 a_0 a_1 x_23 => if x_23 < (8 : Int) then (Option.bind (trace_At a_0 x_23) fun y1 => Option.bind (trace_At a_1 x_23) fun y13 => Option.bind (slices_EqualFunc_52 y1.1 y13.1 (fun z40 z41 => trace_alike z40 z41)) fun y25 => if y25 = true then ((go (.l0 a_0 a_1 (IntKind.wrap .i64 (x_23 + (1 : Int)))))) else (some (false, (0 : Int)))) else (some (true, (0 : Int)))
theorem trace_Same.l0_k.mono : MonoF (β := fun _ => (Bool × Int)) trace_Same.l0_k.body := fun f g hfg p => match p with
  | .l0 a_0 a_1 x_23 => LeO.ite (LeO.bind (LeO.refl _) fun y1 => LeO.bind (LeO.refl _) fun y13 => LeO.bind (LeO.refl _) fun y25 => LeO.ite ((hfg _)) (LeO.refl _)) (LeO.refl _)
noncomputable def trace_Same.l0_k.go (p : trace_Same.l0_k.Pt) : Option (Bool × Int) := fixF (β := fun _ => (Bool × Int)) trace_Same.l0_k.body p
noncomputable def trace_Same.l0 (a_0 : List T_api_Event) (a_1 : List T_api_Event) (x_23 : Int) : Option (Bool × Int) := trace_Same.l0_k.go (.l0 a_0 a_1 x_23)
theorem trace_Same.l0_eq (a_0 : List T_api_Event) (a_1 : List T_api_Event) (x_23 : Int) : trace_Same.l0 a_0 a_1 x_23 = if x_23 < (8 : Int) then (Option.bind (trace_At a_0 x_23) fun y1 => Option.bind (trace_At a_1 x_23) fun y13 => Option.bind (slices_EqualFunc_52 y1.1 y13.1 (fun z40 z41 => trace_alike z40 z41)) fun y25 => if y25 = true then ((trace_Same.l0 a_0 a_1 (IntKind.wrap .i64 (x_23 + (1 : Int))))) else (some (false, (0 : Int)))) else (some (true, (0 : Int))) := fixF_eq trace_Same.l0_k.mono _
def trace_Same.l0_k.I : (p : trace_Same.l0_k.Pt) → (Bool × Int) → Prop
  | .l0 a_0 a_1 x_23, r => ∀ (W : Nat → Prop) (h0 m0 h m : Heap) (A_0 : Option Addr) (n_0 c_0 : Nat) (A_1 : Option Addr) (n_1 c_1 : Nat) (O : Hold W h0 m0 h m []) (ne_0 : n_0 = List.length a_0) (k_0 : List.length a_0 ≤ c_0) (r_0 : Rd 3 T_api_Event.E m A_0 a_0) (ne_1 : n_1 = List.length a_1) (k_1 : List.length a_1 ≤ c_1) (r_1 : Rd 3 T_api_Event.E m A_1 a_1), f49.l0 (trace_Same.post W h0 m0 r) A_0 n_0 c_0 A_1 n_1 c_1 x_23 h
set_option maxRecDepth 100000 in
theorem trace_Same.l0_k.step_l0 (go : (p : trace_Same.l0_k.Pt) → Option (Bool × Int)) (ih : ∀ p r, go p = some r → trace_Same.l0_k.I p r) (a_0 : List T_api_Event) (a_1 : List T_api_Event) (x_23 : Int) (r : Bool × Int) (e : trace_Same.l0_k.body go (.l0 a_0 a_1 x_23) = some r) : trace_Same.l0_k.I (.l0 a_0 a_1 x_23) r := by
  unfold trace_Same.l0_k.body at e
  intro W h0 m0 h m A_0 n_0 c_0 A_1 n_1 c_1 O ne_0 k_0 r_0 ne_1 k_1 r_1
  subst ne_0
  subst ne_1
  refine f49.l0_in ?_
  unfold f49.l0T
  refine split_dec_e e (fun c52 e => ?_) (fun c52 e => ?_)
  · obtain ⟨y1, g2, e⟩ := bind_e e
    refine (trace_At.walk (Hold.start (W := No) O.s) rfl k_0 r_0 g2).mono ?_
    rintro _ h3 ⟨m4, A7, n8, c9, Q5, rfl, ne10⟩
    have O12 := Hold.nm (O.retC Q5 (vfs_cons (rR_vf (aE_vf (fun _ _ _ _ h => T_api_Event.keep h))) vfs_nil))
    subst ne10
    refine ⟨_, _, _, _, rfl, ?_⟩
    obtain ⟨y13, g14, e⟩ := bind_e e
    refine (trace_At.walk (Hold.start (W := No) O12.s) rfl k_1 r_1 g14).mono ?_
    rintro _ h15 ⟨m16, A19, n20, c21, Q17, rfl, ne22⟩
    have O24 := Hold.nm (O12.retC Q17 (vfs_cons (rR_vf (aE_vf (fun _ _ _ _ h => T_api_Event.keep h))) vfs_nil))
    subst ne22
    refine ⟨_, _, _, _, rfl, ?_⟩
    obtain ⟨y25, g26, e⟩ := bind_e e
    obtain ⟨m31, u32, s39, ⟨⟨r35, k36⟩, ⟨r37, k38⟩, _⟩, B33, C34⟩ := O24.lend0 [0, 1]
    replace r35 : Rd 3 T_api_Event.E m31 A7 y1.1 := r35
    replace k36 : List.length y1.1 ≤ c9 := k36
    replace r37 : Rd 3 T_api_Event.E m31 A19 y13.1 := r37
    replace k38 : List.length y13.1 ≤ c21 := k38
    refine (slices_EqualFunc_52.walk (Hold.start (W := No) s39) rfl k36 r35 rfl k38 r37 (fun h42 m43 u44 s45 y48 cs48 he48 y49 cs49 he49 r46 e47 => CallF.of [Value.agg cs48.toArray, Value.agg cs49.toArray] f87.ok rfl ((trace_alike.walk (Hold.start (W := No) s45) he48 he49 e47).mono (fun _ _ h => let ⟨_, t, e⟩ := h; ⟨e, t.S.ext⟩))) g26).mono ?_
    rintro _ h27 ⟨m28, Q29, rfl⟩
    have O50 := Hold.nm (C34 Q29 vfs_nil)
    refine ⟨_, rfl, ?_⟩
    refine split_not ?_
    refine split_any_e e (fun c51 e => ?_) (fun c51 e => ?_)
    · exact (ih _ _ e) _ _ _ _ _ _ _ _ _ _ _ (O50.pick []).nm rfl k_0 r_0 rfl k_1 r_1
    · cases e
      exact ⟨_, O50.pick [], rfl⟩
  · cases e
    exact ⟨_, O.pick [], rfl⟩
theorem trace_Same.l0_k.all {p : trace_Same.l0_k.Pt} {r : (Bool × Int)} (e : trace_Same.l0_k.go p = some r) : trace_Same.l0_k.I p r := fixF_ind (β := fun _ => (Bool × Int)) trace_Same.l0_k.mono (I := trace_Same.l0_k.I) (fun go ih p r e => match p with
  | .l0 a_0 a_1 x_23 => trace_Same.l0_k.step_l0 go ih a_0 a_1 x_23 r e
  ) e
theorem trace_Same.l0.walk {W : Nat → Prop} {h0 m0 h m : Heap} {A_0 : Option Addr} {n_0 c_0 : Nat} {A_1 : Option Addr} {n_1 c_1 : Nat} {a_0 : List T_api_Event} {a_1 : List T_api_Event} {x_23 : Int} (O : Hold W h0 m0 h m []) (ne_0 : n_0 = List.length a_0) (k_0 : List.length a_0 ≤ c_0) (r_0 : Rd 3 T_api_Event.E m A_0 a_0) (ne_1 : n_1 = List.length a_1) (k_1 : List.length a_1 ≤ c_1) (r_1 : Rd 3 T_api_Event.E m A_1 a_1) {r : Bool × Int} (e : trace_Same.l0 a_0 a_1 x_23 = some r) : f49.l0 (trace_Same.post W h0 m0 r) A_0 n_0 c_0 A_1 n_1 c_1 x_23 h := trace_Same.l0_k.all (p := .l0 a_0 a_1 x_23) e W h0 m0 h m A_0 n_0 c_0 A_1 n_1 c_1 O ne_0 k_0 r_0 ne_1 k_1 r_1

noncomputable def trace_Same (a_0 : List T_api_Event) (a_1 : List T_api_Event) : Option (Bool × Int) :=
  Option.bind (clock_Check a_0) fun y1 => if y1 = (0 : Int) then (Option.bind (clock_Check a_1) fun y8 => if y8 = (0 : Int) then ((trace_Same.l0 a_0 a_1 (0 : Int))) else (some (false, y8))) else (some (false, y1))
set_option maxRecDepth 100000 in
theorem trace_Same.walk {W : Nat → Prop} {h m : Heap} {A_0 : Option Addr} {n_0 c_0 : Nat} {A_1 : Option Addr} {n_1 c_1 : Nat} {a_0 : List T_api_Event} {a_1 : List T_api_Event} (O : Hold W h m h m []) (ne_0 : n_0 = List.length a_0) (k_0 : List.length a_0 ≤ c_0) (r_0 : Rd 3 T_api_Event.E m A_0 a_0) (ne_1 : n_1 = List.length a_1) (k_1 : List.length a_1 ≤ c_1) (r_1 : Rd 3 T_api_Event.E m A_1 a_1) {r : Bool × Int} (e : trace_Same a_0 a_1 = some r) : Run Try.prog 49 #[Value.slice A_0 n_0 c_0, Value.slice A_1 n_1 c_1] h (trace_Same.post W h m r) := by
  unfold trace_Same at e
  subst ne_0
  subst ne_1
  refine f49.run ?_
  unfold f49.runT
  obtain ⟨y1, g2, e⟩ := bind_e e
  refine (clock_Check.walk (Hold.start (W := No) O.s) rfl k_0 r_0 g2).mono ?_
  rintro _ h3 ⟨m4, Q5, rfl⟩
  have O7 := Hold.nm (O.retC Q5 vfs_nil)
  refine ⟨_, rfl, ?_⟩
  refine split_ne_e e (fun c16 e => ?_) (fun c16 e => ?_)
  · cases e
    exact ⟨_, O7.pick [], rfl⟩
  · obtain ⟨y8, g9, e⟩ := bind_e e
    refine (clock_Check.walk (Hold.start (W := No) O7.s) rfl k_1 r_1 g9).mono ?_
    rintro _ h10 ⟨m11, Q12, rfl⟩
    have O14 := Hold.nm (O7.retC Q12 vfs_nil)
    refine ⟨_, rfl, ?_⟩
    refine split_ne_e e (fun c15 e => ?_) (fun c15 e => ?_)
    · cases e
      exact ⟨_, O14.pick [], rfl⟩
    · exact trace_Same.l0.walk (O14.pick []).nm rfl k_0 r_0 rfl k_1 r_1 e

/-! ### 50 slices.Equal[[]roadstead/api.Event,roadstead/api.Event] -/
def slices_Equal_50.post (W : Nat → Prop) (h0 m0 : Heap) (r : Bool) (v : Value) (h : Heap) : Prop := ∃ m , Hold W h0 m0 h m [] ∧ v = .bool r
inductive slices_Equal_50.l0_k.Pt where
  | l0 (a_0 : List T_api_Event) (a_1 : List T_api_Event) (x_12 : Int) (x_13 : Int)
noncomputable def slices_Equal_50.l0_k.body (go : (p : slices_Equal_50.l0_k.Pt) → Option (Bool)) : (p : slices_Equal_50.l0_k.Pt) → Option (Bool)
  | .l0 a_0 a_1 x_12 x_13 => if x_13 < x_12 then (Option.bind (gi a_0 x_13) fun y1 => Option.bind (gi a_1 x_13) fun y8 => if (y1.Place == y8.Place && (y1.Kind == y8.Kind && (y1.Msg == y8.Msg && true))) = true then ((go (.l0 a_0 a_1 x_12 (IntKind.wrap .i64 (x_13 + (1 : Int)))))) else (some (false))) else (some (true))
theorem slices_Equal_50.l0_k.mono : MonoF (β := fun _ => (Bool)) slices_Equal_50.l0_k.body := fun f g hfg p => match p with
  | .l0 a_0 a_1 x_12 x_13 => LeO.ite (LeO.bind (LeO.refl _) fun y1 => LeO.bind (LeO.refl _) fun y8 => LeO.ite ((hfg _)) (LeO.refl _)) (LeO.refl _)
noncomputable def slices_Equal_50.l0_k.go (p : slices_Equal_50.l0_k.Pt) : Option (Bool) := fixF (β := fun _ => (Bool)) slices_Equal_50.l0_k.body p
noncomputable def slices_Equal_50.l0 (a_0 : List T_api_Event) (a_1 : List T_api_Event) (x_12 : Int) (x_13 : Int) : Option (Bool) := slices_Equal_50.l0_k.go (.l0 a_0 a_1 x_12 x_13)
theorem slices_Equal_50.l0_eq (a_0 : List T_api_Event) (a_1 : List T_api_Event) (x_12 : Int) (x_13 : Int) : slices_Equal_50.l0 a_0 a_1 x_12 x_13 = if x_13 < x_12 then (Option.bind (gi a_0 x_13) fun y1 => Option.bind (gi a_1 x_13) fun y8 => if (y1.Place == y8.Place && (y1.Kind == y8.Kind && (y1.Msg == y8.Msg && true))) = true then ((slices_Equal_50.l0 a_0 a_1 x_12 (IntKind.wrap .i64 (x_13 + (1 : Int))))) else (some (false))) else (some (true)) := fixF_eq slices_Equal_50.l0_k.mono _
def slices_Equal_50.l0_k.I : (p : slices_Equal_50.l0_k.Pt) → (Bool) → Prop
  | .l0 a_0 a_1 x_12 x_13, r => ∀ (W : Nat → Prop) (h0 m0 h m : Heap) (A_0 : Option Addr) (n_0 c_0 : Nat) (A_1 : Option Addr) (n_1 c_1 : Nat) (O : Hold W h0 m0 h m []) (ne_0 : n_0 = List.length a_0) (k_0 : List.length a_0 ≤ c_0) (r_0 : Rd 3 T_api_Event.E m A_0 a_0) (ne_1 : n_1 = List.length a_1) (k_1 : List.length a_1 ≤ c_1) (r_1 : Rd 3 T_api_Event.E m A_1 a_1), f50.l0 (slices_Equal_50.post W h0 m0 r) A_0 n_0 c_0 A_1 n_1 c_1 x_12 x_13 h
set_option maxRecDepth 100000 in
theorem slices_Equal_50.l0_k.step_l0 (go : (p : slices_Equal_50.l0_k.Pt) → Option (Bool)) (ih : ∀ p r, go p = some r → slices_Equal_50.l0_k.I p r) (a_0 : List T_api_Event) (a_1 : List T_api_Event) (x_12 : Int) (x_13 : Int) (r : Bool) (e : slices_Equal_50.l0_k.body go (.l0 a_0 a_1 x_12 x_13) = some r) : slices_Equal_50.l0_k.I (.l0 a_0 a_1 x_12 x_13) r := by
  unfold slices_Equal_50.l0_k.body at e
  intro W h0 m0 h m A_0 n_0 c_0 A_1 n_1 c_1 O ne_0 k_0 r_0 ne_1 k_1 r_1
  subst ne_0
  subst ne_1
  refine f50.l0_in ?_
  unfold f50.l0T
  refine split_dec_e e (fun c18 e => ?_) (fun c18 e => ?_)
  · obtain ⟨y1, g2, e⟩ := bind_e e
    refine r_0.addr rfl g2 fun a3 cs4 ha5 hc6 he7 => ?_
    obtain ⟨y8, g9, e⟩ := bind_e e
    refine r_1.addr rfl g9 fun a10 cs11 ha12 hc13 he14 => ?_
    refine ⟨_, ldAn O.s hc6 rfl, ?_⟩
    refine ⟨_, ldAn O.s hc13 rfl, ?_⟩
    obtain rfl : cs4 = [(Value.int .i64 y1.Place), (Value.int .i64 y1.Kind), (Value.int .i64 y1.Msg)] := he7
    obtain rfl : cs11 = [(Value.int .i64 y8.Place), (Value.int .i64 y8.Kind), (Value.int .i64 y8.Msg)] := he14
    refine gen_neq (b := (y1.Place == y8.Place && (y1.Kind == y8.Kind && (y1.Msg == y8.Msg && true)))) (by kernel_rfl) ?_
    refine ⟨_, rfl, ?_⟩
    refine split_not ?_
    refine split_any_e e (fun c17 e => ?_) (fun c17 e => ?_)
    · exact (ih _ _ e) _ _ _ _ _ _ _ _ _ _ _ (O.pick []).nm rfl k_0 r_0 rfl k_1 r_1
    · cases e
      exact ⟨_, O.pick [], rfl⟩
  · cases e
    exact ⟨_, O.pick [], rfl⟩
theorem slices_Equal_50.l0_k.all {p : slices_Equal_50.l0_k.Pt} {r : (Bool)} (e : slices_Equal_50.l0_k.go p = some r) : slices_Equal_50.l0_k.I p r := fixF_ind (β := fun _ => (Bool)) slices_Equal_50.l0_k.mono (I := slices_Equal_50.l0_k.I) (fun go ih p r e => match p with
  | .l0 a_0 a_1 x_12 x_13 => slices_Equal_50.l0_k.step_l0 go ih a_0 a_1 x_12 x_13 r e
  ) e
theorem slices_Equal_50.l0.walk {W : Nat → Prop} {h0 m0 h m : Heap} {A_0 : Option Addr} {n_0 c_0 : Nat} {A_1 : Option Addr} {n_1 c_1 : Nat} {a_0 : List T_api_Event} {a_1 : List T_api_Event} {x_12 : Int} {x_13 : Int} (O : Hold W h0 m0 h m []) (ne_0 : n_0 = List.length a_0) (k_0 : List.length a_0 ≤ c_0) (r_0 : Rd 3 T_api_Event.E m A_0 a_0) (ne_1 : n_1 = List.length a_1) (k_1 : List.length a_1 ≤ c_1) (r_1 : Rd 3 T_api_Event.E m A_1 a_1) {r : Bool} (e : slices_Equal_50.l0 a_0 a_1 x_12 x_13 = some r) : f50.l0 (slices_Equal_50.post W h0 m0 r) A_0 n_0 c_0 A_1 n_1 c_1 x_12 x_13 h := slices_Equal_50.l0_k.all (p := .l0 a_0 a_1 x_12 x_13) e W h0 m0 h m A_0 n_0 c_0 A_1 n_1 c_1 O ne_0 k_0 r_0 ne_1 k_1 r_1

noncomputable def slices_Equal_50 (a_0 : List T_api_Event) (a_1 : List T_api_Event) : Option (Bool) :=
  if (((List.length a_0) : Nat) : Int) = (((List.length a_1) : Nat) : Int) then ((slices_Equal_50.l0 a_0 a_1 (((List.length a_0) : Nat) : Int) (0 : Int))) else (some (false))
set_option maxRecDepth 100000 in
theorem slices_Equal_50.walk {W : Nat → Prop} {h m : Heap} {A_0 : Option Addr} {n_0 c_0 : Nat} {A_1 : Option Addr} {n_1 c_1 : Nat} {a_0 : List T_api_Event} {a_1 : List T_api_Event} (O : Hold W h m h m []) (ne_0 : n_0 = List.length a_0) (k_0 : List.length a_0 ≤ c_0) (r_0 : Rd 3 T_api_Event.E m A_0 a_0) (ne_1 : n_1 = List.length a_1) (k_1 : List.length a_1 ≤ c_1) (r_1 : Rd 3 T_api_Event.E m A_1 a_1) {r : Bool} (e : slices_Equal_50 a_0 a_1 = some r) : Run Try.prog 50 #[Value.slice A_0 n_0 c_0, Value.slice A_1 n_1 c_1] h (slices_Equal_50.post W h m r) := by
  unfold slices_Equal_50 at e
  subst ne_0
  subst ne_1
  refine f50.run ?_
  unfold f50.runT
  refine split_ne_e e (fun c1 e => ?_) (fun c1 e => ?_)
  · cases e
    exact ⟨_, O.pick [], rfl⟩
  · exact slices_Equal_50.l0.walk (O.pick []).nm rfl k_0 r_0 rfl k_1 r_1 e
theorem slices_Equal_50.val (l m : List T_api_Event) (hl : l.length ≤ 4611686018427387904) : ∃ b, slices_Equal_50 l m = some b ∧ (b = true ↔ l = m) := equal_val (R := fun x y => (x.Place == y.Place && (x.Kind == y.Kind && (x.Msg == y.Msg && true))) = true) (fun a b n i => slices_Equal_50.l0_eq a b n i) (fun _ _ => rfl) (fun x y => by cases x; cases y; simp) l m hl

/-! ### 51 roadstead/roadlaw4.of -/
def roadlaw4_of.post (W : Nat → Prop) (h0 m0 : Heap) (r : (List T_api_Event)) (v : Value) (h : Heap) : Prop := ∃ m A0 n0 c0, Hold W h0 m0 h m [rR (aE T_api_Event.T) A0 c0 r] ∧ v = .slice A0 n0 c0 ∧ n0 = List.length r
inductive roadlaw4_of.l0_k.Pt where
  | l0 (x_1 : Int) (a_5 : List T_api_Event) (a_8 : List T_api_Event) (x_9 : Int) (x_10 : Int)
noncomputable def roadlaw4_of.l0_k.body (go : (p : roadlaw4_of.l0_k.Pt) → Option ((List T_api_Event))) : (p : roadlaw4_of.l0_k.Pt) → Option ((List T_api_Event))
  | .l0 x_1 a_5 a_8 x_9 x_10 => if x_10 < x_9 then (Option.bind (gi a_8 x_10) fun y1 => if y1.Place = x_1 then (Option.bind (ap 24 a_5 ([y1] : List T_api_Event)) fun l19 => (go (.l0 x_1 l19 a_8 x_9 (IntKind.wrap .i64 (x_10 + (1 : Int)))))) else ((go (.l0 x_1 a_5 a_8 x_9 (IntKind.wrap .i64 (x_10 + (1 : Int))))))) else (some (a_5))
theorem roadlaw4_of.l0_k.mono : MonoF (β := fun _ => ((List T_api_Event))) roadlaw4_of.l0_k.body := fun f g hfg p => match p with
  | .l0 x_1 a_5 a_8 x_9 x_10 => LeO.ite (LeO.bind (LeO.refl _) fun y1 => LeO.ite (LeO.bind (LeO.refl _) fun l19 => (hfg _)) ((hfg _))) (LeO.refl _)
noncomputable def roadlaw4_of.l0_k.go (p : roadlaw4_of.l0_k.Pt) : Option ((List T_api_Event)) := fixF (β := fun _ => ((List T_api_Event))) roadlaw4_of.l0_k.body p
noncomputable def roadlaw4_of.l0 (x_1 : Int) (a_5 : List T_api_Event) (a_8 : List T_api_Event) (x_9 : Int) (x_10 : Int) : Option ((List T_api_Event)) := roadlaw4_of.l0_k.go (.l0 x_1 a_5 a_8 x_9 x_10)
theorem roadlaw4_of.l0_eq (x_1 : Int) (a_5 : List T_api_Event) (a_8 : List T_api_Event) (x_9 : Int) (x_10 : Int) : roadlaw4_of.l0 x_1 a_5 a_8 x_9 x_10 = if x_10 < x_9 then (Option.bind (gi a_8 x_10) fun y1 => if y1.Place = x_1 then (Option.bind (ap 24 a_5 ([y1] : List T_api_Event)) fun l19 => (roadlaw4_of.l0 x_1 l19 a_8 x_9 (IntKind.wrap .i64 (x_10 + (1 : Int))))) else ((roadlaw4_of.l0 x_1 a_5 a_8 x_9 (IntKind.wrap .i64 (x_10 + (1 : Int)))))) else (some (a_5)) := fixF_eq roadlaw4_of.l0_k.mono _
def roadlaw4_of.l0_k.I : (p : roadlaw4_of.l0_k.Pt) → ((List T_api_Event)) → Prop
  | .l0 x_1 a_5 a_8 x_9 x_10, r => ∀ (W : Nat → Prop) (h0 m0 h m : Heap) (A_5 : Option Addr) (n_5 c_5 : Nat) (A_8 : Option Addr) (n_8 c_8 : Nat) (O : Hold W h0 m0 h m [rR (aE T_api_Event.T) A_5 c_5 a_5]) (ne_5 : n_5 = List.length a_5) (ne_8 : n_8 = List.length a_8) (k_8 : List.length a_8 ≤ c_8) (r_8 : Rd 3 T_api_Event.E m A_8 a_8), f51.l0 (roadlaw4_of.post W h0 m0 r) x_1 A_5 n_5 c_5 A_8 n_8 c_8 x_9 x_10 h
set_option maxRecDepth 100000 in
theorem roadlaw4_of.l0_k.step_l0 (go : (p : roadlaw4_of.l0_k.Pt) → Option ((List T_api_Event))) (ih : ∀ p r, go p = some r → roadlaw4_of.l0_k.I p r) (x_1 : Int) (a_5 : List T_api_Event) (a_8 : List T_api_Event) (x_9 : Int) (x_10 : Int) (r : (List T_api_Event)) (e : roadlaw4_of.l0_k.body go (.l0 x_1 a_5 a_8 x_9 x_10) = some r) : roadlaw4_of.l0_k.I (.l0 x_1 a_5 a_8 x_9 x_10) r := by
  unfold roadlaw4_of.l0_k.body at e
  intro W h0 m0 h m A_5 n_5 c_5 A_8 n_8 c_8 O ne_5 ne_8 k_8 r_8
  subst ne_5
  subst ne_8
  refine f51.l0_in ?_
  unfold f51.l0T
  refine split_dec_e e (fun c31 e => ?_) (fun c31 e => ?_)
  · obtain ⟨y1, g2, e⟩ := bind_e e
    refine r_8.addr rfl g2 fun a3 cs4 ha5 hc6 he7 => ?_
    refine ⟨_, ldAn O.s hc6 rfl, ?_⟩
    refine O.new fun h8 x9 O10 => ?_
    refine ⟨_, rfl, (T_api_Event.T.len _ _ _ he7), ?_⟩
    refine O10.stA 1 rfl (T_api_Event.T.len _ _ _ he7) (T_api_Event.T.flat _ _ _ he7) fun h12 O13 => ?_
    refine ⟨_, ld0 (Sub.refl _) (O13.all 1 rfl) (T_api_Event.g0 he7), _, rfl, ?_⟩
    refine split_eq_e e (fun c30 e => ?_) (fun c30 e => ?_)
    · refine ⟨_, ldAn (Sub.refl _) (O13.all 1 rfl) (T_api_Event.T.len _ _ _ he7), ?_⟩
      refine ⟨cs4, rfl, (T_api_Event.T.len _ _ _ he7), ?_⟩
      refine O13.new fun h14 x15 O16 => ?_
      have O18 := O16.recell 2 rfl (cs' := cs4 ++ []) rfl
      obtain ⟨l19, g20, e⟩ := bind_e e
      have O27 := O18.rowE (l := ([y1] : List T_api_Event)) 2 rfl T_api_Event.T (show CsE _ _ _ _ _ from (CsE.cons he7 (T_api_Event.T.len _ _ _ he7) CsE.nil)) rfl
      refine O27.app 0 rfl rfl rfl ((O27.os 2 rfl).srcE rfl) (by decide) g20 fun A21 c22 h23 O24 => ?_
      refine ⟨_, _, _, rfl, ?_⟩
      have O28 := O24.nm
      exact (ih _ _ e) _ _ _ _ _ _ _ _ _ _ _ (O28.pick [0]).nm rfl rfl k_8 r_8
    · have O29 := O13.nm
      exact (ih _ _ e) _ _ _ _ _ _ _ _ _ _ _ (O29.pick [0]).nm rfl rfl k_8 r_8
  · cases e
    exact ⟨_, _, _, _, O.pick [0], rfl, rfl⟩
theorem roadlaw4_of.l0_k.all {p : roadlaw4_of.l0_k.Pt} {r : ((List T_api_Event))} (e : roadlaw4_of.l0_k.go p = some r) : roadlaw4_of.l0_k.I p r := fixF_ind (β := fun _ => ((List T_api_Event))) roadlaw4_of.l0_k.mono (I := roadlaw4_of.l0_k.I) (fun go ih p r e => match p with
  | .l0 x_1 a_5 a_8 x_9 x_10 => roadlaw4_of.l0_k.step_l0 go ih x_1 a_5 a_8 x_9 x_10 r e
  ) e
theorem roadlaw4_of.l0.walk {W : Nat → Prop} {h0 m0 h m : Heap} {A_5 : Option Addr} {n_5 c_5 : Nat} {A_8 : Option Addr} {n_8 c_8 : Nat} {x_1 : Int} {a_5 : List T_api_Event} {a_8 : List T_api_Event} {x_9 : Int} {x_10 : Int} (O : Hold W h0 m0 h m [rR (aE T_api_Event.T) A_5 c_5 a_5]) (ne_5 : n_5 = List.length a_5) (ne_8 : n_8 = List.length a_8) (k_8 : List.length a_8 ≤ c_8) (r_8 : Rd 3 T_api_Event.E m A_8 a_8) {r : (List T_api_Event)} (e : roadlaw4_of.l0 x_1 a_5 a_8 x_9 x_10 = some r) : f51.l0 (roadlaw4_of.post W h0 m0 r) x_1 A_5 n_5 c_5 A_8 n_8 c_8 x_9 x_10 h := roadlaw4_of.l0_k.all (p := .l0 x_1 a_5 a_8 x_9 x_10) e W h0 m0 h m A_5 n_5 c_5 A_8 n_8 c_8 O ne_5 ne_8 k_8 r_8

noncomputable def roadlaw4_of (a_0 : List T_api_Event) (x_1 : Int) : Option ((List T_api_Event)) :=
  (roadlaw4_of.l0 x_1 ([] : List T_api_Event) a_0 (((List.length a_0) : Nat) : Int) (0 : Int))
set_option maxRecDepth 100000 in
theorem roadlaw4_of.walk {W : Nat → Prop} {h m : Heap} {A_0 : Option Addr} {n_0 c_0 : Nat} {a_0 : List T_api_Event} {x_1 : Int} (O : Hold W h m h m []) (ne_0 : n_0 = List.length a_0) (k_0 : List.length a_0 ≤ c_0) (r_0 : Rd 3 T_api_Event.E m A_0 a_0) {r : (List T_api_Event)} (e : roadlaw4_of a_0 x_1 = some r) : Run Try.prog 51 #[Value.slice A_0 n_0 c_0, Value.int .i64 x_1] h (roadlaw4_of.post W h m r) := by
  unfold roadlaw4_of at e
  subst ne_0
  refine f51.run ?_
  unfold f51.runT
  have O1 := O.nil (aE T_api_Event.T) none
  have O3 := O1.nm
  exact roadlaw4_of.l0.walk (O3.pick [0]).nm rfl rfl k_0 r_0 e

/-! ### 53 roadstead/roadlaw4.TraceTells$1 -/
def roadlaw4_TraceTells_1.post (W : Nat → Prop) (h0 m0 : Heap) (r : Bool) (v : Value) (h : Heap) : Prop := ∃ m , Hold W h0 m0 h m [] ∧ v = .bool r
noncomputable def roadlaw4_TraceTells_1 (y_0 : T_api_Event) (y_1 : T_api_Event) : Option (Bool) :=
  if y_0.Kind = y_1.Kind then (if y_0.Kind = (1 : Int) then (some (true)) else (some ((y_0.Msg == y_1.Msg)))) else (some (false))
set_option maxRecDepth 100000 in
theorem roadlaw4_TraceTells_1.walk {W : Nat → Prop} {h m : Heap} {cs_0 : List Value} {cs_1 : List Value} {y_0 : T_api_Event} {y_1 : T_api_Event} (O : Hold W h m h m []) (e_0 : T_api_Event.E m y_0 cs_0) (e_1 : T_api_Event.E m y_1 cs_1) {r : Bool} (e : roadlaw4_TraceTells_1 y_0 y_1 = some r) : Run Try.prog 53 #[Value.agg cs_0.toArray, Value.agg cs_1.toArray] h (roadlaw4_TraceTells_1.post W h m r) := by
  unfold roadlaw4_TraceTells_1 at e
  refine f53.run ?_
  unfold f53.runT
  refine O.new fun h1 x2 O3 => ?_
  refine O3.new fun h5 x6 O7 => ?_
  refine ⟨_, ldk (k := 1) (Sub.refl _) (O7.all 0 rfl) (T_api_Event.g1 e_0), _, rfl, ?_⟩
  refine ⟨_, ldk (k := 1) (Sub.refl _) (O7.all 1 rfl) (T_api_Event.g1 e_1), _, rfl, ?_⟩
  refine split_eq_e e (fun c13 e => ?_) (fun c13 e => ?_)
  · refine ⟨_, ldk (k := 1) (Sub.refl _) (O7.all 0 rfl) (T_api_Event.g1 e_0), _, rfl, ?_⟩
    refine split_eq_e e (fun c11 e => ?_) (fun c11 e => ?_)
    · have O9 := O7.nm
      cases e
      exact ⟨_, O9.pick [], rfl⟩
    · refine ⟨_, ldk (k := 2) (Sub.refl _) (O7.all 0 rfl) (T_api_Event.g2 e_0), _, rfl, ?_⟩
      refine ⟨_, ldk (k := 2) (Sub.refl _) (O7.all 1 rfl) (T_api_Event.g2 e_1), _, rfl, ?_⟩
      have O10 := O7.nm
      cases e
      exact ⟨_, O10.pick [], rfl⟩
  · have O12 := O7.nm
    cases e
    exact ⟨_, O12.pick [], rfl⟩

/-! ### 6 roadstead/roadlaw4.TraceTells -/
def roadlaw4_TraceTells.post (W : Nat → Prop) (h0 m0 : Heap) (r : Bool) (v : Value) (h : Heap) : Prop := ∃ m , Hold W h0 m0 h m [] ∧ v = .bool r
inductive roadlaw4_TraceTells.l0_k.Pt where
  | l0 (a_0 : List T_api_Event) (a_1 : List T_api_Event) (b_15 : Bool) (x_16 : Int) (b_23 : Bool) (x_169 : Int)
noncomputable def roadlaw4_TraceTells.l0_k.body (go : (p : roadlaw4_TraceTells.l0_k.Pt) → Option (Bool)) : (p : roadlaw4_TraceTells.l0_k.Pt) → Option (Bool)
  | .l0 a_0 a_1 b_15 x_16 b_23 x_169 => if x_169 < (8 : Int) then (if b_23 = true then (Option.bind (roadlaw4_of a_0 x_169) fun y1 => Option.bind (roadlaw4_of a_1 x_169) fun y13 => Option.bind (slices_EqualFunc_52 y1 y13 (fun z40 z41 => roadlaw4_TraceTells_1 z40 z41)) fun y25 => (go (.l0 a_0 a_1 b_15 x_16 y25 (IntKind.wrap .i64 (x_169 + (1 : Int)))))) else ((go (.l0 a_0 a_1 b_15 x_16 false (IntKind.wrap .i64 (x_169 + (1 : Int))))))) else (if x_16 = (0 : Int) then (some ((b_15 == b_23))) else (some (false)))
theorem roadlaw4_TraceTells.l0_k.mono : MonoF (β := fun _ => (Bool)) roadlaw4_TraceTells.l0_k.body := fun f g hfg p => match p with
  | .l0 a_0 a_1 b_15 x_16 b_23 x_169 => LeO.ite (LeO.ite (LeO.bind (LeO.refl _) fun y1 => LeO.bind (LeO.refl _) fun y13 => LeO.bind (LeO.refl _) fun y25 => (hfg _)) ((hfg _))) (LeO.ite (LeO.refl _) (LeO.refl _))
noncomputable def roadlaw4_TraceTells.l0_k.go (p : roadlaw4_TraceTells.l0_k.Pt) : Option (Bool) := fixF (β := fun _ => (Bool)) roadlaw4_TraceTells.l0_k.body p
noncomputable def roadlaw4_TraceTells.l0 (a_0 : List T_api_Event) (a_1 : List T_api_Event) (b_15 : Bool) (x_16 : Int) (b_23 : Bool) (x_169 : Int) : Option (Bool) := roadlaw4_TraceTells.l0_k.go (.l0 a_0 a_1 b_15 x_16 b_23 x_169)
theorem roadlaw4_TraceTells.l0_eq (a_0 : List T_api_Event) (a_1 : List T_api_Event) (b_15 : Bool) (x_16 : Int) (b_23 : Bool) (x_169 : Int) : roadlaw4_TraceTells.l0 a_0 a_1 b_15 x_16 b_23 x_169 = if x_169 < (8 : Int) then (if b_23 = true then (Option.bind (roadlaw4_of a_0 x_169) fun y1 => Option.bind (roadlaw4_of a_1 x_169) fun y13 => Option.bind (slices_EqualFunc_52 y1 y13 (fun z40 z41 => roadlaw4_TraceTells_1 z40 z41)) fun y25 => (roadlaw4_TraceTells.l0 a_0 a_1 b_15 x_16 y25 (IntKind.wrap .i64 (x_169 + (1 : Int))))) else ((roadlaw4_TraceTells.l0 a_0 a_1 b_15 x_16 false (IntKind.wrap .i64 (x_169 + (1 : Int)))))) else (if x_16 = (0 : Int) then (some ((b_15 == b_23))) else (some (false))) := fixF_eq roadlaw4_TraceTells.l0_k.mono _
def roadlaw4_TraceTells.l0_k.I : (p : roadlaw4_TraceTells.l0_k.Pt) → (Bool) → Prop
  | .l0 a_0 a_1 b_15 x_16 b_23 x_169, r => ∀ (W : Nat → Prop) (h0 m0 h m : Heap) (A_0 : Option Addr) (n_0 c_0 : Nat) (A_1 : Option Addr) (n_1 c_1 : Nat) (O : Hold W h0 m0 h m []) (ne_0 : n_0 = List.length a_0) (k_0 : List.length a_0 ≤ c_0) (r_0 : Rd 3 T_api_Event.E m A_0 a_0) (ne_1 : n_1 = List.length a_1) (k_1 : List.length a_1 ≤ c_1) (r_1 : Rd 3 T_api_Event.E m A_1 a_1), f6.l0 (roadlaw4_TraceTells.post W h0 m0 r) A_0 n_0 c_0 A_1 n_1 c_1 b_15 x_16 b_23 x_169 h
set_option maxHeartbeats 4000000 in
set_option maxRecDepth 100000 in
theorem roadlaw4_TraceTells.l0_k.step_l0 (go : (p : roadlaw4_TraceTells.l0_k.Pt) → Option (Bool)) (ih : ∀ p r, go p = some r → roadlaw4_TraceTells.l0_k.I p r) (a_0 : List T_api_Event) (a_1 : List T_api_Event) (b_15 : Bool) (x_16 : Int) (b_23 : Bool) (x_169 : Int) (r : Bool) (e : roadlaw4_TraceTells.l0_k.body go (.l0 a_0 a_1 b_15 x_16 b_23 x_169) = some r) : roadlaw4_TraceTells.l0_k.I (.l0 a_0 a_1 b_15 x_16 b_23 x_169) r := by
  unfold roadlaw4_TraceTells.l0_k.body at e
  intro W h0 m0 h m A_0 n_0 c_0 A_1 n_1 c_1 O ne_0 k_0 r_0 ne_1 k_1 r_1
  subst ne_0
  subst ne_1
  refine f6.l0_in ?_
  unfold f6.l0T
  refine split_dec_e e (fun c53 e => ?_) (fun c53 e => ?_)
  · refine split_any_e e (fun c51 e => ?_) (fun c51 e => ?_)
    · obtain ⟨y1, g2, e⟩ := bind_e e
      refine (roadlaw4_of.walk (Hold.start (W := No) O.s) rfl k_0 r_0 g2).mono ?_
      rintro _ h3 ⟨m4, A7, n8, c9, Q5, rfl, ne10⟩
      have O12 := Hold.nm (O.retC Q5 (vfs_cons (rR_vf (aE_vf (fun _ _ _ _ h => T_api_Event.keep h))) vfs_nil))
      subst ne10
      refine ⟨_, _, _, rfl, ?_⟩
      obtain ⟨y13, g14, e⟩ := bind_e e
      refine (roadlaw4_of.walk (Hold.start (W := No) O12.s) rfl k_1 r_1 g14).mono ?_
      rintro _ h15 ⟨m16, A19, n20, c21, Q17, rfl, ne22⟩
      have O24 := Hold.nm (O12.retC Q17 (vfs_cons (rR_vf (aE_vf (fun _ _ _ _ h => T_api_Event.keep h))) vfs_nil))
      subst ne22
      refine ⟨_, _, _, rfl, ?_⟩
      obtain ⟨y25, g26, e⟩ := bind_e e
      obtain ⟨m31, u32, s39, ⟨⟨r35, k36⟩, ⟨r37, k38⟩, _⟩, B33, C34⟩ := O24.lend0 [0, 1]
      replace r35 : Rd 3 T_api_Event.E m31 A7 y1 := r35
      replace k36 : List.length y1 ≤ c9 := k36
      replace r37 : Rd 3 T_api_Event.E m31 A19 y13 := r37
      replace k38 : List.length y13 ≤ c21 := k38
      refine (slices_EqualFunc_52.walk (Hold.start (W := No) s39) rfl k36 r35 rfl k38 r37 (fun h42 m43 u44 s45 y48 cs48 he48 y49 cs49 he49 r46 e47 => CallF.of [Value.agg cs48.toArray, Value.agg cs49.toArray] f53.ok rfl ((roadlaw4_TraceTells_1.walk (Hold.start (W := No) s45) he48 he49 e47).mono (fun _ _ h => let ⟨_, t, e⟩ := h; ⟨e, t.S.ext⟩))) g26).mono ?_
      rintro _ h27 ⟨m28, Q29, rfl⟩
      have O50 := Hold.nm (C34 Q29 vfs_nil)
      refine ⟨_, rfl, ?_⟩
      exact (ih _ _ e) _ _ _ _ _ _ _ _ _ _ _ (O50.pick []).nm rfl k_0 r_0 rfl k_1 r_1
    · exact (ih _ _ e) _ _ _ _ _ _ _ _ _ _ _ (O.pick []).nm rfl k_0 r_0 rfl k_1 r_1
  · refine split_eq_e e (fun c52 e => ?_) (fun c52 e => ?_)
    · cases e
      exact ⟨_, O.pick [], rfl⟩
    · cases e
      exact ⟨_, O.pick [], rfl⟩
theorem roadlaw4_TraceTells.l0_k.all {p : roadlaw4_TraceTells.l0_k.Pt} {r : (Bool)} (e : roadlaw4_TraceTells.l0_k.go p = some r) : roadlaw4_TraceTells.l0_k.I p r := fixF_ind (β := fun _ => (Bool)) roadlaw4_TraceTells.l0_k.mono (I := roadlaw4_TraceTells.l0_k.I) (fun go ih p r e => match p with
  | .l0 a_0 a_1 b_15 x_16 b_23 x_169 => roadlaw4_TraceTells.l0_k.step_l0 go ih a_0 a_1 b_15 x_16 b_23 x_169 r e
  ) e
theorem roadlaw4_TraceTells.l0.walk {W : Nat → Prop} {h0 m0 h m : Heap} {A_0 : Option Addr} {n_0 c_0 : Nat} {A_1 : Option Addr} {n_1 c_1 : Nat} {a_0 : List T_api_Event} {a_1 : List T_api_Event} {b_15 : Bool} {x_16 : Int} {b_23 : Bool} {x_169 : Int} (O : Hold W h0 m0 h m []) (ne_0 : n_0 = List.length a_0) (k_0 : List.length a_0 ≤ c_0) (r_0 : Rd 3 T_api_Event.E m A_0 a_0) (ne_1 : n_1 = List.length a_1) (k_1 : List.length a_1 ≤ c_1) (r_1 : Rd 3 T_api_Event.E m A_1 a_1) {r : Bool} (e : roadlaw4_TraceTells.l0 a_0 a_1 b_15 x_16 b_23 x_169 = some r) : f6.l0 (roadlaw4_TraceTells.post W h0 m0 r) A_0 n_0 c_0 A_1 n_1 c_1 b_15 x_16 b_23 x_169 h := roadlaw4_TraceTells.l0_k.all (p := .l0 a_0 a_1 b_15 x_16 b_23 x_169) e W h0 m0 h m A_0 n_0 c_0 A_1 n_1 c_1 O ne_0 k_0 r_0 ne_1 k_1 r_1

noncomputable def roadlaw4_TraceTells.j3 (a_0 : List T_api_Event) (a_1 : List T_api_Event) (b_15 : Bool) (x_16 : Int) : Option (Bool) :=
  Option.bind (roadref4_History a_1) fun y1 => if y1 = (0 : Int) then ((roadlaw4_TraceTells.l0 a_0 a_1 b_15 x_16 true (0 : Int))) else (if x_16 = y1 then (some ((!b_15))) else (some (false)))
set_option maxRecDepth 100000 in
theorem roadlaw4_TraceTells.j3.walk {W : Nat → Prop} {h0 m0 h m : Heap} {A_0 : Option Addr} {n_0 c_0 : Nat} {A_1 : Option Addr} {n_1 c_1 : Nat} {a_0 : List T_api_Event} {a_1 : List T_api_Event} {b_15 : Bool} {x_16 : Int} (O : Hold W h0 m0 h m []) (ne_0 : n_0 = List.length a_0) (k_0 : List.length a_0 ≤ c_0) (r_0 : Rd 3 T_api_Event.E m A_0 a_0) (ne_1 : n_1 = List.length a_1) (k_1 : List.length a_1 ≤ c_1) (r_1 : Rd 3 T_api_Event.E m A_1 a_1) {r : Bool} (e : roadlaw4_TraceTells.j3 a_0 a_1 b_15 x_16 = some r) : f6.j3 (roadlaw4_TraceTells.post W h0 m0 r) A_0 n_0 c_0 A_1 n_1 c_1 b_15 x_16 h := by
  unfold roadlaw4_TraceTells.j3 at e
  subst ne_0
  subst ne_1
  refine f6.j3_in ?_
  unfold f6.j3T
  obtain ⟨y1, g2, e⟩ := bind_e e
  refine (roadref4_History.walk (Hold.start (W := No) O.s) rfl k_1 r_1 g2).mono ?_
  rintro _ h3 ⟨m4, Q5, rfl⟩
  have O7 := Hold.nm (O.retC Q5 vfs_nil)
  refine ⟨_, rfl, ?_⟩
  refine split_ne_e e (fun c9 e => ?_) (fun c9 e => ?_)
  · refine split_eq_e e (fun c8 e => ?_) (fun c8 e => ?_)
    · cases e
      exact ⟨_, O7.pick [], rfl⟩
    · cases e
      exact ⟨_, O7.pick [], rfl⟩
  · exact roadlaw4_TraceTells.l0.walk (O7.pick []).nm rfl k_0 r_0 rfl k_1 r_1 e

noncomputable def roadlaw4_TraceTells.j4 (a_0 : List T_api_Event) (a_1 : List T_api_Event) (x_3 : Int) (a_13 : List T_api_Event) (x_14 : Int) (b_15 : Bool) (x_16 : Int) (b_140 : Bool) : Option (Bool) :=
  if b_140 = true then (if x_14 = (1 : Int) then (if (((List.length a_13) : Nat) : Int) = (0 : Int) then ((roadlaw4_TraceTells.j3 a_0 a_1 b_15 x_16)) else (some (false))) else (some (false))) else (if x_14 = (0 : Int) then (Option.bind (roadlaw4_of a_0 x_3) fun y3 => Option.bind (slices_Equal_50 a_13 y3) fun y15 => if y15 = true then ((roadlaw4_TraceTells.j3 a_0 a_1 b_15 x_16)) else (some (false))) else (some (false)))
set_option maxHeartbeats 4000000 in
set_option maxRecDepth 100000 in
theorem roadlaw4_TraceTells.j4.walk {W : Nat → Prop} {h0 m0 h m : Heap} {A_0 : Option Addr} {n_0 c_0 : Nat} {A_1 : Option Addr} {n_1 c_1 : Nat} {A_13 : Option Addr} {n_13 c_13 : Nat} {a_0 : List T_api_Event} {a_1 : List T_api_Event} {x_3 : Int} {a_13 : List T_api_Event} {x_14 : Int} {b_15 : Bool} {x_16 : Int} {b_140 : Bool} (O : Hold W h0 m0 h m [rR (aE T_api_Event.T) A_13 c_13 a_13]) (ne_0 : n_0 = List.length a_0) (k_0 : List.length a_0 ≤ c_0) (r_0 : Rd 3 T_api_Event.E m A_0 a_0) (ne_1 : n_1 = List.length a_1) (k_1 : List.length a_1 ≤ c_1) (r_1 : Rd 3 T_api_Event.E m A_1 a_1) (ne_13 : n_13 = List.length a_13) {r : Bool} (e : roadlaw4_TraceTells.j4 a_0 a_1 x_3 a_13 x_14 b_15 x_16 b_140 = some r) : f6.j4 (roadlaw4_TraceTells.post W h0 m0 r) A_0 n_0 c_0 A_1 n_1 c_1 x_3 A_13 n_13 c_13 x_14 b_15 x_16 b_140 h := by
  unfold roadlaw4_TraceTells.j4 at e
  subst ne_0
  subst ne_1
  subst ne_13
  refine f6.j4_in ?_
  unfold f6.j4T
  refine split_any_e e (fun c33 e => ?_) (fun c33 e => ?_)
  · refine split_ne_e e (fun c2 e => ?_) (fun c2 e => ?_)
    · cases e
      exact ⟨_, O.pick [], rfl⟩
    · refine split_ne_e e (fun c1 e => ?_) (fun c1 e => ?_)
      · cases e
        exact ⟨_, O.pick [], rfl⟩
      · exact roadlaw4_TraceTells.j3.walk (O.pick []).nm rfl k_0 r_0 rfl k_1 r_1 e
  · refine split_ne_e e (fun c32 e => ?_) (fun c32 e => ?_)
    · cases e
      exact ⟨_, O.pick [], rfl⟩
    · obtain ⟨y3, g4, e⟩ := bind_e e
      refine (roadlaw4_of.walk (Hold.start (W := No) O.s) rfl k_0 r_0 g4).mono ?_
      rintro _ h5 ⟨m6, A9, n10, c11, Q7, rfl, ne12⟩
      have O14 := Hold.nm (O.retC Q7 (vfs_cons (rR_vf (aE_vf (fun _ _ _ _ h => T_api_Event.keep h))) vfs_nil))
      subst ne12
      refine ⟨_, _, _, rfl, ?_⟩
      obtain ⟨y15, g16, e⟩ := bind_e e
      obtain ⟨m21, u22, s29, ⟨⟨r25, k26⟩, ⟨r27, k28⟩, _⟩, B23, C24⟩ := O14.lend0 [0, 1]
      replace r25 : Rd 3 T_api_Event.E m21 A_13 a_13 := r25
      replace k26 : List.length a_13 ≤ c_13 := k26
      replace r27 : Rd 3 T_api_Event.E m21 A9 y3 := r27
      replace k28 : List.length y3 ≤ c11 := k28
      refine (slices_Equal_50.walk (Hold.start (W := No) s29) rfl k26 r25 rfl k28 r27 g16).mono ?_
      rintro _ h17 ⟨m18, Q19, rfl⟩
      have O30 := Hold.nm (C24 Q19 vfs_nil)
      refine ⟨_, rfl, ?_⟩
      refine split_not ?_
      refine split_any_e e (fun c31 e => ?_) (fun c31 e => ?_)
      · exact roadlaw4_TraceTells.j3.walk (O30.pick []).nm rfl k_0 r_0 rfl k_1 r_1 e
      · cases e
        exact ⟨_, O30.pick [], rfl⟩

noncomputable def roadlaw4_TraceTells.j1 (a_0 : List T_api_Event) (a_1 : List T_api_Event) (x_3 : Int) (a_13 : List T_api_Event) (x_14 : Int) (b_15 : Bool) (x_16 : Int) : Option (Bool) :=
  if x_3 < (0 : Int) then ((roadlaw4_TraceTells.j4 a_0 a_1 x_3 a_13 x_14 b_15 x_16 true)) else ((roadlaw4_TraceTells.j4 a_0 a_1 x_3 a_13 x_14 b_15 x_16 (decide (x_3 > (7 : Int)))))
set_option maxRecDepth 100000 in
theorem roadlaw4_TraceTells.j1.walk {W : Nat → Prop} {h0 m0 h m : Heap} {A_0 : Option Addr} {n_0 c_0 : Nat} {A_1 : Option Addr} {n_1 c_1 : Nat} {A_13 : Option Addr} {n_13 c_13 : Nat} {a_0 : List T_api_Event} {a_1 : List T_api_Event} {x_3 : Int} {a_13 : List T_api_Event} {x_14 : Int} {b_15 : Bool} {x_16 : Int} (O : Hold W h0 m0 h m [rR (aE T_api_Event.T) A_13 c_13 a_13]) (ne_0 : n_0 = List.length a_0) (k_0 : List.length a_0 ≤ c_0) (r_0 : Rd 3 T_api_Event.E m A_0 a_0) (ne_1 : n_1 = List.length a_1) (k_1 : List.length a_1 ≤ c_1) (r_1 : Rd 3 T_api_Event.E m A_1 a_1) (ne_13 : n_13 = List.length a_13) {r : Bool} (e : roadlaw4_TraceTells.j1 a_0 a_1 x_3 a_13 x_14 b_15 x_16 = some r) : f6.j1 (roadlaw4_TraceTells.post W h0 m0 r) A_0 n_0 c_0 A_1 n_1 c_1 x_3 A_13 n_13 c_13 x_14 b_15 x_16 h := by
  unfold roadlaw4_TraceTells.j1 at e
  subst ne_0
  subst ne_1
  subst ne_13
  refine f6.j1_in ?_
  unfold f6.j1T
  refine split_dec_e e (fun c1 e => ?_) (fun c1 e => ?_)
  · exact roadlaw4_TraceTells.j4.walk (O.pick [0]).nm rfl k_0 r_0 rfl k_1 r_1 rfl e
  · exact roadlaw4_TraceTells.j4.walk (O.pick [0]).nm rfl k_0 r_0 rfl k_1 r_1 rfl e

inductive roadlaw4_TraceTells.l1_k.Pt where
  | l1 (a_0 : List T_api_Event) (a_1 : List T_api_Event) (x_2 : Int) (x_3 : Int) (a_11 : List T_api_Event) (x_12 : Int) (a_13 : List T_api_Event) (x_14 : Int) (b_15 : Bool) (x_16 : Int) (a_18 : List (List Bool)) (a_19 : List T_api_Event) (a_103 : List T_api_Event) (x_104 : Int) (x_105 : Int)
  | j5 (a_0 : List T_api_Event) (a_1 : List T_api_Event) (x_2 : Int) (x_3 : Int) (a_11 : List T_api_Event) (x_12 : Int) (a_13 : List T_api_Event) (x_14 : Int) (b_15 : Bool) (x_16 : Int) (a_18 : List (List Bool)) (a_19 : List T_api_Event) (y_21 : T_api_Event) (a_103 : List T_api_Event) (x_104 : Int) (x_105 : Int) (b_121 : Bool)
noncomputable def roadlaw4_TraceTells.l1_k.body (go : (p : roadlaw4_TraceTells.l1_k.Pt) → Option (Bool)) : (p : roadlaw4_TraceTells.l1_k.Pt) → Option (Bool)
  | .l1 a_0 a_1 x_2 x_3 a_11 x_12 a_13 x_14 b_15 x_16 a_18 a_19 a_103 x_104 x_105 => if x_105 < x_104 then (Option.bind (gi a_103 x_105) fun y1 => if x_105 = x_2 then ((go (.j5 a_0 a_1 x_2 x_3 a_11 x_12 a_13 x_14 b_15 x_16 a_18 a_19 y1 a_103 x_104 x_105 true))) else (Option.bind (gi a_18 x_2) fun y17 => Option.bind (gi y17 x_105) fun y27 => (go (.j5 a_0 a_1 x_2 x_3 a_11 x_12 a_13 x_14 b_15 x_16 a_18 a_19 y1 a_103 x_104 x_105 y27)))) else (if x_12 = (0 : Int) then (Option.bind (slices_Equal_50 a_11 a_19) fun y37 => if y37 = true then ((roadlaw4_TraceTells.j1 a_0 a_1 x_3 a_13 x_14 b_15 x_16)) else (some (false))) else (some (false)))
  | .j5 a_0 a_1 x_2 x_3 a_11 x_12 a_13 x_14 b_15 x_16 a_18 a_19 y_21 a_103 x_104 x_105 b_121 => if b_121 = true then (Option.bind (ap 24 a_19 ([y_21] : List T_api_Event)) fun l6 => (go (.l1 a_0 a_1 x_2 x_3 a_11 x_12 a_13 x_14 b_15 x_16 a_18 l6 a_103 x_104 (IntKind.wrap .i64 (x_105 + (1 : Int)))))) else ((go (.l1 a_0 a_1 x_2 x_3 a_11 x_12 a_13 x_14 b_15 x_16 a_18 a_19 a_103 x_104 (IntKind.wrap .i64 (x_105 + (1 : Int))))))
theorem roadlaw4_TraceTells.l1_k.mono : MonoF (β := fun _ => (Bool)) roadlaw4_TraceTells.l1_k.body := fun f g hfg p => match p with
  | .l1 a_0 a_1 x_2 x_3 a_11 x_12 a_13 x_14 b_15 x_16 a_18 a_19 a_103 x_104 x_105 => LeO.ite (LeO.bind (LeO.refl _) fun y1 => LeO.ite ((hfg _)) (LeO.bind (LeO.refl _) fun y17 => LeO.bind (LeO.refl _) fun y27 => (hfg _))) (LeO.ite (LeO.bind (LeO.refl _) fun y37 => LeO.ite ((LeO.refl _)) (LeO.refl _)) (LeO.refl _))
  | .j5 a_0 a_1 x_2 x_3 a_11 x_12 a_13 x_14 b_15 x_16 a_18 a_19 y_21 a_103 x_104 x_105 b_121 => LeO.ite (LeO.bind (LeO.refl _) fun l6 => (hfg _)) ((hfg _))
noncomputable def roadlaw4_TraceTells.l1_k.go (p : roadlaw4_TraceTells.l1_k.Pt) : Option (Bool) := fixF (β := fun _ => (Bool)) roadlaw4_TraceTells.l1_k.body p
noncomputable def roadlaw4_TraceTells.l1 (a_0 : List T_api_Event) (a_1 : List T_api_Event) (x_2 : Int) (x_3 : Int) (a_11 : List T_api_Event) (x_12 : Int) (a_13 : List T_api_Event) (x_14 : Int) (b_15 : Bool) (x_16 : Int) (a_18 : List (List Bool)) (a_19 : List T_api_Event) (a_103 : List T_api_Event) (x_104 : Int) (x_105 : Int) : Option (Bool) := roadlaw4_TraceTells.l1_k.go (.l1 a_0 a_1 x_2 x_3 a_11 x_12 a_13 x_14 b_15 x_16 a_18 a_19 a_103 x_104 x_105)
noncomputable def roadlaw4_TraceTells.j5 (a_0 : List T_api_Event) (a_1 : List T_api_Event) (x_2 : Int) (x_3 : Int) (a_11 : List T_api_Event) (x_12 : Int) (a_13 : List T_api_Event) (x_14 : Int) (b_15 : Bool) (x_16 : Int) (a_18 : List (List Bool)) (a_19 : List T_api_Event) (y_21 : T_api_Event) (a_103 : List T_api_Event) (x_104 : Int) (x_105 : Int) (b_121 : Bool) : Option (Bool) := roadlaw4_TraceTells.l1_k.go (.j5 a_0 a_1 x_2 x_3 a_11 x_12 a_13 x_14 b_15 x_16 a_18 a_19 y_21 a_103 x_104 x_105 b_121)
theorem roadlaw4_TraceTells.l1_eq (a_0 : List T_api_Event) (a_1 : List T_api_Event) (x_2 : Int) (x_3 : Int) (a_11 : List T_api_Event) (x_12 : Int) (a_13 : List T_api_Event) (x_14 : Int) (b_15 : Bool) (x_16 : Int) (a_18 : List (List Bool)) (a_19 : List T_api_Event) (a_103 : List T_api_Event) (x_104 : Int) (x_105 : Int) : roadlaw4_TraceTells.l1 a_0 a_1 x_2 x_3 a_11 x_12 a_13 x_14 b_15 x_16 a_18 a_19 a_103 x_104 x_105 = if x_105 < x_104 then (Option.bind (gi a_103 x_105) fun y1 => if x_105 = x_2 then ((roadlaw4_TraceTells.j5 a_0 a_1 x_2 x_3 a_11 x_12 a_13 x_14 b_15 x_16 a_18 a_19 y1 a_103 x_104 x_105 true)) else (Option.bind (gi a_18 x_2) fun y17 => Option.bind (gi y17 x_105) fun y27 => (roadlaw4_TraceTells.j5 a_0 a_1 x_2 x_3 a_11 x_12 a_13 x_14 b_15 x_16 a_18 a_19 y1 a_103 x_104 x_105 y27))) else (if x_12 = (0 : Int) then (Option.bind (slices_Equal_50 a_11 a_19) fun y37 => if y37 = true then ((roadlaw4_TraceTells.j1 a_0 a_1 x_3 a_13 x_14 b_15 x_16)) else (some (false))) else (some (false))) := fixF_eq roadlaw4_TraceTells.l1_k.mono _
theorem roadlaw4_TraceTells.j5_eq (a_0 : List T_api_Event) (a_1 : List T_api_Event) (x_2 : Int) (x_3 : Int) (a_11 : List T_api_Event) (x_12 : Int) (a_13 : List T_api_Event) (x_14 : Int) (b_15 : Bool) (x_16 : Int) (a_18 : List (List Bool)) (a_19 : List T_api_Event) (y_21 : T_api_Event) (a_103 : List T_api_Event) (x_104 : Int) (x_105 : Int) (b_121 : Bool) : roadlaw4_TraceTells.j5 a_0 a_1 x_2 x_3 a_11 x_12 a_13 x_14 b_15 x_16 a_18 a_19 y_21 a_103 x_104 x_105 b_121 = if b_121 = true then (Option.bind (ap 24 a_19 ([y_21] : List T_api_Event)) fun l6 => (roadlaw4_TraceTells.l1 a_0 a_1 x_2 x_3 a_11 x_12 a_13 x_14 b_15 x_16 a_18 l6 a_103 x_104 (IntKind.wrap .i64 (x_105 + (1 : Int))))) else ((roadlaw4_TraceTells.l1 a_0 a_1 x_2 x_3 a_11 x_12 a_13 x_14 b_15 x_16 a_18 a_19 a_103 x_104 (IntKind.wrap .i64 (x_105 + (1 : Int))))) := fixF_eq roadlaw4_TraceTells.l1_k.mono _
def roadlaw4_TraceTells.l1_k.I : (p : roadlaw4_TraceTells.l1_k.Pt) → (Bool) → Prop
  | .l1 a_0 a_1 x_2 x_3 a_11 x_12 a_13 x_14 b_15 x_16 a_18 a_19 a_103 x_104 x_105, r => ∀ (W : Nat → Prop) (h0 m0 h m : Heap) (A_0 : Option Addr) (n_0 c_0 : Nat) (A_1 : Option Addr) (n_1 c_1 : Nat) (A_11 : Option Addr) (n_11 c_11 : Nat) (A_13 : Option Addr) (n_13 c_13 : Nat) (A_18 : Option Addr) (n_18 c_18 : Nat) (A_19 : Option Addr) (n_19 c_19 : Nat) (A_103 : Option Addr) (n_103 c_103 : Nat) (O : Hold W h0 m0 h m [rR (aE T_api_Event.T) A_11 c_11 a_11, rR (aE T_api_Event.T) A_13 c_13 a_13, rR (aRow (aE tell_bool)) A_18 c_18 a_18, rR (aE T_api_Event.T) A_19 c_19 a_19]) (ne_0 : n_0 = List.length a_0) (k_0 : List.length a_0 ≤ c_0) (r_0 : Rd 3 T_api_Event.E m A_0 a_0) (ne_1 : n_1 = List.length a_1) (k_1 : List.length a_1 ≤ c_1) (r_1 : Rd 3 T_api_Event.E m A_1 a_1) (ne_11 : n_11 = List.length a_11) (ne_13 : n_13 = List.length a_13) (ne_18 : n_18 = List.length a_18) (ne_19 : n_19 = List.length a_19) (ne_103 : n_103 = List.length a_103) (k_103 : List.length a_103 ≤ c_103) (r_103 : Rd 3 T_api_Event.E m A_103 a_103), f6.l1 (roadlaw4_TraceTells.post W h0 m0 r) A_0 n_0 c_0 A_1 n_1 c_1 x_2 x_3 A_11 n_11 c_11 x_12 A_13 n_13 c_13 x_14 b_15 x_16 A_18 n_18 c_18 A_19 n_19 c_19 A_103 n_103 c_103 x_104 x_105 h
  | .j5 a_0 a_1 x_2 x_3 a_11 x_12 a_13 x_14 b_15 x_16 a_18 a_19 y_21 a_103 x_104 x_105 b_121, r => ∀ (W : Nat → Prop) (h0 m0 h m : Heap) (A_0 : Option Addr) (n_0 c_0 : Nat) (A_1 : Option Addr) (n_1 c_1 : Nat) (A_11 : Option Addr) (n_11 c_11 : Nat) (A_13 : Option Addr) (n_13 c_13 : Nat) (A_18 : Option Addr) (n_18 c_18 : Nat) (A_19 : Option Addr) (n_19 c_19 : Nat) (bk_21 : Nat) (cs_21 : List Value) (A_103 : Option Addr) (n_103 c_103 : Nat) (O : Hold W h0 m0 h m [rR (aE T_api_Event.T) A_11 c_11 a_11, rR (aE T_api_Event.T) A_13 c_13 a_13, rR (aRow (aE tell_bool)) A_18 c_18 a_18, rR (aE T_api_Event.T) A_19 c_19 a_19, rV bk_21 88 cs_21]) (ne_0 : n_0 = List.length a_0) (k_0 : List.length a_0 ≤ c_0) (r_0 : Rd 3 T_api_Event.E m A_0 a_0) (ne_1 : n_1 = List.length a_1) (k_1 : List.length a_1 ≤ c_1) (r_1 : Rd 3 T_api_Event.E m A_1 a_1) (ne_11 : n_11 = List.length a_11) (ne_13 : n_13 = List.length a_13) (ne_18 : n_18 = List.length a_18) (ne_19 : n_19 = List.length a_19) (e_21 : T_api_Event.E m y_21 cs_21) (ne_103 : n_103 = List.length a_103) (k_103 : List.length a_103 ≤ c_103) (r_103 : Rd 3 T_api_Event.E m A_103 a_103), f6.j5 (roadlaw4_TraceTells.post W h0 m0 r) A_0 n_0 c_0 A_1 n_1 c_1 x_2 x_3 A_11 n_11 c_11 x_12 A_13 n_13 c_13 x_14 b_15 x_16 A_18 n_18 c_18 A_19 n_19 c_19 (⟨bk_21, 0, none⟩ : Addr) A_103 n_103 c_103 x_104 x_105 b_121 h
set_option maxHeartbeats 4000000 in
set_option maxRecDepth 100000 in
theorem roadlaw4_TraceTells.l1_k.step_l1 (go : (p : roadlaw4_TraceTells.l1_k.Pt) → Option (Bool)) (ih : ∀ p r, go p = some r → roadlaw4_TraceTells.l1_k.I p r) (a_0 : List T_api_Event) (a_1 : List T_api_Event) (x_2 : Int) (x_3 : Int) (a_11 : List T_api_Event) (x_12 : Int) (a_13 : List T_api_Event) (x_14 : Int) (b_15 : Bool) (x_16 : Int) (a_18 : List (List Bool)) (a_19 : List T_api_Event) (a_103 : List T_api_Event) (x_104 : Int) (x_105 : Int) (r : Bool) (e : roadlaw4_TraceTells.l1_k.body go (.l1 a_0 a_1 x_2 x_3 a_11 x_12 a_13 x_14 b_15 x_16 a_18 a_19 a_103 x_104 x_105) = some r) : roadlaw4_TraceTells.l1_k.I (.l1 a_0 a_1 x_2 x_3 a_11 x_12 a_13 x_14 b_15 x_16 a_18 a_19 a_103 x_104 x_105) r := by
  unfold roadlaw4_TraceTells.l1_k.body at e
  intro W h0 m0 h m A_0 n_0 c_0 A_1 n_1 c_1 A_11 n_11 c_11 A_13 n_13 c_13 A_18 n_18 c_18 A_19 n_19 c_19 A_103 n_103 c_103 O ne_0 k_0 r_0 ne_1 k_1 r_1 ne_11 ne_13 ne_18 ne_19 ne_103 k_103 r_103
  subst ne_0
  subst ne_1
  subst ne_11
  subst ne_13
  subst ne_18
  subst ne_19
  subst ne_103
  refine f6.l1_in ?_
  unfold f6.l1T
  refine split_dec_e e (fun c55 e => ?_) (fun c55 e => ?_)
  · obtain ⟨y1, g2, e⟩ := bind_e e
    refine r_103.addr rfl g2 fun a3 cs4 ha5 hc6 he7 => ?_
    refine ⟨_, ldAn O.s hc6 rfl, ?_⟩
    refine O.new fun h8 x9 O10 => ?_
    refine ⟨_, rfl, (T_api_Event.T.len _ _ _ he7), ?_⟩
    refine O10.stA 4 rfl (T_api_Event.T.len _ _ _ he7) (T_api_Event.T.flat _ _ _ he7) fun h12 O13 => ?_
    refine split_eq_e e (fun c36 e => ?_) (fun c36 e => ?_)
    · have O14 := O13.nm
      exact (ih _ _ e) _ _ _ _ _ _ _ _ _ _ _ _ _ _ _ _ _ _ _ _ _ _ _ _ _ _ _ _ (O14.pick [0, 1, 2, 3, 4]).nm rfl k_0 r_0 rfl k_1 r_1 rfl rfl rfl rfl he7 rfl k_103 r_103
    · obtain ⟨y17, g18, e⟩ := bind_e e
      refine O13.adr 2 rfl rfl g18 fun a15 ha16 => ?_
      obtain ⟨hs19, O20⟩ := O13.openX 2 rfl g18
      obtain ⟨A21, c22, hx23, hc24, k25⟩ := O20.hdX 2 rfl ha16 g18
      refine ⟨_, ld0 (Sub.refl _) hc24 rfl, _, _, _, rfl, ?_⟩
      obtain ⟨y27, g28, e⟩ := bind_e e
      refine (O20.xos 2 rfl hx23 g18).addr rfl g28 fun a29 cs30 ha31 hc32 he33 => ?_
      obtain rfl : cs30 = [(Value.bool y27)] := he33
      refine ⟨_, ld0 (Sub.refl _) hc32 rfl, _, rfl, ?_⟩
      have O34 := O20.closeX 2 rfl
      have O35 := O34.nm
      exact (ih _ _ e) _ _ _ _ _ _ _ _ _ _ _ _ _ _ _ _ _ _ _ _ _ _ _ _ _ _ _ _ (O35.pick [0, 1, 2, 3, 4]).nm rfl k_0 r_0 rfl k_1 r_1 rfl rfl rfl rfl he7 rfl k_103 r_103
  · refine split_ne_e e (fun c54 e => ?_) (fun c54 e => ?_)
    · cases e
      exact ⟨_, O.pick [], rfl⟩
    · obtain ⟨y37, g38, e⟩ := bind_e e
      obtain ⟨m43, u44, s51, ⟨⟨r47, k48⟩, ⟨r49, k50⟩, _⟩, B45, C46⟩ := O.lend0 [0, 3]
      replace r47 : Rd 3 T_api_Event.E m43 A_11 a_11 := r47
      replace k48 : List.length a_11 ≤ c_11 := k48
      replace r49 : Rd 3 T_api_Event.E m43 A_19 a_19 := r49
      replace k50 : List.length a_19 ≤ c_19 := k50
      refine (slices_Equal_50.walk (Hold.start (W := No) s51) rfl k48 r47 rfl k50 r49 g38).mono ?_
      rintro _ h39 ⟨m40, Q41, rfl⟩
      have O52 := Hold.nm (C46 Q41 vfs_nil)
      refine ⟨_, rfl, ?_⟩
      refine split_not ?_
      refine split_any_e e (fun c53 e => ?_) (fun c53 e => ?_)
      · exact roadlaw4_TraceTells.j1.walk (O52.pick [1]).nm rfl k_0 r_0 rfl k_1 r_1 rfl e
      · cases e
        exact ⟨_, O52.pick [], rfl⟩
set_option maxRecDepth 100000 in
theorem roadlaw4_TraceTells.l1_k.step_j5 (go : (p : roadlaw4_TraceTells.l1_k.Pt) → Option (Bool)) (ih : ∀ p r, go p = some r → roadlaw4_TraceTells.l1_k.I p r) (a_0 : List T_api_Event) (a_1 : List T_api_Event) (x_2 : Int) (x_3 : Int) (a_11 : List T_api_Event) (x_12 : Int) (a_13 : List T_api_Event) (x_14 : Int) (b_15 : Bool) (x_16 : Int) (a_18 : List (List Bool)) (a_19 : List T_api_Event) (y_21 : T_api_Event) (a_103 : List T_api_Event) (x_104 : Int) (x_105 : Int) (b_121 : Bool) (r : Bool) (e : roadlaw4_TraceTells.l1_k.body go (.j5 a_0 a_1 x_2 x_3 a_11 x_12 a_13 x_14 b_15 x_16 a_18 a_19 y_21 a_103 x_104 x_105 b_121) = some r) : roadlaw4_TraceTells.l1_k.I (.j5 a_0 a_1 x_2 x_3 a_11 x_12 a_13 x_14 b_15 x_16 a_18 a_19 y_21 a_103 x_104 x_105 b_121) r := by
  unfold roadlaw4_TraceTells.l1_k.body at e
  intro W h0 m0 h m A_0 n_0 c_0 A_1 n_1 c_1 A_11 n_11 c_11 A_13 n_13 c_13 A_18 n_18 c_18 A_19 n_19 c_19 bk_21 cs_21 A_103 n_103 c_103 O ne_0 k_0 r_0 ne_1 k_1 r_1 ne_11 ne_13 ne_18 ne_19 e_21 ne_103 k_103 r_103
  subst ne_0
  subst ne_1
  subst ne_11
  subst ne_13
  subst ne_18
  subst ne_19
  subst ne_103
  refine f6.j5_in ?_
  unfold f6.j5T
  refine split_any_e e (fun c16 e => ?_) (fun c16 e => ?_)
  · refine ⟨_, ldAn (Sub.refl _) (O.all 4 rfl) (T_api_Event.T.len _ _ _ e_21), ?_⟩
    refine ⟨cs_21, rfl, (T_api_Event.T.len _ _ _ e_21), ?_⟩
    refine O.new fun h1 x2 O3 => ?_
    have O5 := O3.recell 5 rfl (cs' := cs_21 ++ []) rfl
    obtain ⟨l6, g7, e⟩ := bind_e e
    have O14 := O5.rowE (l := ([y_21] : List T_api_Event)) 5 rfl T_api_Event.T (show CsE _ _ _ _ _ from (CsE.cons e_21 (T_api_Event.T.len _ _ _ e_21) CsE.nil)) rfl
    refine O14.app 3 rfl rfl rfl ((O14.os 5 rfl).srcE rfl) (by decide) g7 fun A8 c9 h10 O11 => ?_
    refine ⟨_, _, _, rfl, ?_⟩
    have O15 := O11.nm
    exact (ih _ _ e) _ _ _ _ _ _ _ _ _ _ _ _ _ _ _ _ _ _ _ _ _ _ _ _ _ _ (O15.pick [0, 1, 2, 3]).nm rfl k_0 r_0 rfl k_1 r_1 rfl rfl rfl rfl rfl k_103 r_103
  · exact (ih _ _ e) _ _ _ _ _ _ _ _ _ _ _ _ _ _ _ _ _ _ _ _ _ _ _ _ _ _ (O.pick [0, 1, 2, 3]).nm rfl k_0 r_0 rfl k_1 r_1 rfl rfl rfl rfl rfl k_103 r_103
theorem roadlaw4_TraceTells.l1_k.all {p : roadlaw4_TraceTells.l1_k.Pt} {r : (Bool)} (e : roadlaw4_TraceTells.l1_k.go p = some r) : roadlaw4_TraceTells.l1_k.I p r := fixF_ind (β := fun _ => (Bool)) roadlaw4_TraceTells.l1_k.mono (I := roadlaw4_TraceTells.l1_k.I) (fun go ih p r e => match p with
  | .l1 a_0 a_1 x_2 x_3 a_11 x_12 a_13 x_14 b_15 x_16 a_18 a_19 a_103 x_104 x_105 => roadlaw4_TraceTells.l1_k.step_l1 go ih a_0 a_1 x_2 x_3 a_11 x_12 a_13 x_14 b_15 x_16 a_18 a_19 a_103 x_104 x_105 r e
  | .j5 a_0 a_1 x_2 x_3 a_11 x_12 a_13 x_14 b_15 x_16 a_18 a_19 y_21 a_103 x_104 x_105 b_121 => roadlaw4_TraceTells.l1_k.step_j5 go ih a_0 a_1 x_2 x_3 a_11 x_12 a_13 x_14 b_15 x_16 a_18 a_19 y_21 a_103 x_104 x_105 b_121 r e
  ) e
theorem roadlaw4_TraceTells.l1.walk {W : Nat → Prop} {h0 m0 h m : Heap} {A_0 : Option Addr} {n_0 c_0 : Nat} {A_1 : Option Addr} {n_1 c_1 : Nat} {A_11 : Option Addr} {n_11 c_11 : Nat} {A_13 : Option Addr} {n_13 c_13 : Nat} {A_18 : Option Addr} {n_18 c_18 : Nat} {A_19 : Option Addr} {n_19 c_19 : Nat} {A_103 : Option Addr} {n_103 c_103 : Nat} {a_0 : List T_api_Event} {a_1 : List T_api_Event} {x_2 : Int} {x_3 : Int} {a_11 : List T_api_Event} {x_12 : Int} {a_13 : List T_api_Event} {x_14 : Int} {b_15 : Bool} {x_16 : Int} {a_18 : List (List Bool)} {a_19 : List T_api_Event} {a_103 : List T_api_Event} {x_104 : Int} {x_105 : Int} (O : Hold W h0 m0 h m [rR (aE T_api_Event.T) A_11 c_11 a_11, rR (aE T_api_Event.T) A_13 c_13 a_13, rR (aRow (aE tell_bool)) A_18 c_18 a_18, rR (aE T_api_Event.T) A_19 c_19 a_19]) (ne_0 : n_0 = List.length a_0) (k_0 : List.length a_0 ≤ c_0) (r_0 : Rd 3 T_api_Event.E m A_0 a_0) (ne_1 : n_1 = List.length a_1) (k_1 : List.length a_1 ≤ c_1) (r_1 : Rd 3 T_api_Event.E m A_1 a_1) (ne_11 : n_11 = List.length a_11) (ne_13 : n_13 = List.length a_13) (ne_18 : n_18 = List.length a_18) (ne_19 : n_19 = List.length a_19) (ne_103 : n_103 = List.length a_103) (k_103 : List.length a_103 ≤ c_103) (r_103 : Rd 3 T_api_Event.E m A_103 a_103) {r : Bool} (e : roadlaw4_TraceTells.l1 a_0 a_1 x_2 x_3 a_11 x_12 a_13 x_14 b_15 x_16 a_18 a_19 a_103 x_104 x_105 = some r) : f6.l1 (roadlaw4_TraceTells.post W h0 m0 r) A_0 n_0 c_0 A_1 n_1 c_1 x_2 x_3 A_11 n_11 c_11 x_12 A_13 n_13 c_13 x_14 b_15 x_16 A_18 n_18 c_18 A_19 n_19 c_19 A_103 n_103 c_103 x_104 x_105 h := roadlaw4_TraceTells.l1_k.all (p := .l1 a_0 a_1 x_2 x_3 a_11 x_12 a_13 x_14 b_15 x_16 a_18 a_19 a_103 x_104 x_105) e W h0 m0 h m A_0 n_0 c_0 A_1 n_1 c_1 A_11 n_11 c_11 A_13 n_13 c_13 A_18 n_18 c_18 A_19 n_19 c_19 A_103 n_103 c_103 O ne_0 k_0 r_0 ne_1 k_1 r_1 ne_11 ne_13 ne_18 ne_19 ne_103 k_103 r_103
theorem roadlaw4_TraceTells.j5.walk {W : Nat → Prop} {h0 m0 h m : Heap} {A_0 : Option Addr} {n_0 c_0 : Nat} {A_1 : Option Addr} {n_1 c_1 : Nat} {A_11 : Option Addr} {n_11 c_11 : Nat} {A_13 : Option Addr} {n_13 c_13 : Nat} {A_18 : Option Addr} {n_18 c_18 : Nat} {A_19 : Option Addr} {n_19 c_19 : Nat} {bk_21 : Nat} {cs_21 : List Value} {A_103 : Option Addr} {n_103 c_103 : Nat} {a_0 : List T_api_Event} {a_1 : List T_api_Event} {x_2 : Int} {x_3 : Int} {a_11 : List T_api_Event} {x_12 : Int} {a_13 : List T_api_Event} {x_14 : Int} {b_15 : Bool} {x_16 : Int} {a_18 : List (List Bool)} {a_19 : List T_api_Event} {y_21 : T_api_Event} {a_103 : List T_api_Event} {x_104 : Int} {x_105 : Int} {b_121 : Bool} (O : Hold W h0 m0 h m [rR (aE T_api_Event.T) A_11 c_11 a_11, rR (aE T_api_Event.T) A_13 c_13 a_13, rR (aRow (aE tell_bool)) A_18 c_18 a_18, rR (aE T_api_Event.T) A_19 c_19 a_19, rV bk_21 88 cs_21]) (ne_0 : n_0 = List.length a_0) (k_0 : List.length a_0 ≤ c_0) (r_0 : Rd 3 T_api_Event.E m A_0 a_0) (ne_1 : n_1 = List.length a_1) (k_1 : List.length a_1 ≤ c_1) (r_1 : Rd 3 T_api_Event.E m A_1 a_1) (ne_11 : n_11 = List.length a_11) (ne_13 : n_13 = List.length a_13) (ne_18 : n_18 = List.length a_18) (ne_19 : n_19 = List.length a_19) (e_21 : T_api_Event.E m y_21 cs_21) (ne_103 : n_103 = List.length a_103) (k_103 : List.length a_103 ≤ c_103) (r_103 : Rd 3 T_api_Event.E m A_103 a_103) {r : Bool} (e : roadlaw4_TraceTells.j5 a_0 a_1 x_2 x_3 a_11 x_12 a_13 x_14 b_15 x_16 a_18 a_19 y_21 a_103 x_104 x_105 b_121 = some r) : f6.j5 (roadlaw4_TraceTells.post W h0 m0 r) A_0 n_0 c_0 A_1 n_1 c_1 x_2 x_3 A_11 n_11 c_11 x_12 A_13 n_13 c_13 x_14 b_15 x_16 A_18 n_18 c_18 A_19 n_19 c_19 (⟨bk_21, 0, none⟩ : Addr) A_103 n_103 c_103 x_104 x_105 b_121 h := roadlaw4_TraceTells.l1_k.all (p := .j5 a_0 a_1 x_2 x_3 a_11 x_12 a_13 x_14 b_15 x_16 a_18 a_19 y_21 a_103 x_104 x_105 b_121) e W h0 m0 h m A_0 n_0 c_0 A_1 n_1 c_1 A_11 n_11 c_11 A_13 n_13 c_13 A_18 n_18 c_18 A_19 n_19 c_19 bk_21 cs_21 A_103 n_103 c_103 O ne_0 k_0 r_0 ne_1 k_1 r_1 ne_11 ne_13 ne_18 ne_19 e_21 ne_103 k_103 r_103

noncomputable def roadlaw4_TraceTells.j2 (a_0 : List T_api_Event) (a_1 : List T_api_Event) (x_2 : Int) (x_3 : Int) (a_11 : List T_api_Event) (x_12 : Int) (a_13 : List T_api_Event) (x_14 : Int) (b_15 : Bool) (x_16 : Int) (b_93 : Bool) : Option (Bool) :=
  if b_93 = true then (if x_12 = (1 : Int) then (if (((List.length a_11) : Nat) : Int) = (0 : Int) then ((roadlaw4_TraceTells.j1 a_0 a_1 x_3 a_13 x_14 b_15 x_16)) else (some (false))) else (some (false))) else (Option.bind (roadref4_Past a_0) fun y3 => (roadlaw4_TraceTells.l1 a_0 a_1 x_2 x_3 a_11 x_12 a_13 x_14 b_15 x_16 y3 ([] : List T_api_Event) a_0 (((List.length a_0) : Nat) : Int) (0 : Int)))
set_option maxRecDepth 100000 in
theorem roadlaw4_TraceTells.j2.walk {W : Nat → Prop} {h0 m0 h m : Heap} {A_0 : Option Addr} {n_0 c_0 : Nat} {A_1 : Option Addr} {n_1 c_1 : Nat} {A_11 : Option Addr} {n_11 c_11 : Nat} {A_13 : Option Addr} {n_13 c_13 : Nat} {a_0 : List T_api_Event} {a_1 : List T_api_Event} {x_2 : Int} {x_3 : Int} {a_11 : List T_api_Event} {x_12 : Int} {a_13 : List T_api_Event} {x_14 : Int} {b_15 : Bool} {x_16 : Int} {b_93 : Bool} (O : Hold W h0 m0 h m [rR (aE T_api_Event.T) A_11 c_11 a_11, rR (aE T_api_Event.T) A_13 c_13 a_13]) (ne_0 : n_0 = List.length a_0) (k_0 : List.length a_0 ≤ c_0) (r_0 : Rd 3 T_api_Event.E m A_0 a_0) (ne_1 : n_1 = List.length a_1) (k_1 : List.length a_1 ≤ c_1) (r_1 : Rd 3 T_api_Event.E m A_1 a_1) (ne_11 : n_11 = List.length a_11) (ne_13 : n_13 = List.length a_13) {r : Bool} (e : roadlaw4_TraceTells.j2 a_0 a_1 x_2 x_3 a_11 x_12 a_13 x_14 b_15 x_16 b_93 = some r) : f6.j2 (roadlaw4_TraceTells.post W h0 m0 r) A_0 n_0 c_0 A_1 n_1 c_1 x_2 x_3 A_11 n_11 c_11 x_12 A_13 n_13 c_13 x_14 b_15 x_16 b_93 h := by
  unfold roadlaw4_TraceTells.j2 at e
  subst ne_0
  subst ne_1
  subst ne_11
  subst ne_13
  refine f6.j2_in ?_
  unfold f6.j2T
  refine split_any_e e (fun c18 e => ?_) (fun c18 e => ?_)
  · refine split_ne_e e (fun c2 e => ?_) (fun c2 e => ?_)
    · cases e
      exact ⟨_, O.pick [], rfl⟩
    · refine split_ne_e e (fun c1 e => ?_) (fun c1 e => ?_)
      · cases e
        exact ⟨_, O.pick [], rfl⟩
      · exact roadlaw4_TraceTells.j1.walk (O.pick [1]).nm rfl k_0 r_0 rfl k_1 r_1 rfl e
  · obtain ⟨y3, g4, e⟩ := bind_e e
    refine (roadref4_Past.walk (Hold.start (W := No) O.s) rfl k_0 r_0 g4).mono ?_
    rintro _ h5 ⟨m6, A9, n10, c11, Q7, rfl, ne12⟩
    have O14 := Hold.nm (O.ret Q7)
    subst ne12
    refine ⟨_, _, _, rfl, ?_⟩
    have O15 := O14.nil (aE T_api_Event.T) none
    have O17 := O15.nm
    exact roadlaw4_TraceTells.l1.walk (O17.pick [0, 1, 2, 3]).nm rfl k_0 (r_0.sub T_api_Event.T Q7.S.up) rfl k_1 (r_1.sub T_api_Event.T Q7.S.up) rfl rfl rfl rfl rfl k_0 (r_0.sub T_api_Event.T Q7.S.up) e

noncomputable def roadlaw4_TraceTells.j0 (a_0 : List T_api_Event) (a_1 : List T_api_Event) (x_2 : Int) (x_3 : Int) : Option (Bool) :=
  Option.bind (trace_Led a_0 x_2) fun y1 => Option.bind (trace_At a_0 x_3) fun y13 => Option.bind (trace_Same a_0 a_1) fun y25 => Option.bind (roadref4_History a_0) fun y32 => if y32 = (0 : Int) then (if x_2 < (0 : Int) then ((roadlaw4_TraceTells.j2 a_0 a_1 x_2 x_3 y1.1 y1.2 y13.1 y13.2 y25.1 y25.2 true)) else ((roadlaw4_TraceTells.j2 a_0 a_1 x_2 x_3 y1.1 y1.2 y13.1 y13.2 y25.1 y25.2 (decide (x_2 ≥ (((List.length a_0) : Nat) : Int)))))) else (if y1.2 = y32 then (if y13.2 = y32 then (if y25.2 = y32 then (if (((List.length y1.1) : Nat) : Int) = (0 : Int) then (if (((List.length y13.1) : Nat) : Int) = (0 : Int) then (some ((!y25.1))) else (some (false))) else (some (false))) else (some (false))) else (some (false))) else (some (false)))
set_option maxHeartbeats 4000000 in
set_option maxRecDepth 100000 in
theorem roadlaw4_TraceTells.j0.walk {W : Nat → Prop} {h0 m0 h m : Heap} {A_0 : Option Addr} {n_0 c_0 : Nat} {A_1 : Option Addr} {n_1 c_1 : Nat} {a_0 : List T_api_Event} {a_1 : List T_api_Event} {x_2 : Int} {x_3 : Int} (O : Hold W h0 m0 h m []) (ne_0 : n_0 = List.length a_0) (k_0 : List.length a_0 ≤ c_0) (r_0 : Rd 3 T_api_Event.E m A_0 a_0) (ne_1 : n_1 = List.length a_1) (k_1 : List.length a_1 ≤ c_1) (r_1 : Rd 3 T_api_Event.E m A_1 a_1) {r : Bool} (e : roadlaw4_TraceTells.j0 a_0 a_1 x_2 x_3 = some r) : f6.j0 (roadlaw4_TraceTells.post W h0 m0 r) A_0 n_0 c_0 A_1 n_1 c_1 x_2 x_3 h := by
  unfold roadlaw4_TraceTells.j0 at e
  subst ne_0
  subst ne_1
  refine f6.j0_in ?_
  unfold f6.j0T
  obtain ⟨y1, g2, e⟩ := bind_e e
  refine (trace_Led.walk (Hold.start (W := No) O.s) rfl k_0 r_0 g2).mono ?_
  rintro _ h3 ⟨m4, A7, n8, c9, Q5, rfl, ne10⟩
  have O12 := Hold.nm (O.retC Q5 (vfs_cons (rR_vf (aE_vf (fun _ _ _ _ h => T_api_Event.keep h))) vfs_nil))
  subst ne10
  refine ⟨_, _, _, _, rfl, ?_⟩
  obtain ⟨y13, g14, e⟩ := bind_e e
  refine (trace_At.walk (Hold.start (W := No) O12.s) rfl k_0 r_0 g14).mono ?_
  rintro _ h15 ⟨m16, A19, n20, c21, Q17, rfl, ne22⟩
  have O24 := Hold.nm (O12.retC Q17 (vfs_cons (rR_vf (aE_vf (fun _ _ _ _ h => T_api_Event.keep h))) vfs_nil))
  subst ne22
  refine ⟨_, _, _, _, rfl, ?_⟩
  obtain ⟨y25, g26, e⟩ := bind_e e
  refine (trace_Same.walk (Hold.start (W := No) O24.s) rfl k_0 r_0 rfl k_1 r_1 g26).mono ?_
  rintro _ h27 ⟨m28, Q29, rfl⟩
  have O31 := Hold.nm (O24.retC Q29 vfs_nil)
  refine ⟨_, _, rfl, ?_⟩
  obtain ⟨y32, g33, e⟩ := bind_e e
  refine (roadref4_History.walk (Hold.start (W := No) O31.s) rfl k_0 r_0 g33).mono ?_
  rintro _ h34 ⟨m35, Q36, rfl⟩
  have O38 := Hold.nm (O31.retC Q36 vfs_nil)
  refine ⟨_, rfl, ?_⟩
  refine split_ne_e e (fun c45 e => ?_) (fun c45 e => ?_)
  · refine split_eq_e e (fun c43 e => ?_) (fun c43 e => ?_)
    · refine split_eq_e e (fun c42 e => ?_) (fun c42 e => ?_)
      · refine split_eq_e e (fun c41 e => ?_) (fun c41 e => ?_)
        · refine split_eq_e e (fun c40 e => ?_) (fun c40 e => ?_)
          · refine split_eq_e e (fun c39 e => ?_) (fun c39 e => ?_)
            · cases e
              exact ⟨_, O38.pick [], rfl⟩
            · cases e
              exact ⟨_, O38.pick [], rfl⟩
          · cases e
            exact ⟨_, O38.pick [], rfl⟩
        · cases e
          exact ⟨_, O38.pick [], rfl⟩
      · cases e
        exact ⟨_, O38.pick [], rfl⟩
    · cases e
      exact ⟨_, O38.pick [], rfl⟩
  · refine split_dec_e e (fun c44 e => ?_) (fun c44 e => ?_)
    · exact roadlaw4_TraceTells.j2.walk (O38.pick [0, 1]).nm rfl k_0 r_0 rfl k_1 r_1 rfl rfl e
    · exact roadlaw4_TraceTells.j2.walk (O38.pick [0, 1]).nm rfl k_0 r_0 rfl k_1 r_1 rfl rfl e

noncomputable def roadlaw4_TraceTells (a_0 : List T_api_Event) (a_1 : List T_api_Event) (x_2 : Int) (x_3 : Int) : Option (Bool) :=
  Option.bind (roadlaw4_two ) fun y1 => Option.bind (trace_Led y1 (1 : Int)) fun y13 => if y13.2 = (0 : Int) then (if (((List.length y13.1) : Nat) : Int) = (2 : Int) then ((roadlaw4_TraceTells.j0 a_0 a_1 x_2 x_3)) else (some (false))) else (some (false))
set_option maxRecDepth 100000 in
theorem roadlaw4_TraceTells.walk {W : Nat → Prop} {h m : Heap} {A_0 : Option Addr} {n_0 c_0 : Nat} {A_1 : Option Addr} {n_1 c_1 : Nat} {a_0 : List T_api_Event} {a_1 : List T_api_Event} {x_2 : Int} {x_3 : Int} (O : Hold W h m h m []) (ne_0 : n_0 = List.length a_0) (k_0 : List.length a_0 ≤ c_0) (r_0 : Rd 3 T_api_Event.E m A_0 a_0) (ne_1 : n_1 = List.length a_1) (k_1 : List.length a_1 ≤ c_1) (r_1 : Rd 3 T_api_Event.E m A_1 a_1) {r : Bool} (e : roadlaw4_TraceTells a_0 a_1 x_2 x_3 = some r) : Run Try.prog 6 #[Value.slice A_0 n_0 c_0, Value.slice A_1 n_1 c_1, Value.int .i64 x_2, Value.int .i64 x_3] h (roadlaw4_TraceTells.post W h m r) := by
  unfold roadlaw4_TraceTells at e
  subst ne_0
  subst ne_1
  refine f6.run ?_
  unfold f6.runT
  obtain ⟨y1, g2, e⟩ := bind_e e
  refine (roadlaw4_two.walk (Hold.start (W := No) O.s)  g2).mono ?_
  rintro _ h3 ⟨m4, A7, n8, c9, Q5, rfl, ne10⟩
  have O12 := Hold.nm (O.retC Q5 (vfs_cons (rR_vf (aE_vf (fun _ _ _ _ h => T_api_Event.keep h))) vfs_nil))
  subst ne10
  refine ⟨_, _, _, rfl, ?_⟩
  obtain ⟨y13, g14, e⟩ := bind_e e
  obtain ⟨m19, u20, s25, ⟨⟨r23, k24⟩, _⟩, B21, C22⟩ := O12.lend0 [0]
  replace r23 : Rd 3 T_api_Event.E m19 A7 y1 := r23
  replace k24 : List.length y1 ≤ c9 := k24
  refine (trace_Led.walk (Hold.start (W := No) s25) rfl k24 r23 g14).mono ?_
  rintro _ h15 ⟨m16, A26, n27, c28, Q17, rfl, ne29⟩
  have O31 := Hold.nm (C22 Q17 (vfs_cons (rR_vf (aE_vf (fun _ _ _ _ h => T_api_Event.keep h))) vfs_nil))
  subst ne29
  refine ⟨_, _, _, _, rfl, ?_⟩
  refine split_ne_e e (fun c33 e => ?_) (fun c33 e => ?_)
  · cases e
    exact ⟨_, O31.pick [], rfl⟩
  · refine split_ne_e e (fun c32 e => ?_) (fun c32 e => ?_)
    · cases e
      exact ⟨_, O31.pick [], rfl⟩
    · exact roadlaw4_TraceTells.j0.walk (O31.pick []).nm rfl k_0 r_0 rfl k_1 r_1 e

end Go.Proofs.Ytklobcelbpjjcab.Fw
