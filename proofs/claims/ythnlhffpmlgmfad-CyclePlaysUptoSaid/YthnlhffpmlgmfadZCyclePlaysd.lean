/- Part 4: what the law CyclePlays needs, put together out of texts of this session. -/
import Derived.Test.YthnlhffpmlgmfadZCyclePlaysc
section
namespace Go.Proofs.Ythnlhffpmlgmfad.Fw
open Go Go.Hw Go.Proofs
set_option linter.unusedVariables false
set_option synthInstance.maxHeartbeats 400000
set_option synthInstance.maxSize 1000
structure T_api_Know where
  Ref : Int
  Awake : Bool
  Root : Bool
  Refs : (List Int)
def T_api_Know.E (h : Heap) (x : T_api_Know) (cs : List Value) : Prop := ∃ A3 c3, cs = [.int .i64 x.Ref, .bool x.Awake, .bool x.Root, .slice A3 x.Refs.length c3] ∧ x.Refs.length ≤ c3 ∧ Rd 1 (eInt .i64) h A3 x.Refs
theorem T_api_Know.T : Tell 4 T_api_Know.E := ⟨by rintro m h x _ s ⟨A3, c3, rfl, k3, r3⟩; exact ⟨_, _, rfl, k3, r3.sub (tell_int .i64) s⟩, by rintro h x _ ⟨A3, c3, rfl, k3, r3⟩; rfl, by rintro h x _ ⟨A3, c3, rfl, k3, r3⟩; exact Flats.cons trivial (Flats.cons trivial (Flats.cons trivial (Flats.cons trivial Flats.nil)))⟩
def T_api_Know.Q (x : T_api_Know) : Prop := (-9223372036854775808 ≤ x.Ref ∧ x.Ref ≤ 9223372036854775807) ∧ True ∧ True ∧ (x.Refs.length * 8 ≤ 140737488351232 ∧ ∀ a ∈ x.Refs, (-9223372036854775808 ≤ a ∧ a ≤ 9223372036854775807))
theorem T_api_Know.tells {H : Type} {enc : TypeId × Value → H} {W : World} : Tells enc Try.prog W 28 T_api_Know.E T_api_Know.Q := tells_map (tells_struct (t := 28) (fs := [(3, 0), (4, 1), (4, 2), (23, 3)]) (T := 4) (by kernel_rfl) (by kernel_rfl) (tf_cons (s := 1) (f := 3) (by kernel_rfl) (tells_i64 (t := 3) (by kernel_rfl)) (tf_cons (s := 1) (f := 4) (by kernel_rfl) (tells_bool (t := 4) (by kernel_rfl)) (tf_cons (s := 1) (f := 4) (by kernel_rfl) (tells_bool (t := 4) (by kernel_rfl)) (tf_cons (s := 1) (f := 23) (by kernel_rfl) (tells_sliceL (t := 23) (e := 3) (sz := 1) (B := 8) (by kernel_rfl) (by kernel_rfl) (by kernel_rfl) (tells_i64 (t := 3) (by kernel_rfl))) tf_nil))))) (by
  rintro ⟨x0, x1, x2, x3, ⟨⟩⟩ cs e q
  obtain ⟨c0, r0, rfl, e0, c1, r1, rfl, e1, c2, r2, rfl, e2, c3, r3, rfl, e3, eN⟩ := e
  obtain rfl : c0 = [.int .i64 x0] := e0
  obtain rfl : c1 = [.bool x1] := e1
  obtain rfl : c2 = [.bool x2] := e2
  obtain ⟨A3, k3, rfl, l3, R3⟩ := e3
  obtain rfl : r3 = [] := eN
  exact ⟨⟨x0, x1, x2, x3⟩, ⟨_, _, rfl, l3, R3⟩, q.1, q.2.1, q.2.2.1, q.2.2.2.1⟩)
def T_api_Know.bulk (x : T_api_Know) : Nat := (1 + (1 + (1 + (((List.map (fun _ => 1) x.Refs).sum + 1) + (0))))) + 1
theorem T_api_Know.kt {H : Type} {bk : DataW H → Nat} {enc : TypeId × Value → H} {W : World} {N : Nat} (M : Measure bk) : KT N bk enc Try.prog W 28 T_api_Know.E T_api_Know.bulk := kt_down (kt_map (kt_struct M (t := 28) (fs := [(3, 0), (4, 1), (4, 2), (23, 3)]) (T := 4) (by kernel_rfl) (by kernel_rfl) (ktf_cons (s := 1) (f := 3) (by kernel_rfl) (tell_int .i64) (kt_one M) (ktf_cons (s := 1) (f := 4) (by kernel_rfl) tell_bool (kt_one M) (ktf_cons (s := 1) (f := 4) (by kernel_rfl) tell_bool (kt_one M) (ktf_cons (s := 1) (f := 23) (by kernel_rfl) (tell_row (tell_int .i64)) (kt_slice M (t := 23) (e := 3) (sz := 1) (by kernel_rfl) (by kernel_rfl) (kt_one M)) ktf_nil))))) (fun x cs e => by
  obtain ⟨A3, c3, rfl, k3, r3⟩ := e
  exact ⟨(x.Ref, x.Awake, x.Root, x.Refs, ()), ⟨[.int .i64 x.Ref], _, rfl, rfl, ⟨[.bool x.Awake], _, rfl, rfl, ⟨[.bool x.Root], _, rfl, rfl, ⟨[.slice A3 x.Refs.length c3], _, rfl, ⟨_, _, rfl, k3, r3⟩, rfl⟩⟩⟩⟩, Nat.le_refl _⟩))
structure T_cycle_Node where
  l_ : (List T_api_Know)
  at_ : (List (Int × Int))
  marked_ : (List (Int × Bool))
  out_ : (List Int)
  sent_ : Int
  took_ : Int
def T_cycle_Node.E (h : Heap) (x : T_cycle_Node) (cs : List Value) : Prop := ∃ A0 c0 p1 p2 A3 c3, cs = [.slice A0 x.l_.length c0, .map p1, .map p2, .slice A3 x.out_.length c3, .int .i64 x.sent_, .int .i64 x.took_] ∧ x.l_.length ≤ c0 ∧ Rd 4 T_api_Know.E h A0 x.l_ ∧ FMo (eV0 (eInt .i64)) (fun n : Int => Value.int .i64 n) h p1 x.at_ ∧ FMo (eV0 eBool) (fun n : Int => Value.int .i64 n) h p2 x.marked_ ∧ x.out_.length ≤ c3 ∧ Rd 1 (eInt .i64) h A3 x.out_
theorem T_api_Know.g0 {m : Heap} {x : T_api_Know} {cs : List Value} (e : T_api_Know.E m x cs) : cs[0]? = some (Value.int .i64 x.Ref) := by
  obtain ⟨A3, c3, rfl, k3, r3⟩ := e
  exact rfl
theorem T_api_Know.g2 {m : Heap} {x : T_api_Know} {cs : List Value} (e : T_api_Know.E m x cs) : cs[2]? = some (Value.bool x.Root) := by
  obtain ⟨A3, c3, rfl, k3, r3⟩ := e
  exact rfl
theorem T_api_Know.g1 {m : Heap} {x : T_api_Know} {cs : List Value} (e : T_api_Know.E m x cs) : cs[1]? = some (Value.bool x.Awake) := by
  obtain ⟨A3, c3, rfl, k3, r3⟩ := e
  exact rfl
theorem T_api_Know.g3 {m : Heap} {x : T_api_Know} {cs : List Value} (e : T_api_Know.E m x cs) : ∃ A c, cs[3]? = some (.slice A (List.length x.Refs) c) ∧ List.length x.Refs ≤ c ∧ Rd 1 (eInt .i64) m A x.Refs := by
  obtain ⟨A3, c3, rfl, k3, r3⟩ := e
  exact ⟨_, _, rfl, k3, r3⟩
theorem T_cycle_Node.g2 {m : Heap} {x : T_cycle_Node} {cs : List Value} (e : T_cycle_Node.E m x cs) : ∃ p, cs[2]? = some (.map p) ∧ FMo (eV0 eBool) (fun n : Int => Value.int .i64 n) m p x.marked_ := by
  obtain ⟨A0, c0, p1, p2, A3, c3, rfl, k0, r0, f1, f2, k3, r3⟩ := e
  exact ⟨_, rfl, f2⟩
theorem T_cycle_Node.g5 {m : Heap} {x : T_cycle_Node} {cs : List Value} (e : T_cycle_Node.E m x cs) : cs[5]? = some (Value.int .i64 x.took_) := by
  obtain ⟨A0, c0, p1, p2, A3, c3, rfl, k0, r0, f1, f2, k3, r3⟩ := e
  exact rfl
theorem T_cycle_Node.g4 {m : Heap} {x : T_cycle_Node} {cs : List Value} (e : T_cycle_Node.E m x cs) : cs[4]? = some (Value.int .i64 x.sent_) := by
  obtain ⟨A0, c0, p1, p2, A3, c3, rfl, k0, r0, f1, f2, k3, r3⟩ := e
  exact rfl
theorem T_cycle_Node.g0 {m : Heap} {x : T_cycle_Node} {cs : List Value} (e : T_cycle_Node.E m x cs) : ∃ A c, cs[0]? = some (.slice A (List.length x.l_) c) ∧ List.length x.l_ ≤ c ∧ Rd 4 T_api_Know.E m A x.l_ := by
  obtain ⟨A0, c0, p1, p2, A3, c3, rfl, k0, r0, f1, f2, k3, r3⟩ := e
  exact ⟨_, _, rfl, k0, r0⟩
theorem T_api_Know.s2 {m : Heap} {x : T_api_Know} {cs : List Value} (e : T_api_Know.E m x cs) (v : Bool) : T_api_Know.E m { x with Root := v } (cs.set 2 (Value.bool v)) := by
  obtain ⟨A3, c3, rfl, k3, r3⟩ := e
  exact ⟨_, _, rfl, k3, r3⟩
def slices_Equal_10.post (W : Nat → Prop) (h0 m0 : Heap) (r : Bool) (v : Value) (h : Heap) : Prop := ∃ m , Hold W h0 m0 h m [] ∧ v = .bool r
inductive slices_Equal_10.l0_k.Pt where
  | l0 (a_0 : List Int) (a_1 : List Int) (x_12 : Int) (x_13 : Int)
noncomputable def slices_Equal_10.l0_k.body (go : (p : slices_Equal_10.l0_k.Pt) → Option (Bool)) : (p : slices_Equal_10.l0_k.Pt) → Option (Bool)
  | .l0 a_0 a_1 x_12 x_13 => if x_13 < x_12 then (Option.bind (gi a_0 x_13) fun y1 => Option.bind (gi a_1 x_13) fun y8 => if y1 = y8 then ((go (.l0 a_0 a_1 x_12 (IntKind.wrap .i64 (x_13 + (1 : Int)))))) else (some (false))) else (some (true))
theorem slices_Equal_10.l0_k.mono : MonoF (β := fun _ => (Bool)) slices_Equal_10.l0_k.body := fun f g hfg p => match p with
  | .l0 a_0 a_1 x_12 x_13 => LeO.ite (LeO.bind (LeO.refl _) fun y1 => LeO.bind (LeO.refl _) fun y8 => LeO.ite ((hfg _)) (LeO.refl _)) (LeO.refl _)
noncomputable def slices_Equal_10.l0_k.go (p : slices_Equal_10.l0_k.Pt) : Option (Bool) := fixF (β := fun _ => (Bool)) slices_Equal_10.l0_k.body p
noncomputable def slices_Equal_10.l0 (a_0 : List Int) (a_1 : List Int) (x_12 : Int) (x_13 : Int) : Option (Bool) := slices_Equal_10.l0_k.go (.l0 a_0 a_1 x_12 x_13)
theorem slices_Equal_10.l0_eq (a_0 : List Int) (a_1 : List Int) (x_12 : Int) (x_13 : Int) : slices_Equal_10.l0 a_0 a_1 x_12 x_13 = if x_13 < x_12 then (Option.bind (gi a_0 x_13) fun y1 => Option.bind (gi a_1 x_13) fun y8 => if y1 = y8 then ((slices_Equal_10.l0 a_0 a_1 x_12 (IntKind.wrap .i64 (x_13 + (1 : Int))))) else (some (false))) else (some (true)) := fixF_eq slices_Equal_10.l0_k.mono _
def slices_Equal_10.l0_k.I : (p : slices_Equal_10.l0_k.Pt) → (Bool) → Prop
  | .l0 a_0 a_1 x_12 x_13, r => ∀ (W : Nat → Prop) (h0 m0 h m : Heap) (A_0 : Option Addr) (n_0 c_0 : Nat) (A_1 : Option Addr) (n_1 c_1 : Nat) (O : Hold W h0 m0 h m []) (ne_0 : n_0 = List.length a_0) (k_0 : List.length a_0 ≤ c_0) (r_0 : Rd 1 (eInt .i64) m A_0 a_0) (ne_1 : n_1 = List.length a_1) (k_1 : List.length a_1 ≤ c_1) (r_1 : Rd 1 (eInt .i64) m A_1 a_1), f10.l0 (slices_Equal_10.post W h0 m0 r) A_0 n_0 c_0 A_1 n_1 c_1 x_12 x_13 h
set_option maxRecDepth 100000 in
theorem slices_Equal_10.l0_k.step_l0 (go : (p : slices_Equal_10.l0_k.Pt) → Option (Bool)) (ih : ∀ p r, go p = some r → slices_Equal_10.l0_k.I p r) (a_0 : List Int) (a_1 : List Int) (x_12 : Int) (x_13 : Int) (r : Bool) (e : slices_Equal_10.l0_k.body go (.l0 a_0 a_1 x_12 x_13) = some r) : slices_Equal_10.l0_k.I (.l0 a_0 a_1 x_12 x_13) r := by
  unfold slices_Equal_10.l0_k.body at e
  intro W h0 m0 h m A_0 n_0 c_0 A_1 n_1 c_1 O ne_0 k_0 r_0 ne_1 k_1 r_1
  subst ne_0
  subst ne_1
  refine f10.l0_in ?_
  unfold f10.l0T
  refine split_dec_e e (fun c16 e => ?_) (fun c16 e => ?_)
  · obtain ⟨y1, g2, e⟩ := bind_e e
    refine r_0.addr rfl g2 fun a3 cs4 ha5 hc6 he7 => ?_
    obtain rfl : cs4 = [(Value.int .i64 y1)] := he7
    obtain ⟨y8, g9, e⟩ := bind_e e
    refine r_1.addr rfl g9 fun a10 cs11 ha12 hc13 he14 => ?_
    obtain rfl : cs11 = [(Value.int .i64 y8)] := he14
    refine ⟨_, ld0 O.s hc6 rfl, _, rfl, ?_⟩
    refine ⟨_, ld0 O.s hc13 rfl, _, rfl, ?_⟩
    refine split_ne_e e (fun c15 e => ?_) (fun c15 e => ?_)
    · cases e
      exact ⟨_, O.pick [], rfl⟩
    · exact (ih _ _ e) _ _ _ _ _ _ _ _ _ _ _ (O.pick []).nm rfl k_0 r_0 rfl k_1 r_1
  · cases e
    exact ⟨_, O.pick [], rfl⟩
theorem slices_Equal_10.l0_k.all {p : slices_Equal_10.l0_k.Pt} {r : (Bool)} (e : slices_Equal_10.l0_k.go p = some r) : slices_Equal_10.l0_k.I p r := fixF_ind (β := fun _ => (Bool)) slices_Equal_10.l0_k.mono (I := slices_Equal_10.l0_k.I) (fun go ih p r e => match p with
  | .l0 a_0 a_1 x_12 x_13 => slices_Equal_10.l0_k.step_l0 go ih a_0 a_1 x_12 x_13 r e
  ) e
theorem slices_Equal_10.l0.walk {W : Nat → Prop} {h0 m0 h m : Heap} {A_0 : Option Addr} {n_0 c_0 : Nat} {A_1 : Option Addr} {n_1 c_1 : Nat} {a_0 : List Int} {a_1 : List Int} {x_12 : Int} {x_13 : Int} (O : Hold W h0 m0 h m []) (ne_0 : n_0 = List.length a_0) (k_0 : List.length a_0 ≤ c_0) (r_0 : Rd 1 (eInt .i64) m A_0 a_0) (ne_1 : n_1 = List.length a_1) (k_1 : List.length a_1 ≤ c_1) (r_1 : Rd 1 (eInt .i64) m A_1 a_1) {r : Bool} (e : slices_Equal_10.l0 a_0 a_1 x_12 x_13 = some r) : f10.l0 (slices_Equal_10.post W h0 m0 r) A_0 n_0 c_0 A_1 n_1 c_1 x_12 x_13 h := slices_Equal_10.l0_k.all (p := .l0 a_0 a_1 x_12 x_13) e W h0 m0 h m A_0 n_0 c_0 A_1 n_1 c_1 O ne_0 k_0 r_0 ne_1 k_1 r_1
noncomputable def slices_Equal_10 (a_0 : List Int) (a_1 : List Int) : Option (Bool) :=
  if (((List.length a_0) : Nat) : Int) = (((List.length a_1) : Nat) : Int) then ((slices_Equal_10.l0 a_0 a_1 (((List.length a_0) : Nat) : Int) (0 : Int))) else (some (false))
set_option maxRecDepth 100000 in
theorem slices_Equal_10.walk {W : Nat → Prop} {h m : Heap} {A_0 : Option Addr} {n_0 c_0 : Nat} {A_1 : Option Addr} {n_1 c_1 : Nat} {a_0 : List Int} {a_1 : List Int} (O : Hold W h m h m []) (ne_0 : n_0 = List.length a_0) (k_0 : List.length a_0 ≤ c_0) (r_0 : Rd 1 (eInt .i64) m A_0 a_0) (ne_1 : n_1 = List.length a_1) (k_1 : List.length a_1 ≤ c_1) (r_1 : Rd 1 (eInt .i64) m A_1 a_1) {r : Bool} (e : slices_Equal_10 a_0 a_1 = some r) : Run Try.prog 10 #[Value.slice A_0 n_0 c_0, Value.slice A_1 n_1 c_1] h (slices_Equal_10.post W h m r) := by
  unfold slices_Equal_10 at e
  subst ne_0
  subst ne_1
  refine f10.run ?_
  unfold f10.runT
  refine split_ne_e e (fun c1 e => ?_) (fun c1 e => ?_)
  · cases e
    exact ⟨_, O.pick [], rfl⟩
  · exact slices_Equal_10.l0.walk (O.pick []).nm rfl k_0 r_0 rfl k_1 r_1 e
theorem slices_Equal_10.val (l m : List Int) (hl : l.length ≤ 4611686018427387904) : ∃ b, slices_Equal_10 l m = some b ∧ (b = true ↔ l = m) := equal_val (R := fun x y => x = y) (fun a b n i => slices_Equal_10.l0_eq a b n i) (fun _ _ => rfl) (fun _ _ => Iff.rfl) l m hl
def slices_IndexFunc_21.post (W : Nat → Prop) (h0 m0 : Heap) (r : Int) (v : Value) (h : Heap) : Prop := ∃ m , Hold W h0 m0 h m [] ∧ v = .int .i64 r
inductive slices_IndexFunc_21.l0_k.Pt where
  | l0 (a_0 : List T_api_Know) (p_1 : T_api_Know → Option Bool) (x_7 : Int) (x_8 : Int)
noncomputable def slices_IndexFunc_21.l0_k.body (go : (p : slices_IndexFunc_21.l0_k.Pt) → Option (Int)) : (p : slices_IndexFunc_21.l0_k.Pt) → Option (Int)
  | .l0 a_0 p_1 x_7 x_8 => if x_8 < x_7 then (Option.bind (gi a_0 x_8) fun y1 => Option.bind (p_1 y1) fun y8 => if y8 = true then (some (x_8)) else ((go (.l0 a_0 p_1 x_7 (IntKind.wrap .i64 (x_8 + (1 : Int))))))) else (some ((-1 : Int)))
theorem slices_IndexFunc_21.l0_k.mono : MonoF (β := fun _ => (Int)) slices_IndexFunc_21.l0_k.body := fun f g hfg p => match p with
  | .l0 a_0 p_1 x_7 x_8 => LeO.ite (LeO.bind (LeO.refl _) fun y1 => LeO.bind (LeO.refl _) fun y8 => LeO.ite (LeO.refl _) ((hfg _))) (LeO.refl _)
noncomputable def slices_IndexFunc_21.l0_k.go (p : slices_IndexFunc_21.l0_k.Pt) : Option (Int) := fixF (β := fun _ => (Int)) slices_IndexFunc_21.l0_k.body p
noncomputable def slices_IndexFunc_21.l0 (a_0 : List T_api_Know) (p_1 : T_api_Know → Option Bool) (x_7 : Int) (x_8 : Int) : Option (Int) := slices_IndexFunc_21.l0_k.go (.l0 a_0 p_1 x_7 x_8)
theorem slices_IndexFunc_21.l0_eq (a_0 : List T_api_Know) (p_1 : T_api_Know → Option Bool) (x_7 : Int) (x_8 : Int) : slices_IndexFunc_21.l0 a_0 p_1 x_7 x_8 = if x_8 < x_7 then (Option.bind (gi a_0 x_8) fun y1 => Option.bind (p_1 y1) fun y8 => if y8 = true then (some (x_8)) else ((slices_IndexFunc_21.l0 a_0 p_1 x_7 (IntKind.wrap .i64 (x_8 + (1 : Int)))))) else (some ((-1 : Int))) := fixF_eq slices_IndexFunc_21.l0_k.mono _
def slices_IndexFunc_21.l0_k.I : (p : slices_IndexFunc_21.l0_k.Pt) → (Int) → Prop
  | .l0 a_0 p_1 x_7 x_8, r => ∀ (W : Nat → Prop) (h0 m0 h m : Heap) (A_0 : Option Addr) (n_0 c_0 : Nat) (fv_1 : Value) (O : Hold W h0 m0 h m []) (ne_0 : n_0 = List.length a_0) (k_0 : List.length a_0 ≤ c_0) (r_0 : Rd 4 T_api_Know.E m A_0 a_0) (f_1 : ∀ h' m', Sub m0 m' → Sub m' h' → ∀ (y0 : T_api_Know) (cs0 : List Value) (_ : T_api_Know.E m' y0 cs0) (r : Bool), p_1 y0 = some r → CallF Try.prog fv_1 [.agg cs0.toArray] h' (fun v h'' => v = .bool r ∧ Ext h' h'')), f21.l0 (slices_IndexFunc_21.post W h0 m0 r) A_0 n_0 c_0 fv_1 x_7 x_8 h
set_option maxRecDepth 100000 in
theorem slices_IndexFunc_21.l0_k.step_l0 (go : (p : slices_IndexFunc_21.l0_k.Pt) → Option (Int)) (ih : ∀ p r, go p = some r → slices_IndexFunc_21.l0_k.I p r) (a_0 : List T_api_Know) (p_1 : T_api_Know → Option Bool) (x_7 : Int) (x_8 : Int) (r : Int) (e : slices_IndexFunc_21.l0_k.body go (.l0 a_0 p_1 x_7 x_8) = some r) : slices_IndexFunc_21.l0_k.I (.l0 a_0 p_1 x_7 x_8) r := by
  unfold slices_IndexFunc_21.l0_k.body at e
  intro W h0 m0 h m A_0 n_0 c_0 fv_1 O ne_0 k_0 r_0 f_1
  subst ne_0
  refine f21.l0_in ?_
  unfold f21.l0T
  refine split_dec_e e (fun c14 e => ?_) (fun c14 e => ?_)
  · obtain ⟨y1, g2, e⟩ := bind_e e
    refine r_0.addr rfl g2 fun a3 cs4 ha5 hc6 he7 => ?_
    refine ⟨_, ldAn O.s hc6 rfl, ?_⟩
    obtain ⟨y8, g9, e⟩ := bind_e e
    refine CallF.mono (f_1 _ _ O.up O.s _ _ he7 _ g9) ?_
    rintro _ h10 ⟨rfl, x11⟩
    have O12 := O.ext x11
    refine ⟨_, rfl, ?_⟩
    refine split_any_e e (fun c13 e => ?_) (fun c13 e => ?_)
    · cases e
      exact ⟨_, O12.pick [], rfl⟩
    · exact (ih _ _ e) _ _ _ _ _ _ _ _ _ (O12.pick []).nm rfl k_0 r_0 f_1
  · cases e
    exact ⟨_, O.pick [], rfl⟩
theorem slices_IndexFunc_21.l0_k.all {p : slices_IndexFunc_21.l0_k.Pt} {r : (Int)} (e : slices_IndexFunc_21.l0_k.go p = some r) : slices_IndexFunc_21.l0_k.I p r := fixF_ind (β := fun _ => (Int)) slices_IndexFunc_21.l0_k.mono (I := slices_IndexFunc_21.l0_k.I) (fun go ih p r e => match p with
  | .l0 a_0 p_1 x_7 x_8 => slices_IndexFunc_21.l0_k.step_l0 go ih a_0 p_1 x_7 x_8 r e
  ) e
theorem slices_IndexFunc_21.l0.walk {W : Nat → Prop} {h0 m0 h m : Heap} {A_0 : Option Addr} {n_0 c_0 : Nat} {fv_1 : Value} {a_0 : List T_api_Know} {p_1 : T_api_Know → Option Bool} {x_7 : Int} {x_8 : Int} (O : Hold W h0 m0 h m []) (ne_0 : n_0 = List.length a_0) (k_0 : List.length a_0 ≤ c_0) (r_0 : Rd 4 T_api_Know.E m A_0 a_0) (f_1 : ∀ h' m', Sub m0 m' → Sub m' h' → ∀ (y0 : T_api_Know) (cs0 : List Value) (_ : T_api_Know.E m' y0 cs0) (r : Bool), p_1 y0 = some r → CallF Try.prog fv_1 [.agg cs0.toArray] h' (fun v h'' => v = .bool r ∧ Ext h' h'')) {r : Int} (e : slices_IndexFunc_21.l0 a_0 p_1 x_7 x_8 = some r) : f21.l0 (slices_IndexFunc_21.post W h0 m0 r) A_0 n_0 c_0 fv_1 x_7 x_8 h := slices_IndexFunc_21.l0_k.all (p := .l0 a_0 p_1 x_7 x_8) e W h0 m0 h m A_0 n_0 c_0 fv_1 O ne_0 k_0 r_0 f_1
noncomputable def slices_IndexFunc_21 (a_0 : List T_api_Know) (p_1 : T_api_Know → Option Bool) : Option (Int) :=
  (slices_IndexFunc_21.l0 a_0 p_1 (((List.length a_0) : Nat) : Int) (0 : Int))
set_option maxRecDepth 100000 in
theorem slices_IndexFunc_21.walk {W : Nat → Prop} {h m : Heap} {A_0 : Option Addr} {n_0 c_0 : Nat} {fv_1 : Value} {a_0 : List T_api_Know} {p_1 : T_api_Know → Option Bool} (O : Hold W h m h m []) (ne_0 : n_0 = List.length a_0) (k_0 : List.length a_0 ≤ c_0) (r_0 : Rd 4 T_api_Know.E m A_0 a_0) (f_1 : ∀ h' m', Sub m m' → Sub m' h' → ∀ (y0 : T_api_Know) (cs0 : List Value) (_ : T_api_Know.E m' y0 cs0) (r : Bool), p_1 y0 = some r → CallF Try.prog fv_1 [.agg cs0.toArray] h' (fun v h'' => v = .bool r ∧ Ext h' h'')) {r : Int} (e : slices_IndexFunc_21 a_0 p_1 = some r) : Run Try.prog 21 #[Value.slice A_0 n_0 c_0, fv_1] h (slices_IndexFunc_21.post W h m r) := by
  unfold slices_IndexFunc_21 at e
  subst ne_0
  refine f21.run ?_
  unfold f21.runT
  exact slices_IndexFunc_21.l0.walk (O.pick []).nm rfl k_0 r_0 f_1 e
theorem slices_IndexFunc_21.val {l : List T_api_Know} {p : T_api_Know → Option Bool} (q : T_api_Know → Bool) (hp : ∀ x ∈ l, p x = some (q x)) (hl : l.length ≤ 4611686018427387904) : slices_IndexFunc_21 l p = some (idxOf q l) := find_val (fun a p n i => slices_IndexFunc_21.l0_eq a p n i) q hp hl
def slices_ContainsFunc_25.post (W : Nat → Prop) (h0 m0 : Heap) (r : Bool) (v : Value) (h : Heap) : Prop := ∃ m , Hold W h0 m0 h m [] ∧ v = .bool r
noncomputable def slices_ContainsFunc_25 (a_0 : List T_api_Know) (p_1 : T_api_Know → Option Bool) : Option (Bool) :=
  Option.bind (slices_IndexFunc_21 a_0 p_1) fun y1 => some ((decide (y1 ≥ (0 : Int))))
set_option maxRecDepth 100000 in
theorem slices_ContainsFunc_25.walk {W : Nat → Prop} {h m : Heap} {A_0 : Option Addr} {n_0 c_0 : Nat} {fv_1 : Value} {a_0 : List T_api_Know} {p_1 : T_api_Know → Option Bool} (O : Hold W h m h m []) (ne_0 : n_0 = List.length a_0) (k_0 : List.length a_0 ≤ c_0) (r_0 : Rd 4 T_api_Know.E m A_0 a_0) (f_1 : ∀ h' m', Sub m m' → Sub m' h' → ∀ (y0 : T_api_Know) (cs0 : List Value) (_ : T_api_Know.E m' y0 cs0) (r : Bool), p_1 y0 = some r → CallF Try.prog fv_1 [.agg cs0.toArray] h' (fun v h'' => v = .bool r ∧ Ext h' h'')) {r : Bool} (e : slices_ContainsFunc_25 a_0 p_1 = some r) : Run Try.prog 25 #[Value.slice A_0 n_0 c_0, fv_1] h (slices_ContainsFunc_25.post W h m r) := by
  unfold slices_ContainsFunc_25 at e
  subst ne_0
  refine f25.run ?_
  unfold f25.runT
  obtain ⟨y1, g2, e⟩ := bind_e e
  refine (slices_IndexFunc_21.walk (Hold.start (W := No) O.s) rfl k_0 r_0 f_1 g2).mono ?_
  rintro _ h3 ⟨m4, Q5, rfl⟩
  have O7 := Hold.nm (O.retC Q5 vfs_nil)
  refine ⟨_, rfl, ?_⟩
  cases e
  exact ⟨_, O7.pick [], rfl⟩
theorem slices_ContainsFunc_25.val {l : List T_api_Know} {p : T_api_Know → Option Bool} (q : T_api_Know → Bool) (hp : ∀ x ∈ l, p x = some (q x)) (hl : l.length ≤ 4611686018427387904) : slices_ContainsFunc_25 l p = some (l.any q) := findB_val (fun a p n i => slices_IndexFunc_21.l0_eq a p n i) (fun _ _ => rfl) (fun _ _ => rfl) q hp hl
def roadref4_Knows_1.post (W : Nat → Prop) (h0 m0 : Heap) (r : Bool) (v : Value) (h : Heap) : Prop := ∃ m , Hold W h0 m0 h m [] ∧ v = .bool r
noncomputable def roadref4_Knows_1 (y_0 : T_api_Know) (y_1 : T_api_Know) : Option (Bool) :=
  some ((y_0.Ref == y_1.Ref))
set_option maxRecDepth 100000 in
theorem roadref4_Knows_1.walk {W : Nat → Prop} {h m : Heap} {cs_0 : List Value} {bk_1 : Nat} {y_0 : T_api_Know} {y_1 : T_api_Know} (O : Hold W h m h m []) (e_0 : T_api_Know.E m y_0 cs_0) (v_1 : VB T_api_Know.E m bk_1 y_1) {r : Bool} (e : roadref4_Knows_1 y_0 y_1 = some r) : Run Try.prog 77 #[Value.agg cs_0.toArray, Value.pointer (some ⟨bk_1, 0, none⟩)] h (roadref4_Knows_1.post W h m r) := by
  unfold roadref4_Knows_1 at e
  obtain ⟨cs_1, t_1, hb_1, nn_1, e_1⟩ := id v_1
  refine f77.run ?_
  unfold f77.runT
  refine O.new fun h1 x2 O3 => ?_
  refine ⟨_, ld0 (Sub.refl _) (O3.all 0 rfl) (T_api_Know.g0 e_0), _, rfl, ?_⟩
  refine ⟨_, ld0 O3.s (Blk.all' hb_1) (T_api_Know.g0 e_1), _, rfl, ?_⟩
  have O5 := O3.nm
  cases e
  exact ⟨_, O5.pick [], rfl⟩
def roadref4_Knows.post (W : Nat → Prop) (h0 m0 : Heap) (r : Int) (v : Value) (h : Heap) : Prop := ∃ m , Hold W h0 m0 h m [] ∧ v = .int .i64 r
inductive roadref4_Knows.l0_k.Pt where
  | l0 (a_0 : List T_api_Know) (a_8 : List T_api_Know) (x_9 : Int) (x_10 : Int)
noncomputable def roadref4_Knows.l0_k.body (go : (p : roadref4_Knows.l0_k.Pt) → Option (Int)) : (p : roadref4_Knows.l0_k.Pt) → Option (Int)
  | .l0 a_0 a_8 x_9 x_10 => if x_10 < x_9 then (Option.bind (gi a_8 x_10) fun y1 => Option.bind (sls a_0 (0 : Int) x_10) fun l14 => Option.bind (slices_ContainsFunc_25 l14 (fun z32 => roadref4_Knows_1 z32 y1)) fun y19 => if y19 = true then (some ((5 : Int))) else ((go (.l0 a_0 a_8 x_9 (IntKind.wrap .i64 (x_10 + (1 : Int))))))) else (some ((0 : Int)))
attribute [local irreducible] roadref4_Knows_1 in
theorem roadref4_Knows.l0_k.mono : MonoF (β := fun _ => (Int)) roadref4_Knows.l0_k.body := fun f g hfg p => match p with
  | .l0 a_0 a_8 x_9 x_10 => LeO.ite (LeO.bind (LeO.refl _) fun y1 => LeO.bind (LeO.refl _) fun l14 => LeO.bind (LeO.refl _) fun y19 => LeO.ite (LeO.refl _) ((hfg _))) (LeO.refl _)
noncomputable def roadref4_Knows.l0_k.go (p : roadref4_Knows.l0_k.Pt) : Option (Int) := fixF (β := fun _ => (Int)) roadref4_Knows.l0_k.body p
noncomputable def roadref4_Knows.l0 (a_0 : List T_api_Know) (a_8 : List T_api_Know) (x_9 : Int) (x_10 : Int) : Option (Int) := roadref4_Knows.l0_k.go (.l0 a_0 a_8 x_9 x_10)
theorem roadref4_Knows.l0_eq (a_0 : List T_api_Know) (a_8 : List T_api_Know) (x_9 : Int) (x_10 : Int) : roadref4_Knows.l0 a_0 a_8 x_9 x_10 = if x_10 < x_9 then (Option.bind (gi a_8 x_10) fun y1 => Option.bind (sls a_0 (0 : Int) x_10) fun l14 => Option.bind (slices_ContainsFunc_25 l14 (fun z32 => roadref4_Knows_1 z32 y1)) fun y19 => if y19 = true then (some ((5 : Int))) else ((roadref4_Knows.l0 a_0 a_8 x_9 (IntKind.wrap .i64 (x_10 + (1 : Int)))))) else (some ((0 : Int))) := fixF_eq roadref4_Knows.l0_k.mono _
def roadref4_Knows.l0_k.I : (p : roadref4_Knows.l0_k.Pt) → (Int) → Prop
  | .l0 a_0 a_8 x_9 x_10, r => ∀ (W : Nat → Prop) (h0 m0 h m : Heap) (A_0 : Option Addr) (n_0 c_0 : Nat) (A_8 : Option Addr) (n_8 c_8 : Nat) (O : Hold W h0 m0 h m []) (ne_0 : n_0 = List.length a_0) (k_0 : List.length a_0 ≤ c_0) (r_0 : Rd 4 T_api_Know.E m A_0 a_0) (ne_8 : n_8 = List.length a_8) (k_8 : List.length a_8 ≤ c_8) (r_8 : Rd 4 T_api_Know.E m A_8 a_8), f12.l0 (roadref4_Knows.post W h0 m0 r) A_0 n_0 c_0 A_8 n_8 c_8 x_9 x_10 h
set_option maxRecDepth 100000 in
theorem roadref4_Knows.l0_k.step_l0 (go : (p : roadref4_Knows.l0_k.Pt) → Option (Int)) (ih : ∀ p r, go p = some r → roadref4_Knows.l0_k.I p r) (a_0 : List T_api_Know) (a_8 : List T_api_Know) (x_9 : Int) (x_10 : Int) (r : Int) (e : roadref4_Knows.l0_k.body go (.l0 a_0 a_8 x_9 x_10) = some r) : roadref4_Knows.l0_k.I (.l0 a_0 a_8 x_9 x_10) r := by
  unfold roadref4_Knows.l0_k.body at e
  intro W h0 m0 h m A_0 n_0 c_0 A_8 n_8 c_8 O ne_0 k_0 r_0 ne_8 k_8 r_8
  subst ne_0
  subst ne_8
  refine f12.l0_in ?_
  unfold f12.l0T
  refine split_dec_e e (fun c42 e => ?_) (fun c42 e => ?_)
  · obtain ⟨y1, g2, e⟩ := bind_e e
    refine r_8.addr rfl g2 fun a3 cs4 ha5 hc6 he7 => ?_
    refine ⟨_, ldAn O.s hc6 rfl, ?_⟩
    refine O.new fun h8 x9 O10 => ?_
    refine ⟨_, rfl, (T_api_Know.T.len _ _ _ he7), ?_⟩
    refine O10.stA 0 rfl (T_api_Know.T.len _ _ _ he7) (T_api_Know.T.flat _ _ _ he7) fun h12 O13 => ?_
    obtain ⟨l14, g15, e⟩ := bind_e e
    have q16 := sls_e g15
    refine ⟨q16.1, q16.2.1, cap_in q16.2.2.1 k_0, ?_⟩
    try rw [q16.2.2.2.1]
    have k17 : List.length l14 ≤ (c_0 - Int.toNat (0 : Int)) := sls_cap g15 k_0
    have r18 := r_0.sls g15 (le_mx q16.2.2.1 k_0)
    obtain ⟨y19, g20, e⟩ := bind_e e
    have O25 := O13.nm
    obtain ⟨m26, u27, s31, ⟨hb30, _⟩, B28, C29⟩ := O25.lend0 [0]
    refine (slices_ContainsFunc_25.walk (Hold.start (W := No) s31) rfl k17 (r18.sub T_api_Know.T u27) (fun h33 m34 u35 s36 y39 cs39 he39 r37 e38 => CallF.of [Value.agg cs39.toArray, Value.pointer (some ⟨(Array.size h), 0, none⟩)] f77.ok rfl ((roadref4_Knows_1.walk (Hold.start (W := No) s36) he39 (VB.sub (show VB T_api_Know.E _ _ _ from ⟨_, _, hb30, nn_len (T_api_Know.T.len _ _ _ he7), (T_api_Know.T.mono _ _ _ _ u27 he7)⟩) T_api_Know.T u35) e38).mono (fun _ _ h => let ⟨_, t, e⟩ := h; ⟨e, t.S.ext⟩))) g20).mono ?_
    rintro _ h21 ⟨m22, Q23, rfl⟩
    have O40 := Hold.nm (C29 Q23 vfs_nil)
    refine ⟨_, rfl, ?_⟩
    refine split_any_e e (fun c41 e => ?_) (fun c41 e => ?_)
    · cases e
      exact ⟨_, O40.pick [], rfl⟩
    · exact (ih _ _ e) _ _ _ _ _ _ _ _ _ _ _ (O40.pick []).nm rfl k_0 r_0 rfl k_8 r_8
  · cases e
    exact ⟨_, O.pick [], rfl⟩
theorem roadref4_Knows.l0_k.all {p : roadref4_Knows.l0_k.Pt} {r : (Int)} (e : roadref4_Knows.l0_k.go p = some r) : roadref4_Knows.l0_k.I p r := fixF_ind (β := fun _ => (Int)) roadref4_Knows.l0_k.mono (I := roadref4_Knows.l0_k.I) (fun go ih p r e => match p with
  | .l0 a_0 a_8 x_9 x_10 => roadref4_Knows.l0_k.step_l0 go ih a_0 a_8 x_9 x_10 r e
  ) e
theorem roadref4_Knows.l0.walk {W : Nat → Prop} {h0 m0 h m : Heap} {A_0 : Option Addr} {n_0 c_0 : Nat} {A_8 : Option Addr} {n_8 c_8 : Nat} {a_0 : List T_api_Know} {a_8 : List T_api_Know} {x_9 : Int} {x_10 : Int} (O : Hold W h0 m0 h m []) (ne_0 : n_0 = List.length a_0) (k_0 : List.length a_0 ≤ c_0) (r_0 : Rd 4 T_api_Know.E m A_0 a_0) (ne_8 : n_8 = List.length a_8) (k_8 : List.length a_8 ≤ c_8) (r_8 : Rd 4 T_api_Know.E m A_8 a_8) {r : Int} (e : roadref4_Knows.l0 a_0 a_8 x_9 x_10 = some r) : f12.l0 (roadref4_Knows.post W h0 m0 r) A_0 n_0 c_0 A_8 n_8 c_8 x_9 x_10 h := roadref4_Knows.l0_k.all (p := .l0 a_0 a_8 x_9 x_10) e W h0 m0 h m A_0 n_0 c_0 A_8 n_8 c_8 O ne_0 k_0 r_0 ne_8 k_8 r_8
noncomputable def roadref4_Knows (a_0 : List T_api_Know) : Option (Int) :=
  if (((List.length a_0) : Nat) : Int) > (480 : Int) then (some ((2 : Int))) else ((roadref4_Knows.l0 a_0 a_0 (((List.length a_0) : Nat) : Int) (0 : Int)))
set_option maxRecDepth 100000 in
theorem roadref4_Knows.walk {W : Nat → Prop} {h m : Heap} {A_0 : Option Addr} {n_0 c_0 : Nat} {a_0 : List T_api_Know} (O : Hold W h m h m []) (ne_0 : n_0 = List.length a_0) (k_0 : List.length a_0 ≤ c_0) (r_0 : Rd 4 T_api_Know.E m A_0 a_0) {r : Int} (e : roadref4_Knows a_0 = some r) : Run Try.prog 12 #[Value.slice A_0 n_0 c_0] h (roadref4_Knows.post W h m r) := by
  unfold roadref4_Knows at e
  subst ne_0
  refine f12.run ?_
  unfold f12.runT
  refine split_dec_e e (fun c1 e => ?_) (fun c1 e => ?_)
  · cases e
    exact ⟨_, O.pick [], rfl⟩
  · exact roadref4_Knows.l0.walk (O.pick []).nm rfl k_0 r_0 rfl k_0 r_0 e
def slices_Index_82.post (W : Nat → Prop) (h0 m0 : Heap) (r : Int) (v : Value) (h : Heap) : Prop := ∃ m , Hold W h0 m0 h m [] ∧ v = .int .i64 r
inductive slices_Index_82.l0_k.Pt where
  | l0 (a_0 : List Int) (x_1 : Int) (x_7 : Int) (x_8 : Int)
noncomputable def slices_Index_82.l0_k.body (go : (p : slices_Index_82.l0_k.Pt) → Option (Int)) : (p : slices_Index_82.l0_k.Pt) → Option (Int)
  | .l0 a_0 x_1 x_7 x_8 => if x_8 < x_7 then (Option.bind (gi a_0 x_8) fun y1 => if x_1 = y1 then (some (x_8)) else ((go (.l0 a_0 x_1 x_7 (IntKind.wrap .i64 (x_8 + (1 : Int))))))) else (some ((-1 : Int)))
theorem slices_Index_82.l0_k.mono : MonoF (β := fun _ => (Int)) slices_Index_82.l0_k.body := fun f g hfg p => match p with
  | .l0 a_0 x_1 x_7 x_8 => LeO.ite (LeO.bind (LeO.refl _) fun y1 => LeO.ite (LeO.refl _) ((hfg _))) (LeO.refl _)
noncomputable def slices_Index_82.l0_k.go (p : slices_Index_82.l0_k.Pt) : Option (Int) := fixF (β := fun _ => (Int)) slices_Index_82.l0_k.body p
noncomputable def slices_Index_82.l0 (a_0 : List Int) (x_1 : Int) (x_7 : Int) (x_8 : Int) : Option (Int) := slices_Index_82.l0_k.go (.l0 a_0 x_1 x_7 x_8)
theorem slices_Index_82.l0_eq (a_0 : List Int) (x_1 : Int) (x_7 : Int) (x_8 : Int) : slices_Index_82.l0 a_0 x_1 x_7 x_8 = if x_8 < x_7 then (Option.bind (gi a_0 x_8) fun y1 => if x_1 = y1 then (some (x_8)) else ((slices_Index_82.l0 a_0 x_1 x_7 (IntKind.wrap .i64 (x_8 + (1 : Int)))))) else (some ((-1 : Int))) := fixF_eq slices_Index_82.l0_k.mono _
def slices_Index_82.l0_k.I : (p : slices_Index_82.l0_k.Pt) → (Int) → Prop
  | .l0 a_0 x_1 x_7 x_8, r => ∀ (W : Nat → Prop) (h0 m0 h m : Heap) (A_0 : Option Addr) (n_0 c_0 : Nat) (O : Hold W h0 m0 h m []) (ne_0 : n_0 = List.length a_0) (k_0 : List.length a_0 ≤ c_0) (r_0 : Rd 1 (eInt .i64) m A_0 a_0), f82.l0 (slices_Index_82.post W h0 m0 r) A_0 n_0 c_0 x_1 x_7 x_8 h
set_option maxRecDepth 100000 in
theorem slices_Index_82.l0_k.step_l0 (go : (p : slices_Index_82.l0_k.Pt) → Option (Int)) (ih : ∀ p r, go p = some r → slices_Index_82.l0_k.I p r) (a_0 : List Int) (x_1 : Int) (x_7 : Int) (x_8 : Int) (r : Int) (e : slices_Index_82.l0_k.body go (.l0 a_0 x_1 x_7 x_8) = some r) : slices_Index_82.l0_k.I (.l0 a_0 x_1 x_7 x_8) r := by
  unfold slices_Index_82.l0_k.body at e
  intro W h0 m0 h m A_0 n_0 c_0 O ne_0 k_0 r_0
  subst ne_0
  refine f82.l0_in ?_
  unfold f82.l0T
  refine split_dec_e e (fun c9 e => ?_) (fun c9 e => ?_)
  · obtain ⟨y1, g2, e⟩ := bind_e e
    refine r_0.addr rfl g2 fun a3 cs4 ha5 hc6 he7 => ?_
    obtain rfl : cs4 = [(Value.int .i64 y1)] := he7
    refine ⟨_, ld0 O.s hc6 rfl, _, rfl, ?_⟩
    refine split_eq_e e (fun c8 e => ?_) (fun c8 e => ?_)
    · cases e
      exact ⟨_, O.pick [], rfl⟩
    · exact (ih _ _ e) _ _ _ _ _ _ _ _ (O.pick []).nm rfl k_0 r_0
  · cases e
    exact ⟨_, O.pick [], rfl⟩
theorem slices_Index_82.l0_k.all {p : slices_Index_82.l0_k.Pt} {r : (Int)} (e : slices_Index_82.l0_k.go p = some r) : slices_Index_82.l0_k.I p r := fixF_ind (β := fun _ => (Int)) slices_Index_82.l0_k.mono (I := slices_Index_82.l0_k.I) (fun go ih p r e => match p with
  | .l0 a_0 x_1 x_7 x_8 => slices_Index_82.l0_k.step_l0 go ih a_0 x_1 x_7 x_8 r e
  ) e
theorem slices_Index_82.l0.walk {W : Nat → Prop} {h0 m0 h m : Heap} {A_0 : Option Addr} {n_0 c_0 : Nat} {a_0 : List Int} {x_1 : Int} {x_7 : Int} {x_8 : Int} (O : Hold W h0 m0 h m []) (ne_0 : n_0 = List.length a_0) (k_0 : List.length a_0 ≤ c_0) (r_0 : Rd 1 (eInt .i64) m A_0 a_0) {r : Int} (e : slices_Index_82.l0 a_0 x_1 x_7 x_8 = some r) : f82.l0 (slices_Index_82.post W h0 m0 r) A_0 n_0 c_0 x_1 x_7 x_8 h := slices_Index_82.l0_k.all (p := .l0 a_0 x_1 x_7 x_8) e W h0 m0 h m A_0 n_0 c_0 O ne_0 k_0 r_0
noncomputable def slices_Index_82 (a_0 : List Int) (x_1 : Int) : Option (Int) :=
  (slices_Index_82.l0 a_0 x_1 (((List.length a_0) : Nat) : Int) (0 : Int))
set_option maxRecDepth 100000 in
theorem slices_Index_82.walk {W : Nat → Prop} {h m : Heap} {A_0 : Option Addr} {n_0 c_0 : Nat} {a_0 : List Int} {x_1 : Int} (O : Hold W h m h m []) (ne_0 : n_0 = List.length a_0) (k_0 : List.length a_0 ≤ c_0) (r_0 : Rd 1 (eInt .i64) m A_0 a_0) {r : Int} (e : slices_Index_82 a_0 x_1 = some r) : Run Try.prog 82 #[Value.slice A_0 n_0 c_0, Value.int .i64 x_1] h (slices_Index_82.post W h m r) := by
  unfold slices_Index_82 at e
  subst ne_0
  refine f82.run ?_
  unfold f82.runT
  exact slices_Index_82.l0.walk (O.pick []).nm rfl k_0 r_0 e
def slices_Contains_24.post (W : Nat → Prop) (h0 m0 : Heap) (r : Bool) (v : Value) (h : Heap) : Prop := ∃ m , Hold W h0 m0 h m [] ∧ v = .bool r
noncomputable def slices_Contains_24 (a_0 : List Int) (x_1 : Int) : Option (Bool) :=
  Option.bind (slices_Index_82 a_0 x_1) fun y1 => some ((decide (y1 ≥ (0 : Int))))
set_option maxRecDepth 100000 in
theorem slices_Contains_24.walk {W : Nat → Prop} {h m : Heap} {A_0 : Option Addr} {n_0 c_0 : Nat} {a_0 : List Int} {x_1 : Int} (O : Hold W h m h m []) (ne_0 : n_0 = List.length a_0) (k_0 : List.length a_0 ≤ c_0) (r_0 : Rd 1 (eInt .i64) m A_0 a_0) {r : Bool} (e : slices_Contains_24 a_0 x_1 = some r) : Run Try.prog 24 #[Value.slice A_0 n_0 c_0, Value.int .i64 x_1] h (slices_Contains_24.post W h m r) := by
  unfold slices_Contains_24 at e
  subst ne_0
  refine f24.run ?_
  unfold f24.runT
  obtain ⟨y1, g2, e⟩ := bind_e e
  refine (slices_Index_82.walk (Hold.start (W := No) O.s) rfl k_0 r_0 g2).mono ?_
  rintro _ h3 ⟨m4, Q5, rfl⟩
  have O7 := Hold.nm (O.retC Q5 vfs_nil)
  refine ⟨_, rfl, ?_⟩
  cases e
  exact ⟨_, O7.pick [], rfl⟩
theorem slices_Contains_24.val {l : List Int} (v : Int) (hl : l.length ≤ 4611686018427387904) : slices_Contains_24 l v = some (decide (v ∈ l)) := contains_val (fun a p n i => slices_Index_82.l0_eq a p n i) (fun _ _ => rfl) (fun _ _ => rfl) v hl
def roadref4_Alive.post (W : Nat → Prop) (h0 m0 : Heap) (r : (List Int)) (v : Value) (h : Heap) : Prop := ∃ m A0 n0 c0, Hold W h0 m0 h m [rR (aE (tell_int .i64)) A0 c0 r] ∧ v = .slice A0 n0 c0 ∧ n0 = List.length r
inductive roadref4_Alive.l1_k.Pt where
  | l1 (a_0 : List T_api_Know) (a_3 : List Int) (x_33 : Int) (x_34 : Int)
  | l2 (a_0 : List T_api_Know) (a_3 : List Int) (x_6 : Int) (x_33 : Int) (x_34 : Int) (x_38 : Int) (x_39 : Int)
  | l3 (a_0 : List T_api_Know) (a_3 : List Int) (x_6 : Int) (x_7 : Int) (x_33 : Int) (x_34 : Int) (x_38 : Int) (x_39 : Int) (x_49 : Int) (x_50 : Int)
  | j1 (a_0 : List T_api_Know) (a_3 : List Int) (x_6 : Int) (x_7 : Int) (x_8 : Int) (x_33 : Int) (x_34 : Int) (x_38 : Int) (x_39 : Int) (x_49 : Int) (x_50 : Int) (b_70 : Bool)
noncomputable def roadref4_Alive.l1_k.body (go : (p : roadref4_Alive.l1_k.Pt) → Option ((List Int))) : (p : roadref4_Alive.l1_k.Pt) → Option ((List Int))
  | .l1 a_0 a_3 x_33 x_34 => if x_34 < x_33 then ((go (.l2 a_0 a_3 x_34 x_33 x_34 (((List.length a_0) : Nat) : Int) (0 : Int)))) else (some (a_3))
  | .l2 a_0 a_3 x_6 x_33 x_34 x_38 x_39 => if x_39 < x_38 then (Option.bind (gi a_3 x_39) fun y1 => if y1 = x_6 then ((go (.l3 a_0 a_3 x_6 x_39 x_33 x_34 x_38 x_39 (((List.length a_0) : Nat) : Int) (0 : Int)))) else ((go (.l2 a_0 a_3 x_6 x_33 x_34 x_38 (IntKind.wrap .i64 (x_39 + (1 : Int))))))) else ((go (.l1 a_0 a_3 x_33 (IntKind.wrap .i64 (x_34 + (1 : Int))))))
  | .l3 a_0 a_3 x_6 x_7 x_33 x_34 x_38 x_39 x_49 x_50 => if x_50 < x_49 then (Option.bind (gi a_3 x_50) fun y1 => if y1 < (0 : Int) then (Option.bind (gi a_0 x_7) fun y8 => Option.bind (gi a_0 x_50) fun y15 => Option.bind (slices_Contains_24 y8.Refs y15.Ref) fun y27 => (go (.j1 a_0 a_3 x_6 x_7 x_50 x_33 x_34 x_38 x_39 x_49 x_50 y27))) else ((go (.j1 a_0 a_3 x_6 x_7 x_50 x_33 x_34 x_38 x_39 x_49 x_50 false)))) else ((go (.l2 a_0 a_3 x_6 x_33 x_34 x_38 (IntKind.wrap .i64 (x_39 + (1 : Int))))))
  | .j1 a_0 a_3 x_6 x_7 x_8 x_33 x_34 x_38 x_39 x_49 x_50 b_70 => if b_70 = true then (Option.bind (gi a_3 x_8) fun y1 => Option.bind (some (List.set a_3 (Int.toNat x_8) (IntKind.wrap .i64 (x_6 + (1 : Int))))) fun l10 => (go (.l3 a_0 l10 x_6 x_7 x_33 x_34 x_38 x_39 x_49 (IntKind.wrap .i64 (x_50 + (1 : Int)))))) else ((go (.l3 a_0 a_3 x_6 x_7 x_33 x_34 x_38 x_39 x_49 (IntKind.wrap .i64 (x_50 + (1 : Int))))))
theorem roadref4_Alive.l1_k.mono : MonoF (β := fun _ => ((List Int))) roadref4_Alive.l1_k.body := fun f g hfg p => match p with
  | .l1 a_0 a_3 x_33 x_34 => LeO.ite ((hfg _)) (LeO.refl _)
  | .l2 a_0 a_3 x_6 x_33 x_34 x_38 x_39 => LeO.ite (LeO.bind (LeO.refl _) fun y1 => LeO.ite ((hfg _)) ((hfg _))) ((hfg _))
  | .l3 a_0 a_3 x_6 x_7 x_33 x_34 x_38 x_39 x_49 x_50 => LeO.ite (LeO.bind (LeO.refl _) fun y1 => LeO.ite (LeO.bind (LeO.refl _) fun y8 => LeO.bind (LeO.refl _) fun y15 => LeO.bind (LeO.refl _) fun y27 => (hfg _)) ((hfg _))) ((hfg _))
  | .j1 a_0 a_3 x_6 x_7 x_8 x_33 x_34 x_38 x_39 x_49 x_50 b_70 => LeO.ite (LeO.bind (LeO.refl _) fun y1 => LeO.bind (LeO.refl _) fun l10 => (hfg _)) ((hfg _))
noncomputable def roadref4_Alive.l1_k.go (p : roadref4_Alive.l1_k.Pt) : Option ((List Int)) := fixF (β := fun _ => ((List Int))) roadref4_Alive.l1_k.body p
noncomputable def roadref4_Alive.l1 (a_0 : List T_api_Know) (a_3 : List Int) (x_33 : Int) (x_34 : Int) : Option ((List Int)) := roadref4_Alive.l1_k.go (.l1 a_0 a_3 x_33 x_34)
noncomputable def roadref4_Alive.l2 (a_0 : List T_api_Know) (a_3 : List Int) (x_6 : Int) (x_33 : Int) (x_34 : Int) (x_38 : Int) (x_39 : Int) : Option ((List Int)) := roadref4_Alive.l1_k.go (.l2 a_0 a_3 x_6 x_33 x_34 x_38 x_39)
noncomputable def roadref4_Alive.l3 (a_0 : List T_api_Know) (a_3 : List Int) (x_6 : Int) (x_7 : Int) (x_33 : Int) (x_34 : Int) (x_38 : Int) (x_39 : Int) (x_49 : Int) (x_50 : Int) : Option ((List Int)) := roadref4_Alive.l1_k.go (.l3 a_0 a_3 x_6 x_7 x_33 x_34 x_38 x_39 x_49 x_50)
noncomputable def roadref4_Alive.j1 (a_0 : List T_api_Know) (a_3 : List Int) (x_6 : Int) (x_7 : Int) (x_8 : Int) (x_33 : Int) (x_34 : Int) (x_38 : Int) (x_39 : Int) (x_49 : Int) (x_50 : Int) (b_70 : Bool) : Option ((List Int)) := roadref4_Alive.l1_k.go (.j1 a_0 a_3 x_6 x_7 x_8 x_33 x_34 x_38 x_39 x_49 x_50 b_70)
theorem roadref4_Alive.l1_eq (a_0 : List T_api_Know) (a_3 : List Int) (x_33 : Int) (x_34 : Int) : roadref4_Alive.l1 a_0 a_3 x_33 x_34 = if x_34 < x_33 then ((roadref4_Alive.l2 a_0 a_3 x_34 x_33 x_34 (((List.length a_0) : Nat) : Int) (0 : Int))) else (some (a_3)) := fixF_eq roadref4_Alive.l1_k.mono _
theorem roadref4_Alive.l2_eq (a_0 : List T_api_Know) (a_3 : List Int) (x_6 : Int) (x_33 : Int) (x_34 : Int) (x_38 : Int) (x_39 : Int) : roadref4_Alive.l2 a_0 a_3 x_6 x_33 x_34 x_38 x_39 = if x_39 < x_38 then (Option.bind (gi a_3 x_39) fun y1 => if y1 = x_6 then ((roadref4_Alive.l3 a_0 a_3 x_6 x_39 x_33 x_34 x_38 x_39 (((List.length a_0) : Nat) : Int) (0 : Int))) else ((roadref4_Alive.l2 a_0 a_3 x_6 x_33 x_34 x_38 (IntKind.wrap .i64 (x_39 + (1 : Int)))))) else ((roadref4_Alive.l1 a_0 a_3 x_33 (IntKind.wrap .i64 (x_34 + (1 : Int))))) := fixF_eq roadref4_Alive.l1_k.mono _
theorem roadref4_Alive.l3_eq (a_0 : List T_api_Know) (a_3 : List Int) (x_6 : Int) (x_7 : Int) (x_33 : Int) (x_34 : Int) (x_38 : Int) (x_39 : Int) (x_49 : Int) (x_50 : Int) : roadref4_Alive.l3 a_0 a_3 x_6 x_7 x_33 x_34 x_38 x_39 x_49 x_50 = if x_50 < x_49 then (Option.bind (gi a_3 x_50) fun y1 => if y1 < (0 : Int) then (Option.bind (gi a_0 x_7) fun y8 => Option.bind (gi a_0 x_50) fun y15 => Option.bind (slices_Contains_24 y8.Refs y15.Ref) fun y27 => (roadref4_Alive.j1 a_0 a_3 x_6 x_7 x_50 x_33 x_34 x_38 x_39 x_49 x_50 y27)) else ((roadref4_Alive.j1 a_0 a_3 x_6 x_7 x_50 x_33 x_34 x_38 x_39 x_49 x_50 false))) else ((roadref4_Alive.l2 a_0 a_3 x_6 x_33 x_34 x_38 (IntKind.wrap .i64 (x_39 + (1 : Int))))) := fixF_eq roadref4_Alive.l1_k.mono _
theorem roadref4_Alive.j1_eq (a_0 : List T_api_Know) (a_3 : List Int) (x_6 : Int) (x_7 : Int) (x_8 : Int) (x_33 : Int) (x_34 : Int) (x_38 : Int) (x_39 : Int) (x_49 : Int) (x_50 : Int) (b_70 : Bool) : roadref4_Alive.j1 a_0 a_3 x_6 x_7 x_8 x_33 x_34 x_38 x_39 x_49 x_50 b_70 = if b_70 = true then (Option.bind (gi a_3 x_8) fun y1 => Option.bind (some (List.set a_3 (Int.toNat x_8) (IntKind.wrap .i64 (x_6 + (1 : Int))))) fun l10 => (roadref4_Alive.l3 a_0 l10 x_6 x_7 x_33 x_34 x_38 x_39 x_49 (IntKind.wrap .i64 (x_50 + (1 : Int))))) else ((roadref4_Alive.l3 a_0 a_3 x_6 x_7 x_33 x_34 x_38 x_39 x_49 (IntKind.wrap .i64 (x_50 + (1 : Int))))) := fixF_eq roadref4_Alive.l1_k.mono _
def roadref4_Alive.l1_k.I : (p : roadref4_Alive.l1_k.Pt) → ((List Int)) → Prop
  | .l1 a_0 a_3 x_33 x_34, r => ∀ (W : Nat → Prop) (h0 m0 h m : Heap) (A_0 : Option Addr) (n_0 c_0 : Nat) (A_3 : Option Addr) (n_3 c_3 : Nat) (O : Hold W h0 m0 h m [rR (aE (tell_int .i64)) A_3 c_3 a_3]) (ne_0 : n_0 = List.length a_0) (k_0 : List.length a_0 ≤ c_0) (r_0 : Rd 4 T_api_Know.E m A_0 a_0) (ne_3 : n_3 = List.length a_3), f13.l1 (roadref4_Alive.post W h0 m0 r) A_0 n_0 c_0 A_3 n_3 c_3 x_33 x_34 h
  | .l2 a_0 a_3 x_6 x_33 x_34 x_38 x_39, r => ∀ (W : Nat → Prop) (h0 m0 h m : Heap) (A_0 : Option Addr) (n_0 c_0 : Nat) (A_3 : Option Addr) (n_3 c_3 : Nat) (O : Hold W h0 m0 h m [rR (aE (tell_int .i64)) A_3 c_3 a_3]) (ne_0 : n_0 = List.length a_0) (k_0 : List.length a_0 ≤ c_0) (r_0 : Rd 4 T_api_Know.E m A_0 a_0) (ne_3 : n_3 = List.length a_3), f13.l2 (roadref4_Alive.post W h0 m0 r) A_0 n_0 c_0 A_3 n_3 c_3 x_6 x_33 x_34 x_38 x_39 h
  | .l3 a_0 a_3 x_6 x_7 x_33 x_34 x_38 x_39 x_49 x_50, r => ∀ (W : Nat → Prop) (h0 m0 h m : Heap) (A_0 : Option Addr) (n_0 c_0 : Nat) (A_3 : Option Addr) (n_3 c_3 : Nat) (O : Hold W h0 m0 h m [rR (aE (tell_int .i64)) A_3 c_3 a_3]) (ne_0 : n_0 = List.length a_0) (k_0 : List.length a_0 ≤ c_0) (r_0 : Rd 4 T_api_Know.E m A_0 a_0) (ne_3 : n_3 = List.length a_3), f13.l3 (roadref4_Alive.post W h0 m0 r) A_0 n_0 c_0 A_3 n_3 c_3 x_6 x_7 x_33 x_34 x_38 x_39 x_49 x_50 h
  | .j1 a_0 a_3 x_6 x_7 x_8 x_33 x_34 x_38 x_39 x_49 x_50 b_70, r => ∀ (W : Nat → Prop) (h0 m0 h m : Heap) (A_0 : Option Addr) (n_0 c_0 : Nat) (A_3 : Option Addr) (n_3 c_3 : Nat) (O : Hold W h0 m0 h m [rR (aE (tell_int .i64)) A_3 c_3 a_3]) (ne_0 : n_0 = List.length a_0) (k_0 : List.length a_0 ≤ c_0) (r_0 : Rd 4 T_api_Know.E m A_0 a_0) (ne_3 : n_3 = List.length a_3), f13.j1 (roadref4_Alive.post W h0 m0 r) A_0 n_0 c_0 A_3 n_3 c_3 x_6 x_7 x_8 x_33 x_34 x_38 x_39 x_49 x_50 b_70 h
set_option maxRecDepth 100000 in
theorem roadref4_Alive.l1_k.step_l1 (go : (p : roadref4_Alive.l1_k.Pt) → Option ((List Int))) (ih : ∀ p r, go p = some r → roadref4_Alive.l1_k.I p r) (a_0 : List T_api_Know) (a_3 : List Int) (x_33 : Int) (x_34 : Int) (r : (List Int)) (e : roadref4_Alive.l1_k.body go (.l1 a_0 a_3 x_33 x_34) = some r) : roadref4_Alive.l1_k.I (.l1 a_0 a_3 x_33 x_34) r := by
  unfold roadref4_Alive.l1_k.body at e
  intro W h0 m0 h m A_0 n_0 c_0 A_3 n_3 c_3 O ne_0 k_0 r_0 ne_3
  subst ne_0
  subst ne_3
  refine f13.l1_in ?_
  unfold f13.l1T
  refine split_dec_e e (fun c1 e => ?_) (fun c1 e => ?_)
  · exact (ih _ _ e) _ _ _ _ _ _ _ _ _ _ _ (O.pick [0]).nm rfl k_0 r_0 rfl
  · cases e
    exact ⟨_, _, _, _, O.pick [0], rfl, rfl⟩
set_option maxRecDepth 100000 in
theorem roadref4_Alive.l1_k.step_l2 (go : (p : roadref4_Alive.l1_k.Pt) → Option ((List Int))) (ih : ∀ p r, go p = some r → roadref4_Alive.l1_k.I p r) (a_0 : List T_api_Know) (a_3 : List Int) (x_6 : Int) (x_33 : Int) (x_34 : Int) (x_38 : Int) (x_39 : Int) (r : (List Int)) (e : roadref4_Alive.l1_k.body go (.l2 a_0 a_3 x_6 x_33 x_34 x_38 x_39) = some r) : roadref4_Alive.l1_k.I (.l2 a_0 a_3 x_6 x_33 x_34 x_38 x_39) r := by
  unfold roadref4_Alive.l1_k.body at e
  intro W h0 m0 h m A_0 n_0 c_0 A_3 n_3 c_3 O ne_0 k_0 r_0 ne_3
  subst ne_0
  subst ne_3
  refine f13.l2_in ?_
  unfold f13.l2T
  refine split_dec_e e (fun c9 e => ?_) (fun c9 e => ?_)
  · obtain ⟨y1, g2, e⟩ := bind_e e
    refine (O.os 0 rfl).addr rfl g2 fun a3 cs4 ha5 hc6 he7 => ?_
    obtain rfl : cs4 = [(Value.int .i64 y1)] := he7
    refine ⟨_, ld0 (Sub.refl _) hc6 rfl, _, rfl, ?_⟩
    refine split_ne_e e (fun c8 e => ?_) (fun c8 e => ?_)
    · exact (ih _ _ e) _ _ _ _ _ _ _ _ _ _ _ (O.pick [0]).nm rfl k_0 r_0 rfl
    · exact (ih _ _ e) _ _ _ _ _ _ _ _ _ _ _ (O.pick [0]).nm rfl k_0 r_0 rfl
  · exact (ih _ _ e) _ _ _ _ _ _ _ _ _ _ _ (O.pick [0]).nm rfl k_0 r_0 rfl
set_option maxRecDepth 100000 in
theorem roadref4_Alive.l1_k.step_l3 (go : (p : roadref4_Alive.l1_k.Pt) → Option ((List Int))) (ih : ∀ p r, go p = some r → roadref4_Alive.l1_k.I p r) (a_0 : List T_api_Know) (a_3 : List Int) (x_6 : Int) (x_7 : Int) (x_33 : Int) (x_34 : Int) (x_38 : Int) (x_39 : Int) (x_49 : Int) (x_50 : Int) (r : (List Int)) (e : roadref4_Alive.l1_k.body go (.l3 a_0 a_3 x_6 x_7 x_33 x_34 x_38 x_39 x_49 x_50) = some r) : roadref4_Alive.l1_k.I (.l3 a_0 a_3 x_6 x_7 x_33 x_34 x_38 x_39 x_49 x_50) r := by
  unfold roadref4_Alive.l1_k.body at e
  intro W h0 m0 h m A_0 n_0 c_0 A_3 n_3 c_3 O ne_0 k_0 r_0 ne_3
  subst ne_0
  subst ne_3
  refine f13.l3_in ?_
  unfold f13.l3T
  refine split_dec_e e (fun c35 e => ?_) (fun c35 e => ?_)
  · obtain ⟨y1, g2, e⟩ := bind_e e
    refine (O.os 0 rfl).addr rfl g2 fun a3 cs4 ha5 hc6 he7 => ?_
    obtain rfl : cs4 = [(Value.int .i64 y1)] := he7
    refine ⟨_, ld0 (Sub.refl _) hc6 rfl, _, rfl, ?_⟩
    refine split_dec_e e (fun c34 e => ?_) (fun c34 e => ?_)
    · obtain ⟨y8, g9, e⟩ := bind_e e
      refine r_0.addr rfl g9 fun a10 cs11 ha12 hc13 he14 => ?_
      obtain ⟨y15, g16, e⟩ := bind_e e
      refine r_0.addr rfl g16 fun a17 cs18 ha19 hc20 he21 => ?_
      obtain ⟨A22, c23, q24, k25, r26⟩ := T_api_Know.g3 he14
      refine ⟨_, ldk (k := 3) O.s hc13 q24, _, _, _, rfl, ?_⟩
      refine ⟨_, ld0 O.s hc20 (T_api_Know.g0 he21), _, rfl, ?_⟩
      obtain ⟨y27, g28, e⟩ := bind_e e
      refine (slices_Contains_24.walk (Hold.start (W := No) O.s) rfl k25 r26 g28).mono ?_
      rintro _ h29 ⟨m30, Q31, rfl⟩
      have O33 := Hold.nm (O.retC Q31 vfs_nil)
      refine ⟨_, rfl, ?_⟩
      exact (ih _ _ e) _ _ _ _ _ _ _ _ _ _ _ (O33.pick [0]).nm rfl k_0 r_0 rfl
    · exact (ih _ _ e) _ _ _ _ _ _ _ _ _ _ _ (O.pick [0]).nm rfl k_0 r_0 rfl
  · exact (ih _ _ e) _ _ _ _ _ _ _ _ _ _ _ (O.pick [0]).nm rfl k_0 r_0 rfl
set_option maxRecDepth 100000 in
theorem roadref4_Alive.l1_k.step_j1 (go : (p : roadref4_Alive.l1_k.Pt) → Option ((List Int))) (ih : ∀ p r, go p = some r → roadref4_Alive.l1_k.I p r) (a_0 : List T_api_Know) (a_3 : List Int) (x_6 : Int) (x_7 : Int) (x_8 : Int) (x_33 : Int) (x_34 : Int) (x_38 : Int) (x_39 : Int) (x_49 : Int) (x_50 : Int) (b_70 : Bool) (r : (List Int)) (e : roadref4_Alive.l1_k.body go (.j1 a_0 a_3 x_6 x_7 x_8 x_33 x_34 x_38 x_39 x_49 x_50 b_70) = some r) : roadref4_Alive.l1_k.I (.j1 a_0 a_3 x_6 x_7 x_8 x_33 x_34 x_38 x_39 x_49 x_50 b_70) r := by
  unfold roadref4_Alive.l1_k.body at e
  intro W h0 m0 h m A_0 n_0 c_0 A_3 n_3 c_3 O ne_0 k_0 r_0 ne_3
  subst ne_0
  subst ne_3
  refine f13.j1_in ?_
  unfold f13.j1T
  refine split_any_e e (fun c13 e => ?_) (fun c13 e => ?_)
  · obtain ⟨y1, g2, e⟩ := bind_e e
    refine (O.os 0 rfl).addr rfl g2 fun a3 cs4 ha5 hc6 he7 => ?_
    obtain rfl : cs4 = [(Value.int .i64 y1)] := he7
    obtain ⟨l10, g11, e⟩ := bind_e e
    replace g11 := Option.some.inj g11
    refine O.elst0 0 rfl g2 ha5 hc6 (by decide) (y' := (IntKind.wrap .i64 (x_6 + (1 : Int)))) rfl trivial g11 fun h8 O9 => ?_
    have O12 := O9.nm
    exact (ih _ _ e) _ _ _ _ _ _ _ _ _ _ _ (O12.pick [0]).nm rfl k_0 r_0 (lset' g11)
  · exact (ih _ _ e) _ _ _ _ _ _ _ _ _ _ _ (O.pick [0]).nm rfl k_0 r_0 rfl
theorem roadref4_Alive.l1_k.all {p : roadref4_Alive.l1_k.Pt} {r : ((List Int))} (e : roadref4_Alive.l1_k.go p = some r) : roadref4_Alive.l1_k.I p r := fixF_ind (β := fun _ => ((List Int))) roadref4_Alive.l1_k.mono (I := roadref4_Alive.l1_k.I) (fun go ih p r e => match p with
  | .l1 a_0 a_3 x_33 x_34 => roadref4_Alive.l1_k.step_l1 go ih a_0 a_3 x_33 x_34 r e
  | .l2 a_0 a_3 x_6 x_33 x_34 x_38 x_39 => roadref4_Alive.l1_k.step_l2 go ih a_0 a_3 x_6 x_33 x_34 x_38 x_39 r e
  | .l3 a_0 a_3 x_6 x_7 x_33 x_34 x_38 x_39 x_49 x_50 => roadref4_Alive.l1_k.step_l3 go ih a_0 a_3 x_6 x_7 x_33 x_34 x_38 x_39 x_49 x_50 r e
  | .j1 a_0 a_3 x_6 x_7 x_8 x_33 x_34 x_38 x_39 x_49 x_50 b_70 => roadref4_Alive.l1_k.step_j1 go ih a_0 a_3 x_6 x_7 x_8 x_33 x_34 x_38 x_39 x_49 x_50 b_70 r e
  ) e
theorem roadref4_Alive.l1.walk {W : Nat → Prop} {h0 m0 h m : Heap} {A_0 : Option Addr} {n_0 c_0 : Nat} {A_3 : Option Addr} {n_3 c_3 : Nat} {a_0 : List T_api_Know} {a_3 : List Int} {x_33 : Int} {x_34 : Int} (O : Hold W h0 m0 h m [rR (aE (tell_int .i64)) A_3 c_3 a_3]) (ne_0 : n_0 = List.length a_0) (k_0 : List.length a_0 ≤ c_0) (r_0 : Rd 4 T_api_Know.E m A_0 a_0) (ne_3 : n_3 = List.length a_3) {r : (List Int)} (e : roadref4_Alive.l1 a_0 a_3 x_33 x_34 = some r) : f13.l1 (roadref4_Alive.post W h0 m0 r) A_0 n_0 c_0 A_3 n_3 c_3 x_33 x_34 h := roadref4_Alive.l1_k.all (p := .l1 a_0 a_3 x_33 x_34) e W h0 m0 h m A_0 n_0 c_0 A_3 n_3 c_3 O ne_0 k_0 r_0 ne_3
inductive roadref4_Alive.l0_k.Pt where
  | l0 (a_0 : List T_api_Know) (a_3 : List Int) (a_12 : List T_api_Know) (x_13 : Int) (x_14 : Int)
  | j0 (a_0 : List T_api_Know) (a_3 : List Int) (x_4 : Int) (a_12 : List T_api_Know) (x_13 : Int) (x_14 : Int) (b_27 : Bool)
noncomputable def roadref4_Alive.l0_k.body (go : (p : roadref4_Alive.l0_k.Pt) → Option ((List Int))) : (p : roadref4_Alive.l0_k.Pt) → Option ((List Int))
  | .l0 a_0 a_3 a_12 x_13 x_14 => if x_14 < x_13 then (Option.bind (gi a_12 x_14) fun y1 => Option.bind (gi a_3 x_14) fun y14 => Option.bind (some (List.set a_3 (Int.toNat x_14) (-1 : Int))) fun l23 => if y1.Root = true then ((go (.j0 a_0 l23 x_14 a_12 x_13 x_14 true))) else ((go (.j0 a_0 l23 x_14 a_12 x_13 x_14 y1.Awake)))) else ((roadref4_Alive.l1 a_0 a_3 (((List.length a_0) : Nat) : Int) (0 : Int)))
  | .j0 a_0 a_3 x_4 a_12 x_13 x_14 b_27 => if b_27 = true then (Option.bind (gi a_3 x_4) fun y1 => Option.bind (some (List.set a_3 (Int.toNat x_4) (0 : Int))) fun l10 => (go (.l0 a_0 l10 a_12 x_13 (IntKind.wrap .i64 (x_14 + (1 : Int)))))) else ((go (.l0 a_0 a_3 a_12 x_13 (IntKind.wrap .i64 (x_14 + (1 : Int))))))
theorem roadref4_Alive.l0_k.mono : MonoF (β := fun _ => ((List Int))) roadref4_Alive.l0_k.body := fun f g hfg p => match p with
  | .l0 a_0 a_3 a_12 x_13 x_14 => LeO.ite (LeO.bind (LeO.refl _) fun y1 => LeO.bind (LeO.refl _) fun y14 => LeO.bind (LeO.refl _) fun l23 => LeO.ite ((hfg _)) ((hfg _))) ((LeO.refl _))
  | .j0 a_0 a_3 x_4 a_12 x_13 x_14 b_27 => LeO.ite (LeO.bind (LeO.refl _) fun y1 => LeO.bind (LeO.refl _) fun l10 => (hfg _)) ((hfg _))
noncomputable def roadref4_Alive.l0_k.go (p : roadref4_Alive.l0_k.Pt) : Option ((List Int)) := fixF (β := fun _ => ((List Int))) roadref4_Alive.l0_k.body p
noncomputable def roadref4_Alive.l0 (a_0 : List T_api_Know) (a_3 : List Int) (a_12 : List T_api_Know) (x_13 : Int) (x_14 : Int) : Option ((List Int)) := roadref4_Alive.l0_k.go (.l0 a_0 a_3 a_12 x_13 x_14)
noncomputable def roadref4_Alive.j0 (a_0 : List T_api_Know) (a_3 : List Int) (x_4 : Int) (a_12 : List T_api_Know) (x_13 : Int) (x_14 : Int) (b_27 : Bool) : Option ((List Int)) := roadref4_Alive.l0_k.go (.j0 a_0 a_3 x_4 a_12 x_13 x_14 b_27)
theorem roadref4_Alive.l0_eq (a_0 : List T_api_Know) (a_3 : List Int) (a_12 : List T_api_Know) (x_13 : Int) (x_14 : Int) : roadref4_Alive.l0 a_0 a_3 a_12 x_13 x_14 = if x_14 < x_13 then (Option.bind (gi a_12 x_14) fun y1 => Option.bind (gi a_3 x_14) fun y14 => Option.bind (some (List.set a_3 (Int.toNat x_14) (-1 : Int))) fun l23 => if y1.Root = true then ((roadref4_Alive.j0 a_0 l23 x_14 a_12 x_13 x_14 true)) else ((roadref4_Alive.j0 a_0 l23 x_14 a_12 x_13 x_14 y1.Awake))) else ((roadref4_Alive.l1 a_0 a_3 (((List.length a_0) : Nat) : Int) (0 : Int))) := fixF_eq roadref4_Alive.l0_k.mono _
theorem roadref4_Alive.j0_eq (a_0 : List T_api_Know) (a_3 : List Int) (x_4 : Int) (a_12 : List T_api_Know) (x_13 : Int) (x_14 : Int) (b_27 : Bool) : roadref4_Alive.j0 a_0 a_3 x_4 a_12 x_13 x_14 b_27 = if b_27 = true then (Option.bind (gi a_3 x_4) fun y1 => Option.bind (some (List.set a_3 (Int.toNat x_4) (0 : Int))) fun l10 => (roadref4_Alive.l0 a_0 l10 a_12 x_13 (IntKind.wrap .i64 (x_14 + (1 : Int))))) else ((roadref4_Alive.l0 a_0 a_3 a_12 x_13 (IntKind.wrap .i64 (x_14 + (1 : Int))))) := fixF_eq roadref4_Alive.l0_k.mono _
def roadref4_Alive.l0_k.I : (p : roadref4_Alive.l0_k.Pt) → ((List Int)) → Prop
  | .l0 a_0 a_3 a_12 x_13 x_14, r => ∀ (W : Nat → Prop) (h0 m0 h m : Heap) (A_0 : Option Addr) (n_0 c_0 : Nat) (A_3 : Option Addr) (n_3 c_3 : Nat) (A_12 : Option Addr) (n_12 c_12 : Nat) (O : Hold W h0 m0 h m [rR (aE (tell_int .i64)) A_3 c_3 a_3]) (ne_0 : n_0 = List.length a_0) (k_0 : List.length a_0 ≤ c_0) (r_0 : Rd 4 T_api_Know.E m A_0 a_0) (ne_3 : n_3 = List.length a_3) (ne_12 : n_12 = List.length a_12) (k_12 : List.length a_12 ≤ c_12) (r_12 : Rd 4 T_api_Know.E m A_12 a_12), f13.l0 (roadref4_Alive.post W h0 m0 r) A_0 n_0 c_0 A_3 n_3 c_3 A_12 n_12 c_12 x_13 x_14 h
  | .j0 a_0 a_3 x_4 a_12 x_13 x_14 b_27, r => ∀ (W : Nat → Prop) (h0 m0 h m : Heap) (A_0 : Option Addr) (n_0 c_0 : Nat) (A_3 : Option Addr) (n_3 c_3 : Nat) (A_12 : Option Addr) (n_12 c_12 : Nat) (O : Hold W h0 m0 h m [rR (aE (tell_int .i64)) A_3 c_3 a_3]) (ne_0 : n_0 = List.length a_0) (k_0 : List.length a_0 ≤ c_0) (r_0 : Rd 4 T_api_Know.E m A_0 a_0) (ne_3 : n_3 = List.length a_3) (ne_12 : n_12 = List.length a_12) (k_12 : List.length a_12 ≤ c_12) (r_12 : Rd 4 T_api_Know.E m A_12 a_12), f13.j0 (roadref4_Alive.post W h0 m0 r) A_0 n_0 c_0 A_3 n_3 c_3 x_4 A_12 n_12 c_12 x_13 x_14 b_27 h
set_option maxRecDepth 100000 in
theorem roadref4_Alive.l0_k.step_l0 (go : (p : roadref4_Alive.l0_k.Pt) → Option ((List Int))) (ih : ∀ p r, go p = some r → roadref4_Alive.l0_k.I p r) (a_0 : List T_api_Know) (a_3 : List Int) (a_12 : List T_api_Know) (x_13 : Int) (x_14 : Int) (r : (List Int)) (e : roadref4_Alive.l0_k.body go (.l0 a_0 a_3 a_12 x_13 x_14) = some r) : roadref4_Alive.l0_k.I (.l0 a_0 a_3 a_12 x_13 x_14) r := by
  unfold roadref4_Alive.l0_k.body at e
  intro W h0 m0 h m A_0 n_0 c_0 A_3 n_3 c_3 A_12 n_12 c_12 O ne_0 k_0 r_0 ne_3 ne_12 k_12 r_12
  subst ne_0
  subst ne_3
  subst ne_12
  refine f13.l0_in ?_
  unfold f13.l0T
  refine split_dec_e e (fun c28 e => ?_) (fun c28 e => ?_)
  · obtain ⟨y1, g2, e⟩ := bind_e e
    refine r_12.addr rfl g2 fun a3 cs4 ha5 hc6 he7 => ?_
    refine ⟨_, ldAn O.s hc6 rfl, ?_⟩
    refine O.new fun h8 x9 O10 => ?_
    refine ⟨_, rfl, (T_api_Know.T.len _ _ _ he7), ?_⟩
    refine O10.stA 1 rfl (T_api_Know.T.len _ _ _ he7) (T_api_Know.T.flat _ _ _ he7) fun h12 O13 => ?_
    obtain ⟨y14, g15, e⟩ := bind_e e
    refine (O13.os 0 rfl).addr rfl g15 fun a16 cs17 ha18 hc19 he20 => ?_
    obtain rfl : cs17 = [(Value.int .i64 y14)] := he20
    obtain ⟨l23, g24, e⟩ := bind_e e
    replace g24 := Option.some.inj g24
    refine O13.elst0 0 rfl g15 ha18 hc19 (by decide) (y' := (-1 : Int)) rfl trivial g24 fun h21 O22 => ?_
    refine ⟨_, ldk (k := 2) (Sub.refl _) (O22.all 1 rfl) (T_api_Know.g2 he7), _, rfl, ?_⟩
    refine split_any_e e (fun c27 e => ?_) (fun c27 e => ?_)
    · have O25 := O22.nm
      exact (ih _ _ e) _ _ _ _ _ _ _ _ _ _ _ _ _ _ (O25.pick [0]).nm rfl k_0 r_0 (lset' g24) rfl k_12 r_12
    · refine ⟨_, ldk (k := 1) (Sub.refl _) (O22.all 1 rfl) (T_api_Know.g1 he7), _, rfl, ?_⟩
      have O26 := O22.nm
      exact (ih _ _ e) _ _ _ _ _ _ _ _ _ _ _ _ _ _ (O26.pick [0]).nm rfl k_0 r_0 (lset' g24) rfl k_12 r_12
  · exact roadref4_Alive.l1.walk (O.pick [0]).nm rfl k_0 r_0 rfl e
set_option maxRecDepth 100000 in
theorem roadref4_Alive.l0_k.step_j0 (go : (p : roadref4_Alive.l0_k.Pt) → Option ((List Int))) (ih : ∀ p r, go p = some r → roadref4_Alive.l0_k.I p r) (a_0 : List T_api_Know) (a_3 : List Int) (x_4 : Int) (a_12 : List T_api_Know) (x_13 : Int) (x_14 : Int) (b_27 : Bool) (r : (List Int)) (e : roadref4_Alive.l0_k.body go (.j0 a_0 a_3 x_4 a_12 x_13 x_14 b_27) = some r) : roadref4_Alive.l0_k.I (.j0 a_0 a_3 x_4 a_12 x_13 x_14 b_27) r := by
  unfold roadref4_Alive.l0_k.body at e
  intro W h0 m0 h m A_0 n_0 c_0 A_3 n_3 c_3 A_12 n_12 c_12 O ne_0 k_0 r_0 ne_3 ne_12 k_12 r_12
  subst ne_0
  subst ne_3
  subst ne_12
  refine f13.j0_in ?_
  unfold f13.j0T
  refine split_any_e e (fun c13 e => ?_) (fun c13 e => ?_)
  · obtain ⟨y1, g2, e⟩ := bind_e e
    refine (O.os 0 rfl).addr rfl g2 fun a3 cs4 ha5 hc6 he7 => ?_
    obtain rfl : cs4 = [(Value.int .i64 y1)] := he7
    obtain ⟨l10, g11, e⟩ := bind_e e
    replace g11 := Option.some.inj g11
    refine O.elst0 0 rfl g2 ha5 hc6 (by decide) (y' := (0 : Int)) rfl trivial g11 fun h8 O9 => ?_
    have O12 := O9.nm
    exact (ih _ _ e) _ _ _ _ _ _ _ _ _ _ _ _ _ _ (O12.pick [0]).nm rfl k_0 r_0 (lset' g11) rfl k_12 r_12
  · exact (ih _ _ e) _ _ _ _ _ _ _ _ _ _ _ _ _ _ (O.pick [0]).nm rfl k_0 r_0 rfl rfl k_12 r_12
theorem roadref4_Alive.l0_k.all {p : roadref4_Alive.l0_k.Pt} {r : ((List Int))} (e : roadref4_Alive.l0_k.go p = some r) : roadref4_Alive.l0_k.I p r := fixF_ind (β := fun _ => ((List Int))) roadref4_Alive.l0_k.mono (I := roadref4_Alive.l0_k.I) (fun go ih p r e => match p with
  | .l0 a_0 a_3 a_12 x_13 x_14 => roadref4_Alive.l0_k.step_l0 go ih a_0 a_3 a_12 x_13 x_14 r e
  | .j0 a_0 a_3 x_4 a_12 x_13 x_14 b_27 => roadref4_Alive.l0_k.step_j0 go ih a_0 a_3 x_4 a_12 x_13 x_14 b_27 r e
  ) e
theorem roadref4_Alive.l0.walk {W : Nat → Prop} {h0 m0 h m : Heap} {A_0 : Option Addr} {n_0 c_0 : Nat} {A_3 : Option Addr} {n_3 c_3 : Nat} {A_12 : Option Addr} {n_12 c_12 : Nat} {a_0 : List T_api_Know} {a_3 : List Int} {a_12 : List T_api_Know} {x_13 : Int} {x_14 : Int} (O : Hold W h0 m0 h m [rR (aE (tell_int .i64)) A_3 c_3 a_3]) (ne_0 : n_0 = List.length a_0) (k_0 : List.length a_0 ≤ c_0) (r_0 : Rd 4 T_api_Know.E m A_0 a_0) (ne_3 : n_3 = List.length a_3) (ne_12 : n_12 = List.length a_12) (k_12 : List.length a_12 ≤ c_12) (r_12 : Rd 4 T_api_Know.E m A_12 a_12) {r : (List Int)} (e : roadref4_Alive.l0 a_0 a_3 a_12 x_13 x_14 = some r) : f13.l0 (roadref4_Alive.post W h0 m0 r) A_0 n_0 c_0 A_3 n_3 c_3 A_12 n_12 c_12 x_13 x_14 h := roadref4_Alive.l0_k.all (p := .l0 a_0 a_3 a_12 x_13 x_14) e W h0 m0 h m A_0 n_0 c_0 A_3 n_3 c_3 A_12 n_12 c_12 O ne_0 k_0 r_0 ne_3 ne_12 k_12 r_12
noncomputable def roadref4_Alive (a_0 : List T_api_Know) : Option ((List Int)) :=
  Option.bind (mks 8 (((List.length a_0) : Nat) : Int) (0 : Int)) fun l1 => (roadref4_Alive.l0 a_0 l1 a_0 (((List.length a_0) : Nat) : Int) (0 : Int))
set_option maxRecDepth 100000 in
theorem roadref4_Alive.walk {W : Nat → Prop} {h m : Heap} {A_0 : Option Addr} {n_0 c_0 : Nat} {a_0 : List T_api_Know} (O : Hold W h m h m []) (ne_0 : n_0 = List.length a_0) (k_0 : List.length a_0 ≤ c_0) (r_0 : Rd 4 T_api_Know.E m A_0 a_0) {r : (List Int)} (e : roadref4_Alive a_0 = some r) : Run Try.prog 13 #[Value.slice A_0 n_0 c_0] h (roadref4_Alive.post W h m r) := by
  unfold roadref4_Alive at e
  subst ne_0
  refine f13.run ?_
  unfold f13.runT
  obtain ⟨l1, g2, e⟩ := bind_e e
  have q3 := mks_e g2
  refine ⟨q3.1, Int.le_refl _, q3.2.1, q3.2.2.1, ?_⟩
  refine O.new fun h4 x5 O6 => ?_
  have O7 := O6.made 0 rfl (aE (tell_int .i64)) g2 ⟨rfl, rfl⟩
  try rw [q3.2.2.2.1]
  have O9 := O7.nm
  exact roadref4_Alive.l0.walk (O9.pick [0]).nm rfl k_0 r_0 rfl rfl k_0 r_0 e
def cmp_isNaN_160.post (W : Nat → Prop) (h0 m0 : Heap) (r : Bool) (v : Value) (h : Heap) : Prop := ∃ m , Hold W h0 m0 h m [] ∧ v = .bool r
noncomputable def cmp_isNaN_160 (x_0 : Int) : Option (Bool) :=
  some ((x_0 != x_0))
set_option maxRecDepth 100000 in
theorem cmp_isNaN_160.walk {W : Nat → Prop} {h m : Heap} {x_0 : Int} (O : Hold W h m h m []) {r : Bool} (e : cmp_isNaN_160 x_0 = some r) : Run Try.prog 160 #[Value.int .i64 x_0] h (cmp_isNaN_160.post W h m r) := by
  unfold cmp_isNaN_160 at e
  refine f160.run ?_
  unfold f160.runT
  cases e
  exact ⟨_, O.pick [], rfl⟩
def cmp_Less_127.post (W : Nat → Prop) (h0 m0 : Heap) (r : Bool) (v : Value) (h : Heap) : Prop := ∃ m , Hold W h0 m0 h m [] ∧ v = .bool r
noncomputable def cmp_Less_127 (x_0 : Int) (x_1 : Int) : Option (Bool) :=
  Option.bind (cmp_isNaN_160 x_0) fun y1 => if y1 = true then (Option.bind (cmp_isNaN_160 x_1) fun y8 => if y8 = true then (some ((decide (x_0 < x_1)))) else (some (true))) else (some ((decide (x_0 < x_1))))
set_option maxRecDepth 100000 in
theorem cmp_Less_127.walk {W : Nat → Prop} {h m : Heap} {x_0 : Int} {x_1 : Int} (O : Hold W h m h m []) {r : Bool} (e : cmp_Less_127 x_0 x_1 = some r) : Run Try.prog 127 #[Value.int .i64 x_0, Value.int .i64 x_1] h (cmp_Less_127.post W h m r) := by
  unfold cmp_Less_127 at e
  refine f127.run ?_
  unfold f127.runT
  obtain ⟨y1, g2, e⟩ := bind_e e
  refine (cmp_isNaN_160.walk (Hold.start (W := No) O.s)  g2).mono ?_
  rintro _ h3 ⟨m4, Q5, rfl⟩
  have O7 := Hold.nm (O.retC Q5 vfs_nil)
  refine ⟨_, rfl, ?_⟩
  refine split_any_e e (fun c16 e => ?_) (fun c16 e => ?_)
  · obtain ⟨y8, g9, e⟩ := bind_e e
    refine (cmp_isNaN_160.walk (Hold.start (W := No) O7.s)  g9).mono ?_
    rintro _ h10 ⟨m11, Q12, rfl⟩
    have O14 := Hold.nm (O7.retC Q12 vfs_nil)
    refine ⟨_, rfl, ?_⟩
    refine split_not ?_
    refine split_any_e e (fun c15 e => ?_) (fun c15 e => ?_)
    · cases e
      exact ⟨_, O14.pick [], rfl⟩
    · cases e
      exact ⟨_, O14.pick [], rfl⟩
  · cases e
    exact ⟨_, O7.pick [], rfl⟩
def slices_insertionSortOrdered_121.post (W : Nat → Prop) (Asl0 : Option Addr) (nsl0 csl0 : Nat) (h0 m0 : Heap) (r : (List Int)) (v : Value) (h : Heap) : Prop := ∃ m , Hold W h0 m0 h m [rR (aE (tell_int .i64)) Asl0 csl0 r] ∧ v = .tuple #[] ∧ nsl0 = List.length r
inductive slices_insertionSortOrdered_121.l0_k.Pt where
  | l0 (a_0 : List Int) (x_1 : Int) (x_2 : Int) (x_6 : Int)
  | l1 (a_0 : List Int) (x_1 : Int) (x_2 : Int) (x_6 : Int) (x_7 : Int)
  | j1 (a_0 : List Int) (x_1 : Int) (x_2 : Int) (x_6 : Int) (x_7 : Int)
  | j0 (a_0 : List Int) (x_1 : Int) (x_2 : Int) (x_6 : Int)
noncomputable def slices_insertionSortOrdered_121.l0_k.body (go : (p : slices_insertionSortOrdered_121.l0_k.Pt) → Option ((List Int))) : (p : slices_insertionSortOrdered_121.l0_k.Pt) → Option ((List Int))
  | .l0 a_0 x_1 x_2 x_6 => if x_6 < x_2 then ((go (.l1 a_0 x_1 x_2 x_6 x_6))) else (some (a_0))
  | .l1 a_0 x_1 x_2 x_6 x_7 => if x_7 > x_1 then (Option.bind (gi a_0 x_7) fun y1 => Option.bind (gi a_0 (IntKind.wrap .i64 (x_7 - (1 : Int)))) fun y8 => Option.bind (cmp_Less_127 y1 y8) fun y15 => if y15 = true then ((go (.j1 a_0 x_1 x_2 x_6 x_7))) else ((go (.j0 a_0 x_1 x_2 x_6)))) else ((go (.j0 a_0 x_1 x_2 x_6)))
  | .j1 a_0 x_1 x_2 x_6 x_7 => Option.bind (gi a_0 (IntKind.wrap .i64 (x_7 - (1 : Int)))) fun y1 => Option.bind (gi a_0 x_7) fun y8 => Option.bind (gi a_0 x_7) fun y15 => Option.bind (some (List.set a_0 (Int.toNat x_7) y1)) fun l24 => Option.bind (gi l24 (IntKind.wrap .i64 (x_7 - (1 : Int)))) fun y26 => Option.bind (some (List.set l24 (Int.toNat (IntKind.wrap .i64 (x_7 - (1 : Int)))) y8)) fun l35 => (go (.l1 l35 x_1 x_2 x_6 (IntKind.wrap .i64 (x_7 - (1 : Int)))))
  | .j0 a_0 x_1 x_2 x_6 => (go (.l0 a_0 x_1 x_2 (IntKind.wrap .i64 (x_6 + (1 : Int)))))
attribute [local irreducible] cmp_Less_127 in
theorem slices_insertionSortOrdered_121.l0_k.mono : MonoF (β := fun _ => ((List Int))) slices_insertionSortOrdered_121.l0_k.body := fun f g hfg p => match p with
  | .l0 a_0 x_1 x_2 x_6 => LeO.ite ((hfg _)) (LeO.refl _)
  | .l1 a_0 x_1 x_2 x_6 x_7 => LeO.ite (LeO.bind (LeO.refl _) fun y1 => LeO.bind (LeO.refl _) fun y8 => LeO.bind (LeO.refl _) fun y15 => LeO.ite ((hfg _)) ((hfg _))) ((hfg _))
  | .j1 a_0 x_1 x_2 x_6 x_7 => LeO.bind (LeO.refl _) fun y1 => LeO.bind (LeO.refl _) fun y8 => LeO.bind (LeO.refl _) fun y15 => LeO.bind (LeO.refl _) fun l24 => LeO.bind (LeO.refl _) fun y26 => LeO.bind (LeO.refl _) fun l35 => (hfg _)
  | .j0 a_0 x_1 x_2 x_6 => (hfg _)
noncomputable def slices_insertionSortOrdered_121.l0_k.go (p : slices_insertionSortOrdered_121.l0_k.Pt) : Option ((List Int)) := fixF (β := fun _ => ((List Int))) slices_insertionSortOrdered_121.l0_k.body p
noncomputable def slices_insertionSortOrdered_121.l0 (a_0 : List Int) (x_1 : Int) (x_2 : Int) (x_6 : Int) : Option ((List Int)) := slices_insertionSortOrdered_121.l0_k.go (.l0 a_0 x_1 x_2 x_6)
noncomputable def slices_insertionSortOrdered_121.l1 (a_0 : List Int) (x_1 : Int) (x_2 : Int) (x_6 : Int) (x_7 : Int) : Option ((List Int)) := slices_insertionSortOrdered_121.l0_k.go (.l1 a_0 x_1 x_2 x_6 x_7)
noncomputable def slices_insertionSortOrdered_121.j1 (a_0 : List Int) (x_1 : Int) (x_2 : Int) (x_6 : Int) (x_7 : Int) : Option ((List Int)) := slices_insertionSortOrdered_121.l0_k.go (.j1 a_0 x_1 x_2 x_6 x_7)
noncomputable def slices_insertionSortOrdered_121.j0 (a_0 : List Int) (x_1 : Int) (x_2 : Int) (x_6 : Int) : Option ((List Int)) := slices_insertionSortOrdered_121.l0_k.go (.j0 a_0 x_1 x_2 x_6)
theorem slices_insertionSortOrdered_121.l0_eq (a_0 : List Int) (x_1 : Int) (x_2 : Int) (x_6 : Int) : slices_insertionSortOrdered_121.l0 a_0 x_1 x_2 x_6 = if x_6 < x_2 then ((slices_insertionSortOrdered_121.l1 a_0 x_1 x_2 x_6 x_6)) else (some (a_0)) := fixF_eq slices_insertionSortOrdered_121.l0_k.mono _
theorem slices_insertionSortOrdered_121.l1_eq (a_0 : List Int) (x_1 : Int) (x_2 : Int) (x_6 : Int) (x_7 : Int) : slices_insertionSortOrdered_121.l1 a_0 x_1 x_2 x_6 x_7 = if x_7 > x_1 then (Option.bind (gi a_0 x_7) fun y1 => Option.bind (gi a_0 (IntKind.wrap .i64 (x_7 - (1 : Int)))) fun y8 => Option.bind (cmp_Less_127 y1 y8) fun y15 => if y15 = true then ((slices_insertionSortOrdered_121.j1 a_0 x_1 x_2 x_6 x_7)) else ((slices_insertionSortOrdered_121.j0 a_0 x_1 x_2 x_6))) else ((slices_insertionSortOrdered_121.j0 a_0 x_1 x_2 x_6)) := fixF_eq slices_insertionSortOrdered_121.l0_k.mono _
theorem slices_insertionSortOrdered_121.j1_eq (a_0 : List Int) (x_1 : Int) (x_2 : Int) (x_6 : Int) (x_7 : Int) : slices_insertionSortOrdered_121.j1 a_0 x_1 x_2 x_6 x_7 = Option.bind (gi a_0 (IntKind.wrap .i64 (x_7 - (1 : Int)))) fun y1 => Option.bind (gi a_0 x_7) fun y8 => Option.bind (gi a_0 x_7) fun y15 => Option.bind (some (List.set a_0 (Int.toNat x_7) y1)) fun l24 => Option.bind (gi l24 (IntKind.wrap .i64 (x_7 - (1 : Int)))) fun y26 => Option.bind (some (List.set l24 (Int.toNat (IntKind.wrap .i64 (x_7 - (1 : Int)))) y8)) fun l35 => (slices_insertionSortOrdered_121.l1 l35 x_1 x_2 x_6 (IntKind.wrap .i64 (x_7 - (1 : Int)))) := fixF_eq slices_insertionSortOrdered_121.l0_k.mono _
theorem slices_insertionSortOrdered_121.j0_eq (a_0 : List Int) (x_1 : Int) (x_2 : Int) (x_6 : Int) : slices_insertionSortOrdered_121.j0 a_0 x_1 x_2 x_6 = (slices_insertionSortOrdered_121.l0 a_0 x_1 x_2 (IntKind.wrap .i64 (x_6 + (1 : Int)))) := fixF_eq slices_insertionSortOrdered_121.l0_k.mono _
def slices_insertionSortOrdered_121.l0_k.I : (p : slices_insertionSortOrdered_121.l0_k.Pt) → ((List Int)) → Prop
  | .l0 a_0 x_1 x_2 x_6, r => ∀ (W : Nat → Prop) (h0 m0 h m : Heap) (A_0 : Option Addr) (n_0 c_0 : Nat) (O : Hold W h0 m0 h m [rR (aE (tell_int .i64)) A_0 c_0 a_0]) (ne_0 : n_0 = List.length a_0), f121.l0 (slices_insertionSortOrdered_121.post W A_0 n_0 c_0 h0 m0 r) A_0 n_0 c_0 x_1 x_2 x_6 h
  | .l1 a_0 x_1 x_2 x_6 x_7, r => ∀ (W : Nat → Prop) (h0 m0 h m : Heap) (A_0 : Option Addr) (n_0 c_0 : Nat) (O : Hold W h0 m0 h m [rR (aE (tell_int .i64)) A_0 c_0 a_0]) (ne_0 : n_0 = List.length a_0), f121.l1 (slices_insertionSortOrdered_121.post W A_0 n_0 c_0 h0 m0 r) A_0 n_0 c_0 x_1 x_2 x_6 x_7 h
  | .j1 a_0 x_1 x_2 x_6 x_7, r => ∀ (W : Nat → Prop) (h0 m0 h m : Heap) (A_0 : Option Addr) (n_0 c_0 : Nat) (O : Hold W h0 m0 h m [rR (aE (tell_int .i64)) A_0 c_0 a_0]) (ne_0 : n_0 = List.length a_0), f121.j1 (slices_insertionSortOrdered_121.post W A_0 n_0 c_0 h0 m0 r) A_0 n_0 c_0 x_1 x_2 x_6 x_7 h
  | .j0 a_0 x_1 x_2 x_6, r => ∀ (W : Nat → Prop) (h0 m0 h m : Heap) (A_0 : Option Addr) (n_0 c_0 : Nat) (O : Hold W h0 m0 h m [rR (aE (tell_int .i64)) A_0 c_0 a_0]) (ne_0 : n_0 = List.length a_0), f121.j0 (slices_insertionSortOrdered_121.post W A_0 n_0 c_0 h0 m0 r) A_0 n_0 c_0 x_1 x_2 x_6 h
set_option maxRecDepth 100000 in
theorem slices_insertionSortOrdered_121.l0_k.step_l0 (go : (p : slices_insertionSortOrdered_121.l0_k.Pt) → Option ((List Int))) (ih : ∀ p r, go p = some r → slices_insertionSortOrdered_121.l0_k.I p r) (a_0 : List Int) (x_1 : Int) (x_2 : Int) (x_6 : Int) (r : (List Int)) (e : slices_insertionSortOrdered_121.l0_k.body go (.l0 a_0 x_1 x_2 x_6) = some r) : slices_insertionSortOrdered_121.l0_k.I (.l0 a_0 x_1 x_2 x_6) r := by
  unfold slices_insertionSortOrdered_121.l0_k.body at e
  intro W h0 m0 h m A_0 n_0 c_0 O ne_0
  subst ne_0
  refine f121.l0_in ?_
  unfold f121.l0T
  refine split_dec_e e (fun c1 e => ?_) (fun c1 e => ?_)
  · exact (ih _ _ e) _ _ _ _ _ _ _ _ (O.pick [0]).nm rfl
  · cases e
    exact ⟨_, O.pick [0], rfl, rfl⟩
set_option maxRecDepth 100000 in
theorem slices_insertionSortOrdered_121.l0_k.step_l1 (go : (p : slices_insertionSortOrdered_121.l0_k.Pt) → Option ((List Int))) (ih : ∀ p r, go p = some r → slices_insertionSortOrdered_121.l0_k.I p r) (a_0 : List Int) (x_1 : Int) (x_2 : Int) (x_6 : Int) (x_7 : Int) (r : (List Int)) (e : slices_insertionSortOrdered_121.l0_k.body go (.l1 a_0 x_1 x_2 x_6 x_7) = some r) : slices_insertionSortOrdered_121.l0_k.I (.l1 a_0 x_1 x_2 x_6 x_7) r := by
  unfold slices_insertionSortOrdered_121.l0_k.body at e
  intro W h0 m0 h m A_0 n_0 c_0 O ne_0
  subst ne_0
  refine f121.l1_in ?_
  unfold f121.l1T
  refine split_dec_e e (fun c23 e => ?_) (fun c23 e => ?_)
  · obtain ⟨y1, g2, e⟩ := bind_e e
    refine (O.os 0 rfl).addr rfl g2 fun a3 cs4 ha5 hc6 he7 => ?_
    obtain rfl : cs4 = [(Value.int .i64 y1)] := he7
    obtain ⟨y8, g9, e⟩ := bind_e e
    refine (O.os 0 rfl).addr rfl g9 fun a10 cs11 ha12 hc13 he14 => ?_
    obtain rfl : cs11 = [(Value.int .i64 y8)] := he14
    refine ⟨_, ld0 (Sub.refl _) hc6 rfl, _, rfl, ?_⟩
    refine ⟨_, ld0 (Sub.refl _) hc13 rfl, _, rfl, ?_⟩
    obtain ⟨y15, g16, e⟩ := bind_e e
    refine (cmp_Less_127.walk (Hold.start (W := No) O.s)  g16).mono ?_
    rintro _ h17 ⟨m18, Q19, rfl⟩
    have O21 := Hold.nm (O.retC Q19 vfs_nil)
    refine ⟨_, rfl, ?_⟩
    refine split_any_e e (fun c22 e => ?_) (fun c22 e => ?_)
    · exact (ih _ _ e) _ _ _ _ _ _ _ _ (O21.pick [0]).nm rfl
    · exact (ih _ _ e) _ _ _ _ _ _ _ _ (O21.pick [0]).nm rfl
  · exact (ih _ _ e) _ _ _ _ _ _ _ _ (O.pick [0]).nm rfl
set_option maxRecDepth 100000 in
theorem slices_insertionSortOrdered_121.l0_k.step_j1 (go : (p : slices_insertionSortOrdered_121.l0_k.Pt) → Option ((List Int))) (ih : ∀ p r, go p = some r → slices_insertionSortOrdered_121.l0_k.I p r) (a_0 : List Int) (x_1 : Int) (x_2 : Int) (x_6 : Int) (x_7 : Int) (r : (List Int)) (e : slices_insertionSortOrdered_121.l0_k.body go (.j1 a_0 x_1 x_2 x_6 x_7) = some r) : slices_insertionSortOrdered_121.l0_k.I (.j1 a_0 x_1 x_2 x_6 x_7) r := by
  unfold slices_insertionSortOrdered_121.l0_k.body at e
  intro W h0 m0 h m A_0 n_0 c_0 O ne_0
  subst ne_0
  refine f121.j1_in ?_
  unfold f121.j1T
  obtain ⟨y1, g2, e⟩ := bind_e e
  refine (O.os 0 rfl).addr rfl g2 fun a3 cs4 ha5 hc6 he7 => ?_
  obtain rfl : cs4 = [(Value.int .i64 y1)] := he7
  obtain ⟨y8, g9, e⟩ := bind_e e
  refine (O.os 0 rfl).addr rfl g9 fun a10 cs11 ha12 hc13 he14 => ?_
  obtain rfl : cs11 = [(Value.int .i64 y8)] := he14
  refine ⟨_, ld0 (Sub.refl _) hc6 rfl, _, rfl, ?_⟩
  refine ⟨_, ld0 (Sub.refl _) hc13 rfl, _, rfl, ?_⟩
  obtain ⟨y15, g16, e⟩ := bind_e e
  refine (O.os 0 rfl).addr rfl g16 fun a17 cs18 ha19 hc20 he21 => ?_
  obtain rfl : cs18 = [(Value.int .i64 y15)] := he21
  obtain ⟨l24, g25, e⟩ := bind_e e
  replace g25 := Option.some.inj g25
  refine O.elst0 0 rfl g16 ha19 hc20 (by decide) (y' := y1) rfl trivial g25 fun h22 O23 => ?_
  obtain ⟨y26, g27, e⟩ := bind_e e
  refine (O23.os 0 rfl).addr (lset' g25) g27 fun a28 cs29 ha30 hc31 he32 => ?_
  obtain rfl : cs29 = [(Value.int .i64 y26)] := he32
  obtain ⟨l35, g36, e⟩ := bind_e e
  replace g36 := Option.some.inj g36
  refine O23.elst0 0 rfl g27 ha30 hc31 (by decide) (y' := y8) rfl trivial g36 fun h33 O34 => ?_
  have O37 := O34.nm
  exact (ih _ _ e) _ _ _ _ _ _ _ _ (O37.pick [0]).nm ((lset' g25).trans (lset' g36))
set_option maxRecDepth 100000 in
theorem slices_insertionSortOrdered_121.l0_k.step_j0 (go : (p : slices_insertionSortOrdered_121.l0_k.Pt) → Option ((List Int))) (ih : ∀ p r, go p = some r → slices_insertionSortOrdered_121.l0_k.I p r) (a_0 : List Int) (x_1 : Int) (x_2 : Int) (x_6 : Int) (r : (List Int)) (e : slices_insertionSortOrdered_121.l0_k.body go (.j0 a_0 x_1 x_2 x_6) = some r) : slices_insertionSortOrdered_121.l0_k.I (.j0 a_0 x_1 x_2 x_6) r := by
  unfold slices_insertionSortOrdered_121.l0_k.body at e
  intro W h0 m0 h m A_0 n_0 c_0 O ne_0
  subst ne_0
  refine f121.j0_in ?_
  unfold f121.j0T
  exact (ih _ _ e) _ _ _ _ _ _ _ _ (O.pick [0]).nm rfl
theorem slices_insertionSortOrdered_121.l0_k.all {p : slices_insertionSortOrdered_121.l0_k.Pt} {r : ((List Int))} (e : slices_insertionSortOrdered_121.l0_k.go p = some r) : slices_insertionSortOrdered_121.l0_k.I p r := fixF_ind (β := fun _ => ((List Int))) slices_insertionSortOrdered_121.l0_k.mono (I := slices_insertionSortOrdered_121.l0_k.I) (fun go ih p r e => match p with
  | .l0 a_0 x_1 x_2 x_6 => slices_insertionSortOrdered_121.l0_k.step_l0 go ih a_0 x_1 x_2 x_6 r e
  | .l1 a_0 x_1 x_2 x_6 x_7 => slices_insertionSortOrdered_121.l0_k.step_l1 go ih a_0 x_1 x_2 x_6 x_7 r e
  | .j1 a_0 x_1 x_2 x_6 x_7 => slices_insertionSortOrdered_121.l0_k.step_j1 go ih a_0 x_1 x_2 x_6 x_7 r e
  | .j0 a_0 x_1 x_2 x_6 => slices_insertionSortOrdered_121.l0_k.step_j0 go ih a_0 x_1 x_2 x_6 r e
  ) e
theorem slices_insertionSortOrdered_121.l0.walk {W : Nat → Prop} {h0 m0 h m : Heap} {A_0 : Option Addr} {n_0 c_0 : Nat} {a_0 : List Int} {x_1 : Int} {x_2 : Int} {x_6 : Int} (O : Hold W h0 m0 h m [rR (aE (tell_int .i64)) A_0 c_0 a_0]) (ne_0 : n_0 = List.length a_0) {r : (List Int)} (e : slices_insertionSortOrdered_121.l0 a_0 x_1 x_2 x_6 = some r) : f121.l0 (slices_insertionSortOrdered_121.post W A_0 n_0 c_0 h0 m0 r) A_0 n_0 c_0 x_1 x_2 x_6 h := slices_insertionSortOrdered_121.l0_k.all (p := .l0 a_0 x_1 x_2 x_6) e W h0 m0 h m A_0 n_0 c_0 O ne_0
noncomputable def slices_insertionSortOrdered_121 (a_0 : List Int) (x_1 : Int) (x_2 : Int) : Option ((List Int)) :=
  (slices_insertionSortOrdered_121.l0 a_0 x_1 x_2 (IntKind.wrap .i64 (x_1 + (1 : Int))))
set_option maxRecDepth 100000 in
theorem slices_insertionSortOrdered_121.walk {W : Nat → Prop} {h m : Heap} {A_0 : Option Addr} {n_0 c_0 : Nat} {a_0 : List Int} {x_1 : Int} {x_2 : Int} (O : Hold W h m h m [rR (aE (tell_int .i64)) A_0 c_0 a_0]) (ne_0 : n_0 = List.length a_0) {r : (List Int)} (e : slices_insertionSortOrdered_121 a_0 x_1 x_2 = some r) : Run Try.prog 121 #[Value.slice A_0 n_0 c_0, Value.int .i64 x_1, Value.int .i64 x_2] h (slices_insertionSortOrdered_121.post W A_0 n_0 c_0 h m r) := by
  unfold slices_insertionSortOrdered_121 at e
  subst ne_0
  refine f121.run ?_
  unfold f121.runT
  exact slices_insertionSortOrdered_121.l0.walk (O.pick [0]).nm rfl e
def slices_siftDownOrdered_155.post (W : Nat → Prop) (Asl0 : Option Addr) (nsl0 csl0 : Nat) (h0 m0 : Heap) (r : (List Int)) (v : Value) (h : Heap) : Prop := ∃ m , Hold W h0 m0 h m [rR (aE (tell_int .i64)) Asl0 csl0 r] ∧ v = .tuple #[] ∧ nsl0 = List.length r
inductive slices_siftDownOrdered_155.l0_k.Pt where
  | l0 (a_0 : List Int) (x_2 : Int) (x_3 : Int) (x_8 : Int)
  | j1 (a_0 : List Int) (x_2 : Int) (x_3 : Int) (x_8 : Int) (x_9 : Int) (b_36 : Bool)
  | j0 (a_0 : List Int) (x_2 : Int) (x_3 : Int) (x_8 : Int) (x_9 : Int)
noncomputable def slices_siftDownOrdered_155.l0_k.body (go : (p : slices_siftDownOrdered_155.l0_k.Pt) → Option ((List Int))) : (p : slices_siftDownOrdered_155.l0_k.Pt) → Option ((List Int))
  | .l0 a_0 x_2 x_3 x_8 => if (IntKind.wrap .i64 ((IntKind.wrap .i64 ((2 : Int) * x_8)) + (1 : Int))) ≥ x_2 then (some (a_0)) else (if (IntKind.wrap .i64 ((IntKind.wrap .i64 ((IntKind.wrap .i64 ((2 : Int) * x_8)) + (1 : Int))) + (1 : Int))) < x_2 then (Option.bind (gi a_0 (IntKind.wrap .i64 (x_3 + (IntKind.wrap .i64 ((IntKind.wrap .i64 ((2 : Int) * x_8)) + (1 : Int)))))) fun y1 => Option.bind (gi a_0 (IntKind.wrap .i64 ((IntKind.wrap .i64 (x_3 + (IntKind.wrap .i64 ((IntKind.wrap .i64 ((2 : Int) * x_8)) + (1 : Int))))) + (1 : Int)))) fun y8 => Option.bind (cmp_Less_127 y1 y8) fun y15 => (go (.j1 a_0 x_2 x_3 x_8 (IntKind.wrap .i64 ((IntKind.wrap .i64 ((2 : Int) * x_8)) + (1 : Int))) y15))) else ((go (.j1 a_0 x_2 x_3 x_8 (IntKind.wrap .i64 ((IntKind.wrap .i64 ((2 : Int) * x_8)) + (1 : Int))) false))))
  | .j1 a_0 x_2 x_3 x_8 x_9 b_36 => if b_36 = true then ((go (.j0 a_0 x_2 x_3 x_8 (IntKind.wrap .i64 (x_9 + (1 : Int)))))) else ((go (.j0 a_0 x_2 x_3 x_8 x_9)))
  | .j0 a_0 x_2 x_3 x_8 x_9 => Option.bind (gi a_0 (IntKind.wrap .i64 (x_3 + x_8))) fun y1 => Option.bind (gi a_0 (IntKind.wrap .i64 (x_3 + x_9))) fun y8 => Option.bind (cmp_Less_127 y1 y8) fun y15 => if y15 = true then (Option.bind (gi a_0 (IntKind.wrap .i64 (x_3 + x_9))) fun y22 => Option.bind (gi a_0 (IntKind.wrap .i64 (x_3 + x_8))) fun y29 => Option.bind (gi a_0 (IntKind.wrap .i64 (x_3 + x_8))) fun y36 => Option.bind (some (List.set a_0 (Int.toNat (IntKind.wrap .i64 (x_3 + x_8))) y22)) fun l45 => Option.bind (gi l45 (IntKind.wrap .i64 (x_3 + x_9))) fun y47 => Option.bind (some (List.set l45 (Int.toNat (IntKind.wrap .i64 (x_3 + x_9))) y29)) fun l56 => (go (.l0 l56 x_2 x_3 x_9))) else (some (a_0))
attribute [local irreducible] cmp_Less_127 in
theorem slices_siftDownOrdered_155.l0_k.mono : MonoF (β := fun _ => ((List Int))) slices_siftDownOrdered_155.l0_k.body := fun f g hfg p => match p with
  | .l0 a_0 x_2 x_3 x_8 => LeO.ite (LeO.refl _) (LeO.ite (LeO.bind (LeO.refl _) fun y1 => LeO.bind (LeO.refl _) fun y8 => LeO.bind (LeO.refl _) fun y15 => (hfg _)) ((hfg _)))
  | .j1 a_0 x_2 x_3 x_8 x_9 b_36 => LeO.ite ((hfg _)) ((hfg _))
  | .j0 a_0 x_2 x_3 x_8 x_9 => LeO.bind (LeO.refl _) fun y1 => LeO.bind (LeO.refl _) fun y8 => LeO.bind (LeO.refl _) fun y15 => LeO.ite (LeO.bind (LeO.refl _) fun y22 => LeO.bind (LeO.refl _) fun y29 => LeO.bind (LeO.refl _) fun y36 => LeO.bind (LeO.refl _) fun l45 => LeO.bind (LeO.refl _) fun y47 => LeO.bind (LeO.refl _) fun l56 => (hfg _)) (LeO.refl _)
noncomputable def slices_siftDownOrdered_155.l0_k.go (p : slices_siftDownOrdered_155.l0_k.Pt) : Option ((List Int)) := fixF (β := fun _ => ((List Int))) slices_siftDownOrdered_155.l0_k.body p
noncomputable def slices_siftDownOrdered_155.l0 (a_0 : List Int) (x_2 : Int) (x_3 : Int) (x_8 : Int) : Option ((List Int)) := slices_siftDownOrdered_155.l0_k.go (.l0 a_0 x_2 x_3 x_8)
noncomputable def slices_siftDownOrdered_155.j1 (a_0 : List Int) (x_2 : Int) (x_3 : Int) (x_8 : Int) (x_9 : Int) (b_36 : Bool) : Option ((List Int)) := slices_siftDownOrdered_155.l0_k.go (.j1 a_0 x_2 x_3 x_8 x_9 b_36)
noncomputable def slices_siftDownOrdered_155.j0 (a_0 : List Int) (x_2 : Int) (x_3 : Int) (x_8 : Int) (x_9 : Int) : Option ((List Int)) := slices_siftDownOrdered_155.l0_k.go (.j0 a_0 x_2 x_3 x_8 x_9)
theorem slices_siftDownOrdered_155.l0_eq (a_0 : List Int) (x_2 : Int) (x_3 : Int) (x_8 : Int) : slices_siftDownOrdered_155.l0 a_0 x_2 x_3 x_8 = if (IntKind.wrap .i64 ((IntKind.wrap .i64 ((2 : Int) * x_8)) + (1 : Int))) ≥ x_2 then (some (a_0)) else (if (IntKind.wrap .i64 ((IntKind.wrap .i64 ((IntKind.wrap .i64 ((2 : Int) * x_8)) + (1 : Int))) + (1 : Int))) < x_2 then (Option.bind (gi a_0 (IntKind.wrap .i64 (x_3 + (IntKind.wrap .i64 ((IntKind.wrap .i64 ((2 : Int) * x_8)) + (1 : Int)))))) fun y1 => Option.bind (gi a_0 (IntKind.wrap .i64 ((IntKind.wrap .i64 (x_3 + (IntKind.wrap .i64 ((IntKind.wrap .i64 ((2 : Int) * x_8)) + (1 : Int))))) + (1 : Int)))) fun y8 => Option.bind (cmp_Less_127 y1 y8) fun y15 => (slices_siftDownOrdered_155.j1 a_0 x_2 x_3 x_8 (IntKind.wrap .i64 ((IntKind.wrap .i64 ((2 : Int) * x_8)) + (1 : Int))) y15)) else ((slices_siftDownOrdered_155.j1 a_0 x_2 x_3 x_8 (IntKind.wrap .i64 ((IntKind.wrap .i64 ((2 : Int) * x_8)) + (1 : Int))) false))) := fixF_eq slices_siftDownOrdered_155.l0_k.mono _
theorem slices_siftDownOrdered_155.j1_eq (a_0 : List Int) (x_2 : Int) (x_3 : Int) (x_8 : Int) (x_9 : Int) (b_36 : Bool) : slices_siftDownOrdered_155.j1 a_0 x_2 x_3 x_8 x_9 b_36 = if b_36 = true then ((slices_siftDownOrdered_155.j0 a_0 x_2 x_3 x_8 (IntKind.wrap .i64 (x_9 + (1 : Int))))) else ((slices_siftDownOrdered_155.j0 a_0 x_2 x_3 x_8 x_9)) := fixF_eq slices_siftDownOrdered_155.l0_k.mono _
theorem slices_siftDownOrdered_155.j0_eq (a_0 : List Int) (x_2 : Int) (x_3 : Int) (x_8 : Int) (x_9 : Int) : slices_siftDownOrdered_155.j0 a_0 x_2 x_3 x_8 x_9 = Option.bind (gi a_0 (IntKind.wrap .i64 (x_3 + x_8))) fun y1 => Option.bind (gi a_0 (IntKind.wrap .i64 (x_3 + x_9))) fun y8 => Option.bind (cmp_Less_127 y1 y8) fun y15 => if y15 = true then (Option.bind (gi a_0 (IntKind.wrap .i64 (x_3 + x_9))) fun y22 => Option.bind (gi a_0 (IntKind.wrap .i64 (x_3 + x_8))) fun y29 => Option.bind (gi a_0 (IntKind.wrap .i64 (x_3 + x_8))) fun y36 => Option.bind (some (List.set a_0 (Int.toNat (IntKind.wrap .i64 (x_3 + x_8))) y22)) fun l45 => Option.bind (gi l45 (IntKind.wrap .i64 (x_3 + x_9))) fun y47 => Option.bind (some (List.set l45 (Int.toNat (IntKind.wrap .i64 (x_3 + x_9))) y29)) fun l56 => (slices_siftDownOrdered_155.l0 l56 x_2 x_3 x_9)) else (some (a_0)) := fixF_eq slices_siftDownOrdered_155.l0_k.mono _
def slices_siftDownOrdered_155.l0_k.I : (p : slices_siftDownOrdered_155.l0_k.Pt) → ((List Int)) → Prop
  | .l0 a_0 x_2 x_3 x_8, r => ∀ (W : Nat → Prop) (h0 m0 h m : Heap) (A_0 : Option Addr) (n_0 c_0 : Nat) (O : Hold W h0 m0 h m [rR (aE (tell_int .i64)) A_0 c_0 a_0]) (ne_0 : n_0 = List.length a_0), f155.l0 (slices_siftDownOrdered_155.post W A_0 n_0 c_0 h0 m0 r) A_0 n_0 c_0 x_2 x_3 x_8 h
  | .j1 a_0 x_2 x_3 x_8 x_9 b_36, r => ∀ (W : Nat → Prop) (h0 m0 h m : Heap) (A_0 : Option Addr) (n_0 c_0 : Nat) (O : Hold W h0 m0 h m [rR (aE (tell_int .i64)) A_0 c_0 a_0]) (ne_0 : n_0 = List.length a_0), f155.j1 (slices_siftDownOrdered_155.post W A_0 n_0 c_0 h0 m0 r) A_0 n_0 c_0 x_2 x_3 x_8 x_9 b_36 h
  | .j0 a_0 x_2 x_3 x_8 x_9, r => ∀ (W : Nat → Prop) (h0 m0 h m : Heap) (A_0 : Option Addr) (n_0 c_0 : Nat) (O : Hold W h0 m0 h m [rR (aE (tell_int .i64)) A_0 c_0 a_0]) (ne_0 : n_0 = List.length a_0), f155.j0 (slices_siftDownOrdered_155.post W A_0 n_0 c_0 h0 m0 r) A_0 n_0 c_0 x_2 x_3 x_8 x_9 h
set_option maxRecDepth 100000 in
theorem slices_siftDownOrdered_155.l0_k.step_l0 (go : (p : slices_siftDownOrdered_155.l0_k.Pt) → Option ((List Int))) (ih : ∀ p r, go p = some r → slices_siftDownOrdered_155.l0_k.I p r) (a_0 : List Int) (x_2 : Int) (x_3 : Int) (x_8 : Int) (r : (List Int)) (e : slices_siftDownOrdered_155.l0_k.body go (.l0 a_0 x_2 x_3 x_8) = some r) : slices_siftDownOrdered_155.l0_k.I (.l0 a_0 x_2 x_3 x_8) r := by
  unfold slices_siftDownOrdered_155.l0_k.body at e
  intro W h0 m0 h m A_0 n_0 c_0 O ne_0
  subst ne_0
  refine f155.l0_in ?_
  unfold f155.l0T
  refine split_dec_e e (fun c23 e => ?_) (fun c23 e => ?_)
  · cases e
    exact ⟨_, O.pick [0], rfl, rfl⟩
  · refine split_dec_e e (fun c22 e => ?_) (fun c22 e => ?_)
    · obtain ⟨y1, g2, e⟩ := bind_e e
      refine (O.os 0 rfl).addr rfl g2 fun a3 cs4 ha5 hc6 he7 => ?_
      obtain rfl : cs4 = [(Value.int .i64 y1)] := he7
      obtain ⟨y8, g9, e⟩ := bind_e e
      refine (O.os 0 rfl).addr rfl g9 fun a10 cs11 ha12 hc13 he14 => ?_
      obtain rfl : cs11 = [(Value.int .i64 y8)] := he14
      refine ⟨_, ld0 (Sub.refl _) hc6 rfl, _, rfl, ?_⟩
      refine ⟨_, ld0 (Sub.refl _) hc13 rfl, _, rfl, ?_⟩
      obtain ⟨y15, g16, e⟩ := bind_e e
      refine (cmp_Less_127.walk (Hold.start (W := No) O.s)  g16).mono ?_
      rintro _ h17 ⟨m18, Q19, rfl⟩
      have O21 := Hold.nm (O.retC Q19 vfs_nil)
      refine ⟨_, rfl, ?_⟩
      exact (ih _ _ e) _ _ _ _ _ _ _ _ (O21.pick [0]).nm rfl
    · exact (ih _ _ e) _ _ _ _ _ _ _ _ (O.pick [0]).nm rfl
set_option maxRecDepth 100000 in
theorem slices_siftDownOrdered_155.l0_k.step_j1 (go : (p : slices_siftDownOrdered_155.l0_k.Pt) → Option ((List Int))) (ih : ∀ p r, go p = some r → slices_siftDownOrdered_155.l0_k.I p r) (a_0 : List Int) (x_2 : Int) (x_3 : Int) (x_8 : Int) (x_9 : Int) (b_36 : Bool) (r : (List Int)) (e : slices_siftDownOrdered_155.l0_k.body go (.j1 a_0 x_2 x_3 x_8 x_9 b_36) = some r) : slices_siftDownOrdered_155.l0_k.I (.j1 a_0 x_2 x_3 x_8 x_9 b_36) r := by
  unfold slices_siftDownOrdered_155.l0_k.body at e
  intro W h0 m0 h m A_0 n_0 c_0 O ne_0
  subst ne_0
  refine f155.j1_in ?_
  unfold f155.j1T
  refine split_any_e e (fun c1 e => ?_) (fun c1 e => ?_)
  · exact (ih _ _ e) _ _ _ _ _ _ _ _ (O.pick [0]).nm rfl
  · exact (ih _ _ e) _ _ _ _ _ _ _ _ (O.pick [0]).nm rfl
set_option maxHeartbeats 4000000 in
set_option maxRecDepth 100000 in
theorem slices_siftDownOrdered_155.l0_k.step_j0 (go : (p : slices_siftDownOrdered_155.l0_k.Pt) → Option ((List Int))) (ih : ∀ p r, go p = some r → slices_siftDownOrdered_155.l0_k.I p r) (a_0 : List Int) (x_2 : Int) (x_3 : Int) (x_8 : Int) (x_9 : Int) (r : (List Int)) (e : slices_siftDownOrdered_155.l0_k.body go (.j0 a_0 x_2 x_3 x_8 x_9) = some r) : slices_siftDownOrdered_155.l0_k.I (.j0 a_0 x_2 x_3 x_8 x_9) r := by
  unfold slices_siftDownOrdered_155.l0_k.body at e
  intro W h0 m0 h m A_0 n_0 c_0 O ne_0
  subst ne_0
  refine f155.j0_in ?_
  unfold f155.j0T
  obtain ⟨y1, g2, e⟩ := bind_e e
  refine (O.os 0 rfl).addr rfl g2 fun a3 cs4 ha5 hc6 he7 => ?_
  obtain rfl : cs4 = [(Value.int .i64 y1)] := he7
  obtain ⟨y8, g9, e⟩ := bind_e e
  refine (O.os 0 rfl).addr rfl g9 fun a10 cs11 ha12 hc13 he14 => ?_
  obtain rfl : cs11 = [(Value.int .i64 y8)] := he14
  refine ⟨_, ld0 (Sub.refl _) hc6 rfl, _, rfl, ?_⟩
  refine ⟨_, ld0 (Sub.refl _) hc13 rfl, _, rfl, ?_⟩
  obtain ⟨y15, g16, e⟩ := bind_e e
  refine (cmp_Less_127.walk (Hold.start (W := No) O.s)  g16).mono ?_
  rintro _ h17 ⟨m18, Q19, rfl⟩
  have O21 := Hold.nm (O.retC Q19 vfs_nil)
  refine ⟨_, rfl, ?_⟩
  refine split_not ?_
  refine split_any_e e (fun c59 e => ?_) (fun c59 e => ?_)
  · obtain ⟨y22, g23, e⟩ := bind_e e
    refine (O21.os 0 rfl).addr rfl g23 fun a24 cs25 ha26 hc27 he28 => ?_
    obtain rfl : cs25 = [(Value.int .i64 y22)] := he28
    obtain ⟨y29, g30, e⟩ := bind_e e
    refine (O21.os 0 rfl).addr rfl g30 fun a31 cs32 ha33 hc34 he35 => ?_
    obtain rfl : cs32 = [(Value.int .i64 y29)] := he35
    refine ⟨_, ld0 (Sub.refl _) hc27 rfl, _, rfl, ?_⟩
    refine ⟨_, ld0 (Sub.refl _) hc34 rfl, _, rfl, ?_⟩
    obtain ⟨y36, g37, e⟩ := bind_e e
    refine (O21.os 0 rfl).addr rfl g37 fun a38 cs39 ha40 hc41 he42 => ?_
    obtain rfl : cs39 = [(Value.int .i64 y36)] := he42
    obtain ⟨l45, g46, e⟩ := bind_e e
    replace g46 := Option.some.inj g46
    refine O21.elst0 0 rfl g37 ha40 hc41 (by decide) (y' := y22) rfl trivial g46 fun h43 O44 => ?_
    obtain ⟨y47, g48, e⟩ := bind_e e
    refine (O44.os 0 rfl).addr (lset' g46) g48 fun a49 cs50 ha51 hc52 he53 => ?_
    obtain rfl : cs50 = [(Value.int .i64 y47)] := he53
    obtain ⟨l56, g57, e⟩ := bind_e e
    replace g57 := Option.some.inj g57
    refine O44.elst0 0 rfl g48 ha51 hc52 (by decide) (y' := y29) rfl trivial g57 fun h54 O55 => ?_
    have O58 := O55.nm
    exact (ih _ _ e) _ _ _ _ _ _ _ _ (O58.pick [0]).nm ((lset' g46).trans (lset' g57))
  · cases e
    exact ⟨_, O21.pick [0], rfl, rfl⟩
theorem slices_siftDownOrdered_155.l0_k.all {p : slices_siftDownOrdered_155.l0_k.Pt} {r : ((List Int))} (e : slices_siftDownOrdered_155.l0_k.go p = some r) : slices_siftDownOrdered_155.l0_k.I p r := fixF_ind (β := fun _ => ((List Int))) slices_siftDownOrdered_155.l0_k.mono (I := slices_siftDownOrdered_155.l0_k.I) (fun go ih p r e => match p with
  | .l0 a_0 x_2 x_3 x_8 => slices_siftDownOrdered_155.l0_k.step_l0 go ih a_0 x_2 x_3 x_8 r e
  | .j1 a_0 x_2 x_3 x_8 x_9 b_36 => slices_siftDownOrdered_155.l0_k.step_j1 go ih a_0 x_2 x_3 x_8 x_9 b_36 r e
  | .j0 a_0 x_2 x_3 x_8 x_9 => slices_siftDownOrdered_155.l0_k.step_j0 go ih a_0 x_2 x_3 x_8 x_9 r e
  ) e
theorem slices_siftDownOrdered_155.l0.walk {W : Nat → Prop} {h0 m0 h m : Heap} {A_0 : Option Addr} {n_0 c_0 : Nat} {a_0 : List Int} {x_2 : Int} {x_3 : Int} {x_8 : Int} (O : Hold W h0 m0 h m [rR (aE (tell_int .i64)) A_0 c_0 a_0]) (ne_0 : n_0 = List.length a_0) {r : (List Int)} (e : slices_siftDownOrdered_155.l0 a_0 x_2 x_3 x_8 = some r) : f155.l0 (slices_siftDownOrdered_155.post W A_0 n_0 c_0 h0 m0 r) A_0 n_0 c_0 x_2 x_3 x_8 h := slices_siftDownOrdered_155.l0_k.all (p := .l0 a_0 x_2 x_3 x_8) e W h0 m0 h m A_0 n_0 c_0 O ne_0
noncomputable def slices_siftDownOrdered_155 (a_0 : List Int) (x_1 : Int) (x_2 : Int) (x_3 : Int) : Option ((List Int)) :=
  (slices_siftDownOrdered_155.l0 a_0 x_2 x_3 x_1)
set_option maxRecDepth 100000 in
theorem slices_siftDownOrdered_155.walk {W : Nat → Prop} {h m : Heap} {A_0 : Option Addr} {n_0 c_0 : Nat} {a_0 : List Int} {x_1 : Int} {x_2 : Int} {x_3 : Int} (O : Hold W h m h m [rR (aE (tell_int .i64)) A_0 c_0 a_0]) (ne_0 : n_0 = List.length a_0) {r : (List Int)} (e : slices_siftDownOrdered_155 a_0 x_1 x_2 x_3 = some r) : Run Try.prog 155 #[Value.slice A_0 n_0 c_0, Value.int .i64 x_1, Value.int .i64 x_2, Value.int .i64 x_3] h (slices_siftDownOrdered_155.post W A_0 n_0 c_0 h m r) := by
  unfold slices_siftDownOrdered_155 at e
  subst ne_0
  refine f155.run ?_
  unfold f155.runT
  exact slices_siftDownOrdered_155.l0.walk (O.pick [0]).nm rfl e
def slices_heapSortOrdered_122.post (W : Nat → Prop) (Asl0 : Option Addr) (nsl0 csl0 : Nat) (h0 m0 : Heap) (r : (List Int)) (v : Value) (h : Heap) : Prop := ∃ m , Hold W h0 m0 h m [rR (aE (tell_int .i64)) Asl0 csl0 r] ∧ v = .tuple #[] ∧ nsl0 = List.length r
inductive slices_heapSortOrdered_122.l1_k.Pt where
  | l1 (a_0 : List Int) (x_6 : Int) (x_7 : Int) (x_10 : Int)
noncomputable def slices_heapSortOrdered_122.l1_k.body (go : (p : slices_heapSortOrdered_122.l1_k.Pt) → Option ((List Int))) : (p : slices_heapSortOrdered_122.l1_k.Pt) → Option ((List Int))
  | .l1 a_0 x_6 x_7 x_10 => if x_10 ≥ (0 : Int) then (Option.bind (gi a_0 (IntKind.wrap .i64 (x_6 + x_10))) fun y1 => Option.bind (gi a_0 x_6) fun y8 => Option.bind (gi a_0 x_6) fun y15 => Option.bind (some (List.set a_0 (Int.toNat x_6) y1)) fun l24 => Option.bind (gi l24 (IntKind.wrap .i64 (x_6 + x_10))) fun y26 => Option.bind (some (List.set l24 (Int.toNat (IntKind.wrap .i64 (x_6 + x_10))) y8)) fun l35 => Option.bind (slices_siftDownOrdered_155 l35 x_7 x_10 x_6) fun y37 => (go (.l1 y37 x_6 x_7 (IntKind.wrap .i64 (x_10 - (1 : Int)))))) else (some (a_0))
theorem slices_heapSortOrdered_122.l1_k.mono : MonoF (β := fun _ => ((List Int))) slices_heapSortOrdered_122.l1_k.body := fun f g hfg p => match p with
  | .l1 a_0 x_6 x_7 x_10 => LeO.ite (LeO.bind (LeO.refl _) fun y1 => LeO.bind (LeO.refl _) fun y8 => LeO.bind (LeO.refl _) fun y15 => LeO.bind (LeO.refl _) fun l24 => LeO.bind (LeO.refl _) fun y26 => LeO.bind (LeO.refl _) fun l35 => LeO.bind (LeO.refl _) fun y37 => (hfg _)) (LeO.refl _)
noncomputable def slices_heapSortOrdered_122.l1_k.go (p : slices_heapSortOrdered_122.l1_k.Pt) : Option ((List Int)) := fixF (β := fun _ => ((List Int))) slices_heapSortOrdered_122.l1_k.body p
noncomputable def slices_heapSortOrdered_122.l1 (a_0 : List Int) (x_6 : Int) (x_7 : Int) (x_10 : Int) : Option ((List Int)) := slices_heapSortOrdered_122.l1_k.go (.l1 a_0 x_6 x_7 x_10)
theorem slices_heapSortOrdered_122.l1_eq (a_0 : List Int) (x_6 : Int) (x_7 : Int) (x_10 : Int) : slices_heapSortOrdered_122.l1 a_0 x_6 x_7 x_10 = if x_10 ≥ (0 : Int) then (Option.bind (gi a_0 (IntKind.wrap .i64 (x_6 + x_10))) fun y1 => Option.bind (gi a_0 x_6) fun y8 => Option.bind (gi a_0 x_6) fun y15 => Option.bind (some (List.set a_0 (Int.toNat x_6) y1)) fun l24 => Option.bind (gi l24 (IntKind.wrap .i64 (x_6 + x_10))) fun y26 => Option.bind (some (List.set l24 (Int.toNat (IntKind.wrap .i64 (x_6 + x_10))) y8)) fun l35 => Option.bind (slices_siftDownOrdered_155 l35 x_7 x_10 x_6) fun y37 => (slices_heapSortOrdered_122.l1 y37 x_6 x_7 (IntKind.wrap .i64 (x_10 - (1 : Int))))) else (some (a_0)) := fixF_eq slices_heapSortOrdered_122.l1_k.mono _
def slices_heapSortOrdered_122.l1_k.I : (p : slices_heapSortOrdered_122.l1_k.Pt) → ((List Int)) → Prop
  | .l1 a_0 x_6 x_7 x_10, r => ∀ (W : Nat → Prop) (h0 m0 h m : Heap) (A_0 : Option Addr) (n_0 c_0 : Nat) (O : Hold W h0 m0 h m [rR (aE (tell_int .i64)) A_0 c_0 a_0]) (ne_0 : n_0 = List.length a_0), f122.l1 (slices_heapSortOrdered_122.post W A_0 n_0 c_0 h0 m0 r) A_0 n_0 c_0 x_6 x_7 x_10 h
set_option maxHeartbeats 4000000 in
set_option maxRecDepth 100000 in
theorem slices_heapSortOrdered_122.l1_k.step_l1 (go : (p : slices_heapSortOrdered_122.l1_k.Pt) → Option ((List Int))) (ih : ∀ p r, go p = some r → slices_heapSortOrdered_122.l1_k.I p r) (a_0 : List Int) (x_6 : Int) (x_7 : Int) (x_10 : Int) (r : (List Int)) (e : slices_heapSortOrdered_122.l1_k.body go (.l1 a_0 x_6 x_7 x_10) = some r) : slices_heapSortOrdered_122.l1_k.I (.l1 a_0 x_6 x_7 x_10) r := by
  unfold slices_heapSortOrdered_122.l1_k.body at e
  intro W h0 m0 h m A_0 n_0 c_0 O ne_0
  subst ne_0
  refine f122.l1_in ?_
  unfold f122.l1T
  refine split_dec_e e (fun c50 e => ?_) (fun c50 e => ?_)
  · obtain ⟨y1, g2, e⟩ := bind_e e
    refine (O.os 0 rfl).addr rfl g2 fun a3 cs4 ha5 hc6 he7 => ?_
    obtain rfl : cs4 = [(Value.int .i64 y1)] := he7
    obtain ⟨y8, g9, e⟩ := bind_e e
    refine (O.os 0 rfl).addr rfl g9 fun a10 cs11 ha12 hc13 he14 => ?_
    obtain rfl : cs11 = [(Value.int .i64 y8)] := he14
    refine ⟨_, ld0 (Sub.refl _) hc6 rfl, _, rfl, ?_⟩
    refine ⟨_, ld0 (Sub.refl _) hc13 rfl, _, rfl, ?_⟩
    obtain ⟨y15, g16, e⟩ := bind_e e
    refine (O.os 0 rfl).addr rfl g16 fun a17 cs18 ha19 hc20 he21 => ?_
    obtain rfl : cs18 = [(Value.int .i64 y15)] := he21
    obtain ⟨l24, g25, e⟩ := bind_e e
    replace g25 := Option.some.inj g25
    refine O.elst0 0 rfl g16 ha19 hc20 (by decide) (y' := y1) rfl trivial g25 fun h22 O23 => ?_
    obtain ⟨y26, g27, e⟩ := bind_e e
    refine (O23.os 0 rfl).addr (lset' g25) g27 fun a28 cs29 ha30 hc31 he32 => ?_
    obtain rfl : cs29 = [(Value.int .i64 y26)] := he32
    obtain ⟨l35, g36, e⟩ := bind_e e
    replace g36 := Option.some.inj g36
    refine O23.elst0 0 rfl g27 ha30 hc31 (by decide) (y' := y8) rfl trivial g36 fun h33 O34 => ?_
    obtain ⟨y37, g38, e⟩ := bind_e e
    have O43 := O34.nm
    obtain ⟨W44, P45, B46, C47⟩ := O43.callC [0]
    refine (slices_siftDownOrdered_155.walk P45 ((lset' g25).trans (lset' g36)) g38).mono ?_
    rintro _ h39 ⟨m40, Q41, rfl, hl48⟩
    have O49 := Hold.nm (C47 Q41 (vfs_cons (rR_vf (aE_vf (fun _ _ _ _ h => h))) vfs_nil))
    refine ⟨rfl, ?_⟩
    exact (ih _ _ e) _ _ _ _ _ _ _ _ (O49.pick [1]).nm hl48
  · cases e
    exact ⟨_, O.pick [0], rfl, rfl⟩
theorem slices_heapSortOrdered_122.l1_k.all {p : slices_heapSortOrdered_122.l1_k.Pt} {r : ((List Int))} (e : slices_heapSortOrdered_122.l1_k.go p = some r) : slices_heapSortOrdered_122.l1_k.I p r := fixF_ind (β := fun _ => ((List Int))) slices_heapSortOrdered_122.l1_k.mono (I := slices_heapSortOrdered_122.l1_k.I) (fun go ih p r e => match p with
  | .l1 a_0 x_6 x_7 x_10 => slices_heapSortOrdered_122.l1_k.step_l1 go ih a_0 x_6 x_7 x_10 r e
  ) e
theorem slices_heapSortOrdered_122.l1.walk {W : Nat → Prop} {h0 m0 h m : Heap} {A_0 : Option Addr} {n_0 c_0 : Nat} {a_0 : List Int} {x_6 : Int} {x_7 : Int} {x_10 : Int} (O : Hold W h0 m0 h m [rR (aE (tell_int .i64)) A_0 c_0 a_0]) (ne_0 : n_0 = List.length a_0) {r : (List Int)} (e : slices_heapSortOrdered_122.l1 a_0 x_6 x_7 x_10 = some r) : f122.l1 (slices_heapSortOrdered_122.post W A_0 n_0 c_0 h0 m0 r) A_0 n_0 c_0 x_6 x_7 x_10 h := slices_heapSortOrdered_122.l1_k.all (p := .l1 a_0 x_6 x_7 x_10) e W h0 m0 h m A_0 n_0 c_0 O ne_0
inductive slices_heapSortOrdered_122.l0_k.Pt where
  | l0 (a_0 : List Int) (x_6 : Int) (x_7 : Int) (x_8 : Int) (x_9 : Int)
noncomputable def slices_heapSortOrdered_122.l0_k.body (go : (p : slices_heapSortOrdered_122.l0_k.Pt) → Option ((List Int))) : (p : slices_heapSortOrdered_122.l0_k.Pt) → Option ((List Int))
  | .l0 a_0 x_6 x_7 x_8 x_9 => if x_9 ≥ (0 : Int) then (Option.bind (slices_siftDownOrdered_155 a_0 x_9 x_8 x_6) fun y1 => (go (.l0 y1 x_6 x_7 x_8 (IntKind.wrap .i64 (x_9 - (1 : Int)))))) else ((slices_heapSortOrdered_122.l1 a_0 x_6 x_7 (IntKind.wrap .i64 (x_8 - (1 : Int)))))
theorem slices_heapSortOrdered_122.l0_k.mono : MonoF (β := fun _ => ((List Int))) slices_heapSortOrdered_122.l0_k.body := fun f g hfg p => match p with
  | .l0 a_0 x_6 x_7 x_8 x_9 => LeO.ite (LeO.bind (LeO.refl _) fun y1 => (hfg _)) ((LeO.refl _))
noncomputable def slices_heapSortOrdered_122.l0_k.go (p : slices_heapSortOrdered_122.l0_k.Pt) : Option ((List Int)) := fixF (β := fun _ => ((List Int))) slices_heapSortOrdered_122.l0_k.body p
noncomputable def slices_heapSortOrdered_122.l0 (a_0 : List Int) (x_6 : Int) (x_7 : Int) (x_8 : Int) (x_9 : Int) : Option ((List Int)) := slices_heapSortOrdered_122.l0_k.go (.l0 a_0 x_6 x_7 x_8 x_9)
theorem slices_heapSortOrdered_122.l0_eq (a_0 : List Int) (x_6 : Int) (x_7 : Int) (x_8 : Int) (x_9 : Int) : slices_heapSortOrdered_122.l0 a_0 x_6 x_7 x_8 x_9 = if x_9 ≥ (0 : Int) then (Option.bind (slices_siftDownOrdered_155 a_0 x_9 x_8 x_6) fun y1 => (slices_heapSortOrdered_122.l0 y1 x_6 x_7 x_8 (IntKind.wrap .i64 (x_9 - (1 : Int))))) else ((slices_heapSortOrdered_122.l1 a_0 x_6 x_7 (IntKind.wrap .i64 (x_8 - (1 : Int))))) := fixF_eq slices_heapSortOrdered_122.l0_k.mono _
def slices_heapSortOrdered_122.l0_k.I : (p : slices_heapSortOrdered_122.l0_k.Pt) → ((List Int)) → Prop
  | .l0 a_0 x_6 x_7 x_8 x_9, r => ∀ (W : Nat → Prop) (h0 m0 h m : Heap) (A_0 : Option Addr) (n_0 c_0 : Nat) (O : Hold W h0 m0 h m [rR (aE (tell_int .i64)) A_0 c_0 a_0]) (ne_0 : n_0 = List.length a_0), f122.l0 (slices_heapSortOrdered_122.post W A_0 n_0 c_0 h0 m0 r) A_0 n_0 c_0 x_6 x_7 x_8 x_9 h
set_option maxRecDepth 100000 in
theorem slices_heapSortOrdered_122.l0_k.step_l0 (go : (p : slices_heapSortOrdered_122.l0_k.Pt) → Option ((List Int))) (ih : ∀ p r, go p = some r → slices_heapSortOrdered_122.l0_k.I p r) (a_0 : List Int) (x_6 : Int) (x_7 : Int) (x_8 : Int) (x_9 : Int) (r : (List Int)) (e : slices_heapSortOrdered_122.l0_k.body go (.l0 a_0 x_6 x_7 x_8 x_9) = some r) : slices_heapSortOrdered_122.l0_k.I (.l0 a_0 x_6 x_7 x_8 x_9) r := by
  unfold slices_heapSortOrdered_122.l0_k.body at e
  intro W h0 m0 h m A_0 n_0 c_0 O ne_0
  subst ne_0
  refine f122.l0_in ?_
  unfold f122.l0T
  refine split_dec_e e (fun c13 e => ?_) (fun c13 e => ?_)
  · obtain ⟨y1, g2, e⟩ := bind_e e
    obtain ⟨W7, P8, B9, C10⟩ := O.callC [0]
    refine (slices_siftDownOrdered_155.walk P8 rfl g2).mono ?_
    rintro _ h3 ⟨m4, Q5, rfl, hl11⟩
    have O12 := Hold.nm (C10 Q5 (vfs_cons (rR_vf (aE_vf (fun _ _ _ _ h => h))) vfs_nil))
    refine ⟨rfl, ?_⟩
    exact (ih _ _ e) _ _ _ _ _ _ _ _ (O12.pick [1]).nm hl11
  · exact slices_heapSortOrdered_122.l1.walk (O.pick [0]).nm rfl e
theorem slices_heapSortOrdered_122.l0_k.all {p : slices_heapSortOrdered_122.l0_k.Pt} {r : ((List Int))} (e : slices_heapSortOrdered_122.l0_k.go p = some r) : slices_heapSortOrdered_122.l0_k.I p r := fixF_ind (β := fun _ => ((List Int))) slices_heapSortOrdered_122.l0_k.mono (I := slices_heapSortOrdered_122.l0_k.I) (fun go ih p r e => match p with
  | .l0 a_0 x_6 x_7 x_8 x_9 => slices_heapSortOrdered_122.l0_k.step_l0 go ih a_0 x_6 x_7 x_8 x_9 r e
  ) e
theorem slices_heapSortOrdered_122.l0.walk {W : Nat → Prop} {h0 m0 h m : Heap} {A_0 : Option Addr} {n_0 c_0 : Nat} {a_0 : List Int} {x_6 : Int} {x_7 : Int} {x_8 : Int} {x_9 : Int} (O : Hold W h0 m0 h m [rR (aE (tell_int .i64)) A_0 c_0 a_0]) (ne_0 : n_0 = List.length a_0) {r : (List Int)} (e : slices_heapSortOrdered_122.l0 a_0 x_6 x_7 x_8 x_9 = some r) : f122.l0 (slices_heapSortOrdered_122.post W A_0 n_0 c_0 h0 m0 r) A_0 n_0 c_0 x_6 x_7 x_8 x_9 h := slices_heapSortOrdered_122.l0_k.all (p := .l0 a_0 x_6 x_7 x_8 x_9) e W h0 m0 h m A_0 n_0 c_0 O ne_0
noncomputable def slices_heapSortOrdered_122 (a_0 : List Int) (x_1 : Int) (x_2 : Int) : Option ((List Int)) :=
  (slices_heapSortOrdered_122.l0 a_0 x_1 (0 : Int) (IntKind.wrap .i64 (x_2 - x_1)) (IntKind.wrap .i64 (Int.tdiv (IntKind.wrap .i64 ((IntKind.wrap .i64 (x_2 - x_1)) - (1 : Int))) (2 : Int))))
set_option maxRecDepth 100000 in
theorem slices_heapSortOrdered_122.walk {W : Nat → Prop} {h m : Heap} {A_0 : Option Addr} {n_0 c_0 : Nat} {a_0 : List Int} {x_1 : Int} {x_2 : Int} (O : Hold W h m h m [rR (aE (tell_int .i64)) A_0 c_0 a_0]) (ne_0 : n_0 = List.length a_0) {r : (List Int)} (e : slices_heapSortOrdered_122 a_0 x_1 x_2 = some r) : Run Try.prog 122 #[Value.slice A_0 n_0 c_0, Value.int .i64 x_1, Value.int .i64 x_2] h (slices_heapSortOrdered_122.post W A_0 n_0 c_0 h m r) := by
  unfold slices_heapSortOrdered_122 at e
  subst ne_0
  refine f122.run ?_
  unfold f122.runT
  refine ⟨by decide, ?_⟩
  exact slices_heapSortOrdered_122.l0.walk (O.pick [0]).nm rfl e
def math_bits_Len64.post (W : Nat → Prop) (h0 m0 : Heap) (r : Int) (v : Value) (h : Heap) : Prop := ∃ m , Hold W h0 m0 h m [] ∧ v = .int .i64 r
noncomputable def math_bits_Len64.j2 (x_0 : Int) (x_2 : Int) : Option (Int) :=
  Option.bind (gb (ByteArray.mk #[0, 1, 2, 2, 3, 3, 3, 3, 4, 4, 4, 4, 4, 4, 4, 4, 5, 5, 5, 5, 5, 5, 5, 5, 5, 5, 5, 5, 5, 5, 5, 5, 6, 6, 6, 6, 6, 6, 6, 6, 6, 6, 6, 6, 6, 6, 6, 6, 6, 6, 6, 6, 6, 6, 6, 6, 6, 6, 6, 6, 6, 6, 6, 6, 7, 7, 7, 7, 7, 7, 7, 7, 7, 7, 7, 7, 7, 7, 7, 7, 7, 7, 7, 7, 7, 7, 7, 7, 7, 7, 7, 7, 7, 7, 7, 7, 7, 7, 7, 7, 7, 7, 7, 7, 7, 7, 7, 7, 7, 7, 7, 7, 7, 7, 7, 7, 7, 7, 7, 7, 7, 7, 7, 7, 7, 7, 7, 7, 8, 8, 8, 8, 8, 8, 8, 8, 8, 8, 8, 8, 8, 8, 8, 8, 8, 8, 8, 8, 8, 8, 8, 8, 8, 8, 8, 8, 8, 8, 8, 8, 8, 8, 8, 8, 8, 8, 8, 8, 8, 8, 8, 8, 8, 8, 8, 8, 8, 8, 8, 8, 8, 8, 8, 8, 8, 8, 8, 8, 8, 8, 8, 8, 8, 8, 8, 8, 8, 8, 8, 8, 8, 8, 8, 8, 8, 8, 8, 8, 8, 8, 8, 8, 8, 8, 8, 8, 8, 8, 8, 8, 8, 8, 8, 8, 8, 8, 8, 8, 8, 8, 8, 8, 8, 8, 8, 8, 8, 8, 8, 8, 8, 8, 8, 8, 8, 8, 8, 8, 8, 8, 8, 8, 8, 8, 8, 8]) (IntKind.wrap .u8 x_0)) fun y1 => some ((IntKind.wrap .i64 (x_2 + (IntKind.wrap .i64 y1))))
set_option maxRecDepth 100000 in
theorem math_bits_Len64.j2.walk {W : Nat → Prop} {h0 m0 h m : Heap} {x_0 : Int} {x_2 : Int} (O : Hold W h0 m0 h m []) {r : Int} (e : math_bits_Len64.j2 x_0 x_2 = some r) : f131.j2 (math_bits_Len64.post W h0 m0 r) x_0 x_2 h := by
  unfold math_bits_Len64.j2 at e
  refine f131.j2_in ?_
  unfold f131.j2T
  obtain ⟨y1, g2, e⟩ := bind_e e
  obtain ⟨q3, b4, q5, q6⟩ := gb_e g2
  refine ⟨q3, _, q5, ?_⟩
  try rw [← q6]
  cases e
  exact ⟨_, O.pick [], rfl⟩
noncomputable def math_bits_Len64.j1 (x_0 : Int) (x_2 : Int) : Option (Int) :=
  if x_0 ≥ (256 : Int) then ((math_bits_Len64.j2 (shrI .u64 x_0 (8 : Int)) (IntKind.wrap .i64 (x_2 + (8 : Int))))) else ((math_bits_Len64.j2 x_0 x_2))
set_option maxRecDepth 100000 in
theorem math_bits_Len64.j1.walk {W : Nat → Prop} {h0 m0 h m : Heap} {x_0 : Int} {x_2 : Int} (O : Hold W h0 m0 h m []) {r : Int} (e : math_bits_Len64.j1 x_0 x_2 = some r) : f131.j1 (math_bits_Len64.post W h0 m0 r) x_0 x_2 h := by
  unfold math_bits_Len64.j1 at e
  refine f131.j1_in ?_
  unfold f131.j1T
  refine split_dec_e e (fun c1 e => ?_) (fun c1 e => ?_)
  · refine ⟨by decide, ?_⟩
    exact math_bits_Len64.j2.walk (O.pick []).nm  e
  · exact math_bits_Len64.j2.walk (O.pick []).nm  e
noncomputable def math_bits_Len64.j0 (x_0 : Int) (x_2 : Int) : Option (Int) :=
  if x_0 ≥ (65536 : Int) then ((math_bits_Len64.j1 (shrI .u64 x_0 (16 : Int)) (IntKind.wrap .i64 (x_2 + (16 : Int))))) else ((math_bits_Len64.j1 x_0 x_2))
set_option maxRecDepth 100000 in
theorem math_bits_Len64.j0.walk {W : Nat → Prop} {h0 m0 h m : Heap} {x_0 : Int} {x_2 : Int} (O : Hold W h0 m0 h m []) {r : Int} (e : math_bits_Len64.j0 x_0 x_2 = some r) : f131.j0 (math_bits_Len64.post W h0 m0 r) x_0 x_2 h := by
  unfold math_bits_Len64.j0 at e
  refine f131.j0_in ?_
  unfold f131.j0T
  refine split_dec_e e (fun c1 e => ?_) (fun c1 e => ?_)
  · refine ⟨by decide, ?_⟩
    exact math_bits_Len64.j1.walk (O.pick []).nm  e
  · exact math_bits_Len64.j1.walk (O.pick []).nm  e
noncomputable def math_bits_Len64 (x_0 : Int) : Option (Int) :=
  if x_0 ≥ (4294967296 : Int) then ((math_bits_Len64.j0 (shrI .u64 x_0 (32 : Int)) (32 : Int))) else ((math_bits_Len64.j0 x_0 (0 : Int)))
set_option maxRecDepth 100000 in
theorem math_bits_Len64.walk {W : Nat → Prop} {h m : Heap} {x_0 : Int} (O : Hold W h m h m []) {r : Int} (e : math_bits_Len64 x_0 = some r) : Run Try.prog 131 #[Value.int .u64 x_0] h (math_bits_Len64.post W h m r) := by
  unfold math_bits_Len64 at e
  refine f131.run ?_
  unfold f131.runT
  refine split_dec_e e (fun c1 e => ?_) (fun c1 e => ?_)
  · refine ⟨by decide, ?_⟩
    exact math_bits_Len64.j0.walk (O.pick []).nm  e
  · exact math_bits_Len64.j0.walk (O.pick []).nm  e
def math_bits_Len.post (W : Nat → Prop) (h0 m0 : Heap) (r : Int) (v : Value) (h : Heap) : Prop := ∃ m , Hold W h0 m0 h m [] ∧ v = .int .i64 r
noncomputable def math_bits_Len (x_0 : Int) : Option (Int) :=
  Option.bind (math_bits_Len64 x_0) fun y1 => some (y1)
set_option maxRecDepth 100000 in
theorem math_bits_Len.walk {W : Nat → Prop} {h m : Heap} {x_0 : Int} (O : Hold W h m h m []) {r : Int} (e : math_bits_Len x_0 = some r) : Run Try.prog 79 #[Value.int .u64 x_0] h (math_bits_Len.post W h m r) := by
  unfold math_bits_Len at e
  refine f79.run ?_
  unfold f79.runT
  obtain ⟨y1, g2, e⟩ := bind_e e
  refine (math_bits_Len64.walk (Hold.start (W := No) O.s)  g2).mono ?_
  rintro _ h3 ⟨m4, Q5, rfl⟩
  have O7 := Hold.nm (O.retC Q5 vfs_nil)
  refine ⟨_, rfl, ?_⟩
  cases e
  exact ⟨_, O7.pick [], rfl⟩
def slices_nextPowerOfTwo.post (W : Nat → Prop) (h0 m0 : Heap) (r : Int) (v : Value) (h : Heap) : Prop := ∃ m , Hold W h0 m0 h m [] ∧ v = .int .u64 r
noncomputable def slices_nextPowerOfTwo (x_0 : Int) : Option (Int) :=
  Option.bind (math_bits_Len (IntKind.wrap .u64 x_0)) fun y1 => if 0 ≤ y1 then (some ((shlI .u64 (1 : Int) y1))) else none
set_option maxRecDepth 100000 in
theorem slices_nextPowerOfTwo.walk {W : Nat → Prop} {h m : Heap} {x_0 : Int} (O : Hold W h m h m []) {r : Int} (e : slices_nextPowerOfTwo x_0 = some r) : Run Try.prog 156 #[Value.int .i64 x_0] h (slices_nextPowerOfTwo.post W h m r) := by
  unfold slices_nextPowerOfTwo at e
  refine f156.run ?_
  unfold f156.runT
  obtain ⟨y1, g2, e⟩ := bind_e e
  refine (math_bits_Len.walk (Hold.start (W := No) O.s)  g2).mono ?_
  rintro _ h3 ⟨m4, Q5, rfl⟩
  have O7 := Hold.nm (O.retC Q5 vfs_nil)
  refine ⟨_, rfl, ?_⟩
  obtain ⟨g8, e⟩ := guard_e e
  refine ⟨g8, ?_⟩
  cases e
  exact ⟨_, O7.pick [], rfl⟩
def slices_xorshift_Next.post (W : Nat → Prop) (bkio0 : Nat) (h0 m0 : Heap) (r : Int × Int) (v : Value) (h : Heap) : Prop := ∃ m csio0, Hold W h0 m0 h m [rV bkio0 223 csio0] ∧ v = .int .u64 r.1 ∧ (eInt .u64) m r.2 csio0
noncomputable def slices_xorshift_Next (y_0 : Int) : Option (Int × Int) :=
  some ((bitsI .xor .u64 (bitsI .xor .u64 (bitsI .xor .u64 y_0 (shlI .u64 y_0 (13 : Int))) (shrI .u64 (bitsI .xor .u64 y_0 (shlI .u64 y_0 (13 : Int))) (7 : Int))) (shlI .u64 (bitsI .xor .u64 (bitsI .xor .u64 y_0 (shlI .u64 y_0 (13 : Int))) (shrI .u64 (bitsI .xor .u64 y_0 (shlI .u64 y_0 (13 : Int))) (7 : Int))) (17 : Int))), (bitsI .xor .u64 (bitsI .xor .u64 (bitsI .xor .u64 y_0 (shlI .u64 y_0 (13 : Int))) (shrI .u64 (bitsI .xor .u64 y_0 (shlI .u64 y_0 (13 : Int))) (7 : Int))) (shlI .u64 (bitsI .xor .u64 (bitsI .xor .u64 y_0 (shlI .u64 y_0 (13 : Int))) (shrI .u64 (bitsI .xor .u64 y_0 (shlI .u64 y_0 (13 : Int))) (7 : Int))) (17 : Int))))
set_option maxRecDepth 100000 in
theorem slices_xorshift_Next.walk {W : Nat → Prop} {h m : Heap} {bkio0 : Nat} {cs_0 : List Value} {y_0 : Int} (O : Hold W h m h m [rV bkio0 223 cs_0]) (e_0 : (eInt .u64) m y_0 cs_0) {r : Int × Int} (e : slices_xorshift_Next y_0 = some r) : Run Try.prog 157 #[Value.pointer (some ⟨bkio0, 0, none⟩)] h (slices_xorshift_Next.post W bkio0 h m r) := by
  unfold slices_xorshift_Next at e
  obtain rfl : cs_0 = [(Value.int .u64 y_0)] := e_0
  refine f157.run ?_
  unfold f157.runT
  refine ⟨_, ld0 (Sub.refl _) (O.all 0 rfl) rfl, _, rfl, ?_⟩
  refine ⟨_, ld0 (Sub.refl _) (O.all 0 rfl) rfl, _, rfl, ?_⟩
  refine ⟨by decide, ?_⟩
  refine O.st0 0 rfl (Nat.le_of_ble_eq_true rfl) trivial fun h1 O2 => ?_
  refine ⟨_, ld0 (Sub.refl _) (O2.all 0 rfl) rfl, _, rfl, ?_⟩
  refine ⟨_, ld0 (Sub.refl _) (O2.all 0 rfl) rfl, _, rfl, ?_⟩
  refine ⟨by decide, ?_⟩
  refine O2.st0 0 rfl (Nat.le_of_ble_eq_true rfl) trivial fun h3 O4 => ?_
  refine ⟨_, ld0 (Sub.refl _) (O4.all 0 rfl) rfl, _, rfl, ?_⟩
  refine ⟨_, ld0 (Sub.refl _) (O4.all 0 rfl) rfl, _, rfl, ?_⟩
  refine ⟨by decide, ?_⟩
  refine O4.st0 0 rfl (Nat.le_of_ble_eq_true rfl) trivial fun h5 O6 => ?_
  refine ⟨_, ld0 (Sub.refl _) (O6.all 0 rfl) rfl, _, rfl, ?_⟩
  have O7 := O6.nm
  cases e
  exact ⟨_, _, O7.pick [0], rfl, rfl⟩
def slices_breakPatternsOrdered_123.post (W : Nat → Prop) (Asl0 : Option Addr) (nsl0 csl0 : Nat) (h0 m0 : Heap) (r : (List Int)) (v : Value) (h : Heap) : Prop := ∃ m , Hold W h0 m0 h m [rR (aE (tell_int .i64)) Asl0 csl0 r] ∧ v = .tuple #[] ∧ nsl0 = List.length r
inductive slices_breakPatternsOrdered_123.l0_k.Pt where
  | l0 (a_0 : List Int) (x_1 : Int) (x_6 : Int) (y_7 : Int) (x_8 : Int) (x_9 : Int)
  | j1 (a_0 : List Int) (x_1 : Int) (x_6 : Int) (y_7 : Int) (x_8 : Int) (x_9 : Int) (x_10 : Int)
  | j0 (a_0 : List Int) (x_1 : Int) (x_6 : Int) (y_7 : Int) (x_8 : Int) (x_9 : Int)
noncomputable def slices_breakPatternsOrdered_123.l0_k.body (go : (p : slices_breakPatternsOrdered_123.l0_k.Pt) → Option ((List Int))) : (p : slices_breakPatternsOrdered_123.l0_k.Pt) → Option ((List Int))
  | .l0 a_0 x_1 x_6 y_7 x_8 x_9 => if x_9 ≤ (IntKind.wrap .i64 ((IntKind.wrap .i64 (x_1 + (IntKind.wrap .i64 ((IntKind.wrap .i64 (Int.tdiv x_6 (4 : Int))) * (2 : Int))))) + (1 : Int))) then (Option.bind (slices_xorshift_Next y_7) fun y1 => if (IntKind.wrap .i64 (bitsI .and .u64 y1.1 (IntKind.wrap .u64 (x_8 - (1 : Int))))) ≥ x_6 then ((go (.j1 a_0 x_1 x_6 y1.2 x_8 x_9 (IntKind.wrap .i64 ((IntKind.wrap .i64 (bitsI .and .u64 y1.1 (IntKind.wrap .u64 (x_8 - (1 : Int))))) - x_6))))) else ((go (.j1 a_0 x_1 x_6 y1.2 x_8 x_9 (IntKind.wrap .i64 (bitsI .and .u64 y1.1 (IntKind.wrap .u64 (x_8 - (1 : Int))))))))) else (some (a_0))
  | .j1 a_0 x_1 x_6 y_7 x_8 x_9 x_10 => Option.bind (gi a_0 (IntKind.wrap .i64 (x_1 + x_10))) fun y1 => Option.bind (gi a_0 x_9) fun y8 => Option.bind (gi a_0 x_9) fun y15 => Option.bind (some (List.set a_0 (Int.toNat x_9) y1)) fun l24 => Option.bind (gi l24 (IntKind.wrap .i64 (x_1 + x_10))) fun y26 => Option.bind (some (List.set l24 (Int.toNat (IntKind.wrap .i64 (x_1 + x_10))) y8)) fun l35 => (go (.j0 l35 x_1 x_6 y_7 x_8 x_9))
  | .j0 a_0 x_1 x_6 y_7 x_8 x_9 => (go (.l0 a_0 x_1 x_6 y_7 x_8 (IntKind.wrap .i64 (x_9 + (1 : Int)))))
attribute [local irreducible] slices_xorshift_Next in
theorem slices_breakPatternsOrdered_123.l0_k.mono : MonoF (β := fun _ => ((List Int))) slices_breakPatternsOrdered_123.l0_k.body := fun f g hfg p => match p with
  | .l0 a_0 x_1 x_6 y_7 x_8 x_9 => LeO.ite (LeO.bind (LeO.refl _) fun y1 => LeO.ite ((hfg _)) ((hfg _))) (LeO.refl _)
  | .j1 a_0 x_1 x_6 y_7 x_8 x_9 x_10 => LeO.bind (LeO.refl _) fun y1 => LeO.bind (LeO.refl _) fun y8 => LeO.bind (LeO.refl _) fun y15 => LeO.bind (LeO.refl _) fun l24 => LeO.bind (LeO.refl _) fun y26 => LeO.bind (LeO.refl _) fun l35 => (hfg _)
  | .j0 a_0 x_1 x_6 y_7 x_8 x_9 => (hfg _)
noncomputable def slices_breakPatternsOrdered_123.l0_k.go (p : slices_breakPatternsOrdered_123.l0_k.Pt) : Option ((List Int)) := fixF (β := fun _ => ((List Int))) slices_breakPatternsOrdered_123.l0_k.body p
noncomputable def slices_breakPatternsOrdered_123.l0 (a_0 : List Int) (x_1 : Int) (x_6 : Int) (y_7 : Int) (x_8 : Int) (x_9 : Int) : Option ((List Int)) := slices_breakPatternsOrdered_123.l0_k.go (.l0 a_0 x_1 x_6 y_7 x_8 x_9)
noncomputable def slices_breakPatternsOrdered_123.j1 (a_0 : List Int) (x_1 : Int) (x_6 : Int) (y_7 : Int) (x_8 : Int) (x_9 : Int) (x_10 : Int) : Option ((List Int)) := slices_breakPatternsOrdered_123.l0_k.go (.j1 a_0 x_1 x_6 y_7 x_8 x_9 x_10)
noncomputable def slices_breakPatternsOrdered_123.j0 (a_0 : List Int) (x_1 : Int) (x_6 : Int) (y_7 : Int) (x_8 : Int) (x_9 : Int) : Option ((List Int)) := slices_breakPatternsOrdered_123.l0_k.go (.j0 a_0 x_1 x_6 y_7 x_8 x_9)
theorem slices_breakPatternsOrdered_123.l0_eq (a_0 : List Int) (x_1 : Int) (x_6 : Int) (y_7 : Int) (x_8 : Int) (x_9 : Int) : slices_breakPatternsOrdered_123.l0 a_0 x_1 x_6 y_7 x_8 x_9 = if x_9 ≤ (IntKind.wrap .i64 ((IntKind.wrap .i64 (x_1 + (IntKind.wrap .i64 ((IntKind.wrap .i64 (Int.tdiv x_6 (4 : Int))) * (2 : Int))))) + (1 : Int))) then (Option.bind (slices_xorshift_Next y_7) fun y1 => if (IntKind.wrap .i64 (bitsI .and .u64 y1.1 (IntKind.wrap .u64 (x_8 - (1 : Int))))) ≥ x_6 then ((slices_breakPatternsOrdered_123.j1 a_0 x_1 x_6 y1.2 x_8 x_9 (IntKind.wrap .i64 ((IntKind.wrap .i64 (bitsI .and .u64 y1.1 (IntKind.wrap .u64 (x_8 - (1 : Int))))) - x_6)))) else ((slices_breakPatternsOrdered_123.j1 a_0 x_1 x_6 y1.2 x_8 x_9 (IntKind.wrap .i64 (bitsI .and .u64 y1.1 (IntKind.wrap .u64 (x_8 - (1 : Int)))))))) else (some (a_0)) := fixF_eq slices_breakPatternsOrdered_123.l0_k.mono _
theorem slices_breakPatternsOrdered_123.j1_eq (a_0 : List Int) (x_1 : Int) (x_6 : Int) (y_7 : Int) (x_8 : Int) (x_9 : Int) (x_10 : Int) : slices_breakPatternsOrdered_123.j1 a_0 x_1 x_6 y_7 x_8 x_9 x_10 = Option.bind (gi a_0 (IntKind.wrap .i64 (x_1 + x_10))) fun y1 => Option.bind (gi a_0 x_9) fun y8 => Option.bind (gi a_0 x_9) fun y15 => Option.bind (some (List.set a_0 (Int.toNat x_9) y1)) fun l24 => Option.bind (gi l24 (IntKind.wrap .i64 (x_1 + x_10))) fun y26 => Option.bind (some (List.set l24 (Int.toNat (IntKind.wrap .i64 (x_1 + x_10))) y8)) fun l35 => (slices_breakPatternsOrdered_123.j0 l35 x_1 x_6 y_7 x_8 x_9) := fixF_eq slices_breakPatternsOrdered_123.l0_k.mono _
theorem slices_breakPatternsOrdered_123.j0_eq (a_0 : List Int) (x_1 : Int) (x_6 : Int) (y_7 : Int) (x_8 : Int) (x_9 : Int) : slices_breakPatternsOrdered_123.j0 a_0 x_1 x_6 y_7 x_8 x_9 = (slices_breakPatternsOrdered_123.l0 a_0 x_1 x_6 y_7 x_8 (IntKind.wrap .i64 (x_9 + (1 : Int)))) := fixF_eq slices_breakPatternsOrdered_123.l0_k.mono _
def slices_breakPatternsOrdered_123.l0_k.I : (p : slices_breakPatternsOrdered_123.l0_k.Pt) → ((List Int)) → Prop
  | .l0 a_0 x_1 x_6 y_7 x_8 x_9, r => ∀ (W : Nat → Prop) (h0 m0 h m : Heap) (A_0 : Option Addr) (n_0 c_0 : Nat) (bk_7 : Nat) (cs_7 : List Value) (O : Hold W h0 m0 h m [rR (aE (tell_int .i64)) A_0 c_0 a_0, rV bk_7 223 cs_7]) (ne_0 : n_0 = List.length a_0) (e_7 : (eInt .u64) m y_7 cs_7), f123.l0 (slices_breakPatternsOrdered_123.post W A_0 n_0 c_0 h0 m0 r) A_0 n_0 c_0 x_1 x_6 (⟨bk_7, 0, none⟩ : Addr) x_8 x_9 h
  | .j1 a_0 x_1 x_6 y_7 x_8 x_9 x_10, r => ∀ (W : Nat → Prop) (h0 m0 h m : Heap) (A_0 : Option Addr) (n_0 c_0 : Nat) (bk_7 : Nat) (cs_7 : List Value) (O : Hold W h0 m0 h m [rR (aE (tell_int .i64)) A_0 c_0 a_0, rV bk_7 223 cs_7]) (ne_0 : n_0 = List.length a_0) (e_7 : (eInt .u64) m y_7 cs_7), f123.j1 (slices_breakPatternsOrdered_123.post W A_0 n_0 c_0 h0 m0 r) A_0 n_0 c_0 x_1 x_6 (⟨bk_7, 0, none⟩ : Addr) x_8 x_9 x_10 h
  | .j0 a_0 x_1 x_6 y_7 x_8 x_9, r => ∀ (W : Nat → Prop) (h0 m0 h m : Heap) (A_0 : Option Addr) (n_0 c_0 : Nat) (bk_7 : Nat) (cs_7 : List Value) (O : Hold W h0 m0 h m [rR (aE (tell_int .i64)) A_0 c_0 a_0, rV bk_7 223 cs_7]) (ne_0 : n_0 = List.length a_0) (e_7 : (eInt .u64) m y_7 cs_7), f123.j0 (slices_breakPatternsOrdered_123.post W A_0 n_0 c_0 h0 m0 r) A_0 n_0 c_0 x_1 x_6 (⟨bk_7, 0, none⟩ : Addr) x_8 x_9 h
set_option maxRecDepth 100000 in
theorem slices_breakPatternsOrdered_123.l0_k.step_l0 (go : (p : slices_breakPatternsOrdered_123.l0_k.Pt) → Option ((List Int))) (ih : ∀ p r, go p = some r → slices_breakPatternsOrdered_123.l0_k.I p r) (a_0 : List Int) (x_1 : Int) (x_6 : Int) (y_7 : Int) (x_8 : Int) (x_9 : Int) (r : (List Int)) (e : slices_breakPatternsOrdered_123.l0_k.body go (.l0 a_0 x_1 x_6 y_7 x_8 x_9) = some r) : slices_breakPatternsOrdered_123.l0_k.I (.l0 a_0 x_1 x_6 y_7 x_8 x_9) r := by
  unfold slices_breakPatternsOrdered_123.l0_k.body at e
  intro W h0 m0 h m A_0 n_0 c_0 bk_7 cs_7 O ne_0 e_7
  subst ne_0
  obtain rfl : cs_7 = [(Value.int .u64 y_7)] := e_7
  refine f123.l0_in ?_
  unfold f123.l0T
  refine ⟨by decide, ?_⟩
  refine split_dec_e e (fun c16 e => ?_) (fun c16 e => ?_)
  · obtain ⟨y1, g2, e⟩ := bind_e e
    obtain ⟨W7, P8, B9, C10⟩ := O.callC [1]
    refine (slices_xorshift_Next.walk P8 rfl g2).mono ?_
    rintro _ h3 ⟨m4, cs12, Q5, rfl, he13⟩
    have O14 := Hold.nm (C10 Q5 (vfs_cons rV_vf vfs_nil))
    obtain rfl : cs12 = [(Value.int .u64 y1.2)] := he13
    refine ⟨_, rfl, ?_⟩
    refine split_dec_e e (fun c15 e => ?_) (fun c15 e => ?_)
    · exact (ih _ _ e) _ _ _ _ _ _ _ _ _ _ (O14.pick [0, 2]).nm rfl rfl
    · exact (ih _ _ e) _ _ _ _ _ _ _ _ _ _ (O14.pick [0, 2]).nm rfl rfl
  · cases e
    exact ⟨_, O.pick [0], rfl, rfl⟩
set_option maxRecDepth 100000 in
theorem slices_breakPatternsOrdered_123.l0_k.step_j1 (go : (p : slices_breakPatternsOrdered_123.l0_k.Pt) → Option ((List Int))) (ih : ∀ p r, go p = some r → slices_breakPatternsOrdered_123.l0_k.I p r) (a_0 : List Int) (x_1 : Int) (x_6 : Int) (y_7 : Int) (x_8 : Int) (x_9 : Int) (x_10 : Int) (r : (List Int)) (e : slices_breakPatternsOrdered_123.l0_k.body go (.j1 a_0 x_1 x_6 y_7 x_8 x_9 x_10) = some r) : slices_breakPatternsOrdered_123.l0_k.I (.j1 a_0 x_1 x_6 y_7 x_8 x_9 x_10) r := by
  unfold slices_breakPatternsOrdered_123.l0_k.body at e
  intro W h0 m0 h m A_0 n_0 c_0 bk_7 cs_7 O ne_0 e_7
  subst ne_0
  obtain rfl : cs_7 = [(Value.int .u64 y_7)] := e_7
  refine f123.j1_in ?_
  unfold f123.j1T
  obtain ⟨y1, g2, e⟩ := bind_e e
  refine (O.os 0 rfl).addr rfl g2 fun a3 cs4 ha5 hc6 he7 => ?_
  obtain rfl : cs4 = [(Value.int .i64 y1)] := he7
  obtain ⟨y8, g9, e⟩ := bind_e e
  refine (O.os 0 rfl).addr rfl g9 fun a10 cs11 ha12 hc13 he14 => ?_
  obtain rfl : cs11 = [(Value.int .i64 y8)] := he14
  refine ⟨_, ld0 (Sub.refl _) hc6 rfl, _, rfl, ?_⟩
  refine ⟨_, ld0 (Sub.refl _) hc13 rfl, _, rfl, ?_⟩
  obtain ⟨y15, g16, e⟩ := bind_e e
  refine (O.os 0 rfl).addr rfl g16 fun a17 cs18 ha19 hc20 he21 => ?_
  obtain rfl : cs18 = [(Value.int .i64 y15)] := he21
  obtain ⟨l24, g25, e⟩ := bind_e e
  replace g25 := Option.some.inj g25
  refine O.elst0 0 rfl g16 ha19 hc20 (by decide) (y' := y1) rfl trivial g25 fun h22 O23 => ?_
  obtain ⟨y26, g27, e⟩ := bind_e e
  refine (O23.os 0 rfl).addr (lset' g25) g27 fun a28 cs29 ha30 hc31 he32 => ?_
  obtain rfl : cs29 = [(Value.int .i64 y26)] := he32
  obtain ⟨l35, g36, e⟩ := bind_e e
  replace g36 := Option.some.inj g36
  refine O23.elst0 0 rfl g27 ha30 hc31 (by decide) (y' := y8) rfl trivial g36 fun h33 O34 => ?_
  have O37 := O34.nm
  exact (ih _ _ e) _ _ _ _ _ _ _ _ _ _ (O37.pick [0, 1]).nm ((lset' g25).trans (lset' g36)) rfl
set_option maxRecDepth 100000 in
theorem slices_breakPatternsOrdered_123.l0_k.step_j0 (go : (p : slices_breakPatternsOrdered_123.l0_k.Pt) → Option ((List Int))) (ih : ∀ p r, go p = some r → slices_breakPatternsOrdered_123.l0_k.I p r) (a_0 : List Int) (x_1 : Int) (x_6 : Int) (y_7 : Int) (x_8 : Int) (x_9 : Int) (r : (List Int)) (e : slices_breakPatternsOrdered_123.l0_k.body go (.j0 a_0 x_1 x_6 y_7 x_8 x_9) = some r) : slices_breakPatternsOrdered_123.l0_k.I (.j0 a_0 x_1 x_6 y_7 x_8 x_9) r := by
  unfold slices_breakPatternsOrdered_123.l0_k.body at e
  intro W h0 m0 h m A_0 n_0 c_0 bk_7 cs_7 O ne_0 e_7
  subst ne_0
  obtain rfl : cs_7 = [(Value.int .u64 y_7)] := e_7
  refine f123.j0_in ?_
  unfold f123.j0T
  exact (ih _ _ e) _ _ _ _ _ _ _ _ _ _ (O.pick [0, 1]).nm rfl rfl
theorem slices_breakPatternsOrdered_123.l0_k.all {p : slices_breakPatternsOrdered_123.l0_k.Pt} {r : ((List Int))} (e : slices_breakPatternsOrdered_123.l0_k.go p = some r) : slices_breakPatternsOrdered_123.l0_k.I p r := fixF_ind (β := fun _ => ((List Int))) slices_breakPatternsOrdered_123.l0_k.mono (I := slices_breakPatternsOrdered_123.l0_k.I) (fun go ih p r e => match p with
  | .l0 a_0 x_1 x_6 y_7 x_8 x_9 => slices_breakPatternsOrdered_123.l0_k.step_l0 go ih a_0 x_1 x_6 y_7 x_8 x_9 r e
  | .j1 a_0 x_1 x_6 y_7 x_8 x_9 x_10 => slices_breakPatternsOrdered_123.l0_k.step_j1 go ih a_0 x_1 x_6 y_7 x_8 x_9 x_10 r e
  | .j0 a_0 x_1 x_6 y_7 x_8 x_9 => slices_breakPatternsOrdered_123.l0_k.step_j0 go ih a_0 x_1 x_6 y_7 x_8 x_9 r e
  ) e
theorem slices_breakPatternsOrdered_123.l0.walk {W : Nat → Prop} {h0 m0 h m : Heap} {A_0 : Option Addr} {n_0 c_0 : Nat} {bk_7 : Nat} {cs_7 : List Value} {a_0 : List Int} {x_1 : Int} {x_6 : Int} {y_7 : Int} {x_8 : Int} {x_9 : Int} (O : Hold W h0 m0 h m [rR (aE (tell_int .i64)) A_0 c_0 a_0, rV bk_7 223 cs_7]) (ne_0 : n_0 = List.length a_0) (e_7 : (eInt .u64) m y_7 cs_7) {r : (List Int)} (e : slices_breakPatternsOrdered_123.l0 a_0 x_1 x_6 y_7 x_8 x_9 = some r) : f123.l0 (slices_breakPatternsOrdered_123.post W A_0 n_0 c_0 h0 m0 r) A_0 n_0 c_0 x_1 x_6 (⟨bk_7, 0, none⟩ : Addr) x_8 x_9 h := slices_breakPatternsOrdered_123.l0_k.all (p := .l0 a_0 x_1 x_6 y_7 x_8 x_9) e W h0 m0 h m A_0 n_0 c_0 bk_7 cs_7 O ne_0 e_7
noncomputable def slices_breakPatternsOrdered_123 (a_0 : List Int) (x_1 : Int) (x_2 : Int) : Option ((List Int)) :=
  if (IntKind.wrap .i64 (x_2 - x_1)) ≥ (8 : Int) then (Option.bind (slices_nextPowerOfTwo (IntKind.wrap .i64 (x_2 - x_1))) fun y7 => (slices_breakPatternsOrdered_123.l0 a_0 x_1 (IntKind.wrap .i64 (x_2 - x_1)) (IntKind.wrap .u64 (IntKind.wrap .i64 (x_2 - x_1))) y7 (IntKind.wrap .i64 ((IntKind.wrap .i64 (x_1 + (IntKind.wrap .i64 ((IntKind.wrap .i64 (Int.tdiv (IntKind.wrap .i64 (x_2 - x_1)) (4 : Int))) * (2 : Int))))) - (1 : Int))))) else (some (a_0))
set_option maxRecDepth 100000 in
theorem slices_breakPatternsOrdered_123.walk {W : Nat → Prop} {h m : Heap} {A_0 : Option Addr} {n_0 c_0 : Nat} {a_0 : List Int} {x_1 : Int} {x_2 : Int} (O : Hold W h m h m [rR (aE (tell_int .i64)) A_0 c_0 a_0]) (ne_0 : n_0 = List.length a_0) {r : (List Int)} (e : slices_breakPatternsOrdered_123 a_0 x_1 x_2 = some r) : Run Try.prog 123 #[Value.slice A_0 n_0 c_0, Value.int .i64 x_1, Value.int .i64 x_2] h (slices_breakPatternsOrdered_123.post W A_0 n_0 c_0 h m r) := by
  unfold slices_breakPatternsOrdered_123 at e
  subst ne_0
  refine f123.run ?_
  unfold f123.runT
  refine split_dec_e e (fun c14 e => ?_) (fun c14 e => ?_)
  · refine O.new fun h1 x2 O3 => ?_
    refine O3.st0 1 rfl (Nat.le_of_ble_eq_true rfl) trivial fun h5 O6 => ?_
    obtain ⟨y7, g8, e⟩ := bind_e e
    refine (slices_nextPowerOfTwo.walk (Hold.start (W := No) O6.s)  g8).mono ?_
    rintro _ h9 ⟨m10, Q11, rfl⟩
    have O13 := Hold.nm (O6.retC Q11 vfs_nil)
    refine ⟨_, rfl, ?_⟩
    refine ⟨by decide, ?_⟩
    exact slices_breakPatternsOrdered_123.l0.walk (O13.pick [0, 1]).nm rfl rfl e
  · cases e
    exact ⟨_, O.pick [0], rfl, rfl⟩
def slices_order2Ordered_184.post (W : Nat → Prop) (bkio3 : Nat) (h0 m0 : Heap) (r : Int × Int × Int) (v : Value) (h : Heap) : Prop := ∃ m csio3, Hold W h0 m0 h m [rV bkio3 3 csio3] ∧ v = .tuple #[.int .i64 r.1, .int .i64 r.2.1] ∧ (eInt .i64) m r.2.2 csio3
noncomputable def slices_order2Ordered_184 (a_0 : List Int) (x_1 : Int) (x_2 : Int) (y_3 : Int) : Option (Int × Int × Int) :=
  Option.bind (gi a_0 x_2) fun y1 => Option.bind (gi a_0 x_1) fun y8 => Option.bind (cmp_Less_127 y1 y8) fun y15 => if y15 = true then (some (x_2, x_1, (IntKind.wrap .i64 (y_3 + (1 : Int))))) else (some (x_1, x_2, y_3))
set_option maxRecDepth 100000 in
theorem slices_order2Ordered_184.walk {W : Nat → Prop} {h m : Heap} {A_0 : Option Addr} {n_0 c_0 : Nat} {bkio3 : Nat} {cs_3 : List Value} {a_0 : List Int} {x_1 : Int} {x_2 : Int} {y_3 : Int} (O : Hold W h m h m [rV bkio3 3 cs_3]) (ne_0 : n_0 = List.length a_0) (k_0 : List.length a_0 ≤ c_0) (r_0 : Rd 1 (eInt .i64) m A_0 a_0) (e_3 : (eInt .i64) m y_3 cs_3) {r : Int × Int × Int} (e : slices_order2Ordered_184 a_0 x_1 x_2 y_3 = some r) : Run Try.prog 184 #[Value.slice A_0 n_0 c_0, Value.int .i64 x_1, Value.int .i64 x_2, Value.pointer (some ⟨bkio3, 0, none⟩)] h (slices_order2Ordered_184.post W bkio3 h m r) := by
  unfold slices_order2Ordered_184 at e
  subst ne_0
  obtain rfl : cs_3 = [(Value.int .i64 y_3)] := e_3
  refine f184.run ?_
  unfold f184.runT
  obtain ⟨y1, g2, e⟩ := bind_e e
  refine r_0.addr rfl g2 fun a3 cs4 ha5 hc6 he7 => ?_
  obtain rfl : cs4 = [(Value.int .i64 y1)] := he7
  obtain ⟨y8, g9, e⟩ := bind_e e
  refine r_0.addr rfl g9 fun a10 cs11 ha12 hc13 he14 => ?_
  obtain rfl : cs11 = [(Value.int .i64 y8)] := he14
  refine ⟨_, ld0 O.s hc6 rfl, _, rfl, ?_⟩
  refine ⟨_, ld0 O.s hc13 rfl, _, rfl, ?_⟩
  obtain ⟨y15, g16, e⟩ := bind_e e
  refine (cmp_Less_127.walk (Hold.start (W := No) O.s)  g16).mono ?_
  rintro _ h17 ⟨m18, Q19, rfl⟩
  have O21 := Hold.nm (O.retC Q19 vfs_nil)
  refine ⟨_, rfl, ?_⟩
  refine split_any_e e (fun c25 e => ?_) (fun c25 e => ?_)
  · refine ⟨_, ld0 (Sub.refl _) (O21.all 0 rfl) rfl, _, rfl, ?_⟩
    refine O21.st0 0 rfl (Nat.le_of_ble_eq_true rfl) trivial fun h22 O23 => ?_
    have O24 := O23.nm
    cases e
    exact ⟨_, _, O24.pick [0], rfl, rfl⟩
  · cases e
    exact ⟨_, _, O21.pick [0], rfl, rfl⟩
def slices_medianOrdered_159.post (W : Nat → Prop) (bkio4 : Nat) (h0 m0 : Heap) (r : Int × Int) (v : Value) (h : Heap) : Prop := ∃ m csio4, Hold W h0 m0 h m [rV bkio4 3 csio4] ∧ v = .int .i64 r.1 ∧ (eInt .i64) m r.2 csio4
noncomputable def slices_medianOrdered_159 (a_0 : List Int) (x_1 : Int) (x_2 : Int) (x_3 : Int) (y_4 : Int) : Option (Int × Int) :=
  Option.bind (slices_order2Ordered_184 a_0 x_1 x_2 y_4) fun y1 => Option.bind (slices_order2Ordered_184 a_0 y1.2.1 x_3 y1.2.2) fun y15 => Option.bind (slices_order2Ordered_184 a_0 y1.1 y15.1 y15.2.2) fun y29 => some (y29.2.1, y29.2.2)
set_option maxRecDepth 100000 in
theorem slices_medianOrdered_159.walk {W : Nat → Prop} {h m : Heap} {A_0 : Option Addr} {n_0 c_0 : Nat} {bkio4 : Nat} {cs_4 : List Value} {a_0 : List Int} {x_1 : Int} {x_2 : Int} {x_3 : Int} {y_4 : Int} (O : Hold W h m h m [rV bkio4 3 cs_4]) (ne_0 : n_0 = List.length a_0) (k_0 : List.length a_0 ≤ c_0) (r_0 : Rd 1 (eInt .i64) m A_0 a_0) (e_4 : (eInt .i64) m y_4 cs_4) {r : Int × Int} (e : slices_medianOrdered_159 a_0 x_1 x_2 x_3 y_4 = some r) : Run Try.prog 159 #[Value.slice A_0 n_0 c_0, Value.int .i64 x_1, Value.int .i64 x_2, Value.int .i64 x_3, Value.pointer (some ⟨bkio4, 0, none⟩)] h (slices_medianOrdered_159.post W bkio4 h m r) := by
  unfold slices_medianOrdered_159 at e
  subst ne_0
  obtain rfl : cs_4 = [(Value.int .i64 y_4)] := e_4
  refine f159.run ?_
  unfold f159.runT
  obtain ⟨y1, g2, e⟩ := bind_e e
  obtain ⟨W7, P8, B9, C10⟩ := O.callC [0]
  refine (slices_order2Ordered_184.walk P8 rfl k_0 r_0 rfl g2).mono ?_
  rintro _ h3 ⟨m4, cs12, Q5, rfl, he13⟩
  have O14 := Hold.nm (C10 Q5 (vfs_cons rV_vf vfs_nil))
  obtain rfl : cs12 = [(Value.int .i64 y1.2.2)] := he13
  refine ⟨_, _, rfl, ?_⟩
  obtain ⟨y15, g16, e⟩ := bind_e e
  obtain ⟨W21, P22, B23, C24⟩ := O14.callC [1]
  refine (slices_order2Ordered_184.walk P22 rfl k_0 r_0 rfl g16).mono ?_
  rintro _ h17 ⟨m18, cs26, Q19, rfl, he27⟩
  have O28 := Hold.nm (C24 Q19 (vfs_cons rV_vf vfs_nil))
  obtain rfl : cs26 = [(Value.int .i64 y15.2.2)] := he27
  refine ⟨_, _, rfl, ?_⟩
  obtain ⟨y29, g30, e⟩ := bind_e e
  obtain ⟨W35, P36, B37, C38⟩ := O28.callC [2]
  refine (slices_order2Ordered_184.walk P36 rfl k_0 r_0 rfl g30).mono ?_
  rintro _ h31 ⟨m32, cs40, Q33, rfl, he41⟩
  have O42 := Hold.nm (C38 Q33 (vfs_cons rV_vf vfs_nil))
  obtain rfl : cs40 = [(Value.int .i64 y29.2.2)] := he41
  refine ⟨_, _, rfl, ?_⟩
  cases e
  exact ⟨_, _, O42.pick [3], rfl, rfl⟩
def slices_medianAdjacentOrdered_158.post (W : Nat → Prop) (bkio2 : Nat) (h0 m0 : Heap) (r : Int × Int) (v : Value) (h : Heap) : Prop := ∃ m csio2, Hold W h0 m0 h m [rV bkio2 3 csio2] ∧ v = .int .i64 r.1 ∧ (eInt .i64) m r.2 csio2
noncomputable def slices_medianAdjacentOrdered_158 (a_0 : List Int) (x_1 : Int) (y_2 : Int) : Option (Int × Int) :=
  Option.bind (slices_medianOrdered_159 a_0 (IntKind.wrap .i64 (x_1 - (1 : Int))) x_1 (IntKind.wrap .i64 (x_1 + (1 : Int))) y_2) fun y1 => some (y1.1, y1.2)
set_option maxRecDepth 100000 in
theorem slices_medianAdjacentOrdered_158.walk {W : Nat → Prop} {h m : Heap} {A_0 : Option Addr} {n_0 c_0 : Nat} {bkio2 : Nat} {cs_2 : List Value} {a_0 : List Int} {x_1 : Int} {y_2 : Int} (O : Hold W h m h m [rV bkio2 3 cs_2]) (ne_0 : n_0 = List.length a_0) (k_0 : List.length a_0 ≤ c_0) (r_0 : Rd 1 (eInt .i64) m A_0 a_0) (e_2 : (eInt .i64) m y_2 cs_2) {r : Int × Int} (e : slices_medianAdjacentOrdered_158 a_0 x_1 y_2 = some r) : Run Try.prog 158 #[Value.slice A_0 n_0 c_0, Value.int .i64 x_1, Value.pointer (some ⟨bkio2, 0, none⟩)] h (slices_medianAdjacentOrdered_158.post W bkio2 h m r) := by
  unfold slices_medianAdjacentOrdered_158 at e
  subst ne_0
  obtain rfl : cs_2 = [(Value.int .i64 y_2)] := e_2
  refine f158.run ?_
  unfold f158.runT
  obtain ⟨y1, g2, e⟩ := bind_e e
  obtain ⟨W7, P8, B9, C10⟩ := O.callC [0]
  refine (slices_medianOrdered_159.walk P8 rfl k_0 r_0 rfl g2).mono ?_
  rintro _ h3 ⟨m4, cs12, Q5, rfl, he13⟩
  have O14 := Hold.nm (C10 Q5 (vfs_cons rV_vf vfs_nil))
  obtain rfl : cs12 = [(Value.int .i64 y1.2)] := he13
  refine ⟨_, rfl, ?_⟩
  cases e
  exact ⟨_, _, O14.pick [1], rfl, rfl⟩
def slices_choosePivotOrdered_124.post (W : Nat → Prop) (h0 m0 : Heap) (r : Int × Int) (v : Value) (h : Heap) : Prop := ∃ m , Hold W h0 m0 h m [] ∧ v = .tuple #[.int .i64 r.1, .int .i64 r.2]
noncomputable def slices_choosePivotOrdered_124.j0 (y_9 : Int) (x_11 : Int) : Option (Int × Int) :=
  if y_9 = (0 : Int) then (some (x_11, (1 : Int))) else (if y_9 = (12 : Int) then (some (x_11, (2 : Int))) else (some (x_11, (0 : Int))))
set_option maxRecDepth 100000 in
theorem slices_choosePivotOrdered_124.j0.walk {W : Nat → Prop} {h0 m0 h m : Heap} {bk_9 : Nat} {cs_9 : List Value} {y_9 : Int} {x_11 : Int} (O : Hold W h0 m0 h m [rV bk_9 3 cs_9]) (e_9 : (eInt .i64) m y_9 cs_9) {r : Int × Int} (e : slices_choosePivotOrdered_124.j0 y_9 x_11 = some r) : f124.j0 (slices_choosePivotOrdered_124.post W h0 m0 r) (⟨bk_9, 0, none⟩ : Addr) x_11 h := by
  unfold slices_choosePivotOrdered_124.j0 at e
  obtain rfl : cs_9 = [(Value.int .i64 y_9)] := e_9
  refine f124.j0_in ?_
  unfold f124.j0T
  refine ⟨_, ld0 (Sub.refl _) (O.all 0 rfl) rfl, _, rfl, ?_⟩
  refine split_eq_e e (fun c2 e => ?_) (fun c2 e => ?_)
  · cases e
    exact ⟨_, O.pick [], rfl⟩
  · refine split_eq_e e (fun c1 e => ?_) (fun c1 e => ?_)
    · cases e
      exact ⟨_, O.pick [], rfl⟩
    · cases e
      exact ⟨_, O.pick [], rfl⟩
noncomputable def slices_choosePivotOrdered_124.j1 (a_0 : List Int) (y_9 : Int) (x_10 : Int) (x_11 : Int) (x_12 : Int) : Option (Int × Int) :=
  Option.bind (slices_medianOrdered_159 a_0 x_10 x_11 x_12 y_9) fun y1 => (slices_choosePivotOrdered_124.j0 y1.2 y1.1)
set_option maxRecDepth 100000 in
theorem slices_choosePivotOrdered_124.j1.walk {W : Nat → Prop} {h0 m0 h m : Heap} {A_0 : Option Addr} {n_0 c_0 : Nat} {bk_9 : Nat} {cs_9 : List Value} {a_0 : List Int} {y_9 : Int} {x_10 : Int} {x_11 : Int} {x_12 : Int} (O : Hold W h0 m0 h m [rV bk_9 3 cs_9]) (ne_0 : n_0 = List.length a_0) (k_0 : List.length a_0 ≤ c_0) (r_0 : Rd 1 (eInt .i64) m A_0 a_0) (e_9 : (eInt .i64) m y_9 cs_9) {r : Int × Int} (e : slices_choosePivotOrdered_124.j1 a_0 y_9 x_10 x_11 x_12 = some r) : f124.j1 (slices_choosePivotOrdered_124.post W h0 m0 r) A_0 n_0 c_0 (⟨bk_9, 0, none⟩ : Addr) x_10 x_11 x_12 h := by
  unfold slices_choosePivotOrdered_124.j1 at e
  subst ne_0
  obtain rfl : cs_9 = [(Value.int .i64 y_9)] := e_9
  refine f124.j1_in ?_
  unfold f124.j1T
  obtain ⟨y1, g2, e⟩ := bind_e e
  obtain ⟨W7, P8, B9, C10⟩ := O.callC [0]
  refine (slices_medianOrdered_159.walk P8 rfl k_0 r_0 rfl g2).mono ?_
  rintro _ h3 ⟨m4, cs12, Q5, rfl, he13⟩
  have O14 := Hold.nm (C10 Q5 (vfs_cons rV_vf vfs_nil))
  obtain rfl : cs12 = [(Value.int .i64 y1.2)] := he13
  refine ⟨_, rfl, ?_⟩
  exact slices_choosePivotOrdered_124.j0.walk (O14.pick [1]).nm rfl e
noncomputable def slices_choosePivotOrdered_124 (a_0 : List Int) (x_1 : Int) (x_2 : Int) : Option (Int × Int) :=
  if (IntKind.wrap .i64 (x_2 - x_1)) ≥ (8 : Int) then (if (IntKind.wrap .i64 (x_2 - x_1)) ≥ (50 : Int) then (Option.bind (slices_medianAdjacentOrdered_158 a_0 (IntKind.wrap .i64 (x_1 + (IntKind.wrap .i64 ((IntKind.wrap .i64 (Int.tdiv (IntKind.wrap .i64 (x_2 - x_1)) (4 : Int))) * (1 : Int))))) (0 : Int)) fun y5 => Option.bind (slices_medianAdjacentOrdered_158 a_0 (IntKind.wrap .i64 (x_1 + (IntKind.wrap .i64 ((IntKind.wrap .i64 (Int.tdiv (IntKind.wrap .i64 (x_2 - x_1)) (4 : Int))) * (2 : Int))))) y5.2) fun y20 => Option.bind (slices_medianAdjacentOrdered_158 a_0 (IntKind.wrap .i64 (x_1 + (IntKind.wrap .i64 ((IntKind.wrap .i64 (Int.tdiv (IntKind.wrap .i64 (x_2 - x_1)) (4 : Int))) * (3 : Int))))) y20.2) fun y34 => (slices_choosePivotOrdered_124.j1 a_0 y34.2 y5.1 y20.1 y34.1)) else ((slices_choosePivotOrdered_124.j1 a_0 (0 : Int) (IntKind.wrap .i64 (x_1 + (IntKind.wrap .i64 ((IntKind.wrap .i64 (Int.tdiv (IntKind.wrap .i64 (x_2 - x_1)) (4 : Int))) * (1 : Int))))) (IntKind.wrap .i64 (x_1 + (IntKind.wrap .i64 ((IntKind.wrap .i64 (Int.tdiv (IntKind.wrap .i64 (x_2 - x_1)) (4 : Int))) * (2 : Int))))) (IntKind.wrap .i64 (x_1 + (IntKind.wrap .i64 ((IntKind.wrap .i64 (Int.tdiv (IntKind.wrap .i64 (x_2 - x_1)) (4 : Int))) * (3 : Int)))))))) else ((slices_choosePivotOrdered_124.j0 (0 : Int) (IntKind.wrap .i64 (x_1 + (IntKind.wrap .i64 ((IntKind.wrap .i64 (Int.tdiv (IntKind.wrap .i64 (x_2 - x_1)) (4 : Int))) * (2 : Int)))))))
set_option maxHeartbeats 4000000 in
set_option maxRecDepth 100000 in
theorem slices_choosePivotOrdered_124.walk {W : Nat → Prop} {h m : Heap} {A_0 : Option Addr} {n_0 c_0 : Nat} {a_0 : List Int} {x_1 : Int} {x_2 : Int} (O : Hold W h m h m []) (ne_0 : n_0 = List.length a_0) (k_0 : List.length a_0 ≤ c_0) (r_0 : Rd 1 (eInt .i64) m A_0 a_0) {r : Int × Int} (e : slices_choosePivotOrdered_124 a_0 x_1 x_2 = some r) : Run Try.prog 124 #[Value.slice A_0 n_0 c_0, Value.int .i64 x_1, Value.int .i64 x_2] h (slices_choosePivotOrdered_124.post W h m r) := by
  unfold slices_choosePivotOrdered_124 at e
  subst ne_0
  refine f124.run ?_
  unfold f124.runT
  refine O.new fun h1 x2 O3 => ?_
  refine ⟨by decide, ?_⟩
  refine ⟨by decide, ?_⟩
  refine ⟨by decide, ?_⟩
  refine split_dec_e e (fun c51 e => ?_) (fun c51 e => ?_)
  · refine split_dec_e e (fun c49 e => ?_) (fun c49 e => ?_)
    · obtain ⟨y5, g6, e⟩ := bind_e e
      have O11 := O3.nm
      obtain ⟨W12, P13, B14, C15⟩ := O11.callC [0]
      refine (slices_medianAdjacentOrdered_158.walk P13 rfl k_0 r_0 rfl g6).mono ?_
      rintro _ h7 ⟨m8, cs17, Q9, rfl, he18⟩
      have O19 := Hold.nm (C15 Q9 (vfs_cons rV_vf vfs_nil))
      obtain rfl : cs17 = [(Value.int .i64 y5.2)] := he18
      refine ⟨_, rfl, ?_⟩
      obtain ⟨y20, g21, e⟩ := bind_e e
      obtain ⟨W26, P27, B28, C29⟩ := O19.callC [1]
      refine (slices_medianAdjacentOrdered_158.walk P27 rfl k_0 r_0 rfl g21).mono ?_
      rintro _ h22 ⟨m23, cs31, Q24, rfl, he32⟩
      have O33 := Hold.nm (C29 Q24 (vfs_cons rV_vf vfs_nil))
      obtain rfl : cs31 = [(Value.int .i64 y20.2)] := he32
      refine ⟨_, rfl, ?_⟩
      obtain ⟨y34, g35, e⟩ := bind_e e
      obtain ⟨W40, P41, B42, C43⟩ := O33.callC [2]
      refine (slices_medianAdjacentOrdered_158.walk P41 rfl k_0 r_0 rfl g35).mono ?_
      rintro _ h36 ⟨m37, cs45, Q38, rfl, he46⟩
      have O47 := Hold.nm (C43 Q38 (vfs_cons rV_vf vfs_nil))
      obtain rfl : cs45 = [(Value.int .i64 y34.2)] := he46
      refine ⟨_, rfl, ?_⟩
      exact slices_choosePivotOrdered_124.j1.walk (O47.pick [3]).nm rfl k_0 r_0 rfl e
    · have O48 := O3.nm
      exact slices_choosePivotOrdered_124.j1.walk (O48.pick [0]).nm rfl k_0 r_0 rfl e
  · have O50 := O3.nm
    exact slices_choosePivotOrdered_124.j0.walk (O50.pick [0]).nm rfl e
def slices_reverseRangeOrdered_125.post (W : Nat → Prop) (Asl0 : Option Addr) (nsl0 csl0 : Nat) (h0 m0 : Heap) (r : (List Int)) (v : Value) (h : Heap) : Prop := ∃ m , Hold W h0 m0 h m [rR (aE (tell_int .i64)) Asl0 csl0 r] ∧ v = .tuple #[] ∧ nsl0 = List.length r
inductive slices_reverseRangeOrdered_125.l0_k.Pt where
  | l0 (a_0 : List Int) (x_6 : Int) (x_7 : Int)
noncomputable def slices_reverseRangeOrdered_125.l0_k.body (go : (p : slices_reverseRangeOrdered_125.l0_k.Pt) → Option ((List Int))) : (p : slices_reverseRangeOrdered_125.l0_k.Pt) → Option ((List Int))
  | .l0 a_0 x_6 x_7 => if x_6 < x_7 then (Option.bind (gi a_0 x_7) fun y1 => Option.bind (gi a_0 x_6) fun y8 => Option.bind (gi a_0 x_6) fun y15 => Option.bind (some (List.set a_0 (Int.toNat x_6) y1)) fun l24 => Option.bind (gi l24 x_7) fun y26 => Option.bind (some (List.set l24 (Int.toNat x_7) y8)) fun l35 => (go (.l0 l35 (IntKind.wrap .i64 (x_6 + (1 : Int))) (IntKind.wrap .i64 (x_7 - (1 : Int)))))) else (some (a_0))
theorem slices_reverseRangeOrdered_125.l0_k.mono : MonoF (β := fun _ => ((List Int))) slices_reverseRangeOrdered_125.l0_k.body := fun f g hfg p => match p with
  | .l0 a_0 x_6 x_7 => LeO.ite (LeO.bind (LeO.refl _) fun y1 => LeO.bind (LeO.refl _) fun y8 => LeO.bind (LeO.refl _) fun y15 => LeO.bind (LeO.refl _) fun l24 => LeO.bind (LeO.refl _) fun y26 => LeO.bind (LeO.refl _) fun l35 => (hfg _)) (LeO.refl _)
noncomputable def slices_reverseRangeOrdered_125.l0_k.go (p : slices_reverseRangeOrdered_125.l0_k.Pt) : Option ((List Int)) := fixF (β := fun _ => ((List Int))) slices_reverseRangeOrdered_125.l0_k.body p
noncomputable def slices_reverseRangeOrdered_125.l0 (a_0 : List Int) (x_6 : Int) (x_7 : Int) : Option ((List Int)) := slices_reverseRangeOrdered_125.l0_k.go (.l0 a_0 x_6 x_7)
theorem slices_reverseRangeOrdered_125.l0_eq (a_0 : List Int) (x_6 : Int) (x_7 : Int) : slices_reverseRangeOrdered_125.l0 a_0 x_6 x_7 = if x_6 < x_7 then (Option.bind (gi a_0 x_7) fun y1 => Option.bind (gi a_0 x_6) fun y8 => Option.bind (gi a_0 x_6) fun y15 => Option.bind (some (List.set a_0 (Int.toNat x_6) y1)) fun l24 => Option.bind (gi l24 x_7) fun y26 => Option.bind (some (List.set l24 (Int.toNat x_7) y8)) fun l35 => (slices_reverseRangeOrdered_125.l0 l35 (IntKind.wrap .i64 (x_6 + (1 : Int))) (IntKind.wrap .i64 (x_7 - (1 : Int))))) else (some (a_0)) := fixF_eq slices_reverseRangeOrdered_125.l0_k.mono _
def slices_reverseRangeOrdered_125.l0_k.I : (p : slices_reverseRangeOrdered_125.l0_k.Pt) → ((List Int)) → Prop
  | .l0 a_0 x_6 x_7, r => ∀ (W : Nat → Prop) (h0 m0 h m : Heap) (A_0 : Option Addr) (n_0 c_0 : Nat) (O : Hold W h0 m0 h m [rR (aE (tell_int .i64)) A_0 c_0 a_0]) (ne_0 : n_0 = List.length a_0), f125.l0 (slices_reverseRangeOrdered_125.post W A_0 n_0 c_0 h0 m0 r) A_0 n_0 c_0 x_6 x_7 h
set_option maxRecDepth 100000 in
theorem slices_reverseRangeOrdered_125.l0_k.step_l0 (go : (p : slices_reverseRangeOrdered_125.l0_k.Pt) → Option ((List Int))) (ih : ∀ p r, go p = some r → slices_reverseRangeOrdered_125.l0_k.I p r) (a_0 : List Int) (x_6 : Int) (x_7 : Int) (r : (List Int)) (e : slices_reverseRangeOrdered_125.l0_k.body go (.l0 a_0 x_6 x_7) = some r) : slices_reverseRangeOrdered_125.l0_k.I (.l0 a_0 x_6 x_7) r := by
  unfold slices_reverseRangeOrdered_125.l0_k.body at e
  intro W h0 m0 h m A_0 n_0 c_0 O ne_0
  subst ne_0
  refine f125.l0_in ?_
  unfold f125.l0T
  refine split_dec_e e (fun c38 e => ?_) (fun c38 e => ?_)
  · obtain ⟨y1, g2, e⟩ := bind_e e
    refine (O.os 0 rfl).addr rfl g2 fun a3 cs4 ha5 hc6 he7 => ?_
    obtain rfl : cs4 = [(Value.int .i64 y1)] := he7
    obtain ⟨y8, g9, e⟩ := bind_e e
    refine (O.os 0 rfl).addr rfl g9 fun a10 cs11 ha12 hc13 he14 => ?_
    obtain rfl : cs11 = [(Value.int .i64 y8)] := he14
    refine ⟨_, ld0 (Sub.refl _) hc6 rfl, _, rfl, ?_⟩
    refine ⟨_, ld0 (Sub.refl _) hc13 rfl, _, rfl, ?_⟩
    obtain ⟨y15, g16, e⟩ := bind_e e
    refine (O.os 0 rfl).addr rfl g16 fun a17 cs18 ha19 hc20 he21 => ?_
    obtain rfl : cs18 = [(Value.int .i64 y15)] := he21
    obtain ⟨l24, g25, e⟩ := bind_e e
    replace g25 := Option.some.inj g25
    refine O.elst0 0 rfl g16 ha19 hc20 (by decide) (y' := y1) rfl trivial g25 fun h22 O23 => ?_
    obtain ⟨y26, g27, e⟩ := bind_e e
    refine (O23.os 0 rfl).addr (lset' g25) g27 fun a28 cs29 ha30 hc31 he32 => ?_
    obtain rfl : cs29 = [(Value.int .i64 y26)] := he32
    obtain ⟨l35, g36, e⟩ := bind_e e
    replace g36 := Option.some.inj g36
    refine O23.elst0 0 rfl g27 ha30 hc31 (by decide) (y' := y8) rfl trivial g36 fun h33 O34 => ?_
    have O37 := O34.nm
    exact (ih _ _ e) _ _ _ _ _ _ _ _ (O37.pick [0]).nm ((lset' g25).trans (lset' g36))
  · cases e
    exact ⟨_, O.pick [0], rfl, rfl⟩
theorem slices_reverseRangeOrdered_125.l0_k.all {p : slices_reverseRangeOrdered_125.l0_k.Pt} {r : ((List Int))} (e : slices_reverseRangeOrdered_125.l0_k.go p = some r) : slices_reverseRangeOrdered_125.l0_k.I p r := fixF_ind (β := fun _ => ((List Int))) slices_reverseRangeOrdered_125.l0_k.mono (I := slices_reverseRangeOrdered_125.l0_k.I) (fun go ih p r e => match p with
  | .l0 a_0 x_6 x_7 => slices_reverseRangeOrdered_125.l0_k.step_l0 go ih a_0 x_6 x_7 r e
  ) e
theorem slices_reverseRangeOrdered_125.l0.walk {W : Nat → Prop} {h0 m0 h m : Heap} {A_0 : Option Addr} {n_0 c_0 : Nat} {a_0 : List Int} {x_6 : Int} {x_7 : Int} (O : Hold W h0 m0 h m [rR (aE (tell_int .i64)) A_0 c_0 a_0]) (ne_0 : n_0 = List.length a_0) {r : (List Int)} (e : slices_reverseRangeOrdered_125.l0 a_0 x_6 x_7 = some r) : f125.l0 (slices_reverseRangeOrdered_125.post W A_0 n_0 c_0 h0 m0 r) A_0 n_0 c_0 x_6 x_7 h := slices_reverseRangeOrdered_125.l0_k.all (p := .l0 a_0 x_6 x_7) e W h0 m0 h m A_0 n_0 c_0 O ne_0
noncomputable def slices_reverseRangeOrdered_125 (a_0 : List Int) (x_1 : Int) (x_2 : Int) : Option ((List Int)) :=
  (slices_reverseRangeOrdered_125.l0 a_0 x_1 (IntKind.wrap .i64 (x_2 - (1 : Int))))
set_option maxRecDepth 100000 in
theorem slices_reverseRangeOrdered_125.walk {W : Nat → Prop} {h m : Heap} {A_0 : Option Addr} {n_0 c_0 : Nat} {a_0 : List Int} {x_1 : Int} {x_2 : Int} (O : Hold W h m h m [rR (aE (tell_int .i64)) A_0 c_0 a_0]) (ne_0 : n_0 = List.length a_0) {r : (List Int)} (e : slices_reverseRangeOrdered_125 a_0 x_1 x_2 = some r) : Run Try.prog 125 #[Value.slice A_0 n_0 c_0, Value.int .i64 x_1, Value.int .i64 x_2] h (slices_reverseRangeOrdered_125.post W A_0 n_0 c_0 h m r) := by
  unfold slices_reverseRangeOrdered_125 at e
  subst ne_0
  refine f125.run ?_
  unfold f125.runT
  exact slices_reverseRangeOrdered_125.l0.walk (O.pick [0]).nm rfl e
def slices_partialInsertionSortOrdered_126.post (W : Nat → Prop) (Asl0 : Option Addr) (nsl0 csl0 : Nat) (h0 m0 : Heap) (r : Bool × (List Int)) (v : Value) (h : Heap) : Prop := ∃ m , Hold W h0 m0 h m [rR (aE (tell_int .i64)) Asl0 csl0 r.2] ∧ v = .bool r.1 ∧ nsl0 = List.length r.2
inductive slices_partialInsertionSortOrdered_126.l0_k.Pt where
  | l0 (a_0 : List Int) (x_1 : Int) (x_2 : Int) (x_7 : Int) (x_8 : Int)
  | l1 (a_0 : List Int) (x_1 : Int) (x_2 : Int) (x_7 : Int) (x_8 : Int)
  | j2 (a_0 : List Int) (x_1 : Int) (x_2 : Int) (x_7 : Int) (x_8 : Int)
  | j1 (a_0 : List Int) (x_1 : Int) (x_2 : Int) (x_7 : Int) (x_8 : Int)
  | l2 (a_0 : List Int) (x_1 : Int) (x_2 : Int) (x_7 : Int) (x_8 : Int) (x_9 : Int)
  | j3 (a_0 : List Int) (x_1 : Int) (x_2 : Int) (x_7 : Int) (x_8 : Int)
  | l3 (a_0 : List Int) (x_1 : Int) (x_2 : Int) (x_7 : Int) (x_8 : Int) (x_10 : Int)
  | j0 (a_0 : List Int) (x_1 : Int) (x_2 : Int) (x_7 : Int) (x_8 : Int)
noncomputable def slices_partialInsertionSortOrdered_126.l0_k.body (go : (p : slices_partialInsertionSortOrdered_126.l0_k.Pt) → Option (Bool × (List Int))) : (p : slices_partialInsertionSortOrdered_126.l0_k.Pt) → Option (Bool × (List Int))
  | .l0 a_0 x_1 x_2 x_7 x_8 => if x_8 < (5 : Int) then ((go (.l1 a_0 x_1 x_2 x_7 x_8))) else (some (false, a_0))
  | .l1 a_0 x_1 x_2 x_7 x_8 => if x_7 < x_2 then (Option.bind (gi a_0 x_7) fun y1 => Option.bind (gi a_0 (IntKind.wrap .i64 (x_7 - (1 : Int)))) fun y8 => Option.bind (cmp_Less_127 y1 y8) fun y15 => if y15 = true then ((go (.j1 a_0 x_1 x_2 x_7 x_8))) else ((go (.j2 a_0 x_1 x_2 x_7 x_8)))) else ((go (.j1 a_0 x_1 x_2 x_7 x_8)))
  | .j2 a_0 x_1 x_2 x_7 x_8 => (go (.l1 a_0 x_1 x_2 (IntKind.wrap .i64 (x_7 + (1 : Int))) x_8))
  | .j1 a_0 x_1 x_2 x_7 x_8 => if x_7 = x_2 then (some (true, a_0)) else (if (IntKind.wrap .i64 (x_2 - x_1)) < (50 : Int) then (some (false, a_0)) else (Option.bind (gi a_0 (IntKind.wrap .i64 (x_7 - (1 : Int)))) fun y1 => Option.bind (gi a_0 x_7) fun y8 => Option.bind (gi a_0 x_7) fun y15 => Option.bind (some (List.set a_0 (Int.toNat x_7) y1)) fun l24 => Option.bind (gi l24 (IntKind.wrap .i64 (x_7 - (1 : Int)))) fun y26 => Option.bind (some (List.set l24 (Int.toNat (IntKind.wrap .i64 (x_7 - (1 : Int)))) y8)) fun l35 => if (IntKind.wrap .i64 (x_7 - x_1)) ≥ (2 : Int) then ((go (.l2 l35 x_1 x_2 x_7 x_8 (IntKind.wrap .i64 (x_7 - (1 : Int)))))) else ((go (.j3 l35 x_1 x_2 x_7 x_8)))))
  | .l2 a_0 x_1 x_2 x_7 x_8 x_9 => if x_9 ≥ (1 : Int) then (Option.bind (gi a_0 x_9) fun y1 => Option.bind (gi a_0 (IntKind.wrap .i64 (x_9 - (1 : Int)))) fun y8 => Option.bind (cmp_Less_127 y1 y8) fun y15 => if y15 = true then (Option.bind (gi a_0 (IntKind.wrap .i64 (x_9 - (1 : Int)))) fun y22 => Option.bind (gi a_0 x_9) fun y29 => Option.bind (gi a_0 x_9) fun y36 => Option.bind (some (List.set a_0 (Int.toNat x_9) y22)) fun l45 => Option.bind (gi l45 (IntKind.wrap .i64 (x_9 - (1 : Int)))) fun y47 => Option.bind (some (List.set l45 (Int.toNat (IntKind.wrap .i64 (x_9 - (1 : Int)))) y29)) fun l56 => (go (.l2 l56 x_1 x_2 x_7 x_8 (IntKind.wrap .i64 (x_9 - (1 : Int)))))) else ((go (.j3 a_0 x_1 x_2 x_7 x_8)))) else ((go (.j3 a_0 x_1 x_2 x_7 x_8)))
  | .j3 a_0 x_1 x_2 x_7 x_8 => if (IntKind.wrap .i64 (x_2 - x_7)) ≥ (2 : Int) then ((go (.l3 a_0 x_1 x_2 x_7 x_8 (IntKind.wrap .i64 (x_7 + (1 : Int)))))) else ((go (.j0 a_0 x_1 x_2 x_7 x_8)))
  | .l3 a_0 x_1 x_2 x_7 x_8 x_10 => if x_10 < x_2 then (Option.bind (gi a_0 x_10) fun y1 => Option.bind (gi a_0 (IntKind.wrap .i64 (x_10 - (1 : Int)))) fun y8 => Option.bind (cmp_Less_127 y1 y8) fun y15 => if y15 = true then (Option.bind (gi a_0 (IntKind.wrap .i64 (x_10 - (1 : Int)))) fun y22 => Option.bind (gi a_0 x_10) fun y29 => Option.bind (gi a_0 x_10) fun y36 => Option.bind (some (List.set a_0 (Int.toNat x_10) y22)) fun l45 => Option.bind (gi l45 (IntKind.wrap .i64 (x_10 - (1 : Int)))) fun y47 => Option.bind (some (List.set l45 (Int.toNat (IntKind.wrap .i64 (x_10 - (1 : Int)))) y29)) fun l56 => (go (.l3 l56 x_1 x_2 x_7 x_8 (IntKind.wrap .i64 (x_10 + (1 : Int)))))) else ((go (.j0 a_0 x_1 x_2 x_7 x_8)))) else ((go (.j0 a_0 x_1 x_2 x_7 x_8)))
  | .j0 a_0 x_1 x_2 x_7 x_8 => (go (.l0 a_0 x_1 x_2 x_7 (IntKind.wrap .i64 (x_8 + (1 : Int)))))
attribute [local irreducible] cmp_Less_127 in
theorem slices_partialInsertionSortOrdered_126.l0_k.mono : MonoF (β := fun _ => (Bool × (List Int))) slices_partialInsertionSortOrdered_126.l0_k.body := fun f g hfg p => match p with
  | .l0 a_0 x_1 x_2 x_7 x_8 => LeO.ite ((hfg _)) (LeO.refl _)
  | .l1 a_0 x_1 x_2 x_7 x_8 => LeO.ite (LeO.bind (LeO.refl _) fun y1 => LeO.bind (LeO.refl _) fun y8 => LeO.bind (LeO.refl _) fun y15 => LeO.ite ((hfg _)) ((hfg _))) ((hfg _))
  | .j2 a_0 x_1 x_2 x_7 x_8 => (hfg _)
  | .j1 a_0 x_1 x_2 x_7 x_8 => LeO.ite (LeO.refl _) (LeO.ite (LeO.refl _) (LeO.bind (LeO.refl _) fun y1 => LeO.bind (LeO.refl _) fun y8 => LeO.bind (LeO.refl _) fun y15 => LeO.bind (LeO.refl _) fun l24 => LeO.bind (LeO.refl _) fun y26 => LeO.bind (LeO.refl _) fun l35 => LeO.ite ((hfg _)) ((hfg _))))
  | .l2 a_0 x_1 x_2 x_7 x_8 x_9 => LeO.ite (LeO.bind (LeO.refl _) fun y1 => LeO.bind (LeO.refl _) fun y8 => LeO.bind (LeO.refl _) fun y15 => LeO.ite (LeO.bind (LeO.refl _) fun y22 => LeO.bind (LeO.refl _) fun y29 => LeO.bind (LeO.refl _) fun y36 => LeO.bind (LeO.refl _) fun l45 => LeO.bind (LeO.refl _) fun y47 => LeO.bind (LeO.refl _) fun l56 => (hfg _)) ((hfg _))) ((hfg _))
  | .j3 a_0 x_1 x_2 x_7 x_8 => LeO.ite ((hfg _)) ((hfg _))
  | .l3 a_0 x_1 x_2 x_7 x_8 x_10 => LeO.ite (LeO.bind (LeO.refl _) fun y1 => LeO.bind (LeO.refl _) fun y8 => LeO.bind (LeO.refl _) fun y15 => LeO.ite (LeO.bind (LeO.refl _) fun y22 => LeO.bind (LeO.refl _) fun y29 => LeO.bind (LeO.refl _) fun y36 => LeO.bind (LeO.refl _) fun l45 => LeO.bind (LeO.refl _) fun y47 => LeO.bind (LeO.refl _) fun l56 => (hfg _)) ((hfg _))) ((hfg _))
  | .j0 a_0 x_1 x_2 x_7 x_8 => (hfg _)
noncomputable def slices_partialInsertionSortOrdered_126.l0_k.go (p : slices_partialInsertionSortOrdered_126.l0_k.Pt) : Option (Bool × (List Int)) := fixF (β := fun _ => (Bool × (List Int))) slices_partialInsertionSortOrdered_126.l0_k.body p
noncomputable def slices_partialInsertionSortOrdered_126.l0 (a_0 : List Int) (x_1 : Int) (x_2 : Int) (x_7 : Int) (x_8 : Int) : Option (Bool × (List Int)) := slices_partialInsertionSortOrdered_126.l0_k.go (.l0 a_0 x_1 x_2 x_7 x_8)
noncomputable def slices_partialInsertionSortOrdered_126.l1 (a_0 : List Int) (x_1 : Int) (x_2 : Int) (x_7 : Int) (x_8 : Int) : Option (Bool × (List Int)) := slices_partialInsertionSortOrdered_126.l0_k.go (.l1 a_0 x_1 x_2 x_7 x_8)
noncomputable def slices_partialInsertionSortOrdered_126.j2 (a_0 : List Int) (x_1 : Int) (x_2 : Int) (x_7 : Int) (x_8 : Int) : Option (Bool × (List Int)) := slices_partialInsertionSortOrdered_126.l0_k.go (.j2 a_0 x_1 x_2 x_7 x_8)
noncomputable def slices_partialInsertionSortOrdered_126.j1 (a_0 : List Int) (x_1 : Int) (x_2 : Int) (x_7 : Int) (x_8 : Int) : Option (Bool × (List Int)) := slices_partialInsertionSortOrdered_126.l0_k.go (.j1 a_0 x_1 x_2 x_7 x_8)
noncomputable def slices_partialInsertionSortOrdered_126.l2 (a_0 : List Int) (x_1 : Int) (x_2 : Int) (x_7 : Int) (x_8 : Int) (x_9 : Int) : Option (Bool × (List Int)) := slices_partialInsertionSortOrdered_126.l0_k.go (.l2 a_0 x_1 x_2 x_7 x_8 x_9)
noncomputable def slices_partialInsertionSortOrdered_126.j3 (a_0 : List Int) (x_1 : Int) (x_2 : Int) (x_7 : Int) (x_8 : Int) : Option (Bool × (List Int)) := slices_partialInsertionSortOrdered_126.l0_k.go (.j3 a_0 x_1 x_2 x_7 x_8)
noncomputable def slices_partialInsertionSortOrdered_126.l3 (a_0 : List Int) (x_1 : Int) (x_2 : Int) (x_7 : Int) (x_8 : Int) (x_10 : Int) : Option (Bool × (List Int)) := slices_partialInsertionSortOrdered_126.l0_k.go (.l3 a_0 x_1 x_2 x_7 x_8 x_10)
noncomputable def slices_partialInsertionSortOrdered_126.j0 (a_0 : List Int) (x_1 : Int) (x_2 : Int) (x_7 : Int) (x_8 : Int) : Option (Bool × (List Int)) := slices_partialInsertionSortOrdered_126.l0_k.go (.j0 a_0 x_1 x_2 x_7 x_8)
theorem slices_partialInsertionSortOrdered_126.l0_eq (a_0 : List Int) (x_1 : Int) (x_2 : Int) (x_7 : Int) (x_8 : Int) : slices_partialInsertionSortOrdered_126.l0 a_0 x_1 x_2 x_7 x_8 = if x_8 < (5 : Int) then ((slices_partialInsertionSortOrdered_126.l1 a_0 x_1 x_2 x_7 x_8)) else (some (false, a_0)) := fixF_eq slices_partialInsertionSortOrdered_126.l0_k.mono _
theorem slices_partialInsertionSortOrdered_126.l1_eq (a_0 : List Int) (x_1 : Int) (x_2 : Int) (x_7 : Int) (x_8 : Int) : slices_partialInsertionSortOrdered_126.l1 a_0 x_1 x_2 x_7 x_8 = if x_7 < x_2 then (Option.bind (gi a_0 x_7) fun y1 => Option.bind (gi a_0 (IntKind.wrap .i64 (x_7 - (1 : Int)))) fun y8 => Option.bind (cmp_Less_127 y1 y8) fun y15 => if y15 = true then ((slices_partialInsertionSortOrdered_126.j1 a_0 x_1 x_2 x_7 x_8)) else ((slices_partialInsertionSortOrdered_126.j2 a_0 x_1 x_2 x_7 x_8))) else ((slices_partialInsertionSortOrdered_126.j1 a_0 x_1 x_2 x_7 x_8)) := fixF_eq slices_partialInsertionSortOrdered_126.l0_k.mono _
theorem slices_partialInsertionSortOrdered_126.j2_eq (a_0 : List Int) (x_1 : Int) (x_2 : Int) (x_7 : Int) (x_8 : Int) : slices_partialInsertionSortOrdered_126.j2 a_0 x_1 x_2 x_7 x_8 = (slices_partialInsertionSortOrdered_126.l1 a_0 x_1 x_2 (IntKind.wrap .i64 (x_7 + (1 : Int))) x_8) := fixF_eq slices_partialInsertionSortOrdered_126.l0_k.mono _
theorem slices_partialInsertionSortOrdered_126.j1_eq (a_0 : List Int) (x_1 : Int) (x_2 : Int) (x_7 : Int) (x_8 : Int) : slices_partialInsertionSortOrdered_126.j1 a_0 x_1 x_2 x_7 x_8 = if x_7 = x_2 then (some (true, a_0)) else (if (IntKind.wrap .i64 (x_2 - x_1)) < (50 : Int) then (some (false, a_0)) else (Option.bind (gi a_0 (IntKind.wrap .i64 (x_7 - (1 : Int)))) fun y1 => Option.bind (gi a_0 x_7) fun y8 => Option.bind (gi a_0 x_7) fun y15 => Option.bind (some (List.set a_0 (Int.toNat x_7) y1)) fun l24 => Option.bind (gi l24 (IntKind.wrap .i64 (x_7 - (1 : Int)))) fun y26 => Option.bind (some (List.set l24 (Int.toNat (IntKind.wrap .i64 (x_7 - (1 : Int)))) y8)) fun l35 => if (IntKind.wrap .i64 (x_7 - x_1)) ≥ (2 : Int) then ((slices_partialInsertionSortOrdered_126.l2 l35 x_1 x_2 x_7 x_8 (IntKind.wrap .i64 (x_7 - (1 : Int))))) else ((slices_partialInsertionSortOrdered_126.j3 l35 x_1 x_2 x_7 x_8)))) := fixF_eq slices_partialInsertionSortOrdered_126.l0_k.mono _
theorem slices_partialInsertionSortOrdered_126.l2_eq (a_0 : List Int) (x_1 : Int) (x_2 : Int) (x_7 : Int) (x_8 : Int) (x_9 : Int) : slices_partialInsertionSortOrdered_126.l2 a_0 x_1 x_2 x_7 x_8 x_9 = if x_9 ≥ (1 : Int) then (Option.bind (gi a_0 x_9) fun y1 => Option.bind (gi a_0 (IntKind.wrap .i64 (x_9 - (1 : Int)))) fun y8 => Option.bind (cmp_Less_127 y1 y8) fun y15 => if y15 = true then (Option.bind (gi a_0 (IntKind.wrap .i64 (x_9 - (1 : Int)))) fun y22 => Option.bind (gi a_0 x_9) fun y29 => Option.bind (gi a_0 x_9) fun y36 => Option.bind (some (List.set a_0 (Int.toNat x_9) y22)) fun l45 => Option.bind (gi l45 (IntKind.wrap .i64 (x_9 - (1 : Int)))) fun y47 => Option.bind (some (List.set l45 (Int.toNat (IntKind.wrap .i64 (x_9 - (1 : Int)))) y29)) fun l56 => (slices_partialInsertionSortOrdered_126.l2 l56 x_1 x_2 x_7 x_8 (IntKind.wrap .i64 (x_9 - (1 : Int))))) else ((slices_partialInsertionSortOrdered_126.j3 a_0 x_1 x_2 x_7 x_8))) else ((slices_partialInsertionSortOrdered_126.j3 a_0 x_1 x_2 x_7 x_8)) := fixF_eq slices_partialInsertionSortOrdered_126.l0_k.mono _
theorem slices_partialInsertionSortOrdered_126.j3_eq (a_0 : List Int) (x_1 : Int) (x_2 : Int) (x_7 : Int) (x_8 : Int) : slices_partialInsertionSortOrdered_126.j3 a_0 x_1 x_2 x_7 x_8 = if (IntKind.wrap .i64 (x_2 - x_7)) ≥ (2 : Int) then ((slices_partialInsertionSortOrdered_126.l3 a_0 x_1 x_2 x_7 x_8 (IntKind.wrap .i64 (x_7 + (1 : Int))))) else ((slices_partialInsertionSortOrdered_126.j0 a_0 x_1 x_2 x_7 x_8)) := fixF_eq slices_partialInsertionSortOrdered_126.l0_k.mono _
theorem slices_partialInsertionSortOrdered_126.l3_eq (a_0 : List Int) (x_1 : Int) (x_2 : Int) (x_7 : Int) (x_8 : Int) (x_10 : Int) : slices_partialInsertionSortOrdered_126.l3 a_0 x_1 x_2 x_7 x_8 x_10 = if x_10 < x_2 then (Option.bind (gi a_0 x_10) fun y1 => Option.bind (gi a_0 (IntKind.wrap .i64 (x_10 - (1 : Int)))) fun y8 => Option.bind (cmp_Less_127 y1 y8) fun y15 => if y15 = true then (Option.bind (gi a_0 (IntKind.wrap .i64 (x_10 - (1 : Int)))) fun y22 => Option.bind (gi a_0 x_10) fun y29 => Option.bind (gi a_0 x_10) fun y36 => Option.bind (some (List.set a_0 (Int.toNat x_10) y22)) fun l45 => Option.bind (gi l45 (IntKind.wrap .i64 (x_10 - (1 : Int)))) fun y47 => Option.bind (some (List.set l45 (Int.toNat (IntKind.wrap .i64 (x_10 - (1 : Int)))) y29)) fun l56 => (slices_partialInsertionSortOrdered_126.l3 l56 x_1 x_2 x_7 x_8 (IntKind.wrap .i64 (x_10 + (1 : Int))))) else ((slices_partialInsertionSortOrdered_126.j0 a_0 x_1 x_2 x_7 x_8))) else ((slices_partialInsertionSortOrdered_126.j0 a_0 x_1 x_2 x_7 x_8)) := fixF_eq slices_partialInsertionSortOrdered_126.l0_k.mono _
theorem slices_partialInsertionSortOrdered_126.j0_eq (a_0 : List Int) (x_1 : Int) (x_2 : Int) (x_7 : Int) (x_8 : Int) : slices_partialInsertionSortOrdered_126.j0 a_0 x_1 x_2 x_7 x_8 = (slices_partialInsertionSortOrdered_126.l0 a_0 x_1 x_2 x_7 (IntKind.wrap .i64 (x_8 + (1 : Int)))) := fixF_eq slices_partialInsertionSortOrdered_126.l0_k.mono _
def slices_partialInsertionSortOrdered_126.l0_k.I : (p : slices_partialInsertionSortOrdered_126.l0_k.Pt) → (Bool × (List Int)) → Prop
  | .l0 a_0 x_1 x_2 x_7 x_8, r => ∀ (W : Nat → Prop) (h0 m0 h m : Heap) (A_0 : Option Addr) (n_0 c_0 : Nat) (O : Hold W h0 m0 h m [rR (aE (tell_int .i64)) A_0 c_0 a_0]) (ne_0 : n_0 = List.length a_0), f126.l0 (slices_partialInsertionSortOrdered_126.post W A_0 n_0 c_0 h0 m0 r) A_0 n_0 c_0 x_1 x_2 x_7 x_8 h
  | .l1 a_0 x_1 x_2 x_7 x_8, r => ∀ (W : Nat → Prop) (h0 m0 h m : Heap) (A_0 : Option Addr) (n_0 c_0 : Nat) (O : Hold W h0 m0 h m [rR (aE (tell_int .i64)) A_0 c_0 a_0]) (ne_0 : n_0 = List.length a_0), f126.l1 (slices_partialInsertionSortOrdered_126.post W A_0 n_0 c_0 h0 m0 r) A_0 n_0 c_0 x_1 x_2 x_7 x_8 h
  | .j2 a_0 x_1 x_2 x_7 x_8, r => ∀ (W : Nat → Prop) (h0 m0 h m : Heap) (A_0 : Option Addr) (n_0 c_0 : Nat) (O : Hold W h0 m0 h m [rR (aE (tell_int .i64)) A_0 c_0 a_0]) (ne_0 : n_0 = List.length a_0), f126.j2 (slices_partialInsertionSortOrdered_126.post W A_0 n_0 c_0 h0 m0 r) A_0 n_0 c_0 x_1 x_2 x_7 x_8 h
  | .j1 a_0 x_1 x_2 x_7 x_8, r => ∀ (W : Nat → Prop) (h0 m0 h m : Heap) (A_0 : Option Addr) (n_0 c_0 : Nat) (O : Hold W h0 m0 h m [rR (aE (tell_int .i64)) A_0 c_0 a_0]) (ne_0 : n_0 = List.length a_0), f126.j1 (slices_partialInsertionSortOrdered_126.post W A_0 n_0 c_0 h0 m0 r) A_0 n_0 c_0 x_1 x_2 x_7 x_8 h
  | .l2 a_0 x_1 x_2 x_7 x_8 x_9, r => ∀ (W : Nat → Prop) (h0 m0 h m : Heap) (A_0 : Option Addr) (n_0 c_0 : Nat) (O : Hold W h0 m0 h m [rR (aE (tell_int .i64)) A_0 c_0 a_0]) (ne_0 : n_0 = List.length a_0), f126.l2 (slices_partialInsertionSortOrdered_126.post W A_0 n_0 c_0 h0 m0 r) A_0 n_0 c_0 x_1 x_2 x_7 x_8 x_9 h
  | .j3 a_0 x_1 x_2 x_7 x_8, r => ∀ (W : Nat → Prop) (h0 m0 h m : Heap) (A_0 : Option Addr) (n_0 c_0 : Nat) (O : Hold W h0 m0 h m [rR (aE (tell_int .i64)) A_0 c_0 a_0]) (ne_0 : n_0 = List.length a_0), f126.j3 (slices_partialInsertionSortOrdered_126.post W A_0 n_0 c_0 h0 m0 r) A_0 n_0 c_0 x_1 x_2 x_7 x_8 h
  | .l3 a_0 x_1 x_2 x_7 x_8 x_10, r => ∀ (W : Nat → Prop) (h0 m0 h m : Heap) (A_0 : Option Addr) (n_0 c_0 : Nat) (O : Hold W h0 m0 h m [rR (aE (tell_int .i64)) A_0 c_0 a_0]) (ne_0 : n_0 = List.length a_0), f126.l3 (slices_partialInsertionSortOrdered_126.post W A_0 n_0 c_0 h0 m0 r) A_0 n_0 c_0 x_1 x_2 x_7 x_8 x_10 h
  | .j0 a_0 x_1 x_2 x_7 x_8, r => ∀ (W : Nat → Prop) (h0 m0 h m : Heap) (A_0 : Option Addr) (n_0 c_0 : Nat) (O : Hold W h0 m0 h m [rR (aE (tell_int .i64)) A_0 c_0 a_0]) (ne_0 : n_0 = List.length a_0), f126.j0 (slices_partialInsertionSortOrdered_126.post W A_0 n_0 c_0 h0 m0 r) A_0 n_0 c_0 x_1 x_2 x_7 x_8 h
set_option maxRecDepth 100000 in
theorem slices_partialInsertionSortOrdered_126.l0_k.step_l0 (go : (p : slices_partialInsertionSortOrdered_126.l0_k.Pt) → Option (Bool × (List Int))) (ih : ∀ p r, go p = some r → slices_partialInsertionSortOrdered_126.l0_k.I p r) (a_0 : List Int) (x_1 : Int) (x_2 : Int) (x_7 : Int) (x_8 : Int) (r : Bool × (List Int)) (e : slices_partialInsertionSortOrdered_126.l0_k.body go (.l0 a_0 x_1 x_2 x_7 x_8) = some r) : slices_partialInsertionSortOrdered_126.l0_k.I (.l0 a_0 x_1 x_2 x_7 x_8) r := by
  unfold slices_partialInsertionSortOrdered_126.l0_k.body at e
  intro W h0 m0 h m A_0 n_0 c_0 O ne_0
  subst ne_0
  refine f126.l0_in ?_
  unfold f126.l0T
  refine split_dec_e e (fun c1 e => ?_) (fun c1 e => ?_)
  · exact (ih _ _ e) _ _ _ _ _ _ _ _ (O.pick [0]).nm rfl
  · cases e
    exact ⟨_, O.pick [0], rfl, rfl⟩
set_option maxRecDepth 100000 in
theorem slices_partialInsertionSortOrdered_126.l0_k.step_l1 (go : (p : slices_partialInsertionSortOrdered_126.l0_k.Pt) → Option (Bool × (List Int))) (ih : ∀ p r, go p = some r → slices_partialInsertionSortOrdered_126.l0_k.I p r) (a_0 : List Int) (x_1 : Int) (x_2 : Int) (x_7 : Int) (x_8 : Int) (r : Bool × (List Int)) (e : slices_partialInsertionSortOrdered_126.l0_k.body go (.l1 a_0 x_1 x_2 x_7 x_8) = some r) : slices_partialInsertionSortOrdered_126.l0_k.I (.l1 a_0 x_1 x_2 x_7 x_8) r := by
  unfold slices_partialInsertionSortOrdered_126.l0_k.body at e
  intro W h0 m0 h m A_0 n_0 c_0 O ne_0
  subst ne_0
  refine f126.l1_in ?_
  unfold f126.l1T
  refine split_dec_e e (fun c23 e => ?_) (fun c23 e => ?_)
  · obtain ⟨y1, g2, e⟩ := bind_e e
    refine (O.os 0 rfl).addr rfl g2 fun a3 cs4 ha5 hc6 he7 => ?_
    obtain rfl : cs4 = [(Value.int .i64 y1)] := he7
    obtain ⟨y8, g9, e⟩ := bind_e e
    refine (O.os 0 rfl).addr rfl g9 fun a10 cs11 ha12 hc13 he14 => ?_
    obtain rfl : cs11 = [(Value.int .i64 y8)] := he14
    refine ⟨_, ld0 (Sub.refl _) hc6 rfl, _, rfl, ?_⟩
    refine ⟨_, ld0 (Sub.refl _) hc13 rfl, _, rfl, ?_⟩
    obtain ⟨y15, g16, e⟩ := bind_e e
    refine (cmp_Less_127.walk (Hold.start (W := No) O.s)  g16).mono ?_
    rintro _ h17 ⟨m18, Q19, rfl⟩
    have O21 := Hold.nm (O.retC Q19 vfs_nil)
    refine ⟨_, rfl, ?_⟩
    refine split_not ?_
    refine split_any_e e (fun c22 e => ?_) (fun c22 e => ?_)
    · exact (ih _ _ e) _ _ _ _ _ _ _ _ (O21.pick [0]).nm rfl
    · exact (ih _ _ e) _ _ _ _ _ _ _ _ (O21.pick [0]).nm rfl
  · exact (ih _ _ e) _ _ _ _ _ _ _ _ (O.pick [0]).nm rfl
set_option maxRecDepth 100000 in
theorem slices_partialInsertionSortOrdered_126.l0_k.step_j2 (go : (p : slices_partialInsertionSortOrdered_126.l0_k.Pt) → Option (Bool × (List Int))) (ih : ∀ p r, go p = some r → slices_partialInsertionSortOrdered_126.l0_k.I p r) (a_0 : List Int) (x_1 : Int) (x_2 : Int) (x_7 : Int) (x_8 : Int) (r : Bool × (List Int)) (e : slices_partialInsertionSortOrdered_126.l0_k.body go (.j2 a_0 x_1 x_2 x_7 x_8) = some r) : slices_partialInsertionSortOrdered_126.l0_k.I (.j2 a_0 x_1 x_2 x_7 x_8) r := by
  unfold slices_partialInsertionSortOrdered_126.l0_k.body at e
  intro W h0 m0 h m A_0 n_0 c_0 O ne_0
  subst ne_0
  refine f126.j2_in ?_
  unfold f126.j2T
  exact (ih _ _ e) _ _ _ _ _ _ _ _ (O.pick [0]).nm rfl
set_option maxHeartbeats 4000000 in
set_option maxRecDepth 100000 in
theorem slices_partialInsertionSortOrdered_126.l0_k.step_j1 (go : (p : slices_partialInsertionSortOrdered_126.l0_k.Pt) → Option (Bool × (List Int))) (ih : ∀ p r, go p = some r → slices_partialInsertionSortOrdered_126.l0_k.I p r) (a_0 : List Int) (x_1 : Int) (x_2 : Int) (x_7 : Int) (x_8 : Int) (r : Bool × (List Int)) (e : slices_partialInsertionSortOrdered_126.l0_k.body go (.j1 a_0 x_1 x_2 x_7 x_8) = some r) : slices_partialInsertionSortOrdered_126.l0_k.I (.j1 a_0 x_1 x_2 x_7 x_8) r := by
  unfold slices_partialInsertionSortOrdered_126.l0_k.body at e
  intro W h0 m0 h m A_0 n_0 c_0 O ne_0
  subst ne_0
  refine f126.j1_in ?_
  unfold f126.j1T
  refine split_eq_e e (fun c41 e => ?_) (fun c41 e => ?_)
  · cases e
    exact ⟨_, O.pick [0], rfl, rfl⟩
  · refine split_dec_e e (fun c40 e => ?_) (fun c40 e => ?_)
    · cases e
      exact ⟨_, O.pick [0], rfl, rfl⟩
    · obtain ⟨y1, g2, e⟩ := bind_e e
      refine (O.os 0 rfl).addr rfl g2 fun a3 cs4 ha5 hc6 he7 => ?_
      obtain rfl : cs4 = [(Value.int .i64 y1)] := he7
      obtain ⟨y8, g9, e⟩ := bind_e e
      refine (O.os 0 rfl).addr rfl g9 fun a10 cs11 ha12 hc13 he14 => ?_
      obtain rfl : cs11 = [(Value.int .i64 y8)] := he14
      refine ⟨_, ld0 (Sub.refl _) hc6 rfl, _, rfl, ?_⟩
      refine ⟨_, ld0 (Sub.refl _) hc13 rfl, _, rfl, ?_⟩
      obtain ⟨y15, g16, e⟩ := bind_e e
      refine (O.os 0 rfl).addr rfl g16 fun a17 cs18 ha19 hc20 he21 => ?_
      obtain rfl : cs18 = [(Value.int .i64 y15)] := he21
      obtain ⟨l24, g25, e⟩ := bind_e e
      replace g25 := Option.some.inj g25
      refine O.elst0 0 rfl g16 ha19 hc20 (by decide) (y' := y1) rfl trivial g25 fun h22 O23 => ?_
      obtain ⟨y26, g27, e⟩ := bind_e e
      refine (O23.os 0 rfl).addr (lset' g25) g27 fun a28 cs29 ha30 hc31 he32 => ?_
      obtain rfl : cs29 = [(Value.int .i64 y26)] := he32
      obtain ⟨l35, g36, e⟩ := bind_e e
      replace g36 := Option.some.inj g36
      refine O23.elst0 0 rfl g27 ha30 hc31 (by decide) (y' := y8) rfl trivial g36 fun h33 O34 => ?_
      refine split_dec_e e (fun c39 e => ?_) (fun c39 e => ?_)
      · have O37 := O34.nm
        exact (ih _ _ e) _ _ _ _ _ _ _ _ (O37.pick [0]).nm ((lset' g25).trans (lset' g36))
      · have O38 := O34.nm
        exact (ih _ _ e) _ _ _ _ _ _ _ _ (O38.pick [0]).nm ((lset' g25).trans (lset' g36))
set_option maxHeartbeats 4000000 in
set_option maxRecDepth 100000 in
theorem slices_partialInsertionSortOrdered_126.l0_k.step_l2 (go : (p : slices_partialInsertionSortOrdered_126.l0_k.Pt) → Option (Bool × (List Int))) (ih : ∀ p r, go p = some r → slices_partialInsertionSortOrdered_126.l0_k.I p r) (a_0 : List Int) (x_1 : Int) (x_2 : Int) (x_7 : Int) (x_8 : Int) (x_9 : Int) (r : Bool × (List Int)) (e : slices_partialInsertionSortOrdered_126.l0_k.body go (.l2 a_0 x_1 x_2 x_7 x_8 x_9) = some r) : slices_partialInsertionSortOrdered_126.l0_k.I (.l2 a_0 x_1 x_2 x_7 x_8 x_9) r := by
  unfold slices_partialInsertionSortOrdered_126.l0_k.body at e
  intro W h0 m0 h m A_0 n_0 c_0 O ne_0
  subst ne_0
  refine f126.l2_in ?_
  unfold f126.l2T
  refine split_dec_e e (fun c60 e => ?_) (fun c60 e => ?_)
  · obtain ⟨y1, g2, e⟩ := bind_e e
    refine (O.os 0 rfl).addr rfl g2 fun a3 cs4 ha5 hc6 he7 => ?_
    obtain rfl : cs4 = [(Value.int .i64 y1)] := he7
    obtain ⟨y8, g9, e⟩ := bind_e e
    refine (O.os 0 rfl).addr rfl g9 fun a10 cs11 ha12 hc13 he14 => ?_
    obtain rfl : cs11 = [(Value.int .i64 y8)] := he14
    refine ⟨_, ld0 (Sub.refl _) hc6 rfl, _, rfl, ?_⟩
    refine ⟨_, ld0 (Sub.refl _) hc13 rfl, _, rfl, ?_⟩
    obtain ⟨y15, g16, e⟩ := bind_e e
    refine (cmp_Less_127.walk (Hold.start (W := No) O.s)  g16).mono ?_
    rintro _ h17 ⟨m18, Q19, rfl⟩
    have O21 := Hold.nm (O.retC Q19 vfs_nil)
    refine ⟨_, rfl, ?_⟩
    refine split_not ?_
    refine split_any_e e (fun c59 e => ?_) (fun c59 e => ?_)
    · obtain ⟨y22, g23, e⟩ := bind_e e
      refine (O21.os 0 rfl).addr rfl g23 fun a24 cs25 ha26 hc27 he28 => ?_
      obtain rfl : cs25 = [(Value.int .i64 y22)] := he28
      obtain ⟨y29, g30, e⟩ := bind_e e
      refine (O21.os 0 rfl).addr rfl g30 fun a31 cs32 ha33 hc34 he35 => ?_
      obtain rfl : cs32 = [(Value.int .i64 y29)] := he35
      refine ⟨_, ld0 (Sub.refl _) hc27 rfl, _, rfl, ?_⟩
      refine ⟨_, ld0 (Sub.refl _) hc34 rfl, _, rfl, ?_⟩
      obtain ⟨y36, g37, e⟩ := bind_e e
      refine (O21.os 0 rfl).addr rfl g37 fun a38 cs39 ha40 hc41 he42 => ?_
      obtain rfl : cs39 = [(Value.int .i64 y36)] := he42
      obtain ⟨l45, g46, e⟩ := bind_e e
      replace g46 := Option.some.inj g46
      refine O21.elst0 0 rfl g37 ha40 hc41 (by decide) (y' := y22) rfl trivial g46 fun h43 O44 => ?_
      obtain ⟨y47, g48, e⟩ := bind_e e
      refine (O44.os 0 rfl).addr (lset' g46) g48 fun a49 cs50 ha51 hc52 he53 => ?_
      obtain rfl : cs50 = [(Value.int .i64 y47)] := he53
      obtain ⟨l56, g57, e⟩ := bind_e e
      replace g57 := Option.some.inj g57
      refine O44.elst0 0 rfl g48 ha51 hc52 (by decide) (y' := y29) rfl trivial g57 fun h54 O55 => ?_
      have O58 := O55.nm
      exact (ih _ _ e) _ _ _ _ _ _ _ _ (O58.pick [0]).nm ((lset' g46).trans (lset' g57))
    · exact (ih _ _ e) _ _ _ _ _ _ _ _ (O21.pick [0]).nm rfl
  · exact (ih _ _ e) _ _ _ _ _ _ _ _ (O.pick [0]).nm rfl
set_option maxRecDepth 100000 in
theorem slices_partialInsertionSortOrdered_126.l0_k.step_j3 (go : (p : slices_partialInsertionSortOrdered_126.l0_k.Pt) → Option (Bool × (List Int))) (ih : ∀ p r, go p = some r → slices_partialInsertionSortOrdered_126.l0_k.I p r) (a_0 : List Int) (x_1 : Int) (x_2 : Int) (x_7 : Int) (x_8 : Int) (r : Bool × (List Int)) (e : slices_partialInsertionSortOrdered_126.l0_k.body go (.j3 a_0 x_1 x_2 x_7 x_8) = some r) : slices_partialInsertionSortOrdered_126.l0_k.I (.j3 a_0 x_1 x_2 x_7 x_8) r := by
  unfold slices_partialInsertionSortOrdered_126.l0_k.body at e
  intro W h0 m0 h m A_0 n_0 c_0 O ne_0
  subst ne_0
  refine f126.j3_in ?_
  unfold f126.j3T
  refine split_dec_e e (fun c1 e => ?_) (fun c1 e => ?_)
  · exact (ih _ _ e) _ _ _ _ _ _ _ _ (O.pick [0]).nm rfl
  · exact (ih _ _ e) _ _ _ _ _ _ _ _ (O.pick [0]).nm rfl
set_option maxHeartbeats 4000000 in
set_option maxRecDepth 100000 in
theorem slices_partialInsertionSortOrdered_126.l0_k.step_l3 (go : (p : slices_partialInsertionSortOrdered_126.l0_k.Pt) → Option (Bool × (List Int))) (ih : ∀ p r, go p = some r → slices_partialInsertionSortOrdered_126.l0_k.I p r) (a_0 : List Int) (x_1 : Int) (x_2 : Int) (x_7 : Int) (x_8 : Int) (x_10 : Int) (r : Bool × (List Int)) (e : slices_partialInsertionSortOrdered_126.l0_k.body go (.l3 a_0 x_1 x_2 x_7 x_8 x_10) = some r) : slices_partialInsertionSortOrdered_126.l0_k.I (.l3 a_0 x_1 x_2 x_7 x_8 x_10) r := by
  unfold slices_partialInsertionSortOrdered_126.l0_k.body at e
  intro W h0 m0 h m A_0 n_0 c_0 O ne_0
  subst ne_0
  refine f126.l3_in ?_
  unfold f126.l3T
  refine split_dec_e e (fun c60 e => ?_) (fun c60 e => ?_)
  · obtain ⟨y1, g2, e⟩ := bind_e e
    refine (O.os 0 rfl).addr rfl g2 fun a3 cs4 ha5 hc6 he7 => ?_
    obtain rfl : cs4 = [(Value.int .i64 y1)] := he7
    obtain ⟨y8, g9, e⟩ := bind_e e
    refine (O.os 0 rfl).addr rfl g9 fun a10 cs11 ha12 hc13 he14 => ?_
    obtain rfl : cs11 = [(Value.int .i64 y8)] := he14
    refine ⟨_, ld0 (Sub.refl _) hc6 rfl, _, rfl, ?_⟩
    refine ⟨_, ld0 (Sub.refl _) hc13 rfl, _, rfl, ?_⟩
    obtain ⟨y15, g16, e⟩ := bind_e e
    refine (cmp_Less_127.walk (Hold.start (W := No) O.s)  g16).mono ?_
    rintro _ h17 ⟨m18, Q19, rfl⟩
    have O21 := Hold.nm (O.retC Q19 vfs_nil)
    refine ⟨_, rfl, ?_⟩
    refine split_not ?_
    refine split_any_e e (fun c59 e => ?_) (fun c59 e => ?_)
    · obtain ⟨y22, g23, e⟩ := bind_e e
      refine (O21.os 0 rfl).addr rfl g23 fun a24 cs25 ha26 hc27 he28 => ?_
      obtain rfl : cs25 = [(Value.int .i64 y22)] := he28
      obtain ⟨y29, g30, e⟩ := bind_e e
      refine (O21.os 0 rfl).addr rfl g30 fun a31 cs32 ha33 hc34 he35 => ?_
      obtain rfl : cs32 = [(Value.int .i64 y29)] := he35
      refine ⟨_, ld0 (Sub.refl _) hc27 rfl, _, rfl, ?_⟩
      refine ⟨_, ld0 (Sub.refl _) hc34 rfl, _, rfl, ?_⟩
      obtain ⟨y36, g37, e⟩ := bind_e e
      refine (O21.os 0 rfl).addr rfl g37 fun a38 cs39 ha40 hc41 he42 => ?_
      obtain rfl : cs39 = [(Value.int .i64 y36)] := he42
      obtain ⟨l45, g46, e⟩ := bind_e e
      replace g46 := Option.some.inj g46
      refine O21.elst0 0 rfl g37 ha40 hc41 (by decide) (y' := y22) rfl trivial g46 fun h43 O44 => ?_
      obtain ⟨y47, g48, e⟩ := bind_e e
      refine (O44.os 0 rfl).addr (lset' g46) g48 fun a49 cs50 ha51 hc52 he53 => ?_
      obtain rfl : cs50 = [(Value.int .i64 y47)] := he53
      obtain ⟨l56, g57, e⟩ := bind_e e
      replace g57 := Option.some.inj g57
      refine O44.elst0 0 rfl g48 ha51 hc52 (by decide) (y' := y29) rfl trivial g57 fun h54 O55 => ?_
      have O58 := O55.nm
      exact (ih _ _ e) _ _ _ _ _ _ _ _ (O58.pick [0]).nm ((lset' g46).trans (lset' g57))
    · exact (ih _ _ e) _ _ _ _ _ _ _ _ (O21.pick [0]).nm rfl
  · exact (ih _ _ e) _ _ _ _ _ _ _ _ (O.pick [0]).nm rfl
set_option maxRecDepth 100000 in
theorem slices_partialInsertionSortOrdered_126.l0_k.step_j0 (go : (p : slices_partialInsertionSortOrdered_126.l0_k.Pt) → Option (Bool × (List Int))) (ih : ∀ p r, go p = some r → slices_partialInsertionSortOrdered_126.l0_k.I p r) (a_0 : List Int) (x_1 : Int) (x_2 : Int) (x_7 : Int) (x_8 : Int) (r : Bool × (List Int)) (e : slices_partialInsertionSortOrdered_126.l0_k.body go (.j0 a_0 x_1 x_2 x_7 x_8) = some r) : slices_partialInsertionSortOrdered_126.l0_k.I (.j0 a_0 x_1 x_2 x_7 x_8) r := by
  unfold slices_partialInsertionSortOrdered_126.l0_k.body at e
  intro W h0 m0 h m A_0 n_0 c_0 O ne_0
  subst ne_0
  refine f126.j0_in ?_
  unfold f126.j0T
  exact (ih _ _ e) _ _ _ _ _ _ _ _ (O.pick [0]).nm rfl
theorem slices_partialInsertionSortOrdered_126.l0_k.all {p : slices_partialInsertionSortOrdered_126.l0_k.Pt} {r : (Bool × (List Int))} (e : slices_partialInsertionSortOrdered_126.l0_k.go p = some r) : slices_partialInsertionSortOrdered_126.l0_k.I p r := fixF_ind (β := fun _ => (Bool × (List Int))) slices_partialInsertionSortOrdered_126.l0_k.mono (I := slices_partialInsertionSortOrdered_126.l0_k.I) (fun go ih p r e => match p with
  | .l0 a_0 x_1 x_2 x_7 x_8 => slices_partialInsertionSortOrdered_126.l0_k.step_l0 go ih a_0 x_1 x_2 x_7 x_8 r e
  | .l1 a_0 x_1 x_2 x_7 x_8 => slices_partialInsertionSortOrdered_126.l0_k.step_l1 go ih a_0 x_1 x_2 x_7 x_8 r e
  | .j2 a_0 x_1 x_2 x_7 x_8 => slices_partialInsertionSortOrdered_126.l0_k.step_j2 go ih a_0 x_1 x_2 x_7 x_8 r e
  | .j1 a_0 x_1 x_2 x_7 x_8 => slices_partialInsertionSortOrdered_126.l0_k.step_j1 go ih a_0 x_1 x_2 x_7 x_8 r e
  | .l2 a_0 x_1 x_2 x_7 x_8 x_9 => slices_partialInsertionSortOrdered_126.l0_k.step_l2 go ih a_0 x_1 x_2 x_7 x_8 x_9 r e
  | .j3 a_0 x_1 x_2 x_7 x_8 => slices_partialInsertionSortOrdered_126.l0_k.step_j3 go ih a_0 x_1 x_2 x_7 x_8 r e
  | .l3 a_0 x_1 x_2 x_7 x_8 x_10 => slices_partialInsertionSortOrdered_126.l0_k.step_l3 go ih a_0 x_1 x_2 x_7 x_8 x_10 r e
  | .j0 a_0 x_1 x_2 x_7 x_8 => slices_partialInsertionSortOrdered_126.l0_k.step_j0 go ih a_0 x_1 x_2 x_7 x_8 r e
  ) e
theorem slices_partialInsertionSortOrdered_126.l0.walk {W : Nat → Prop} {h0 m0 h m : Heap} {A_0 : Option Addr} {n_0 c_0 : Nat} {a_0 : List Int} {x_1 : Int} {x_2 : Int} {x_7 : Int} {x_8 : Int} (O : Hold W h0 m0 h m [rR (aE (tell_int .i64)) A_0 c_0 a_0]) (ne_0 : n_0 = List.length a_0) {r : Bool × (List Int)} (e : slices_partialInsertionSortOrdered_126.l0 a_0 x_1 x_2 x_7 x_8 = some r) : f126.l0 (slices_partialInsertionSortOrdered_126.post W A_0 n_0 c_0 h0 m0 r) A_0 n_0 c_0 x_1 x_2 x_7 x_8 h := slices_partialInsertionSortOrdered_126.l0_k.all (p := .l0 a_0 x_1 x_2 x_7 x_8) e W h0 m0 h m A_0 n_0 c_0 O ne_0
noncomputable def slices_partialInsertionSortOrdered_126 (a_0 : List Int) (x_1 : Int) (x_2 : Int) : Option (Bool × (List Int)) :=
  (slices_partialInsertionSortOrdered_126.l0 a_0 x_1 x_2 (IntKind.wrap .i64 (x_1 + (1 : Int))) (0 : Int))
set_option maxRecDepth 100000 in
theorem slices_partialInsertionSortOrdered_126.walk {W : Nat → Prop} {h m : Heap} {A_0 : Option Addr} {n_0 c_0 : Nat} {a_0 : List Int} {x_1 : Int} {x_2 : Int} (O : Hold W h m h m [rR (aE (tell_int .i64)) A_0 c_0 a_0]) (ne_0 : n_0 = List.length a_0) {r : Bool × (List Int)} (e : slices_partialInsertionSortOrdered_126 a_0 x_1 x_2 = some r) : Run Try.prog 126 #[Value.slice A_0 n_0 c_0, Value.int .i64 x_1, Value.int .i64 x_2] h (slices_partialInsertionSortOrdered_126.post W A_0 n_0 c_0 h m r) := by
  unfold slices_partialInsertionSortOrdered_126 at e
  subst ne_0
  refine f126.run ?_
  unfold f126.runT
  exact slices_partialInsertionSortOrdered_126.l0.walk (O.pick [0]).nm rfl e
def slices_partitionEqualOrdered_128.post (W : Nat → Prop) (Asl0 : Option Addr) (nsl0 csl0 : Nat) (h0 m0 : Heap) (r : Int × (List Int)) (v : Value) (h : Heap) : Prop := ∃ m , Hold W h0 m0 h m [rR (aE (tell_int .i64)) Asl0 csl0 r.2] ∧ v = .int .i64 r.1 ∧ nsl0 = List.length r.2
inductive slices_partitionEqualOrdered_128.l0_k.Pt where
  | l0 (a_0 : List Int) (x_1 : Int) (x_9 : Int) (x_10 : Int)
  | l1 (a_0 : List Int) (x_1 : Int) (x_9 : Int) (x_10 : Int)
  | j2 (a_0 : List Int) (x_1 : Int) (x_9 : Int) (x_10 : Int)
  | j0 (a_0 : List Int) (x_1 : Int) (x_9 : Int) (x_10 : Int)
  | l2 (a_0 : List Int) (x_1 : Int) (x_9 : Int) (x_10 : Int)
  | j3 (a_0 : List Int) (x_1 : Int) (x_9 : Int) (x_10 : Int)
  | j1 (a_0 : List Int) (x_1 : Int) (x_9 : Int) (x_10 : Int)
noncomputable def slices_partitionEqualOrdered_128.l0_k.body (go : (p : slices_partitionEqualOrdered_128.l0_k.Pt) → Option (Int × (List Int))) : (p : slices_partitionEqualOrdered_128.l0_k.Pt) → Option (Int × (List Int))
  | .l0 a_0 x_1 x_9 x_10 => (go (.l1 a_0 x_1 x_9 x_10))
  | .l1 a_0 x_1 x_9 x_10 => if x_9 ≤ x_10 then (Option.bind (gi a_0 x_1) fun y1 => Option.bind (gi a_0 x_9) fun y8 => Option.bind (cmp_Less_127 y1 y8) fun y15 => if y15 = true then ((go (.j0 a_0 x_1 x_9 x_10))) else ((go (.j2 a_0 x_1 x_9 x_10)))) else ((go (.j0 a_0 x_1 x_9 x_10)))
  | .j2 a_0 x_1 x_9 x_10 => (go (.l1 a_0 x_1 (IntKind.wrap .i64 (x_9 + (1 : Int))) x_10))
  | .j0 a_0 x_1 x_9 x_10 => (go (.l2 a_0 x_1 x_9 x_10))
  | .l2 a_0 x_1 x_9 x_10 => if x_9 ≤ x_10 then (Option.bind (gi a_0 x_1) fun y1 => Option.bind (gi a_0 x_10) fun y8 => Option.bind (cmp_Less_127 y1 y8) fun y15 => if y15 = true then ((go (.j3 a_0 x_1 x_9 x_10))) else ((go (.j1 a_0 x_1 x_9 x_10)))) else ((go (.j1 a_0 x_1 x_9 x_10)))
  | .j3 a_0 x_1 x_9 x_10 => (go (.l2 a_0 x_1 x_9 (IntKind.wrap .i64 (x_10 - (1 : Int)))))
  | .j1 a_0 x_1 x_9 x_10 => if x_9 > x_10 then (some (x_9, a_0)) else (Option.bind (gi a_0 x_10) fun y1 => Option.bind (gi a_0 x_9) fun y8 => Option.bind (gi a_0 x_9) fun y15 => Option.bind (some (List.set a_0 (Int.toNat x_9) y1)) fun l24 => Option.bind (gi l24 x_10) fun y26 => Option.bind (some (List.set l24 (Int.toNat x_10) y8)) fun l35 => (go (.l0 l35 x_1 (IntKind.wrap .i64 (x_9 + (1 : Int))) (IntKind.wrap .i64 (x_10 - (1 : Int))))))
attribute [local irreducible] cmp_Less_127 in
theorem slices_partitionEqualOrdered_128.l0_k.mono : MonoF (β := fun _ => (Int × (List Int))) slices_partitionEqualOrdered_128.l0_k.body := fun f g hfg p => match p with
  | .l0 a_0 x_1 x_9 x_10 => (hfg _)
  | .l1 a_0 x_1 x_9 x_10 => LeO.ite (LeO.bind (LeO.refl _) fun y1 => LeO.bind (LeO.refl _) fun y8 => LeO.bind (LeO.refl _) fun y15 => LeO.ite ((hfg _)) ((hfg _))) ((hfg _))
  | .j2 a_0 x_1 x_9 x_10 => (hfg _)
  | .j0 a_0 x_1 x_9 x_10 => (hfg _)
  | .l2 a_0 x_1 x_9 x_10 => LeO.ite (LeO.bind (LeO.refl _) fun y1 => LeO.bind (LeO.refl _) fun y8 => LeO.bind (LeO.refl _) fun y15 => LeO.ite ((hfg _)) ((hfg _))) ((hfg _))
  | .j3 a_0 x_1 x_9 x_10 => (hfg _)
  | .j1 a_0 x_1 x_9 x_10 => LeO.ite (LeO.refl _) (LeO.bind (LeO.refl _) fun y1 => LeO.bind (LeO.refl _) fun y8 => LeO.bind (LeO.refl _) fun y15 => LeO.bind (LeO.refl _) fun l24 => LeO.bind (LeO.refl _) fun y26 => LeO.bind (LeO.refl _) fun l35 => (hfg _))
noncomputable def slices_partitionEqualOrdered_128.l0_k.go (p : slices_partitionEqualOrdered_128.l0_k.Pt) : Option (Int × (List Int)) := fixF (β := fun _ => (Int × (List Int))) slices_partitionEqualOrdered_128.l0_k.body p
noncomputable def slices_partitionEqualOrdered_128.l0 (a_0 : List Int) (x_1 : Int) (x_9 : Int) (x_10 : Int) : Option (Int × (List Int)) := slices_partitionEqualOrdered_128.l0_k.go (.l0 a_0 x_1 x_9 x_10)
noncomputable def slices_partitionEqualOrdered_128.l1 (a_0 : List Int) (x_1 : Int) (x_9 : Int) (x_10 : Int) : Option (Int × (List Int)) := slices_partitionEqualOrdered_128.l0_k.go (.l1 a_0 x_1 x_9 x_10)
noncomputable def slices_partitionEqualOrdered_128.j2 (a_0 : List Int) (x_1 : Int) (x_9 : Int) (x_10 : Int) : Option (Int × (List Int)) := slices_partitionEqualOrdered_128.l0_k.go (.j2 a_0 x_1 x_9 x_10)
noncomputable def slices_partitionEqualOrdered_128.j0 (a_0 : List Int) (x_1 : Int) (x_9 : Int) (x_10 : Int) : Option (Int × (List Int)) := slices_partitionEqualOrdered_128.l0_k.go (.j0 a_0 x_1 x_9 x_10)
noncomputable def slices_partitionEqualOrdered_128.l2 (a_0 : List Int) (x_1 : Int) (x_9 : Int) (x_10 : Int) : Option (Int × (List Int)) := slices_partitionEqualOrdered_128.l0_k.go (.l2 a_0 x_1 x_9 x_10)
noncomputable def slices_partitionEqualOrdered_128.j3 (a_0 : List Int) (x_1 : Int) (x_9 : Int) (x_10 : Int) : Option (Int × (List Int)) := slices_partitionEqualOrdered_128.l0_k.go (.j3 a_0 x_1 x_9 x_10)
noncomputable def slices_partitionEqualOrdered_128.j1 (a_0 : List Int) (x_1 : Int) (x_9 : Int) (x_10 : Int) : Option (Int × (List Int)) := slices_partitionEqualOrdered_128.l0_k.go (.j1 a_0 x_1 x_9 x_10)
theorem slices_partitionEqualOrdered_128.l0_eq (a_0 : List Int) (x_1 : Int) (x_9 : Int) (x_10 : Int) : slices_partitionEqualOrdered_128.l0 a_0 x_1 x_9 x_10 = (slices_partitionEqualOrdered_128.l1 a_0 x_1 x_9 x_10) := fixF_eq slices_partitionEqualOrdered_128.l0_k.mono _
theorem slices_partitionEqualOrdered_128.l1_eq (a_0 : List Int) (x_1 : Int) (x_9 : Int) (x_10 : Int) : slices_partitionEqualOrdered_128.l1 a_0 x_1 x_9 x_10 = if x_9 ≤ x_10 then (Option.bind (gi a_0 x_1) fun y1 => Option.bind (gi a_0 x_9) fun y8 => Option.bind (cmp_Less_127 y1 y8) fun y15 => if y15 = true then ((slices_partitionEqualOrdered_128.j0 a_0 x_1 x_9 x_10)) else ((slices_partitionEqualOrdered_128.j2 a_0 x_1 x_9 x_10))) else ((slices_partitionEqualOrdered_128.j0 a_0 x_1 x_9 x_10)) := fixF_eq slices_partitionEqualOrdered_128.l0_k.mono _
theorem slices_partitionEqualOrdered_128.j2_eq (a_0 : List Int) (x_1 : Int) (x_9 : Int) (x_10 : Int) : slices_partitionEqualOrdered_128.j2 a_0 x_1 x_9 x_10 = (slices_partitionEqualOrdered_128.l1 a_0 x_1 (IntKind.wrap .i64 (x_9 + (1 : Int))) x_10) := fixF_eq slices_partitionEqualOrdered_128.l0_k.mono _
theorem slices_partitionEqualOrdered_128.j0_eq (a_0 : List Int) (x_1 : Int) (x_9 : Int) (x_10 : Int) : slices_partitionEqualOrdered_128.j0 a_0 x_1 x_9 x_10 = (slices_partitionEqualOrdered_128.l2 a_0 x_1 x_9 x_10) := fixF_eq slices_partitionEqualOrdered_128.l0_k.mono _
theorem slices_partitionEqualOrdered_128.l2_eq (a_0 : List Int) (x_1 : Int) (x_9 : Int) (x_10 : Int) : slices_partitionEqualOrdered_128.l2 a_0 x_1 x_9 x_10 = if x_9 ≤ x_10 then (Option.bind (gi a_0 x_1) fun y1 => Option.bind (gi a_0 x_10) fun y8 => Option.bind (cmp_Less_127 y1 y8) fun y15 => if y15 = true then ((slices_partitionEqualOrdered_128.j3 a_0 x_1 x_9 x_10)) else ((slices_partitionEqualOrdered_128.j1 a_0 x_1 x_9 x_10))) else ((slices_partitionEqualOrdered_128.j1 a_0 x_1 x_9 x_10)) := fixF_eq slices_partitionEqualOrdered_128.l0_k.mono _
theorem slices_partitionEqualOrdered_128.j3_eq (a_0 : List Int) (x_1 : Int) (x_9 : Int) (x_10 : Int) : slices_partitionEqualOrdered_128.j3 a_0 x_1 x_9 x_10 = (slices_partitionEqualOrdered_128.l2 a_0 x_1 x_9 (IntKind.wrap .i64 (x_10 - (1 : Int)))) := fixF_eq slices_partitionEqualOrdered_128.l0_k.mono _
theorem slices_partitionEqualOrdered_128.j1_eq (a_0 : List Int) (x_1 : Int) (x_9 : Int) (x_10 : Int) : slices_partitionEqualOrdered_128.j1 a_0 x_1 x_9 x_10 = if x_9 > x_10 then (some (x_9, a_0)) else (Option.bind (gi a_0 x_10) fun y1 => Option.bind (gi a_0 x_9) fun y8 => Option.bind (gi a_0 x_9) fun y15 => Option.bind (some (List.set a_0 (Int.toNat x_9) y1)) fun l24 => Option.bind (gi l24 x_10) fun y26 => Option.bind (some (List.set l24 (Int.toNat x_10) y8)) fun l35 => (slices_partitionEqualOrdered_128.l0 l35 x_1 (IntKind.wrap .i64 (x_9 + (1 : Int))) (IntKind.wrap .i64 (x_10 - (1 : Int))))) := fixF_eq slices_partitionEqualOrdered_128.l0_k.mono _
def slices_partitionEqualOrdered_128.l0_k.I : (p : slices_partitionEqualOrdered_128.l0_k.Pt) → (Int × (List Int)) → Prop
  | .l0 a_0 x_1 x_9 x_10, r => ∀ (W : Nat → Prop) (h0 m0 h m : Heap) (A_0 : Option Addr) (n_0 c_0 : Nat) (O : Hold W h0 m0 h m [rR (aE (tell_int .i64)) A_0 c_0 a_0]) (ne_0 : n_0 = List.length a_0), f128.l0 (slices_partitionEqualOrdered_128.post W A_0 n_0 c_0 h0 m0 r) A_0 n_0 c_0 x_1 x_9 x_10 h
  | .l1 a_0 x_1 x_9 x_10, r => ∀ (W : Nat → Prop) (h0 m0 h m : Heap) (A_0 : Option Addr) (n_0 c_0 : Nat) (O : Hold W h0 m0 h m [rR (aE (tell_int .i64)) A_0 c_0 a_0]) (ne_0 : n_0 = List.length a_0), f128.l1 (slices_partitionEqualOrdered_128.post W A_0 n_0 c_0 h0 m0 r) A_0 n_0 c_0 x_1 x_9 x_10 h
  | .j2 a_0 x_1 x_9 x_10, r => ∀ (W : Nat → Prop) (h0 m0 h m : Heap) (A_0 : Option Addr) (n_0 c_0 : Nat) (O : Hold W h0 m0 h m [rR (aE (tell_int .i64)) A_0 c_0 a_0]) (ne_0 : n_0 = List.length a_0), f128.j2 (slices_partitionEqualOrdered_128.post W A_0 n_0 c_0 h0 m0 r) A_0 n_0 c_0 x_1 x_9 x_10 h
  | .j0 a_0 x_1 x_9 x_10, r => ∀ (W : Nat → Prop) (h0 m0 h m : Heap) (A_0 : Option Addr) (n_0 c_0 : Nat) (O : Hold W h0 m0 h m [rR (aE (tell_int .i64)) A_0 c_0 a_0]) (ne_0 : n_0 = List.length a_0), f128.j0 (slices_partitionEqualOrdered_128.post W A_0 n_0 c_0 h0 m0 r) A_0 n_0 c_0 x_1 x_9 x_10 h
  | .l2 a_0 x_1 x_9 x_10, r => ∀ (W : Nat → Prop) (h0 m0 h m : Heap) (A_0 : Option Addr) (n_0 c_0 : Nat) (O : Hold W h0 m0 h m [rR (aE (tell_int .i64)) A_0 c_0 a_0]) (ne_0 : n_0 = List.length a_0), f128.l2 (slices_partitionEqualOrdered_128.post W A_0 n_0 c_0 h0 m0 r) A_0 n_0 c_0 x_1 x_9 x_10 h
  | .j3 a_0 x_1 x_9 x_10, r => ∀ (W : Nat → Prop) (h0 m0 h m : Heap) (A_0 : Option Addr) (n_0 c_0 : Nat) (O : Hold W h0 m0 h m [rR (aE (tell_int .i64)) A_0 c_0 a_0]) (ne_0 : n_0 = List.length a_0), f128.j3 (slices_partitionEqualOrdered_128.post W A_0 n_0 c_0 h0 m0 r) A_0 n_0 c_0 x_1 x_9 x_10 h
  | .j1 a_0 x_1 x_9 x_10, r => ∀ (W : Nat → Prop) (h0 m0 h m : Heap) (A_0 : Option Addr) (n_0 c_0 : Nat) (O : Hold W h0 m0 h m [rR (aE (tell_int .i64)) A_0 c_0 a_0]) (ne_0 : n_0 = List.length a_0), f128.j1 (slices_partitionEqualOrdered_128.post W A_0 n_0 c_0 h0 m0 r) A_0 n_0 c_0 x_1 x_9 x_10 h
set_option maxRecDepth 100000 in
theorem slices_partitionEqualOrdered_128.l0_k.step_l0 (go : (p : slices_partitionEqualOrdered_128.l0_k.Pt) → Option (Int × (List Int))) (ih : ∀ p r, go p = some r → slices_partitionEqualOrdered_128.l0_k.I p r) (a_0 : List Int) (x_1 : Int) (x_9 : Int) (x_10 : Int) (r : Int × (List Int)) (e : slices_partitionEqualOrdered_128.l0_k.body go (.l0 a_0 x_1 x_9 x_10) = some r) : slices_partitionEqualOrdered_128.l0_k.I (.l0 a_0 x_1 x_9 x_10) r := by
  unfold slices_partitionEqualOrdered_128.l0_k.body at e
  intro W h0 m0 h m A_0 n_0 c_0 O ne_0
  subst ne_0
  refine f128.l0_in ?_
  unfold f128.l0T
  exact (ih _ _ e) _ _ _ _ _ _ _ _ (O.pick [0]).nm rfl
set_option maxRecDepth 100000 in
theorem slices_partitionEqualOrdered_128.l0_k.step_l1 (go : (p : slices_partitionEqualOrdered_128.l0_k.Pt) → Option (Int × (List Int))) (ih : ∀ p r, go p = some r → slices_partitionEqualOrdered_128.l0_k.I p r) (a_0 : List Int) (x_1 : Int) (x_9 : Int) (x_10 : Int) (r : Int × (List Int)) (e : slices_partitionEqualOrdered_128.l0_k.body go (.l1 a_0 x_1 x_9 x_10) = some r) : slices_partitionEqualOrdered_128.l0_k.I (.l1 a_0 x_1 x_9 x_10) r := by
  unfold slices_partitionEqualOrdered_128.l0_k.body at e
  intro W h0 m0 h m A_0 n_0 c_0 O ne_0
  subst ne_0
  refine f128.l1_in ?_
  unfold f128.l1T
  refine split_dec_e e (fun c23 e => ?_) (fun c23 e => ?_)
  · obtain ⟨y1, g2, e⟩ := bind_e e
    refine (O.os 0 rfl).addr rfl g2 fun a3 cs4 ha5 hc6 he7 => ?_
    obtain rfl : cs4 = [(Value.int .i64 y1)] := he7
    obtain ⟨y8, g9, e⟩ := bind_e e
    refine (O.os 0 rfl).addr rfl g9 fun a10 cs11 ha12 hc13 he14 => ?_
    obtain rfl : cs11 = [(Value.int .i64 y8)] := he14
    refine ⟨_, ld0 (Sub.refl _) hc6 rfl, _, rfl, ?_⟩
    refine ⟨_, ld0 (Sub.refl _) hc13 rfl, _, rfl, ?_⟩
    obtain ⟨y15, g16, e⟩ := bind_e e
    refine (cmp_Less_127.walk (Hold.start (W := No) O.s)  g16).mono ?_
    rintro _ h17 ⟨m18, Q19, rfl⟩
    have O21 := Hold.nm (O.retC Q19 vfs_nil)
    refine ⟨_, rfl, ?_⟩
    refine split_not ?_
    refine split_any_e e (fun c22 e => ?_) (fun c22 e => ?_)
    · exact (ih _ _ e) _ _ _ _ _ _ _ _ (O21.pick [0]).nm rfl
    · exact (ih _ _ e) _ _ _ _ _ _ _ _ (O21.pick [0]).nm rfl
  · exact (ih _ _ e) _ _ _ _ _ _ _ _ (O.pick [0]).nm rfl
set_option maxRecDepth 100000 in
theorem slices_partitionEqualOrdered_128.l0_k.step_j2 (go : (p : slices_partitionEqualOrdered_128.l0_k.Pt) → Option (Int × (List Int))) (ih : ∀ p r, go p = some r → slices_partitionEqualOrdered_128.l0_k.I p r) (a_0 : List Int) (x_1 : Int) (x_9 : Int) (x_10 : Int) (r : Int × (List Int)) (e : slices_partitionEqualOrdered_128.l0_k.body go (.j2 a_0 x_1 x_9 x_10) = some r) : slices_partitionEqualOrdered_128.l0_k.I (.j2 a_0 x_1 x_9 x_10) r := by
  unfold slices_partitionEqualOrdered_128.l0_k.body at e
  intro W h0 m0 h m A_0 n_0 c_0 O ne_0
  subst ne_0
  refine f128.j2_in ?_
  unfold f128.j2T
  exact (ih _ _ e) _ _ _ _ _ _ _ _ (O.pick [0]).nm rfl
set_option maxRecDepth 100000 in
theorem slices_partitionEqualOrdered_128.l0_k.step_j0 (go : (p : slices_partitionEqualOrdered_128.l0_k.Pt) → Option (Int × (List Int))) (ih : ∀ p r, go p = some r → slices_partitionEqualOrdered_128.l0_k.I p r) (a_0 : List Int) (x_1 : Int) (x_9 : Int) (x_10 : Int) (r : Int × (List Int)) (e : slices_partitionEqualOrdered_128.l0_k.body go (.j0 a_0 x_1 x_9 x_10) = some r) : slices_partitionEqualOrdered_128.l0_k.I (.j0 a_0 x_1 x_9 x_10) r := by
  unfold slices_partitionEqualOrdered_128.l0_k.body at e
  intro W h0 m0 h m A_0 n_0 c_0 O ne_0
  subst ne_0
  refine f128.j0_in ?_
  unfold f128.j0T
  exact (ih _ _ e) _ _ _ _ _ _ _ _ (O.pick [0]).nm rfl
set_option maxRecDepth 100000 in
theorem slices_partitionEqualOrdered_128.l0_k.step_l2 (go : (p : slices_partitionEqualOrdered_128.l0_k.Pt) → Option (Int × (List Int))) (ih : ∀ p r, go p = some r → slices_partitionEqualOrdered_128.l0_k.I p r) (a_0 : List Int) (x_1 : Int) (x_9 : Int) (x_10 : Int) (r : Int × (List Int)) (e : slices_partitionEqualOrdered_128.l0_k.body go (.l2 a_0 x_1 x_9 x_10) = some r) : slices_partitionEqualOrdered_128.l0_k.I (.l2 a_0 x_1 x_9 x_10) r := by
  unfold slices_partitionEqualOrdered_128.l0_k.body at e
  intro W h0 m0 h m A_0 n_0 c_0 O ne_0
  subst ne_0
  refine f128.l2_in ?_
  unfold f128.l2T
  refine split_dec_e e (fun c23 e => ?_) (fun c23 e => ?_)
  · obtain ⟨y1, g2, e⟩ := bind_e e
    refine (O.os 0 rfl).addr rfl g2 fun a3 cs4 ha5 hc6 he7 => ?_
    obtain rfl : cs4 = [(Value.int .i64 y1)] := he7
    obtain ⟨y8, g9, e⟩ := bind_e e
    refine (O.os 0 rfl).addr rfl g9 fun a10 cs11 ha12 hc13 he14 => ?_
    obtain rfl : cs11 = [(Value.int .i64 y8)] := he14
    refine ⟨_, ld0 (Sub.refl _) hc6 rfl, _, rfl, ?_⟩
    refine ⟨_, ld0 (Sub.refl _) hc13 rfl, _, rfl, ?_⟩
    obtain ⟨y15, g16, e⟩ := bind_e e
    refine (cmp_Less_127.walk (Hold.start (W := No) O.s)  g16).mono ?_
    rintro _ h17 ⟨m18, Q19, rfl⟩
    have O21 := Hold.nm (O.retC Q19 vfs_nil)
    refine ⟨_, rfl, ?_⟩
    refine split_any_e e (fun c22 e => ?_) (fun c22 e => ?_)
    · exact (ih _ _ e) _ _ _ _ _ _ _ _ (O21.pick [0]).nm rfl
    · exact (ih _ _ e) _ _ _ _ _ _ _ _ (O21.pick [0]).nm rfl
  · exact (ih _ _ e) _ _ _ _ _ _ _ _ (O.pick [0]).nm rfl
set_option maxRecDepth 100000 in
theorem slices_partitionEqualOrdered_128.l0_k.step_j3 (go : (p : slices_partitionEqualOrdered_128.l0_k.Pt) → Option (Int × (List Int))) (ih : ∀ p r, go p = some r → slices_partitionEqualOrdered_128.l0_k.I p r) (a_0 : List Int) (x_1 : Int) (x_9 : Int) (x_10 : Int) (r : Int × (List Int)) (e : slices_partitionEqualOrdered_128.l0_k.body go (.j3 a_0 x_1 x_9 x_10) = some r) : slices_partitionEqualOrdered_128.l0_k.I (.j3 a_0 x_1 x_9 x_10) r := by
  unfold slices_partitionEqualOrdered_128.l0_k.body at e
  intro W h0 m0 h m A_0 n_0 c_0 O ne_0
  subst ne_0
  refine f128.j3_in ?_
  unfold f128.j3T
  exact (ih _ _ e) _ _ _ _ _ _ _ _ (O.pick [0]).nm rfl
set_option maxRecDepth 100000 in
theorem slices_partitionEqualOrdered_128.l0_k.step_j1 (go : (p : slices_partitionEqualOrdered_128.l0_k.Pt) → Option (Int × (List Int))) (ih : ∀ p r, go p = some r → slices_partitionEqualOrdered_128.l0_k.I p r) (a_0 : List Int) (x_1 : Int) (x_9 : Int) (x_10 : Int) (r : Int × (List Int)) (e : slices_partitionEqualOrdered_128.l0_k.body go (.j1 a_0 x_1 x_9 x_10) = some r) : slices_partitionEqualOrdered_128.l0_k.I (.j1 a_0 x_1 x_9 x_10) r := by
  unfold slices_partitionEqualOrdered_128.l0_k.body at e
  intro W h0 m0 h m A_0 n_0 c_0 O ne_0
  subst ne_0
  refine f128.j1_in ?_
  unfold f128.j1T
  refine split_dec_e e (fun c38 e => ?_) (fun c38 e => ?_)
  · cases e
    exact ⟨_, O.pick [0], rfl, rfl⟩
  · obtain ⟨y1, g2, e⟩ := bind_e e
    refine (O.os 0 rfl).addr rfl g2 fun a3 cs4 ha5 hc6 he7 => ?_
    obtain rfl : cs4 = [(Value.int .i64 y1)] := he7
    obtain ⟨y8, g9, e⟩ := bind_e e
    refine (O.os 0 rfl).addr rfl g9 fun a10 cs11 ha12 hc13 he14 => ?_
    obtain rfl : cs11 = [(Value.int .i64 y8)] := he14
    refine ⟨_, ld0 (Sub.refl _) hc6 rfl, _, rfl, ?_⟩
    refine ⟨_, ld0 (Sub.refl _) hc13 rfl, _, rfl, ?_⟩
    obtain ⟨y15, g16, e⟩ := bind_e e
    refine (O.os 0 rfl).addr rfl g16 fun a17 cs18 ha19 hc20 he21 => ?_
    obtain rfl : cs18 = [(Value.int .i64 y15)] := he21
    obtain ⟨l24, g25, e⟩ := bind_e e
    replace g25 := Option.some.inj g25
    refine O.elst0 0 rfl g16 ha19 hc20 (by decide) (y' := y1) rfl trivial g25 fun h22 O23 => ?_
    obtain ⟨y26, g27, e⟩ := bind_e e
    refine (O23.os 0 rfl).addr (lset' g25) g27 fun a28 cs29 ha30 hc31 he32 => ?_
    obtain rfl : cs29 = [(Value.int .i64 y26)] := he32
    obtain ⟨l35, g36, e⟩ := bind_e e
    replace g36 := Option.some.inj g36
    refine O23.elst0 0 rfl g27 ha30 hc31 (by decide) (y' := y8) rfl trivial g36 fun h33 O34 => ?_
    have O37 := O34.nm
    exact (ih _ _ e) _ _ _ _ _ _ _ _ (O37.pick [0]).nm ((lset' g25).trans (lset' g36))
theorem slices_partitionEqualOrdered_128.l0_k.all {p : slices_partitionEqualOrdered_128.l0_k.Pt} {r : (Int × (List Int))} (e : slices_partitionEqualOrdered_128.l0_k.go p = some r) : slices_partitionEqualOrdered_128.l0_k.I p r := fixF_ind (β := fun _ => (Int × (List Int))) slices_partitionEqualOrdered_128.l0_k.mono (I := slices_partitionEqualOrdered_128.l0_k.I) (fun go ih p r e => match p with
  | .l0 a_0 x_1 x_9 x_10 => slices_partitionEqualOrdered_128.l0_k.step_l0 go ih a_0 x_1 x_9 x_10 r e
  | .l1 a_0 x_1 x_9 x_10 => slices_partitionEqualOrdered_128.l0_k.step_l1 go ih a_0 x_1 x_9 x_10 r e
  | .j2 a_0 x_1 x_9 x_10 => slices_partitionEqualOrdered_128.l0_k.step_j2 go ih a_0 x_1 x_9 x_10 r e
  | .j0 a_0 x_1 x_9 x_10 => slices_partitionEqualOrdered_128.l0_k.step_j0 go ih a_0 x_1 x_9 x_10 r e
  | .l2 a_0 x_1 x_9 x_10 => slices_partitionEqualOrdered_128.l0_k.step_l2 go ih a_0 x_1 x_9 x_10 r e
  | .j3 a_0 x_1 x_9 x_10 => slices_partitionEqualOrdered_128.l0_k.step_j3 go ih a_0 x_1 x_9 x_10 r e
  | .j1 a_0 x_1 x_9 x_10 => slices_partitionEqualOrdered_128.l0_k.step_j1 go ih a_0 x_1 x_9 x_10 r e
  ) e
theorem slices_partitionEqualOrdered_128.l0.walk {W : Nat → Prop} {h0 m0 h m : Heap} {A_0 : Option Addr} {n_0 c_0 : Nat} {a_0 : List Int} {x_1 : Int} {x_9 : Int} {x_10 : Int} (O : Hold W h0 m0 h m [rR (aE (tell_int .i64)) A_0 c_0 a_0]) (ne_0 : n_0 = List.length a_0) {r : Int × (List Int)} (e : slices_partitionEqualOrdered_128.l0 a_0 x_1 x_9 x_10 = some r) : f128.l0 (slices_partitionEqualOrdered_128.post W A_0 n_0 c_0 h0 m0 r) A_0 n_0 c_0 x_1 x_9 x_10 h := slices_partitionEqualOrdered_128.l0_k.all (p := .l0 a_0 x_1 x_9 x_10) e W h0 m0 h m A_0 n_0 c_0 O ne_0
noncomputable def slices_partitionEqualOrdered_128 (a_0 : List Int) (x_1 : Int) (x_2 : Int) (x_3 : Int) : Option (Int × (List Int)) :=
  Option.bind (gi a_0 x_3) fun y1 => Option.bind (gi a_0 x_1) fun y8 => Option.bind (gi a_0 x_1) fun y15 => Option.bind (some (List.set a_0 (Int.toNat x_1) y1)) fun l24 => Option.bind (gi l24 x_3) fun y26 => Option.bind (some (List.set l24 (Int.toNat x_3) y8)) fun l35 => (slices_partitionEqualOrdered_128.l0 l35 x_1 (IntKind.wrap .i64 (x_1 + (1 : Int))) (IntKind.wrap .i64 (x_2 - (1 : Int))))
set_option maxRecDepth 100000 in
theorem slices_partitionEqualOrdered_128.walk {W : Nat → Prop} {h m : Heap} {A_0 : Option Addr} {n_0 c_0 : Nat} {a_0 : List Int} {x_1 : Int} {x_2 : Int} {x_3 : Int} (O : Hold W h m h m [rR (aE (tell_int .i64)) A_0 c_0 a_0]) (ne_0 : n_0 = List.length a_0) {r : Int × (List Int)} (e : slices_partitionEqualOrdered_128 a_0 x_1 x_2 x_3 = some r) : Run Try.prog 128 #[Value.slice A_0 n_0 c_0, Value.int .i64 x_1, Value.int .i64 x_2, Value.int .i64 x_3] h (slices_partitionEqualOrdered_128.post W A_0 n_0 c_0 h m r) := by
  unfold slices_partitionEqualOrdered_128 at e
  subst ne_0
  refine f128.run ?_
  unfold f128.runT
  obtain ⟨y1, g2, e⟩ := bind_e e
  refine (O.os 0 rfl).addr rfl g2 fun a3 cs4 ha5 hc6 he7 => ?_
  obtain rfl : cs4 = [(Value.int .i64 y1)] := he7
  obtain ⟨y8, g9, e⟩ := bind_e e
  refine (O.os 0 rfl).addr rfl g9 fun a10 cs11 ha12 hc13 he14 => ?_
  obtain rfl : cs11 = [(Value.int .i64 y8)] := he14
  refine ⟨_, ld0 (Sub.refl _) hc6 rfl, _, rfl, ?_⟩
  refine ⟨_, ld0 (Sub.refl _) hc13 rfl, _, rfl, ?_⟩
  obtain ⟨y15, g16, e⟩ := bind_e e
  refine (O.os 0 rfl).addr rfl g16 fun a17 cs18 ha19 hc20 he21 => ?_
  obtain rfl : cs18 = [(Value.int .i64 y15)] := he21
  obtain ⟨l24, g25, e⟩ := bind_e e
  replace g25 := Option.some.inj g25
  refine O.elst0 0 rfl g16 ha19 hc20 (by decide) (y' := y1) rfl trivial g25 fun h22 O23 => ?_
  obtain ⟨y26, g27, e⟩ := bind_e e
  refine (O23.os 0 rfl).addr (lset' g25) g27 fun a28 cs29 ha30 hc31 he32 => ?_
  obtain rfl : cs29 = [(Value.int .i64 y26)] := he32
  obtain ⟨l35, g36, e⟩ := bind_e e
  replace g36 := Option.some.inj g36
  refine O23.elst0 0 rfl g27 ha30 hc31 (by decide) (y' := y8) rfl trivial g36 fun h33 O34 => ?_
  have O37 := O34.nm
  exact slices_partitionEqualOrdered_128.l0.walk (O37.pick [0]).nm ((lset' g25).trans (lset' g36)) e
end Go.Proofs.Ythnlhffpmlgmfad.Fw

end
