/- Part 4: what the law CycleSays needs, put together out of texts of this session. -/
import Derived.Test.YthnlhffpmlgmfadZCycleSaysc
section
namespace Go.Proofs.Ythnlhffpmlgmfad.Fw
open Go Go.Hw Go.Proofs
set_option linter.unusedVariables false
set_option synthInstance.maxHeartbeats 400000
set_option synthInstance.maxSize 1000
structure T_api_Know where
  Ref : Int
  Awake : Bool
  Root : Bool
  Refs : (List Int)
def T_api_Know.E (h : Heap) (x : T_api_Know) (cs : List Value) : Prop := ∃ A3 c3, cs = [.int .i64 x.Ref, .bool x.Awake, .bool x.Root, .slice A3 x.Refs.length c3] ∧ x.Refs.length ≤ c3 ∧ Rd 1 (eInt .i64) h A3 x.Refs
theorem T_api_Know.T : Tell 4 T_api_Know.E := ⟨by rintro m h x _ s ⟨A3, c3, rfl, k3, r3⟩; exact ⟨_, _, rfl, k3, r3.sub (tell_int .i64) s⟩, by rintro h x _ ⟨A3, c3, rfl, k3, r3⟩; rfl, by rintro h x _ ⟨A3, c3, rfl, k3, r3⟩; exact Flats.cons trivial (Flats.cons trivial (Flats.cons trivial (Flats.cons trivial Flats.nil)))⟩
def T_api_Know.Q (x : T_api_Know) : Prop := (-9223372036854775808 ≤ x.Ref ∧ x.Ref ≤ 9223372036854775807) ∧ True ∧ True ∧ (x.Refs.length * 8 ≤ 140737488351232 ∧ ∀ a ∈ x.Refs, (-9223372036854775808 ≤ a ∧ a ≤ 9223372036854775807))
theorem T_api_Know.tells {H : Type} {enc : TypeId × Value → H} {W : World} : Tells enc Try.prog W 28 T_api_Know.E T_api_Know.Q := tells_map (tells_struct (t := 28) (fs := [(3, 0), (4, 1), (4, 2), (23, 3)]) (T := 4) (by kernel_rfl) (by kernel_rfl) (tf_cons (s := 1) (f := 3) (by kernel_rfl) (tells_i64 (t := 3) (by kernel_rfl)) (tf_cons (s := 1) (f := 4) (by kernel_rfl) (tells_bool (t := 4) (by kernel_rfl)) (tf_cons (s := 1) (f := 4) (by kernel_rfl) (tells_bool (t := 4) (by kernel_rfl)) (tf_cons (s := 1) (f := 23) (by kernel_rfl) (tells_sliceL (t := 23) (e := 3) (sz := 1) (B := 8) (by kernel_rfl) (by kernel_rfl) (by kernel_rfl) (tells_i64 (t := 3) (by kernel_rfl))) tf_nil))))) (by
  rintro ⟨x0, x1, x2, x3, ⟨⟩⟩ cs e q
  obtain ⟨c0, r0, rfl, e0, c1, r1, rfl, e1, c2, r2, rfl, e2, c3, r3, rfl, e3, eN⟩ := e
  obtain rfl : c0 = [.int .i64 x0] := e0
  obtain rfl : c1 = [.bool x1] := e1
  obtain rfl : c2 = [.bool x2] := e2
  obtain ⟨A3, k3, rfl, l3, R3⟩ := e3
  obtain rfl : r3 = [] := eN
  exact ⟨⟨x0, x1, x2, x3⟩, ⟨_, _, rfl, l3, R3⟩, q.1, q.2.1, q.2.2.1, q.2.2.2.1⟩)
theorem T_api_Know.g0 {m : Heap} {x : T_api_Know} {cs : List Value} (e : T_api_Know.E m x cs) : cs[0]? = some (Value.int .i64 x.Ref) := by
  obtain ⟨A3, c3, rfl, k3, r3⟩ := e
  exact rfl
theorem T_api_Know.g2 {m : Heap} {x : T_api_Know} {cs : List Value} (e : T_api_Know.E m x cs) : cs[2]? = some (Value.bool x.Root) := by
  obtain ⟨A3, c3, rfl, k3, r3⟩ := e
  exact rfl
theorem T_api_Know.g1 {m : Heap} {x : T_api_Know} {cs : List Value} (e : T_api_Know.E m x cs) : cs[1]? = some (Value.bool x.Awake) := by
  obtain ⟨A3, c3, rfl, k3, r3⟩ := e
  exact rfl
theorem T_api_Know.g3 {m : Heap} {x : T_api_Know} {cs : List Value} (e : T_api_Know.E m x cs) : ∃ A c, cs[3]? = some (.slice A (List.length x.Refs) c) ∧ List.length x.Refs ≤ c ∧ Rd 1 (eInt .i64) m A x.Refs := by
  obtain ⟨A3, c3, rfl, k3, r3⟩ := e
  exact ⟨_, _, rfl, k3, r3⟩
def cmp_isNaN_160.post (W : Nat → Prop) (h0 m0 : Heap) (r : Bool) (v : Value) (h : Heap) : Prop := ∃ m , Hold W h0 m0 h m [] ∧ v = .bool r
noncomputable def cmp_isNaN_160 (x_0 : Int) : Option (Bool) :=
  some ((x_0 != x_0))
set_option maxRecDepth 100000 in
theorem cmp_isNaN_160.walk {W : Nat → Prop} {h m : Heap} {x_0 : Int} (O : Hold W h m h m []) {r : Bool} (e : cmp_isNaN_160 x_0 = some r) : Run Try.prog 160 #[Value.int .i64 x_0] h (cmp_isNaN_160.post W h m r) := by
  unfold cmp_isNaN_160 at e
  refine f160.run ?_
  unfold f160.runT
  cases e
  exact ⟨_, O.pick [], rfl⟩
def cmp_Less_127.post (W : Nat → Prop) (h0 m0 : Heap) (r : Bool) (v : Value) (h : Heap) : Prop := ∃ m , Hold W h0 m0 h m [] ∧ v = .bool r
noncomputable def cmp_Less_127 (x_0 : Int) (x_1 : Int) : Option (Bool) :=
  Option.bind (cmp_isNaN_160 x_0) fun y1 => if y1 = true then (Option.bind (cmp_isNaN_160 x_1) fun y8 => if y8 = true then (some ((decide (x_0 < x_1)))) else (some (true))) else (some ((decide (x_0 < x_1))))
set_option maxRecDepth 100000 in
theorem cmp_Less_127.walk {W : Nat → Prop} {h m : Heap} {x_0 : Int} {x_1 : Int} (O : Hold W h m h m []) {r : Bool} (e : cmp_Less_127 x_0 x_1 = some r) : Run Try.prog 127 #[Value.int .i64 x_0, Value.int .i64 x_1] h (cmp_Less_127.post W h m r) := by
  unfold cmp_Less_127 at e
  refine f127.run ?_
  unfold f127.runT
  obtain ⟨y1, g2, e⟩ := bind_e e
  refine (cmp_isNaN_160.walk (Hold.start (W := No) O.s)  g2).mono ?_
  rintro _ h3 ⟨m4, Q5, rfl⟩
  have O7 := Hold.nm (O.retC Q5 vfs_nil)
  refine ⟨_, rfl, ?_⟩
  refine split_any_e e (fun c16 e => ?_) (fun c16 e => ?_)
  · obtain ⟨y8, g9, e⟩ := bind_e e
    refine (cmp_isNaN_160.walk (Hold.start (W := No) O7.s)  g9).mono ?_
    rintro _ h10 ⟨m11, Q12, rfl⟩
    have O14 := Hold.nm (O7.retC Q12 vfs_nil)
    refine ⟨_, rfl, ?_⟩
    refine split_not ?_
    refine split_any_e e (fun c15 e => ?_) (fun c15 e => ?_)
    · cases e
      exact ⟨_, O14.pick [], rfl⟩
    · cases e
      exact ⟨_, O14.pick [], rfl⟩
  · cases e
    exact ⟨_, O7.pick [], rfl⟩
def slices_insertionSortOrdered_121.post (W : Nat → Prop) (Asl0 : Option Addr) (nsl0 csl0 : Nat) (h0 m0 : Heap) (r : (List Int)) (v : Value) (h : Heap) : Prop := ∃ m , Hold W h0 m0 h m [rR (aE (tell_int .i64)) Asl0 csl0 r] ∧ v = .tuple #[] ∧ nsl0 = List.length r
inductive slices_insertionSortOrdered_121.l0_k.Pt where
  | l0 (a_0 : List Int) (x_1 : Int) (x_2 : Int) (x_6 : Int)
  | l1 (a_0 : List Int) (x_1 : Int) (x_2 : Int) (x_6 : Int) (x_7 : Int)
  | j1 (a_0 : List Int) (x_1 : Int) (x_2 : Int) (x_6 : Int) (x_7 : Int)
  | j0 (a_0 : List Int) (x_1 : Int) (x_2 : Int) (x_6 : Int)
noncomputable def slices_insertionSortOrdered_121.l0_k.body (go : (p : slices_insertionSortOrdered_121.l0_k.Pt) → Option ((List Int))) : (p : slices_insertionSortOrdered_121.l0_k.Pt) → Option ((List Int))
  | .l0 a_0 x_1 x_2 x_6 => if x_6 < x_2 then ((go (.l1 a_0 x_1 x_2 x_6 x_6))) else (some (a_0))
  | .l1 a_0 x_1 x_2 x_6 x_7 => if x_7 > x_1 then (Option.bind (gi a_0 x_7) fun y1 => Option.bind (gi a_0 (IntKind.wrap .i64 (x_7 - (1 : Int)))) fun y8 => Option.bind (cmp_Less_127 y1 y8) fun y15 => if y15 = true then ((go (.j1 a_0 x_1 x_2 x_6 x_7))) else ((go (.j0 a_0 x_1 x_2 x_6)))) else ((go (.j0 a_0 x_1 x_2 x_6)))
  | .j1 a_0 x_1 x_2 x_6 x_7 => Option.bind (gi a_0 (IntKind.wrap .i64 (x_7 - (1 : Int)))) fun y1 => Option.bind (gi a_0 x_7) fun y8 => Option.bind (gi a_0 x_7) fun y15 => Option.bind (some (List.set a_0 (Int.toNat x_7) y1)) fun l24 => Option.bind (gi l24 (IntKind.wrap .i64 (x_7 - (1 : Int)))) fun y26 => Option.bind (some (List.set l24 (Int.toNat (IntKind.wrap .i64 (x_7 - (1 : Int)))) y8)) fun l35 => (go (.l1 l35 x_1 x_2 x_6 (IntKind.wrap .i64 (x_7 - (1 : Int)))))
  | .j0 a_0 x_1 x_2 x_6 => (go (.l0 a_0 x_1 x_2 (IntKind.wrap .i64 (x_6 + (1 : Int)))))
attribute [local irreducible] cmp_Less_127 in
theorem slices_insertionSortOrdered_121.l0_k.mono : MonoF (β := fun _ => ((List Int))) slices_insertionSortOrdered_121.l0_k.body := fun f g hfg p => match p with
  | .l0 a_0 x_1 x_2 x_6 => LeO.ite ((hfg _)) (LeO.refl _)
  | .l1 a_0 x_1 x_2 x_6 x_7 => LeO.ite (LeO.bind (LeO.refl _) fun y1 => LeO.bind (LeO.refl _) fun y8 => LeO.bind (LeO.refl _) fun y15 => LeO.ite ((hfg _)) ((hfg _))) ((hfg _))
  | .j1 a_0 x_1 x_2 x_6 x_7 => LeO.bind (LeO.refl _) fun y1 => LeO.bind (LeO.refl _) fun y8 => LeO.bind (LeO.refl _) fun y15 => LeO.bind (LeO.refl _) fun l24 => LeO.bind (LeO.refl _) fun y26 => LeO.bind (LeO.refl _) fun l35 => (hfg _)
  | .j0 a_0 x_1 x_2 x_6 => (hfg _)
noncomputable def slices_insertionSortOrdered_121.l0_k.go (p : slices_insertionSortOrdered_121.l0_k.Pt) : Option ((List Int)) := fixF (β := fun _ => ((List Int))) slices_insertionSortOrdered_121.l0_k.body p
noncomputable def slices_insertionSortOrdered_121.l0 (a_0 : List Int) (x_1 : Int) (x_2 : Int) (x_6 : Int) : Option ((List Int)) := slices_insertionSortOrdered_121.l0_k.go (.l0 a_0 x_1 x_2 x_6)
noncomputable def slices_insertionSortOrdered_121.l1 (a_0 : List Int) (x_1 : Int) (x_2 : Int) (x_6 : Int) (x_7 : Int) : Option ((List Int)) := slices_insertionSortOrdered_121.l0_k.go (.l1 a_0 x_1 x_2 x_6 x_7)
noncomputable def slices_insertionSortOrdered_121.j1 (a_0 : List Int) (x_1 : Int) (x_2 : Int) (x_6 : Int) (x_7 : Int) : Option ((List Int)) := slices_insertionSortOrdered_121.l0_k.go (.j1 a_0 x_1 x_2 x_6 x_7)
noncomputable def slices_insertionSortOrdered_121.j0 (a_0 : List Int) (x_1 : Int) (x_2 : Int) (x_6 : Int) : Option ((List Int)) := slices_insertionSortOrdered_121.l0_k.go (.j0 a_0 x_1 x_2 x_6)
theorem slices_insertionSortOrdered_121.l0_eq (a_0 : List Int) (x_1 : Int) (x_2 : Int) (x_6 : Int) : slices_insertionSortOrdered_121.l0 a_0 x_1 x_2 x_6 = if x_6 < x_2 then ((slices_insertionSortOrdered_121.l1 a_0 x_1 x_2 x_6 x_6)) else (some (a_0)) := fixF_eq slices_insertionSortOrdered_121.l0_k.mono _
theorem slices_insertionSortOrdered_121.l1_eq (a_0 : List Int) (x_1 : Int) (x_2 : Int) (x_6 : Int) (x_7 : Int) : slices_insertionSortOrdered_121.l1 a_0 x_1 x_2 x_6 x_7 = if x_7 > x_1 then (Option.bind (gi a_0 x_7) fun y1 => Option.bind (gi a_0 (IntKind.wrap .i64 (x_7 - (1 : Int)))) fun y8 => Option.bind (cmp_Less_127 y1 y8) fun y15 => if y15 = true then ((slices_insertionSortOrdered_121.j1 a_0 x_1 x_2 x_6 x_7)) else ((slices_insertionSortOrdered_121.j0 a_0 x_1 x_2 x_6))) else ((slices_insertionSortOrdered_121.j0 a_0 x_1 x_2 x_6)) := fixF_eq slices_insertionSortOrdered_121.l0_k.mono _
theorem slices_insertionSortOrdered_121.j1_eq (a_0 : List Int) (x_1 : Int) (x_2 : Int) (x_6 : Int) (x_7 : Int) : slices_insertionSortOrdered_121.j1 a_0 x_1 x_2 x_6 x_7 = Option.bind (gi a_0 (IntKind.wrap .i64 (x_7 - (1 : Int)))) fun y1 => Option.bind (gi a_0 x_7) fun y8 => Option.bind (gi a_0 x_7) fun y15 => Option.bind (some (List.set a_0 (Int.toNat x_7) y1)) fun l24 => Option.bind (gi l24 (IntKind.wrap .i64 (x_7 - (1 : Int)))) fun y26 => Option.bind (some (List.set l24 (Int.toNat (IntKind.wrap .i64 (x_7 - (1 : Int)))) y8)) fun l35 => (slices_insertionSortOrdered_121.l1 l35 x_1 x_2 x_6 (IntKind.wrap .i64 (x_7 - (1 : Int)))) := fixF_eq slices_insertionSortOrdered_121.l0_k.mono _
theorem slices_insertionSortOrdered_121.j0_eq (a_0 : List Int) (x_1 : Int) (x_2 : Int) (x_6 : Int) : slices_insertionSortOrdered_121.j0 a_0 x_1 x_2 x_6 = (slices_insertionSortOrdered_121.l0 a_0 x_1 x_2 (IntKind.wrap .i64 (x_6 + (1 : Int)))) := fixF_eq slices_insertionSortOrdered_121.l0_k.mono _
def slices_insertionSortOrdered_121.l0_k.I : (p : slices_insertionSortOrdered_121.l0_k.Pt) → ((List Int)) → Prop
  | .l0 a_0 x_1 x_2 x_6, r => ∀ (W : Nat → Prop) (h0 m0 h m : Heap) (A_0 : Option Addr) (n_0 c_0 : Nat) (O : Hold W h0 m0 h m [rR (aE (tell_int .i64)) A_0 c_0 a_0]) (ne_0 : n_0 = List.length a_0), f121.l0 (slices_insertionSortOrdered_121.post W A_0 n_0 c_0 h0 m0 r) A_0 n_0 c_0 x_1 x_2 x_6 h
  | .l1 a_0 x_1 x_2 x_6 x_7, r => ∀ (W : Nat → Prop) (h0 m0 h m : Heap) (A_0 : Option Addr) (n_0 c_0 : Nat) (O : Hold W h0 m0 h m [rR (aE (tell_int .i64)) A_0 c_0 a_0]) (ne_0 : n_0 = List.length a_0), f121.l1 (slices_insertionSortOrdered_121.post W A_0 n_0 c_0 h0 m0 r) A_0 n_0 c_0 x_1 x_2 x_6 x_7 h
  | .j1 a_0 x_1 x_2 x_6 x_7, r => ∀ (W : Nat → Prop) (h0 m0 h m : Heap) (A_0 : Option Addr) (n_0 c_0 : Nat) (O : Hold W h0 m0 h m [rR (aE (tell_int .i64)) A_0 c_0 a_0]) (ne_0 : n_0 = List.length a_0), f121.j1 (slices_insertionSortOrdered_121.post W A_0 n_0 c_0 h0 m0 r) A_0 n_0 c_0 x_1 x_2 x_6 x_7 h
  | .j0 a_0 x_1 x_2 x_6, r => ∀ (W : Nat → Prop) (h0 m0 h m : Heap) (A_0 : Option Addr) (n_0 c_0 : Nat) (O : Hold W h0 m0 h m [rR (aE (tell_int .i64)) A_0 c_0 a_0]) (ne_0 : n_0 = List.length a_0), f121.j0 (slices_insertionSortOrdered_121.post W A_0 n_0 c_0 h0 m0 r) A_0 n_0 c_0 x_1 x_2 x_6 h
set_option maxRecDepth 100000 in
theorem slices_insertionSortOrdered_121.l0_k.step_l0 (go : (p : slices_insertionSortOrdered_121.l0_k.Pt) → Option ((List Int))) (ih : ∀ p r, go p = some r → slices_insertionSortOrdered_121.l0_k.I p r) (a_0 : List Int) (x_1 : Int) (x_2 : Int) (x_6 : Int) (r : (List Int)) (e : slices_insertionSortOrdered_121.l0_k.body go (.l0 a_0 x_1 x_2 x_6) = some r) : slices_insertionSortOrdered_121.l0_k.I (.l0 a_0 x_1 x_2 x_6) r := by
  unfold slices_insertionSortOrdered_121.l0_k.body at e
  intro W h0 m0 h m A_0 n_0 c_0 O ne_0
  subst ne_0
  refine f121.l0_in ?_
  unfold f121.l0T
  refine split_dec_e e (fun c1 e => ?_) (fun c1 e => ?_)
  · exact (ih _ _ e) _ _ _ _ _ _ _ _ (O.pick [0]).nm rfl
  · cases e
    exact ⟨_, O.pick [0], rfl, rfl⟩
set_option maxRecDepth 100000 in
theorem slices_insertionSortOrdered_121.l0_k.step_l1 (go : (p : slices_insertionSortOrdered_121.l0_k.Pt) → Option ((List Int))) (ih : ∀ p r, go p = some r → slices_insertionSortOrdered_121.l0_k.I p r) (a_0 : List Int) (x_1 : Int) (x_2 : Int) (x_6 : Int) (x_7 : Int) (r : (List Int)) (e : slices_insertionSortOrdered_121.l0_k.body go (.l1 a_0 x_1 x_2 x_6 x_7) = some r) : slices_insertionSortOrdered_121.l0_k.I (.l1 a_0 x_1 x_2 x_6 x_7) r := by
  unfold slices_insertionSortOrdered_121.l0_k.body at e
  intro W h0 m0 h m A_0 n_0 c_0 O ne_0
  subst ne_0
  refine f121.l1_in ?_
  unfold f121.l1T
  refine split_dec_e e (fun c23 e => ?_) (fun c23 e => ?_)
  · obtain ⟨y1, g2, e⟩ := bind_e e
    refine (O.os 0 rfl).addr rfl g2 fun a3 cs4 ha5 hc6 he7 => ?_
    obtain rfl : cs4 = [(Value.int .i64 y1)] := he7
    obtain ⟨y8, g9, e⟩ := bind_e e
    refine (O.os 0 rfl).addr rfl g9 fun a10 cs11 ha12 hc13 he14 => ?_
    obtain rfl : cs11 = [(Value.int .i64 y8)] := he14
    refine ⟨_, ld0 (Sub.refl _) hc6 rfl, _, rfl, ?_⟩
    refine ⟨_, ld0 (Sub.refl _) hc13 rfl, _, rfl, ?_⟩
    obtain ⟨y15, g16, e⟩ := bind_e e
    refine (cmp_Less_127.walk (Hold.start (W := No) O.s)  g16).mono ?_
    rintro _ h17 ⟨m18, Q19, rfl⟩
    have O21 := Hold.nm (O.retC Q19 vfs_nil)
    refine ⟨_, rfl, ?_⟩
    refine split_any_e e (fun c22 e => ?_) (fun c22 e => ?_)
    · exact (ih _ _ e) _ _ _ _ _ _ _ _ (O21.pick [0]).nm rfl
    · exact (ih _ _ e) _ _ _ _ _ _ _ _ (O21.pick [0]).nm rfl
  · exact (ih _ _ e) _ _ _ _ _ _ _ _ (O.pick [0]).nm rfl
set_option maxRecDepth 100000 in
theorem slices_insertionSortOrdered_121.l0_k.step_j1 (go : (p : slices_insertionSortOrdered_121.l0_k.Pt) → Option ((List Int))) (ih : ∀ p r, go p = some r → slices_insertionSortOrdered_121.l0_k.I p r) (a_0 : List Int) (x_1 : Int) (x_2 : Int) (x_6 : Int) (x_7 : Int) (r : (List Int)) (e : slices_insertionSortOrdered_121.l0_k.body go (.j1 a_0 x_1 x_2 x_6 x_7) = some r) : slices_insertionSortOrdered_121.l0_k.I (.j1 a_0 x_1 x_2 x_6 x_7) r := by
  unfold slices_insertionSortOrdered_121.l0_k.body at e
  intro W h0 m0 h m A_0 n_0 c_0 O ne_0
  subst ne_0
  refine f121.j1_in ?_
  unfold f121.j1T
  obtain ⟨y1, g2, e⟩ := bind_e e
  refine (O.os 0 rfl).addr rfl g2 fun a3 cs4 ha5 hc6 he7 => ?_
  obtain rfl : cs4 = [(Value.int .i64 y1)] := he7
  obtain ⟨y8, g9, e⟩ := bind_e e
  refine (O.os 0 rfl).addr rfl g9 fun a10 cs11 ha12 hc13 he14 => ?_
  obtain rfl : cs11 = [(Value.int .i64 y8)] := he14
  refine ⟨_, ld0 (Sub.refl _) hc6 rfl, _, rfl, ?_⟩
  refine ⟨_, ld0 (Sub.refl _) hc13 rfl, _, rfl, ?_⟩
  obtain ⟨y15, g16, e⟩ := bind_e e
  refine (O.os 0 rfl).addr rfl g16 fun a17 cs18 ha19 hc20 he21 => ?_
  obtain rfl : cs18 = [(Value.int .i64 y15)] := he21
  obtain ⟨l24, g25, e⟩ := bind_e e
  replace g25 := Option.some.inj g25
  refine O.elst0 0 rfl g16 ha19 hc20 (by decide) (y' := y1) rfl trivial g25 fun h22 O23 => ?_
  obtain ⟨y26, g27, e⟩ := bind_e e
  refine (O23.os 0 rfl).addr (lset' g25) g27 fun a28 cs29 ha30 hc31 he32 => ?_
  obtain rfl : cs29 = [(Value.int .i64 y26)] := he32
  obtain ⟨l35, g36, e⟩ := bind_e e
  replace g36 := Option.some.inj g36
  refine O23.elst0 0 rfl g27 ha30 hc31 (by decide) (y' := y8) rfl trivial g36 fun h33 O34 => ?_
  have O37 := O34.nm
  exact (ih _ _ e) _ _ _ _ _ _ _ _ (O37.pick [0]).nm ((lset' g25).trans (lset' g36))
set_option maxRecDepth 100000 in
theorem slices_insertionSortOrdered_121.l0_k.step_j0 (go : (p : slices_insertionSortOrdered_121.l0_k.Pt) → Option ((List Int))) (ih : ∀ p r, go p = some r → slices_insertionSortOrdered_121.l0_k.I p r) (a_0 : List Int) (x_1 : Int) (x_2 : Int) (x_6 : Int) (r : (List Int)) (e : slices_insertionSortOrdered_121.l0_k.body go (.j0 a_0 x_1 x_2 x_6) = some r) : slices_insertionSortOrdered_121.l0_k.I (.j0 a_0 x_1 x_2 x_6) r := by
  unfold slices_insertionSortOrdered_121.l0_k.body at e
  intro W h0 m0 h m A_0 n_0 c_0 O ne_0
  subst ne_0
  refine f121.j0_in ?_
  unfold f121.j0T
  exact (ih _ _ e) _ _ _ _ _ _ _ _ (O.pick [0]).nm rfl
theorem slices_insertionSortOrdered_121.l0_k.all {p : slices_insertionSortOrdered_121.l0_k.Pt} {r : ((List Int))} (e : slices_insertionSortOrdered_121.l0_k.go p = some r) : slices_insertionSortOrdered_121.l0_k.I p r := fixF_ind (β := fun _ => ((List Int))) slices_insertionSortOrdered_121.l0_k.mono (I := slices_insertionSortOrdered_121.l0_k.I) (fun go ih p r e => match p with
  | .l0 a_0 x_1 x_2 x_6 => slices_insertionSortOrdered_121.l0_k.step_l0 go ih a_0 x_1 x_2 x_6 r e
  | .l1 a_0 x_1 x_2 x_6 x_7 => slices_insertionSortOrdered_121.l0_k.step_l1 go ih a_0 x_1 x_2 x_6 x_7 r e
  | .j1 a_0 x_1 x_2 x_6 x_7 => slices_insertionSortOrdered_121.l0_k.step_j1 go ih a_0 x_1 x_2 x_6 x_7 r e
  | .j0 a_0 x_1 x_2 x_6 => slices_insertionSortOrdered_121.l0_k.step_j0 go ih a_0 x_1 x_2 x_6 r e
  ) e
theorem slices_insertionSortOrdered_121.l0.walk {W : Nat → Prop} {h0 m0 h m : Heap} {A_0 : Option Addr} {n_0 c_0 : Nat} {a_0 : List Int} {x_1 : Int} {x_2 : Int} {x_6 : Int} (O : Hold W h0 m0 h m [rR (aE (tell_int .i64)) A_0 c_0 a_0]) (ne_0 : n_0 = List.length a_0) {r : (List Int)} (e : slices_insertionSortOrdered_121.l0 a_0 x_1 x_2 x_6 = some r) : f121.l0 (slices_insertionSortOrdered_121.post W A_0 n_0 c_0 h0 m0 r) A_0 n_0 c_0 x_1 x_2 x_6 h := slices_insertionSortOrdered_121.l0_k.all (p := .l0 a_0 x_1 x_2 x_6) e W h0 m0 h m A_0 n_0 c_0 O ne_0
noncomputable def slices_insertionSortOrdered_121 (a_0 : List Int) (x_1 : Int) (x_2 : Int) : Option ((List Int)) :=
  (slices_insertionSortOrdered_121.l0 a_0 x_1 x_2 (IntKind.wrap .i64 (x_1 + (1 : Int))))
set_option maxRecDepth 100000 in
theorem slices_insertionSortOrdered_121.walk {W : Nat → Prop} {h m : Heap} {A_0 : Option Addr} {n_0 c_0 : Nat} {a_0 : List Int} {x_1 : Int} {x_2 : Int} (O : Hold W h m h m [rR (aE (tell_int .i64)) A_0 c_0 a_0]) (ne_0 : n_0 = List.length a_0) {r : (List Int)} (e : slices_insertionSortOrdered_121 a_0 x_1 x_2 = some r) : Run Try.prog 121 #[Value.slice A_0 n_0 c_0, Value.int .i64 x_1, Value.int .i64 x_2] h (slices_insertionSortOrdered_121.post W A_0 n_0 c_0 h m r) := by
  unfold slices_insertionSortOrdered_121 at e
  subst ne_0
  refine f121.run ?_
  unfold f121.runT
  exact slices_insertionSortOrdered_121.l0.walk (O.pick [0]).nm rfl e
def slices_siftDownOrdered_155.post (W : Nat → Prop) (Asl0 : Option Addr) (nsl0 csl0 : Nat) (h0 m0 : Heap) (r : (List Int)) (v : Value) (h : Heap) : Prop := ∃ m , Hold W h0 m0 h m [rR (aE (tell_int .i64)) Asl0 csl0 r] ∧ v = .tuple #[] ∧ nsl0 = List.length r
inductive slices_siftDownOrdered_155.l0_k.Pt where
  | l0 (a_0 : List Int) (x_2 : Int) (x_3 : Int) (x_8 : Int)
  | j1 (a_0 : List Int) (x_2 : Int) (x_3 : Int) (x_8 : Int) (x_9 : Int) (b_36 : Bool)
  | j0 (a_0 : List Int) (x_2 : Int) (x_3 : Int) (x_8 : Int) (x_9 : Int)
noncomputable def slices_siftDownOrdered_155.l0_k.body (go : (p : slices_siftDownOrdered_155.l0_k.Pt) → Option ((List Int))) : (p : slices_siftDownOrdered_155.l0_k.Pt) → Option ((List Int))
  | .l0 a_0 x_2 x_3 x_8 => if (IntKind.wrap .i64 ((IntKind.wrap .i64 ((2 : Int) * x_8)) + (1 : Int))) ≥ x_2 then (some (a_0)) else (if (IntKind.wrap .i64 ((IntKind.wrap .i64 ((IntKind.wrap .i64 ((2 : Int) * x_8)) + (1 : Int))) + (1 : Int))) < x_2 then (Option.bind (gi a_0 (IntKind.wrap .i64 (x_3 + (IntKind.wrap .i64 ((IntKind.wrap .i64 ((2 : Int) * x_8)) + (1 : Int)))))) fun y1 => Option.bind (gi a_0 (IntKind.wrap .i64 ((IntKind.wrap .i64 (x_3 + (IntKind.wrap .i64 ((IntKind.wrap .i64 ((2 : Int) * x_8)) + (1 : Int))))) + (1 : Int)))) fun y8 => Option.bind (cmp_Less_127 y1 y8) fun y15 => (go (.j1 a_0 x_2 x_3 x_8 (IntKind.wrap .i64 ((IntKind.wrap .i64 ((2 : Int) * x_8)) + (1 : Int))) y15))) else ((go (.j1 a_0 x_2 x_3 x_8 (IntKind.wrap .i64 ((IntKind.wrap .i64 ((2 : Int) * x_8)) + (1 : Int))) false))))
  | .j1 a_0 x_2 x_3 x_8 x_9 b_36 => if b_36 = true then ((go (.j0 a_0 x_2 x_3 x_8 (IntKind.wrap .i64 (x_9 + (1 : Int)))))) else ((go (.j0 a_0 x_2 x_3 x_8 x_9)))
  | .j0 a_0 x_2 x_3 x_8 x_9 => Option.bind (gi a_0 (IntKind.wrap .i64 (x_3 + x_8))) fun y1 => Option.bind (gi a_0 (IntKind.wrap .i64 (x_3 + x_9))) fun y8 => Option.bind (cmp_Less_127 y1 y8) fun y15 => if y15 = true then (Option.bind (gi a_0 (IntKind.wrap .i64 (x_3 + x_9))) fun y22 => Option.bind (gi a_0 (IntKind.wrap .i64 (x_3 + x_8))) fun y29 => Option.bind (gi a_0 (IntKind.wrap .i64 (x_3 + x_8))) fun y36 => Option.bind (some (List.set a_0 (Int.toNat (IntKind.wrap .i64 (x_3 + x_8))) y22)) fun l45 => Option.bind (gi l45 (IntKind.wrap .i64 (x_3 + x_9))) fun y47 => Option.bind (some (List.set l45 (Int.toNat (IntKind.wrap .i64 (x_3 + x_9))) y29)) fun l56 => (go (.l0 l56 x_2 x_3 x_9))) else (some (a_0))
attribute [local irreducible] cmp_Less_127 in
theorem slices_siftDownOrdered_155.l0_k.mono : MonoF (β := fun _ => ((List Int))) slices_siftDownOrdered_155.l0_k.body := fun f g hfg p => match p with
  | .l0 a_0 x_2 x_3 x_8 => LeO.ite (LeO.refl _) (LeO.ite (LeO.bind (LeO.refl _) fun y1 => LeO.bind (LeO.refl _) fun y8 => LeO.bind (LeO.refl _) fun y15 => (hfg _)) ((hfg _)))
  | .j1 a_0 x_2 x_3 x_8 x_9 b_36 => LeO.ite ((hfg _)) ((hfg _))
  | .j0 a_0 x_2 x_3 x_8 x_9 => LeO.bind (LeO.refl _) fun y1 => LeO.bind (LeO.refl _) fun y8 => LeO.bind (LeO.refl _) fun y15 => LeO.ite (LeO.bind (LeO.refl _) fun y22 => LeO.bind (LeO.refl _) fun y29 => LeO.bind (LeO.refl _) fun y36 => LeO.bind (LeO.refl _) fun l45 => LeO.bind (LeO.refl _) fun y47 => LeO.bind (LeO.refl _) fun l56 => (hfg _)) (LeO.refl _)
noncomputable def slices_siftDownOrdered_155.l0_k.go (p : slices_siftDownOrdered_155.l0_k.Pt) : Option ((List Int)) := fixF (β := fun _ => ((List Int))) slices_siftDownOrdered_155.l0_k.body p
noncomputable def slices_siftDownOrdered_155.l0 (a_0 : List Int) (x_2 : Int) (x_3 : Int) (x_8 : Int) : Option ((List Int)) := slices_siftDownOrdered_155.l0_k.go (.l0 a_0 x_2 x_3 x_8)
noncomputable def slices_siftDownOrdered_155.j1 (a_0 : List Int) (x_2 : Int) (x_3 : Int) (x_8 : Int) (x_9 : Int) (b_36 : Bool) : Option ((List Int)) := slices_siftDownOrdered_155.l0_k.go (.j1 a_0 x_2 x_3 x_8 x_9 b_36)
noncomputable def slices_siftDownOrdered_155.j0 (a_0 : List Int) (x_2 : Int) (x_3 : Int) (x_8 : Int) (x_9 : Int) : Option ((List Int)) := slices_siftDownOrdered_155.l0_k.go (.j0 a_0 x_2 x_3 x_8 x_9)
theorem slices_siftDownOrdered_155.l0_eq (a_0 : List Int) (x_2 : Int) (x_3 : Int) (x_8 : Int) : slices_siftDownOrdered_155.l0 a_0 x_2 x_3 x_8 = if (IntKind.wrap .i64 ((IntKind.wrap .i64 ((2 : Int) * x_8)) + (1 : Int))) ≥ x_2 then (some (a_0)) else (if (IntKind.wrap .i64 ((IntKind.wrap .i64 ((IntKind.wrap .i64 ((2 : Int) * x_8)) + (1 : Int))) + (1 : Int))) < x_2 then (Option.bind (gi a_0 (IntKind.wrap .i64 (x_3 + (IntKind.wrap .i64 ((IntKind.wrap .i64 ((2 : Int) * x_8)) + (1 : Int)))))) fun y1 => Option.bind (gi a_0 (IntKind.wrap .i64 ((IntKind.wrap .i64 (x_3 + (IntKind.wrap .i64 ((IntKind.wrap .i64 ((2 : Int) * x_8)) + (1 : Int))))) + (1 : Int)))) fun y8 => Option.bind (cmp_Less_127 y1 y8) fun y15 => (slices_siftDownOrdered_155.j1 a_0 x_2 x_3 x_8 (IntKind.wrap .i64 ((IntKind.wrap .i64 ((2 : Int) * x_8)) + (1 : Int))) y15)) else ((slices_siftDownOrdered_155.j1 a_0 x_2 x_3 x_8 (IntKind.wrap .i64 ((IntKind.wrap .i64 ((2 : Int) * x_8)) + (1 : Int))) false))) := fixF_eq slices_siftDownOrdered_155.l0_k.mono _
theorem slices_siftDownOrdered_155.j1_eq (a_0 : List Int) (x_2 : Int) (x_3 : Int) (x_8 : Int) (x_9 : Int) (b_36 : Bool) : slices_siftDownOrdered_155.j1 a_0 x_2 x_3 x_8 x_9 b_36 = if b_36 = true then ((slices_siftDownOrdered_155.j0 a_0 x_2 x_3 x_8 (IntKind.wrap .i64 (x_9 + (1 : Int))))) else ((slices_siftDownOrdered_155.j0 a_0 x_2 x_3 x_8 x_9)) := fixF_eq slices_siftDownOrdered_155.l0_k.mono _
theorem slices_siftDownOrdered_155.j0_eq (a_0 : List Int) (x_2 : Int) (x_3 : Int) (x_8 : Int) (x_9 : Int) : slices_siftDownOrdered_155.j0 a_0 x_2 x_3 x_8 x_9 = Option.bind (gi a_0 (IntKind.wrap .i64 (x_3 + x_8))) fun y1 => Option.bind (gi a_0 (IntKind.wrap .i64 (x_3 + x_9))) fun y8 => Option.bind (cmp_Less_127 y1 y8) fun y15 => if y15 = true then (Option.bind (gi a_0 (IntKind.wrap .i64 (x_3 + x_9))) fun y22 => Option.bind (gi a_0 (IntKind.wrap .i64 (x_3 + x_8))) fun y29 => Option.bind (gi a_0 (IntKind.wrap .i64 (x_3 + x_8))) fun y36 => Option.bind (some (List.set a_0 (Int.toNat (IntKind.wrap .i64 (x_3 + x_8))) y22)) fun l45 => Option.bind (gi l45 (IntKind.wrap .i64 (x_3 + x_9))) fun y47 => Option.bind (some (List.set l45 (Int.toNat (IntKind.wrap .i64 (x_3 + x_9))) y29)) fun l56 => (slices_siftDownOrdered_155.l0 l56 x_2 x_3 x_9)) else (some (a_0)) := fixF_eq slices_siftDownOrdered_155.l0_k.mono _
def slices_siftDownOrdered_155.l0_k.I : (p : slices_siftDownOrdered_155.l0_k.Pt) → ((List Int)) → Prop
  | .l0 a_0 x_2 x_3 x_8, r => ∀ (W : Nat → Prop) (h0 m0 h m : Heap) (A_0 : Option Addr) (n_0 c_0 : Nat) (O : Hold W h0 m0 h m [rR (aE (tell_int .i64)) A_0 c_0 a_0]) (ne_0 : n_0 = List.length a_0), f155.l0 (slices_siftDownOrdered_155.post W A_0 n_0 c_0 h0 m0 r) A_0 n_0 c_0 x_2 x_3 x_8 h
  | .j1 a_0 x_2 x_3 x_8 x_9 b_36, r => ∀ (W : Nat → Prop) (h0 m0 h m : Heap) (A_0 : Option Addr) (n_0 c_0 : Nat) (O : Hold W h0 m0 h m [rR (aE (tell_int .i64)) A_0 c_0 a_0]) (ne_0 : n_0 = List.length a_0), f155.j1 (slices_siftDownOrdered_155.post W A_0 n_0 c_0 h0 m0 r) A_0 n_0 c_0 x_2 x_3 x_8 x_9 b_36 h
  | .j0 a_0 x_2 x_3 x_8 x_9, r => ∀ (W : Nat → Prop) (h0 m0 h m : Heap) (A_0 : Option Addr) (n_0 c_0 : Nat) (O : Hold W h0 m0 h m [rR (aE (tell_int .i64)) A_0 c_0 a_0]) (ne_0 : n_0 = List.length a_0), f155.j0 (slices_siftDownOrdered_155.post W A_0 n_0 c_0 h0 m0 r) A_0 n_0 c_0 x_2 x_3 x_8 x_9 h
set_option maxRecDepth 100000 in
theorem slices_siftDownOrdered_155.l0_k.step_l0 (go : (p : slices_siftDownOrdered_155.l0_k.Pt) → Option ((List Int))) (ih : ∀ p r, go p = some r → slices_siftDownOrdered_155.l0_k.I p r) (a_0 : List Int) (x_2 : Int) (x_3 : Int) (x_8 : Int) (r : (List Int)) (e : slices_siftDownOrdered_155.l0_k.body go (.l0 a_0 x_2 x_3 x_8) = some r) : slices_siftDownOrdered_155.l0_k.I (.l0 a_0 x_2 x_3 x_8) r := by
  unfold slices_siftDownOrdered_155.l0_k.body at e
  intro W h0 m0 h m A_0 n_0 c_0 O ne_0
  subst ne_0
  refine f155.l0_in ?_
  unfold f155.l0T
  refine split_dec_e e (fun c23 e => ?_) (fun c23 e => ?_)
  · cases e
    exact ⟨_, O.pick [0], rfl, rfl⟩
  · refine split_dec_e e (fun c22 e => ?_) (fun c22 e => ?_)
    · obtain ⟨y1, g2, e⟩ := bind_e e
      refine (O.os 0 rfl).addr rfl g2 fun a3 cs4 ha5 hc6 he7 => ?_
      obtain rfl : cs4 = [(Value.int .i64 y1)] := he7
      obtain ⟨y8, g9, e⟩ := bind_e e
      refine (O.os 0 rfl).addr rfl g9 fun a10 cs11 ha12 hc13 he14 => ?_
      obtain rfl : cs11 = [(Value.int .i64 y8)] := he14
      refine ⟨_, ld0 (Sub.refl _) hc6 rfl, _, rfl, ?_⟩
      refine ⟨_, ld0 (Sub.refl _) hc13 rfl, _, rfl, ?_⟩
      obtain ⟨y15, g16, e⟩ := bind_e e
      refine (cmp_Less_127.walk (Hold.start (W := No) O.s)  g16).mono ?_
      rintro _ h17 ⟨m18, Q19, rfl⟩
      have O21 := Hold.nm (O.retC Q19 vfs_nil)
      refine ⟨_, rfl, ?_⟩
      exact (ih _ _ e) _ _ _ _ _ _ _ _ (O21.pick [0]).nm rfl
    · exact (ih _ _ e) _ _ _ _ _ _ _ _ (O.pick [0]).nm rfl
set_option maxRecDepth 100000 in
theorem slices_siftDownOrdered_155.l0_k.step_j1 (go : (p : slices_siftDownOrdered_155.l0_k.Pt) → Option ((List Int))) (ih : ∀ p r, go p = some r → slices_siftDownOrdered_155.l0_k.I p r) (a_0 : List Int) (x_2 : Int) (x_3 : Int) (x_8 : Int) (x_9 : Int) (b_36 : Bool) (r : (List Int)) (e : slices_siftDownOrdered_155.l0_k.body go (.j1 a_0 x_2 x_3 x_8 x_9 b_36) = some r) : slices_siftDownOrdered_155.l0_k.I (.j1 a_0 x_2 x_3 x_8 x_9 b_36) r := by
  unfold slices_siftDownOrdered_155.l0_k.body at e
  intro W h0 m0 h m A_0 n_0 c_0 O ne_0
  subst ne_0
  refine f155.j1_in ?_
  unfold f155.j1T
  refine split_any_e e (fun c1 e => ?_) (fun c1 e => ?_)
  · exact (ih _ _ e) _ _ _ _ _ _ _ _ (O.pick [0]).nm rfl
  · exact (ih _ _ e) _ _ _ _ _ _ _ _ (O.pick [0]).nm rfl
set_option maxHeartbeats 4000000 in
set_option maxRecDepth 100000 in
theorem slices_siftDownOrdered_155.l0_k.step_j0 (go : (p : slices_siftDownOrdered_155.l0_k.Pt) → Option ((List Int))) (ih : ∀ p r, go p = some r → slices_siftDownOrdered_155.l0_k.I p r) (a_0 : List Int) (x_2 : Int) (x_3 : Int) (x_8 : Int) (x_9 : Int) (r : (List Int)) (e : slices_siftDownOrdered_155.l0_k.body go (.j0 a_0 x_2 x_3 x_8 x_9) = some r) : slices_siftDownOrdered_155.l0_k.I (.j0 a_0 x_2 x_3 x_8 x_9) r := by
  unfold slices_siftDownOrdered_155.l0_k.body at e
  intro W h0 m0 h m A_0 n_0 c_0 O ne_0
  subst ne_0
  refine f155.j0_in ?_
  unfold f155.j0T
  obtain ⟨y1, g2, e⟩ := bind_e e
  refine (O.os 0 rfl).addr rfl g2 fun a3 cs4 ha5 hc6 he7 => ?_
  obtain rfl : cs4 = [(Value.int .i64 y1)] := he7
  obtain ⟨y8, g9, e⟩ := bind_e e
  refine (O.os 0 rfl).addr rfl g9 fun a10 cs11 ha12 hc13 he14 => ?_
  obtain rfl : cs11 = [(Value.int .i64 y8)] := he14
  refine ⟨_, ld0 (Sub.refl _) hc6 rfl, _, rfl, ?_⟩
  refine ⟨_, ld0 (Sub.refl _) hc13 rfl, _, rfl, ?_⟩
  obtain ⟨y15, g16, e⟩ := bind_e e
  refine (cmp_Less_127.walk (Hold.start (W := No) O.s)  g16).mono ?_
  rintro _ h17 ⟨m18, Q19, rfl⟩
  have O21 := Hold.nm (O.retC Q19 vfs_nil)
  refine ⟨_, rfl, ?_⟩
  refine split_not ?_
  refine split_any_e e (fun c59 e => ?_) (fun c59 e => ?_)
  · obtain ⟨y22, g23, e⟩ := bind_e e
    refine (O21.os 0 rfl).addr rfl g23 fun a24 cs25 ha26 hc27 he28 => ?_
    obtain rfl : cs25 = [(Value.int .i64 y22)] := he28
    obtain ⟨y29, g30, e⟩ := bind_e e
    refine (O21.os 0 rfl).addr rfl g30 fun a31 cs32 ha33 hc34 he35 => ?_
    obtain rfl : cs32 = [(Value.int .i64 y29)] := he35
    refine ⟨_, ld0 (Sub.refl _) hc27 rfl, _, rfl, ?_⟩
    refine ⟨_, ld0 (Sub.refl _) hc34 rfl, _, rfl, ?_⟩
    obtain ⟨y36, g37, e⟩ := bind_e e
    refine (O21.os 0 rfl).addr rfl g37 fun a38 cs39 ha40 hc41 he42 => ?_
    obtain rfl : cs39 = [(Value.int .i64 y36)] := he42
    obtain ⟨l45, g46, e⟩ := bind_e e
    replace g46 := Option.some.inj g46
    refine O21.elst0 0 rfl g37 ha40 hc41 (by decide) (y' := y22) rfl trivial g46 fun h43 O44 => ?_
    obtain ⟨y47, g48, e⟩ := bind_e e
    refine (O44.os 0 rfl).addr (lset' g46) g48 fun a49 cs50 ha51 hc52 he53 => ?_
    obtain rfl : cs50 = [(Value.int .i64 y47)] := he53
    obtain ⟨l56, g57, e⟩ := bind_e e
    replace g57 := Option.some.inj g57
    refine O44.elst0 0 rfl g48 ha51 hc52 (by decide) (y' := y29) rfl trivial g57 fun h54 O55 => ?_
    have O58 := O55.nm
    exact (ih _ _ e) _ _ _ _ _ _ _ _ (O58.pick [0]).nm ((lset' g46).trans (lset' g57))
  · cases e
    exact ⟨_, O21.pick [0], rfl, rfl⟩
theorem slices_siftDownOrdered_155.l0_k.all {p : slices_siftDownOrdered_155.l0_k.Pt} {r : ((List Int))} (e : slices_siftDownOrdered_155.l0_k.go p = some r) : slices_siftDownOrdered_155.l0_k.I p r := fixF_ind (β := fun _ => ((List Int))) slices_siftDownOrdered_155.l0_k.mono (I := slices_siftDownOrdered_155.l0_k.I) (fun go ih p r e => match p with
  | .l0 a_0 x_2 x_3 x_8 => slices_siftDownOrdered_155.l0_k.step_l0 go ih a_0 x_2 x_3 x_8 r e
  | .j1 a_0 x_2 x_3 x_8 x_9 b_36 => slices_siftDownOrdered_155.l0_k.step_j1 go ih a_0 x_2 x_3 x_8 x_9 b_36 r e
  | .j0 a_0 x_2 x_3 x_8 x_9 => slices_siftDownOrdered_155.l0_k.step_j0 go ih a_0 x_2 x_3 x_8 x_9 r e
  ) e
theorem slices_siftDownOrdered_155.l0.walk {W : Nat → Prop} {h0 m0 h m : Heap} {A_0 : Option Addr} {n_0 c_0 : Nat} {a_0 : List Int} {x_2 : Int} {x_3 : Int} {x_8 : Int} (O : Hold W h0 m0 h m [rR (aE (tell_int .i64)) A_0 c_0 a_0]) (ne_0 : n_0 = List.length a_0) {r : (List Int)} (e : slices_siftDownOrdered_155.l0 a_0 x_2 x_3 x_8 = some r) : f155.l0 (slices_siftDownOrdered_155.post W A_0 n_0 c_0 h0 m0 r) A_0 n_0 c_0 x_2 x_3 x_8 h := slices_siftDownOrdered_155.l0_k.all (p := .l0 a_0 x_2 x_3 x_8) e W h0 m0 h m A_0 n_0 c_0 O ne_0
noncomputable def slices_siftDownOrdered_155 (a_0 : List Int) (x_1 : Int) (x_2 : Int) (x_3 : Int) : Option ((List Int)) :=
  (slices_siftDownOrdered_155.l0 a_0 x_2 x_3 x_1)
set_option maxRecDepth 100000 in
theorem slices_siftDownOrdered_155.walk {W : Nat → Prop} {h m : Heap} {A_0 : Option Addr} {n_0 c_0 : Nat} {a_0 : List Int} {x_1 : Int} {x_2 : Int} {x_3 : Int} (O : Hold W h m h m [rR (aE (tell_int .i64)) A_0 c_0 a_0]) (ne_0 : n_0 = List.length a_0) {r : (List Int)} (e : slices_siftDownOrdered_155 a_0 x_1 x_2 x_3 = some r) : Run Try.prog 155 #[Value.slice A_0 n_0 c_0, Value.int .i64 x_1, Value.int .i64 x_2, Value.int .i64 x_3] h (slices_siftDownOrdered_155.post W A_0 n_0 c_0 h m r) := by
  unfold slices_siftDownOrdered_155 at e
  subst ne_0
  refine f155.run ?_
  unfold f155.runT
  exact slices_siftDownOrdered_155.l0.walk (O.pick [0]).nm rfl e
def slices_heapSortOrdered_122.post (W : Nat → Prop) (Asl0 : Option Addr) (nsl0 csl0 : Nat) (h0 m0 : Heap) (r : (List Int)) (v : Value) (h : Heap) : Prop := ∃ m , Hold W h0 m0 h m [rR (aE (tell_int .i64)) Asl0 csl0 r] ∧ v = .tuple #[] ∧ nsl0 = List.length r
inductive slices_heapSortOrdered_122.l1_k.Pt where
  | l1 (a_0 : List Int) (x_6 : Int) (x_7 : Int) (x_10 : Int)
noncomputable def slices_heapSortOrdered_122.l1_k.body (go : (p : slices_heapSortOrdered_122.l1_k.Pt) → Option ((List Int))) : (p : slices_heapSortOrdered_122.l1_k.Pt) → Option ((List Int))
  | .l1 a_0 x_6 x_7 x_10 => if x_10 ≥ (0 : Int) then (Option.bind (gi a_0 (IntKind.wrap .i64 (x_6 + x_10))) fun y1 => Option.bind (gi a_0 x_6) fun y8 => Option.bind (gi a_0 x_6) fun y15 => Option.bind (some (List.set a_0 (Int.toNat x_6) y1)) fun l24 => Option.bind (gi l24 (IntKind.wrap .i64 (x_6 + x_10))) fun y26 => Option.bind (some (List.set l24 (Int.toNat (IntKind.wrap .i64 (x_6 + x_10))) y8)) fun l35 => Option.bind (slices_siftDownOrdered_155 l35 x_7 x_10 x_6) fun y37 => (go (.l1 y37 x_6 x_7 (IntKind.wrap .i64 (x_10 - (1 : Int)))))) else (some (a_0))
theorem slices_heapSortOrdered_122.l1_k.mono : MonoF (β := fun _ => ((List Int))) slices_heapSortOrdered_122.l1_k.body := fun f g hfg p => match p with
  | .l1 a_0 x_6 x_7 x_10 => LeO.ite (LeO.bind (LeO.refl _) fun y1 => LeO.bind (LeO.refl _) fun y8 => LeO.bind (LeO.refl _) fun y15 => LeO.bind (LeO.refl _) fun l24 => LeO.bind (LeO.refl _) fun y26 => LeO.bind (LeO.refl _) fun l35 => LeO.bind (LeO.refl _) fun y37 => (hfg _)) (LeO.refl _)
noncomputable def slices_heapSortOrdered_122.l1_k.go (p : slices_heapSortOrdered_122.l1_k.Pt) : Option ((List Int)) := fixF (β := fun _ => ((List Int))) slices_heapSortOrdered_122.l1_k.body p
noncomputable def slices_heapSortOrdered_122.l1 (a_0 : List Int) (x_6 : Int) (x_7 : Int) (x_10 : Int) : Option ((List Int)) := slices_heapSortOrdered_122.l1_k.go (.l1 a_0 x_6 x_7 x_10)
theorem slices_heapSortOrdered_122.l1_eq (a_0 : List Int) (x_6 : Int) (x_7 : Int) (x_10 : Int) : slices_heapSortOrdered_122.l1 a_0 x_6 x_7 x_10 = if x_10 ≥ (0 : Int) then (Option.bind (gi a_0 (IntKind.wrap .i64 (x_6 + x_10))) fun y1 => Option.bind (gi a_0 x_6) fun y8 => Option.bind (gi a_0 x_6) fun y15 => Option.bind (some (List.set a_0 (Int.toNat x_6) y1)) fun l24 => Option.bind (gi l24 (IntKind.wrap .i64 (x_6 + x_10))) fun y26 => Option.bind (some (List.set l24 (Int.toNat (IntKind.wrap .i64 (x_6 + x_10))) y8)) fun l35 => Option.bind (slices_siftDownOrdered_155 l35 x_7 x_10 x_6) fun y37 => (slices_heapSortOrdered_122.l1 y37 x_6 x_7 (IntKind.wrap .i64 (x_10 - (1 : Int))))) else (some (a_0)) := fixF_eq slices_heapSortOrdered_122.l1_k.mono _
def slices_heapSortOrdered_122.l1_k.I : (p : slices_heapSortOrdered_122.l1_k.Pt) → ((List Int)) → Prop
  | .l1 a_0 x_6 x_7 x_10, r => ∀ (W : Nat → Prop) (h0 m0 h m : Heap) (A_0 : Option Addr) (n_0 c_0 : Nat) (O : Hold W h0 m0 h m [rR (aE (tell_int .i64)) A_0 c_0 a_0]) (ne_0 : n_0 = List.length a_0), f122.l1 (slices_heapSortOrdered_122.post W A_0 n_0 c_0 h0 m0 r) A_0 n_0 c_0 x_6 x_7 x_10 h
set_option maxHeartbeats 4000000 in
set_option maxRecDepth 100000 in
theorem slices_heapSortOrdered_122.l1_k.step_l1 (go : (p : slices_heapSortOrdered_122.l1_k.Pt) → Option ((List Int))) (ih : ∀ p r, go p = some r → slices_heapSortOrdered_122.l1_k.I p r) (a_0 : List Int) (x_6 : Int) (x_7 : Int) (x_10 : Int) (r : (List Int)) (e : slices_heapSortOrdered_122.l1_k.body go (.l1 a_0 x_6 x_7 x_10) = some r) : slices_heapSortOrdered_122.l1_k.I (.l1 a_0 x_6 x_7 x_10) r := by
  unfold slices_heapSortOrdered_122.l1_k.body at e
  intro W h0 m0 h m A_0 n_0 c_0 O ne_0
  subst ne_0
  refine f122.l1_in ?_
  unfold f122.l1T
  refine split_dec_e e (fun c50 e => ?_) (fun c50 e => ?_)
  · obtain ⟨y1, g2, e⟩ := bind_e e
    refine (O.os 0 rfl).addr rfl g2 fun a3 cs4 ha5 hc6 he7 => ?_
    obtain rfl : cs4 = [(Value.int .i64 y1)] := he7
    obtain ⟨y8, g9, e⟩ := bind_e e
    refine (O.os 0 rfl).addr rfl g9 fun a10 cs11 ha12 hc13 he14 => ?_
    obtain rfl : cs11 = [(Value.int .i64 y8)] := he14
    refine ⟨_, ld0 (Sub.refl _) hc6 rfl, _, rfl, ?_⟩
    refine ⟨_, ld0 (Sub.refl _) hc13 rfl, _, rfl, ?_⟩
    obtain ⟨y15, g16, e⟩ := bind_e e
    refine (O.os 0 rfl).addr rfl g16 fun a17 cs18 ha19 hc20 he21 => ?_
    obtain rfl : cs18 = [(Value.int .i64 y15)] := he21
    obtain ⟨l24, g25, e⟩ := bind_e e
    replace g25 := Option.some.inj g25
    refine O.elst0 0 rfl g16 ha19 hc20 (by decide) (y' := y1) rfl trivial g25 fun h22 O23 => ?_
    obtain ⟨y26, g27, e⟩ := bind_e e
    refine (O23.os 0 rfl).addr (lset' g25) g27 fun a28 cs29 ha30 hc31 he32 => ?_
    obtain rfl : cs29 = [(Value.int .i64 y26)] := he32
    obtain ⟨l35, g36, e⟩ := bind_e e
    replace g36 := Option.some.inj g36
    refine O23.elst0 0 rfl g27 ha30 hc31 (by decide) (y' := y8) rfl trivial g36 fun h33 O34 => ?_
    obtain ⟨y37, g38, e⟩ := bind_e e
    have O43 := O34.nm
    obtain ⟨W44, P45, B46, C47⟩ := O43.callC [0]
    refine (slices_siftDownOrdered_155.walk P45 ((lset' g25).trans (lset' g36)) g38).mono ?_
    rintro _ h39 ⟨m40, Q41, rfl, hl48⟩
    have O49 := Hold.nm (C47 Q41 (vfs_cons (rR_vf (aE_vf (fun _ _ _ _ h => h))) vfs_nil))
    refine ⟨rfl, ?_⟩
    exact (ih _ _ e) _ _ _ _ _ _ _ _ (O49.pick [1]).nm hl48
  · cases e
    exact ⟨_, O.pick [0], rfl, rfl⟩
theorem slices_heapSortOrdered_122.l1_k.all {p : slices_heapSortOrdered_122.l1_k.Pt} {r : ((List Int))} (e : slices_heapSortOrdered_122.l1_k.go p = some r) : slices_heapSortOrdered_122.l1_k.I p r := fixF_ind (β := fun _ => ((List Int))) slices_heapSortOrdered_122.l1_k.mono (I := slices_heapSortOrdered_122.l1_k.I) (fun go ih p r e => match p with
  | .l1 a_0 x_6 x_7 x_10 => slices_heapSortOrdered_122.l1_k.step_l1 go ih a_0 x_6 x_7 x_10 r e
  ) e
theorem slices_heapSortOrdered_122.l1.walk {W : Nat → Prop} {h0 m0 h m : Heap} {A_0 : Option Addr} {n_0 c_0 : Nat} {a_0 : List Int} {x_6 : Int} {x_7 : Int} {x_10 : Int} (O : Hold W h0 m0 h m [rR (aE (tell_int .i64)) A_0 c_0 a_0]) (ne_0 : n_0 = List.length a_0) {r : (List Int)} (e : slices_heapSortOrdered_122.l1 a_0 x_6 x_7 x_10 = some r) : f122.l1 (slices_heapSortOrdered_122.post W A_0 n_0 c_0 h0 m0 r) A_0 n_0 c_0 x_6 x_7 x_10 h := slices_heapSortOrdered_122.l1_k.all (p := .l1 a_0 x_6 x_7 x_10) e W h0 m0 h m A_0 n_0 c_0 O ne_0
inductive slices_heapSortOrdered_122.l0_k.Pt where
  | l0 (a_0 : List Int) (x_6 : Int) (x_7 : Int) (x_8 : Int) (x_9 : Int)
noncomputable def slices_heapSortOrdered_122.l0_k.body (go : (p : slices_heapSortOrdered_122.l0_k.Pt) → Option ((List Int))) : (p : slices_heapSortOrdered_122.l0_k.Pt) → Option ((List Int))
  | .l0 a_0 x_6 x_7 x_8 x_9 => if x_9 ≥ (0 : Int) then (Option.bind (slices_siftDownOrdered_155 a_0 x_9 x_8 x_6) fun y1 => (go (.l0 y1 x_6 x_7 x_8 (IntKind.wrap .i64 (x_9 - (1 : Int)))))) else ((slices_heapSortOrdered_122.l1 a_0 x_6 x_7 (IntKind.wrap .i64 (x_8 - (1 : Int)))))
theorem slices_heapSortOrdered_122.l0_k.mono : MonoF (β := fun _ => ((List Int))) slices_heapSortOrdered_122.l0_k.body := fun f g hfg p => match p with
  | .l0 a_0 x_6 x_7 x_8 x_9 => LeO.ite (LeO.bind (LeO.refl _) fun y1 => (hfg _)) ((LeO.refl _))
noncomputable def slices_heapSortOrdered_122.l0_k.go (p : slices_heapSortOrdered_122.l0_k.Pt) : Option ((List Int)) := fixF (β := fun _ => ((List Int))) slices_heapSortOrdered_122.l0_k.body p
noncomputable def slices_heapSortOrdered_122.l0 (a_0 : List Int) (x_6 : Int) (x_7 : Int) (x_8 : Int) (x_9 : Int) : Option ((List Int)) := slices_heapSortOrdered_122.l0_k.go (.l0 a_0 x_6 x_7 x_8 x_9)
theorem slices_heapSortOrdered_122.l0_eq (a_0 : List Int) (x_6 : Int) (x_7 : Int) (x_8 : Int) (x_9 : Int) : slices_heapSortOrdered_122.l0 a_0 x_6 x_7 x_8 x_9 = if x_9 ≥ (0 : Int) then (Option.bind (slices_siftDownOrdered_155 a_0 x_9 x_8 x_6) fun y1 => (slices_heapSortOrdered_122.l0 y1 x_6 x_7 x_8 (IntKind.wrap .i64 (x_9 - (1 : Int))))) else ((slices_heapSortOrdered_122.l1 a_0 x_6 x_7 (IntKind.wrap .i64 (x_8 - (1 : Int))))) := fixF_eq slices_heapSortOrdered_122.l0_k.mono _
def slices_heapSortOrdered_122.l0_k.I : (p : slices_heapSortOrdered_122.l0_k.Pt) → ((List Int)) → Prop
  | .l0 a_0 x_6 x_7 x_8 x_9, r => ∀ (W : Nat → Prop) (h0 m0 h m : Heap) (A_0 : Option Addr) (n_0 c_0 : Nat) (O : Hold W h0 m0 h m [rR (aE (tell_int .i64)) A_0 c_0 a_0]) (ne_0 : n_0 = List.length a_0), f122.l0 (slices_heapSortOrdered_122.post W A_0 n_0 c_0 h0 m0 r) A_0 n_0 c_0 x_6 x_7 x_8 x_9 h
set_option maxRecDepth 100000 in
theorem slices_heapSortOrdered_122.l0_k.step_l0 (go : (p : slices_heapSortOrdered_122.l0_k.Pt) → Option ((List Int))) (ih : ∀ p r, go p = some r → slices_heapSortOrdered_122.l0_k.I p r) (a_0 : List Int) (x_6 : Int) (x_7 : Int) (x_8 : Int) (x_9 : Int) (r : (List Int)) (e : slices_heapSortOrdered_122.l0_k.body go (.l0 a_0 x_6 x_7 x_8 x_9) = some r) : slices_heapSortOrdered_122.l0_k.I (.l0 a_0 x_6 x_7 x_8 x_9) r := by
  unfold slices_heapSortOrdered_122.l0_k.body at e
  intro W h0 m0 h m A_0 n_0 c_0 O ne_0
  subst ne_0
  refine f122.l0_in ?_
  unfold f122.l0T
  refine split_dec_e e (fun c13 e => ?_) (fun c13 e => ?_)
  · obtain ⟨y1, g2, e⟩ := bind_e e
    obtain ⟨W7, P8, B9, C10⟩ := O.callC [0]
    refine (slices_siftDownOrdered_155.walk P8 rfl g2).mono ?_
    rintro _ h3 ⟨m4, Q5, rfl, hl11⟩
    have O12 := Hold.nm (C10 Q5 (vfs_cons (rR_vf (aE_vf (fun _ _ _ _ h => h))) vfs_nil))
    refine ⟨rfl, ?_⟩
    exact (ih _ _ e) _ _ _ _ _ _ _ _ (O12.pick [1]).nm hl11
  · exact slices_heapSortOrdered_122.l1.walk (O.pick [0]).nm rfl e
theorem slices_heapSortOrdered_122.l0_k.all {p : slices_heapSortOrdered_122.l0_k.Pt} {r : ((List Int))} (e : slices_heapSortOrdered_122.l0_k.go p = some r) : slices_heapSortOrdered_122.l0_k.I p r := fixF_ind (β := fun _ => ((List Int))) slices_heapSortOrdered_122.l0_k.mono (I := slices_heapSortOrdered_122.l0_k.I) (fun go ih p r e => match p with
  | .l0 a_0 x_6 x_7 x_8 x_9 => slices_heapSortOrdered_122.l0_k.step_l0 go ih a_0 x_6 x_7 x_8 x_9 r e
  ) e
theorem slices_heapSortOrdered_122.l0.walk {W : Nat → Prop} {h0 m0 h m : Heap} {A_0 : Option Addr} {n_0 c_0 : Nat} {a_0 : List Int} {x_6 : Int} {x_7 : Int} {x_8 : Int} {x_9 : Int} (O : Hold W h0 m0 h m [rR (aE (tell_int .i64)) A_0 c_0 a_0]) (ne_0 : n_0 = List.length a_0) {r : (List Int)} (e : slices_heapSortOrdered_122.l0 a_0 x_6 x_7 x_8 x_9 = some r) : f122.l0 (slices_heapSortOrdered_122.post W A_0 n_0 c_0 h0 m0 r) A_0 n_0 c_0 x_6 x_7 x_8 x_9 h := slices_heapSortOrdered_122.l0_k.all (p := .l0 a_0 x_6 x_7 x_8 x_9) e W h0 m0 h m A_0 n_0 c_0 O ne_0
noncomputable def slices_heapSortOrdered_122 (a_0 : List Int) (x_1 : Int) (x_2 : Int) : Option ((List Int)) :=
  (slices_heapSortOrdered_122.l0 a_0 x_1 (0 : Int) (IntKind.wrap .i64 (x_2 - x_1)) (IntKind.wrap .i64 (Int.tdiv (IntKind.wrap .i64 ((IntKind.wrap .i64 (x_2 - x_1)) - (1 : Int))) (2 : Int))))
set_option maxRecDepth 100000 in
theorem slices_heapSortOrdered_122.walk {W : Nat → Prop} {h m : Heap} {A_0 : Option Addr} {n_0 c_0 : Nat} {a_0 : List Int} {x_1 : Int} {x_2 : Int} (O : Hold W h m h m [rR (aE (tell_int .i64)) A_0 c_0 a_0]) (ne_0 : n_0 = List.length a_0) {r : (List Int)} (e : slices_heapSortOrdered_122 a_0 x_1 x_2 = some r) : Run Try.prog 122 #[Value.slice A_0 n_0 c_0, Value.int .i64 x_1, Value.int .i64 x_2] h (slices_heapSortOrdered_122.post W A_0 n_0 c_0 h m r) := by
  unfold slices_heapSortOrdered_122 at e
  subst ne_0
  refine f122.run ?_
  unfold f122.runT
  refine ⟨by decide, ?_⟩
  exact slices_heapSortOrdered_122.l0.walk (O.pick [0]).nm rfl e
def math_bits_Len64.post (W : Nat → Prop) (h0 m0 : Heap) (r : Int) (v : Value) (h : Heap) : Prop := ∃ m , Hold W h0 m0 h m [] ∧ v = .int .i64 r
noncomputable def math_bits_Len64.j2 (x_0 : Int) (x_2 : Int) : Option (Int) :=
  Option.bind (gb (ByteArray.mk #[0, 1, 2, 2, 3, 3, 3, 3, 4, 4, 4, 4, 4, 4, 4, 4, 5, 5, 5, 5, 5, 5, 5, 5, 5, 5, 5, 5, 5, 5, 5, 5, 6, 6, 6, 6, 6, 6, 6, 6, 6, 6, 6, 6, 6, 6, 6, 6, 6, 6, 6, 6, 6, 6, 6, 6, 6, 6, 6, 6, 6, 6, 6, 6, 7, 7, 7, 7, 7, 7, 7, 7, 7, 7, 7, 7, 7, 7, 7, 7, 7, 7, 7, 7, 7, 7, 7, 7, 7, 7, 7, 7, 7, 7, 7, 7, 7, 7, 7, 7, 7, 7, 7, 7, 7, 7, 7, 7, 7, 7, 7, 7, 7, 7, 7, 7, 7, 7, 7, 7, 7, 7, 7, 7, 7, 7, 7, 7, 8, 8, 8, 8, 8, 8, 8, 8, 8, 8, 8, 8, 8, 8, 8, 8, 8, 8, 8, 8, 8, 8, 8, 8, 8, 8, 8, 8, 8, 8, 8, 8, 8, 8, 8, 8, 8, 8, 8, 8, 8, 8, 8, 8, 8, 8, 8, 8, 8, 8, 8, 8, 8, 8, 8, 8, 8, 8, 8, 8, 8, 8, 8, 8, 8, 8, 8, 8, 8, 8, 8, 8, 8, 8, 8, 8, 8, 8, 8, 8, 8, 8, 8, 8, 8, 8, 8, 8, 8, 8, 8, 8, 8, 8, 8, 8, 8, 8, 8, 8, 8, 8, 8, 8, 8, 8, 8, 8, 8, 8, 8, 8, 8, 8, 8, 8, 8, 8, 8, 8, 8, 8, 8, 8, 8, 8, 8, 8]) (IntKind.wrap .u8 x_0)) fun y1 => some ((IntKind.wrap .i64 (x_2 + (IntKind.wrap .i64 y1))))
set_option maxRecDepth 100000 in
theorem math_bits_Len64.j2.walk {W : Nat → Prop} {h0 m0 h m : Heap} {x_0 : Int} {x_2 : Int} (O : Hold W h0 m0 h m []) {r : Int} (e : math_bits_Len64.j2 x_0 x_2 = some r) : f131.j2 (math_bits_Len64.post W h0 m0 r) x_0 x_2 h := by
  unfold math_bits_Len64.j2 at e
  refine f131.j2_in ?_
  unfold f131.j2T
  obtain ⟨y1, g2, e⟩ := bind_e e
  obtain ⟨q3, b4, q5, q6⟩ := gb_e g2
  refine ⟨q3, _, q5, ?_⟩
  try rw [← q6]
  cases e
  exact ⟨_, O.pick [], rfl⟩
noncomputable def math_bits_Len64.j1 (x_0 : Int) (x_2 : Int) : Option (Int) :=
  if x_0 ≥ (256 : Int) then ((math_bits_Len64.j2 (shrI .u64 x_0 (8 : Int)) (IntKind.wrap .i64 (x_2 + (8 : Int))))) else ((math_bits_Len64.j2 x_0 x_2))
set_option maxRecDepth 100000 in
theorem math_bits_Len64.j1.walk {W : Nat → Prop} {h0 m0 h m : Heap} {x_0 : Int} {x_2 : Int} (O : Hold W h0 m0 h m []) {r : Int} (e : math_bits_Len64.j1 x_0 x_2 = some r) : f131.j1 (math_bits_Len64.post W h0 m0 r) x_0 x_2 h := by
  unfold math_bits_Len64.j1 at e
  refine f131.j1_in ?_
  unfold f131.j1T
  refine split_dec_e e (fun c1 e => ?_) (fun c1 e => ?_)
  · refine ⟨by decide, ?_⟩
    exact math_bits_Len64.j2.walk (O.pick []).nm  e
  · exact math_bits_Len64.j2.walk (O.pick []).nm  e
noncomputable def math_bits_Len64.j0 (x_0 : Int) (x_2 : Int) : Option (Int) :=
  if x_0 ≥ (65536 : Int) then ((math_bits_Len64.j1 (shrI .u64 x_0 (16 : Int)) (IntKind.wrap .i64 (x_2 + (16 : Int))))) else ((math_bits_Len64.j1 x_0 x_2))
set_option maxRecDepth 100000 in
theorem math_bits_Len64.j0.walk {W : Nat → Prop} {h0 m0 h m : Heap} {x_0 : Int} {x_2 : Int} (O : Hold W h0 m0 h m []) {r : Int} (e : math_bits_Len64.j0 x_0 x_2 = some r) : f131.j0 (math_bits_Len64.post W h0 m0 r) x_0 x_2 h := by
  unfold math_bits_Len64.j0 at e
  refine f131.j0_in ?_
  unfold f131.j0T
  refine split_dec_e e (fun c1 e => ?_) (fun c1 e => ?_)
  · refine ⟨by decide, ?_⟩
    exact math_bits_Len64.j1.walk (O.pick []).nm  e
  · exact math_bits_Len64.j1.walk (O.pick []).nm  e
noncomputable def math_bits_Len64 (x_0 : Int) : Option (Int) :=
  if x_0 ≥ (4294967296 : Int) then ((math_bits_Len64.j0 (shrI .u64 x_0 (32 : Int)) (32 : Int))) else ((math_bits_Len64.j0 x_0 (0 : Int)))
set_option maxRecDepth 100000 in
theorem math_bits_Len64.walk {W : Nat → Prop} {h m : Heap} {x_0 : Int} (O : Hold W h m h m []) {r : Int} (e : math_bits_Len64 x_0 = some r) : Run Try.prog 131 #[Value.int .u64 x_0] h (math_bits_Len64.post W h m r) := by
  unfold math_bits_Len64 at e
  refine f131.run ?_
  unfold f131.runT
  refine split_dec_e e (fun c1 e => ?_) (fun c1 e => ?_)
  · refine ⟨by decide, ?_⟩
    exact math_bits_Len64.j0.walk (O.pick []).nm  e
  · exact math_bits_Len64.j0.walk (O.pick []).nm  e
def math_bits_Len.post (W : Nat → Prop) (h0 m0 : Heap) (r : Int) (v : Value) (h : Heap) : Prop := ∃ m , Hold W h0 m0 h m [] ∧ v = .int .i64 r
noncomputable def math_bits_Len (x_0 : Int) : Option (Int) :=
  Option.bind (math_bits_Len64 x_0) fun y1 => some (y1)
set_option maxRecDepth 100000 in
theorem math_bits_Len.walk {W : Nat → Prop} {h m : Heap} {x_0 : Int} (O : Hold W h m h m []) {r : Int} (e : math_bits_Len x_0 = some r) : Run Try.prog 79 #[Value.int .u64 x_0] h (math_bits_Len.post W h m r) := by
  unfold math_bits_Len at e
  refine f79.run ?_
  unfold f79.runT
  obtain ⟨y1, g2, e⟩ := bind_e e
  refine (math_bits_Len64.walk (Hold.start (W := No) O.s)  g2).mono ?_
  rintro _ h3 ⟨m4, Q5, rfl⟩
  have O7 := Hold.nm (O.retC Q5 vfs_nil)
  refine ⟨_, rfl, ?_⟩
  cases e
  exact ⟨_, O7.pick [], rfl⟩
def slices_nextPowerOfTwo.post (W : Nat → Prop) (h0 m0 : Heap) (r : Int) (v : Value) (h : Heap) : Prop := ∃ m , Hold W h0 m0 h m [] ∧ v = .int .u64 r
noncomputable def slices_nextPowerOfTwo (x_0 : Int) : Option (Int) :=
  Option.bind (math_bits_Len (IntKind.wrap .u64 x_0)) fun y1 => if 0 ≤ y1 then (some ((shlI .u64 (1 : Int) y1))) else none
set_option maxRecDepth 100000 in
theorem slices_nextPowerOfTwo.walk {W : Nat → Prop} {h m : Heap} {x_0 : Int} (O : Hold W h m h m []) {r : Int} (e : slices_nextPowerOfTwo x_0 = some r) : Run Try.prog 156 #[Value.int .i64 x_0] h (slices_nextPowerOfTwo.post W h m r) := by
  unfold slices_nextPowerOfTwo at e
  refine f156.run ?_
  unfold f156.runT
  obtain ⟨y1, g2, e⟩ := bind_e e
  refine (math_bits_Len.walk (Hold.start (W := No) O.s)  g2).mono ?_
  rintro _ h3 ⟨m4, Q5, rfl⟩
  have O7 := Hold.nm (O.retC Q5 vfs_nil)
  refine ⟨_, rfl, ?_⟩
  obtain ⟨g8, e⟩ := guard_e e
  refine ⟨g8, ?_⟩
  cases e
  exact ⟨_, O7.pick [], rfl⟩
def slices_xorshift_Next.post (W : Nat → Prop) (bkio0 : Nat) (h0 m0 : Heap) (r : Int × Int) (v : Value) (h : Heap) : Prop := ∃ m csio0, Hold W h0 m0 h m [rV bkio0 223 csio0] ∧ v = .int .u64 r.1 ∧ (eInt .u64) m r.2 csio0
noncomputable def slices_xorshift_Next (y_0 : Int) : Option (Int × Int) :=
  some ((bitsI .xor .u64 (bitsI .xor .u64 (bitsI .xor .u64 y_0 (shlI .u64 y_0 (13 : Int))) (shrI .u64 (bitsI .xor .u64 y_0 (shlI .u64 y_0 (13 : Int))) (7 : Int))) (shlI .u64 (bitsI .xor .u64 (bitsI .xor .u64 y_0 (shlI .u64 y_0 (13 : Int))) (shrI .u64 (bitsI .xor .u64 y_0 (shlI .u64 y_0 (13 : Int))) (7 : Int))) (17 : Int))), (bitsI .xor .u64 (bitsI .xor .u64 (bitsI .xor .u64 y_0 (shlI .u64 y_0 (13 : Int))) (shrI .u64 (bitsI .xor .u64 y_0 (shlI .u64 y_0 (13 : Int))) (7 : Int))) (shlI .u64 (bitsI .xor .u64 (bitsI .xor .u64 y_0 (shlI .u64 y_0 (13 : Int))) (shrI .u64 (bitsI .xor .u64 y_0 (shlI .u64 y_0 (13 : Int))) (7 : Int))) (17 : Int))))
set_option maxRecDepth 100000 in
theorem slices_xorshift_Next.walk {W : Nat → Prop} {h m : Heap} {bkio0 : Nat} {cs_0 : List Value} {y_0 : Int} (O : Hold W h m h m [rV bkio0 223 cs_0]) (e_0 : (eInt .u64) m y_0 cs_0) {r : Int × Int} (e : slices_xorshift_Next y_0 = some r) : Run Try.prog 157 #[Value.pointer (some ⟨bkio0, 0, none⟩)] h (slices_xorshift_Next.post W bkio0 h m r) := by
  unfold slices_xorshift_Next at e
  obtain rfl : cs_0 = [(Value.int .u64 y_0)] := e_0
  refine f157.run ?_
  unfold f157.runT
  refine ⟨_, ld0 (Sub.refl _) (O.all 0 rfl) rfl, _, rfl, ?_⟩
  refine ⟨_, ld0 (Sub.refl _) (O.all 0 rfl) rfl, _, rfl, ?_⟩
  refine ⟨by decide, ?_⟩
  refine O.st0 0 rfl (Nat.le_of_ble_eq_true rfl) trivial fun h1 O2 => ?_
  refine ⟨_, ld0 (Sub.refl _) (O2.all 0 rfl) rfl, _, rfl, ?_⟩
  refine ⟨_, ld0 (Sub.refl _) (O2.all 0 rfl) rfl, _, rfl, ?_⟩
  refine ⟨by decide, ?_⟩
  refine O2.st0 0 rfl (Nat.le_of_ble_eq_true rfl) trivial fun h3 O4 => ?_
  refine ⟨_, ld0 (Sub.refl _) (O4.all 0 rfl) rfl, _, rfl, ?_⟩
  refine ⟨_, ld0 (Sub.refl _) (O4.all 0 rfl) rfl, _, rfl, ?_⟩
  refine ⟨by decide, ?_⟩
  refine O4.st0 0 rfl (Nat.le_of_ble_eq_true rfl) trivial fun h5 O6 => ?_
  refine ⟨_, ld0 (Sub.refl _) (O6.all 0 rfl) rfl, _, rfl, ?_⟩
  have O7 := O6.nm
  cases e
  exact ⟨_, _, O7.pick [0], rfl, rfl⟩
def slices_breakPatternsOrdered_123.post (W : Nat → Prop) (Asl0 : Option Addr) (nsl0 csl0 : Nat) (h0 m0 : Heap) (r : (List Int)) (v : Value) (h : Heap) : Prop := ∃ m , Hold W h0 m0 h m [rR (aE (tell_int .i64)) Asl0 csl0 r] ∧ v = .tuple #[] ∧ nsl0 = List.length r
inductive slices_breakPatternsOrdered_123.l0_k.Pt where
  | l0 (a_0 : List Int) (x_1 : Int) (x_6 : Int) (y_7 : Int) (x_8 : Int) (x_9 : Int)
  | j1 (a_0 : List Int) (x_1 : Int) (x_6 : Int) (y_7 : Int) (x_8 : Int) (x_9 : Int) (x_10 : Int)
  | j0 (a_0 : List Int) (x_1 : Int) (x_6 : Int) (y_7 : Int) (x_8 : Int) (x_9 : Int)
noncomputable def slices_breakPatternsOrdered_123.l0_k.body (go : (p : slices_breakPatternsOrdered_123.l0_k.Pt) → Option ((List Int))) : (p : slices_breakPatternsOrdered_123.l0_k.Pt) → Option ((List Int))
  | .l0 a_0 x_1 x_6 y_7 x_8 x_9 => if x_9 ≤ (IntKind.wrap .i64 ((IntKind.wrap .i64 (x_1 + (IntKind.wrap .i64 ((IntKind.wrap .i64 (Int.tdiv x_6 (4 : Int))) * (2 : Int))))) + (1 : Int))) then (Option.bind (slices_xorshift_Next y_7) fun y1 => if (IntKind.wrap .i64 (bitsI .and .u64 y1.1 (IntKind.wrap .u64 (x_8 - (1 : Int))))) ≥ x_6 then ((go (.j1 a_0 x_1 x_6 y1.2 x_8 x_9 (IntKind.wrap .i64 ((IntKind.wrap .i64 (bitsI .and .u64 y1.1 (IntKind.wrap .u64 (x_8 - (1 : Int))))) - x_6))))) else ((go (.j1 a_0 x_1 x_6 y1.2 x_8 x_9 (IntKind.wrap .i64 (bitsI .and .u64 y1.1 (IntKind.wrap .u64 (x_8 - (1 : Int))))))))) else (some (a_0))
  | .j1 a_0 x_1 x_6 y_7 x_8 x_9 x_10 => Option.bind (gi a_0 (IntKind.wrap .i64 (x_1 + x_10))) fun y1 => Option.bind (gi a_0 x_9) fun y8 => Option.bind (gi a_0 x_9) fun y15 => Option.bind (some (List.set a_0 (Int.toNat x_9) y1)) fun l24 => Option.bind (gi l24 (IntKind.wrap .i64 (x_1 + x_10))) fun y26 => Option.bind (some (List.set l24 (Int.toNat (IntKind.wrap .i64 (x_1 + x_10))) y8)) fun l35 => (go (.j0 l35 x_1 x_6 y_7 x_8 x_9))
  | .j0 a_0 x_1 x_6 y_7 x_8 x_9 => (go (.l0 a_0 x_1 x_6 y_7 x_8 (IntKind.wrap .i64 (x_9 + (1 : Int)))))
attribute [local irreducible] slices_xorshift_Next in
theorem slices_breakPatternsOrdered_123.l0_k.mono : MonoF (β := fun _ => ((List Int))) slices_breakPatternsOrdered_123.l0_k.body := fun f g hfg p => match p with
  | .l0 a_0 x_1 x_6 y_7 x_8 x_9 => LeO.ite (LeO.bind (LeO.refl _) fun y1 => LeO.ite ((hfg _)) ((hfg _))) (LeO.refl _)
  | .j1 a_0 x_1 x_6 y_7 x_8 x_9 x_10 => LeO.bind (LeO.refl _) fun y1 => LeO.bind (LeO.refl _) fun y8 => LeO.bind (LeO.refl _) fun y15 => LeO.bind (LeO.refl _) fun l24 => LeO.bind (LeO.refl _) fun y26 => LeO.bind (LeO.refl _) fun l35 => (hfg _)
  | .j0 a_0 x_1 x_6 y_7 x_8 x_9 => (hfg _)
noncomputable def slices_breakPatternsOrdered_123.l0_k.go (p : slices_breakPatternsOrdered_123.l0_k.Pt) : Option ((List Int)) := fixF (β := fun _ => ((List Int))) slices_breakPatternsOrdered_123.l0_k.body p
noncomputable def slices_breakPatternsOrdered_123.l0 (a_0 : List Int) (x_1 : Int) (x_6 : Int) (y_7 : Int) (x_8 : Int) (x_9 : Int) : Option ((List Int)) := slices_breakPatternsOrdered_123.l0_k.go (.l0 a_0 x_1 x_6 y_7 x_8 x_9)
noncomputable def slices_breakPatternsOrdered_123.j1 (a_0 : List Int) (x_1 : Int) (x_6 : Int) (y_7 : Int) (x_8 : Int) (x_9 : Int) (x_10 : Int) : Option ((List Int)) := slices_breakPatternsOrdered_123.l0_k.go (.j1 a_0 x_1 x_6 y_7 x_8 x_9 x_10)
noncomputable def slices_breakPatternsOrdered_123.j0 (a_0 : List Int) (x_1 : Int) (x_6 : Int) (y_7 : Int) (x_8 : Int) (x_9 : Int) : Option ((List Int)) := slices_breakPatternsOrdered_123.l0_k.go (.j0 a_0 x_1 x_6 y_7 x_8 x_9)
theorem slices_breakPatternsOrdered_123.l0_eq (a_0 : List Int) (x_1 : Int) (x_6 : Int) (y_7 : Int) (x_8 : Int) (x_9 : Int) : slices_breakPatternsOrdered_123.l0 a_0 x_1 x_6 y_7 x_8 x_9 = if x_9 ≤ (IntKind.wrap .i64 ((IntKind.wrap .i64 (x_1 + (IntKind.wrap .i64 ((IntKind.wrap .i64 (Int.tdiv x_6 (4 : Int))) * (2 : Int))))) + (1 : Int))) then (Option.bind (slices_xorshift_Next y_7) fun y1 => if (IntKind.wrap .i64 (bitsI .and .u64 y1.1 (IntKind.wrap .u64 (x_8 - (1 : Int))))) ≥ x_6 then ((slices_breakPatternsOrdered_123.j1 a_0 x_1 x_6 y1.2 x_8 x_9 (IntKind.wrap .i64 ((IntKind.wrap .i64 (bitsI .and .u64 y1.1 (IntKind.wrap .u64 (x_8 - (1 : Int))))) - x_6)))) else ((slices_breakPatternsOrdered_123.j1 a_0 x_1 x_6 y1.2 x_8 x_9 (IntKind.wrap .i64 (bitsI .and .u64 y1.1 (IntKind.wrap .u64 (x_8 - (1 : Int)))))))) else (some (a_0)) := fixF_eq slices_breakPatternsOrdered_123.l0_k.mono _
theorem slices_breakPatternsOrdered_123.j1_eq (a_0 : List Int) (x_1 : Int) (x_6 : Int) (y_7 : Int) (x_8 : Int) (x_9 : Int) (x_10 : Int) : slices_breakPatternsOrdered_123.j1 a_0 x_1 x_6 y_7 x_8 x_9 x_10 = Option.bind (gi a_0 (IntKind.wrap .i64 (x_1 + x_10))) fun y1 => Option.bind (gi a_0 x_9) fun y8 => Option.bind (gi a_0 x_9) fun y15 => Option.bind (some (List.set a_0 (Int.toNat x_9) y1)) fun l24 => Option.bind (gi l24 (IntKind.wrap .i64 (x_1 + x_10))) fun y26 => Option.bind (some (List.set l24 (Int.toNat (IntKind.wrap .i64 (x_1 + x_10))) y8)) fun l35 => (slices_breakPatternsOrdered_123.j0 l35 x_1 x_6 y_7 x_8 x_9) := fixF_eq slices_breakPatternsOrdered_123.l0_k.mono _
theorem slices_breakPatternsOrdered_123.j0_eq (a_0 : List Int) (x_1 : Int) (x_6 : Int) (y_7 : Int) (x_8 : Int) (x_9 : Int) : slices_breakPatternsOrdered_123.j0 a_0 x_1 x_6 y_7 x_8 x_9 = (slices_breakPatternsOrdered_123.l0 a_0 x_1 x_6 y_7 x_8 (IntKind.wrap .i64 (x_9 + (1 : Int)))) := fixF_eq slices_breakPatternsOrdered_123.l0_k.mono _
def slices_breakPatternsOrdered_123.l0_k.I : (p : slices_breakPatternsOrdered_123.l0_k.Pt) → ((List Int)) → Prop
  | .l0 a_0 x_1 x_6 y_7 x_8 x_9, r => ∀ (W : Nat → Prop) (h0 m0 h m : Heap) (A_0 : Option Addr) (n_0 c_0 : Nat) (bk_7 : Nat) (cs_7 : List Value) (O : Hold W h0 m0 h m [rR (aE (tell_int .i64)) A_0 c_0 a_0, rV bk_7 223 cs_7]) (ne_0 : n_0 = List.length a_0) (e_7 : (eInt .u64) m y_7 cs_7), f123.l0 (slices_breakPatternsOrdered_123.post W A_0 n_0 c_0 h0 m0 r) A_0 n_0 c_0 x_1 x_6 (⟨bk_7, 0, none⟩ : Addr) x_8 x_9 h
  | .j1 a_0 x_1 x_6 y_7 x_8 x_9 x_10, r => ∀ (W : Nat → Prop) (h0 m0 h m : Heap) (A_0 : Option Addr) (n_0 c_0 : Nat) (bk_7 : Nat) (cs_7 : List Value) (O : Hold W h0 m0 h m [rR (aE (tell_int .i64)) A_0 c_0 a_0, rV bk_7 223 cs_7]) (ne_0 : n_0 = List.length a_0) (e_7 : (eInt .u64) m y_7 cs_7), f123.j1 (slices_breakPatternsOrdered_123.post W A_0 n_0 c_0 h0 m0 r) A_0 n_0 c_0 x_1 x_6 (⟨bk_7, 0, none⟩ : Addr) x_8 x_9 x_10 h
  | .j0 a_0 x_1 x_6 y_7 x_8 x_9, r => ∀ (W : Nat → Prop) (h0 m0 h m : Heap) (A_0 : Option Addr) (n_0 c_0 : Nat) (bk_7 : Nat) (cs_7 : List Value) (O : Hold W h0 m0 h m [rR (aE (tell_int .i64)) A_0 c_0 a_0, rV bk_7 223 cs_7]) (ne_0 : n_0 = List.length a_0) (e_7 : (eInt .u64) m y_7 cs_7), f123.j0 (slices_breakPatternsOrdered_123.post W A_0 n_0 c_0 h0 m0 r) A_0 n_0 c_0 x_1 x_6 (⟨bk_7, 0, none⟩ : Addr) x_8 x_9 h
set_option maxRecDepth 100000 in
theorem slices_breakPatternsOrdered_123.l0_k.step_l0 (go : (p : slices_breakPatternsOrdered_123.l0_k.Pt) → Option ((List Int))) (ih : ∀ p r, go p = some r → slices_breakPatternsOrdered_123.l0_k.I p r) (a_0 : List Int) (x_1 : Int) (x_6 : Int) (y_7 : Int) (x_8 : Int) (x_9 : Int) (r : (List Int)) (e : slices_breakPatternsOrdered_123.l0_k.body go (.l0 a_0 x_1 x_6 y_7 x_8 x_9) = some r) : slices_breakPatternsOrdered_123.l0_k.I (.l0 a_0 x_1 x_6 y_7 x_8 x_9) r := by
  unfold slices_breakPatternsOrdered_123.l0_k.body at e
  intro W h0 m0 h m A_0 n_0 c_0 bk_7 cs_7 O ne_0 e_7
  subst ne_0
  obtain rfl : cs_7 = [(Value.int .u64 y_7)] := e_7
  refine f123.l0_in ?_
  unfold f123.l0T
  refine ⟨by decide, ?_⟩
  refine split_dec_e e (fun c16 e => ?_) (fun c16 e => ?_)
  · obtain ⟨y1, g2, e⟩ := bind_e e
    obtain ⟨W7, P8, B9, C10⟩ := O.callC [1]
    refine (slices_xorshift_Next.walk P8 rfl g2).mono ?_
    rintro _ h3 ⟨m4, cs12, Q5, rfl, he13⟩
    have O14 := Hold.nm (C10 Q5 (vfs_cons rV_vf vfs_nil))
    obtain rfl : cs12 = [(Value.int .u64 y1.2)] := he13
    refine ⟨_, rfl, ?_⟩
    refine split_dec_e e (fun c15 e => ?_) (fun c15 e => ?_)
    · exact (ih _ _ e) _ _ _ _ _ _ _ _ _ _ (O14.pick [0, 2]).nm rfl rfl
    · exact (ih _ _ e) _ _ _ _ _ _ _ _ _ _ (O14.pick [0, 2]).nm rfl rfl
  · cases e
    exact ⟨_, O.pick [0], rfl, rfl⟩
set_option maxRecDepth 100000 in
theorem slices_breakPatternsOrdered_123.l0_k.step_j1 (go : (p : slices_breakPatternsOrdered_123.l0_k.Pt) → Option ((List Int))) (ih : ∀ p r, go p = some r → slices_breakPatternsOrdered_123.l0_k.I p r) (a_0 : List Int) (x_1 : Int) (x_6 : Int) (y_7 : Int) (x_8 : Int) (x_9 : Int) (x_10 : Int) (r : (List Int)) (e : slices_breakPatternsOrdered_123.l0_k.body go (.j1 a_0 x_1 x_6 y_7 x_8 x_9 x_10) = some r) : slices_breakPatternsOrdered_123.l0_k.I (.j1 a_0 x_1 x_6 y_7 x_8 x_9 x_10) r := by
  unfold slices_breakPatternsOrdered_123.l0_k.body at e
  intro W h0 m0 h m A_0 n_0 c_0 bk_7 cs_7 O ne_0 e_7
  subst ne_0
  obtain rfl : cs_7 = [(Value.int .u64 y_7)] := e_7
  refine f123.j1_in ?_
  unfold f123.j1T
  obtain ⟨y1, g2, e⟩ := bind_e e
  refine (O.os 0 rfl).addr rfl g2 fun a3 cs4 ha5 hc6 he7 => ?_
  obtain rfl : cs4 = [(Value.int .i64 y1)] := he7
  obtain ⟨y8, g9, e⟩ := bind_e e
  refine (O.os 0 rfl).addr rfl g9 fun a10 cs11 ha12 hc13 he14 => ?_
  obtain rfl : cs11 = [(Value.int .i64 y8)] := he14
  refine ⟨_, ld0 (Sub.refl _) hc6 rfl, _, rfl, ?_⟩
  refine ⟨_, ld0 (Sub.refl _) hc13 rfl, _, rfl, ?_⟩
  obtain ⟨y15, g16, e⟩ := bind_e e
  refine (O.os 0 rfl).addr rfl g16 fun a17 cs18 ha19 hc20 he21 => ?_
  obtain rfl : cs18 = [(Value.int .i64 y15)] := he21
  obtain ⟨l24, g25, e⟩ := bind_e e
  replace g25 := Option.some.inj g25
  refine O.elst0 0 rfl g16 ha19 hc20 (by decide) (y' := y1) rfl trivial g25 fun h22 O23 => ?_
  obtain ⟨y26, g27, e⟩ := bind_e e
  refine (O23.os 0 rfl).addr (lset' g25) g27 fun a28 cs29 ha30 hc31 he32 => ?_
  obtain rfl : cs29 = [(Value.int .i64 y26)] := he32
  obtain ⟨l35, g36, e⟩ := bind_e e
  replace g36 := Option.some.inj g36
  refine O23.elst0 0 rfl g27 ha30 hc31 (by decide) (y' := y8) rfl trivial g36 fun h33 O34 => ?_
  have O37 := O34.nm
  exact (ih _ _ e) _ _ _ _ _ _ _ _ _ _ (O37.pick [0, 1]).nm ((lset' g25).trans (lset' g36)) rfl
set_option maxRecDepth 100000 in
theorem slices_breakPatternsOrdered_123.l0_k.step_j0 (go : (p : slices_breakPatternsOrdered_123.l0_k.Pt) → Option ((List Int))) (ih : ∀ p r, go p = some r → slices_breakPatternsOrdered_123.l0_k.I p r) (a_0 : List Int) (x_1 : Int) (x_6 : Int) (y_7 : Int) (x_8 : Int) (x_9 : Int) (r : (List Int)) (e : slices_breakPatternsOrdered_123.l0_k.body go (.j0 a_0 x_1 x_6 y_7 x_8 x_9) = some r) : slices_breakPatternsOrdered_123.l0_k.I (.j0 a_0 x_1 x_6 y_7 x_8 x_9) r := by
  unfold slices_breakPatternsOrdered_123.l0_k.body at e
  intro W h0 m0 h m A_0 n_0 c_0 bk_7 cs_7 O ne_0 e_7
  subst ne_0
  obtain rfl : cs_7 = [(Value.int .u64 y_7)] := e_7
  refine f123.j0_in ?_
  unfold f123.j0T
  exact (ih _ _ e) _ _ _ _ _ _ _ _ _ _ (O.pick [0, 1]).nm rfl rfl
theorem slices_breakPatternsOrdered_123.l0_k.all {p : slices_breakPatternsOrdered_123.l0_k.Pt} {r : ((List Int))} (e : slices_breakPatternsOrdered_123.l0_k.go p = some r) : slices_breakPatternsOrdered_123.l0_k.I p r := fixF_ind (β := fun _ => ((List Int))) slices_breakPatternsOrdered_123.l0_k.mono (I := slices_breakPatternsOrdered_123.l0_k.I) (fun go ih p r e => match p with
  | .l0 a_0 x_1 x_6 y_7 x_8 x_9 => slices_breakPatternsOrdered_123.l0_k.step_l0 go ih a_0 x_1 x_6 y_7 x_8 x_9 r e
  | .j1 a_0 x_1 x_6 y_7 x_8 x_9 x_10 => slices_breakPatternsOrdered_123.l0_k.step_j1 go ih a_0 x_1 x_6 y_7 x_8 x_9 x_10 r e
  | .j0 a_0 x_1 x_6 y_7 x_8 x_9 => slices_breakPatternsOrdered_123.l0_k.step_j0 go ih a_0 x_1 x_6 y_7 x_8 x_9 r e
  ) e
theorem slices_breakPatternsOrdered_123.l0.walk {W : Nat → Prop} {h0 m0 h m : Heap} {A_0 : Option Addr} {n_0 c_0 : Nat} {bk_7 : Nat} {cs_7 : List Value} {a_0 : List Int} {x_1 : Int} {x_6 : Int} {y_7 : Int} {x_8 : Int} {x_9 : Int} (O : Hold W h0 m0 h m [rR (aE (tell_int .i64)) A_0 c_0 a_0, rV bk_7 223 cs_7]) (ne_0 : n_0 = List.length a_0) (e_7 : (eInt .u64) m y_7 cs_7) {r : (List Int)} (e : slices_breakPatternsOrdered_123.l0 a_0 x_1 x_6 y_7 x_8 x_9 = some r) : f123.l0 (slices_breakPatternsOrdered_123.post W A_0 n_0 c_0 h0 m0 r) A_0 n_0 c_0 x_1 x_6 (⟨bk_7, 0, none⟩ : Addr) x_8 x_9 h := slices_breakPatternsOrdered_123.l0_k.all (p := .l0 a_0 x_1 x_6 y_7 x_8 x_9) e W h0 m0 h m A_0 n_0 c_0 bk_7 cs_7 O ne_0 e_7
noncomputable def slices_breakPatternsOrdered_123 (a_0 : List Int) (x_1 : Int) (x_2 : Int) : Option ((List Int)) :=
  if (IntKind.wrap .i64 (x_2 - x_1)) ≥ (8 : Int) then (Option.bind (slices_nextPowerOfTwo (IntKind.wrap .i64 (x_2 - x_1))) fun y7 => (slices_breakPatternsOrdered_123.l0 a_0 x_1 (IntKind.wrap .i64 (x_2 - x_1)) (IntKind.wrap .u64 (IntKind.wrap .i64 (x_2 - x_1))) y7 (IntKind.wrap .i64 ((IntKind.wrap .i64 (x_1 + (IntKind.wrap .i64 ((IntKind.wrap .i64 (Int.tdiv (IntKind.wrap .i64 (x_2 - x_1)) (4 : Int))) * (2 : Int))))) - (1 : Int))))) else (some (a_0))
set_option maxRecDepth 100000 in
theorem slices_breakPatternsOrdered_123.walk {W : Nat → Prop} {h m : Heap} {A_0 : Option Addr} {n_0 c_0 : Nat} {a_0 : List Int} {x_1 : Int} {x_2 : Int} (O : Hold W h m h m [rR (aE (tell_int .i64)) A_0 c_0 a_0]) (ne_0 : n_0 = List.length a_0) {r : (List Int)} (e : slices_breakPatternsOrdered_123 a_0 x_1 x_2 = some r) : Run Try.prog 123 #[Value.slice A_0 n_0 c_0, Value.int .i64 x_1, Value.int .i64 x_2] h (slices_breakPatternsOrdered_123.post W A_0 n_0 c_0 h m r) := by
  unfold slices_breakPatternsOrdered_123 at e
  subst ne_0
  refine f123.run ?_
  unfold f123.runT
  refine split_dec_e e (fun c14 e => ?_) (fun c14 e => ?_)
  · refine O.new fun h1 x2 O3 => ?_
    refine O3.st0 1 rfl (Nat.le_of_ble_eq_true rfl) trivial fun h5 O6 => ?_
    obtain ⟨y7, g8, e⟩ := bind_e e
    refine (slices_nextPowerOfTwo.walk (Hold.start (W := No) O6.s)  g8).mono ?_
    rintro _ h9 ⟨m10, Q11, rfl⟩
    have O13 := Hold.nm (O6.retC Q11 vfs_nil)
    refine ⟨_, rfl, ?_⟩
    refine ⟨by decide, ?_⟩
    exact slices_breakPatternsOrdered_123.l0.walk (O13.pick [0, 1]).nm rfl rfl e
  · cases e
    exact ⟨_, O.pick [0], rfl, rfl⟩
def slices_order2Ordered_184.post (W : Nat → Prop) (bkio3 : Nat) (h0 m0 : Heap) (r : Int × Int × Int) (v : Value) (h : Heap) : Prop := ∃ m csio3, Hold W h0 m0 h m [rV bkio3 3 csio3] ∧ v = .tuple #[.int .i64 r.1, .int .i64 r.2.1] ∧ (eInt .i64) m r.2.2 csio3
noncomputable def slices_order2Ordered_184 (a_0 : List Int) (x_1 : Int) (x_2 : Int) (y_3 : Int) : Option (Int × Int × Int) :=
  Option.bind (gi a_0 x_2) fun y1 => Option.bind (gi a_0 x_1) fun y8 => Option.bind (cmp_Less_127 y1 y8) fun y15 => if y15 = true then (some (x_2, x_1, (IntKind.wrap .i64 (y_3 + (1 : Int))))) else (some (x_1, x_2, y_3))
set_option maxRecDepth 100000 in
theorem slices_order2Ordered_184.walk {W : Nat → Prop} {h m : Heap} {A_0 : Option Addr} {n_0 c_0 : Nat} {bkio3 : Nat} {cs_3 : List Value} {a_0 : List Int} {x_1 : Int} {x_2 : Int} {y_3 : Int} (O : Hold W h m h m [rV bkio3 3 cs_3]) (ne_0 : n_0 = List.length a_0) (k_0 : List.length a_0 ≤ c_0) (r_0 : Rd 1 (eInt .i64) m A_0 a_0) (e_3 : (eInt .i64) m y_3 cs_3) {r : Int × Int × Int} (e : slices_order2Ordered_184 a_0 x_1 x_2 y_3 = some r) : Run Try.prog 184 #[Value.slice A_0 n_0 c_0, Value.int .i64 x_1, Value.int .i64 x_2, Value.pointer (some ⟨bkio3, 0, none⟩)] h (slices_order2Ordered_184.post W bkio3 h m r) := by
  unfold slices_order2Ordered_184 at e
  subst ne_0
  obtain rfl : cs_3 = [(Value.int .i64 y_3)] := e_3
  refine f184.run ?_
  unfold f184.runT
  obtain ⟨y1, g2, e⟩ := bind_e e
  refine r_0.addr rfl g2 fun a3 cs4 ha5 hc6 he7 => ?_
  obtain rfl : cs4 = [(Value.int .i64 y1)] := he7
  obtain ⟨y8, g9, e⟩ := bind_e e
  refine r_0.addr rfl g9 fun a10 cs11 ha12 hc13 he14 => ?_
  obtain rfl : cs11 = [(Value.int .i64 y8)] := he14
  refine ⟨_, ld0 O.s hc6 rfl, _, rfl, ?_⟩
  refine ⟨_, ld0 O.s hc13 rfl, _, rfl, ?_⟩
  obtain ⟨y15, g16, e⟩ := bind_e e
  refine (cmp_Less_127.walk (Hold.start (W := No) O.s)  g16).mono ?_
  rintro _ h17 ⟨m18, Q19, rfl⟩
  have O21 := Hold.nm (O.retC Q19 vfs_nil)
  refine ⟨_, rfl, ?_⟩
  refine split_any_e e (fun c25 e => ?_) (fun c25 e => ?_)
  · refine ⟨_, ld0 (Sub.refl _) (O21.all 0 rfl) rfl, _, rfl, ?_⟩
    refine O21.st0 0 rfl (Nat.le_of_ble_eq_true rfl) trivial fun h22 O23 => ?_
    have O24 := O23.nm
    cases e
    exact ⟨_, _, O24.pick [0], rfl, rfl⟩
  · cases e
    exact ⟨_, _, O21.pick [0], rfl, rfl⟩
def slices_medianOrdered_159.post (W : Nat → Prop) (bkio4 : Nat) (h0 m0 : Heap) (r : Int × Int) (v : Value) (h : Heap) : Prop := ∃ m csio4, Hold W h0 m0 h m [rV bkio4 3 csio4] ∧ v = .int .i64 r.1 ∧ (eInt .i64) m r.2 csio4
noncomputable def slices_medianOrdered_159 (a_0 : List Int) (x_1 : Int) (x_2 : Int) (x_3 : Int) (y_4 : Int) : Option (Int × Int) :=
  Option.bind (slices_order2Ordered_184 a_0 x_1 x_2 y_4) fun y1 => Option.bind (slices_order2Ordered_184 a_0 y1.2.1 x_3 y1.2.2) fun y15 => Option.bind (slices_order2Ordered_184 a_0 y1.1 y15.1 y15.2.2) fun y29 => some (y29.2.1, y29.2.2)
set_option maxRecDepth 100000 in
theorem slices_medianOrdered_159.walk {W : Nat → Prop} {h m : Heap} {A_0 : Option Addr} {n_0 c_0 : Nat} {bkio4 : Nat} {cs_4 : List Value} {a_0 : List Int} {x_1 : Int} {x_2 : Int} {x_3 : Int} {y_4 : Int} (O : Hold W h m h m [rV bkio4 3 cs_4]) (ne_0 : n_0 = List.length a_0) (k_0 : List.length a_0 ≤ c_0) (r_0 : Rd 1 (eInt .i64) m A_0 a_0) (e_4 : (eInt .i64) m y_4 cs_4) {r : Int × Int} (e : slices_medianOrdered_159 a_0 x_1 x_2 x_3 y_4 = some r) : Run Try.prog 159 #[Value.slice A_0 n_0 c_0, Value.int .i64 x_1, Value.int .i64 x_2, Value.int .i64 x_3, Value.pointer (some ⟨bkio4, 0, none⟩)] h (slices_medianOrdered_159.post W bkio4 h m r) := by
  unfold slices_medianOrdered_159 at e
  subst ne_0
  obtain rfl : cs_4 = [(Value.int .i64 y_4)] := e_4
  refine f159.run ?_
  unfold f159.runT
  obtain ⟨y1, g2, e⟩ := bind_e e
  obtain ⟨W7, P8, B9, C10⟩ := O.callC [0]
  refine (slices_order2Ordered_184.walk P8 rfl k_0 r_0 rfl g2).mono ?_
  rintro _ h3 ⟨m4, cs12, Q5, rfl, he13⟩
  have O14 := Hold.nm (C10 Q5 (vfs_cons rV_vf vfs_nil))
  obtain rfl : cs12 = [(Value.int .i64 y1.2.2)] := he13
  refine ⟨_, _, rfl, ?_⟩
  obtain ⟨y15, g16, e⟩ := bind_e e
  obtain ⟨W21, P22, B23, C24⟩ := O14.callC [1]
  refine (slices_order2Ordered_184.walk P22 rfl k_0 r_0 rfl g16).mono ?_
  rintro _ h17 ⟨m18, cs26, Q19, rfl, he27⟩
  have O28 := Hold.nm (C24 Q19 (vfs_cons rV_vf vfs_nil))
  obtain rfl : cs26 = [(Value.int .i64 y15.2.2)] := he27
  refine ⟨_, _, rfl, ?_⟩
  obtain ⟨y29, g30, e⟩ := bind_e e
  obtain ⟨W35, P36, B37, C38⟩ := O28.callC [2]
  refine (slices_order2Ordered_184.walk P36 rfl k_0 r_0 rfl g30).mono ?_
  rintro _ h31 ⟨m32, cs40, Q33, rfl, he41⟩
  have O42 := Hold.nm (C38 Q33 (vfs_cons rV_vf vfs_nil))
  obtain rfl : cs40 = [(Value.int .i64 y29.2.2)] := he41
  refine ⟨_, _, rfl, ?_⟩
  cases e
  exact ⟨_, _, O42.pick [3], rfl, rfl⟩
def slices_medianAdjacentOrdered_158.post (W : Nat → Prop) (bkio2 : Nat) (h0 m0 : Heap) (r : Int × Int) (v : Value) (h : Heap) : Prop := ∃ m csio2, Hold W h0 m0 h m [rV bkio2 3 csio2] ∧ v = .int .i64 r.1 ∧ (eInt .i64) m r.2 csio2
noncomputable def slices_medianAdjacentOrdered_158 (a_0 : List Int) (x_1 : Int) (y_2 : Int) : Option (Int × Int) :=
  Option.bind (slices_medianOrdered_159 a_0 (IntKind.wrap .i64 (x_1 - (1 : Int))) x_1 (IntKind.wrap .i64 (x_1 + (1 : Int))) y_2) fun y1 => some (y1.1, y1.2)
set_option maxRecDepth 100000 in
theorem slices_medianAdjacentOrdered_158.walk {W : Nat → Prop} {h m : Heap} {A_0 : Option Addr} {n_0 c_0 : Nat} {bkio2 : Nat} {cs_2 : List Value} {a_0 : List Int} {x_1 : Int} {y_2 : Int} (O : Hold W h m h m [rV bkio2 3 cs_2]) (ne_0 : n_0 = List.length a_0) (k_0 : List.length a_0 ≤ c_0) (r_0 : Rd 1 (eInt .i64) m A_0 a_0) (e_2 : (eInt .i64) m y_2 cs_2) {r : Int × Int} (e : slices_medianAdjacentOrdered_158 a_0 x_1 y_2 = some r) : Run Try.prog 158 #[Value.slice A_0 n_0 c_0, Value.int .i64 x_1, Value.pointer (some ⟨bkio2, 0, none⟩)] h (slices_medianAdjacentOrdered_158.post W bkio2 h m r) := by
  unfold slices_medianAdjacentOrdered_158 at e
  subst ne_0
  obtain rfl : cs_2 = [(Value.int .i64 y_2)] := e_2
  refine f158.run ?_
  unfold f158.runT
  obtain ⟨y1, g2, e⟩ := bind_e e
  obtain ⟨W7, P8, B9, C10⟩ := O.callC [0]
  refine (slices_medianOrdered_159.walk P8 rfl k_0 r_0 rfl g2).mono ?_
  rintro _ h3 ⟨m4, cs12, Q5, rfl, he13⟩
  have O14 := Hold.nm (C10 Q5 (vfs_cons rV_vf vfs_nil))
  obtain rfl : cs12 = [(Value.int .i64 y1.2)] := he13
  refine ⟨_, rfl, ?_⟩
  cases e
  exact ⟨_, _, O14.pick [1], rfl, rfl⟩
def slices_choosePivotOrdered_124.post (W : Nat → Prop) (h0 m0 : Heap) (r : Int × Int) (v : Value) (h : Heap) : Prop := ∃ m , Hold W h0 m0 h m [] ∧ v = .tuple #[.int .i64 r.1, .int .i64 r.2]
noncomputable def slices_choosePivotOrdered_124.j0 (y_9 : Int) (x_11 : Int) : Option (Int × Int) :=
  if y_9 = (0 : Int) then (some (x_11, (1 : Int))) else (if y_9 = (12 : Int) then (some (x_11, (2 : Int))) else (some (x_11, (0 : Int))))
set_option maxRecDepth 100000 in
theorem slices_choosePivotOrdered_124.j0.walk {W : Nat → Prop} {h0 m0 h m : Heap} {bk_9 : Nat} {cs_9 : List Value} {y_9 : Int} {x_11 : Int} (O : Hold W h0 m0 h m [rV bk_9 3 cs_9]) (e_9 : (eInt .i64) m y_9 cs_9) {r : Int × Int} (e : slices_choosePivotOrdered_124.j0 y_9 x_11 = some r) : f124.j0 (slices_choosePivotOrdered_124.post W h0 m0 r) (⟨bk_9, 0, none⟩ : Addr) x_11 h := by
  unfold slices_choosePivotOrdered_124.j0 at e
  obtain rfl : cs_9 = [(Value.int .i64 y_9)] := e_9
  refine f124.j0_in ?_
  unfold f124.j0T
  refine ⟨_, ld0 (Sub.refl _) (O.all 0 rfl) rfl, _, rfl, ?_⟩
  refine split_eq_e e (fun c2 e => ?_) (fun c2 e => ?_)
  · cases e
    exact ⟨_, O.pick [], rfl⟩
  · refine split_eq_e e (fun c1 e => ?_) (fun c1 e => ?_)
    · cases e
      exact ⟨_, O.pick [], rfl⟩
    · cases e
      exact ⟨_, O.pick [], rfl⟩
noncomputable def slices_choosePivotOrdered_124.j1 (a_0 : List Int) (y_9 : Int) (x_10 : Int) (x_11 : Int) (x_12 : Int) : Option (Int × Int) :=
  Option.bind (slices_medianOrdered_159 a_0 x_10 x_11 x_12 y_9) fun y1 => (slices_choosePivotOrdered_124.j0 y1.2 y1.1)
set_option maxRecDepth 100000 in
theorem slices_choosePivotOrdered_124.j1.walk {W : Nat → Prop} {h0 m0 h m : Heap} {A_0 : Option Addr} {n_0 c_0 : Nat} {bk_9 : Nat} {cs_9 : List Value} {a_0 : List Int} {y_9 : Int} {x_10 : Int} {x_11 : Int} {x_12 : Int} (O : Hold W h0 m0 h m [rV bk_9 3 cs_9]) (ne_0 : n_0 = List.length a_0) (k_0 : List.length a_0 ≤ c_0) (r_0 : Rd 1 (eInt .i64) m A_0 a_0) (e_9 : (eInt .i64) m y_9 cs_9) {r : Int × Int} (e : slices_choosePivotOrdered_124.j1 a_0 y_9 x_10 x_11 x_12 = some r) : f124.j1 (slices_choosePivotOrdered_124.post W h0 m0 r) A_0 n_0 c_0 (⟨bk_9, 0, none⟩ : Addr) x_10 x_11 x_12 h := by
  unfold slices_choosePivotOrdered_124.j1 at e
  subst ne_0
  obtain rfl : cs_9 = [(Value.int .i64 y_9)] := e_9
  refine f124.j1_in ?_
  unfold f124.j1T
  obtain ⟨y1, g2, e⟩ := bind_e e
  obtain ⟨W7, P8, B9, C10⟩ := O.callC [0]
  refine (slices_medianOrdered_159.walk P8 rfl k_0 r_0 rfl g2).mono ?_
  rintro _ h3 ⟨m4, cs12, Q5, rfl, he13⟩
  have O14 := Hold.nm (C10 Q5 (vfs_cons rV_vf vfs_nil))
  obtain rfl : cs12 = [(Value.int .i64 y1.2)] := he13
  refine ⟨_, rfl, ?_⟩
  exact slices_choosePivotOrdered_124.j0.walk (O14.pick [1]).nm rfl e
noncomputable def slices_choosePivotOrdered_124 (a_0 : List Int) (x_1 : Int) (x_2 : Int) : Option (Int × Int) :=
  if (IntKind.wrap .i64 (x_2 - x_1)) ≥ (8 : Int) then (if (IntKind.wrap .i64 (x_2 - x_1)) ≥ (50 : Int) then (Option.bind (slices_medianAdjacentOrdered_158 a_0 (IntKind.wrap .i64 (x_1 + (IntKind.wrap .i64 ((IntKind.wrap .i64 (Int.tdiv (IntKind.wrap .i64 (x_2 - x_1)) (4 : Int))) * (1 : Int))))) (0 : Int)) fun y5 => Option.bind (slices_medianAdjacentOrdered_158 a_0 (IntKind.wrap .i64 (x_1 + (IntKind.wrap .i64 ((IntKind.wrap .i64 (Int.tdiv (IntKind.wrap .i64 (x_2 - x_1)) (4 : Int))) * (2 : Int))))) y5.2) fun y20 => Option.bind (slices_medianAdjacentOrdered_158 a_0 (IntKind.wrap .i64 (x_1 + (IntKind.wrap .i64 ((IntKind.wrap .i64 (Int.tdiv (IntKind.wrap .i64 (x_2 - x_1)) (4 : Int))) * (3 : Int))))) y20.2) fun y34 => (slices_choosePivotOrdered_124.j1 a_0 y34.2 y5.1 y20.1 y34.1)) else ((slices_choosePivotOrdered_124.j1 a_0 (0 : Int) (IntKind.wrap .i64 (x_1 + (IntKind.wrap .i64 ((IntKind.wrap .i64 (Int.tdiv (IntKind.wrap .i64 (x_2 - x_1)) (4 : Int))) * (1 : Int))))) (IntKind.wrap .i64 (x_1 + (IntKind.wrap .i64 ((IntKind.wrap .i64 (Int.tdiv (IntKind.wrap .i64 (x_2 - x_1)) (4 : Int))) * (2 : Int))))) (IntKind.wrap .i64 (x_1 + (IntKind.wrap .i64 ((IntKind.wrap .i64 (Int.tdiv (IntKind.wrap .i64 (x_2 - x_1)) (4 : Int))) * (3 : Int)))))))) else ((slices_choosePivotOrdered_124.j0 (0 : Int) (IntKind.wrap .i64 (x_1 + (IntKind.wrap .i64 ((IntKind.wrap .i64 (Int.tdiv (IntKind.wrap .i64 (x_2 - x_1)) (4 : Int))) * (2 : Int)))))))
set_option maxHeartbeats 4000000 in
set_option maxRecDepth 100000 in
theorem slices_choosePivotOrdered_124.walk {W : Nat → Prop} {h m : Heap} {A_0 : Option Addr} {n_0 c_0 : Nat} {a_0 : List Int} {x_1 : Int} {x_2 : Int} (O : Hold W h m h m []) (ne_0 : n_0 = List.length a_0) (k_0 : List.length a_0 ≤ c_0) (r_0 : Rd 1 (eInt .i64) m A_0 a_0) {r : Int × Int} (e : slices_choosePivotOrdered_124 a_0 x_1 x_2 = some r) : Run Try.prog 124 #[Value.slice A_0 n_0 c_0, Value.int .i64 x_1, Value.int .i64 x_2] h (slices_choosePivotOrdered_124.post W h m r) := by
  unfold slices_choosePivotOrdered_124 at e
  subst ne_0
  refine f124.run ?_
  unfold f124.runT
  refine O.new fun h1 x2 O3 => ?_
  refine ⟨by decide, ?_⟩
  refine ⟨by decide, ?_⟩
  refine ⟨by decide, ?_⟩
  refine split_dec_e e (fun c51 e => ?_) (fun c51 e => ?_)
  · refine split_dec_e e (fun c49 e => ?_) (fun c49 e => ?_)
    · obtain ⟨y5, g6, e⟩ := bind_e e
      have O11 := O3.nm
      obtain ⟨W12, P13, B14, C15⟩ := O11.callC [0]
      refine (slices_medianAdjacentOrdered_158.walk P13 rfl k_0 r_0 rfl g6).mono ?_
      rintro _ h7 ⟨m8, cs17, Q9, rfl, he18⟩
      have O19 := Hold.nm (C15 Q9 (vfs_cons rV_vf vfs_nil))
      obtain rfl : cs17 = [(Value.int .i64 y5.2)] := he18
      refine ⟨_, rfl, ?_⟩
      obtain ⟨y20, g21, e⟩ := bind_e e
      obtain ⟨W26, P27, B28, C29⟩ := O19.callC [1]
      refine (slices_medianAdjacentOrdered_158.walk P27 rfl k_0 r_0 rfl g21).mono ?_
      rintro _ h22 ⟨m23, cs31, Q24, rfl, he32⟩
      have O33 := Hold.nm (C29 Q24 (vfs_cons rV_vf vfs_nil))
      obtain rfl : cs31 = [(Value.int .i64 y20.2)] := he32
      refine ⟨_, rfl, ?_⟩
      obtain ⟨y34, g35, e⟩ := bind_e e
      obtain ⟨W40, P41, B42, C43⟩ := O33.callC [2]
      refine (slices_medianAdjacentOrdered_158.walk P41 rfl k_0 r_0 rfl g35).mono ?_
      rintro _ h36 ⟨m37, cs45, Q38, rfl, he46⟩
      have O47 := Hold.nm (C43 Q38 (vfs_cons rV_vf vfs_nil))
      obtain rfl : cs45 = [(Value.int .i64 y34.2)] := he46
      refine ⟨_, rfl, ?_⟩
      exact slices_choosePivotOrdered_124.j1.walk (O47.pick [3]).nm rfl k_0 r_0 rfl e
    · have O48 := O3.nm
      exact slices_choosePivotOrdered_124.j1.walk (O48.pick [0]).nm rfl k_0 r_0 rfl e
  · have O50 := O3.nm
    exact slices_choosePivotOrdered_124.j0.walk (O50.pick [0]).nm rfl e
def slices_reverseRangeOrdered_125.post (W : Nat → Prop) (Asl0 : Option Addr) (nsl0 csl0 : Nat) (h0 m0 : Heap) (r : (List Int)) (v : Value) (h : Heap) : Prop := ∃ m , Hold W h0 m0 h m [rR (aE (tell_int .i64)) Asl0 csl0 r] ∧ v = .tuple #[] ∧ nsl0 = List.length r
inductive slices_reverseRangeOrdered_125.l0_k.Pt where
  | l0 (a_0 : List Int) (x_6 : Int) (x_7 : Int)
noncomputable def slices_reverseRangeOrdered_125.l0_k.body (go : (p : slices_reverseRangeOrdered_125.l0_k.Pt) → Option ((List Int))) : (p : slices_reverseRangeOrdered_125.l0_k.Pt) → Option ((List Int))
  | .l0 a_0 x_6 x_7 => if x_6 < x_7 then (Option.bind (gi a_0 x_7) fun y1 => Option.bind (gi a_0 x_6) fun y8 => Option.bind (gi a_0 x_6) fun y15 => Option.bind (some (List.set a_0 (Int.toNat x_6) y1)) fun l24 => Option.bind (gi l24 x_7) fun y26 => Option.bind (some (List.set l24 (Int.toNat x_7) y8)) fun l35 => (go (.l0 l35 (IntKind.wrap .i64 (x_6 + (1 : Int))) (IntKind.wrap .i64 (x_7 - (1 : Int)))))) else (some (a_0))
theorem slices_reverseRangeOrdered_125.l0_k.mono : MonoF (β := fun _ => ((List Int))) slices_reverseRangeOrdered_125.l0_k.body := fun f g hfg p => match p with
  | .l0 a_0 x_6 x_7 => LeO.ite (LeO.bind (LeO.refl _) fun y1 => LeO.bind (LeO.refl _) fun y8 => LeO.bind (LeO.refl _) fun y15 => LeO.bind (LeO.refl _) fun l24 => LeO.bind (LeO.refl _) fun y26 => LeO.bind (LeO.refl _) fun l35 => (hfg _)) (LeO.refl _)
noncomputable def slices_reverseRangeOrdered_125.l0_k.go (p : slices_reverseRangeOrdered_125.l0_k.Pt) : Option ((List Int)) := fixF (β := fun _ => ((List Int))) slices_reverseRangeOrdered_125.l0_k.body p
noncomputable def slices_reverseRangeOrdered_125.l0 (a_0 : List Int) (x_6 : Int) (x_7 : Int) : Option ((List Int)) := slices_reverseRangeOrdered_125.l0_k.go (.l0 a_0 x_6 x_7)
theorem slices_reverseRangeOrdered_125.l0_eq (a_0 : List Int) (x_6 : Int) (x_7 : Int) : slices_reverseRangeOrdered_125.l0 a_0 x_6 x_7 = if x_6 < x_7 then (Option.bind (gi a_0 x_7) fun y1 => Option.bind (gi a_0 x_6) fun y8 => Option.bind (gi a_0 x_6) fun y15 => Option.bind (some (List.set a_0 (Int.toNat x_6) y1)) fun l24 => Option.bind (gi l24 x_7) fun y26 => Option.bind (some (List.set l24 (Int.toNat x_7) y8)) fun l35 => (slices_reverseRangeOrdered_125.l0 l35 (IntKind.wrap .i64 (x_6 + (1 : Int))) (IntKind.wrap .i64 (x_7 - (1 : Int))))) else (some (a_0)) := fixF_eq slices_reverseRangeOrdered_125.l0_k.mono _
def slices_reverseRangeOrdered_125.l0_k.I : (p : slices_reverseRangeOrdered_125.l0_k.Pt) → ((List Int)) → Prop
  | .l0 a_0 x_6 x_7, r => ∀ (W : Nat → Prop) (h0 m0 h m : Heap) (A_0 : Option Addr) (n_0 c_0 : Nat) (O : Hold W h0 m0 h m [rR (aE (tell_int .i64)) A_0 c_0 a_0]) (ne_0 : n_0 = List.length a_0), f125.l0 (slices_reverseRangeOrdered_125.post W A_0 n_0 c_0 h0 m0 r) A_0 n_0 c_0 x_6 x_7 h
set_option maxRecDepth 100000 in
theorem slices_reverseRangeOrdered_125.l0_k.step_l0 (go : (p : slices_reverseRangeOrdered_125.l0_k.Pt) → Option ((List Int))) (ih : ∀ p r, go p = some r → slices_reverseRangeOrdered_125.l0_k.I p r) (a_0 : List Int) (x_6 : Int) (x_7 : Int) (r : (List Int)) (e : slices_reverseRangeOrdered_125.l0_k.body go (.l0 a_0 x_6 x_7) = some r) : slices_reverseRangeOrdered_125.l0_k.I (.l0 a_0 x_6 x_7) r := by
  unfold slices_reverseRangeOrdered_125.l0_k.body at e
  intro W h0 m0 h m A_0 n_0 c_0 O ne_0
  subst ne_0
  refine f125.l0_in ?_
  unfold f125.l0T
  refine split_dec_e e (fun c38 e => ?_) (fun c38 e => ?_)
  · obtain ⟨y1, g2, e⟩ := bind_e e
    refine (O.os 0 rfl).addr rfl g2 fun a3 cs4 ha5 hc6 he7 => ?_
    obtain rfl : cs4 = [(Value.int .i64 y1)] := he7
    obtain ⟨y8, g9, e⟩ := bind_e e
    refine (O.os 0 rfl).addr rfl g9 fun a10 cs11 ha12 hc13 he14 => ?_
    obtain rfl : cs11 = [(Value.int .i64 y8)] := he14
    refine ⟨_, ld0 (Sub.refl _) hc6 rfl, _, rfl, ?_⟩
    refine ⟨_, ld0 (Sub.refl _) hc13 rfl, _, rfl, ?_⟩
    obtain ⟨y15, g16, e⟩ := bind_e e
    refine (O.os 0 rfl).addr rfl g16 fun a17 cs18 ha19 hc20 he21 => ?_
    obtain rfl : cs18 = [(Value.int .i64 y15)] := he21
    obtain ⟨l24, g25, e⟩ := bind_e e
    replace g25 := Option.some.inj g25
    refine O.elst0 0 rfl g16 ha19 hc20 (by decide) (y' := y1) rfl trivial g25 fun h22 O23 => ?_
    obtain ⟨y26, g27, e⟩ := bind_e e
    refine (O23.os 0 rfl).addr (lset' g25) g27 fun a28 cs29 ha30 hc31 he32 => ?_
    obtain rfl : cs29 = [(Value.int .i64 y26)] := he32
    obtain ⟨l35, g36, e⟩ := bind_e e
    replace g36 := Option.some.inj g36
    refine O23.elst0 0 rfl g27 ha30 hc31 (by decide) (y' := y8) rfl trivial g36 fun h33 O34 => ?_
    have O37 := O34.nm
    exact (ih _ _ e) _ _ _ _ _ _ _ _ (O37.pick [0]).nm ((lset' g25).trans (lset' g36))
  · cases e
    exact ⟨_, O.pick [0], rfl, rfl⟩
theorem slices_reverseRangeOrdered_125.l0_k.all {p : slices_reverseRangeOrdered_125.l0_k.Pt} {r : ((List Int))} (e : slices_reverseRangeOrdered_125.l0_k.go p = some r) : slices_reverseRangeOrdered_125.l0_k.I p r := fixF_ind (β := fun _ => ((List Int))) slices_reverseRangeOrdered_125.l0_k.mono (I := slices_reverseRangeOrdered_125.l0_k.I) (fun go ih p r e => match p with
  | .l0 a_0 x_6 x_7 => slices_reverseRangeOrdered_125.l0_k.step_l0 go ih a_0 x_6 x_7 r e
  ) e
theorem slices_reverseRangeOrdered_125.l0.walk {W : Nat → Prop} {h0 m0 h m : Heap} {A_0 : Option Addr} {n_0 c_0 : Nat} {a_0 : List Int} {x_6 : Int} {x_7 : Int} (O : Hold W h0 m0 h m [rR (aE (tell_int .i64)) A_0 c_0 a_0]) (ne_0 : n_0 = List.length a_0) {r : (List Int)} (e : slices_reverseRangeOrdered_125.l0 a_0 x_6 x_7 = some r) : f125.l0 (slices_reverseRangeOrdered_125.post W A_0 n_0 c_0 h0 m0 r) A_0 n_0 c_0 x_6 x_7 h := slices_reverseRangeOrdered_125.l0_k.all (p := .l0 a_0 x_6 x_7) e W h0 m0 h m A_0 n_0 c_0 O ne_0
noncomputable def slices_reverseRangeOrdered_125 (a_0 : List Int) (x_1 : Int) (x_2 : Int) : Option ((List Int)) :=
  (slices_reverseRangeOrdered_125.l0 a_0 x_1 (IntKind.wrap .i64 (x_2 - (1 : Int))))
set_option maxRecDepth 100000 in
theorem slices_reverseRangeOrdered_125.walk {W : Nat → Prop} {h m : Heap} {A_0 : Option Addr} {n_0 c_0 : Nat} {a_0 : List Int} {x_1 : Int} {x_2 : Int} (O : Hold W h m h m [rR (aE (tell_int .i64)) A_0 c_0 a_0]) (ne_0 : n_0 = List.length a_0) {r : (List Int)} (e : slices_reverseRangeOrdered_125 a_0 x_1 x_2 = some r) : Run Try.prog 125 #[Value.slice A_0 n_0 c_0, Value.int .i64 x_1, Value.int .i64 x_2] h (slices_reverseRangeOrdered_125.post W A_0 n_0 c_0 h m r) := by
  unfold slices_reverseRangeOrdered_125 at e
  subst ne_0
  refine f125.run ?_
  unfold f125.runT
  exact slices_reverseRangeOrdered_125.l0.walk (O.pick [0]).nm rfl e
def slices_partialInsertionSortOrdered_126.post (W : Nat → Prop) (Asl0 : Option Addr) (nsl0 csl0 : Nat) (h0 m0 : Heap) (r : Bool × (List Int)) (v : Value) (h : Heap) : Prop := ∃ m , Hold W h0 m0 h m [rR (aE (tell_int .i64)) Asl0 csl0 r.2] ∧ v = .bool r.1 ∧ nsl0 = List.length r.2
inductive slices_partialInsertionSortOrdered_126.l0_k.Pt where
  | l0 (a_0 : List Int) (x_1 : Int) (x_2 : Int) (x_7 : Int) (x_8 : Int)
  | l1 (a_0 : List Int) (x_1 : Int) (x_2 : Int) (x_7 : Int) (x_8 : Int)
  | j2 (a_0 : List Int) (x_1 : Int) (x_2 : Int) (x_7 : Int) (x_8 : Int)
  | j1 (a_0 : List Int) (x_1 : Int) (x_2 : Int) (x_7 : Int) (x_8 : Int)
  | l2 (a_0 : List Int) (x_1 : Int) (x_2 : Int) (x_7 : Int) (x_8 : Int) (x_9 : Int)
  | j3 (a_0 : List Int) (x_1 : Int) (x_2 : Int) (x_7 : Int) (x_8 : Int)
  | l3 (a_0 : List Int) (x_1 : Int) (x_2 : Int) (x_7 : Int) (x_8 : Int) (x_10 : Int)
  | j0 (a_0 : List Int) (x_1 : Int) (x_2 : Int) (x_7 : Int) (x_8 : Int)
noncomputable def slices_partialInsertionSortOrdered_126.l0_k.body (go : (p : slices_partialInsertionSortOrdered_126.l0_k.Pt) → Option (Bool × (List Int))) : (p : slices_partialInsertionSortOrdered_126.l0_k.Pt) → Option (Bool × (List Int))
  | .l0 a_0 x_1 x_2 x_7 x_8 => if x_8 < (5 : Int) then ((go (.l1 a_0 x_1 x_2 x_7 x_8))) else (some (false, a_0))
  | .l1 a_0 x_1 x_2 x_7 x_8 => if x_7 < x_2 then (Option.bind (gi a_0 x_7) fun y1 => Option.bind (gi a_0 (IntKind.wrap .i64 (x_7 - (1 : Int)))) fun y8 => Option.bind (cmp_Less_127 y1 y8) fun y15 => if y15 = true then ((go (.j1 a_0 x_1 x_2 x_7 x_8))) else ((go (.j2 a_0 x_1 x_2 x_7 x_8)))) else ((go (.j1 a_0 x_1 x_2 x_7 x_8)))
  | .j2 a_0 x_1 x_2 x_7 x_8 => (go (.l1 a_0 x_1 x_2 (IntKind.wrap .i64 (x_7 + (1 : Int))) x_8))
  | .j1 a_0 x_1 x_2 x_7 x_8 => if x_7 = x_2 then (some (true, a_0)) else (if (IntKind.wrap .i64 (x_2 - x_1)) < (50 : Int) then (some (false, a_0)) else (Option.bind (gi a_0 (IntKind.wrap .i64 (x_7 - (1 : Int)))) fun y1 => Option.bind (gi a_0 x_7) fun y8 => Option.bind (gi a_0 x_7) fun y15 => Option.bind (some (List.set a_0 (Int.toNat x_7) y1)) fun l24 => Option.bind (gi l24 (IntKind.wrap .i64 (x_7 - (1 : Int)))) fun y26 => Option.bind (some (List.set l24 (Int.toNat (IntKind.wrap .i64 (x_7 - (1 : Int)))) y8)) fun l35 => if (IntKind.wrap .i64 (x_7 - x_1)) ≥ (2 : Int) then ((go (.l2 l35 x_1 x_2 x_7 x_8 (IntKind.wrap .i64 (x_7 - (1 : Int)))))) else ((go (.j3 l35 x_1 x_2 x_7 x_8)))))
  | .l2 a_0 x_1 x_2 x_7 x_8 x_9 => if x_9 ≥ (1 : Int) then (Option.bind (gi a_0 x_9) fun y1 => Option.bind (gi a_0 (IntKind.wrap .i64 (x_9 - (1 : Int)))) fun y8 => Option.bind (cmp_Less_127 y1 y8) fun y15 => if y15 = true then (Option.bind (gi a_0 (IntKind.wrap .i64 (x_9 - (1 : Int)))) fun y22 => Option.bind (gi a_0 x_9) fun y29 => Option.bind (gi a_0 x_9) fun y36 => Option.bind (some (List.set a_0 (Int.toNat x_9) y22)) fun l45 => Option.bind (gi l45 (IntKind.wrap .i64 (x_9 - (1 : Int)))) fun y47 => Option.bind (some (List.set l45 (Int.toNat (IntKind.wrap .i64 (x_9 - (1 : Int)))) y29)) fun l56 => (go (.l2 l56 x_1 x_2 x_7 x_8 (IntKind.wrap .i64 (x_9 - (1 : Int)))))) else ((go (.j3 a_0 x_1 x_2 x_7 x_8)))) else ((go (.j3 a_0 x_1 x_2 x_7 x_8)))
  | .j3 a_0 x_1 x_2 x_7 x_8 => if (IntKind.wrap .i64 (x_2 - x_7)) ≥ (2 : Int) then ((go (.l3 a_0 x_1 x_2 x_7 x_8 (IntKind.wrap .i64 (x_7 + (1 : Int)))))) else ((go (.j0 a_0 x_1 x_2 x_7 x_8)))
  | .l3 a_0 x_1 x_2 x_7 x_8 x_10 => if x_10 < x_2 then (Option.bind (gi a_0 x_10) fun y1 => Option.bind (gi a_0 (IntKind.wrap .i64 (x_10 - (1 : Int)))) fun y8 => Option.bind (cmp_Less_127 y1 y8) fun y15 => if y15 = true then (Option.bind (gi a_0 (IntKind.wrap .i64 (x_10 - (1 : Int)))) fun y22 => Option.bind (gi a_0 x_10) fun y29 => Option.bind (gi a_0 x_10) fun y36 => Option.bind (some (List.set a_0 (Int.toNat x_10) y22)) fun l45 => Option.bind (gi l45 (IntKind.wrap .i64 (x_10 - (1 : Int)))) fun y47 => Option.bind (some (List.set l45 (Int.toNat (IntKind.wrap .i64 (x_10 - (1 : Int)))) y29)) fun l56 => (go (.l3 l56 x_1 x_2 x_7 x_8 (IntKind.wrap .i64 (x_10 + (1 : Int)))))) else ((go (.j0 a_0 x_1 x_2 x_7 x_8)))) else ((go (.j0 a_0 x_1 x_2 x_7 x_8)))
  | .j0 a_0 x_1 x_2 x_7 x_8 => (go (.l0 a_0 x_1 x_2 x_7 (IntKind.wrap .i64 (x_8 + (1 : Int)))))
attribute [local irreducible] cmp_Less_127 in
theorem slices_partialInsertionSortOrdered_126.l0_k.mono : MonoF (β := fun _ => (Bool × (List Int))) slices_partialInsertionSortOrdered_126.l0_k.body := fun f g hfg p => match p with
  | .l0 a_0 x_1 x_2 x_7 x_8 => LeO.ite ((hfg _)) (LeO.refl _)
  | .l1 a_0 x_1 x_2 x_7 x_8 => LeO.ite (LeO.bind (LeO.refl _) fun y1 => LeO.bind (LeO.refl _) fun y8 => LeO.bind (LeO.refl _) fun y15 => LeO.ite ((hfg _)) ((hfg _))) ((hfg _))
  | .j2 a_0 x_1 x_2 x_7 x_8 => (hfg _)
  | .j1 a_0 x_1 x_2 x_7 x_8 => LeO.ite (LeO.refl _) (LeO.ite (LeO.refl _) (LeO.bind (LeO.refl _) fun y1 => LeO.bind (LeO.refl _) fun y8 => LeO.bind (LeO.refl _) fun y15 => LeO.bind (LeO.refl _) fun l24 => LeO.bind (LeO.refl _) fun y26 => LeO.bind (LeO.refl _) fun l35 => LeO.ite ((hfg _)) ((hfg _))))
  | .l2 a_0 x_1 x_2 x_7 x_8 x_9 => LeO.ite (LeO.bind (LeO.refl _) fun y1 => LeO.bind (LeO.refl _) fun y8 => LeO.bind (LeO.refl _) fun y15 => LeO.ite (LeO.bind (LeO.refl _) fun y22 => LeO.bind (LeO.refl _) fun y29 => LeO.bind (LeO.refl _) fun y36 => LeO.bind (LeO.refl _) fun l45 => LeO.bind (LeO.refl _) fun y47 => LeO.bind (LeO.refl _) fun l56 => (hfg _)) ((hfg _))) ((hfg _))
  | .j3 a_0 x_1 x_2 x_7 x_8 => LeO.ite ((hfg _)) ((hfg _))
  | .l3 a_0 x_1 x_2 x_7 x_8 x_10 => LeO.ite (LeO.bind (LeO.refl _) fun y1 => LeO.bind (LeO.refl _) fun y8 => LeO.bind (LeO.refl _) fun y15 => LeO.ite (LeO.bind (LeO.refl _) fun y22 => LeO.bind (LeO.refl _) fun y29 => LeO.bind (LeO.refl _) fun y36 => LeO.bind (LeO.refl _) fun l45 => LeO.bind (LeO.refl _) fun y47 => LeO.bind (LeO.refl _) fun l56 => (hfg _)) ((hfg _))) ((hfg _))
  | .j0 a_0 x_1 x_2 x_7 x_8 => (hfg _)
noncomputable def slices_partialInsertionSortOrdered_126.l0_k.go (p : slices_partialInsertionSortOrdered_126.l0_k.Pt) : Option (Bool × (List Int)) := fixF (β := fun _ => (Bool × (List Int))) slices_partialInsertionSortOrdered_126.l0_k.body p
noncomputable def slices_partialInsertionSortOrdered_126.l0 (a_0 : List Int) (x_1 : Int) (x_2 : Int) (x_7 : Int) (x_8 : Int) : Option (Bool × (List Int)) := slices_partialInsertionSortOrdered_126.l0_k.go (.l0 a_0 x_1 x_2 x_7 x_8)
noncomputable def slices_partialInsertionSortOrdered_126.l1 (a_0 : List Int) (x_1 : Int) (x_2 : Int) (x_7 : Int) (x_8 : Int) : Option (Bool × (List Int)) := slices_partialInsertionSortOrdered_126.l0_k.go (.l1 a_0 x_1 x_2 x_7 x_8)
noncomputable def slices_partialInsertionSortOrdered_126.j2 (a_0 : List Int) (x_1 : Int) (x_2 : Int) (x_7 : Int) (x_8 : Int) : Option (Bool × (List Int)) := slices_partialInsertionSortOrdered_126.l0_k.go (.j2 a_0 x_1 x_2 x_7 x_8)
noncomputable def slices_partialInsertionSortOrdered_126.j1 (a_0 : List Int) (x_1 : Int) (x_2 : Int) (x_7 : Int) (x_8 : Int) : Option (Bool × (List Int)) := slices_partialInsertionSortOrdered_126.l0_k.go (.j1 a_0 x_1 x_2 x_7 x_8)
noncomputable def slices_partialInsertionSortOrdered_126.l2 (a_0 : List Int) (x_1 : Int) (x_2 : Int) (x_7 : Int) (x_8 : Int) (x_9 : Int) : Option (Bool × (List Int)) := slices_partialInsertionSortOrdered_126.l0_k.go (.l2 a_0 x_1 x_2 x_7 x_8 x_9)
noncomputable def slices_partialInsertionSortOrdered_126.j3 (a_0 : List Int) (x_1 : Int) (x_2 : Int) (x_7 : Int) (x_8 : Int) : Option (Bool × (List Int)) := slices_partialInsertionSortOrdered_126.l0_k.go (.j3 a_0 x_1 x_2 x_7 x_8)
noncomputable def slices_partialInsertionSortOrdered_126.l3 (a_0 : List Int) (x_1 : Int) (x_2 : Int) (x_7 : Int) (x_8 : Int) (x_10 : Int) : Option (Bool × (List Int)) := slices_partialInsertionSortOrdered_126.l0_k.go (.l3 a_0 x_1 x_2 x_7 x_8 x_10)
noncomputable def slices_partialInsertionSortOrdered_126.j0 (a_0 : List Int) (x_1 : Int) (x_2 : Int) (x_7 : Int) (x_8 : Int) : Option (Bool × (List Int)) := slices_partialInsertionSortOrdered_126.l0_k.go (.j0 a_0 x_1 x_2 x_7 x_8)
theorem slices_partialInsertionSortOrdered_126.l0_eq (a_0 : List Int) (x_1 : Int) (x_2 : Int) (x_7 : Int) (x_8 : Int) : slices_partialInsertionSortOrdered_126.l0 a_0 x_1 x_2 x_7 x_8 = if x_8 < (5 : Int) then ((slices_partialInsertionSortOrdered_126.l1 a_0 x_1 x_2 x_7 x_8)) else (some (false, a_0)) := fixF_eq slices_partialInsertionSortOrdered_126.l0_k.mono _
theorem slices_partialInsertionSortOrdered_126.l1_eq (a_0 : List Int) (x_1 : Int) (x_2 : Int) (x_7 : Int) (x_8 : Int) : slices_partialInsertionSortOrdered_126.l1 a_0 x_1 x_2 x_7 x_8 = if x_7 < x_2 then (Option.bind (gi a_0 x_7) fun y1 => Option.bind (gi a_0 (IntKind.wrap .i64 (x_7 - (1 : Int)))) fun y8 => Option.bind (cmp_Less_127 y1 y8) fun y15 => if y15 = true then ((slices_partialInsertionSortOrdered_126.j1 a_0 x_1 x_2 x_7 x_8)) else ((slices_partialInsertionSortOrdered_126.j2 a_0 x_1 x_2 x_7 x_8))) else ((slices_partialInsertionSortOrdered_126.j1 a_0 x_1 x_2 x_7 x_8)) := fixF_eq slices_partialInsertionSortOrdered_126.l0_k.mono _
theorem slices_partialInsertionSortOrdered_126.j2_eq (a_0 : List Int) (x_1 : Int) (x_2 : Int) (x_7 : Int) (x_8 : Int) : slices_partialInsertionSortOrdered_126.j2 a_0 x_1 x_2 x_7 x_8 = (slices_partialInsertionSortOrdered_126.l1 a_0 x_1 x_2 (IntKind.wrap .i64 (x_7 + (1 : Int))) x_8) := fixF_eq slices_partialInsertionSortOrdered_126.l0_k.mono _
theorem slices_partialInsertionSortOrdered_126.j1_eq (a_0 : List Int) (x_1 : Int) (x_2 : Int) (x_7 : Int) (x_8 : Int) : slices_partialInsertionSortOrdered_126.j1 a_0 x_1 x_2 x_7 x_8 = if x_7 = x_2 then (some (true, a_0)) else (if (IntKind.wrap .i64 (x_2 - x_1)) < (50 : Int) then (some (false, a_0)) else (Option.bind (gi a_0 (IntKind.wrap .i64 (x_7 - (1 : Int)))) fun y1 => Option.bind (gi a_0 x_7) fun y8 => Option.bind (gi a_0 x_7) fun y15 => Option.bind (some (List.set a_0 (Int.toNat x_7) y1)) fun l24 => Option.bind (gi l24 (IntKind.wrap .i64 (x_7 - (1 : Int)))) fun y26 => Option.bind (some (List.set l24 (Int.toNat (IntKind.wrap .i64 (x_7 - (1 : Int)))) y8)) fun l35 => if (IntKind.wrap .i64 (x_7 - x_1)) ≥ (2 : Int) then ((slices_partialInsertionSortOrdered_126.l2 l35 x_1 x_2 x_7 x_8 (IntKind.wrap .i64 (x_7 - (1 : Int))))) else ((slices_partialInsertionSortOrdered_126.j3 l35 x_1 x_2 x_7 x_8)))) := fixF_eq slices_partialInsertionSortOrdered_126.l0_k.mono _
theorem slices_partialInsertionSortOrdered_126.l2_eq (a_0 : List Int) (x_1 : Int) (x_2 : Int) (x_7 : Int) (x_8 : Int) (x_9 : Int) : slices_partialInsertionSortOrdered_126.l2 a_0 x_1 x_2 x_7 x_8 x_9 = if x_9 ≥ (1 : Int) then (Option.bind (gi a_0 x_9) fun y1 => Option.bind (gi a_0 (IntKind.wrap .i64 (x_9 - (1 : Int)))) fun y8 => Option.bind (cmp_Less_127 y1 y8) fun y15 => if y15 = true then (Option.bind (gi a_0 (IntKind.wrap .i64 (x_9 - (1 : Int)))) fun y22 => Option.bind (gi a_0 x_9) fun y29 => Option.bind (gi a_0 x_9) fun y36 => Option.bind (some (List.set a_0 (Int.toNat x_9) y22)) fun l45 => Option.bind (gi l45 (IntKind.wrap .i64 (x_9 - (1 : Int)))) fun y47 => Option.bind (some (List.set l45 (Int.toNat (IntKind.wrap .i64 (x_9 - (1 : Int)))) y29)) fun l56 => (slices_partialInsertionSortOrdered_126.l2 l56 x_1 x_2 x_7 x_8 (IntKind.wrap .i64 (x_9 - (1 : Int))))) else ((slices_partialInsertionSortOrdered_126.j3 a_0 x_1 x_2 x_7 x_8))) else ((slices_partialInsertionSortOrdered_126.j3 a_0 x_1 x_2 x_7 x_8)) := fixF_eq slices_partialInsertionSortOrdered_126.l0_k.mono _
theorem slices_partialInsertionSortOrdered_126.j3_eq (a_0 : List Int) (x_1 : Int) (x_2 : Int) (x_7 : Int) (x_8 : Int) : slices_partialInsertionSortOrdered_126.j3 a_0 x_1 x_2 x_7 x_8 = if (IntKind.wrap .i64 (x_2 - x_7)) ≥ (2 : Int) then ((slices_partialInsertionSortOrdered_126.l3 a_0 x_1 x_2 x_7 x_8 (IntKind.wrap .i64 (x_7 + (1 : Int))))) else ((slices_partialInsertionSortOrdered_126.j0 a_0 x_1 x_2 x_7 x_8)) := fixF_eq slices_partialInsertionSortOrdered_126.l0_k.mono _
theorem slices_partialInsertionSortOrdered_126.l3_eq (a_0 : List Int) (x_1 : Int) (x_2 : Int) (x_7 : Int) (x_8 : Int) (x_10 : Int) : slices_partialInsertionSortOrdered_126.l3 a_0 x_1 x_2 x_7 x_8 x_10 = if x_10 < x_2 then (Option.bind (gi a_0 x_10) fun y1 => Option.bind (gi a_0 (IntKind.wrap .i64 (x_10 - (1 : Int)))) fun y8 => Option.bind (cmp_Less_127 y1 y8) fun y15 => if y15 = true then (Option.bind (gi a_0 (IntKind.wrap .i64 (x_10 - (1 : Int)))) fun y22 => Option.bind (gi a_0 x_10) fun y29 => Option.bind (gi a_0 x_10) fun y36 => Option.bind (some (List.set a_0 (Int.toNat x_10) y22)) fun l45 => Option.bind (gi l45 (IntKind.wrap .i64 (x_10 - (1 : Int)))) fun y47 => Option.bind (some (List.set l45 (Int.toNat (IntKind.wrap .i64 (x_10 - (1 : Int)))) y29)) fun l56 => (slices_partialInsertionSortOrdered_126.l3 l56 x_1 x_2 x_7 x_8 (IntKind.wrap .i64 (x_10 + (1 : Int))))) else ((slices_partialInsertionSortOrdered_126.j0 a_0 x_1 x_2 x_7 x_8))) else ((slices_partialInsertionSortOrdered_126.j0 a_0 x_1 x_2 x_7 x_8)) := fixF_eq slices_partialInsertionSortOrdered_126.l0_k.mono _
theorem slices_partialInsertionSortOrdered_126.j0_eq (a_0 : List Int) (x_1 : Int) (x_2 : Int) (x_7 : Int) (x_8 : Int) : slices_partialInsertionSortOrdered_126.j0 a_0 x_1 x_2 x_7 x_8 = (slices_partialInsertionSortOrdered_126.l0 a_0 x_1 x_2 x_7 (IntKind.wrap .i64 (x_8 + (1 : Int)))) := fixF_eq slices_partialInsertionSortOrdered_126.l0_k.mono _
def slices_partialInsertionSortOrdered_126.l0_k.I : (p : slices_partialInsertionSortOrdered_126.l0_k.Pt) → (Bool × (List Int)) → Prop
  | .l0 a_0 x_1 x_2 x_7 x_8, r => ∀ (W : Nat → Prop) (h0 m0 h m : Heap) (A_0 : Option Addr) (n_0 c_0 : Nat) (O : Hold W h0 m0 h m [rR (aE (tell_int .i64)) A_0 c_0 a_0]) (ne_0 : n_0 = List.length a_0), f126.l0 (slices_partialInsertionSortOrdered_126.post W A_0 n_0 c_0 h0 m0 r) A_0 n_0 c_0 x_1 x_2 x_7 x_8 h
  | .l1 a_0 x_1 x_2 x_7 x_8, r => ∀ (W : Nat → Prop) (h0 m0 h m : Heap) (A_0 : Option Addr) (n_0 c_0 : Nat) (O : Hold W h0 m0 h m [rR (aE (tell_int .i64)) A_0 c_0 a_0]) (ne_0 : n_0 = List.length a_0), f126.l1 (slices_partialInsertionSortOrdered_126.post W A_0 n_0 c_0 h0 m0 r) A_0 n_0 c_0 x_1 x_2 x_7 x_8 h
  | .j2 a_0 x_1 x_2 x_7 x_8, r => ∀ (W : Nat → Prop) (h0 m0 h m : Heap) (A_0 : Option Addr) (n_0 c_0 : Nat) (O : Hold W h0 m0 h m [rR (aE (tell_int .i64)) A_0 c_0 a_0]) (ne_0 : n_0 = List.length a_0), f126.j2 (slices_partialInsertionSortOrdered_126.post W A_0 n_0 c_0 h0 m0 r) A_0 n_0 c_0 x_1 x_2 x_7 x_8 h
  | .j1 a_0 x_1 x_2 x_7 x_8, r => ∀ (W : Nat → Prop) (h0 m0 h m : Heap) (A_0 : Option Addr) (n_0 c_0 : Nat) (O : Hold W h0 m0 h m [rR (aE (tell_int .i64)) A_0 c_0 a_0]) (ne_0 : n_0 = List.length a_0), f126.j1 (slices_partialInsertionSortOrdered_126.post W A_0 n_0 c_0 h0 m0 r) A_0 n_0 c_0 x_1 x_2 x_7 x_8 h
  | .l2 a_0 x_1 x_2 x_7 x_8 x_9, r => ∀ (W : Nat → Prop) (h0 m0 h m : Heap) (A_0 : Option Addr) (n_0 c_0 : Nat) (O : Hold W h0 m0 h m [rR (aE (tell_int .i64)) A_0 c_0 a_0]) (ne_0 : n_0 = List.length a_0), f126.l2 (slices_partialInsertionSortOrdered_126.post W A_0 n_0 c_0 h0 m0 r) A_0 n_0 c_0 x_1 x_2 x_7 x_8 x_9 h
  | .j3 a_0 x_1 x_2 x_7 x_8, r => ∀ (W : Nat → Prop) (h0 m0 h m : Heap) (A_0 : Option Addr) (n_0 c_0 : Nat) (O : Hold W h0 m0 h m [rR (aE (tell_int .i64)) A_0 c_0 a_0]) (ne_0 : n_0 = List.length a_0), f126.j3 (slices_partialInsertionSortOrdered_126.post W A_0 n_0 c_0 h0 m0 r) A_0 n_0 c_0 x_1 x_2 x_7 x_8 h
  | .l3 a_0 x_1 x_2 x_7 x_8 x_10, r => ∀ (W : Nat → Prop) (h0 m0 h m : Heap) (A_0 : Option Addr) (n_0 c_0 : Nat) (O : Hold W h0 m0 h m [rR (aE (tell_int .i64)) A_0 c_0 a_0]) (ne_0 : n_0 = List.length a_0), f126.l3 (slices_partialInsertionSortOrdered_126.post W A_0 n_0 c_0 h0 m0 r) A_0 n_0 c_0 x_1 x_2 x_7 x_8 x_10 h
  | .j0 a_0 x_1 x_2 x_7 x_8, r => ∀ (W : Nat → Prop) (h0 m0 h m : Heap) (A_0 : Option Addr) (n_0 c_0 : Nat) (O : Hold W h0 m0 h m [rR (aE (tell_int .i64)) A_0 c_0 a_0]) (ne_0 : n_0 = List.length a_0), f126.j0 (slices_partialInsertionSortOrdered_126.post W A_0 n_0 c_0 h0 m0 r) A_0 n_0 c_0 x_1 x_2 x_7 x_8 h
set_option maxRecDepth 100000 in
theorem slices_partialInsertionSortOrdered_126.l0_k.step_l0 (go : (p : slices_partialInsertionSortOrdered_126.l0_k.Pt) → Option (Bool × (List Int))) (ih : ∀ p r, go p = some r → slices_partialInsertionSortOrdered_126.l0_k.I p r) (a_0 : List Int) (x_1 : Int) (x_2 : Int) (x_7 : Int) (x_8 : Int) (r : Bool × (List Int)) (e : slices_partialInsertionSortOrdered_126.l0_k.body go (.l0 a_0 x_1 x_2 x_7 x_8) = some r) : slices_partialInsertionSortOrdered_126.l0_k.I (.l0 a_0 x_1 x_2 x_7 x_8) r := by
  unfold slices_partialInsertionSortOrdered_126.l0_k.body at e
  intro W h0 m0 h m A_0 n_0 c_0 O ne_0
  subst ne_0
  refine f126.l0_in ?_
  unfold f126.l0T
  refine split_dec_e e (fun c1 e => ?_) (fun c1 e => ?_)
  · exact (ih _ _ e) _ _ _ _ _ _ _ _ (O.pick [0]).nm rfl
  · cases e
    exact ⟨_, O.pick [0], rfl, rfl⟩
set_option maxRecDepth 100000 in
theorem slices_partialInsertionSortOrdered_126.l0_k.step_l1 (go : (p : slices_partialInsertionSortOrdered_126.l0_k.Pt) → Option (Bool × (List Int))) (ih : ∀ p r, go p = some r → slices_partialInsertionSortOrdered_126.l0_k.I p r) (a_0 : List Int) (x_1 : Int) (x_2 : Int) (x_7 : Int) (x_8 : Int) (r : Bool × (List Int)) (e : slices_partialInsertionSortOrdered_126.l0_k.body go (.l1 a_0 x_1 x_2 x_7 x_8) = some r) : slices_partialInsertionSortOrdered_126.l0_k.I (.l1 a_0 x_1 x_2 x_7 x_8) r := by
  unfold slices_partialInsertionSortOrdered_126.l0_k.body at e
  intro W h0 m0 h m A_0 n_0 c_0 O ne_0
  subst ne_0
  refine f126.l1_in ?_
  unfold f126.l1T
  refine split_dec_e e (fun c23 e => ?_) (fun c23 e => ?_)
  · obtain ⟨y1, g2, e⟩ := bind_e e
    refine (O.os 0 rfl).addr rfl g2 fun a3 cs4 ha5 hc6 he7 => ?_
    obtain rfl : cs4 = [(Value.int .i64 y1)] := he7
    obtain ⟨y8, g9, e⟩ := bind_e e
    refine (O.os 0 rfl).addr rfl g9 fun a10 cs11 ha12 hc13 he14 => ?_
    obtain rfl : cs11 = [(Value.int .i64 y8)] := he14
    refine ⟨_, ld0 (Sub.refl _) hc6 rfl, _, rfl, ?_⟩
    refine ⟨_, ld0 (Sub.refl _) hc13 rfl, _, rfl, ?_⟩
    obtain ⟨y15, g16, e⟩ := bind_e e
    refine (cmp_Less_127.walk (Hold.start (W := No) O.s)  g16).mono ?_
    rintro _ h17 ⟨m18, Q19, rfl⟩
    have O21 := Hold.nm (O.retC Q19 vfs_nil)
    refine ⟨_, rfl, ?_⟩
    refine split_not ?_
    refine split_any_e e (fun c22 e => ?_) (fun c22 e => ?_)
    · exact (ih _ _ e) _ _ _ _ _ _ _ _ (O21.pick [0]).nm rfl
    · exact (ih _ _ e) _ _ _ _ _ _ _ _ (O21.pick [0]).nm rfl
  · exact (ih _ _ e) _ _ _ _ _ _ _ _ (O.pick [0]).nm rfl
set_option maxRecDepth 100000 in
theorem slices_partialInsertionSortOrdered_126.l0_k.step_j2 (go : (p : slices_partialInsertionSortOrdered_126.l0_k.Pt) → Option (Bool × (List Int))) (ih : ∀ p r, go p = some r → slices_partialInsertionSortOrdered_126.l0_k.I p r) (a_0 : List Int) (x_1 : Int) (x_2 : Int) (x_7 : Int) (x_8 : Int) (r : Bool × (List Int)) (e : slices_partialInsertionSortOrdered_126.l0_k.body go (.j2 a_0 x_1 x_2 x_7 x_8) = some r) : slices_partialInsertionSortOrdered_126.l0_k.I (.j2 a_0 x_1 x_2 x_7 x_8) r := by
  unfold slices_partialInsertionSortOrdered_126.l0_k.body at e
  intro W h0 m0 h m A_0 n_0 c_0 O ne_0
  subst ne_0
  refine f126.j2_in ?_
  unfold f126.j2T
  exact (ih _ _ e) _ _ _ _ _ _ _ _ (O.pick [0]).nm rfl
set_option maxHeartbeats 4000000 in
set_option maxRecDepth 100000 in
theorem slices_partialInsertionSortOrdered_126.l0_k.step_j1 (go : (p : slices_partialInsertionSortOrdered_126.l0_k.Pt) → Option (Bool × (List Int))) (ih : ∀ p r, go p = some r → slices_partialInsertionSortOrdered_126.l0_k.I p r) (a_0 : List Int) (x_1 : Int) (x_2 : Int) (x_7 : Int) (x_8 : Int) (r : Bool × (List Int)) (e : slices_partialInsertionSortOrdered_126.l0_k.body go (.j1 a_0 x_1 x_2 x_7 x_8) = some r) : slices_partialInsertionSortOrdered_126.l0_k.I (.j1 a_0 x_1 x_2 x_7 x_8) r := by
  unfold slices_partialInsertionSortOrdered_126.l0_k.body at e
  intro W h0 m0 h m A_0 n_0 c_0 O ne_0
  subst ne_0
  refine f126.j1_in ?_
  unfold f126.j1T
  refine split_eq_e e (fun c41 e => ?_) (fun c41 e => ?_)
  · cases e
    exact ⟨_, O.pick [0], rfl, rfl⟩
  · refine split_dec_e e (fun c40 e => ?_) (fun c40 e => ?_)
    · cases e
      exact ⟨_, O.pick [0], rfl, rfl⟩
    · obtain ⟨y1, g2, e⟩ := bind_e e
      refine (O.os 0 rfl).addr rfl g2 fun a3 cs4 ha5 hc6 he7 => ?_
      obtain rfl : cs4 = [(Value.int .i64 y1)] := he7
      obtain ⟨y8, g9, e⟩ := bind_e e
      refine (O.os 0 rfl).addr rfl g9 fun a10 cs11 ha12 hc13 he14 => ?_
      obtain rfl : cs11 = [(Value.int .i64 y8)] := he14
      refine ⟨_, ld0 (Sub.refl _) hc6 rfl, _, rfl, ?_⟩
      refine ⟨_, ld0 (Sub.refl _) hc13 rfl, _, rfl, ?_⟩
      obtain ⟨y15, g16, e⟩ := bind_e e
      refine (O.os 0 rfl).addr rfl g16 fun a17 cs18 ha19 hc20 he21 => ?_
      obtain rfl : cs18 = [(Value.int .i64 y15)] := he21
      obtain ⟨l24, g25, e⟩ := bind_e e
      replace g25 := Option.some.inj g25
      refine O.elst0 0 rfl g16 ha19 hc20 (by decide) (y' := y1) rfl trivial g25 fun h22 O23 => ?_
      obtain ⟨y26, g27, e⟩ := bind_e e
      refine (O23.os 0 rfl).addr (lset' g25) g27 fun a28 cs29 ha30 hc31 he32 => ?_
      obtain rfl : cs29 = [(Value.int .i64 y26)] := he32
      obtain ⟨l35, g36, e⟩ := bind_e e
      replace g36 := Option.some.inj g36
      refine O23.elst0 0 rfl g27 ha30 hc31 (by decide) (y' := y8) rfl trivial g36 fun h33 O34 => ?_
      refine split_dec_e e (fun c39 e => ?_) (fun c39 e => ?_)
      · have O37 := O34.nm
        exact (ih _ _ e) _ _ _ _ _ _ _ _ (O37.pick [0]).nm ((lset' g25).trans (lset' g36))
      · have O38 := O34.nm
        exact (ih _ _ e) _ _ _ _ _ _ _ _ (O38.pick [0]).nm ((lset' g25).trans (lset' g36))
set_option maxHeartbeats 4000000 in
set_option maxRecDepth 100000 in
theorem slices_partialInsertionSortOrdered_126.l0_k.step_l2 (go : (p : slices_partialInsertionSortOrdered_126.l0_k.Pt) → Option (Bool × (List Int))) (ih : ∀ p r, go p = some r → slices_partialInsertionSortOrdered_126.l0_k.I p r) (a_0 : List Int) (x_1 : Int) (x_2 : Int) (x_7 : Int) (x_8 : Int) (x_9 : Int) (r : Bool × (List Int)) (e : slices_partialInsertionSortOrdered_126.l0_k.body go (.l2 a_0 x_1 x_2 x_7 x_8 x_9) = some r) : slices_partialInsertionSortOrdered_126.l0_k.I (.l2 a_0 x_1 x_2 x_7 x_8 x_9) r := by
  unfold slices_partialInsertionSortOrdered_126.l0_k.body at e
  intro W h0 m0 h m A_0 n_0 c_0 O ne_0
  subst ne_0
  refine f126.l2_in ?_
  unfold f126.l2T
  refine split_dec_e e (fun c60 e => ?_) (fun c60 e => ?_)
  · obtain ⟨y1, g2, e⟩ := bind_e e
    refine (O.os 0 rfl).addr rfl g2 fun a3 cs4 ha5 hc6 he7 => ?_
    obtain rfl : cs4 = [(Value.int .i64 y1)] := he7
    obtain ⟨y8, g9, e⟩ := bind_e e
    refine (O.os 0 rfl).addr rfl g9 fun a10 cs11 ha12 hc13 he14 => ?_
    obtain rfl : cs11 = [(Value.int .i64 y8)] := he14
    refine ⟨_, ld0 (Sub.refl _) hc6 rfl, _, rfl, ?_⟩
    refine ⟨_, ld0 (Sub.refl _) hc13 rfl, _, rfl, ?_⟩
    obtain ⟨y15, g16, e⟩ := bind_e e
    refine (cmp_Less_127.walk (Hold.start (W := No) O.s)  g16).mono ?_
    rintro _ h17 ⟨m18, Q19, rfl⟩
    have O21 := Hold.nm (O.retC Q19 vfs_nil)
    refine ⟨_, rfl, ?_⟩
    refine split_not ?_
    refine split_any_e e (fun c59 e => ?_) (fun c59 e => ?_)
    · obtain ⟨y22, g23, e⟩ := bind_e e
      refine (O21.os 0 rfl).addr rfl g23 fun a24 cs25 ha26 hc27 he28 => ?_
      obtain rfl : cs25 = [(Value.int .i64 y22)] := he28
      obtain ⟨y29, g30, e⟩ := bind_e e
      refine (O21.os 0 rfl).addr rfl g30 fun a31 cs32 ha33 hc34 he35 => ?_
      obtain rfl : cs32 = [(Value.int .i64 y29)] := he35
      refine ⟨_, ld0 (Sub.refl _) hc27 rfl, _, rfl, ?_⟩
      refine ⟨_, ld0 (Sub.refl _) hc34 rfl, _, rfl, ?_⟩
      obtain ⟨y36, g37, e⟩ := bind_e e
      refine (O21.os 0 rfl).addr rfl g37 fun a38 cs39 ha40 hc41 he42 => ?_
      obtain rfl : cs39 = [(Value.int .i64 y36)] := he42
      obtain ⟨l45, g46, e⟩ := bind_e e
      replace g46 := Option.some.inj g46
      refine O21.elst0 0 rfl g37 ha40 hc41 (by decide) (y' := y22) rfl trivial g46 fun h43 O44 => ?_
      obtain ⟨y47, g48, e⟩ := bind_e e
      refine (O44.os 0 rfl).addr (lset' g46) g48 fun a49 cs50 ha51 hc52 he53 => ?_
      obtain rfl : cs50 = [(Value.int .i64 y47)] := he53
      obtain ⟨l56, g57, e⟩ := bind_e e
      replace g57 := Option.some.inj g57
      refine O44.elst0 0 rfl g48 ha51 hc52 (by decide) (y' := y29) rfl trivial g57 fun h54 O55 => ?_
      have O58 := O55.nm
      exact (ih _ _ e) _ _ _ _ _ _ _ _ (O58.pick [0]).nm ((lset' g46).trans (lset' g57))
    · exact (ih _ _ e) _ _ _ _ _ _ _ _ (O21.pick [0]).nm rfl
  · exact (ih _ _ e) _ _ _ _ _ _ _ _ (O.pick [0]).nm rfl
set_option maxRecDepth 100000 in
theorem slices_partialInsertionSortOrdered_126.l0_k.step_j3 (go : (p : slices_partialInsertionSortOrdered_126.l0_k.Pt) → Option (Bool × (List Int))) (ih : ∀ p r, go p = some r → slices_partialInsertionSortOrdered_126.l0_k.I p r) (a_0 : List Int) (x_1 : Int) (x_2 : Int) (x_7 : Int) (x_8 : Int) (r : Bool × (List Int)) (e : slices_partialInsertionSortOrdered_126.l0_k.body go (.j3 a_0 x_1 x_2 x_7 x_8) = some r) : slices_partialInsertionSortOrdered_126.l0_k.I (.j3 a_0 x_1 x_2 x_7 x_8) r := by
  unfold slices_partialInsertionSortOrdered_126.l0_k.body at e
  intro W h0 m0 h m A_0 n_0 c_0 O ne_0
  subst ne_0
  refine f126.j3_in ?_
  unfold f126.j3T
  refine split_dec_e e (fun c1 e => ?_) (fun c1 e => ?_)
  · exact (ih _ _ e) _ _ _ _ _ _ _ _ (O.pick [0]).nm rfl
  · exact (ih _ _ e) _ _ _ _ _ _ _ _ (O.pick [0]).nm rfl
set_option maxHeartbeats 4000000 in
set_option maxRecDepth 100000 in
theorem slices_partialInsertionSortOrdered_126.l0_k.step_l3 (go : (p : slices_partialInsertionSortOrdered_126.l0_k.Pt) → Option (Bool × (List Int))) (ih : ∀ p r, go p = some r → slices_partialInsertionSortOrdered_126.l0_k.I p r) (a_0 : List Int) (x_1 : Int) (x_2 : Int) (x_7 : Int) (x_8 : Int) (x_10 : Int) (r : Bool × (List Int)) (e : slices_partialInsertionSortOrdered_126.l0_k.body go (.l3 a_0 x_1 x_2 x_7 x_8 x_10) = some r) : slices_partialInsertionSortOrdered_126.l0_k.I (.l3 a_0 x_1 x_2 x_7 x_8 x_10) r := by
  unfold slices_partialInsertionSortOrdered_126.l0_k.body at e
  intro W h0 m0 h m A_0 n_0 c_0 O ne_0
  subst ne_0
  refine f126.l3_in ?_
  unfold f126.l3T
  refine split_dec_e e (fun c60 e => ?_) (fun c60 e => ?_)
  · obtain ⟨y1, g2, e⟩ := bind_e e
    refine (O.os 0 rfl).addr rfl g2 fun a3 cs4 ha5 hc6 he7 => ?_
    obtain rfl : cs4 = [(Value.int .i64 y1)] := he7
    obtain ⟨y8, g9, e⟩ := bind_e e
    refine (O.os 0 rfl).addr rfl g9 fun a10 cs11 ha12 hc13 he14 => ?_
    obtain rfl : cs11 = [(Value.int .i64 y8)] := he14
    refine ⟨_, ld0 (Sub.refl _) hc6 rfl, _, rfl, ?_⟩
    refine ⟨_, ld0 (Sub.refl _) hc13 rfl, _, rfl, ?_⟩
    obtain ⟨y15, g16, e⟩ := bind_e e
    refine (cmp_Less_127.walk (Hold.start (W := No) O.s)  g16).mono ?_
    rintro _ h17 ⟨m18, Q19, rfl⟩
    have O21 := Hold.nm (O.retC Q19 vfs_nil)
    refine ⟨_, rfl, ?_⟩
    refine split_not ?_
    refine split_any_e e (fun c59 e => ?_) (fun c59 e => ?_)
    · obtain ⟨y22, g23, e⟩ := bind_e e
      refine (O21.os 0 rfl).addr rfl g23 fun a24 cs25 ha26 hc27 he28 => ?_
      obtain rfl : cs25 = [(Value.int .i64 y22)] := he28
      obtain ⟨y29, g30, e⟩ := bind_e e
      refine (O21.os 0 rfl).addr rfl g30 fun a31 cs32 ha33 hc34 he35 => ?_
      obtain rfl : cs32 = [(Value.int .i64 y29)] := he35
      refine ⟨_, ld0 (Sub.refl _) hc27 rfl, _, rfl, ?_⟩
      refine ⟨_, ld0 (Sub.refl _) hc34 rfl, _, rfl, ?_⟩
      obtain ⟨y36, g37, e⟩ := bind_e e
      refine (O21.os 0 rfl).addr rfl g37 fun a38 cs39 ha40 hc41 he42 => ?_
      obtain rfl : cs39 = [(Value.int .i64 y36)] := he42
      obtain ⟨l45, g46, e⟩ := bind_e e
      replace g46 := Option.some.inj g46
      refine O21.elst0 0 rfl g37 ha40 hc41 (by decide) (y' := y22) rfl trivial g46 fun h43 O44 => ?_
      obtain ⟨y47, g48, e⟩ := bind_e e
      refine (O44.os 0 rfl).addr (lset' g46) g48 fun a49 cs50 ha51 hc52 he53 => ?_
      obtain rfl : cs50 = [(Value.int .i64 y47)] := he53
      obtain ⟨l56, g57, e⟩ := bind_e e
      replace g57 := Option.some.inj g57
      refine O44.elst0 0 rfl g48 ha51 hc52 (by decide) (y' := y29) rfl trivial g57 fun h54 O55 => ?_
      have O58 := O55.nm
      exact (ih _ _ e) _ _ _ _ _ _ _ _ (O58.pick [0]).nm ((lset' g46).trans (lset' g57))
    · exact (ih _ _ e) _ _ _ _ _ _ _ _ (O21.pick [0]).nm rfl
  · exact (ih _ _ e) _ _ _ _ _ _ _ _ (O.pick [0]).nm rfl
set_option maxRecDepth 100000 in
theorem slices_partialInsertionSortOrdered_126.l0_k.step_j0 (go : (p : slices_partialInsertionSortOrdered_126.l0_k.Pt) → Option (Bool × (List Int))) (ih : ∀ p r, go p = some r → slices_partialInsertionSortOrdered_126.l0_k.I p r) (a_0 : List Int) (x_1 : Int) (x_2 : Int) (x_7 : Int) (x_8 : Int) (r : Bool × (List Int)) (e : slices_partialInsertionSortOrdered_126.l0_k.body go (.j0 a_0 x_1 x_2 x_7 x_8) = some r) : slices_partialInsertionSortOrdered_126.l0_k.I (.j0 a_0 x_1 x_2 x_7 x_8) r := by
  unfold slices_partialInsertionSortOrdered_126.l0_k.body at e
  intro W h0 m0 h m A_0 n_0 c_0 O ne_0
  subst ne_0
  refine f126.j0_in ?_
  unfold f126.j0T
  exact (ih _ _ e) _ _ _ _ _ _ _ _ (O.pick [0]).nm rfl
theorem slices_partialInsertionSortOrdered_126.l0_k.all {p : slices_partialInsertionSortOrdered_126.l0_k.Pt} {r : (Bool × (List Int))} (e : slices_partialInsertionSortOrdered_126.l0_k.go p = some r) : slices_partialInsertionSortOrdered_126.l0_k.I p r := fixF_ind (β := fun _ => (Bool × (List Int))) slices_partialInsertionSortOrdered_126.l0_k.mono (I := slices_partialInsertionSortOrdered_126.l0_k.I) (fun go ih p r e => match p with
  | .l0 a_0 x_1 x_2 x_7 x_8 => slices_partialInsertionSortOrdered_126.l0_k.step_l0 go ih a_0 x_1 x_2 x_7 x_8 r e
  | .l1 a_0 x_1 x_2 x_7 x_8 => slices_partialInsertionSortOrdered_126.l0_k.step_l1 go ih a_0 x_1 x_2 x_7 x_8 r e
  | .j2 a_0 x_1 x_2 x_7 x_8 => slices_partialInsertionSortOrdered_126.l0_k.step_j2 go ih a_0 x_1 x_2 x_7 x_8 r e
  | .j1 a_0 x_1 x_2 x_7 x_8 => slices_partialInsertionSortOrdered_126.l0_k.step_j1 go ih a_0 x_1 x_2 x_7 x_8 r e
  | .l2 a_0 x_1 x_2 x_7 x_8 x_9 => slices_partialInsertionSortOrdered_126.l0_k.step_l2 go ih a_0 x_1 x_2 x_7 x_8 x_9 r e
  | .j3 a_0 x_1 x_2 x_7 x_8 => slices_partialInsertionSortOrdered_126.l0_k.step_j3 go ih a_0 x_1 x_2 x_7 x_8 r e
  | .l3 a_0 x_1 x_2 x_7 x_8 x_10 => slices_partialInsertionSortOrdered_126.l0_k.step_l3 go ih a_0 x_1 x_2 x_7 x_8 x_10 r e
  | .j0 a_0 x_1 x_2 x_7 x_8 => slices_partialInsertionSortOrdered_126.l0_k.step_j0 go ih a_0 x_1 x_2 x_7 x_8 r e
  ) e
theorem slices_partialInsertionSortOrdered_126.l0.walk {W : Nat → Prop} {h0 m0 h m : Heap} {A_0 : Option Addr} {n_0 c_0 : Nat} {a_0 : List Int} {x_1 : Int} {x_2 : Int} {x_7 : Int} {x_8 : Int} (O : Hold W h0 m0 h m [rR (aE (tell_int .i64)) A_0 c_0 a_0]) (ne_0 : n_0 = List.length a_0) {r : Bool × (List Int)} (e : slices_partialInsertionSortOrdered_126.l0 a_0 x_1 x_2 x_7 x_8 = some r) : f126.l0 (slices_partialInsertionSortOrdered_126.post W A_0 n_0 c_0 h0 m0 r) A_0 n_0 c_0 x_1 x_2 x_7 x_8 h := slices_partialInsertionSortOrdered_126.l0_k.all (p := .l0 a_0 x_1 x_2 x_7 x_8) e W h0 m0 h m A_0 n_0 c_0 O ne_0
noncomputable def slices_partialInsertionSortOrdered_126 (a_0 : List Int) (x_1 : Int) (x_2 : Int) : Option (Bool × (List Int)) :=
  (slices_partialInsertionSortOrdered_126.l0 a_0 x_1 x_2 (IntKind.wrap .i64 (x_1 + (1 : Int))) (0 : Int))
set_option maxRecDepth 100000 in
theorem slices_partialInsertionSortOrdered_126.walk {W : Nat → Prop} {h m : Heap} {A_0 : Option Addr} {n_0 c_0 : Nat} {a_0 : List Int} {x_1 : Int} {x_2 : Int} (O : Hold W h m h m [rR (aE (tell_int .i64)) A_0 c_0 a_0]) (ne_0 : n_0 = List.length a_0) {r : Bool × (List Int)} (e : slices_partialInsertionSortOrdered_126 a_0 x_1 x_2 = some r) : Run Try.prog 126 #[Value.slice A_0 n_0 c_0, Value.int .i64 x_1, Value.int .i64 x_2] h (slices_partialInsertionSortOrdered_126.post W A_0 n_0 c_0 h m r) := by
  unfold slices_partialInsertionSortOrdered_126 at e
  subst ne_0
  refine f126.run ?_
  unfold f126.runT
  exact slices_partialInsertionSortOrdered_126.l0.walk (O.pick [0]).nm rfl e
def slices_partitionEqualOrdered_128.post (W : Nat → Prop) (Asl0 : Option Addr) (nsl0 csl0 : Nat) (h0 m0 : Heap) (r : Int × (List Int)) (v : Value) (h : Heap) : Prop := ∃ m , Hold W h0 m0 h m [rR (aE (tell_int .i64)) Asl0 csl0 r.2] ∧ v = .int .i64 r.1 ∧ nsl0 = List.length r.2
inductive slices_partitionEqualOrdered_128.l0_k.Pt where
  | l0 (a_0 : List Int) (x_1 : Int) (x_9 : Int) (x_10 : Int)
  | l1 (a_0 : List Int) (x_1 : Int) (x_9 : Int) (x_10 : Int)
  | j2 (a_0 : List Int) (x_1 : Int) (x_9 : Int) (x_10 : Int)
  | j0 (a_0 : List Int) (x_1 : Int) (x_9 : Int) (x_10 : Int)
  | l2 (a_0 : List Int) (x_1 : Int) (x_9 : Int) (x_10 : Int)
  | j3 (a_0 : List Int) (x_1 : Int) (x_9 : Int) (x_10 : Int)
  | j1 (a_0 : List Int) (x_1 : Int) (x_9 : Int) (x_10 : Int)
noncomputable def slices_partitionEqualOrdered_128.l0_k.body (go : (p : slices_partitionEqualOrdered_128.l0_k.Pt) → Option (Int × (List Int))) : (p : slices_partitionEqualOrdered_128.l0_k.Pt) → Option (Int × (List Int))
  | .l0 a_0 x_1 x_9 x_10 => (go (.l1 a_0 x_1 x_9 x_10))
  | .l1 a_0 x_1 x_9 x_10 => if x_9 ≤ x_10 then (Option.bind (gi a_0 x_1) fun y1 => Option.bind (gi a_0 x_9) fun y8 => Option.bind (cmp_Less_127 y1 y8) fun y15 => if y15 = true then ((go (.j0 a_0 x_1 x_9 x_10))) else ((go (.j2 a_0 x_1 x_9 x_10)))) else ((go (.j0 a_0 x_1 x_9 x_10)))
  | .j2 a_0 x_1 x_9 x_10 => (go (.l1 a_0 x_1 (IntKind.wrap .i64 (x_9 + (1 : Int))) x_10))
  | .j0 a_0 x_1 x_9 x_10 => (go (.l2 a_0 x_1 x_9 x_10))
  | .l2 a_0 x_1 x_9 x_10 => if x_9 ≤ x_10 then (Option.bind (gi a_0 x_1) fun y1 => Option.bind (gi a_0 x_10) fun y8 => Option.bind (cmp_Less_127 y1 y8) fun y15 => if y15 = true then ((go (.j3 a_0 x_1 x_9 x_10))) else ((go (.j1 a_0 x_1 x_9 x_10)))) else ((go (.j1 a_0 x_1 x_9 x_10)))
  | .j3 a_0 x_1 x_9 x_10 => (go (.l2 a_0 x_1 x_9 (IntKind.wrap .i64 (x_10 - (1 : Int)))))
  | .j1 a_0 x_1 x_9 x_10 => if x_9 > x_10 then (some (x_9, a_0)) else (Option.bind (gi a_0 x_10) fun y1 => Option.bind (gi a_0 x_9) fun y8 => Option.bind (gi a_0 x_9) fun y15 => Option.bind (some (List.set a_0 (Int.toNat x_9) y1)) fun l24 => Option.bind (gi l24 x_10) fun y26 => Option.bind (some (List.set l24 (Int.toNat x_10) y8)) fun l35 => (go (.l0 l35 x_1 (IntKind.wrap .i64 (x_9 + (1 : Int))) (IntKind.wrap .i64 (x_10 - (1 : Int))))))
attribute [local irreducible] cmp_Less_127 in
theorem slices_partitionEqualOrdered_128.l0_k.mono : MonoF (β := fun _ => (Int × (List Int))) slices_partitionEqualOrdered_128.l0_k.body := fun f g hfg p => match p with
  | .l0 a_0 x_1 x_9 x_10 => (hfg _)
  | .l1 a_0 x_1 x_9 x_10 => LeO.ite (LeO.bind (LeO.refl _) fun y1 => LeO.bind (LeO.refl _) fun y8 => LeO.bind (LeO.refl _) fun y15 => LeO.ite ((hfg _)) ((hfg _))) ((hfg _))
  | .j2 a_0 x_1 x_9 x_10 => (hfg _)
  | .j0 a_0 x_1 x_9 x_10 => (hfg _)
  | .l2 a_0 x_1 x_9 x_10 => LeO.ite (LeO.bind (LeO.refl _) fun y1 => LeO.bind (LeO.refl _) fun y8 => LeO.bind (LeO.refl _) fun y15 => LeO.ite ((hfg _)) ((hfg _))) ((hfg _))
  | .j3 a_0 x_1 x_9 x_10 => (hfg _)
  | .j1 a_0 x_1 x_9 x_10 => LeO.ite (LeO.refl _) (LeO.bind (LeO.refl _) fun y1 => LeO.bind (LeO.refl _) fun y8 => LeO.bind (LeO.refl _) fun y15 => LeO.bind (LeO.refl _) fun l24 => LeO.bind (LeO.refl _) fun y26 => LeO.bind (LeO.refl _) fun l35 => (hfg _))
noncomputable def slices_partitionEqualOrdered_128.l0_k.go (p : slices_partitionEqualOrdered_128.l0_k.Pt) : Option (Int × (List Int)) := fixF (β := fun _ => (Int × (List Int))) slices_partitionEqualOrdered_128.l0_k.body p
noncomputable def slices_partitionEqualOrdered_128.l0 (a_0 : List Int) (x_1 : Int) (x_9 : Int) (x_10 : Int) : Option (Int × (List Int)) := slices_partitionEqualOrdered_128.l0_k.go (.l0 a_0 x_1 x_9 x_10)
noncomputable def slices_partitionEqualOrdered_128.l1 (a_0 : List Int) (x_1 : Int) (x_9 : Int) (x_10 : Int) : Option (Int × (List Int)) := slices_partitionEqualOrdered_128.l0_k.go (.l1 a_0 x_1 x_9 x_10)
noncomputable def slices_partitionEqualOrdered_128.j2 (a_0 : List Int) (x_1 : Int) (x_9 : Int) (x_10 : Int) : Option (Int × (List Int)) := slices_partitionEqualOrdered_128.l0_k.go (.j2 a_0 x_1 x_9 x_10)
noncomputable def slices_partitionEqualOrdered_128.j0 (a_0 : List Int) (x_1 : Int) (x_9 : Int) (x_10 : Int) : Option (Int × (List Int)) := slices_partitionEqualOrdered_128.l0_k.go (.j0 a_0 x_1 x_9 x_10)
noncomputable def slices_partitionEqualOrdered_128.l2 (a_0 : List Int) (x_1 : Int) (x_9 : Int) (x_10 : Int) : Option (Int × (List Int)) := slices_partitionEqualOrdered_128.l0_k.go (.l2 a_0 x_1 x_9 x_10)
noncomputable def slices_partitionEqualOrdered_128.j3 (a_0 : List Int) (x_1 : Int) (x_9 : Int) (x_10 : Int) : Option (Int × (List Int)) := slices_partitionEqualOrdered_128.l0_k.go (.j3 a_0 x_1 x_9 x_10)
noncomputable def slices_partitionEqualOrdered_128.j1 (a_0 : List Int) (x_1 : Int) (x_9 : Int) (x_10 : Int) : Option (Int × (List Int)) := slices_partitionEqualOrdered_128.l0_k.go (.j1 a_0 x_1 x_9 x_10)
theorem slices_partitionEqualOrdered_128.l0_eq (a_0 : List Int) (x_1 : Int) (x_9 : Int) (x_10 : Int) : slices_partitionEqualOrdered_128.l0 a_0 x_1 x_9 x_10 = (slices_partitionEqualOrdered_128.l1 a_0 x_1 x_9 x_10) := fixF_eq slices_partitionEqualOrdered_128.l0_k.mono _
theorem slices_partitionEqualOrdered_128.l1_eq (a_0 : List Int) (x_1 : Int) (x_9 : Int) (x_10 : Int) : slices_partitionEqualOrdered_128.l1 a_0 x_1 x_9 x_10 = if x_9 ≤ x_10 then (Option.bind (gi a_0 x_1) fun y1 => Option.bind (gi a_0 x_9) fun y8 => Option.bind (cmp_Less_127 y1 y8) fun y15 => if y15 = true then ((slices_partitionEqualOrdered_128.j0 a_0 x_1 x_9 x_10)) else ((slices_partitionEqualOrdered_128.j2 a_0 x_1 x_9 x_10))) else ((slices_partitionEqualOrdered_128.j0 a_0 x_1 x_9 x_10)) := fixF_eq slices_partitionEqualOrdered_128.l0_k.mono _
theorem slices_partitionEqualOrdered_128.j2_eq (a_0 : List Int) (x_1 : Int) (x_9 : Int) (x_10 : Int) : slices_partitionEqualOrdered_128.j2 a_0 x_1 x_9 x_10 = (slices_partitionEqualOrdered_128.l1 a_0 x_1 (IntKind.wrap .i64 (x_9 + (1 : Int))) x_10) := fixF_eq slices_partitionEqualOrdered_128.l0_k.mono _
theorem slices_partitionEqualOrdered_128.j0_eq (a_0 : List Int) (x_1 : Int) (x_9 : Int) (x_10 : Int) : slices_partitionEqualOrdered_128.j0 a_0 x_1 x_9 x_10 = (slices_partitionEqualOrdered_128.l2 a_0 x_1 x_9 x_10) := fixF_eq slices_partitionEqualOrdered_128.l0_k.mono _
theorem slices_partitionEqualOrdered_128.l2_eq (a_0 : List Int) (x_1 : Int) (x_9 : Int) (x_10 : Int) : slices_partitionEqualOrdered_128.l2 a_0 x_1 x_9 x_10 = if x_9 ≤ x_10 then (Option.bind (gi a_0 x_1) fun y1 => Option.bind (gi a_0 x_10) fun y8 => Option.bind (cmp_Less_127 y1 y8) fun y15 => if y15 = true then ((slices_partitionEqualOrdered_128.j3 a_0 x_1 x_9 x_10)) else ((slices_partitionEqualOrdered_128.j1 a_0 x_1 x_9 x_10))) else ((slices_partitionEqualOrdered_128.j1 a_0 x_1 x_9 x_10)) := fixF_eq slices_partitionEqualOrdered_128.l0_k.mono _
theorem slices_partitionEqualOrdered_128.j3_eq (a_0 : List Int) (x_1 : Int) (x_9 : Int) (x_10 : Int) : slices_partitionEqualOrdered_128.j3 a_0 x_1 x_9 x_10 = (slices_partitionEqualOrdered_128.l2 a_0 x_1 x_9 (IntKind.wrap .i64 (x_10 - (1 : Int)))) := fixF_eq slices_partitionEqualOrdered_128.l0_k.mono _
theorem slices_partitionEqualOrdered_128.j1_eq (a_0 : List Int) (x_1 : Int) (x_9 : Int) (x_10 : Int) : slices_partitionEqualOrdered_128.j1 a_0 x_1 x_9 x_10 = if x_9 > x_10 then (some (x_9, a_0)) else (Option.bind (gi a_0 x_10) fun y1 => Option.bind (gi a_0 x_9) fun y8 => Option.bind (gi a_0 x_9) fun y15 => Option.bind (some (List.set a_0 (Int.toNat x_9) y1)) fun l24 => Option.bind (gi l24 x_10) fun y26 => Option.bind (some (List.set l24 (Int.toNat x_10) y8)) fun l35 => (slices_partitionEqualOrdered_128.l0 l35 x_1 (IntKind.wrap .i64 (x_9 + (1 : Int))) (IntKind.wrap .i64 (x_10 - (1 : Int))))) := fixF_eq slices_partitionEqualOrdered_128.l0_k.mono _
def slices_partitionEqualOrdered_128.l0_k.I : (p : slices_partitionEqualOrdered_128.l0_k.Pt) → (Int × (List Int)) → Prop
  | .l0 a_0 x_1 x_9 x_10, r => ∀ (W : Nat → Prop) (h0 m0 h m : Heap) (A_0 : Option Addr) (n_0 c_0 : Nat) (O : Hold W h0 m0 h m [rR (aE (tell_int .i64)) A_0 c_0 a_0]) (ne_0 : n_0 = List.length a_0), f128.l0 (slices_partitionEqualOrdered_128.post W A_0 n_0 c_0 h0 m0 r) A_0 n_0 c_0 x_1 x_9 x_10 h
  | .l1 a_0 x_1 x_9 x_10, r => ∀ (W : Nat → Prop) (h0 m0 h m : Heap) (A_0 : Option Addr) (n_0 c_0 : Nat) (O : Hold W h0 m0 h m [rR (aE (tell_int .i64)) A_0 c_0 a_0]) (ne_0 : n_0 = List.length a_0), f128.l1 (slices_partitionEqualOrdered_128.post W A_0 n_0 c_0 h0 m0 r) A_0 n_0 c_0 x_1 x_9 x_10 h
  | .j2 a_0 x_1 x_9 x_10, r => ∀ (W : Nat → Prop) (h0 m0 h m : Heap) (A_0 : Option Addr) (n_0 c_0 : Nat) (O : Hold W h0 m0 h m [rR (aE (tell_int .i64)) A_0 c_0 a_0]) (ne_0 : n_0 = List.length a_0), f128.j2 (slices_partitionEqualOrdered_128.post W A_0 n_0 c_0 h0 m0 r) A_0 n_0 c_0 x_1 x_9 x_10 h
  | .j0 a_0 x_1 x_9 x_10, r => ∀ (W : Nat → Prop) (h0 m0 h m : Heap) (A_0 : Option Addr) (n_0 c_0 : Nat) (O : Hold W h0 m0 h m [rR (aE (tell_int .i64)) A_0 c_0 a_0]) (ne_0 : n_0 = List.length a_0), f128.j0 (slices_partitionEqualOrdered_128.post W A_0 n_0 c_0 h0 m0 r) A_0 n_0 c_0 x_1 x_9 x_10 h
  | .l2 a_0 x_1 x_9 x_10, r => ∀ (W : Nat → Prop) (h0 m0 h m : Heap) (A_0 : Option Addr) (n_0 c_0 : Nat) (O : Hold W h0 m0 h m [rR (aE (tell_int .i64)) A_0 c_0 a_0]) (ne_0 : n_0 = List.length a_0), f128.l2 (slices_partitionEqualOrdered_128.post W A_0 n_0 c_0 h0 m0 r) A_0 n_0 c_0 x_1 x_9 x_10 h
  | .j3 a_0 x_1 x_9 x_10, r => ∀ (W : Nat → Prop) (h0 m0 h m : Heap) (A_0 : Option Addr) (n_0 c_0 : Nat) (O : Hold W h0 m0 h m [rR (aE (tell_int .i64)) A_0 c_0 a_0]) (ne_0 : n_0 = List.length a_0), f128.j3 (slices_partitionEqualOrdered_128.post W A_0 n_0 c_0 h0 m0 r) A_0 n_0 c_0 x_1 x_9 x_10 h
  | .j1 a_0 x_1 x_9 x_10, r => ∀ (W : Nat → Prop) (h0 m0 h m : Heap) (A_0 : Option Addr) (n_0 c_0 : Nat) (O : Hold W h0 m0 h m [rR (aE (tell_int .i64)) A_0 c_0 a_0]) (ne_0 : n_0 = List.length a_0), f128.j1 (slices_partitionEqualOrdered_128.post W A_0 n_0 c_0 h0 m0 r) A_0 n_0 c_0 x_1 x_9 x_10 h
set_option maxRecDepth 100000 in
theorem slices_partitionEqualOrdered_128.l0_k.step_l0 (go : (p : slices_partitionEqualOrdered_128.l0_k.Pt) → Option (Int × (List Int))) (ih : ∀ p r, go p = some r → slices_partitionEqualOrdered_128.l0_k.I p r) (a_0 : List Int) (x_1 : Int) (x_9 : Int) (x_10 : Int) (r : Int × (List Int)) (e : slices_partitionEqualOrdered_128.l0_k.body go (.l0 a_0 x_1 x_9 x_10) = some r) : slices_partitionEqualOrdered_128.l0_k.I (.l0 a_0 x_1 x_9 x_10) r := by
  unfold slices_partitionEqualOrdered_128.l0_k.body at e
  intro W h0 m0 h m A_0 n_0 c_0 O ne_0
  subst ne_0
  refine f128.l0_in ?_
  unfold f128.l0T
  exact (ih _ _ e) _ _ _ _ _ _ _ _ (O.pick [0]).nm rfl
set_option maxRecDepth 100000 in
theorem slices_partitionEqualOrdered_128.l0_k.step_l1 (go : (p : slices_partitionEqualOrdered_128.l0_k.Pt) → Option (Int × (List Int))) (ih : ∀ p r, go p = some r → slices_partitionEqualOrdered_128.l0_k.I p r) (a_0 : List Int) (x_1 : Int) (x_9 : Int) (x_10 : Int) (r : Int × (List Int)) (e : slices_partitionEqualOrdered_128.l0_k.body go (.l1 a_0 x_1 x_9 x_10) = some r) : slices_partitionEqualOrdered_128.l0_k.I (.l1 a_0 x_1 x_9 x_10) r := by
  unfold slices_partitionEqualOrdered_128.l0_k.body at e
  intro W h0 m0 h m A_0 n_0 c_0 O ne_0
  subst ne_0
  refine f128.l1_in ?_
  unfold f128.l1T
  refine split_dec_e e (fun c23 e => ?_) (fun c23 e => ?_)
  · obtain ⟨y1, g2, e⟩ := bind_e e
    refine (O.os 0 rfl).addr rfl g2 fun a3 cs4 ha5 hc6 he7 => ?_
    obtain rfl : cs4 = [(Value.int .i64 y1)] := he7
    obtain ⟨y8, g9, e⟩ := bind_e e
    refine (O.os 0 rfl).addr rfl g9 fun a10 cs11 ha12 hc13 he14 => ?_
    obtain rfl : cs11 = [(Value.int .i64 y8)] := he14
    refine ⟨_, ld0 (Sub.refl _) hc6 rfl, _, rfl, ?_⟩
    refine ⟨_, ld0 (Sub.refl _) hc13 rfl, _, rfl, ?_⟩
    obtain ⟨y15, g16, e⟩ := bind_e e
    refine (cmp_Less_127.walk (Hold.start (W := No) O.s)  g16).mono ?_
    rintro _ h17 ⟨m18, Q19, rfl⟩
    have O21 := Hold.nm (O.retC Q19 vfs_nil)
    refine ⟨_, rfl, ?_⟩
    refine split_not ?_
    refine split_any_e e (fun c22 e => ?_) (fun c22 e => ?_)
    · exact (ih _ _ e) _ _ _ _ _ _ _ _ (O21.pick [0]).nm rfl
    · exact (ih _ _ e) _ _ _ _ _ _ _ _ (O21.pick [0]).nm rfl
  · exact (ih _ _ e) _ _ _ _ _ _ _ _ (O.pick [0]).nm rfl
set_option maxRecDepth 100000 in
theorem slices_partitionEqualOrdered_128.l0_k.step_j2 (go : (p : slices_partitionEqualOrdered_128.l0_k.Pt) → Option (Int × (List Int))) (ih : ∀ p r, go p = some r → slices_partitionEqualOrdered_128.l0_k.I p r) (a_0 : List Int) (x_1 : Int) (x_9 : Int) (x_10 : Int) (r : Int × (List Int)) (e : slices_partitionEqualOrdered_128.l0_k.body go (.j2 a_0 x_1 x_9 x_10) = some r) : slices_partitionEqualOrdered_128.l0_k.I (.j2 a_0 x_1 x_9 x_10) r := by
  unfold slices_partitionEqualOrdered_128.l0_k.body at e
  intro W h0 m0 h m A_0 n_0 c_0 O ne_0
  subst ne_0
  refine f128.j2_in ?_
  unfold f128.j2T
  exact (ih _ _ e) _ _ _ _ _ _ _ _ (O.pick [0]).nm rfl
set_option maxRecDepth 100000 in
theorem slices_partitionEqualOrdered_128.l0_k.step_j0 (go : (p : slices_partitionEqualOrdered_128.l0_k.Pt) → Option (Int × (List Int))) (ih : ∀ p r, go p = some r → slices_partitionEqualOrdered_128.l0_k.I p r) (a_0 : List Int) (x_1 : Int) (x_9 : Int) (x_10 : Int) (r : Int × (List Int)) (e : slices_partitionEqualOrdered_128.l0_k.body go (.j0 a_0 x_1 x_9 x_10) = some r) : slices_partitionEqualOrdered_128.l0_k.I (.j0 a_0 x_1 x_9 x_10) r := by
  unfold slices_partitionEqualOrdered_128.l0_k.body at e
  intro W h0 m0 h m A_0 n_0 c_0 O ne_0
  subst ne_0
  refine f128.j0_in ?_
  unfold f128.j0T
  exact (ih _ _ e) _ _ _ _ _ _ _ _ (O.pick [0]).nm rfl
set_option maxRecDepth 100000 in
theorem slices_partitionEqualOrdered_128.l0_k.step_l2 (go : (p : slices_partitionEqualOrdered_128.l0_k.Pt) → Option (Int × (List Int))) (ih : ∀ p r, go p = some r → slices_partitionEqualOrdered_128.l0_k.I p r) (a_0 : List Int) (x_1 : Int) (x_9 : Int) (x_10 : Int) (r : Int × (List Int)) (e : slices_partitionEqualOrdered_128.l0_k.body go (.l2 a_0 x_1 x_9 x_10) = some r) : slices_partitionEqualOrdered_128.l0_k.I (.l2 a_0 x_1 x_9 x_10) r := by
  unfold slices_partitionEqualOrdered_128.l0_k.body at e
  intro W h0 m0 h m A_0 n_0 c_0 O ne_0
  subst ne_0
  refine f128.l2_in ?_
  unfold f128.l2T
  refine split_dec_e e (fun c23 e => ?_) (fun c23 e => ?_)
  · obtain ⟨y1, g2, e⟩ := bind_e e
    refine (O.os 0 rfl).addr rfl g2 fun a3 cs4 ha5 hc6 he7 => ?_
    obtain rfl : cs4 = [(Value.int .i64 y1)] := he7
    obtain ⟨y8, g9, e⟩ := bind_e e
    refine (O.os 0 rfl).addr rfl g9 fun a10 cs11 ha12 hc13 he14 => ?_
    obtain rfl : cs11 = [(Value.int .i64 y8)] := he14
    refine ⟨_, ld0 (Sub.refl _) hc6 rfl, _, rfl, ?_⟩
    refine ⟨_, ld0 (Sub.refl _) hc13 rfl, _, rfl, ?_⟩
    obtain ⟨y15, g16, e⟩ := bind_e e
    refine (cmp_Less_127.walk (Hold.start (W := No) O.s)  g16).mono ?_
    rintro _ h17 ⟨m18, Q19, rfl⟩
    have O21 := Hold.nm (O.retC Q19 vfs_nil)
    refine ⟨_, rfl, ?_⟩
    refine split_any_e e (fun c22 e => ?_) (fun c22 e => ?_)
    · exact (ih _ _ e) _ _ _ _ _ _ _ _ (O21.pick [0]).nm rfl
    · exact (ih _ _ e) _ _ _ _ _ _ _ _ (O21.pick [0]).nm rfl
  · exact (ih _ _ e) _ _ _ _ _ _ _ _ (O.pick [0]).nm rfl
set_option maxRecDepth 100000 in
theorem slices_partitionEqualOrdered_128.l0_k.step_j3 (go : (p : slices_partitionEqualOrdered_128.l0_k.Pt) → Option (Int × (List Int))) (ih : ∀ p r, go p = some r → slices_partitionEqualOrdered_128.l0_k.I p r) (a_0 : List Int) (x_1 : Int) (x_9 : Int) (x_10 : Int) (r : Int × (List Int)) (e : slices_partitionEqualOrdered_128.l0_k.body go (.j3 a_0 x_1 x_9 x_10) = some r) : slices_partitionEqualOrdered_128.l0_k.I (.j3 a_0 x_1 x_9 x_10) r := by
  unfold slices_partitionEqualOrdered_128.l0_k.body at e
  intro W h0 m0 h m A_0 n_0 c_0 O ne_0
  subst ne_0
  refine f128.j3_in ?_
  unfold f128.j3T
  exact (ih _ _ e) _ _ _ _ _ _ _ _ (O.pick [0]).nm rfl
set_option maxRecDepth 100000 in
theorem slices_partitionEqualOrdered_128.l0_k.step_j1 (go : (p : slices_partitionEqualOrdered_128.l0_k.Pt) → Option (Int × (List Int))) (ih : ∀ p r, go p = some r → slices_partitionEqualOrdered_128.l0_k.I p r) (a_0 : List Int) (x_1 : Int) (x_9 : Int) (x_10 : Int) (r : Int × (List Int)) (e : slices_partitionEqualOrdered_128.l0_k.body go (.j1 a_0 x_1 x_9 x_10) = some r) : slices_partitionEqualOrdered_128.l0_k.I (.j1 a_0 x_1 x_9 x_10) r := by
  unfold slices_partitionEqualOrdered_128.l0_k.body at e
  intro W h0 m0 h m A_0 n_0 c_0 O ne_0
  subst ne_0
  refine f128.j1_in ?_
  unfold f128.j1T
  refine split_dec_e e (fun c38 e => ?_) (fun c38 e => ?_)
  · cases e
    exact ⟨_, O.pick [0], rfl, rfl⟩
  · obtain ⟨y1, g2, e⟩ := bind_e e
    refine (O.os 0 rfl).addr rfl g2 fun a3 cs4 ha5 hc6 he7 => ?_
    obtain rfl : cs4 = [(Value.int .i64 y1)] := he7
    obtain ⟨y8, g9, e⟩ := bind_e e
    refine (O.os 0 rfl).addr rfl g9 fun a10 cs11 ha12 hc13 he14 => ?_
    obtain rfl : cs11 = [(Value.int .i64 y8)] := he14
    refine ⟨_, ld0 (Sub.refl _) hc6 rfl, _, rfl, ?_⟩
    refine ⟨_, ld0 (Sub.refl _) hc13 rfl, _, rfl, ?_⟩
    obtain ⟨y15, g16, e⟩ := bind_e e
    refine (O.os 0 rfl).addr rfl g16 fun a17 cs18 ha19 hc20 he21 => ?_
    obtain rfl : cs18 = [(Value.int .i64 y15)] := he21
    obtain ⟨l24, g25, e⟩ := bind_e e
    replace g25 := Option.some.inj g25
    refine O.elst0 0 rfl g16 ha19 hc20 (by decide) (y' := y1) rfl trivial g25 fun h22 O23 => ?_
    obtain ⟨y26, g27, e⟩ := bind_e e
    refine (O23.os 0 rfl).addr (lset' g25) g27 fun a28 cs29 ha30 hc31 he32 => ?_
    obtain rfl : cs29 = [(Value.int .i64 y26)] := he32
    obtain ⟨l35, g36, e⟩ := bind_e e
    replace g36 := Option.some.inj g36
    refine O23.elst0 0 rfl g27 ha30 hc31 (by decide) (y' := y8) rfl trivial g36 fun h33 O34 => ?_
    have O37 := O34.nm
    exact (ih _ _ e) _ _ _ _ _ _ _ _ (O37.pick [0]).nm ((lset' g25).trans (lset' g36))
theorem slices_partitionEqualOrdered_128.l0_k.all {p : slices_partitionEqualOrdered_128.l0_k.Pt} {r : (Int × (List Int))} (e : slices_partitionEqualOrdered_128.l0_k.go p = some r) : slices_partitionEqualOrdered_128.l0_k.I p r := fixF_ind (β := fun _ => (Int × (List Int))) slices_partitionEqualOrdered_128.l0_k.mono (I := slices_partitionEqualOrdered_128.l0_k.I) (fun go ih p r e => match p with
  | .l0 a_0 x_1 x_9 x_10 => slices_partitionEqualOrdered_128.l0_k.step_l0 go ih a_0 x_1 x_9 x_10 r e
  | .l1 a_0 x_1 x_9 x_10 => slices_partitionEqualOrdered_128.l0_k.step_l1 go ih a_0 x_1 x_9 x_10 r e
  | .j2 a_0 x_1 x_9 x_10 => slices_partitionEqualOrdered_128.l0_k.step_j2 go ih a_0 x_1 x_9 x_10 r e
  | .j0 a_0 x_1 x_9 x_10 => slices_partitionEqualOrdered_128.l0_k.step_j0 go ih a_0 x_1 x_9 x_10 r e
  | .l2 a_0 x_1 x_9 x_10 => slices_partitionEqualOrdered_128.l0_k.step_l2 go ih a_0 x_1 x_9 x_10 r e
  | .j3 a_0 x_1 x_9 x_10 => slices_partitionEqualOrdered_128.l0_k.step_j3 go ih a_0 x_1 x_9 x_10 r e
  | .j1 a_0 x_1 x_9 x_10 => slices_partitionEqualOrdered_128.l0_k.step_j1 go ih a_0 x_1 x_9 x_10 r e
  ) e
theorem slices_partitionEqualOrdered_128.l0.walk {W : Nat → Prop} {h0 m0 h m : Heap} {A_0 : Option Addr} {n_0 c_0 : Nat} {a_0 : List Int} {x_1 : Int} {x_9 : Int} {x_10 : Int} (O : Hold W h0 m0 h m [rR (aE (tell_int .i64)) A_0 c_0 a_0]) (ne_0 : n_0 = List.length a_0) {r : Int × (List Int)} (e : slices_partitionEqualOrdered_128.l0 a_0 x_1 x_9 x_10 = some r) : f128.l0 (slices_partitionEqualOrdered_128.post W A_0 n_0 c_0 h0 m0 r) A_0 n_0 c_0 x_1 x_9 x_10 h := slices_partitionEqualOrdered_128.l0_k.all (p := .l0 a_0 x_1 x_9 x_10) e W h0 m0 h m A_0 n_0 c_0 O ne_0
noncomputable def slices_partitionEqualOrdered_128 (a_0 : List Int) (x_1 : Int) (x_2 : Int) (x_3 : Int) : Option (Int × (List Int)) :=
  Option.bind (gi a_0 x_3) fun y1 => Option.bind (gi a_0 x_1) fun y8 => Option.bind (gi a_0 x_1) fun y15 => Option.bind (some (List.set a_0 (Int.toNat x_1) y1)) fun l24 => Option.bind (gi l24 x_3) fun y26 => Option.bind (some (List.set l24 (Int.toNat x_3) y8)) fun l35 => (slices_partitionEqualOrdered_128.l0 l35 x_1 (IntKind.wrap .i64 (x_1 + (1 : Int))) (IntKind.wrap .i64 (x_2 - (1 : Int))))
set_option maxRecDepth 100000 in
theorem slices_partitionEqualOrdered_128.walk {W : Nat → Prop} {h m : Heap} {A_0 : Option Addr} {n_0 c_0 : Nat} {a_0 : List Int} {x_1 : Int} {x_2 : Int} {x_3 : Int} (O : Hold W h m h m [rR (aE (tell_int .i64)) A_0 c_0 a_0]) (ne_0 : n_0 = List.length a_0) {r : Int × (List Int)} (e : slices_partitionEqualOrdered_128 a_0 x_1 x_2 x_3 = some r) : Run Try.prog 128 #[Value.slice A_0 n_0 c_0, Value.int .i64 x_1, Value.int .i64 x_2, Value.int .i64 x_3] h (slices_partitionEqualOrdered_128.post W A_0 n_0 c_0 h m r) := by
  unfold slices_partitionEqualOrdered_128 at e
  subst ne_0
  refine f128.run ?_
  unfold f128.runT
  obtain ⟨y1, g2, e⟩ := bind_e e
  refine (O.os 0 rfl).addr rfl g2 fun a3 cs4 ha5 hc6 he7 => ?_
  obtain rfl : cs4 = [(Value.int .i64 y1)] := he7
  obtain ⟨y8, g9, e⟩ := bind_e e
  refine (O.os 0 rfl).addr rfl g9 fun a10 cs11 ha12 hc13 he14 => ?_
  obtain rfl : cs11 = [(Value.int .i64 y8)] := he14
  refine ⟨_, ld0 (Sub.refl _) hc6 rfl, _, rfl, ?_⟩
  refine ⟨_, ld0 (Sub.refl _) hc13 rfl, _, rfl, ?_⟩
  obtain ⟨y15, g16, e⟩ := bind_e e
  refine (O.os 0 rfl).addr rfl g16 fun a17 cs18 ha19 hc20 he21 => ?_
  obtain rfl : cs18 = [(Value.int .i64 y15)] := he21
  obtain ⟨l24, g25, e⟩ := bind_e e
  replace g25 := Option.some.inj g25
  refine O.elst0 0 rfl g16 ha19 hc20 (by decide) (y' := y1) rfl trivial g25 fun h22 O23 => ?_
  obtain ⟨y26, g27, e⟩ := bind_e e
  refine (O23.os 0 rfl).addr (lset' g25) g27 fun a28 cs29 ha30 hc31 he32 => ?_
  obtain rfl : cs29 = [(Value.int .i64 y26)] := he32
  obtain ⟨l35, g36, e⟩ := bind_e e
  replace g36 := Option.some.inj g36
  refine O23.elst0 0 rfl g27 ha30 hc31 (by decide) (y' := y8) rfl trivial g36 fun h33 O34 => ?_
  have O37 := O34.nm
  exact slices_partitionEqualOrdered_128.l0.walk (O37.pick [0]).nm ((lset' g25).trans (lset' g36)) e
def slices_partitionOrdered_129.post (W : Nat → Prop) (Asl0 : Option Addr) (nsl0 csl0 : Nat) (h0 m0 : Heap) (r : Int × Bool × (List Int)) (v : Value) (h : Heap) : Prop := ∃ m , Hold W h0 m0 h m [rR (aE (tell_int .i64)) Asl0 csl0 r.2.2] ∧ v = .tuple #[.int .i64 r.1, .bool r.2.1] ∧ nsl0 = List.length r.2.2
noncomputable def slices_partitionOrdered_129.j4 (a_0 : List Int) (x_1 : Int) (x_11 : Int) : Option (Int × Bool × (List Int)) :=
  Option.bind (gi a_0 x_1) fun y1 => Option.bind (gi a_0 x_11) fun y8 => Option.bind (gi a_0 x_11) fun y15 => Option.bind (some (List.set a_0 (Int.toNat x_11) y1)) fun l24 => Option.bind (gi l24 x_1) fun y26 => Option.bind (some (List.set l24 (Int.toNat x_1) y8)) fun l35 => some (x_11, false, l35)
set_option maxRecDepth 100000 in
theorem slices_partitionOrdered_129.j4.walk {W : Nat → Prop} {h0 m0 h m : Heap} {A_0 : Option Addr} {n_0 c_0 : Nat} {a_0 : List Int} {x_1 : Int} {x_11 : Int} (O : Hold W h0 m0 h m [rR (aE (tell_int .i64)) A_0 c_0 a_0]) (ne_0 : n_0 = List.length a_0) {r : Int × Bool × (List Int)} (e : slices_partitionOrdered_129.j4 a_0 x_1 x_11 = some r) : f129.j4 (slices_partitionOrdered_129.post W A_0 n_0 c_0 h0 m0 r) A_0 n_0 c_0 x_1 x_11 h := by
  unfold slices_partitionOrdered_129.j4 at e
  subst ne_0
  refine f129.j4_in ?_
  unfold f129.j4T
  obtain ⟨y1, g2, e⟩ := bind_e e
  refine (O.os 0 rfl).addr rfl g2 fun a3 cs4 ha5 hc6 he7 => ?_
  obtain rfl : cs4 = [(Value.int .i64 y1)] := he7
  obtain ⟨y8, g9, e⟩ := bind_e e
  refine (O.os 0 rfl).addr rfl g9 fun a10 cs11 ha12 hc13 he14 => ?_
  obtain rfl : cs11 = [(Value.int .i64 y8)] := he14
  refine ⟨_, ld0 (Sub.refl _) hc6 rfl, _, rfl, ?_⟩
  refine ⟨_, ld0 (Sub.refl _) hc13 rfl, _, rfl, ?_⟩
  obtain ⟨y15, g16, e⟩ := bind_e e
  refine (O.os 0 rfl).addr rfl g16 fun a17 cs18 ha19 hc20 he21 => ?_
  obtain rfl : cs18 = [(Value.int .i64 y15)] := he21
  obtain ⟨l24, g25, e⟩ := bind_e e
  replace g25 := Option.some.inj g25
  refine O.elst0 0 rfl g16 ha19 hc20 (by decide) (y' := y1) rfl trivial g25 fun h22 O23 => ?_
  obtain ⟨y26, g27, e⟩ := bind_e e
  refine (O23.os 0 rfl).addr (lset' g25) g27 fun a28 cs29 ha30 hc31 he32 => ?_
  obtain rfl : cs29 = [(Value.int .i64 y26)] := he32
  obtain ⟨l35, g36, e⟩ := bind_e e
  replace g36 := Option.some.inj g36
  refine O23.elst0 0 rfl g27 ha30 hc31 (by decide) (y' := y8) rfl trivial g36 fun h33 O34 => ?_
  have O37 := O34.nm
  cases e
  exact ⟨_, O37.pick [0], rfl, ((lset' g25).trans (lset' g36))⟩
inductive slices_partitionOrdered_129.l2_k.Pt where
  | l2 (a_0 : List Int) (x_1 : Int) (x_10 : Int) (x_11 : Int)
  | l3 (a_0 : List Int) (x_1 : Int) (x_10 : Int) (x_11 : Int)
  | j7 (a_0 : List Int) (x_1 : Int) (x_10 : Int) (x_11 : Int)
  | j5 (a_0 : List Int) (x_1 : Int) (x_10 : Int) (x_11 : Int)
  | l4 (a_0 : List Int) (x_1 : Int) (x_10 : Int) (x_11 : Int)
  | j8 (a_0 : List Int) (x_1 : Int) (x_10 : Int) (x_11 : Int)
  | j6 (a_0 : List Int) (x_1 : Int) (x_10 : Int) (x_11 : Int)
noncomputable def slices_partitionOrdered_129.l2_k.body (go : (p : slices_partitionOrdered_129.l2_k.Pt) → Option (Int × Bool × (List Int))) : (p : slices_partitionOrdered_129.l2_k.Pt) → Option (Int × Bool × (List Int))
  | .l2 a_0 x_1 x_10 x_11 => (go (.l3 a_0 x_1 x_10 x_11))
  | .l3 a_0 x_1 x_10 x_11 => if x_10 ≤ x_11 then (Option.bind (gi a_0 x_10) fun y1 => Option.bind (gi a_0 x_1) fun y8 => Option.bind (cmp_Less_127 y1 y8) fun y15 => if y15 = true then ((go (.j7 a_0 x_1 x_10 x_11))) else ((go (.j5 a_0 x_1 x_10 x_11)))) else ((go (.j5 a_0 x_1 x_10 x_11)))
  | .j7 a_0 x_1 x_10 x_11 => (go (.l3 a_0 x_1 (IntKind.wrap .i64 (x_10 + (1 : Int))) x_11))
  | .j5 a_0 x_1 x_10 x_11 => (go (.l4 a_0 x_1 x_10 x_11))
  | .l4 a_0 x_1 x_10 x_11 => if x_10 ≤ x_11 then (Option.bind (gi a_0 x_11) fun y1 => Option.bind (gi a_0 x_1) fun y8 => Option.bind (cmp_Less_127 y1 y8) fun y15 => if y15 = true then ((go (.j6 a_0 x_1 x_10 x_11))) else ((go (.j8 a_0 x_1 x_10 x_11)))) else ((go (.j6 a_0 x_1 x_10 x_11)))
  | .j8 a_0 x_1 x_10 x_11 => (go (.l4 a_0 x_1 x_10 (IntKind.wrap .i64 (x_11 - (1 : Int)))))
  | .j6 a_0 x_1 x_10 x_11 => if x_10 > x_11 then ((slices_partitionOrdered_129.j4 a_0 x_1 x_11)) else (Option.bind (gi a_0 x_11) fun y1 => Option.bind (gi a_0 x_10) fun y8 => Option.bind (gi a_0 x_10) fun y15 => Option.bind (some (List.set a_0 (Int.toNat x_10) y1)) fun l24 => Option.bind (gi l24 x_11) fun y26 => Option.bind (some (List.set l24 (Int.toNat x_11) y8)) fun l35 => (go (.l2 l35 x_1 (IntKind.wrap .i64 (x_10 + (1 : Int))) (IntKind.wrap .i64 (x_11 - (1 : Int))))))
attribute [local irreducible] cmp_Less_127 in
theorem slices_partitionOrdered_129.l2_k.mono : MonoF (β := fun _ => (Int × Bool × (List Int))) slices_partitionOrdered_129.l2_k.body := fun f g hfg p => match p with
  | .l2 a_0 x_1 x_10 x_11 => (hfg _)
  | .l3 a_0 x_1 x_10 x_11 => LeO.ite (LeO.bind (LeO.refl _) fun y1 => LeO.bind (LeO.refl _) fun y8 => LeO.bind (LeO.refl _) fun y15 => LeO.ite ((hfg _)) ((hfg _))) ((hfg _))
  | .j7 a_0 x_1 x_10 x_11 => (hfg _)
  | .j5 a_0 x_1 x_10 x_11 => (hfg _)
  | .l4 a_0 x_1 x_10 x_11 => LeO.ite (LeO.bind (LeO.refl _) fun y1 => LeO.bind (LeO.refl _) fun y8 => LeO.bind (LeO.refl _) fun y15 => LeO.ite ((hfg _)) ((hfg _))) ((hfg _))
  | .j8 a_0 x_1 x_10 x_11 => (hfg _)
  | .j6 a_0 x_1 x_10 x_11 => LeO.ite ((LeO.refl _)) (LeO.bind (LeO.refl _) fun y1 => LeO.bind (LeO.refl _) fun y8 => LeO.bind (LeO.refl _) fun y15 => LeO.bind (LeO.refl _) fun l24 => LeO.bind (LeO.refl _) fun y26 => LeO.bind (LeO.refl _) fun l35 => (hfg _))
noncomputable def slices_partitionOrdered_129.l2_k.go (p : slices_partitionOrdered_129.l2_k.Pt) : Option (Int × Bool × (List Int)) := fixF (β := fun _ => (Int × Bool × (List Int))) slices_partitionOrdered_129.l2_k.body p
noncomputable def slices_partitionOrdered_129.l2 (a_0 : List Int) (x_1 : Int) (x_10 : Int) (x_11 : Int) : Option (Int × Bool × (List Int)) := slices_partitionOrdered_129.l2_k.go (.l2 a_0 x_1 x_10 x_11)
noncomputable def slices_partitionOrdered_129.l3 (a_0 : List Int) (x_1 : Int) (x_10 : Int) (x_11 : Int) : Option (Int × Bool × (List Int)) := slices_partitionOrdered_129.l2_k.go (.l3 a_0 x_1 x_10 x_11)
noncomputable def slices_partitionOrdered_129.j7 (a_0 : List Int) (x_1 : Int) (x_10 : Int) (x_11 : Int) : Option (Int × Bool × (List Int)) := slices_partitionOrdered_129.l2_k.go (.j7 a_0 x_1 x_10 x_11)
noncomputable def slices_partitionOrdered_129.j5 (a_0 : List Int) (x_1 : Int) (x_10 : Int) (x_11 : Int) : Option (Int × Bool × (List Int)) := slices_partitionOrdered_129.l2_k.go (.j5 a_0 x_1 x_10 x_11)
noncomputable def slices_partitionOrdered_129.l4 (a_0 : List Int) (x_1 : Int) (x_10 : Int) (x_11 : Int) : Option (Int × Bool × (List Int)) := slices_partitionOrdered_129.l2_k.go (.l4 a_0 x_1 x_10 x_11)
noncomputable def slices_partitionOrdered_129.j8 (a_0 : List Int) (x_1 : Int) (x_10 : Int) (x_11 : Int) : Option (Int × Bool × (List Int)) := slices_partitionOrdered_129.l2_k.go (.j8 a_0 x_1 x_10 x_11)
noncomputable def slices_partitionOrdered_129.j6 (a_0 : List Int) (x_1 : Int) (x_10 : Int) (x_11 : Int) : Option (Int × Bool × (List Int)) := slices_partitionOrdered_129.l2_k.go (.j6 a_0 x_1 x_10 x_11)
theorem slices_partitionOrdered_129.l2_eq (a_0 : List Int) (x_1 : Int) (x_10 : Int) (x_11 : Int) : slices_partitionOrdered_129.l2 a_0 x_1 x_10 x_11 = (slices_partitionOrdered_129.l3 a_0 x_1 x_10 x_11) := fixF_eq slices_partitionOrdered_129.l2_k.mono _
theorem slices_partitionOrdered_129.l3_eq (a_0 : List Int) (x_1 : Int) (x_10 : Int) (x_11 : Int) : slices_partitionOrdered_129.l3 a_0 x_1 x_10 x_11 = if x_10 ≤ x_11 then (Option.bind (gi a_0 x_10) fun y1 => Option.bind (gi a_0 x_1) fun y8 => Option.bind (cmp_Less_127 y1 y8) fun y15 => if y15 = true then ((slices_partitionOrdered_129.j7 a_0 x_1 x_10 x_11)) else ((slices_partitionOrdered_129.j5 a_0 x_1 x_10 x_11))) else ((slices_partitionOrdered_129.j5 a_0 x_1 x_10 x_11)) := fixF_eq slices_partitionOrdered_129.l2_k.mono _
theorem slices_partitionOrdered_129.j7_eq (a_0 : List Int) (x_1 : Int) (x_10 : Int) (x_11 : Int) : slices_partitionOrdered_129.j7 a_0 x_1 x_10 x_11 = (slices_partitionOrdered_129.l3 a_0 x_1 (IntKind.wrap .i64 (x_10 + (1 : Int))) x_11) := fixF_eq slices_partitionOrdered_129.l2_k.mono _
theorem slices_partitionOrdered_129.j5_eq (a_0 : List Int) (x_1 : Int) (x_10 : Int) (x_11 : Int) : slices_partitionOrdered_129.j5 a_0 x_1 x_10 x_11 = (slices_partitionOrdered_129.l4 a_0 x_1 x_10 x_11) := fixF_eq slices_partitionOrdered_129.l2_k.mono _
theorem slices_partitionOrdered_129.l4_eq (a_0 : List Int) (x_1 : Int) (x_10 : Int) (x_11 : Int) : slices_partitionOrdered_129.l4 a_0 x_1 x_10 x_11 = if x_10 ≤ x_11 then (Option.bind (gi a_0 x_11) fun y1 => Option.bind (gi a_0 x_1) fun y8 => Option.bind (cmp_Less_127 y1 y8) fun y15 => if y15 = true then ((slices_partitionOrdered_129.j6 a_0 x_1 x_10 x_11)) else ((slices_partitionOrdered_129.j8 a_0 x_1 x_10 x_11))) else ((slices_partitionOrdered_129.j6 a_0 x_1 x_10 x_11)) := fixF_eq slices_partitionOrdered_129.l2_k.mono _
theorem slices_partitionOrdered_129.j8_eq (a_0 : List Int) (x_1 : Int) (x_10 : Int) (x_11 : Int) : slices_partitionOrdered_129.j8 a_0 x_1 x_10 x_11 = (slices_partitionOrdered_129.l4 a_0 x_1 x_10 (IntKind.wrap .i64 (x_11 - (1 : Int)))) := fixF_eq slices_partitionOrdered_129.l2_k.mono _
theorem slices_partitionOrdered_129.j6_eq (a_0 : List Int) (x_1 : Int) (x_10 : Int) (x_11 : Int) : slices_partitionOrdered_129.j6 a_0 x_1 x_10 x_11 = if x_10 > x_11 then ((slices_partitionOrdered_129.j4 a_0 x_1 x_11)) else (Option.bind (gi a_0 x_11) fun y1 => Option.bind (gi a_0 x_10) fun y8 => Option.bind (gi a_0 x_10) fun y15 => Option.bind (some (List.set a_0 (Int.toNat x_10) y1)) fun l24 => Option.bind (gi l24 x_11) fun y26 => Option.bind (some (List.set l24 (Int.toNat x_11) y8)) fun l35 => (slices_partitionOrdered_129.l2 l35 x_1 (IntKind.wrap .i64 (x_10 + (1 : Int))) (IntKind.wrap .i64 (x_11 - (1 : Int))))) := fixF_eq slices_partitionOrdered_129.l2_k.mono _
def slices_partitionOrdered_129.l2_k.I : (p : slices_partitionOrdered_129.l2_k.Pt) → (Int × Bool × (List Int)) → Prop
  | .l2 a_0 x_1 x_10 x_11, r => ∀ (W : Nat → Prop) (h0 m0 h m : Heap) (A_0 : Option Addr) (n_0 c_0 : Nat) (O : Hold W h0 m0 h m [rR (aE (tell_int .i64)) A_0 c_0 a_0]) (ne_0 : n_0 = List.length a_0), f129.l2 (slices_partitionOrdered_129.post W A_0 n_0 c_0 h0 m0 r) A_0 n_0 c_0 x_1 x_10 x_11 h
  | .l3 a_0 x_1 x_10 x_11, r => ∀ (W : Nat → Prop) (h0 m0 h m : Heap) (A_0 : Option Addr) (n_0 c_0 : Nat) (O : Hold W h0 m0 h m [rR (aE (tell_int .i64)) A_0 c_0 a_0]) (ne_0 : n_0 = List.length a_0), f129.l3 (slices_partitionOrdered_129.post W A_0 n_0 c_0 h0 m0 r) A_0 n_0 c_0 x_1 x_10 x_11 h
  | .j7 a_0 x_1 x_10 x_11, r => ∀ (W : Nat → Prop) (h0 m0 h m : Heap) (A_0 : Option Addr) (n_0 c_0 : Nat) (O : Hold W h0 m0 h m [rR (aE (tell_int .i64)) A_0 c_0 a_0]) (ne_0 : n_0 = List.length a_0), f129.j7 (slices_partitionOrdered_129.post W A_0 n_0 c_0 h0 m0 r) A_0 n_0 c_0 x_1 x_10 x_11 h
  | .j5 a_0 x_1 x_10 x_11, r => ∀ (W : Nat → Prop) (h0 m0 h m : Heap) (A_0 : Option Addr) (n_0 c_0 : Nat) (O : Hold W h0 m0 h m [rR (aE (tell_int .i64)) A_0 c_0 a_0]) (ne_0 : n_0 = List.length a_0), f129.j5 (slices_partitionOrdered_129.post W A_0 n_0 c_0 h0 m0 r) A_0 n_0 c_0 x_1 x_10 x_11 h
  | .l4 a_0 x_1 x_10 x_11, r => ∀ (W : Nat → Prop) (h0 m0 h m : Heap) (A_0 : Option Addr) (n_0 c_0 : Nat) (O : Hold W h0 m0 h m [rR (aE (tell_int .i64)) A_0 c_0 a_0]) (ne_0 : n_0 = List.length a_0), f129.l4 (slices_partitionOrdered_129.post W A_0 n_0 c_0 h0 m0 r) A_0 n_0 c_0 x_1 x_10 x_11 h
  | .j8 a_0 x_1 x_10 x_11, r => ∀ (W : Nat → Prop) (h0 m0 h m : Heap) (A_0 : Option Addr) (n_0 c_0 : Nat) (O : Hold W h0 m0 h m [rR (aE (tell_int .i64)) A_0 c_0 a_0]) (ne_0 : n_0 = List.length a_0), f129.j8 (slices_partitionOrdered_129.post W A_0 n_0 c_0 h0 m0 r) A_0 n_0 c_0 x_1 x_10 x_11 h
  | .j6 a_0 x_1 x_10 x_11, r => ∀ (W : Nat → Prop) (h0 m0 h m : Heap) (A_0 : Option Addr) (n_0 c_0 : Nat) (O : Hold W h0 m0 h m [rR (aE (tell_int .i64)) A_0 c_0 a_0]) (ne_0 : n_0 = List.length a_0), f129.j6 (slices_partitionOrdered_129.post W A_0 n_0 c_0 h0 m0 r) A_0 n_0 c_0 x_1 x_10 x_11 h
set_option maxRecDepth 100000 in
theorem slices_partitionOrdered_129.l2_k.step_l2 (go : (p : slices_partitionOrdered_129.l2_k.Pt) → Option (Int × Bool × (List Int))) (ih : ∀ p r, go p = some r → slices_partitionOrdered_129.l2_k.I p r) (a_0 : List Int) (x_1 : Int) (x_10 : Int) (x_11 : Int) (r : Int × Bool × (List Int)) (e : slices_partitionOrdered_129.l2_k.body go (.l2 a_0 x_1 x_10 x_11) = some r) : slices_partitionOrdered_129.l2_k.I (.l2 a_0 x_1 x_10 x_11) r := by
  unfold slices_partitionOrdered_129.l2_k.body at e
  intro W h0 m0 h m A_0 n_0 c_0 O ne_0
  subst ne_0
  refine f129.l2_in ?_
  unfold f129.l2T
  exact (ih _ _ e) _ _ _ _ _ _ _ _ (O.pick [0]).nm rfl
set_option maxRecDepth 100000 in
theorem slices_partitionOrdered_129.l2_k.step_l3 (go : (p : slices_partitionOrdered_129.l2_k.Pt) → Option (Int × Bool × (List Int))) (ih : ∀ p r, go p = some r → slices_partitionOrdered_129.l2_k.I p r) (a_0 : List Int) (x_1 : Int) (x_10 : Int) (x_11 : Int) (r : Int × Bool × (List Int)) (e : slices_partitionOrdered_129.l2_k.body go (.l3 a_0 x_1 x_10 x_11) = some r) : slices_partitionOrdered_129.l2_k.I (.l3 a_0 x_1 x_10 x_11) r := by
  unfold slices_partitionOrdered_129.l2_k.body at e
  intro W h0 m0 h m A_0 n_0 c_0 O ne_0
  subst ne_0
  refine f129.l3_in ?_
  unfold f129.l3T
  refine split_dec_e e (fun c23 e => ?_) (fun c23 e => ?_)
  · obtain ⟨y1, g2, e⟩ := bind_e e
    refine (O.os 0 rfl).addr rfl g2 fun a3 cs4 ha5 hc6 he7 => ?_
    obtain rfl : cs4 = [(Value.int .i64 y1)] := he7
    obtain ⟨y8, g9, e⟩ := bind_e e
    refine (O.os 0 rfl).addr rfl g9 fun a10 cs11 ha12 hc13 he14 => ?_
    obtain rfl : cs11 = [(Value.int .i64 y8)] := he14
    refine ⟨_, ld0 (Sub.refl _) hc6 rfl, _, rfl, ?_⟩
    refine ⟨_, ld0 (Sub.refl _) hc13 rfl, _, rfl, ?_⟩
    obtain ⟨y15, g16, e⟩ := bind_e e
    refine (cmp_Less_127.walk (Hold.start (W := No) O.s)  g16).mono ?_
    rintro _ h17 ⟨m18, Q19, rfl⟩
    have O21 := Hold.nm (O.retC Q19 vfs_nil)
    refine ⟨_, rfl, ?_⟩
    refine split_any_e e (fun c22 e => ?_) (fun c22 e => ?_)
    · exact (ih _ _ e) _ _ _ _ _ _ _ _ (O21.pick [0]).nm rfl
    · exact (ih _ _ e) _ _ _ _ _ _ _ _ (O21.pick [0]).nm rfl
  · exact (ih _ _ e) _ _ _ _ _ _ _ _ (O.pick [0]).nm rfl
set_option maxRecDepth 100000 in
theorem slices_partitionOrdered_129.l2_k.step_j7 (go : (p : slices_partitionOrdered_129.l2_k.Pt) → Option (Int × Bool × (List Int))) (ih : ∀ p r, go p = some r → slices_partitionOrdered_129.l2_k.I p r) (a_0 : List Int) (x_1 : Int) (x_10 : Int) (x_11 : Int) (r : Int × Bool × (List Int)) (e : slices_partitionOrdered_129.l2_k.body go (.j7 a_0 x_1 x_10 x_11) = some r) : slices_partitionOrdered_129.l2_k.I (.j7 a_0 x_1 x_10 x_11) r := by
  unfold slices_partitionOrdered_129.l2_k.body at e
  intro W h0 m0 h m A_0 n_0 c_0 O ne_0
  subst ne_0
  refine f129.j7_in ?_
  unfold f129.j7T
  exact (ih _ _ e) _ _ _ _ _ _ _ _ (O.pick [0]).nm rfl
set_option maxRecDepth 100000 in
theorem slices_partitionOrdered_129.l2_k.step_j5 (go : (p : slices_partitionOrdered_129.l2_k.Pt) → Option (Int × Bool × (List Int))) (ih : ∀ p r, go p = some r → slices_partitionOrdered_129.l2_k.I p r) (a_0 : List Int) (x_1 : Int) (x_10 : Int) (x_11 : Int) (r : Int × Bool × (List Int)) (e : slices_partitionOrdered_129.l2_k.body go (.j5 a_0 x_1 x_10 x_11) = some r) : slices_partitionOrdered_129.l2_k.I (.j5 a_0 x_1 x_10 x_11) r := by
  unfold slices_partitionOrdered_129.l2_k.body at e
  intro W h0 m0 h m A_0 n_0 c_0 O ne_0
  subst ne_0
  refine f129.j5_in ?_
  unfold f129.j5T
  exact (ih _ _ e) _ _ _ _ _ _ _ _ (O.pick [0]).nm rfl
set_option maxRecDepth 100000 in
theorem slices_partitionOrdered_129.l2_k.step_l4 (go : (p : slices_partitionOrdered_129.l2_k.Pt) → Option (Int × Bool × (List Int))) (ih : ∀ p r, go p = some r → slices_partitionOrdered_129.l2_k.I p r) (a_0 : List Int) (x_1 : Int) (x_10 : Int) (x_11 : Int) (r : Int × Bool × (List Int)) (e : slices_partitionOrdered_129.l2_k.body go (.l4 a_0 x_1 x_10 x_11) = some r) : slices_partitionOrdered_129.l2_k.I (.l4 a_0 x_1 x_10 x_11) r := by
  unfold slices_partitionOrdered_129.l2_k.body at e
  intro W h0 m0 h m A_0 n_0 c_0 O ne_0
  subst ne_0
  refine f129.l4_in ?_
  unfold f129.l4T
  refine split_dec_e e (fun c23 e => ?_) (fun c23 e => ?_)
  · obtain ⟨y1, g2, e⟩ := bind_e e
    refine (O.os 0 rfl).addr rfl g2 fun a3 cs4 ha5 hc6 he7 => ?_
    obtain rfl : cs4 = [(Value.int .i64 y1)] := he7
    obtain ⟨y8, g9, e⟩ := bind_e e
    refine (O.os 0 rfl).addr rfl g9 fun a10 cs11 ha12 hc13 he14 => ?_
    obtain rfl : cs11 = [(Value.int .i64 y8)] := he14
    refine ⟨_, ld0 (Sub.refl _) hc6 rfl, _, rfl, ?_⟩
    refine ⟨_, ld0 (Sub.refl _) hc13 rfl, _, rfl, ?_⟩
    obtain ⟨y15, g16, e⟩ := bind_e e
    refine (cmp_Less_127.walk (Hold.start (W := No) O.s)  g16).mono ?_
    rintro _ h17 ⟨m18, Q19, rfl⟩
    have O21 := Hold.nm (O.retC Q19 vfs_nil)
    refine ⟨_, rfl, ?_⟩
    refine split_not ?_
    refine split_any_e e (fun c22 e => ?_) (fun c22 e => ?_)
    · exact (ih _ _ e) _ _ _ _ _ _ _ _ (O21.pick [0]).nm rfl
    · exact (ih _ _ e) _ _ _ _ _ _ _ _ (O21.pick [0]).nm rfl
  · exact (ih _ _ e) _ _ _ _ _ _ _ _ (O.pick [0]).nm rfl
set_option maxRecDepth 100000 in
theorem slices_partitionOrdered_129.l2_k.step_j8 (go : (p : slices_partitionOrdered_129.l2_k.Pt) → Option (Int × Bool × (List Int))) (ih : ∀ p r, go p = some r → slices_partitionOrdered_129.l2_k.I p r) (a_0 : List Int) (x_1 : Int) (x_10 : Int) (x_11 : Int) (r : Int × Bool × (List Int)) (e : slices_partitionOrdered_129.l2_k.body go (.j8 a_0 x_1 x_10 x_11) = some r) : slices_partitionOrdered_129.l2_k.I (.j8 a_0 x_1 x_10 x_11) r := by
  unfold slices_partitionOrdered_129.l2_k.body at e
  intro W h0 m0 h m A_0 n_0 c_0 O ne_0
  subst ne_0
  refine f129.j8_in ?_
  unfold f129.j8T
  exact (ih _ _ e) _ _ _ _ _ _ _ _ (O.pick [0]).nm rfl
set_option maxRecDepth 100000 in
theorem slices_partitionOrdered_129.l2_k.step_j6 (go : (p : slices_partitionOrdered_129.l2_k.Pt) → Option (Int × Bool × (List Int))) (ih : ∀ p r, go p = some r → slices_partitionOrdered_129.l2_k.I p r) (a_0 : List Int) (x_1 : Int) (x_10 : Int) (x_11 : Int) (r : Int × Bool × (List Int)) (e : slices_partitionOrdered_129.l2_k.body go (.j6 a_0 x_1 x_10 x_11) = some r) : slices_partitionOrdered_129.l2_k.I (.j6 a_0 x_1 x_10 x_11) r := by
  unfold slices_partitionOrdered_129.l2_k.body at e
  intro W h0 m0 h m A_0 n_0 c_0 O ne_0
  subst ne_0
  refine f129.j6_in ?_
  unfold f129.j6T
  refine split_dec_e e (fun c38 e => ?_) (fun c38 e => ?_)
  · exact slices_partitionOrdered_129.j4.walk (O.pick [0]).nm rfl e
  · obtain ⟨y1, g2, e⟩ := bind_e e
    refine (O.os 0 rfl).addr rfl g2 fun a3 cs4 ha5 hc6 he7 => ?_
    obtain rfl : cs4 = [(Value.int .i64 y1)] := he7
    obtain ⟨y8, g9, e⟩ := bind_e e
    refine (O.os 0 rfl).addr rfl g9 fun a10 cs11 ha12 hc13 he14 => ?_
    obtain rfl : cs11 = [(Value.int .i64 y8)] := he14
    refine ⟨_, ld0 (Sub.refl _) hc6 rfl, _, rfl, ?_⟩
    refine ⟨_, ld0 (Sub.refl _) hc13 rfl, _, rfl, ?_⟩
    obtain ⟨y15, g16, e⟩ := bind_e e
    refine (O.os 0 rfl).addr rfl g16 fun a17 cs18 ha19 hc20 he21 => ?_
    obtain rfl : cs18 = [(Value.int .i64 y15)] := he21
    obtain ⟨l24, g25, e⟩ := bind_e e
    replace g25 := Option.some.inj g25
    refine O.elst0 0 rfl g16 ha19 hc20 (by decide) (y' := y1) rfl trivial g25 fun h22 O23 => ?_
    obtain ⟨y26, g27, e⟩ := bind_e e
    refine (O23.os 0 rfl).addr (lset' g25) g27 fun a28 cs29 ha30 hc31 he32 => ?_
    obtain rfl : cs29 = [(Value.int .i64 y26)] := he32
    obtain ⟨l35, g36, e⟩ := bind_e e
    replace g36 := Option.some.inj g36
    refine O23.elst0 0 rfl g27 ha30 hc31 (by decide) (y' := y8) rfl trivial g36 fun h33 O34 => ?_
    have O37 := O34.nm
    exact (ih _ _ e) _ _ _ _ _ _ _ _ (O37.pick [0]).nm ((lset' g25).trans (lset' g36))
theorem slices_partitionOrdered_129.l2_k.all {p : slices_partitionOrdered_129.l2_k.Pt} {r : (Int × Bool × (List Int))} (e : slices_partitionOrdered_129.l2_k.go p = some r) : slices_partitionOrdered_129.l2_k.I p r := fixF_ind (β := fun _ => (Int × Bool × (List Int))) slices_partitionOrdered_129.l2_k.mono (I := slices_partitionOrdered_129.l2_k.I) (fun go ih p r e => match p with
  | .l2 a_0 x_1 x_10 x_11 => slices_partitionOrdered_129.l2_k.step_l2 go ih a_0 x_1 x_10 x_11 r e
  | .l3 a_0 x_1 x_10 x_11 => slices_partitionOrdered_129.l2_k.step_l3 go ih a_0 x_1 x_10 x_11 r e
  | .j7 a_0 x_1 x_10 x_11 => slices_partitionOrdered_129.l2_k.step_j7 go ih a_0 x_1 x_10 x_11 r e
  | .j5 a_0 x_1 x_10 x_11 => slices_partitionOrdered_129.l2_k.step_j5 go ih a_0 x_1 x_10 x_11 r e
  | .l4 a_0 x_1 x_10 x_11 => slices_partitionOrdered_129.l2_k.step_l4 go ih a_0 x_1 x_10 x_11 r e
  | .j8 a_0 x_1 x_10 x_11 => slices_partitionOrdered_129.l2_k.step_j8 go ih a_0 x_1 x_10 x_11 r e
  | .j6 a_0 x_1 x_10 x_11 => slices_partitionOrdered_129.l2_k.step_j6 go ih a_0 x_1 x_10 x_11 r e
  ) e
theorem slices_partitionOrdered_129.l2.walk {W : Nat → Prop} {h0 m0 h m : Heap} {A_0 : Option Addr} {n_0 c_0 : Nat} {a_0 : List Int} {x_1 : Int} {x_10 : Int} {x_11 : Int} (O : Hold W h0 m0 h m [rR (aE (tell_int .i64)) A_0 c_0 a_0]) (ne_0 : n_0 = List.length a_0) {r : Int × Bool × (List Int)} (e : slices_partitionOrdered_129.l2 a_0 x_1 x_10 x_11 = some r) : f129.l2 (slices_partitionOrdered_129.post W A_0 n_0 c_0 h0 m0 r) A_0 n_0 c_0 x_1 x_10 x_11 h := slices_partitionOrdered_129.l2_k.all (p := .l2 a_0 x_1 x_10 x_11) e W h0 m0 h m A_0 n_0 c_0 O ne_0
noncomputable def slices_partitionOrdered_129.j1 (a_0 : List Int) (x_1 : Int) (x_10 : Int) (x_11 : Int) : Option (Int × Bool × (List Int)) :=
  if x_10 > x_11 then (Option.bind (gi a_0 x_1) fun y1 => Option.bind (gi a_0 x_11) fun y8 => Option.bind (gi a_0 x_11) fun y15 => Option.bind (some (List.set a_0 (Int.toNat x_11) y1)) fun l24 => Option.bind (gi l24 x_1) fun y26 => Option.bind (some (List.set l24 (Int.toNat x_1) y8)) fun l35 => some (x_11, true, l35)) else (Option.bind (gi a_0 x_11) fun y38 => Option.bind (gi a_0 x_10) fun y45 => Option.bind (gi a_0 x_10) fun y52 => Option.bind (some (List.set a_0 (Int.toNat x_10) y38)) fun l61 => Option.bind (gi l61 x_11) fun y63 => Option.bind (some (List.set l61 (Int.toNat x_11) y45)) fun l72 => (slices_partitionOrdered_129.l2 l72 x_1 (IntKind.wrap .i64 (x_10 + (1 : Int))) (IntKind.wrap .i64 (x_11 - (1 : Int)))))
set_option maxHeartbeats 4000000 in
set_option maxRecDepth 100000 in
theorem slices_partitionOrdered_129.j1.walk {W : Nat → Prop} {h0 m0 h m : Heap} {A_0 : Option Addr} {n_0 c_0 : Nat} {a_0 : List Int} {x_1 : Int} {x_10 : Int} {x_11 : Int} (O : Hold W h0 m0 h m [rR (aE (tell_int .i64)) A_0 c_0 a_0]) (ne_0 : n_0 = List.length a_0) {r : Int × Bool × (List Int)} (e : slices_partitionOrdered_129.j1 a_0 x_1 x_10 x_11 = some r) : f129.j1 (slices_partitionOrdered_129.post W A_0 n_0 c_0 h0 m0 r) A_0 n_0 c_0 x_1 x_10 x_11 h := by
  unfold slices_partitionOrdered_129.j1 at e
  subst ne_0
  refine f129.j1_in ?_
  unfold f129.j1T
  refine split_dec_e e (fun c75 e => ?_) (fun c75 e => ?_)
  · obtain ⟨y1, g2, e⟩ := bind_e e
    refine (O.os 0 rfl).addr rfl g2 fun a3 cs4 ha5 hc6 he7 => ?_
    obtain rfl : cs4 = [(Value.int .i64 y1)] := he7
    obtain ⟨y8, g9, e⟩ := bind_e e
    refine (O.os 0 rfl).addr rfl g9 fun a10 cs11 ha12 hc13 he14 => ?_
    obtain rfl : cs11 = [(Value.int .i64 y8)] := he14
    refine ⟨_, ld0 (Sub.refl _) hc6 rfl, _, rfl, ?_⟩
    refine ⟨_, ld0 (Sub.refl _) hc13 rfl, _, rfl, ?_⟩
    obtain ⟨y15, g16, e⟩ := bind_e e
    refine (O.os 0 rfl).addr rfl g16 fun a17 cs18 ha19 hc20 he21 => ?_
    obtain rfl : cs18 = [(Value.int .i64 y15)] := he21
    obtain ⟨l24, g25, e⟩ := bind_e e
    replace g25 := Option.some.inj g25
    refine O.elst0 0 rfl g16 ha19 hc20 (by decide) (y' := y1) rfl trivial g25 fun h22 O23 => ?_
    obtain ⟨y26, g27, e⟩ := bind_e e
    refine (O23.os 0 rfl).addr (lset' g25) g27 fun a28 cs29 ha30 hc31 he32 => ?_
    obtain rfl : cs29 = [(Value.int .i64 y26)] := he32
    obtain ⟨l35, g36, e⟩ := bind_e e
    replace g36 := Option.some.inj g36
    refine O23.elst0 0 rfl g27 ha30 hc31 (by decide) (y' := y8) rfl trivial g36 fun h33 O34 => ?_
    have O37 := O34.nm
    cases e
    exact ⟨_, O37.pick [0], rfl, ((lset' g25).trans (lset' g36))⟩
  · obtain ⟨y38, g39, e⟩ := bind_e e
    refine (O.os 0 rfl).addr rfl g39 fun a40 cs41 ha42 hc43 he44 => ?_
    obtain rfl : cs41 = [(Value.int .i64 y38)] := he44
    obtain ⟨y45, g46, e⟩ := bind_e e
    refine (O.os 0 rfl).addr rfl g46 fun a47 cs48 ha49 hc50 he51 => ?_
    obtain rfl : cs48 = [(Value.int .i64 y45)] := he51
    refine ⟨_, ld0 (Sub.refl _) hc43 rfl, _, rfl, ?_⟩
    refine ⟨_, ld0 (Sub.refl _) hc50 rfl, _, rfl, ?_⟩
    obtain ⟨y52, g53, e⟩ := bind_e e
    refine (O.os 0 rfl).addr rfl g53 fun a54 cs55 ha56 hc57 he58 => ?_
    obtain rfl : cs55 = [(Value.int .i64 y52)] := he58
    obtain ⟨l61, g62, e⟩ := bind_e e
    replace g62 := Option.some.inj g62
    refine O.elst0 0 rfl g53 ha56 hc57 (by decide) (y' := y38) rfl trivial g62 fun h59 O60 => ?_
    obtain ⟨y63, g64, e⟩ := bind_e e
    refine (O60.os 0 rfl).addr (lset' g62) g64 fun a65 cs66 ha67 hc68 he69 => ?_
    obtain rfl : cs66 = [(Value.int .i64 y63)] := he69
    obtain ⟨l72, g73, e⟩ := bind_e e
    replace g73 := Option.some.inj g73
    refine O60.elst0 0 rfl g64 ha67 hc68 (by decide) (y' := y45) rfl trivial g73 fun h70 O71 => ?_
    have O74 := O71.nm
    exact slices_partitionOrdered_129.l2.walk (O74.pick [0]).nm ((lset' g62).trans (lset' g73)) e
inductive slices_partitionOrdered_129.l1_k.Pt where
  | l1 (a_0 : List Int) (x_1 : Int) (x_10 : Int) (x_11 : Int)
  | j3 (a_0 : List Int) (x_1 : Int) (x_10 : Int) (x_11 : Int)
noncomputable def slices_partitionOrdered_129.l1_k.body (go : (p : slices_partitionOrdered_129.l1_k.Pt) → Option (Int × Bool × (List Int))) : (p : slices_partitionOrdered_129.l1_k.Pt) → Option (Int × Bool × (List Int))
  | .l1 a_0 x_1 x_10 x_11 => if x_10 ≤ x_11 then (Option.bind (gi a_0 x_11) fun y1 => Option.bind (gi a_0 x_1) fun y8 => Option.bind (cmp_Less_127 y1 y8) fun y15 => if y15 = true then ((slices_partitionOrdered_129.j1 a_0 x_1 x_10 x_11)) else ((go (.j3 a_0 x_1 x_10 x_11)))) else ((slices_partitionOrdered_129.j1 a_0 x_1 x_10 x_11))
  | .j3 a_0 x_1 x_10 x_11 => (go (.l1 a_0 x_1 x_10 (IntKind.wrap .i64 (x_11 - (1 : Int)))))
attribute [local irreducible] cmp_Less_127 in
theorem slices_partitionOrdered_129.l1_k.mono : MonoF (β := fun _ => (Int × Bool × (List Int))) slices_partitionOrdered_129.l1_k.body := fun f g hfg p => match p with
  | .l1 a_0 x_1 x_10 x_11 => LeO.ite (LeO.bind (LeO.refl _) fun y1 => LeO.bind (LeO.refl _) fun y8 => LeO.bind (LeO.refl _) fun y15 => LeO.ite ((LeO.refl _)) ((hfg _))) ((LeO.refl _))
  | .j3 a_0 x_1 x_10 x_11 => (hfg _)
noncomputable def slices_partitionOrdered_129.l1_k.go (p : slices_partitionOrdered_129.l1_k.Pt) : Option (Int × Bool × (List Int)) := fixF (β := fun _ => (Int × Bool × (List Int))) slices_partitionOrdered_129.l1_k.body p
noncomputable def slices_partitionOrdered_129.l1 (a_0 : List Int) (x_1 : Int) (x_10 : Int) (x_11 : Int) : Option (Int × Bool × (List Int)) := slices_partitionOrdered_129.l1_k.go (.l1 a_0 x_1 x_10 x_11)
noncomputable def slices_partitionOrdered_129.j3 (a_0 : List Int) (x_1 : Int) (x_10 : Int) (x_11 : Int) : Option (Int × Bool × (List Int)) := slices_partitionOrdered_129.l1_k.go (.j3 a_0 x_1 x_10 x_11)
theorem slices_partitionOrdered_129.l1_eq (a_0 : List Int) (x_1 : Int) (x_10 : Int) (x_11 : Int) : slices_partitionOrdered_129.l1 a_0 x_1 x_10 x_11 = if x_10 ≤ x_11 then (Option.bind (gi a_0 x_11) fun y1 => Option.bind (gi a_0 x_1) fun y8 => Option.bind (cmp_Less_127 y1 y8) fun y15 => if y15 = true then ((slices_partitionOrdered_129.j1 a_0 x_1 x_10 x_11)) else ((slices_partitionOrdered_129.j3 a_0 x_1 x_10 x_11))) else ((slices_partitionOrdered_129.j1 a_0 x_1 x_10 x_11)) := fixF_eq slices_partitionOrdered_129.l1_k.mono _
theorem slices_partitionOrdered_129.j3_eq (a_0 : List Int) (x_1 : Int) (x_10 : Int) (x_11 : Int) : slices_partitionOrdered_129.j3 a_0 x_1 x_10 x_11 = (slices_partitionOrdered_129.l1 a_0 x_1 x_10 (IntKind.wrap .i64 (x_11 - (1 : Int)))) := fixF_eq slices_partitionOrdered_129.l1_k.mono _
def slices_partitionOrdered_129.l1_k.I : (p : slices_partitionOrdered_129.l1_k.Pt) → (Int × Bool × (List Int)) → Prop
  | .l1 a_0 x_1 x_10 x_11, r => ∀ (W : Nat → Prop) (h0 m0 h m : Heap) (A_0 : Option Addr) (n_0 c_0 : Nat) (O : Hold W h0 m0 h m [rR (aE (tell_int .i64)) A_0 c_0 a_0]) (ne_0 : n_0 = List.length a_0), f129.l1 (slices_partitionOrdered_129.post W A_0 n_0 c_0 h0 m0 r) A_0 n_0 c_0 x_1 x_10 x_11 h
  | .j3 a_0 x_1 x_10 x_11, r => ∀ (W : Nat → Prop) (h0 m0 h m : Heap) (A_0 : Option Addr) (n_0 c_0 : Nat) (O : Hold W h0 m0 h m [rR (aE (tell_int .i64)) A_0 c_0 a_0]) (ne_0 : n_0 = List.length a_0), f129.j3 (slices_partitionOrdered_129.post W A_0 n_0 c_0 h0 m0 r) A_0 n_0 c_0 x_1 x_10 x_11 h
set_option maxRecDepth 100000 in
theorem slices_partitionOrdered_129.l1_k.step_l1 (go : (p : slices_partitionOrdered_129.l1_k.Pt) → Option (Int × Bool × (List Int))) (ih : ∀ p r, go p = some r → slices_partitionOrdered_129.l1_k.I p r) (a_0 : List Int) (x_1 : Int) (x_10 : Int) (x_11 : Int) (r : Int × Bool × (List Int)) (e : slices_partitionOrdered_129.l1_k.body go (.l1 a_0 x_1 x_10 x_11) = some r) : slices_partitionOrdered_129.l1_k.I (.l1 a_0 x_1 x_10 x_11) r := by
  unfold slices_partitionOrdered_129.l1_k.body at e
  intro W h0 m0 h m A_0 n_0 c_0 O ne_0
  subst ne_0
  refine f129.l1_in ?_
  unfold f129.l1T
  refine split_dec_e e (fun c23 e => ?_) (fun c23 e => ?_)
  · obtain ⟨y1, g2, e⟩ := bind_e e
    refine (O.os 0 rfl).addr rfl g2 fun a3 cs4 ha5 hc6 he7 => ?_
    obtain rfl : cs4 = [(Value.int .i64 y1)] := he7
    obtain ⟨y8, g9, e⟩ := bind_e e
    refine (O.os 0 rfl).addr rfl g9 fun a10 cs11 ha12 hc13 he14 => ?_
    obtain rfl : cs11 = [(Value.int .i64 y8)] := he14
    refine ⟨_, ld0 (Sub.refl _) hc6 rfl, _, rfl, ?_⟩
    refine ⟨_, ld0 (Sub.refl _) hc13 rfl, _, rfl, ?_⟩
    obtain ⟨y15, g16, e⟩ := bind_e e
    refine (cmp_Less_127.walk (Hold.start (W := No) O.s)  g16).mono ?_
    rintro _ h17 ⟨m18, Q19, rfl⟩
    have O21 := Hold.nm (O.retC Q19 vfs_nil)
    refine ⟨_, rfl, ?_⟩
    refine split_not ?_
    refine split_any_e e (fun c22 e => ?_) (fun c22 e => ?_)
    · exact slices_partitionOrdered_129.j1.walk (O21.pick [0]).nm rfl e
    · exact (ih _ _ e) _ _ _ _ _ _ _ _ (O21.pick [0]).nm rfl
  · exact slices_partitionOrdered_129.j1.walk (O.pick [0]).nm rfl e
set_option maxRecDepth 100000 in
theorem slices_partitionOrdered_129.l1_k.step_j3 (go : (p : slices_partitionOrdered_129.l1_k.Pt) → Option (Int × Bool × (List Int))) (ih : ∀ p r, go p = some r → slices_partitionOrdered_129.l1_k.I p r) (a_0 : List Int) (x_1 : Int) (x_10 : Int) (x_11 : Int) (r : Int × Bool × (List Int)) (e : slices_partitionOrdered_129.l1_k.body go (.j3 a_0 x_1 x_10 x_11) = some r) : slices_partitionOrdered_129.l1_k.I (.j3 a_0 x_1 x_10 x_11) r := by
  unfold slices_partitionOrdered_129.l1_k.body at e
  intro W h0 m0 h m A_0 n_0 c_0 O ne_0
  subst ne_0
  refine f129.j3_in ?_
  unfold f129.j3T
  exact (ih _ _ e) _ _ _ _ _ _ _ _ (O.pick [0]).nm rfl
theorem slices_partitionOrdered_129.l1_k.all {p : slices_partitionOrdered_129.l1_k.Pt} {r : (Int × Bool × (List Int))} (e : slices_partitionOrdered_129.l1_k.go p = some r) : slices_partitionOrdered_129.l1_k.I p r := fixF_ind (β := fun _ => (Int × Bool × (List Int))) slices_partitionOrdered_129.l1_k.mono (I := slices_partitionOrdered_129.l1_k.I) (fun go ih p r e => match p with
  | .l1 a_0 x_1 x_10 x_11 => slices_partitionOrdered_129.l1_k.step_l1 go ih a_0 x_1 x_10 x_11 r e
  | .j3 a_0 x_1 x_10 x_11 => slices_partitionOrdered_129.l1_k.step_j3 go ih a_0 x_1 x_10 x_11 r e
  ) e
theorem slices_partitionOrdered_129.l1.walk {W : Nat → Prop} {h0 m0 h m : Heap} {A_0 : Option Addr} {n_0 c_0 : Nat} {a_0 : List Int} {x_1 : Int} {x_10 : Int} {x_11 : Int} (O : Hold W h0 m0 h m [rR (aE (tell_int .i64)) A_0 c_0 a_0]) (ne_0 : n_0 = List.length a_0) {r : Int × Bool × (List Int)} (e : slices_partitionOrdered_129.l1 a_0 x_1 x_10 x_11 = some r) : f129.l1 (slices_partitionOrdered_129.post W A_0 n_0 c_0 h0 m0 r) A_0 n_0 c_0 x_1 x_10 x_11 h := slices_partitionOrdered_129.l1_k.all (p := .l1 a_0 x_1 x_10 x_11) e W h0 m0 h m A_0 n_0 c_0 O ne_0
noncomputable def slices_partitionOrdered_129.j0 (a_0 : List Int) (x_1 : Int) (x_10 : Int) (x_11 : Int) : Option (Int × Bool × (List Int)) :=
  (slices_partitionOrdered_129.l1 a_0 x_1 x_10 x_11)
set_option maxRecDepth 100000 in
theorem slices_partitionOrdered_129.j0.walk {W : Nat → Prop} {h0 m0 h m : Heap} {A_0 : Option Addr} {n_0 c_0 : Nat} {a_0 : List Int} {x_1 : Int} {x_10 : Int} {x_11 : Int} (O : Hold W h0 m0 h m [rR (aE (tell_int .i64)) A_0 c_0 a_0]) (ne_0 : n_0 = List.length a_0) {r : Int × Bool × (List Int)} (e : slices_partitionOrdered_129.j0 a_0 x_1 x_10 x_11 = some r) : f129.j0 (slices_partitionOrdered_129.post W A_0 n_0 c_0 h0 m0 r) A_0 n_0 c_0 x_1 x_10 x_11 h := by
  unfold slices_partitionOrdered_129.j0 at e
  subst ne_0
  refine f129.j0_in ?_
  unfold f129.j0T
  exact slices_partitionOrdered_129.l1.walk (O.pick [0]).nm rfl e
inductive slices_partitionOrdered_129.l0_k.Pt where
  | l0 (a_0 : List Int) (x_1 : Int) (x_10 : Int) (x_11 : Int)
  | j2 (a_0 : List Int) (x_1 : Int) (x_10 : Int) (x_11 : Int)
noncomputable def slices_partitionOrdered_129.l0_k.body (go : (p : slices_partitionOrdered_129.l0_k.Pt) → Option (Int × Bool × (List Int))) : (p : slices_partitionOrdered_129.l0_k.Pt) → Option (Int × Bool × (List Int))
  | .l0 a_0 x_1 x_10 x_11 => if x_10 ≤ x_11 then (Option.bind (gi a_0 x_10) fun y1 => Option.bind (gi a_0 x_1) fun y8 => Option.bind (cmp_Less_127 y1 y8) fun y15 => if y15 = true then ((go (.j2 a_0 x_1 x_10 x_11))) else ((slices_partitionOrdered_129.j0 a_0 x_1 x_10 x_11))) else ((slices_partitionOrdered_129.j0 a_0 x_1 x_10 x_11))
  | .j2 a_0 x_1 x_10 x_11 => (go (.l0 a_0 x_1 (IntKind.wrap .i64 (x_10 + (1 : Int))) x_11))
attribute [local irreducible] cmp_Less_127 in
theorem slices_partitionOrdered_129.l0_k.mono : MonoF (β := fun _ => (Int × Bool × (List Int))) slices_partitionOrdered_129.l0_k.body := fun f g hfg p => match p with
  | .l0 a_0 x_1 x_10 x_11 => LeO.ite (LeO.bind (LeO.refl _) fun y1 => LeO.bind (LeO.refl _) fun y8 => LeO.bind (LeO.refl _) fun y15 => LeO.ite ((hfg _)) ((LeO.refl _))) ((LeO.refl _))
  | .j2 a_0 x_1 x_10 x_11 => (hfg _)
noncomputable def slices_partitionOrdered_129.l0_k.go (p : slices_partitionOrdered_129.l0_k.Pt) : Option (Int × Bool × (List Int)) := fixF (β := fun _ => (Int × Bool × (List Int))) slices_partitionOrdered_129.l0_k.body p
noncomputable def slices_partitionOrdered_129.l0 (a_0 : List Int) (x_1 : Int) (x_10 : Int) (x_11 : Int) : Option (Int × Bool × (List Int)) := slices_partitionOrdered_129.l0_k.go (.l0 a_0 x_1 x_10 x_11)
noncomputable def slices_partitionOrdered_129.j2 (a_0 : List Int) (x_1 : Int) (x_10 : Int) (x_11 : Int) : Option (Int × Bool × (List Int)) := slices_partitionOrdered_129.l0_k.go (.j2 a_0 x_1 x_10 x_11)
theorem slices_partitionOrdered_129.l0_eq (a_0 : List Int) (x_1 : Int) (x_10 : Int) (x_11 : Int) : slices_partitionOrdered_129.l0 a_0 x_1 x_10 x_11 = if x_10 ≤ x_11 then (Option.bind (gi a_0 x_10) fun y1 => Option.bind (gi a_0 x_1) fun y8 => Option.bind (cmp_Less_127 y1 y8) fun y15 => if y15 = true then ((slices_partitionOrdered_129.j2 a_0 x_1 x_10 x_11)) else ((slices_partitionOrdered_129.j0 a_0 x_1 x_10 x_11))) else ((slices_partitionOrdered_129.j0 a_0 x_1 x_10 x_11)) := fixF_eq slices_partitionOrdered_129.l0_k.mono _
theorem slices_partitionOrdered_129.j2_eq (a_0 : List Int) (x_1 : Int) (x_10 : Int) (x_11 : Int) : slices_partitionOrdered_129.j2 a_0 x_1 x_10 x_11 = (slices_partitionOrdered_129.l0 a_0 x_1 (IntKind.wrap .i64 (x_10 + (1 : Int))) x_11) := fixF_eq slices_partitionOrdered_129.l0_k.mono _
def slices_partitionOrdered_129.l0_k.I : (p : slices_partitionOrdered_129.l0_k.Pt) → (Int × Bool × (List Int)) → Prop
  | .l0 a_0 x_1 x_10 x_11, r => ∀ (W : Nat → Prop) (h0 m0 h m : Heap) (A_0 : Option Addr) (n_0 c_0 : Nat) (O : Hold W h0 m0 h m [rR (aE (tell_int .i64)) A_0 c_0 a_0]) (ne_0 : n_0 = List.length a_0), f129.l0 (slices_partitionOrdered_129.post W A_0 n_0 c_0 h0 m0 r) A_0 n_0 c_0 x_1 x_10 x_11 h
  | .j2 a_0 x_1 x_10 x_11, r => ∀ (W : Nat → Prop) (h0 m0 h m : Heap) (A_0 : Option Addr) (n_0 c_0 : Nat) (O : Hold W h0 m0 h m [rR (aE (tell_int .i64)) A_0 c_0 a_0]) (ne_0 : n_0 = List.length a_0), f129.j2 (slices_partitionOrdered_129.post W A_0 n_0 c_0 h0 m0 r) A_0 n_0 c_0 x_1 x_10 x_11 h
set_option maxRecDepth 100000 in
theorem slices_partitionOrdered_129.l0_k.step_l0 (go : (p : slices_partitionOrdered_129.l0_k.Pt) → Option (Int × Bool × (List Int))) (ih : ∀ p r, go p = some r → slices_partitionOrdered_129.l0_k.I p r) (a_0 : List Int) (x_1 : Int) (x_10 : Int) (x_11 : Int) (r : Int × Bool × (List Int)) (e : slices_partitionOrdered_129.l0_k.body go (.l0 a_0 x_1 x_10 x_11) = some r) : slices_partitionOrdered_129.l0_k.I (.l0 a_0 x_1 x_10 x_11) r := by
  unfold slices_partitionOrdered_129.l0_k.body at e
  intro W h0 m0 h m A_0 n_0 c_0 O ne_0
  subst ne_0
  refine f129.l0_in ?_
  unfold f129.l0T
  refine split_dec_e e (fun c23 e => ?_) (fun c23 e => ?_)
  · obtain ⟨y1, g2, e⟩ := bind_e e
    refine (O.os 0 rfl).addr rfl g2 fun a3 cs4 ha5 hc6 he7 => ?_
    obtain rfl : cs4 = [(Value.int .i64 y1)] := he7
    obtain ⟨y8, g9, e⟩ := bind_e e
    refine (O.os 0 rfl).addr rfl g9 fun a10 cs11 ha12 hc13 he14 => ?_
    obtain rfl : cs11 = [(Value.int .i64 y8)] := he14
    refine ⟨_, ld0 (Sub.refl _) hc6 rfl, _, rfl, ?_⟩
    refine ⟨_, ld0 (Sub.refl _) hc13 rfl, _, rfl, ?_⟩
    obtain ⟨y15, g16, e⟩ := bind_e e
    refine (cmp_Less_127.walk (Hold.start (W := No) O.s)  g16).mono ?_
    rintro _ h17 ⟨m18, Q19, rfl⟩
    have O21 := Hold.nm (O.retC Q19 vfs_nil)
    refine ⟨_, rfl, ?_⟩
    refine split_any_e e (fun c22 e => ?_) (fun c22 e => ?_)
    · exact (ih _ _ e) _ _ _ _ _ _ _ _ (O21.pick [0]).nm rfl
    · exact slices_partitionOrdered_129.j0.walk (O21.pick [0]).nm rfl e
  · exact slices_partitionOrdered_129.j0.walk (O.pick [0]).nm rfl e
set_option maxRecDepth 100000 in
theorem slices_partitionOrdered_129.l0_k.step_j2 (go : (p : slices_partitionOrdered_129.l0_k.Pt) → Option (Int × Bool × (List Int))) (ih : ∀ p r, go p = some r → slices_partitionOrdered_129.l0_k.I p r) (a_0 : List Int) (x_1 : Int) (x_10 : Int) (x_11 : Int) (r : Int × Bool × (List Int)) (e : slices_partitionOrdered_129.l0_k.body go (.j2 a_0 x_1 x_10 x_11) = some r) : slices_partitionOrdered_129.l0_k.I (.j2 a_0 x_1 x_10 x_11) r := by
  unfold slices_partitionOrdered_129.l0_k.body at e
  intro W h0 m0 h m A_0 n_0 c_0 O ne_0
  subst ne_0
  refine f129.j2_in ?_
  unfold f129.j2T
  exact (ih _ _ e) _ _ _ _ _ _ _ _ (O.pick [0]).nm rfl
theorem slices_partitionOrdered_129.l0_k.all {p : slices_partitionOrdered_129.l0_k.Pt} {r : (Int × Bool × (List Int))} (e : slices_partitionOrdered_129.l0_k.go p = some r) : slices_partitionOrdered_129.l0_k.I p r := fixF_ind (β := fun _ => (Int × Bool × (List Int))) slices_partitionOrdered_129.l0_k.mono (I := slices_partitionOrdered_129.l0_k.I) (fun go ih p r e => match p with
  | .l0 a_0 x_1 x_10 x_11 => slices_partitionOrdered_129.l0_k.step_l0 go ih a_0 x_1 x_10 x_11 r e
  | .j2 a_0 x_1 x_10 x_11 => slices_partitionOrdered_129.l0_k.step_j2 go ih a_0 x_1 x_10 x_11 r e
  ) e
theorem slices_partitionOrdered_129.l0.walk {W : Nat → Prop} {h0 m0 h m : Heap} {A_0 : Option Addr} {n_0 c_0 : Nat} {a_0 : List Int} {x_1 : Int} {x_10 : Int} {x_11 : Int} (O : Hold W h0 m0 h m [rR (aE (tell_int .i64)) A_0 c_0 a_0]) (ne_0 : n_0 = List.length a_0) {r : Int × Bool × (List Int)} (e : slices_partitionOrdered_129.l0 a_0 x_1 x_10 x_11 = some r) : f129.l0 (slices_partitionOrdered_129.post W A_0 n_0 c_0 h0 m0 r) A_0 n_0 c_0 x_1 x_10 x_11 h := slices_partitionOrdered_129.l0_k.all (p := .l0 a_0 x_1 x_10 x_11) e W h0 m0 h m A_0 n_0 c_0 O ne_0
noncomputable def slices_partitionOrdered_129 (a_0 : List Int) (x_1 : Int) (x_2 : Int) (x_3 : Int) : Option (Int × Bool × (List Int)) :=
  Option.bind (gi a_0 x_3) fun y1 => Option.bind (gi a_0 x_1) fun y8 => Option.bind (gi a_0 x_1) fun y15 => Option.bind (some (List.set a_0 (Int.toNat x_1) y1)) fun l24 => Option.bind (gi l24 x_3) fun y26 => Option.bind (some (List.set l24 (Int.toNat x_3) y8)) fun l35 => (slices_partitionOrdered_129.l0 l35 x_1 (IntKind.wrap .i64 (x_1 + (1 : Int))) (IntKind.wrap .i64 (x_2 - (1 : Int))))
set_option maxRecDepth 100000 in
theorem slices_partitionOrdered_129.walk {W : Nat → Prop} {h m : Heap} {A_0 : Option Addr} {n_0 c_0 : Nat} {a_0 : List Int} {x_1 : Int} {x_2 : Int} {x_3 : Int} (O : Hold W h m h m [rR (aE (tell_int .i64)) A_0 c_0 a_0]) (ne_0 : n_0 = List.length a_0) {r : Int × Bool × (List Int)} (e : slices_partitionOrdered_129 a_0 x_1 x_2 x_3 = some r) : Run Try.prog 129 #[Value.slice A_0 n_0 c_0, Value.int .i64 x_1, Value.int .i64 x_2, Value.int .i64 x_3] h (slices_partitionOrdered_129.post W A_0 n_0 c_0 h m r) := by
  unfold slices_partitionOrdered_129 at e
  subst ne_0
  refine f129.run ?_
  unfold f129.runT
  obtain ⟨y1, g2, e⟩ := bind_e e
  refine (O.os 0 rfl).addr rfl g2 fun a3 cs4 ha5 hc6 he7 => ?_
  obtain rfl : cs4 = [(Value.int .i64 y1)] := he7
  obtain ⟨y8, g9, e⟩ := bind_e e
  refine (O.os 0 rfl).addr rfl g9 fun a10 cs11 ha12 hc13 he14 => ?_
  obtain rfl : cs11 = [(Value.int .i64 y8)] := he14
  refine ⟨_, ld0 (Sub.refl _) hc6 rfl, _, rfl, ?_⟩
  refine ⟨_, ld0 (Sub.refl _) hc13 rfl, _, rfl, ?_⟩
  obtain ⟨y15, g16, e⟩ := bind_e e
  refine (O.os 0 rfl).addr rfl g16 fun a17 cs18 ha19 hc20 he21 => ?_
  obtain rfl : cs18 = [(Value.int .i64 y15)] := he21
  obtain ⟨l24, g25, e⟩ := bind_e e
  replace g25 := Option.some.inj g25
  refine O.elst0 0 rfl g16 ha19 hc20 (by decide) (y' := y1) rfl trivial g25 fun h22 O23 => ?_
  obtain ⟨y26, g27, e⟩ := bind_e e
  refine (O23.os 0 rfl).addr (lset' g25) g27 fun a28 cs29 ha30 hc31 he32 => ?_
  obtain rfl : cs29 = [(Value.int .i64 y26)] := he32
  obtain ⟨l35, g36, e⟩ := bind_e e
  replace g36 := Option.some.inj g36
  refine O23.elst0 0 rfl g27 ha30 hc31 (by decide) (y' := y8) rfl trivial g36 fun h33 O34 => ?_
  have O37 := O34.nm
  exact slices_partitionOrdered_129.l0.walk (O37.pick [0]).nm ((lset' g25).trans (lset' g36)) e
def slices_pdqsortOrdered_78.post (W : Nat → Prop) (Asl0 : Option Addr) (nsl0 csl0 : Nat) (h0 m0 : Heap) (r : (List Int)) (v : Value) (h : Heap) : Prop := ∃ m , Hold W h0 m0 h m [rR (aE (tell_int .i64)) Asl0 csl0 r] ∧ v = .tuple #[] ∧ nsl0 = List.length r
inductive slices_pdqsortOrdered_78_k.Pt where
  | f (a_0 : List Int) (x_1 : Int) (x_2 : Int) (x_3 : Int)
  | l0 (a_0 : List Int) (x_1 : Int) (x_2 : Int) (x_3 : Int) (b_8 : Bool) (b_9 : Bool)
  | j0 (a_0 : List Int) (x_1 : Int) (x_2 : Int) (x_3 : Int) (b_8 : Bool) (b_9 : Bool) (x_10 : Int)
  | j1 (a_0 : List Int) (x_1 : Int) (x_2 : Int) (x_3 : Int) (b_8 : Bool) (b_9 : Bool) (x_10 : Int) (x_11 : Int) (x_12 : Int)
  | j3 (a_0 : List Int) (x_1 : Int) (x_2 : Int) (x_3 : Int) (b_8 : Bool) (b_9 : Bool) (x_10 : Int) (x_11 : Int) (b_68 : Bool)
  | j2 (a_0 : List Int) (x_1 : Int) (x_2 : Int) (x_3 : Int) (b_8 : Bool) (b_9 : Bool) (x_10 : Int) (x_11 : Int)
  | j5 (a_0 : List Int) (x_1 : Int) (x_2 : Int) (x_3 : Int) (b_8 : Bool) (b_9 : Bool) (x_10 : Int) (x_11 : Int) (b_87 : Bool)
  | j4 (a_0 : List Int) (x_1 : Int) (x_2 : Int) (x_3 : Int) (x_10 : Int) (x_11 : Int)
noncomputable def slices_pdqsortOrdered_78_k.body (go : (p : slices_pdqsortOrdered_78_k.Pt) → Option ((List Int))) : (p : slices_pdqsortOrdered_78_k.Pt) → Option ((List Int))
  | .f a_0 x_1 x_2 x_3 => (go (.l0 a_0 x_1 x_2 x_3 true true))
  | .l0 a_0 x_1 x_2 x_3 b_8 b_9 => if (IntKind.wrap .i64 (x_2 - x_1)) ≤ (12 : Int) then (Option.bind (slices_insertionSortOrdered_121 a_0 x_1 x_2) fun y1 => some (y1)) else (if x_3 = (0 : Int) then (Option.bind (slices_heapSortOrdered_122 a_0 x_1 x_2) fun y13 => some (y13)) else (if b_8 = true then ((go (.j0 a_0 x_1 x_2 x_3 b_8 b_9 (IntKind.wrap .i64 (x_2 - x_1))))) else (Option.bind (slices_breakPatternsOrdered_123 a_0 x_1 x_2) fun y25 => (go (.j0 y25 x_1 x_2 (IntKind.wrap .i64 (x_3 - (1 : Int))) b_8 b_9 (IntKind.wrap .i64 (x_2 - x_1)))))))
  | .j0 a_0 x_1 x_2 x_3 b_8 b_9 x_10 => Option.bind (slices_choosePivotOrdered_124 a_0 x_1 x_2) fun y1 => if y1.2 = (2 : Int) then (Option.bind (slices_reverseRangeOrdered_125 a_0 x_1 x_2) fun y15 => (go (.j1 y15 x_1 x_2 x_3 b_8 b_9 x_10 (IntKind.wrap .i64 ((IntKind.wrap .i64 (x_2 - (1 : Int))) - (IntKind.wrap .i64 (y1.1 - x_1)))) (1 : Int)))) else ((go (.j1 a_0 x_1 x_2 x_3 b_8 b_9 x_10 y1.1 y1.2)))
  | .j1 a_0 x_1 x_2 x_3 b_8 b_9 x_10 x_11 x_12 => if b_8 = true then (if b_9 = true then ((go (.j3 a_0 x_1 x_2 x_3 b_8 b_9 x_10 x_11 (x_12 == (1 : Int))))) else ((go (.j3 a_0 x_1 x_2 x_3 b_8 b_9 x_10 x_11 false)))) else ((go (.j3 a_0 x_1 x_2 x_3 b_8 b_9 x_10 x_11 false)))
  | .j3 a_0 x_1 x_2 x_3 b_8 b_9 x_10 x_11 b_68 => if b_68 = true then (Option.bind (slices_partialInsertionSortOrdered_126 a_0 x_1 x_2) fun y1 => if y1.1 = true then (some (y1.2)) else ((go (.j2 y1.2 x_1 x_2 x_3 b_8 b_9 x_10 x_11)))) else ((go (.j2 a_0 x_1 x_2 x_3 b_8 b_9 x_10 x_11)))
  | .j2 a_0 x_1 x_2 x_3 b_8 b_9 x_10 x_11 => if x_1 > (0 : Int) then (Option.bind (gi a_0 (IntKind.wrap .i64 (x_1 - (1 : Int)))) fun y1 => Option.bind (gi a_0 x_11) fun y8 => Option.bind (cmp_Less_127 y1 y8) fun y15 => (go (.j5 a_0 x_1 x_2 x_3 b_8 b_9 x_10 x_11 (!y15)))) else ((go (.j5 a_0 x_1 x_2 x_3 b_8 b_9 x_10 x_11 false)))
  | .j5 a_0 x_1 x_2 x_3 b_8 b_9 x_10 x_11 b_87 => if b_87 = true then (Option.bind (slices_partitionEqualOrdered_128 a_0 x_1 x_2 x_11) fun y1 => (go (.l0 y1.2 y1.1 x_2 x_3 b_8 b_9))) else ((go (.j4 a_0 x_1 x_2 x_3 x_10 x_11)))
  | .j4 a_0 x_1 x_2 x_3 x_10 x_11 => Option.bind (slices_partitionOrdered_129 a_0 x_1 x_2 x_11) fun y1 => if (IntKind.wrap .i64 (y1.1 - x_1)) < (IntKind.wrap .i64 (x_2 - y1.1)) then (Option.bind ((go (.f y1.2.2 x_1 y1.1 x_3))) fun y13 => (go (.l0 y13 (IntKind.wrap .i64 (y1.1 + (1 : Int))) x_2 x_3 (decide ((IntKind.wrap .i64 (y1.1 - x_1)) ≥ (IntKind.wrap .i64 (Int.tdiv x_10 (8 : Int))))) y1.2.1))) else (Option.bind ((go (.f y1.2.2 (IntKind.wrap .i64 (y1.1 + (1 : Int))) x_2 x_3))) fun y25 => (go (.l0 y25 x_1 y1.1 x_3 (decide ((IntKind.wrap .i64 (x_2 - y1.1)) ≥ (IntKind.wrap .i64 (Int.tdiv x_10 (8 : Int))))) y1.2.1)))
attribute [local irreducible] cmp_Less_127 in
theorem slices_pdqsortOrdered_78_k.mono : MonoF (β := fun _ => ((List Int))) slices_pdqsortOrdered_78_k.body := fun f g hfg p => match p with
  | .f a_0 x_1 x_2 x_3 => (hfg _)
  | .l0 a_0 x_1 x_2 x_3 b_8 b_9 => LeO.ite (LeO.bind (LeO.refl _) fun y1 => LeO.refl _) (LeO.ite (LeO.bind (LeO.refl _) fun y13 => LeO.refl _) (LeO.ite ((hfg _)) (LeO.bind (LeO.refl _) fun y25 => (hfg _))))
  | .j0 a_0 x_1 x_2 x_3 b_8 b_9 x_10 => LeO.bind (LeO.refl _) fun y1 => LeO.ite (LeO.bind (LeO.refl _) fun y15 => (hfg _)) ((hfg _))
  | .j1 a_0 x_1 x_2 x_3 b_8 b_9 x_10 x_11 x_12 => LeO.ite (LeO.ite ((hfg _)) ((hfg _))) ((hfg _))
  | .j3 a_0 x_1 x_2 x_3 b_8 b_9 x_10 x_11 b_68 => LeO.ite (LeO.bind (LeO.refl _) fun y1 => LeO.ite (LeO.refl _) ((hfg _))) ((hfg _))
  | .j2 a_0 x_1 x_2 x_3 b_8 b_9 x_10 x_11 => LeO.ite (LeO.bind (LeO.refl _) fun y1 => LeO.bind (LeO.refl _) fun y8 => LeO.bind (LeO.refl _) fun y15 => (hfg _)) ((hfg _))
  | .j5 a_0 x_1 x_2 x_3 b_8 b_9 x_10 x_11 b_87 => LeO.ite (LeO.bind (LeO.refl _) fun y1 => (hfg _)) ((hfg _))
  | .j4 a_0 x_1 x_2 x_3 x_10 x_11 => LeO.bind (LeO.refl _) fun y1 => LeO.ite (LeO.bind ((hfg _)) fun y13 => (hfg _)) (LeO.bind ((hfg _)) fun y25 => (hfg _))
noncomputable def slices_pdqsortOrdered_78_k.go (p : slices_pdqsortOrdered_78_k.Pt) : Option ((List Int)) := fixF (β := fun _ => ((List Int))) slices_pdqsortOrdered_78_k.body p
noncomputable def slices_pdqsortOrdered_78 (a_0 : List Int) (x_1 : Int) (x_2 : Int) (x_3 : Int) : Option ((List Int)) := slices_pdqsortOrdered_78_k.go (.f a_0 x_1 x_2 x_3)
noncomputable def slices_pdqsortOrdered_78.l0 (a_0 : List Int) (x_1 : Int) (x_2 : Int) (x_3 : Int) (b_8 : Bool) (b_9 : Bool) : Option ((List Int)) := slices_pdqsortOrdered_78_k.go (.l0 a_0 x_1 x_2 x_3 b_8 b_9)
noncomputable def slices_pdqsortOrdered_78.j0 (a_0 : List Int) (x_1 : Int) (x_2 : Int) (x_3 : Int) (b_8 : Bool) (b_9 : Bool) (x_10 : Int) : Option ((List Int)) := slices_pdqsortOrdered_78_k.go (.j0 a_0 x_1 x_2 x_3 b_8 b_9 x_10)
noncomputable def slices_pdqsortOrdered_78.j1 (a_0 : List Int) (x_1 : Int) (x_2 : Int) (x_3 : Int) (b_8 : Bool) (b_9 : Bool) (x_10 : Int) (x_11 : Int) (x_12 : Int) : Option ((List Int)) := slices_pdqsortOrdered_78_k.go (.j1 a_0 x_1 x_2 x_3 b_8 b_9 x_10 x_11 x_12)
noncomputable def slices_pdqsortOrdered_78.j3 (a_0 : List Int) (x_1 : Int) (x_2 : Int) (x_3 : Int) (b_8 : Bool) (b_9 : Bool) (x_10 : Int) (x_11 : Int) (b_68 : Bool) : Option ((List Int)) := slices_pdqsortOrdered_78_k.go (.j3 a_0 x_1 x_2 x_3 b_8 b_9 x_10 x_11 b_68)
noncomputable def slices_pdqsortOrdered_78.j2 (a_0 : List Int) (x_1 : Int) (x_2 : Int) (x_3 : Int) (b_8 : Bool) (b_9 : Bool) (x_10 : Int) (x_11 : Int) : Option ((List Int)) := slices_pdqsortOrdered_78_k.go (.j2 a_0 x_1 x_2 x_3 b_8 b_9 x_10 x_11)
noncomputable def slices_pdqsortOrdered_78.j5 (a_0 : List Int) (x_1 : Int) (x_2 : Int) (x_3 : Int) (b_8 : Bool) (b_9 : Bool) (x_10 : Int) (x_11 : Int) (b_87 : Bool) : Option ((List Int)) := slices_pdqsortOrdered_78_k.go (.j5 a_0 x_1 x_2 x_3 b_8 b_9 x_10 x_11 b_87)
noncomputable def slices_pdqsortOrdered_78.j4 (a_0 : List Int) (x_1 : Int) (x_2 : Int) (x_3 : Int) (x_10 : Int) (x_11 : Int) : Option ((List Int)) := slices_pdqsortOrdered_78_k.go (.j4 a_0 x_1 x_2 x_3 x_10 x_11)
theorem slices_pdqsortOrdered_78_eq (a_0 : List Int) (x_1 : Int) (x_2 : Int) (x_3 : Int) : slices_pdqsortOrdered_78 a_0 x_1 x_2 x_3 = (slices_pdqsortOrdered_78.l0 a_0 x_1 x_2 x_3 true true) := fixF_eq slices_pdqsortOrdered_78_k.mono _
theorem slices_pdqsortOrdered_78.l0_eq (a_0 : List Int) (x_1 : Int) (x_2 : Int) (x_3 : Int) (b_8 : Bool) (b_9 : Bool) : slices_pdqsortOrdered_78.l0 a_0 x_1 x_2 x_3 b_8 b_9 = if (IntKind.wrap .i64 (x_2 - x_1)) ≤ (12 : Int) then (Option.bind (slices_insertionSortOrdered_121 a_0 x_1 x_2) fun y1 => some (y1)) else (if x_3 = (0 : Int) then (Option.bind (slices_heapSortOrdered_122 a_0 x_1 x_2) fun y13 => some (y13)) else (if b_8 = true then ((slices_pdqsortOrdered_78.j0 a_0 x_1 x_2 x_3 b_8 b_9 (IntKind.wrap .i64 (x_2 - x_1)))) else (Option.bind (slices_breakPatternsOrdered_123 a_0 x_1 x_2) fun y25 => (slices_pdqsortOrdered_78.j0 y25 x_1 x_2 (IntKind.wrap .i64 (x_3 - (1 : Int))) b_8 b_9 (IntKind.wrap .i64 (x_2 - x_1)))))) := fixF_eq slices_pdqsortOrdered_78_k.mono _
theorem slices_pdqsortOrdered_78.j0_eq (a_0 : List Int) (x_1 : Int) (x_2 : Int) (x_3 : Int) (b_8 : Bool) (b_9 : Bool) (x_10 : Int) : slices_pdqsortOrdered_78.j0 a_0 x_1 x_2 x_3 b_8 b_9 x_10 = Option.bind (slices_choosePivotOrdered_124 a_0 x_1 x_2) fun y1 => if y1.2 = (2 : Int) then (Option.bind (slices_reverseRangeOrdered_125 a_0 x_1 x_2) fun y15 => (slices_pdqsortOrdered_78.j1 y15 x_1 x_2 x_3 b_8 b_9 x_10 (IntKind.wrap .i64 ((IntKind.wrap .i64 (x_2 - (1 : Int))) - (IntKind.wrap .i64 (y1.1 - x_1)))) (1 : Int))) else ((slices_pdqsortOrdered_78.j1 a_0 x_1 x_2 x_3 b_8 b_9 x_10 y1.1 y1.2)) := fixF_eq slices_pdqsortOrdered_78_k.mono _
theorem slices_pdqsortOrdered_78.j1_eq (a_0 : List Int) (x_1 : Int) (x_2 : Int) (x_3 : Int) (b_8 : Bool) (b_9 : Bool) (x_10 : Int) (x_11 : Int) (x_12 : Int) : slices_pdqsortOrdered_78.j1 a_0 x_1 x_2 x_3 b_8 b_9 x_10 x_11 x_12 = if b_8 = true then (if b_9 = true then ((slices_pdqsortOrdered_78.j3 a_0 x_1 x_2 x_3 b_8 b_9 x_10 x_11 (x_12 == (1 : Int)))) else ((slices_pdqsortOrdered_78.j3 a_0 x_1 x_2 x_3 b_8 b_9 x_10 x_11 false))) else ((slices_pdqsortOrdered_78.j3 a_0 x_1 x_2 x_3 b_8 b_9 x_10 x_11 false)) := fixF_eq slices_pdqsortOrdered_78_k.mono _
theorem slices_pdqsortOrdered_78.j3_eq (a_0 : List Int) (x_1 : Int) (x_2 : Int) (x_3 : Int) (b_8 : Bool) (b_9 : Bool) (x_10 : Int) (x_11 : Int) (b_68 : Bool) : slices_pdqsortOrdered_78.j3 a_0 x_1 x_2 x_3 b_8 b_9 x_10 x_11 b_68 = if b_68 = true then (Option.bind (slices_partialInsertionSortOrdered_126 a_0 x_1 x_2) fun y1 => if y1.1 = true then (some (y1.2)) else ((slices_pdqsortOrdered_78.j2 y1.2 x_1 x_2 x_3 b_8 b_9 x_10 x_11))) else ((slices_pdqsortOrdered_78.j2 a_0 x_1 x_2 x_3 b_8 b_9 x_10 x_11)) := fixF_eq slices_pdqsortOrdered_78_k.mono _
theorem slices_pdqsortOrdered_78.j2_eq (a_0 : List Int) (x_1 : Int) (x_2 : Int) (x_3 : Int) (b_8 : Bool) (b_9 : Bool) (x_10 : Int) (x_11 : Int) : slices_pdqsortOrdered_78.j2 a_0 x_1 x_2 x_3 b_8 b_9 x_10 x_11 = if x_1 > (0 : Int) then (Option.bind (gi a_0 (IntKind.wrap .i64 (x_1 - (1 : Int)))) fun y1 => Option.bind (gi a_0 x_11) fun y8 => Option.bind (cmp_Less_127 y1 y8) fun y15 => (slices_pdqsortOrdered_78.j5 a_0 x_1 x_2 x_3 b_8 b_9 x_10 x_11 (!y15))) else ((slices_pdqsortOrdered_78.j5 a_0 x_1 x_2 x_3 b_8 b_9 x_10 x_11 false)) := fixF_eq slices_pdqsortOrdered_78_k.mono _
theorem slices_pdqsortOrdered_78.j5_eq (a_0 : List Int) (x_1 : Int) (x_2 : Int) (x_3 : Int) (b_8 : Bool) (b_9 : Bool) (x_10 : Int) (x_11 : Int) (b_87 : Bool) : slices_pdqsortOrdered_78.j5 a_0 x_1 x_2 x_3 b_8 b_9 x_10 x_11 b_87 = if b_87 = true then (Option.bind (slices_partitionEqualOrdered_128 a_0 x_1 x_2 x_11) fun y1 => (slices_pdqsortOrdered_78.l0 y1.2 y1.1 x_2 x_3 b_8 b_9)) else ((slices_pdqsortOrdered_78.j4 a_0 x_1 x_2 x_3 x_10 x_11)) := fixF_eq slices_pdqsortOrdered_78_k.mono _
theorem slices_pdqsortOrdered_78.j4_eq (a_0 : List Int) (x_1 : Int) (x_2 : Int) (x_3 : Int) (x_10 : Int) (x_11 : Int) : slices_pdqsortOrdered_78.j4 a_0 x_1 x_2 x_3 x_10 x_11 = Option.bind (slices_partitionOrdered_129 a_0 x_1 x_2 x_11) fun y1 => if (IntKind.wrap .i64 (y1.1 - x_1)) < (IntKind.wrap .i64 (x_2 - y1.1)) then (Option.bind ((slices_pdqsortOrdered_78 y1.2.2 x_1 y1.1 x_3)) fun y13 => (slices_pdqsortOrdered_78.l0 y13 (IntKind.wrap .i64 (y1.1 + (1 : Int))) x_2 x_3 (decide ((IntKind.wrap .i64 (y1.1 - x_1)) ≥ (IntKind.wrap .i64 (Int.tdiv x_10 (8 : Int))))) y1.2.1)) else (Option.bind ((slices_pdqsortOrdered_78 y1.2.2 (IntKind.wrap .i64 (y1.1 + (1 : Int))) x_2 x_3)) fun y25 => (slices_pdqsortOrdered_78.l0 y25 x_1 y1.1 x_3 (decide ((IntKind.wrap .i64 (x_2 - y1.1)) ≥ (IntKind.wrap .i64 (Int.tdiv x_10 (8 : Int))))) y1.2.1)) := fixF_eq slices_pdqsortOrdered_78_k.mono _
def slices_pdqsortOrdered_78_k.I : (p : slices_pdqsortOrdered_78_k.Pt) → ((List Int)) → Prop
  | .f a_0 x_1 x_2 x_3, r => ∀ (W : Nat → Prop) (h m : Heap) (A_0 : Option Addr) (n_0 c_0 : Nat) (O : Hold W h m h m [rR (aE (tell_int .i64)) A_0 c_0 a_0]) (ne_0 : n_0 = List.length a_0), Run Try.prog 78 #[Value.slice A_0 n_0 c_0, Value.int .i64 x_1, Value.int .i64 x_2, Value.int .i64 x_3] h (slices_pdqsortOrdered_78.post W A_0 n_0 c_0 h m r)
  | .l0 a_0 x_1 x_2 x_3 b_8 b_9, r => ∀ (W : Nat → Prop) (h0 m0 h m : Heap) (A_0 : Option Addr) (n_0 c_0 : Nat) (O : Hold W h0 m0 h m [rR (aE (tell_int .i64)) A_0 c_0 a_0]) (ne_0 : n_0 = List.length a_0), f78.l0 (slices_pdqsortOrdered_78.post W A_0 n_0 c_0 h0 m0 r) A_0 n_0 c_0 x_1 x_2 x_3 b_8 b_9 h
  | .j0 a_0 x_1 x_2 x_3 b_8 b_9 x_10, r => ∀ (W : Nat → Prop) (h0 m0 h m : Heap) (A_0 : Option Addr) (n_0 c_0 : Nat) (O : Hold W h0 m0 h m [rR (aE (tell_int .i64)) A_0 c_0 a_0]) (ne_0 : n_0 = List.length a_0), f78.j0 (slices_pdqsortOrdered_78.post W A_0 n_0 c_0 h0 m0 r) A_0 n_0 c_0 x_1 x_2 x_3 b_8 b_9 x_10 h
  | .j1 a_0 x_1 x_2 x_3 b_8 b_9 x_10 x_11 x_12, r => ∀ (W : Nat → Prop) (h0 m0 h m : Heap) (A_0 : Option Addr) (n_0 c_0 : Nat) (O : Hold W h0 m0 h m [rR (aE (tell_int .i64)) A_0 c_0 a_0]) (ne_0 : n_0 = List.length a_0), f78.j1 (slices_pdqsortOrdered_78.post W A_0 n_0 c_0 h0 m0 r) A_0 n_0 c_0 x_1 x_2 x_3 b_8 b_9 x_10 x_11 x_12 h
  | .j3 a_0 x_1 x_2 x_3 b_8 b_9 x_10 x_11 b_68, r => ∀ (W : Nat → Prop) (h0 m0 h m : Heap) (A_0 : Option Addr) (n_0 c_0 : Nat) (O : Hold W h0 m0 h m [rR (aE (tell_int .i64)) A_0 c_0 a_0]) (ne_0 : n_0 = List.length a_0), f78.j3 (slices_pdqsortOrdered_78.post W A_0 n_0 c_0 h0 m0 r) A_0 n_0 c_0 x_1 x_2 x_3 b_8 b_9 x_10 x_11 b_68 h
  | .j2 a_0 x_1 x_2 x_3 b_8 b_9 x_10 x_11, r => ∀ (W : Nat → Prop) (h0 m0 h m : Heap) (A_0 : Option Addr) (n_0 c_0 : Nat) (O : Hold W h0 m0 h m [rR (aE (tell_int .i64)) A_0 c_0 a_0]) (ne_0 : n_0 = List.length a_0), f78.j2 (slices_pdqsortOrdered_78.post W A_0 n_0 c_0 h0 m0 r) A_0 n_0 c_0 x_1 x_2 x_3 b_8 b_9 x_10 x_11 h
  | .j5 a_0 x_1 x_2 x_3 b_8 b_9 x_10 x_11 b_87, r => ∀ (W : Nat → Prop) (h0 m0 h m : Heap) (A_0 : Option Addr) (n_0 c_0 : Nat) (O : Hold W h0 m0 h m [rR (aE (tell_int .i64)) A_0 c_0 a_0]) (ne_0 : n_0 = List.length a_0), f78.j5 (slices_pdqsortOrdered_78.post W A_0 n_0 c_0 h0 m0 r) A_0 n_0 c_0 x_1 x_2 x_3 b_8 b_9 x_10 x_11 b_87 h
  | .j4 a_0 x_1 x_2 x_3 x_10 x_11, r => ∀ (W : Nat → Prop) (h0 m0 h m : Heap) (A_0 : Option Addr) (n_0 c_0 : Nat) (O : Hold W h0 m0 h m [rR (aE (tell_int .i64)) A_0 c_0 a_0]) (ne_0 : n_0 = List.length a_0), f78.j4 (slices_pdqsortOrdered_78.post W A_0 n_0 c_0 h0 m0 r) A_0 n_0 c_0 x_1 x_2 x_3 x_10 x_11 h
set_option maxRecDepth 100000 in
theorem slices_pdqsortOrdered_78_k.step_f (go : (p : slices_pdqsortOrdered_78_k.Pt) → Option ((List Int))) (ih : ∀ p r, go p = some r → slices_pdqsortOrdered_78_k.I p r) (a_0 : List Int) (x_1 : Int) (x_2 : Int) (x_3 : Int) (r : (List Int)) (e : slices_pdqsortOrdered_78_k.body go (.f a_0 x_1 x_2 x_3) = some r) : slices_pdqsortOrdered_78_k.I (.f a_0 x_1 x_2 x_3) r := by
  unfold slices_pdqsortOrdered_78_k.body at e
  intro W h m A_0 n_0 c_0 O ne_0
  subst ne_0
  refine f78.run ?_
  unfold f78.runT
  exact (ih _ _ e) _ _ _ _ _ _ _ _ (O.pick [0]).nm rfl
set_option maxRecDepth 100000 in
theorem slices_pdqsortOrdered_78_k.step_l0 (go : (p : slices_pdqsortOrdered_78_k.Pt) → Option ((List Int))) (ih : ∀ p r, go p = some r → slices_pdqsortOrdered_78_k.I p r) (a_0 : List Int) (x_1 : Int) (x_2 : Int) (x_3 : Int) (b_8 : Bool) (b_9 : Bool) (r : (List Int)) (e : slices_pdqsortOrdered_78_k.body go (.l0 a_0 x_1 x_2 x_3 b_8 b_9) = some r) : slices_pdqsortOrdered_78_k.I (.l0 a_0 x_1 x_2 x_3 b_8 b_9) r := by
  unfold slices_pdqsortOrdered_78_k.body at e
  intro W h0 m0 h m A_0 n_0 c_0 O ne_0
  subst ne_0
  refine f78.l0_in ?_
  unfold f78.l0T
  refine split_dec_e e (fun c39 e => ?_) (fun c39 e => ?_)
  · obtain ⟨y1, g2, e⟩ := bind_e e
    obtain ⟨W7, P8, B9, C10⟩ := O.callC [0]
    refine (slices_insertionSortOrdered_121.walk P8 rfl g2).mono ?_
    rintro _ h3 ⟨m4, Q5, rfl, hl11⟩
    have O12 := Hold.nm (C10 Q5 (vfs_cons (rR_vf (aE_vf (fun _ _ _ _ h => h))) vfs_nil))
    refine ⟨rfl, ?_⟩
    cases e
    exact ⟨_, O12.pick [1], rfl, hl11⟩
  · refine split_eq_e e (fun c38 e => ?_) (fun c38 e => ?_)
    · obtain ⟨y13, g14, e⟩ := bind_e e
      obtain ⟨W19, P20, B21, C22⟩ := O.callC [0]
      refine (slices_heapSortOrdered_122.walk P20 rfl g14).mono ?_
      rintro _ h15 ⟨m16, Q17, rfl, hl23⟩
      have O24 := Hold.nm (C22 Q17 (vfs_cons (rR_vf (aE_vf (fun _ _ _ _ h => h))) vfs_nil))
      refine ⟨rfl, ?_⟩
      cases e
      exact ⟨_, O24.pick [1], rfl, hl23⟩
    · refine split_not ?_
      refine split_any_e e (fun c37 e => ?_) (fun c37 e => ?_)
      · exact (ih _ _ e) _ _ _ _ _ _ _ _ (O.pick [0]).nm rfl
      · obtain ⟨y25, g26, e⟩ := bind_e e
        obtain ⟨W31, P32, B33, C34⟩ := O.callC [0]
        refine (slices_breakPatternsOrdered_123.walk P32 rfl g26).mono ?_
        rintro _ h27 ⟨m28, Q29, rfl, hl35⟩
        have O36 := Hold.nm (C34 Q29 (vfs_cons (rR_vf (aE_vf (fun _ _ _ _ h => h))) vfs_nil))
        refine ⟨rfl, ?_⟩
        exact (ih _ _ e) _ _ _ _ _ _ _ _ (O36.pick [1]).nm hl35
set_option maxRecDepth 100000 in
theorem slices_pdqsortOrdered_78_k.step_j0 (go : (p : slices_pdqsortOrdered_78_k.Pt) → Option ((List Int))) (ih : ∀ p r, go p = some r → slices_pdqsortOrdered_78_k.I p r) (a_0 : List Int) (x_1 : Int) (x_2 : Int) (x_3 : Int) (b_8 : Bool) (b_9 : Bool) (x_10 : Int) (r : (List Int)) (e : slices_pdqsortOrdered_78_k.body go (.j0 a_0 x_1 x_2 x_3 b_8 b_9 x_10) = some r) : slices_pdqsortOrdered_78_k.I (.j0 a_0 x_1 x_2 x_3 b_8 b_9 x_10) r := by
  unfold slices_pdqsortOrdered_78_k.body at e
  intro W h0 m0 h m A_0 n_0 c_0 O ne_0
  subst ne_0
  refine f78.j0_in ?_
  unfold f78.j0T
  obtain ⟨y1, g2, e⟩ := bind_e e
  obtain ⟨m7, u8, s13, ⟨⟨r11, k12⟩, _⟩, B9, C10⟩ := O.lend0 [0]
  replace r11 : Rd 1 (eInt .i64) m7 A_0 a_0 := r11
  replace k12 : List.length a_0 ≤ c_0 := k12
  refine (slices_choosePivotOrdered_124.walk (Hold.start (W := No) s13) rfl k12 r11 g2).mono ?_
  rintro _ h3 ⟨m4, Q5, rfl⟩
  have O14 := Hold.nm (C10 Q5 vfs_nil)
  refine ⟨_, _, rfl, ?_⟩
  refine split_eq_e e (fun c27 e => ?_) (fun c27 e => ?_)
  · obtain ⟨y15, g16, e⟩ := bind_e e
    obtain ⟨W21, P22, B23, C24⟩ := O14.callC [0]
    refine (slices_reverseRangeOrdered_125.walk P22 rfl g16).mono ?_
    rintro _ h17 ⟨m18, Q19, rfl, hl25⟩
    have O26 := Hold.nm (C24 Q19 (vfs_cons (rR_vf (aE_vf (fun _ _ _ _ h => h))) vfs_nil))
    refine ⟨rfl, ?_⟩
    exact (ih _ _ e) _ _ _ _ _ _ _ _ (O26.pick [1]).nm hl25
  · exact (ih _ _ e) _ _ _ _ _ _ _ _ (O14.pick [0]).nm rfl
set_option maxRecDepth 100000 in
theorem slices_pdqsortOrdered_78_k.step_j1 (go : (p : slices_pdqsortOrdered_78_k.Pt) → Option ((List Int))) (ih : ∀ p r, go p = some r → slices_pdqsortOrdered_78_k.I p r) (a_0 : List Int) (x_1 : Int) (x_2 : Int) (x_3 : Int) (b_8 : Bool) (b_9 : Bool) (x_10 : Int) (x_11 : Int) (x_12 : Int) (r : (List Int)) (e : slices_pdqsortOrdered_78_k.body go (.j1 a_0 x_1 x_2 x_3 b_8 b_9 x_10 x_11 x_12) = some r) : slices_pdqsortOrdered_78_k.I (.j1 a_0 x_1 x_2 x_3 b_8 b_9 x_10 x_11 x_12) r := by
  unfold slices_pdqsortOrdered_78_k.body at e
  intro W h0 m0 h m A_0 n_0 c_0 O ne_0
  subst ne_0
  refine f78.j1_in ?_
  unfold f78.j1T
  refine split_any_e e (fun c2 e => ?_) (fun c2 e => ?_)
  · refine split_any_e e (fun c1 e => ?_) (fun c1 e => ?_)
    · exact (ih _ _ e) _ _ _ _ _ _ _ _ (O.pick [0]).nm rfl
    · exact (ih _ _ e) _ _ _ _ _ _ _ _ (O.pick [0]).nm rfl
  · exact (ih _ _ e) _ _ _ _ _ _ _ _ (O.pick [0]).nm rfl
set_option maxRecDepth 100000 in
theorem slices_pdqsortOrdered_78_k.step_j3 (go : (p : slices_pdqsortOrdered_78_k.Pt) → Option ((List Int))) (ih : ∀ p r, go p = some r → slices_pdqsortOrdered_78_k.I p r) (a_0 : List Int) (x_1 : Int) (x_2 : Int) (x_3 : Int) (b_8 : Bool) (b_9 : Bool) (x_10 : Int) (x_11 : Int) (b_68 : Bool) (r : (List Int)) (e : slices_pdqsortOrdered_78_k.body go (.j3 a_0 x_1 x_2 x_3 b_8 b_9 x_10 x_11 b_68) = some r) : slices_pdqsortOrdered_78_k.I (.j3 a_0 x_1 x_2 x_3 b_8 b_9 x_10 x_11 b_68) r := by
  unfold slices_pdqsortOrdered_78_k.body at e
  intro W h0 m0 h m A_0 n_0 c_0 O ne_0
  subst ne_0
  refine f78.j3_in ?_
  unfold f78.j3T
  refine split_any_e e (fun c14 e => ?_) (fun c14 e => ?_)
  · obtain ⟨y1, g2, e⟩ := bind_e e
    obtain ⟨W7, P8, B9, C10⟩ := O.callC [0]
    refine (slices_partialInsertionSortOrdered_126.walk P8 rfl g2).mono ?_
    rintro _ h3 ⟨m4, Q5, rfl, hl11⟩
    have O12 := Hold.nm (C10 Q5 (vfs_cons (rR_vf (aE_vf (fun _ _ _ _ h => h))) vfs_nil))
    refine ⟨_, rfl, ?_⟩
    refine split_any_e e (fun c13 e => ?_) (fun c13 e => ?_)
    · cases e
      exact ⟨_, O12.pick [1], rfl, hl11⟩
    · exact (ih _ _ e) _ _ _ _ _ _ _ _ (O12.pick [1]).nm hl11
  · exact (ih _ _ e) _ _ _ _ _ _ _ _ (O.pick [0]).nm rfl
set_option maxRecDepth 100000 in
theorem slices_pdqsortOrdered_78_k.step_j2 (go : (p : slices_pdqsortOrdered_78_k.Pt) → Option ((List Int))) (ih : ∀ p r, go p = some r → slices_pdqsortOrdered_78_k.I p r) (a_0 : List Int) (x_1 : Int) (x_2 : Int) (x_3 : Int) (b_8 : Bool) (b_9 : Bool) (x_10 : Int) (x_11 : Int) (r : (List Int)) (e : slices_pdqsortOrdered_78_k.body go (.j2 a_0 x_1 x_2 x_3 b_8 b_9 x_10 x_11) = some r) : slices_pdqsortOrdered_78_k.I (.j2 a_0 x_1 x_2 x_3 b_8 b_9 x_10 x_11) r := by
  unfold slices_pdqsortOrdered_78_k.body at e
  intro W h0 m0 h m A_0 n_0 c_0 O ne_0
  subst ne_0
  refine f78.j2_in ?_
  unfold f78.j2T
  refine split_dec_e e (fun c22 e => ?_) (fun c22 e => ?_)
  · obtain ⟨y1, g2, e⟩ := bind_e e
    refine (O.os 0 rfl).addr rfl g2 fun a3 cs4 ha5 hc6 he7 => ?_
    obtain rfl : cs4 = [(Value.int .i64 y1)] := he7
    obtain ⟨y8, g9, e⟩ := bind_e e
    refine (O.os 0 rfl).addr rfl g9 fun a10 cs11 ha12 hc13 he14 => ?_
    obtain rfl : cs11 = [(Value.int .i64 y8)] := he14
    refine ⟨_, ld0 (Sub.refl _) hc6 rfl, _, rfl, ?_⟩
    refine ⟨_, ld0 (Sub.refl _) hc13 rfl, _, rfl, ?_⟩
    obtain ⟨y15, g16, e⟩ := bind_e e
    refine (cmp_Less_127.walk (Hold.start (W := No) O.s)  g16).mono ?_
    rintro _ h17 ⟨m18, Q19, rfl⟩
    have O21 := Hold.nm (O.retC Q19 vfs_nil)
    refine ⟨_, rfl, ?_⟩
    exact (ih _ _ e) _ _ _ _ _ _ _ _ (O21.pick [0]).nm rfl
  · exact (ih _ _ e) _ _ _ _ _ _ _ _ (O.pick [0]).nm rfl
set_option maxRecDepth 100000 in
theorem slices_pdqsortOrdered_78_k.step_j5 (go : (p : slices_pdqsortOrdered_78_k.Pt) → Option ((List Int))) (ih : ∀ p r, go p = some r → slices_pdqsortOrdered_78_k.I p r) (a_0 : List Int) (x_1 : Int) (x_2 : Int) (x_3 : Int) (b_8 : Bool) (b_9 : Bool) (x_10 : Int) (x_11 : Int) (b_87 : Bool) (r : (List Int)) (e : slices_pdqsortOrdered_78_k.body go (.j5 a_0 x_1 x_2 x_3 b_8 b_9 x_10 x_11 b_87) = some r) : slices_pdqsortOrdered_78_k.I (.j5 a_0 x_1 x_2 x_3 b_8 b_9 x_10 x_11 b_87) r := by
  unfold slices_pdqsortOrdered_78_k.body at e
  intro W h0 m0 h m A_0 n_0 c_0 O ne_0
  subst ne_0
  refine f78.j5_in ?_
  unfold f78.j5T
  refine split_any_e e (fun c13 e => ?_) (fun c13 e => ?_)
  · obtain ⟨y1, g2, e⟩ := bind_e e
    obtain ⟨W7, P8, B9, C10⟩ := O.callC [0]
    refine (slices_partitionEqualOrdered_128.walk P8 rfl g2).mono ?_
    rintro _ h3 ⟨m4, Q5, rfl, hl11⟩
    have O12 := Hold.nm (C10 Q5 (vfs_cons (rR_vf (aE_vf (fun _ _ _ _ h => h))) vfs_nil))
    refine ⟨_, rfl, ?_⟩
    exact (ih _ _ e) _ _ _ _ _ _ _ _ (O12.pick [1]).nm hl11
  · exact (ih _ _ e) _ _ _ _ _ _ _ _ (O.pick [0]).nm rfl
set_option maxRecDepth 100000 in
theorem slices_pdqsortOrdered_78_k.step_j4 (go : (p : slices_pdqsortOrdered_78_k.Pt) → Option ((List Int))) (ih : ∀ p r, go p = some r → slices_pdqsortOrdered_78_k.I p r) (a_0 : List Int) (x_1 : Int) (x_2 : Int) (x_3 : Int) (x_10 : Int) (x_11 : Int) (r : (List Int)) (e : slices_pdqsortOrdered_78_k.body go (.j4 a_0 x_1 x_2 x_3 x_10 x_11) = some r) : slices_pdqsortOrdered_78_k.I (.j4 a_0 x_1 x_2 x_3 x_10 x_11) r := by
  unfold slices_pdqsortOrdered_78_k.body at e
  intro W h0 m0 h m A_0 n_0 c_0 O ne_0
  subst ne_0
  refine f78.j4_in ?_
  unfold f78.j4T
  obtain ⟨y1, g2, e⟩ := bind_e e
  obtain ⟨W7, P8, B9, C10⟩ := O.callC [0]
  refine (slices_partitionOrdered_129.walk P8 rfl g2).mono ?_
  rintro _ h3 ⟨m4, Q5, rfl, hl11⟩
  have O12 := Hold.nm (C10 Q5 (vfs_cons (rR_vf (aE_vf (fun _ _ _ _ h => h))) vfs_nil))
  refine ⟨_, _, rfl, ?_⟩
  refine ⟨by decide, ?_⟩
  refine split_dec_e e (fun c37 e => ?_) (fun c37 e => ?_)
  · obtain ⟨y13, g14, e⟩ := bind_e e
    obtain ⟨W19, P20, B21, C22⟩ := O12.callC [1]
    refine ((ih _ _ g14) _ _ _ _ _ _ P20 hl11).mono ?_
    rintro _ h15 ⟨m16, Q17, rfl, hl23⟩
    have O24 := Hold.nm (C22 Q17 (vfs_cons (rR_vf (aE_vf (fun _ _ _ _ h => h))) vfs_nil))
    refine ⟨rfl, ?_⟩
    exact (ih _ _ e) _ _ _ _ _ _ _ _ (O24.pick [2]).nm hl23
  · obtain ⟨y25, g26, e⟩ := bind_e e
    obtain ⟨W31, P32, B33, C34⟩ := O12.callC [1]
    refine ((ih _ _ g26) _ _ _ _ _ _ P32 hl11).mono ?_
    rintro _ h27 ⟨m28, Q29, rfl, hl35⟩
    have O36 := Hold.nm (C34 Q29 (vfs_cons (rR_vf (aE_vf (fun _ _ _ _ h => h))) vfs_nil))
    refine ⟨rfl, ?_⟩
    exact (ih _ _ e) _ _ _ _ _ _ _ _ (O36.pick [2]).nm hl35
theorem slices_pdqsortOrdered_78_k.all {p : slices_pdqsortOrdered_78_k.Pt} {r : ((List Int))} (e : slices_pdqsortOrdered_78_k.go p = some r) : slices_pdqsortOrdered_78_k.I p r := fixF_ind (β := fun _ => ((List Int))) slices_pdqsortOrdered_78_k.mono (I := slices_pdqsortOrdered_78_k.I) (fun go ih p r e => match p with
  | .f a_0 x_1 x_2 x_3 => slices_pdqsortOrdered_78_k.step_f go ih a_0 x_1 x_2 x_3 r e
  | .l0 a_0 x_1 x_2 x_3 b_8 b_9 => slices_pdqsortOrdered_78_k.step_l0 go ih a_0 x_1 x_2 x_3 b_8 b_9 r e
  | .j0 a_0 x_1 x_2 x_3 b_8 b_9 x_10 => slices_pdqsortOrdered_78_k.step_j0 go ih a_0 x_1 x_2 x_3 b_8 b_9 x_10 r e
  | .j1 a_0 x_1 x_2 x_3 b_8 b_9 x_10 x_11 x_12 => slices_pdqsortOrdered_78_k.step_j1 go ih a_0 x_1 x_2 x_3 b_8 b_9 x_10 x_11 x_12 r e
  | .j3 a_0 x_1 x_2 x_3 b_8 b_9 x_10 x_11 b_68 => slices_pdqsortOrdered_78_k.step_j3 go ih a_0 x_1 x_2 x_3 b_8 b_9 x_10 x_11 b_68 r e
  | .j2 a_0 x_1 x_2 x_3 b_8 b_9 x_10 x_11 => slices_pdqsortOrdered_78_k.step_j2 go ih a_0 x_1 x_2 x_3 b_8 b_9 x_10 x_11 r e
  | .j5 a_0 x_1 x_2 x_3 b_8 b_9 x_10 x_11 b_87 => slices_pdqsortOrdered_78_k.step_j5 go ih a_0 x_1 x_2 x_3 b_8 b_9 x_10 x_11 b_87 r e
  | .j4 a_0 x_1 x_2 x_3 x_10 x_11 => slices_pdqsortOrdered_78_k.step_j4 go ih a_0 x_1 x_2 x_3 x_10 x_11 r e
  ) e
theorem slices_pdqsortOrdered_78.walk {W : Nat → Prop} {h m : Heap} {A_0 : Option Addr} {n_0 c_0 : Nat} {a_0 : List Int} {x_1 : Int} {x_2 : Int} {x_3 : Int} (O : Hold W h m h m [rR (aE (tell_int .i64)) A_0 c_0 a_0]) (ne_0 : n_0 = List.length a_0) {r : (List Int)} (e : slices_pdqsortOrdered_78 a_0 x_1 x_2 x_3 = some r) : Run Try.prog 78 #[Value.slice A_0 n_0 c_0, Value.int .i64 x_1, Value.int .i64 x_2, Value.int .i64 x_3] h (slices_pdqsortOrdered_78.post W A_0 n_0 c_0 h m r) := slices_pdqsortOrdered_78_k.all (p := .f a_0 x_1 x_2 x_3) e W h m A_0 n_0 c_0 O ne_0
def slices_Sort_14.post (W : Nat → Prop) (Asl0 : Option Addr) (nsl0 csl0 : Nat) (h0 m0 : Heap) (r : (List Int)) (v : Value) (h : Heap) : Prop := ∃ m , Hold W h0 m0 h m [rR (aE (tell_int .i64)) Asl0 csl0 r] ∧ v = .tuple #[] ∧ nsl0 = List.length r
noncomputable def slices_Sort_14 (a_0 : List Int) : Option ((List Int)) :=
  Option.bind (math_bits_Len (IntKind.wrap .u64 (((List.length a_0) : Nat) : Int))) fun y1 => Option.bind (slices_pdqsortOrdered_78 a_0 (0 : Int) (((List.length a_0) : Nat) : Int) y1) fun y8 => some (y8)
set_option maxRecDepth 100000 in
theorem slices_Sort_14.walk {W : Nat → Prop} {h m : Heap} {A_0 : Option Addr} {n_0 c_0 : Nat} {a_0 : List Int} (O : Hold W h m h m [rR (aE (tell_int .i64)) A_0 c_0 a_0]) (ne_0 : n_0 = List.length a_0) {r : (List Int)} (e : slices_Sort_14 a_0 = some r) : Run Try.prog 14 #[Value.slice A_0 n_0 c_0] h (slices_Sort_14.post W A_0 n_0 c_0 h m r) := by
  unfold slices_Sort_14 at e
  subst ne_0
  refine f14.run ?_
  unfold f14.runT
  obtain ⟨y1, g2, e⟩ := bind_e e
  refine (math_bits_Len.walk (Hold.start (W := No) O.s)  g2).mono ?_
  rintro _ h3 ⟨m4, Q5, rfl⟩
  have O7 := Hold.nm (O.retC Q5 vfs_nil)
  refine ⟨_, rfl, ?_⟩
  obtain ⟨y8, g9, e⟩ := bind_e e
  obtain ⟨W14, P15, B16, C17⟩ := O7.callC [0]
  refine (slices_pdqsortOrdered_78.walk P15 rfl g9).mono ?_
  rintro _ h10 ⟨m11, Q12, rfl, hl18⟩
  have O19 := Hold.nm (C17 Q12 (vfs_cons (rR_vf (aE_vf (fun _ _ _ _ h => h))) vfs_nil))
  refine ⟨rfl, ?_⟩
  cases e
  exact ⟨_, O19.pick [1], rfl, hl18⟩
theorem slices_Sort_14.val (l : List Int) (hn : l.length ≤ 1000000000000000000) : ∃ r, slices_Sort_14 l = some r ∧ r.Perm l ∧ r.Pairwise (· ≤ ·) := by
  have hl : ∀ x y : Int, cmp_Less_127 x y = some (decide (x < y)) := fun x y => by unfold cmp_Less_127 cmp_isNaN_160; rw [Option.bind_some, if_neg (by simp)]
  have hlen : ∀ x : Nat, x < 18446744073709551616 → ∃ k : Nat, math_bits_Len (x : Int) = some (k : Int) ∧ k ≤ 64 ∧ (1 ≤ x → 2 ^ k ≤ 2 * x) := by
    intro x hx
    obtain ⟨k, k1, k2⟩ := len_val (F := math_bits_Len64) (j0 := math_bits_Len64.j0) (j1 := math_bits_Len64.j1) (j2 := math_bits_Len64.j2) (fun x => rfl) (fun x n => rfl) (fun x n => rfl) (fun x n => rfl) x hx
    exact ⟨k, by unfold math_bits_Len; rw [k1, Option.bind_some], k2⟩
  have hu : ∀ x : Nat, x ≤ 1000000000000000000 → IntKind.wrap .u64 (x : Int) = x := fun x h => u64_in' (by omega) (by omega)
  have P := pdq_val (lt := fun x y : Int => decide (x < y)) ord3_int hl (f := slices_pdqsortOrdered_78) (l0 := slices_pdqsortOrdered_78.l0) (j0 := slices_pdqsortOrdered_78.j0) (j1 := slices_pdqsortOrdered_78.j1) (j2 := slices_pdqsortOrdered_78.j2) (j3 := slices_pdqsortOrdered_78.j3) (j4 := slices_pdqsortOrdered_78.j4) (j5 := slices_pdqsortOrdered_78.j5)
    (ins := slices_insertionSortOrdered_121) (heap := slices_heapSortOrdered_122) (brk := slices_breakPatternsOrdered_123) (rev := slices_reverseRangeOrdered_125) (cho := slices_choosePivotOrdered_124) (pi := slices_partialInsertionSortOrdered_126) (pe := slices_partitionEqualOrdered_128) (pt := slices_partitionOrdered_129)
    (fun {a b l} h1 h2 h3 => by
      unfold slices_insertionSortOrdered_121
      by_cases c : a = b
      · subst c
        exact ⟨l, .refl, fun i j _ _ k1 k2 k3 => by omega, by rw [w_succ (by omega), slices_insertionSortOrdered_121.l0_eq, if_neg (by omega)]⟩
      · rw [w_succ (by omega)]
        exact insertion_val ord3_int hl (f0 := slices_insertionSortOrdered_121.l0) (f1 := slices_insertionSortOrdered_121.l1) (fun l a b i => slices_insertionSortOrdered_121.l0_eq l a b i) (fun l a b i j => by rw [slices_insertionSortOrdered_121.l1_eq]; simp only [slices_insertionSortOrdered_121.j1_eq, slices_insertionSortOrdered_121.j0_eq]) (b - (a + 1)) (a + 1) l (by omega) (by omega) h1 (by omega) (fun i j _ _ k1 k2 k3 => by omega))
    (fun {a b l} h1 h2 h3 => heapSort_val ord3_int hl (f := slices_siftDownOrdered_155.l0) (J1 := slices_siftDownOrdered_155.j1) (J0 := slices_siftDownOrdered_155.j0) (fun l hi a x => slices_siftDownOrdered_155.l0_eq l hi a x) (fun l hi a x c b => slices_siftDownOrdered_155.j1_eq l hi a x c b) (fun l hi a x c => slices_siftDownOrdered_155.j0_eq l hi a x c) (G := slices_siftDownOrdered_155) (H := slices_heapSortOrdered_122) (f0 := slices_heapSortOrdered_122.l0) (f1 := slices_heapSortOrdered_122.l1) (fun l lo hi a => rfl) (fun l a lo hi i => slices_heapSortOrdered_122.l0_eq l a lo hi i) (fun l a lo i => slices_heapSortOrdered_122.l1_eq l a lo i) (fun l a b => rfl) h1 h2 h3)
    (fun {a b l} h1 h2 h3 => by
      obtain ⟨n, rfl⟩ : ∃ n, b = a + n := ⟨b - a, by omega⟩
      unfold slices_breakPatternsOrdered_123
      have w1 : IntKind.wrap .i64 (((a + n : Nat) : Int) - (a : Int)) = (n : Int) := by rw [wrap_in (by omega) (by omega)]; omega
      have w2 : Int.tdiv (n : Int) 4 = ((n / 4 : Nat) : Int) := by rw [Int.tdiv_eq_ediv_of_nonneg (by omega)]; omega
      rw [w1, if_pos (by omega)]
      unfold slices_nextPowerOfTwo
      obtain ⟨k, k1, k2, k3⟩ := hlen n (by omega)
      have k4 := k3 (by omega)
      rw [hu n (by omega), k1, Option.bind_some, if_pos (by omega), Option.bind_some, shl_one (by omega), w2, wrap_in (n := ((n / 4 : Nat) : Int)) (by omega) (by omega), wrap_in (n := ((n / 4 : Nat) : Int) * 2) (by omega) (by omega), wrap_in (n := (a : Int) + ((n / 4 : Nat) : Int) * 2) (by omega) (by omega), wrap_in (by omega) (by omega), show (a : Int) + ((n / 4 : Nat) : Int) * 2 - 1 = ((a + n / 4 * 2 - 1 : Nat) : Int) by omega]
      exact brk_val (F := slices_breakPatternsOrdered_123.l0) (J := slices_breakPatternsOrdered_123.j1) (nx := slices_xorshift_Next) (fun y => ⟨_, rfl⟩) (fun l a n y m i => slices_breakPatternsOrdered_123.l0_eq l a n y m i) (fun l a n y m i o => by rw [slices_breakPatternsOrdered_123.j1_eq]; simp only [slices_breakPatternsOrdered_123.j0_eq]) (Nat.one_le_two_pow) k4 (by omega) 3 (a + n / 4 * 2 - 1) l _ (by omega) (by omega) (by omega) (by omega))
    (fun {a b l} h1 h2 h3 => by
      unfold slices_reverseRangeOrdered_125
      rw [wrap_in (by omega) (by omega), show (b : Int) - 1 = ((b - 1 : Nat) : Int) by omega]
      exact rev_val (f := slices_reverseRangeOrdered_125.l0) (fun l x y => slices_reverseRangeOrdered_125.l0_eq l x y) b a (b - 1) l (by omega) (Nat.le_refl _) (by omega) h2 h3)
    (fun {a b l} h1 h2 h3 => choose_val hl (o := slices_order2Ordered_184) (fun l x1 x2 y3 => rfl) (md := slices_medianOrdered_159) (fun l x1 x2 x3 y4 => rfl) (ma := slices_medianAdjacentOrdered_158) (fun l x y => rfl) (j0 := slices_choosePivotOrdered_124.j0) (fun y x => rfl) (j1 := slices_choosePivotOrdered_124.j1) (fun l y x1 x2 x3 => rfl) (ch := slices_choosePivotOrdered_124) (fun l a b => rfl) h1 h2 h3)
    (fun {a b l} h1 h2 h3 h4 => pins_val ord3_int hl (l0 := slices_partialInsertionSortOrdered_126.l0) (l1 := slices_partialInsertionSortOrdered_126.l1) (l2 := slices_partialInsertionSortOrdered_126.l2) (l3 := slices_partialInsertionSortOrdered_126.l3) (j0 := slices_partialInsertionSortOrdered_126.j0) (j1 := slices_partialInsertionSortOrdered_126.j1) (j2 := slices_partialInsertionSortOrdered_126.j2) (j3 := slices_partialInsertionSortOrdered_126.j3) (P := slices_partialInsertionSortOrdered_126)
      (fun l a b i s => slices_partialInsertionSortOrdered_126.l0_eq l a b i s) (fun l a b i s => slices_partialInsertionSortOrdered_126.l1_eq l a b i s) (fun l a b i s => slices_partialInsertionSortOrdered_126.j2_eq l a b i s) (fun l a b i s => slices_partialInsertionSortOrdered_126.j1_eq l a b i s) (fun l a b i s j => slices_partialInsertionSortOrdered_126.l2_eq l a b i s j) (fun l a b i s => slices_partialInsertionSortOrdered_126.j3_eq l a b i s) (fun l a b i s j => slices_partialInsertionSortOrdered_126.l3_eq l a b i s j) (fun l a b i s => slices_partialInsertionSortOrdered_126.j0_eq l a b i s) (fun l a b => rfl) h1 h2 h3 h4)
    (fun {a b p l} h1 h2 h3 h4 => parte_val ord3_int hl (l0 := slices_partitionEqualOrdered_128.l0) (l1 := slices_partitionEqualOrdered_128.l1) (l2 := slices_partitionEqualOrdered_128.l2) (j0 := slices_partitionEqualOrdered_128.j0) (j1 := slices_partitionEqualOrdered_128.j1) (j2 := slices_partitionEqualOrdered_128.j2) (j3 := slices_partitionEqualOrdered_128.j3) (P := slices_partitionEqualOrdered_128)
      (fun l a b p => rfl) (fun l a i j => slices_partitionEqualOrdered_128.l0_eq l a i j) (fun l a i j => slices_partitionEqualOrdered_128.l1_eq l a i j) (fun l a i j => slices_partitionEqualOrdered_128.j2_eq l a i j) (fun l a i j => slices_partitionEqualOrdered_128.j0_eq l a i j) (fun l a i j => slices_partitionEqualOrdered_128.l2_eq l a i j) (fun l a i j => slices_partitionEqualOrdered_128.j3_eq l a i j) (fun l a i j => slices_partitionEqualOrdered_128.j1_eq l a i j) h1 h2 h3 h4)
    (fun {a b p l} h1 h2 h3 h4 => part_val ord3_int hl (k0 := slices_partitionOrdered_129.l0) (kj2 := slices_partitionOrdered_129.j2) (kj0 := slices_partitionOrdered_129.j0) (k1 := slices_partitionOrdered_129.l1) (kj3 := slices_partitionOrdered_129.j3) (J1 := slices_partitionOrdered_129.j1) (l2 := slices_partitionOrdered_129.l2) (l3 := slices_partitionOrdered_129.l3) (j7 := slices_partitionOrdered_129.j7) (j5 := slices_partitionOrdered_129.j5) (l4 := slices_partitionOrdered_129.l4) (j8 := slices_partitionOrdered_129.j8) (j6 := slices_partitionOrdered_129.j6) (j4 := slices_partitionOrdered_129.j4) (P := slices_partitionOrdered_129)
      (fun l a b p => rfl) (fun l a i j => slices_partitionOrdered_129.l0_eq l a i j) (fun l a i j => slices_partitionOrdered_129.j2_eq l a i j) (fun l a i j => rfl) (fun l a i j => slices_partitionOrdered_129.l1_eq l a i j) (fun l a i j => slices_partitionOrdered_129.j3_eq l a i j) (fun l a i j => rfl) (fun l a i j => slices_partitionOrdered_129.l2_eq l a i j) (fun l a i j => slices_partitionOrdered_129.l3_eq l a i j) (fun l a i j => slices_partitionOrdered_129.j7_eq l a i j) (fun l a i j => slices_partitionOrdered_129.j5_eq l a i j) (fun l a i j => slices_partitionOrdered_129.l4_eq l a i j) (fun l a i j => slices_partitionOrdered_129.j8_eq l a i j) (fun l a i j => slices_partitionOrdered_129.j6_eq l a i j) (fun l a j => rfl) h1 h2 h3 h4)
    (fun l a b lim => slices_pdqsortOrdered_78_eq l a b lim) (fun l a b lim b8 b9 => slices_pdqsortOrdered_78.l0_eq l a b lim b8 b9) (fun l a b lim b8 b9 n => slices_pdqsortOrdered_78.j0_eq l a b lim b8 b9 n) (fun l a b lim b8 b9 n p h => slices_pdqsortOrdered_78.j1_eq l a b lim b8 b9 n p h) (fun l a b lim b8 b9 n p c => slices_pdqsortOrdered_78.j3_eq l a b lim b8 b9 n p c) (fun l a b lim b8 b9 n p => slices_pdqsortOrdered_78.j2_eq l a b lim b8 b9 n p) (fun l a b lim b8 b9 n p c => slices_pdqsortOrdered_78.j5_eq l a b lim b8 b9 n p c) (fun l a b lim n p => slices_pdqsortOrdered_78.j4_eq l a b lim n p)
  obtain ⟨k, k1, _⟩ := hlen l.length (by omega)
  obtain ⟨r, t1, t2, t3⟩ := P l.length 0 l.length l (k : Int) true true (by omega) (by omega) (Nat.le_refl _) hn (fun i h0 hi h => by omega)
  refine ⟨r, ?_, t1.1, Srt.all (by rw [t1.len]; exact t2)⟩
  unfold slices_Sort_14
  rw [hu _ hn, k1, Option.bind_some, slices_pdqsortOrdered_78_eq]
  rw [show (0 : Int) = ((0 : Nat) : Int) from rfl, t3, Option.bind_some]
end Go.Proofs.Ythnlhffpmlgmfad.Fw

end
