/- Data of the given program, and pure functions of its functions, with the walks. Printed by a program of this session. -/
import Derived.Test.YtilmfjdagnbbaaaFwTraceSays
import Derived.Test.YtilmfjdagnbbaaaHwW
namespace Go.Proofs.Ytilmfjdagnbbaaa.Fw
open Go Go.Hw Go.Proofs
set_option linter.unusedVariables false

structure T_api_Event where
  Place : Int
  Kind : Int
  Msg : Int
def T_api_Event.E (h : Heap) (x : T_api_Event) (cs : List Value) : Prop := cs = [.int .i64 x.Place, .int .i64 x.Kind, .int .i64 x.Msg]
theorem T_api_Event.T : Tell 3 T_api_Event.E := ⟨by rintro m h x _ s rfl; exact rfl, by rintro h x _ rfl; rfl, by rintro h x _ rfl; exact Flats.cons trivial (Flats.cons trivial (Flats.cons trivial Flats.nil))⟩
theorem T_api_Event.keep {m h : Heap} {x : T_api_Event} {cs : List Value} (e : T_api_Event.E m x cs) : T_api_Event.E h x cs := e
def T_api_Event.Q (x : T_api_Event) : Prop := (-9223372036854775808 ≤ x.Place ∧ x.Place ≤ 9223372036854775807) ∧ (-9223372036854775808 ≤ x.Kind ∧ x.Kind ≤ 9223372036854775807) ∧ (-9223372036854775808 ≤ x.Msg ∧ x.Msg ≤ 9223372036854775807)
theorem T_api_Event.tells {H : Type} {enc : TypeId × Value → H} {W : World} : Tells enc Try.prog W 83 T_api_Event.E T_api_Event.Q := tells_map (tells_struct (t := 83) (fs := [(3, 0), (3, 1), (3, 2)]) (T := 3) (by kernel_rfl) (by kernel_rfl) (tf_cons (s := 1) (f := 3) (by kernel_rfl) (tells_i64 (t := 3) (by kernel_rfl)) (tf_cons (s := 1) (f := 3) (by kernel_rfl) (tells_i64 (t := 3) (by kernel_rfl)) (tf_cons (s := 1) (f := 3) (by kernel_rfl) (tells_i64 (t := 3) (by kernel_rfl)) tf_nil)))) (by
  rintro ⟨x0, x1, x2, ⟨⟩⟩ cs e q
  obtain ⟨c0, r0, rfl, e0, c1, r1, rfl, e1, c2, r2, rfl, e2, eN⟩ := e
  obtain rfl : c0 = [.int .i64 x0] := e0
  obtain rfl : c1 = [.int .i64 x1] := e1
  obtain rfl : c2 = [.int .i64 x2] := e2
  obtain rfl : r2 = [] := eN
  exact ⟨⟨x0, x1, x2⟩, rfl, q.1, q.2.1, q.2.2.1⟩)

/-! ### 22 roadstead/roadlaw4.two -/
def roadlaw4_two.post (W : Nat → Prop) (h0 m0 : Heap) (r : (List T_api_Event)) (v : Value) (h : Heap) : Prop := ∃ m A0 n0 c0, St W h0 m0 h m ∧ v = .slice A0 n0 c0 ∧ n0 = r.length ∧ OS W h0 3 T_api_Event.E h m A0 r c0
noncomputable def roadlaw4_two  : Option ((List T_api_Event)) :=
  some (([(T_api_Event.mk (0 : Int) (2 : Int) (5 : Int)), (T_api_Event.mk (1 : Int) (3 : Int) (5 : Int))] : List T_api_Event))
set_option maxRecDepth 100000 in
theorem roadlaw4_two.walk {h m : Heap}  (s : Sub m h)  {r : (List T_api_Event)} (e : roadlaw4_two  = some r) : Run Try.prog 22 #[] h (roadlaw4_two.post No h m r) := by
  unfold roadlaw4_two at e
  have S : St No h m h m := .refl s
  refine f22.run ?_
  unfold f22.runT
  refine ⟨[(Value.int .i64 (0 : Int)), (Value.int .i64 (2 : Int)), (Value.int .i64 (5 : Int))], rfl, rfl, ?_⟩
  refine ⟨[(Value.int .i64 (1 : Int)), (Value.int .i64 (3 : Int)), (Value.int .i64 (5 : Int))], rfl, rfl, ?_⟩
  refine new_in S fun h1 o2 x3 => ?_
  have S4 := S.ext' x3
  have o2 : OB _ _ h1 _ (Array.size h) [(Value.int .i64 (0 : Int)), (Value.int .i64 (2 : Int)), (Value.int .i64 (5 : Int)), (Value.int .i64 (1 : Int)), (Value.int .i64 (3 : Int)), (Value.int .i64 (5 : Int))] 83 := o2
  have o6 : OS _ _ 3 T_api_Event.E h1 m (some ⟨(Array.size h), 0, none⟩) ([(T_api_Event.mk (0 : Int) (2 : Int) (5 : Int)), (T_api_Event.mk (1 : Int) (3 : Int) (5 : Int))] : List T_api_Event) 2 := OB.row o2 (CsE.cons (c1 := [(Value.int .i64 (0 : Int)), (Value.int .i64 (2 : Int)), (Value.int .i64 (5 : Int))]) (show T_api_Event.E _ (T_api_Event.mk (0 : Int) (2 : Int) (5 : Int)) [(Value.int .i64 (0 : Int)), (Value.int .i64 (2 : Int)), (Value.int .i64 (5 : Int))] from rfl) rfl (CsE.cons (c1 := [(Value.int .i64 (1 : Int)), (Value.int .i64 (3 : Int)), (Value.int .i64 (5 : Int))]) (show T_api_Event.E _ (T_api_Event.mk (1 : Int) (3 : Int) (5 : Int)) [(Value.int .i64 (1 : Int)), (Value.int .i64 (3 : Int)), (Value.int .i64 (5 : Int))] from rfl) rfl CsE.nil)) rfl
  cases e
  exact ⟨_, _, _, _, S4, rfl, rfl, o6⟩

/-! ### 138 slices.IndexFunc[[]roadstead/api.Event,roadstead/api.Event] -/
def slices_IndexFunc_138.post (W : Nat → Prop) (h0 m0 : Heap) (r : Int) (v : Value) (h : Heap) : Prop := ∃ m , St W h0 m0 h m ∧ v = .int .i64 r
inductive slices_IndexFunc_138.l0_k.Pt where
  | l0 (a0 : List T_api_Event) (p1 : T_api_Event → Option Bool) (x7 : Int) (x8 : Int)
noncomputable def slices_IndexFunc_138.l0_k.body (go : (p : slices_IndexFunc_138.l0_k.Pt) → Option (Int)) : (p : slices_IndexFunc_138.l0_k.Pt) → Option (Int)
  | .l0 a0 p1 x7 x8 => if x8 < x7 then (Option.bind (gi a0 x8) fun y1 => Option.bind (p1 y1) fun y8 => if y8 = true then (some (x8)) else ((go (.l0 a0 p1 x7 (IntKind.wrap .i64 (x8 + (1 : Int))))))) else (some ((-1 : Int)))
theorem slices_IndexFunc_138.l0_k.mono : MonoF (β := fun _ => (Int)) slices_IndexFunc_138.l0_k.body := fun f g hfg p => match p with
  | .l0 a0 p1 x7 x8 => LeO.ite (LeO.bind (LeO.refl _) fun y1 => LeO.bind (LeO.refl _) fun y8 => LeO.ite (LeO.refl _) ((hfg _))) (LeO.refl _)
noncomputable def slices_IndexFunc_138.l0_k.go (p : slices_IndexFunc_138.l0_k.Pt) : Option (Int) := fixF (β := fun _ => (Int)) slices_IndexFunc_138.l0_k.body p
noncomputable def slices_IndexFunc_138.l0 (a0 : List T_api_Event) (p1 : T_api_Event → Option Bool) (x7 : Int) (x8 : Int) : Option (Int) := slices_IndexFunc_138.l0_k.go (.l0 a0 p1 x7 x8)
theorem slices_IndexFunc_138.l0_eq (a0 : List T_api_Event) (p1 : T_api_Event → Option Bool) (x7 : Int) (x8 : Int) : slices_IndexFunc_138.l0 a0 p1 x7 x8 = if x8 < x7 then (Option.bind (gi a0 x8) fun y1 => Option.bind (p1 y1) fun y8 => if y8 = true then (some (x8)) else ((slices_IndexFunc_138.l0 a0 p1 x7 (IntKind.wrap .i64 (x8 + (1 : Int)))))) else (some ((-1 : Int))) := fixF_eq slices_IndexFunc_138.l0_k.mono _
def slices_IndexFunc_138.l0_k.I : (p : slices_IndexFunc_138.l0_k.Pt) → (Int) → Prop
  | .l0 a0 p1 x7 x8, r => ∀ (h0 m0 h m : Heap) (A0 : Option Addr) (n0 c0 : Nat) (fv1 : Value) (S : St No h0 m0 h m) (ne0 : n0 = List.length a0) (k0 : List.length a0 ≤ c0) (r0 : Rd 3 T_api_Event.E m A0 a0) (f1 : ∀ h' m', St No h0 m0 h' m' → ∀ (y0 : T_api_Event) (cs0 : List Value) (_ : T_api_Event.E m' y0 cs0) (r : Bool), p1 y0 = some r → CallF Try.prog fv1 [.agg cs0.toArray] h' (fun v h'' => v = .bool r ∧ Ext h' h'')), f138.l0 (slices_IndexFunc_138.post No h0 m0 r) A0 n0 c0 fv1 x7 x8 h
set_option maxRecDepth 100000 in
theorem slices_IndexFunc_138.l0_k.step_l0 (go : (p : slices_IndexFunc_138.l0_k.Pt) → Option (Int)) (ih : ∀ p r, go p = some r → slices_IndexFunc_138.l0_k.I p r) (a0 : List T_api_Event) (p1 : T_api_Event → Option Bool) (x7 : Int) (x8 : Int) (r : Int) (e : slices_IndexFunc_138.l0_k.body go (.l0 a0 p1 x7 x8) = some r) : slices_IndexFunc_138.l0_k.I (.l0 a0 p1 x7 x8) r := by
  unfold slices_IndexFunc_138.l0_k.body at e
  intro h0 m0 h m A0 n0 c0 fv1 S ne0 k0 r0 f1
  subst ne0
  refine f138.l0_in ?_
  unfold f138.l0T
  refine split_dec_e e (fun c14 e => ?_) (fun c14 e => ?_)
  · obtain ⟨y1, g2, e⟩ := bind_e e
    refine r0.addr rfl g2 fun a3 cs4 ha5 hc6 he7 => ?_
    obtain rfl : cs4 = [(Value.int .i64 y1.Place), (Value.int .i64 y1.Kind), (Value.int .i64 y1.Msg)] := he7
    refine ⟨_, ldA S.s hc6, ?_⟩
    obtain ⟨y8, g9, e⟩ := bind_e e
    refine CallF.mono (f1 _ _ S _ _ (show T_api_Event.E _ y1 [(Value.int .i64 y1.Place), (Value.int .i64 y1.Kind), (Value.int .i64 y1.Msg)] from rfl) _ g9) ?_
    rintro _ h10 ⟨rfl, x11⟩
    refine ⟨_, rfl, ?_⟩
    have S12 := S.ext' x11
    refine split_any_e e (fun c13 e => ?_) (fun c13 e => ?_)
    · cases e
      exact ⟨_, S12, rfl⟩
    · exact (ih _ _ e) _ _ _ _ _ _ _ _ S12 rfl k0 r0 f1
  · cases e
    exact ⟨_, S, rfl⟩
theorem slices_IndexFunc_138.l0_k.all {p : slices_IndexFunc_138.l0_k.Pt} {r : (Int)} (e : slices_IndexFunc_138.l0_k.go p = some r) : slices_IndexFunc_138.l0_k.I p r := fixF_ind (β := fun _ => (Int)) slices_IndexFunc_138.l0_k.mono (I := slices_IndexFunc_138.l0_k.I) (fun go ih p r e => match p with
  | .l0 a0 p1 x7 x8 => slices_IndexFunc_138.l0_k.step_l0 go ih a0 p1 x7 x8 r e
  ) e
theorem slices_IndexFunc_138.l0.walk {h0 m0 h m : Heap} {A0 : Option Addr} {n0 c0 : Nat} {fv1 : Value} {a0 : List T_api_Event} {p1 : T_api_Event → Option Bool} {x7 : Int} {x8 : Int} (S : St No h0 m0 h m) (ne0 : n0 = List.length a0) (k0 : List.length a0 ≤ c0) (r0 : Rd 3 T_api_Event.E m A0 a0) (f1 : ∀ h' m', St No h0 m0 h' m' → ∀ (y0 : T_api_Event) (cs0 : List Value) (_ : T_api_Event.E m' y0 cs0) (r : Bool), p1 y0 = some r → CallF Try.prog fv1 [.agg cs0.toArray] h' (fun v h'' => v = .bool r ∧ Ext h' h'')) {r : Int} (e : slices_IndexFunc_138.l0 a0 p1 x7 x8 = some r) : f138.l0 (slices_IndexFunc_138.post No h0 m0 r) A0 n0 c0 fv1 x7 x8 h := slices_IndexFunc_138.l0_k.all (p := .l0 a0 p1 x7 x8) e h0 m0 h m A0 n0 c0 fv1 S ne0 k0 r0 f1

noncomputable def slices_IndexFunc_138 (a0 : List T_api_Event) (p1 : T_api_Event → Option Bool) : Option (Int) :=
  (slices_IndexFunc_138.l0 a0 p1 (((List.length a0) : Nat) : Int) (0 : Int))
set_option maxRecDepth 100000 in
theorem slices_IndexFunc_138.walk {h m : Heap} {A0 : Option Addr} {n0 c0 : Nat} {fv1 : Value} {a0 : List T_api_Event} {p1 : T_api_Event → Option Bool} (s : Sub m h) (ne0 : n0 = List.length a0) (k0 : List.length a0 ≤ c0) (r0 : Rd 3 T_api_Event.E m A0 a0) (f1 : ∀ h' m', St No h m h' m' → ∀ (y0 : T_api_Event) (cs0 : List Value) (_ : T_api_Event.E m' y0 cs0) (r : Bool), p1 y0 = some r → CallF Try.prog fv1 [.agg cs0.toArray] h' (fun v h'' => v = .bool r ∧ Ext h' h'')) {r : Int} (e : slices_IndexFunc_138 a0 p1 = some r) : Run Try.prog 138 #[Value.slice A0 n0 c0, fv1] h (slices_IndexFunc_138.post No h m r) := by
  unfold slices_IndexFunc_138 at e
  subst ne0
  have S : St No h m h m := .refl s
  refine f138.run ?_
  unfold f138.runT
  exact slices_IndexFunc_138.l0.walk S rfl k0 r0 f1 e
theorem slices_IndexFunc_138.val {l : List T_api_Event} {p : T_api_Event → Option Bool} (q : T_api_Event → Bool) (hp : ∀ x ∈ l, p x = some (q x)) (hl : l.length ≤ 4611686018427387904) : slices_IndexFunc_138 l p = some (idxOf q l) := find_val (fun a p n i => slices_IndexFunc_138.l0_eq a p n i) q hp hl

/-! ### 97 slices.ContainsFunc[[]roadstead/api.Event,roadstead/api.Event] -/
def slices_ContainsFunc_97.post (W : Nat → Prop) (h0 m0 : Heap) (r : Bool) (v : Value) (h : Heap) : Prop := ∃ m , St W h0 m0 h m ∧ v = .bool r
noncomputable def slices_ContainsFunc_97 (a0 : List T_api_Event) (p1 : T_api_Event → Option Bool) : Option (Bool) :=
  Option.bind (slices_IndexFunc_138 a0 p1) fun y1 => some ((decide (y1 ≥ (0 : Int))))
set_option maxRecDepth 100000 in
theorem slices_ContainsFunc_97.walk {h m : Heap} {A0 : Option Addr} {n0 c0 : Nat} {fv1 : Value} {a0 : List T_api_Event} {p1 : T_api_Event → Option Bool} (s : Sub m h) (ne0 : n0 = List.length a0) (k0 : List.length a0 ≤ c0) (r0 : Rd 3 T_api_Event.E m A0 a0) (f1 : ∀ h' m', St No h m h' m' → ∀ (y0 : T_api_Event) (cs0 : List Value) (_ : T_api_Event.E m' y0 cs0) (r : Bool), p1 y0 = some r → CallF Try.prog fv1 [.agg cs0.toArray] h' (fun v h'' => v = .bool r ∧ Ext h' h'')) {r : Bool} (e : slices_ContainsFunc_97 a0 p1 = some r) : Run Try.prog 97 #[Value.slice A0 n0 c0, fv1] h (slices_ContainsFunc_97.post No h m r) := by
  unfold slices_ContainsFunc_97 at e
  subst ne0
  have S : St No h m h m := .refl s
  refine f97.run ?_
  unfold f97.runT
  obtain ⟨y1, g2, e⟩ := bind_e e
  refine (slices_IndexFunc_138.walk S.s rfl k0 r0 f1 g2).mono ?_
  rintro _ h3 ⟨m4, T5, rfl⟩
  have S6 := S.grow T5
  refine ⟨_, rfl, ?_⟩
  cases e
  exact ⟨_, S6, rfl⟩
theorem slices_ContainsFunc_97.val {l : List T_api_Event} {p : T_api_Event → Option Bool} (q : T_api_Event → Bool) (hp : ∀ x ∈ l, p x = some (q x)) (hl : l.length ≤ 4611686018427387904) : slices_ContainsFunc_97 l p = some (l.any q) := findB_val (fun a p n i => slices_IndexFunc_138.l0_eq a p n i) (fun _ _ => rfl) (fun _ _ => rfl) q hp hl

/-! ### 98 roadstead/roadref4.History$1$1 -/
def roadref4_History_1_1.post (W : Nat → Prop) (h0 m0 : Heap) (r : Bool) (v : Value) (h : Heap) : Prop := ∃ m , St W h0 m0 h m ∧ v = .bool r
noncomputable def roadref4_History_1_1 (y0 : T_api_Event) (y1 : Int) (y2 : T_api_Event) : Option (Bool) :=
  if y0.Kind = y1 then (some ((y0.Msg == y2.Msg))) else (some (false))
set_option maxRecDepth 100000 in
theorem roadref4_History_1_1.walk {h m : Heap} {cs0 : List Value} {bk1 : Nat} {bk2 : Nat} {y0 : T_api_Event} {y1 : Int} {y2 : T_api_Event} (s : Sub m h) (e0 : T_api_Event.E m y0 cs0) (v1 : VB (eInt .i64) m bk1 y1) (v2 : VB T_api_Event.E m bk2 y2) {r : Bool} (e : roadref4_History_1_1 y0 y1 y2 = some r) : Run Try.prog 98 #[Value.agg cs0.toArray, Value.pointer (some ⟨bk1, 0, none⟩), Value.pointer (some ⟨bk2, 0, none⟩)] h (roadref4_History_1_1.post No h m r) := by
  unfold roadref4_History_1_1 at e
  obtain rfl : cs0 = [(Value.int .i64 y0.Place), (Value.int .i64 y0.Kind), (Value.int .i64 y0.Msg)] := e0
  obtain ⟨cs1, t1, vb1, nn1, e1⟩ := id v1
  obtain rfl : cs1 = [(Value.int .i64 y1)] := e1
  have hc1 := Blk.all' vb1
  obtain ⟨cs2, t2, vb2, nn2, e2⟩ := id v2
  obtain rfl : cs2 = [(Value.int .i64 y2.Place), (Value.int .i64 y2.Kind), (Value.int .i64 y2.Msg)] := e2
  have hc2 := Blk.all' vb2
  have S : St No h m h m := .refl s
  refine f98.run ?_
  unfold f98.runT
  refine new_in S fun h1 o2 x3 => ?_
  have S4 := S.ext' x3
  have o2 : OB _ _ h1 _ (Array.size h) [(Value.int .i64 y0.Place), (Value.int .i64 y0.Kind), (Value.int .i64 y0.Msg)] 83 := o2
  refine ⟨_, ldk (k := 1) (Sub.refl _) o2.all rfl, _, rfl, ?_⟩
  refine ⟨_, ld0 S4.s hc1 rfl, _, rfl, ?_⟩
  refine split_eq_e e (fun c6 e => ?_) (fun c6 e => ?_)
  · refine ⟨_, ldk (k := 2) (Sub.refl _) o2.all rfl, _, rfl, ?_⟩
    refine ⟨_, ldk (k := 2) S4.s hc2 rfl, _, rfl, ?_⟩
    cases e
    exact ⟨_, S4, rfl⟩
  · cases e
    exact ⟨_, S4, rfl⟩

/-! ### 96 roadstead/roadref4.History$1 -/
def roadref4_History_1.post (W : Nat → Prop) (h0 m0 : Heap) (r : Bool) (v : Value) (h : Heap) : Prop := ∃ m , St W h0 m0 h m ∧ v = .bool r
noncomputable def roadref4_History_1 (x0 : Int) (y1 : (List T_api_Event)) (y2 : Int) (y3 : T_api_Event) : Option (Bool) :=
  Option.bind (sls y1 (0 : Int) y2) fun l6 => Option.bind (slices_ContainsFunc_97 l6 (fun z21 => roadref4_History_1_1 z21 x0 y3)) fun y11 => some (y11)
set_option maxRecDepth 100000 in
theorem roadref4_History_1.walk {h m : Heap} {bk1 : Nat} {bk2 : Nat} {bk3 : Nat} {x0 : Int} {y1 : (List T_api_Event)} {y2 : Int} {y3 : T_api_Event} (s : Sub m h) (v1 : VB (eRow 3 T_api_Event.E) m bk1 y1) (v2 : VB (eInt .i64) m bk2 y2) (v3 : VB T_api_Event.E m bk3 y3) {r : Bool} (e : roadref4_History_1 x0 y1 y2 y3 = some r) : Run Try.prog 96 #[Value.int .i64 x0, Value.pointer (some ⟨bk1, 0, none⟩), Value.pointer (some ⟨bk2, 0, none⟩), Value.pointer (some ⟨bk3, 0, none⟩)] h (roadref4_History_1.post No h m r) := by
  unfold roadref4_History_1 at e
  obtain ⟨cs1, t1, vb1, nn1, e1⟩ := id v1
  obtain ⟨Ae1_0, ce1_0, rfl, ke1_0, re1_0⟩ := e1
  have hc1 := Blk.all' vb1
  obtain ⟨cs2, t2, vb2, nn2, e2⟩ := id v2
  obtain rfl : cs2 = [(Value.int .i64 y2)] := e2
  have hc2 := Blk.all' vb2
  obtain ⟨cs3, t3, vb3, nn3, e3⟩ := id v3
  obtain rfl : cs3 = [(Value.int .i64 y3.Place), (Value.int .i64 y3.Kind), (Value.int .i64 y3.Msg)] := e3
  have hc3 := Blk.all' vb3
  have S : St No h m h m := .refl s
  refine f96.run ?_
  unfold f96.runT
  refine new_in S fun h1 o2 x3 => ?_
  have S4 := S.ext' x3
  have o2 : OB _ _ h1 _ (Array.size h) [(Value.int .i64 x0)] 3 := o2
  refine ⟨_, ld0 S4.s hc1 rfl, _, _, _, rfl, ?_⟩
  refine ⟨_, ld0 S4.s hc2 rfl, _, rfl, ?_⟩
  obtain ⟨l6, g7, e⟩ := bind_e e
  have q8 := sls_e g7
  refine ⟨q8.1, q8.2.1, cap_in q8.2.2.1 ke1_0, ?_⟩
  try rw [q8.2.2.2.1]
  have k9 : List.length l6 ≤ (ce1_0 - Int.toNat (0 : Int)) := sls_cap g7 ke1_0
  have r10 := re1_0.sls g7 (le_mx q8.2.2.1 ke1_0)
  obtain ⟨y11, g12, e⟩ := bind_e e
  obtain ⟨m16, L17, u18, s19, t20⟩ := St.lend S4.s (fb (Array.size h))
  refine (slices_ContainsFunc_97.walk s19 rfl k9 (r10.sub T_api_Event.T u18) (fun h22 m23 s24 y27 cs27 he27 r25 e26 => CallF.of [Value.agg cs27.toArray, Value.pointer (some ⟨(Array.size h), 0, none⟩), Value.pointer (some ⟨bk3, 0, none⟩)] f98.ok rfl ((roadref4_History_1_1.walk s24.s he27 ((o2.lent L17 fbr nn rfl).sub (tell_int .i64) s24.up) ((v3.sub T_api_Event.T u18).sub T_api_Event.T s24.up) e26).mono (fun _ _ h => let ⟨_, t, e⟩ := h; ⟨e, t.ext⟩))) g12).mono ?_
  rintro _ h13 ⟨m14, T15, rfl⟩
  have x28 := T15.ext
  have o30 := o2.ext x28
  have S29 := S4.ext' x28
  refine ⟨_, rfl, ?_⟩
  cases e
  exact ⟨_, S29, rfl⟩

/-! ### 99 roadstead/roadref4.within -/
def roadref4_within.post (W : Nat → Prop) (h0 m0 : Heap) (r : Bool) (v : Value) (h : Heap) : Prop := ∃ m , St W h0 m0 h m ∧ v = .bool r
noncomputable def roadref4_within (x0 : Int) (x1 : Int) (x2 : Int) : Option (Bool) :=
  if x0 ≥ x1 then (some ((decide (x0 ≤ x2)))) else (some (false))
set_option maxRecDepth 100000 in
theorem roadref4_within.walk {h m : Heap} {x0 : Int} {x1 : Int} {x2 : Int} (s : Sub m h)  {r : Bool} (e : roadref4_within x0 x1 x2 = some r) : Run Try.prog 99 #[Value.int .i64 x0, Value.int .i64 x1, Value.int .i64 x2] h (roadref4_within.post No h m r) := by
  unfold roadref4_within at e
  have S : St No h m h m := .refl s
  refine f99.run ?_
  unfold f99.runT
  refine split_dec_e e (fun c1 e => ?_) (fun c1 e => ?_)
  · cases e
    exact ⟨_, S, rfl⟩
  · cases e
    exact ⟨_, S, rfl⟩

/-! ### 23 roadstead/roadref4.History -/
def roadref4_History.post (W : Nat → Prop) (h0 m0 : Heap) (r : Int) (v : Value) (h : Heap) : Prop := ∃ m , St W h0 m0 h m ∧ v = .int .i64 r
inductive roadref4_History.l0_k.Pt where
  | l0 (y1 : (List T_api_Event)) (a9 : List T_api_Event) (x10 : Int) (x11 : Int)
  | j0 (y1 : (List T_api_Event)) (y4 : T_api_Event) (y5_c_1 : Int) (a9 : List T_api_Event) (x10 : Int) (x11 : Int) (b22 : Bool)
  | j1 (y1 : (List T_api_Event)) (y4 : T_api_Event) (y5_c_1 : Int) (a9 : List T_api_Event) (x10 : Int) (x11 : Int) (b36 : Bool)
  | j2 (y1 : (List T_api_Event)) (y4 : T_api_Event) (y5_c_1 : Int) (a9 : List T_api_Event) (x10 : Int) (x11 : Int) (b44 : Bool)
noncomputable def roadref4_History.l0_k.body (go : (p : roadref4_History.l0_k.Pt) → Option (Int)) : (p : roadref4_History.l0_k.Pt) → Option (Int)
  | .l0 y1 a9 x10 x11 => if x11 < x10 then (Option.bind (gi a9 x11) fun y7 => Option.bind (roadref4_within y7.Kind (1 : Int) (3 : Int)) fun y44 => if y44 = true then (Option.bind (roadref4_within y7.Place (0 : Int) (7 : Int)) fun y53 => if y53 = true then (if y7.Kind > (1 : Int) then (Option.bind (roadref4_within y7.Msg (0 : Int) (999 : Int)) fun y62 => (go (.j0 y1 y7 x11 a9 x10 x11 (!y62)))) else ((go (.j0 y1 y7 x11 a9 x10 x11 false)))) else ((go (.j0 y1 y7 x11 a9 x10 x11 (!y53))))) else (some ((3 : Int)))) else (some ((0 : Int)))
  | .j0 y1 y4 y5_c_1 a9 x10 x11 b22 => if b22 = true then (some ((1 : Int))) else (if y4.Kind = (2 : Int) then (Option.bind (roadref4_History_1 (2 : Int) y1 y5_c_1 y4) fun y75 => (go (.j1 y1 y4 y5_c_1 a9 x10 x11 y75))) else ((go (.j1 y1 y4 y5_c_1 a9 x10 x11 false))))
  | .j1 y1 y4 y5_c_1 a9 x10 x11 b36 => if b36 = true then (some ((5 : Int))) else (if y4.Kind = (3 : Int) then (Option.bind (roadref4_History_1 (2 : Int) y1 y5_c_1 y4) fun y92 => (go (.j2 y1 y4 y5_c_1 a9 x10 x11 (!y92)))) else ((go (.j2 y1 y4 y5_c_1 a9 x10 x11 false))))
  | .j2 y1 y4 y5_c_1 a9 x10 x11 b44 => if b44 = true then (some ((4 : Int))) else (if y4.Kind = (3 : Int) then (Option.bind (roadref4_History_1 (3 : Int) y1 y5_c_1 y4) fun y109 => if y109 = true then (some ((5 : Int))) else ((go (.l0 y1 a9 x10 (IntKind.wrap .i64 (x11 + (1 : Int))))))) else ((go (.l0 y1 a9 x10 (IntKind.wrap .i64 (x11 + (1 : Int)))))))
theorem roadref4_History.l0_k.mono : MonoF (β := fun _ => (Int)) roadref4_History.l0_k.body := fun f g hfg p => match p with
  | .l0 y1 a9 x10 x11 => LeO.ite (LeO.bind (LeO.refl _) fun y7 => LeO.bind (LeO.refl _) fun y44 => LeO.ite (LeO.bind (LeO.refl _) fun y53 => LeO.ite (LeO.ite (LeO.bind (LeO.refl _) fun y62 => (hfg _)) ((hfg _))) ((hfg _))) (LeO.refl _)) (LeO.refl _)
  | .j0 y1 y4 y5_c_1 a9 x10 x11 b22 => LeO.ite (LeO.refl _) (LeO.ite (LeO.bind (LeO.refl _) fun y75 => (hfg _)) ((hfg _)))
  | .j1 y1 y4 y5_c_1 a9 x10 x11 b36 => LeO.ite (LeO.refl _) (LeO.ite (LeO.bind (LeO.refl _) fun y92 => (hfg _)) ((hfg _)))
  | .j2 y1 y4 y5_c_1 a9 x10 x11 b44 => LeO.ite (LeO.refl _) (LeO.ite (LeO.bind (LeO.refl _) fun y109 => LeO.ite (LeO.refl _) ((hfg _))) ((hfg _)))
noncomputable def roadref4_History.l0_k.go (p : roadref4_History.l0_k.Pt) : Option (Int) := fixF (β := fun _ => (Int)) roadref4_History.l0_k.body p
noncomputable def roadref4_History.l0 (y1 : (List T_api_Event)) (a9 : List T_api_Event) (x10 : Int) (x11 : Int) : Option (Int) := roadref4_History.l0_k.go (.l0 y1 a9 x10 x11)
noncomputable def roadref4_History.j0 (y1 : (List T_api_Event)) (y4 : T_api_Event) (y5_c_1 : Int) (a9 : List T_api_Event) (x10 : Int) (x11 : Int) (b22 : Bool) : Option (Int) := roadref4_History.l0_k.go (.j0 y1 y4 y5_c_1 a9 x10 x11 b22)
noncomputable def roadref4_History.j1 (y1 : (List T_api_Event)) (y4 : T_api_Event) (y5_c_1 : Int) (a9 : List T_api_Event) (x10 : Int) (x11 : Int) (b36 : Bool) : Option (Int) := roadref4_History.l0_k.go (.j1 y1 y4 y5_c_1 a9 x10 x11 b36)
noncomputable def roadref4_History.j2 (y1 : (List T_api_Event)) (y4 : T_api_Event) (y5_c_1 : Int) (a9 : List T_api_Event) (x10 : Int) (x11 : Int) (b44 : Bool) : Option (Int) := roadref4_History.l0_k.go (.j2 y1 y4 y5_c_1 a9 x10 x11 b44)
theorem roadref4_History.l0_eq (y1 : (List T_api_Event)) (a9 : List T_api_Event) (x10 : Int) (x11 : Int) : roadref4_History.l0 y1 a9 x10 x11 = if x11 < x10 then (Option.bind (gi a9 x11) fun y7 => Option.bind (roadref4_within y7.Kind (1 : Int) (3 : Int)) fun y44 => if y44 = true then (Option.bind (roadref4_within y7.Place (0 : Int) (7 : Int)) fun y53 => if y53 = true then (if y7.Kind > (1 : Int) then (Option.bind (roadref4_within y7.Msg (0 : Int) (999 : Int)) fun y62 => (roadref4_History.j0 y1 y7 x11 a9 x10 x11 (!y62))) else ((roadref4_History.j0 y1 y7 x11 a9 x10 x11 false))) else ((roadref4_History.j0 y1 y7 x11 a9 x10 x11 (!y53)))) else (some ((3 : Int)))) else (some ((0 : Int))) := fixF_eq roadref4_History.l0_k.mono _
theorem roadref4_History.j0_eq (y1 : (List T_api_Event)) (y4 : T_api_Event) (y5_c_1 : Int) (a9 : List T_api_Event) (x10 : Int) (x11 : Int) (b22 : Bool) : roadref4_History.j0 y1 y4 y5_c_1 a9 x10 x11 b22 = if b22 = true then (some ((1 : Int))) else (if y4.Kind = (2 : Int) then (Option.bind (roadref4_History_1 (2 : Int) y1 y5_c_1 y4) fun y75 => (roadref4_History.j1 y1 y4 y5_c_1 a9 x10 x11 y75)) else ((roadref4_History.j1 y1 y4 y5_c_1 a9 x10 x11 false))) := fixF_eq roadref4_History.l0_k.mono _
theorem roadref4_History.j1_eq (y1 : (List T_api_Event)) (y4 : T_api_Event) (y5_c_1 : Int) (a9 : List T_api_Event) (x10 : Int) (x11 : Int) (b36 : Bool) : roadref4_History.j1 y1 y4 y5_c_1 a9 x10 x11 b36 = if b36 = true then (some ((5 : Int))) else (if y4.Kind = (3 : Int) then (Option.bind (roadref4_History_1 (2 : Int) y1 y5_c_1 y4) fun y92 => (roadref4_History.j2 y1 y4 y5_c_1 a9 x10 x11 (!y92))) else ((roadref4_History.j2 y1 y4 y5_c_1 a9 x10 x11 false))) := fixF_eq roadref4_History.l0_k.mono _
theorem roadref4_History.j2_eq (y1 : (List T_api_Event)) (y4 : T_api_Event) (y5_c_1 : Int) (a9 : List T_api_Event) (x10 : Int) (x11 : Int) (b44 : Bool) : roadref4_History.j2 y1 y4 y5_c_1 a9 x10 x11 b44 = if b44 = true then (some ((4 : Int))) else (if y4.Kind = (3 : Int) then (Option.bind (roadref4_History_1 (3 : Int) y1 y5_c_1 y4) fun y109 => if y109 = true then (some ((5 : Int))) else ((roadref4_History.l0 y1 a9 x10 (IntKind.wrap .i64 (x11 + (1 : Int)))))) else ((roadref4_History.l0 y1 a9 x10 (IntKind.wrap .i64 (x11 + (1 : Int)))))) := fixF_eq roadref4_History.l0_k.mono _
def roadref4_History.l0_k.I : (p : roadref4_History.l0_k.Pt) → (Int) → Prop
  | .l0 y1 a9 x10 x11, r => ∀ (h0 m0 h m : Heap) (bk1 : Nat) (cs1 : List Value) (A9 : Option Addr) (n9 c9 : Nat) (S : St No h0 m0 h m) (o1 : OB No h0 h m bk1 cs1 35) (e1 : (eRow 3 T_api_Event.E) m y1 cs1) (ne9 : n9 = List.length a9) (k9 : List.length a9 ≤ c9) (r9 : Rd 3 T_api_Event.E m A9 a9), f23.l0 (roadref4_History.post No h0 m0 r) (⟨bk1, 0, none⟩ : Addr) A9 n9 c9 x10 x11 h
  | .j0 y1 y4 y5_c_1 a9 x10 x11 b22, r => ∀ (h0 m0 h m : Heap) (bk1 : Nat) (cs1 : List Value) (bk4 : Nat) (cs4 : List Value) (bk5_c_1 : Nat) (cs5_c_1 : List Value) (A9 : Option Addr) (n9 c9 : Nat) (S : St No h0 m0 h m) (o1 : OB No h0 h m bk1 cs1 35) (e1 : (eRow 3 T_api_Event.E) m y1 cs1) (o4 : OB No h0 h m bk4 cs4 83) (e4 : T_api_Event.E m y4 cs4) (o5_c_1 : OB No h0 h m bk5_c_1 cs5_c_1 3) (e5_c_1 : (eInt .i64) m y5_c_1 cs5_c_1) (ne9 : n9 = List.length a9) (k9 : List.length a9 ≤ c9) (r9 : Rd 3 T_api_Event.E m A9 a9) (d0_1 : Dj (fb bk1) (fb bk4)) (d0_2 : Dj (fb bk1) (fb bk5_c_1)) (d1_2 : Dj (fb bk4) (fb bk5_c_1)), f23.j0 (roadref4_History.post No h0 m0 r) (⟨bk1, 0, none⟩ : Addr) (⟨bk4, 0, none⟩ : Addr) (⟨bk1, 0, none⟩ : Addr) (⟨bk5_c_1, 0, none⟩ : Addr) (⟨bk4, 0, none⟩ : Addr) A9 n9 c9 x10 x11 b22 h
  | .j1 y1 y4 y5_c_1 a9 x10 x11 b36, r => ∀ (h0 m0 h m : Heap) (bk1 : Nat) (cs1 : List Value) (bk4 : Nat) (cs4 : List Value) (bk5_c_1 : Nat) (cs5_c_1 : List Value) (A9 : Option Addr) (n9 c9 : Nat) (S : St No h0 m0 h m) (o1 : OB No h0 h m bk1 cs1 35) (e1 : (eRow 3 T_api_Event.E) m y1 cs1) (o4 : OB No h0 h m bk4 cs4 83) (e4 : T_api_Event.E m y4 cs4) (o5_c_1 : OB No h0 h m bk5_c_1 cs5_c_1 3) (e5_c_1 : (eInt .i64) m y5_c_1 cs5_c_1) (ne9 : n9 = List.length a9) (k9 : List.length a9 ≤ c9) (r9 : Rd 3 T_api_Event.E m A9 a9) (d0_1 : Dj (fb bk1) (fb bk4)) (d0_2 : Dj (fb bk1) (fb bk5_c_1)) (d1_2 : Dj (fb bk4) (fb bk5_c_1)), f23.j1 (roadref4_History.post No h0 m0 r) (⟨bk1, 0, none⟩ : Addr) (⟨bk4, 0, none⟩ : Addr) (⟨bk1, 0, none⟩ : Addr) (⟨bk5_c_1, 0, none⟩ : Addr) (⟨bk4, 0, none⟩ : Addr) A9 n9 c9 x10 x11 b36 h
  | .j2 y1 y4 y5_c_1 a9 x10 x11 b44, r => ∀ (h0 m0 h m : Heap) (bk1 : Nat) (cs1 : List Value) (bk4 : Nat) (cs4 : List Value) (bk5_c_1 : Nat) (cs5_c_1 : List Value) (A9 : Option Addr) (n9 c9 : Nat) (S : St No h0 m0 h m) (o1 : OB No h0 h m bk1 cs1 35) (e1 : (eRow 3 T_api_Event.E) m y1 cs1) (o4 : OB No h0 h m bk4 cs4 83) (e4 : T_api_Event.E m y4 cs4) (o5_c_1 : OB No h0 h m bk5_c_1 cs5_c_1 3) (e5_c_1 : (eInt .i64) m y5_c_1 cs5_c_1) (ne9 : n9 = List.length a9) (k9 : List.length a9 ≤ c9) (r9 : Rd 3 T_api_Event.E m A9 a9) (d0_1 : Dj (fb bk1) (fb bk4)) (d0_2 : Dj (fb bk1) (fb bk5_c_1)) (d1_2 : Dj (fb bk4) (fb bk5_c_1)), f23.j2 (roadref4_History.post No h0 m0 r) (⟨bk1, 0, none⟩ : Addr) (⟨bk4, 0, none⟩ : Addr) (⟨bk1, 0, none⟩ : Addr) (⟨bk5_c_1, 0, none⟩ : Addr) (⟨bk4, 0, none⟩ : Addr) A9 n9 c9 x10 x11 b44 h
set_option maxRecDepth 100000 in
theorem roadref4_History.l0_k.step_l0 (go : (p : roadref4_History.l0_k.Pt) → Option (Int)) (ih : ∀ p r, go p = some r → roadref4_History.l0_k.I p r) (y1 : (List T_api_Event)) (a9 : List T_api_Event) (x10 : Int) (x11 : Int) (r : Int) (e : roadref4_History.l0_k.body go (.l0 y1 a9 x10 x11) = some r) : roadref4_History.l0_k.I (.l0 y1 a9 x10 x11) r := by
  unfold roadref4_History.l0_k.body at e
  intro h0 m0 h m bk1 cs1 A9 n9 c9 S o1 e1 ne9 k9 r9
  obtain ⟨Ae1_0, ce1_0, rfl, ke1_0, re1_0⟩ := e1
  subst ne9
  refine f23.l0_in ?_
  unfold f23.l0T
  refine split_dec_e e (fun c74 e => ?_) (fun c74 e => ?_)
  · obtain ⟨y7, g8, e⟩ := bind_e e
    refine r9.addr rfl g8 fun a9 cs10 ha11 hc12 he13 => ?_
    obtain rfl : cs10 = [(Value.int .i64 y7.Place), (Value.int .i64 y7.Kind), (Value.int .i64 y7.Msg)] := he13
    refine ⟨_, ldA S.s hc12, ?_⟩
    refine new_in S fun h14 o15 x16 => ?_
    have d19 : Dj (fb bk1) (fb (Array.size h)) := Dj.new o1.lt
    have o20 := o1.ext x16
    have S17 := S.ext' x16
    have o15 : OB _ _ h14 _ (Array.size h) [(Value.int .i64 (0 : Int))] 3 := o15
    refine new_in S17 fun h21 o22 x23 => ?_
    have d26 : Dj (fb bk1) (fb (Array.size h14)) := Dj.new o20.lt
    have d27 : Dj (fb (Array.size h)) (fb (Array.size h14)) := Dj.new o15.lt
    have o28 := o20.ext x23
    have o29 := o15.ext x23
    have S24 := S17.ext' x23
    have o22 : OB _ _ h21 _ (Array.size h14) [(Value.int .i64 (0 : Int)), (Value.int .i64 (0 : Int)), (Value.int .i64 (0 : Int))] 83 := o22
    obtain ⟨h30, w31, o32, t33⟩ := o29.st0 S24.s (v := (Value.int .i64 x11)) (by exact Nat.succ_pos _) trivial
    refine ⟨h30, w31, ?_⟩
    have o32 : OB _ _ h30 _ (Array.size h) [(Value.int .i64 x11)] 3 := o32
    have S34 := S24.then t33 (fun i _ hi => o29.wr i hi)
    have o35 := o28.step t33 (d19).symm
    have o36 := o22.step t33 d27
    obtain ⟨h37, w38, o39, t40⟩ := o36.stA S34.s [(Value.int .i64 y7.Place), (Value.int .i64 y7.Kind), (Value.int .i64 y7.Msg)] rfl (Flats.cons trivial (Flats.cons trivial (Flats.cons trivial Flats.nil)))
    refine ⟨[(Value.int .i64 y7.Place), (Value.int .i64 y7.Kind), (Value.int .i64 y7.Msg)], rfl, rfl, h37, w38, ?_⟩
    have o39 : OB _ _ h37 _ (Array.size h14) [(Value.int .i64 y7.Place), (Value.int .i64 y7.Kind), (Value.int .i64 y7.Msg)] 83 := o39
    have S41 := S34.then t40 (fun i _ hi => o36.wr i hi)
    have o42 := o35.step t40 (d26).symm
    have o43 := o32.step t40 (d27).symm
    refine ⟨_, ldk (k := 1) (Sub.refl _) o39.all rfl, _, rfl, ?_⟩
    obtain ⟨y44, g45, e⟩ := bind_e e
    refine (roadref4_within.walk S41.s  g45).mono ?_
    rintro _ h46 ⟨m47, T48, rfl⟩
    have S49 := S41.grow T48
    have o50 := o42.step T48 Dj.no
    have o51 := o43.step T48 Dj.no
    have o52 := o39.step T48 Dj.no
    refine ⟨_, rfl, ?_⟩
    refine split_not ?_
    refine split_any_e e (fun c73 e => ?_) (fun c73 e => ?_)
    · refine ⟨_, ld0 (Sub.refl _) o52.all rfl, _, rfl, ?_⟩
      obtain ⟨y53, g54, e⟩ := bind_e e
      refine (roadref4_within.walk S49.s  g54).mono ?_
      rintro _ h55 ⟨m56, T57, rfl⟩
      have S58 := S49.grow T57
      have o59 := o50.step T57 Dj.no
      have o60 := o51.step T57 Dj.no
      have o61 := o52.step T57 Dj.no
      refine ⟨_, rfl, ?_⟩
      refine split_not ?_
      refine split_any_e e (fun c72 e => ?_) (fun c72 e => ?_)
      · refine ⟨_, ldk (k := 1) (Sub.refl _) o61.all rfl, _, rfl, ?_⟩
        refine split_dec_e e (fun c71 e => ?_) (fun c71 e => ?_)
        · refine ⟨_, ldk (k := 2) (Sub.refl _) o61.all rfl, _, rfl, ?_⟩
          obtain ⟨y62, g63, e⟩ := bind_e e
          refine (roadref4_within.walk S58.s  g63).mono ?_
          rintro _ h64 ⟨m65, T66, rfl⟩
          have S67 := S58.grow T66
          have o68 := o59.step T66 Dj.no
          have o69 := o60.step T66 Dj.no
          have o70 := o61.step T66 Dj.no
          refine ⟨_, rfl, ?_⟩
          exact (ih _ _ e) _ _ _ _ _ _ _ _ _ _ _ _ _ S67 o68 ⟨_, _, rfl, ke1_0, (re1_0.sub T_api_Event.T (T48.up.trans (T57.up.trans T66.up)))⟩ o70 (show T_api_Event.E _ y7 [(Value.int .i64 y7.Place), (Value.int .i64 y7.Kind), (Value.int .i64 y7.Msg)] from rfl) o69 rfl rfl k9 (r9.sub T_api_Event.T (T48.up.trans (T57.up.trans T66.up))) d26 d19 (d27).symm
        · exact (ih _ _ e) _ _ _ _ _ _ _ _ _ _ _ _ _ S58 o59 ⟨_, _, rfl, ke1_0, (re1_0.sub T_api_Event.T (T48.up.trans T57.up))⟩ o61 (show T_api_Event.E _ y7 [(Value.int .i64 y7.Place), (Value.int .i64 y7.Kind), (Value.int .i64 y7.Msg)] from rfl) o60 rfl rfl k9 (r9.sub T_api_Event.T (T48.up.trans T57.up)) d26 d19 (d27).symm
      · exact (ih _ _ e) _ _ _ _ _ _ _ _ _ _ _ _ _ S58 o59 ⟨_, _, rfl, ke1_0, (re1_0.sub T_api_Event.T (T48.up.trans T57.up))⟩ o61 (show T_api_Event.E _ y7 [(Value.int .i64 y7.Place), (Value.int .i64 y7.Kind), (Value.int .i64 y7.Msg)] from rfl) o60 rfl rfl k9 (r9.sub T_api_Event.T (T48.up.trans T57.up)) d26 d19 (d27).symm
    · cases e
      exact ⟨_, S49, rfl⟩
  · cases e
    exact ⟨_, S, rfl⟩
set_option maxRecDepth 100000 in
theorem roadref4_History.l0_k.step_j0 (go : (p : roadref4_History.l0_k.Pt) → Option (Int)) (ih : ∀ p r, go p = some r → roadref4_History.l0_k.I p r) (y1 : (List T_api_Event)) (y4 : T_api_Event) (y5_c_1 : Int) (a9 : List T_api_Event) (x10 : Int) (x11 : Int) (b22 : Bool) (r : Int) (e : roadref4_History.l0_k.body go (.j0 y1 y4 y5_c_1 a9 x10 x11 b22) = some r) : roadref4_History.l0_k.I (.j0 y1 y4 y5_c_1 a9 x10 x11 b22) r := by
  unfold roadref4_History.l0_k.body at e
  intro h0 m0 h m bk1 cs1 bk4 cs4 bk5_c_1 cs5_c_1 A9 n9 c9 S o1 e1 o4 e4 o5_c_1 e5_c_1 ne9 k9 r9 d0_1 d0_2 d1_2
  obtain ⟨Ae1_0, ce1_0, rfl, ke1_0, re1_0⟩ := e1
  obtain rfl : cs4 = [(Value.int .i64 y4.Place), (Value.int .i64 y4.Kind), (Value.int .i64 y4.Msg)] := e4
  obtain rfl : cs5_c_1 = [(Value.int .i64 y5_c_1)] := e5_c_1
  subst ne9
  refine f23.j0_in ?_
  unfold f23.j0T
  refine split_any_e e (fun c91 e => ?_) (fun c91 e => ?_)
  · cases e
    exact ⟨_, S, rfl⟩
  · refine ⟨_, ldk (k := 1) (Sub.refl _) o4.all rfl, _, rfl, ?_⟩
    refine split_eq_e e (fun c90 e => ?_) (fun c90 e => ?_)
    · obtain ⟨y75, g76, e⟩ := bind_e e
      obtain ⟨m80, L81, u82, s83, t84⟩ := St.lend S.s (fun i => (fb bk1) i ∨ (fb bk5_c_1) i ∨ (fb bk4) i)
      refine (roadref4_History_1.walk s83 (o1.lent L81 (.inl fbr) nn ⟨_, _, rfl, ke1_0, (re1_0.sub T_api_Event.T u82)⟩) (o5_c_1.lent L81 (.inr (.inl fbr)) nn rfl) (o4.lent L81 (.inr (.inr fbr)) nn (show T_api_Event.E _ y4 [(Value.int .i64 y4.Place), (Value.int .i64 y4.Kind), (Value.int .i64 y4.Msg)] from rfl)) g76).mono ?_
      rintro _ h77 ⟨m78, T79, rfl⟩
      have x85 := T79.ext
      have o87 := o1.ext x85
      have o88 := o4.ext x85
      have o89 := o5_c_1.ext x85
      have S86 := S.ext' x85
      refine ⟨_, rfl, ?_⟩
      exact (ih _ _ e) _ _ _ _ _ _ _ _ _ _ _ _ _ S86 o87 ⟨_, _, rfl, ke1_0, re1_0⟩ o88 (show T_api_Event.E _ y4 [(Value.int .i64 y4.Place), (Value.int .i64 y4.Kind), (Value.int .i64 y4.Msg)] from rfl) o89 rfl rfl k9 r9 d0_1 d0_2 d1_2
    · exact (ih _ _ e) _ _ _ _ _ _ _ _ _ _ _ _ _ S o1 ⟨_, _, rfl, ke1_0, re1_0⟩ o4 (show T_api_Event.E _ y4 [(Value.int .i64 y4.Place), (Value.int .i64 y4.Kind), (Value.int .i64 y4.Msg)] from rfl) o5_c_1 rfl rfl k9 r9 d0_1 d0_2 d1_2
set_option maxRecDepth 100000 in
theorem roadref4_History.l0_k.step_j1 (go : (p : roadref4_History.l0_k.Pt) → Option (Int)) (ih : ∀ p r, go p = some r → roadref4_History.l0_k.I p r) (y1 : (List T_api_Event)) (y4 : T_api_Event) (y5_c_1 : Int) (a9 : List T_api_Event) (x10 : Int) (x11 : Int) (b36 : Bool) (r : Int) (e : roadref4_History.l0_k.body go (.j1 y1 y4 y5_c_1 a9 x10 x11 b36) = some r) : roadref4_History.l0_k.I (.j1 y1 y4 y5_c_1 a9 x10 x11 b36) r := by
  unfold roadref4_History.l0_k.body at e
  intro h0 m0 h m bk1 cs1 bk4 cs4 bk5_c_1 cs5_c_1 A9 n9 c9 S o1 e1 o4 e4 o5_c_1 e5_c_1 ne9 k9 r9 d0_1 d0_2 d1_2
  obtain ⟨Ae1_0, ce1_0, rfl, ke1_0, re1_0⟩ := e1
  obtain rfl : cs4 = [(Value.int .i64 y4.Place), (Value.int .i64 y4.Kind), (Value.int .i64 y4.Msg)] := e4
  obtain rfl : cs5_c_1 = [(Value.int .i64 y5_c_1)] := e5_c_1
  subst ne9
  refine f23.j1_in ?_
  unfold f23.j1T
  refine split_any_e e (fun c108 e => ?_) (fun c108 e => ?_)
  · cases e
    exact ⟨_, S, rfl⟩
  · refine ⟨_, ldk (k := 1) (Sub.refl _) o4.all rfl, _, rfl, ?_⟩
    refine split_eq_e e (fun c107 e => ?_) (fun c107 e => ?_)
    · obtain ⟨y92, g93, e⟩ := bind_e e
      obtain ⟨m97, L98, u99, s100, t101⟩ := St.lend S.s (fun i => (fb bk1) i ∨ (fb bk5_c_1) i ∨ (fb bk4) i)
      refine (roadref4_History_1.walk s100 (o1.lent L98 (.inl fbr) nn ⟨_, _, rfl, ke1_0, (re1_0.sub T_api_Event.T u99)⟩) (o5_c_1.lent L98 (.inr (.inl fbr)) nn rfl) (o4.lent L98 (.inr (.inr fbr)) nn (show T_api_Event.E _ y4 [(Value.int .i64 y4.Place), (Value.int .i64 y4.Kind), (Value.int .i64 y4.Msg)] from rfl)) g93).mono ?_
      rintro _ h94 ⟨m95, T96, rfl⟩
      have x102 := T96.ext
      have o104 := o1.ext x102
      have o105 := o4.ext x102
      have o106 := o5_c_1.ext x102
      have S103 := S.ext' x102
      refine ⟨_, rfl, ?_⟩
      exact (ih _ _ e) _ _ _ _ _ _ _ _ _ _ _ _ _ S103 o104 ⟨_, _, rfl, ke1_0, re1_0⟩ o105 (show T_api_Event.E _ y4 [(Value.int .i64 y4.Place), (Value.int .i64 y4.Kind), (Value.int .i64 y4.Msg)] from rfl) o106 rfl rfl k9 r9 d0_1 d0_2 d1_2
    · exact (ih _ _ e) _ _ _ _ _ _ _ _ _ _ _ _ _ S o1 ⟨_, _, rfl, ke1_0, re1_0⟩ o4 (show T_api_Event.E _ y4 [(Value.int .i64 y4.Place), (Value.int .i64 y4.Kind), (Value.int .i64 y4.Msg)] from rfl) o5_c_1 rfl rfl k9 r9 d0_1 d0_2 d1_2
set_option maxRecDepth 100000 in
theorem roadref4_History.l0_k.step_j2 (go : (p : roadref4_History.l0_k.Pt) → Option (Int)) (ih : ∀ p r, go p = some r → roadref4_History.l0_k.I p r) (y1 : (List T_api_Event)) (y4 : T_api_Event) (y5_c_1 : Int) (a9 : List T_api_Event) (x10 : Int) (x11 : Int) (b44 : Bool) (r : Int) (e : roadref4_History.l0_k.body go (.j2 y1 y4 y5_c_1 a9 x10 x11 b44) = some r) : roadref4_History.l0_k.I (.j2 y1 y4 y5_c_1 a9 x10 x11 b44) r := by
  unfold roadref4_History.l0_k.body at e
  intro h0 m0 h m bk1 cs1 bk4 cs4 bk5_c_1 cs5_c_1 A9 n9 c9 S o1 e1 o4 e4 o5_c_1 e5_c_1 ne9 k9 r9 d0_1 d0_2 d1_2
  obtain ⟨Ae1_0, ce1_0, rfl, ke1_0, re1_0⟩ := e1
  obtain rfl : cs4 = [(Value.int .i64 y4.Place), (Value.int .i64 y4.Kind), (Value.int .i64 y4.Msg)] := e4
  obtain rfl : cs5_c_1 = [(Value.int .i64 y5_c_1)] := e5_c_1
  subst ne9
  refine f23.j2_in ?_
  unfold f23.j2T
  refine split_any_e e (fun c126 e => ?_) (fun c126 e => ?_)
  · cases e
    exact ⟨_, S, rfl⟩
  · refine ⟨_, ldk (k := 1) (Sub.refl _) o4.all rfl, _, rfl, ?_⟩
    refine split_eq_e e (fun c125 e => ?_) (fun c125 e => ?_)
    · obtain ⟨y109, g110, e⟩ := bind_e e
      obtain ⟨m114, L115, u116, s117, t118⟩ := St.lend S.s (fun i => (fb bk1) i ∨ (fb bk5_c_1) i ∨ (fb bk4) i)
      refine (roadref4_History_1.walk s117 (o1.lent L115 (.inl fbr) nn ⟨_, _, rfl, ke1_0, (re1_0.sub T_api_Event.T u116)⟩) (o5_c_1.lent L115 (.inr (.inl fbr)) nn rfl) (o4.lent L115 (.inr (.inr fbr)) nn (show T_api_Event.E _ y4 [(Value.int .i64 y4.Place), (Value.int .i64 y4.Kind), (Value.int .i64 y4.Msg)] from rfl)) g110).mono ?_
      rintro _ h111 ⟨m112, T113, rfl⟩
      have x119 := T113.ext
      have o121 := o1.ext x119
      have o122 := o4.ext x119
      have o123 := o5_c_1.ext x119
      have S120 := S.ext' x119
      refine ⟨_, rfl, ?_⟩
      refine split_any_e e (fun c124 e => ?_) (fun c124 e => ?_)
      · cases e
        exact ⟨_, S120, rfl⟩
      · exact (ih _ _ e) _ _ _ _ _ _ _ _ _ S120 o121 ⟨_, _, rfl, ke1_0, re1_0⟩ rfl k9 r9
    · exact (ih _ _ e) _ _ _ _ _ _ _ _ _ S o1 ⟨_, _, rfl, ke1_0, re1_0⟩ rfl k9 r9
theorem roadref4_History.l0_k.all {p : roadref4_History.l0_k.Pt} {r : (Int)} (e : roadref4_History.l0_k.go p = some r) : roadref4_History.l0_k.I p r := fixF_ind (β := fun _ => (Int)) roadref4_History.l0_k.mono (I := roadref4_History.l0_k.I) (fun go ih p r e => match p with
  | .l0 y1 a9 x10 x11 => roadref4_History.l0_k.step_l0 go ih y1 a9 x10 x11 r e
  | .j0 y1 y4 y5_c_1 a9 x10 x11 b22 => roadref4_History.l0_k.step_j0 go ih y1 y4 y5_c_1 a9 x10 x11 b22 r e
  | .j1 y1 y4 y5_c_1 a9 x10 x11 b36 => roadref4_History.l0_k.step_j1 go ih y1 y4 y5_c_1 a9 x10 x11 b36 r e
  | .j2 y1 y4 y5_c_1 a9 x10 x11 b44 => roadref4_History.l0_k.step_j2 go ih y1 y4 y5_c_1 a9 x10 x11 b44 r e
  ) e
theorem roadref4_History.l0.walk {h0 m0 h m : Heap} {bk1 : Nat} {cs1 : List Value} {A9 : Option Addr} {n9 c9 : Nat} {y1 : (List T_api_Event)} {a9 : List T_api_Event} {x10 : Int} {x11 : Int} (S : St No h0 m0 h m) (o1 : OB No h0 h m bk1 cs1 35) (e1 : (eRow 3 T_api_Event.E) m y1 cs1) (ne9 : n9 = List.length a9) (k9 : List.length a9 ≤ c9) (r9 : Rd 3 T_api_Event.E m A9 a9) {r : Int} (e : roadref4_History.l0 y1 a9 x10 x11 = some r) : f23.l0 (roadref4_History.post No h0 m0 r) (⟨bk1, 0, none⟩ : Addr) A9 n9 c9 x10 x11 h := roadref4_History.l0_k.all (p := .l0 y1 a9 x10 x11) e h0 m0 h m bk1 cs1 A9 n9 c9 S o1 e1 ne9 k9 r9
theorem roadref4_History.j0.walk {h0 m0 h m : Heap} {bk1 : Nat} {cs1 : List Value} {bk4 : Nat} {cs4 : List Value} {bk5_c_1 : Nat} {cs5_c_1 : List Value} {A9 : Option Addr} {n9 c9 : Nat} {y1 : (List T_api_Event)} {y4 : T_api_Event} {y5_c_1 : Int} {a9 : List T_api_Event} {x10 : Int} {x11 : Int} {b22 : Bool} (S : St No h0 m0 h m) (o1 : OB No h0 h m bk1 cs1 35) (e1 : (eRow 3 T_api_Event.E) m y1 cs1) (o4 : OB No h0 h m bk4 cs4 83) (e4 : T_api_Event.E m y4 cs4) (o5_c_1 : OB No h0 h m bk5_c_1 cs5_c_1 3) (e5_c_1 : (eInt .i64) m y5_c_1 cs5_c_1) (ne9 : n9 = List.length a9) (k9 : List.length a9 ≤ c9) (r9 : Rd 3 T_api_Event.E m A9 a9) (d0_1 : Dj (fb bk1) (fb bk4)) (d0_2 : Dj (fb bk1) (fb bk5_c_1)) (d1_2 : Dj (fb bk4) (fb bk5_c_1)) {r : Int} (e : roadref4_History.j0 y1 y4 y5_c_1 a9 x10 x11 b22 = some r) : f23.j0 (roadref4_History.post No h0 m0 r) (⟨bk1, 0, none⟩ : Addr) (⟨bk4, 0, none⟩ : Addr) (⟨bk1, 0, none⟩ : Addr) (⟨bk5_c_1, 0, none⟩ : Addr) (⟨bk4, 0, none⟩ : Addr) A9 n9 c9 x10 x11 b22 h := roadref4_History.l0_k.all (p := .j0 y1 y4 y5_c_1 a9 x10 x11 b22) e h0 m0 h m bk1 cs1 bk4 cs4 bk5_c_1 cs5_c_1 A9 n9 c9 S o1 e1 o4 e4 o5_c_1 e5_c_1 ne9 k9 r9 d0_1 d0_2 d1_2
theorem roadref4_History.j1.walk {h0 m0 h m : Heap} {bk1 : Nat} {cs1 : List Value} {bk4 : Nat} {cs4 : List Value} {bk5_c_1 : Nat} {cs5_c_1 : List Value} {A9 : Option Addr} {n9 c9 : Nat} {y1 : (List T_api_Event)} {y4 : T_api_Event} {y5_c_1 : Int} {a9 : List T_api_Event} {x10 : Int} {x11 : Int} {b36 : Bool} (S : St No h0 m0 h m) (o1 : OB No h0 h m bk1 cs1 35) (e1 : (eRow 3 T_api_Event.E) m y1 cs1) (o4 : OB No h0 h m bk4 cs4 83) (e4 : T_api_Event.E m y4 cs4) (o5_c_1 : OB No h0 h m bk5_c_1 cs5_c_1 3) (e5_c_1 : (eInt .i64) m y5_c_1 cs5_c_1) (ne9 : n9 = List.length a9) (k9 : List.length a9 ≤ c9) (r9 : Rd 3 T_api_Event.E m A9 a9) (d0_1 : Dj (fb bk1) (fb bk4)) (d0_2 : Dj (fb bk1) (fb bk5_c_1)) (d1_2 : Dj (fb bk4) (fb bk5_c_1)) {r : Int} (e : roadref4_History.j1 y1 y4 y5_c_1 a9 x10 x11 b36 = some r) : f23.j1 (roadref4_History.post No h0 m0 r) (⟨bk1, 0, none⟩ : Addr) (⟨bk4, 0, none⟩ : Addr) (⟨bk1, 0, none⟩ : Addr) (⟨bk5_c_1, 0, none⟩ : Addr) (⟨bk4, 0, none⟩ : Addr) A9 n9 c9 x10 x11 b36 h := roadref4_History.l0_k.all (p := .j1 y1 y4 y5_c_1 a9 x10 x11 b36) e h0 m0 h m bk1 cs1 bk4 cs4 bk5_c_1 cs5_c_1 A9 n9 c9 S o1 e1 o4 e4 o5_c_1 e5_c_1 ne9 k9 r9 d0_1 d0_2 d1_2
theorem roadref4_History.j2.walk {h0 m0 h m : Heap} {bk1 : Nat} {cs1 : List Value} {bk4 : Nat} {cs4 : List Value} {bk5_c_1 : Nat} {cs5_c_1 : List Value} {A9 : Option Addr} {n9 c9 : Nat} {y1 : (List T_api_Event)} {y4 : T_api_Event} {y5_c_1 : Int} {a9 : List T_api_Event} {x10 : Int} {x11 : Int} {b44 : Bool} (S : St No h0 m0 h m) (o1 : OB No h0 h m bk1 cs1 35) (e1 : (eRow 3 T_api_Event.E) m y1 cs1) (o4 : OB No h0 h m bk4 cs4 83) (e4 : T_api_Event.E m y4 cs4) (o5_c_1 : OB No h0 h m bk5_c_1 cs5_c_1 3) (e5_c_1 : (eInt .i64) m y5_c_1 cs5_c_1) (ne9 : n9 = List.length a9) (k9 : List.length a9 ≤ c9) (r9 : Rd 3 T_api_Event.E m A9 a9) (d0_1 : Dj (fb bk1) (fb bk4)) (d0_2 : Dj (fb bk1) (fb bk5_c_1)) (d1_2 : Dj (fb bk4) (fb bk5_c_1)) {r : Int} (e : roadref4_History.j2 y1 y4 y5_c_1 a9 x10 x11 b44 = some r) : f23.j2 (roadref4_History.post No h0 m0 r) (⟨bk1, 0, none⟩ : Addr) (⟨bk4, 0, none⟩ : Addr) (⟨bk1, 0, none⟩ : Addr) (⟨bk5_c_1, 0, none⟩ : Addr) (⟨bk4, 0, none⟩ : Addr) A9 n9 c9 x10 x11 b44 h := roadref4_History.l0_k.all (p := .j2 y1 y4 y5_c_1 a9 x10 x11 b44) e h0 m0 h m bk1 cs1 bk4 cs4 bk5_c_1 cs5_c_1 A9 n9 c9 S o1 e1 o4 e4 o5_c_1 e5_c_1 ne9 k9 r9 d0_1 d0_2 d1_2

noncomputable def roadref4_History (a0 : List T_api_Event) : Option (Int) :=
  if (((List.length a0) : Nat) : Int) > (200 : Int) then (some ((2 : Int))) else ((roadref4_History.l0 a0 a0 (((List.length a0) : Nat) : Int) (0 : Int)))
set_option maxRecDepth 100000 in
theorem roadref4_History.walk {h m : Heap} {A0 : Option Addr} {n0 c0 : Nat} {a0 : List T_api_Event} (s : Sub m h) (ne0 : n0 = List.length a0) (k0 : List.length a0 ≤ c0) (r0 : Rd 3 T_api_Event.E m A0 a0) {r : Int} (e : roadref4_History a0 = some r) : Run Try.prog 23 #[Value.slice A0 n0 c0] h (roadref4_History.post No h m r) := by
  unfold roadref4_History at e
  subst ne0
  have S : St No h m h m := .refl s
  refine f23.run ?_
  unfold f23.runT
  refine new_in S fun h1 o2 x3 => ?_
  have S4 := S.ext' x3
  have o2 : OB _ _ h1 _ (Array.size h) [(Value.slice A0 (List.length a0) c0)] 35 := o2
  refine ⟨_, ld0 (Sub.refl _) o2.all rfl, _, _, _, rfl, ?_⟩
  refine split_dec_e e (fun c6 e => ?_) (fun c6 e => ?_)
  · cases e
    exact ⟨_, S4, rfl⟩
  · refine ⟨_, ld0 (Sub.refl _) o2.all rfl, _, _, _, rfl, ?_⟩
    exact roadref4_History.l0.walk S4 o2 ⟨_, _, rfl, k0, r0⟩ rfl k0 r0 e

/-! ### 86 roadstead/clock.Check -/
def clock_Check.post (W : Nat → Prop) (h0 m0 : Heap) (r : Int) (v : Value) (h : Heap) : Prop := ∃ m , St W h0 m0 h m ∧ v = .int .i64 r
inductive clock_Check.l0_k.Pt where
  | l0 (es3 : (List (Int × Bool))) (es4 : (List (Int × Bool))) (a12 : List T_api_Event) (x13 : Int) (x14 : Int)
  | j0 (es3 : (List (Int × Bool))) (es4 : (List (Int × Bool))) (y6 : T_api_Event) (a12 : List T_api_Event) (x13 : Int) (x14 : Int)
  | j1 (es3 : (List (Int × Bool))) (es4 : (List (Int × Bool))) (y6 : T_api_Event) (a12 : List T_api_Event) (x13 : Int) (x14 : Int)
noncomputable def clock_Check.l0_k.body (go : (p : clock_Check.l0_k.Pt) → Option (Int)) : (p : clock_Check.l0_k.Pt) → Option (Int)
  | .l0 es3 es4 a12 x13 x14 => if x14 < x13 then (Option.bind (gi a12 x14) fun y14 => if y14.Kind < (1 : Int) then (some ((3 : Int))) else (if y14.Kind > (3 : Int) then (some ((3 : Int))) else ((go (.j0 es3 es4 y14 a12 x13 x14))))) else (some ((0 : Int)))
  | .j0 es3 es4 y6 a12 x13 x14 => if y6.Place < (0 : Int) then (some ((1 : Int))) else (if y6.Place ≥ (8 : Int) then (some ((1 : Int))) else (if y6.Kind = (1 : Int) then ((go (.j1 es3 es4 y6 a12 x13 x14))) else (if y6.Msg < (0 : Int) then (some ((1 : Int))) else (if y6.Msg > (999 : Int) then (some ((1 : Int))) else ((go (.j1 es3 es4 y6 a12 x13 x14)))))))
  | .j1 es3 es4 y6 a12 x13 x14 => if y6.Kind = (2 : Int) then (if (pgd es3 y6.Msg false) = true then (some ((5 : Int))) else (Option.bind (some (pset es3 y6.Msg true)) fun l50 => (go (.l0 l50 es4 a12 x13 (IntKind.wrap .i64 (x14 + (1 : Int))))))) else (if y6.Kind = (3 : Int) then (if (pgd es3 y6.Msg false) = true then (if (pgd es4 y6.Msg false) = true then (some ((5 : Int))) else (Option.bind (some (pset es4 y6.Msg true)) fun l63 => (go (.l0 es3 l63 a12 x13 (IntKind.wrap .i64 (x14 + (1 : Int))))))) else (some ((4 : Int)))) else ((go (.l0 es3 es4 a12 x13 (IntKind.wrap .i64 (x14 + (1 : Int)))))))
theorem clock_Check.l0_k.mono : MonoF (β := fun _ => (Int)) clock_Check.l0_k.body := fun f g hfg p => match p with
  | .l0 es3 es4 a12 x13 x14 => LeO.ite (LeO.bind (LeO.refl _) fun y14 => LeO.ite (LeO.refl _) (LeO.ite (LeO.refl _) ((hfg _)))) (LeO.refl _)
  | .j0 es3 es4 y6 a12 x13 x14 => LeO.ite (LeO.refl _) (LeO.ite (LeO.refl _) (LeO.ite ((hfg _)) (LeO.ite (LeO.refl _) (LeO.ite (LeO.refl _) ((hfg _))))))
  | .j1 es3 es4 y6 a12 x13 x14 => LeO.ite (LeO.ite (LeO.refl _) (LeO.bind (LeO.refl _) fun l50 => (hfg _))) (LeO.ite (LeO.ite (LeO.ite (LeO.refl _) (LeO.bind (LeO.refl _) fun l63 => (hfg _))) (LeO.refl _)) ((hfg _)))
noncomputable def clock_Check.l0_k.go (p : clock_Check.l0_k.Pt) : Option (Int) := fixF (β := fun _ => (Int)) clock_Check.l0_k.body p
noncomputable def clock_Check.l0 (es3 : (List (Int × Bool))) (es4 : (List (Int × Bool))) (a12 : List T_api_Event) (x13 : Int) (x14 : Int) : Option (Int) := clock_Check.l0_k.go (.l0 es3 es4 a12 x13 x14)
noncomputable def clock_Check.j0 (es3 : (List (Int × Bool))) (es4 : (List (Int × Bool))) (y6 : T_api_Event) (a12 : List T_api_Event) (x13 : Int) (x14 : Int) : Option (Int) := clock_Check.l0_k.go (.j0 es3 es4 y6 a12 x13 x14)
noncomputable def clock_Check.j1 (es3 : (List (Int × Bool))) (es4 : (List (Int × Bool))) (y6 : T_api_Event) (a12 : List T_api_Event) (x13 : Int) (x14 : Int) : Option (Int) := clock_Check.l0_k.go (.j1 es3 es4 y6 a12 x13 x14)
theorem clock_Check.l0_eq (es3 : (List (Int × Bool))) (es4 : (List (Int × Bool))) (a12 : List T_api_Event) (x13 : Int) (x14 : Int) : clock_Check.l0 es3 es4 a12 x13 x14 = if x14 < x13 then (Option.bind (gi a12 x14) fun y14 => if y14.Kind < (1 : Int) then (some ((3 : Int))) else (if y14.Kind > (3 : Int) then (some ((3 : Int))) else ((clock_Check.j0 es3 es4 y14 a12 x13 x14)))) else (some ((0 : Int))) := fixF_eq clock_Check.l0_k.mono _
theorem clock_Check.j0_eq (es3 : (List (Int × Bool))) (es4 : (List (Int × Bool))) (y6 : T_api_Event) (a12 : List T_api_Event) (x13 : Int) (x14 : Int) : clock_Check.j0 es3 es4 y6 a12 x13 x14 = if y6.Place < (0 : Int) then (some ((1 : Int))) else (if y6.Place ≥ (8 : Int) then (some ((1 : Int))) else (if y6.Kind = (1 : Int) then ((clock_Check.j1 es3 es4 y6 a12 x13 x14)) else (if y6.Msg < (0 : Int) then (some ((1 : Int))) else (if y6.Msg > (999 : Int) then (some ((1 : Int))) else ((clock_Check.j1 es3 es4 y6 a12 x13 x14)))))) := fixF_eq clock_Check.l0_k.mono _
theorem clock_Check.j1_eq (es3 : (List (Int × Bool))) (es4 : (List (Int × Bool))) (y6 : T_api_Event) (a12 : List T_api_Event) (x13 : Int) (x14 : Int) : clock_Check.j1 es3 es4 y6 a12 x13 x14 = if y6.Kind = (2 : Int) then (if (pgd es3 y6.Msg false) = true then (some ((5 : Int))) else (Option.bind (some (pset es3 y6.Msg true)) fun l50 => (clock_Check.l0 l50 es4 a12 x13 (IntKind.wrap .i64 (x14 + (1 : Int)))))) else (if y6.Kind = (3 : Int) then (if (pgd es3 y6.Msg false) = true then (if (pgd es4 y6.Msg false) = true then (some ((5 : Int))) else (Option.bind (some (pset es4 y6.Msg true)) fun l63 => (clock_Check.l0 es3 l63 a12 x13 (IntKind.wrap .i64 (x14 + (1 : Int)))))) else (some ((4 : Int)))) else ((clock_Check.l0 es3 es4 a12 x13 (IntKind.wrap .i64 (x14 + (1 : Int)))))) := fixF_eq clock_Check.l0_k.mono _
def clock_Check.l0_k.I : (p : clock_Check.l0_k.Pt) → (Int) → Prop
  | .l0 es3 es4 a12 x13 x14, r => ∀ (h0 m0 h m : Heap) (bk3 : Nat) (bk4 : Nat) (A12 : Option Addr) (n12 c12 : Nat) (S : St No h0 m0 h m) (o3 : OM No h0 (eV0 eBool) (fun n : Int => Value.int .i64 n) h m bk3 es3) (o4 : OM No h0 (eV0 eBool) (fun n : Int => Value.int .i64 n) h m bk4 es4) (ne12 : n12 = List.length a12) (k12 : List.length a12 ≤ c12) (r12 : Rd 3 T_api_Event.E m A12 a12) (d0_1 : Dj (fb bk3) (fb bk4)), f86.l0 (clock_Check.post No h0 m0 r) (Value.map (some bk3)) (Value.map (some bk4)) A12 n12 c12 x13 x14 h
  | .j0 es3 es4 y6 a12 x13 x14, r => ∀ (h0 m0 h m : Heap) (bk3 : Nat) (bk4 : Nat) (bk6 : Nat) (cs6 : List Value) (A12 : Option Addr) (n12 c12 : Nat) (S : St No h0 m0 h m) (o3 : OM No h0 (eV0 eBool) (fun n : Int => Value.int .i64 n) h m bk3 es3) (o4 : OM No h0 (eV0 eBool) (fun n : Int => Value.int .i64 n) h m bk4 es4) (o6 : OB No h0 h m bk6 cs6 83) (e6 : T_api_Event.E m y6 cs6) (ne12 : n12 = List.length a12) (k12 : List.length a12 ≤ c12) (r12 : Rd 3 T_api_Event.E m A12 a12) (d0_1 : Dj (fb bk3) (fb bk4)) (d0_2 : Dj (fb bk3) (fb bk6)) (d1_2 : Dj (fb bk4) (fb bk6)), f86.j0 (clock_Check.post No h0 m0 r) (Value.map (some bk3)) (Value.map (some bk4)) (⟨bk6, 0, none⟩ : Addr) A12 n12 c12 x13 x14 h
  | .j1 es3 es4 y6 a12 x13 x14, r => ∀ (h0 m0 h m : Heap) (bk3 : Nat) (bk4 : Nat) (bk6 : Nat) (cs6 : List Value) (A12 : Option Addr) (n12 c12 : Nat) (S : St No h0 m0 h m) (o3 : OM No h0 (eV0 eBool) (fun n : Int => Value.int .i64 n) h m bk3 es3) (o4 : OM No h0 (eV0 eBool) (fun n : Int => Value.int .i64 n) h m bk4 es4) (o6 : OB No h0 h m bk6 cs6 83) (e6 : T_api_Event.E m y6 cs6) (ne12 : n12 = List.length a12) (k12 : List.length a12 ≤ c12) (r12 : Rd 3 T_api_Event.E m A12 a12) (d0_1 : Dj (fb bk3) (fb bk4)) (d0_2 : Dj (fb bk3) (fb bk6)) (d1_2 : Dj (fb bk4) (fb bk6)), f86.j1 (clock_Check.post No h0 m0 r) (Value.map (some bk3)) (Value.map (some bk4)) (⟨bk6, 0, none⟩ : Addr) A12 n12 c12 x13 x14 h
set_option maxRecDepth 100000 in
theorem clock_Check.l0_k.step_l0 (go : (p : clock_Check.l0_k.Pt) → Option (Int)) (ih : ∀ p r, go p = some r → clock_Check.l0_k.I p r) (es3 : (List (Int × Bool))) (es4 : (List (Int × Bool))) (a12 : List T_api_Event) (x13 : Int) (x14 : Int) (r : Int) (e : clock_Check.l0_k.body go (.l0 es3 es4 a12 x13 x14) = some r) : clock_Check.l0_k.I (.l0 es3 es4 a12 x13 x14) r := by
  unfold clock_Check.l0_k.body at e
  intro h0 m0 h m bk3 bk4 A12 n12 c12 S o3 o4 ne12 k12 r12 d0_1
  subst ne12
  refine f86.l0_in ?_
  unfold f86.l0T
  refine split_dec_e e (fun c39 e => ?_) (fun c39 e => ?_)
  · obtain ⟨y14, g15, e⟩ := bind_e e
    refine r12.addr rfl g15 fun a16 cs17 ha18 hc19 he20 => ?_
    obtain rfl : cs17 = [(Value.int .i64 y14.Place), (Value.int .i64 y14.Kind), (Value.int .i64 y14.Msg)] := he20
    refine ⟨_, ldA S.s hc19, ?_⟩
    refine new_in S fun h21 o22 x23 => ?_
    have d26 : Dj (fb bk3) (fb (Array.size h)) := Dj.new o3.lt
    have d27 : Dj (fb bk4) (fb (Array.size h)) := Dj.new o4.lt
    have o28 := o3.ext x23
    have o29 := o4.ext x23
    have S24 := S.ext' x23
    have o22 : OB _ _ h21 _ (Array.size h) [(Value.int .i64 (0 : Int)), (Value.int .i64 (0 : Int)), (Value.int .i64 (0 : Int))] 83 := o22
    obtain ⟨h30, w31, o32, t33⟩ := o22.stA S24.s [(Value.int .i64 y14.Place), (Value.int .i64 y14.Kind), (Value.int .i64 y14.Msg)] rfl (Flats.cons trivial (Flats.cons trivial (Flats.cons trivial Flats.nil)))
    refine ⟨[(Value.int .i64 y14.Place), (Value.int .i64 y14.Kind), (Value.int .i64 y14.Msg)], rfl, rfl, h30, w31, ?_⟩
    have o32 : OB _ _ h30 _ (Array.size h) [(Value.int .i64 y14.Place), (Value.int .i64 y14.Kind), (Value.int .i64 y14.Msg)] 83 := o32
    have S34 := S24.then t33 (fun i _ hi => o22.wr i hi)
    have o35 := o28.step (monoV0 tell_bool) t33 (d26).symm
    have o36 := o29.step (monoV0 tell_bool) t33 (d27).symm
    refine ⟨_, ldk (k := 1) (Sub.refl _) o32.all rfl, _, rfl, ?_⟩
    refine split_dec_e e (fun c38 e => ?_) (fun c38 e => ?_)
    · cases e
      exact ⟨_, S34, rfl⟩
    · refine ⟨_, ldk (k := 1) (Sub.refl _) o32.all rfl, _, rfl, ?_⟩
      refine split_dec_e e (fun c37 e => ?_) (fun c37 e => ?_)
      · cases e
        exact ⟨_, S34, rfl⟩
      · exact (ih _ _ e) _ _ _ _ _ _ _ _ _ _ _ S34 o35 o36 o32 (show T_api_Event.E _ y14 [(Value.int .i64 y14.Place), (Value.int .i64 y14.Kind), (Value.int .i64 y14.Msg)] from rfl) rfl k12 r12 d0_1 d26 d27
  · cases e
    exact ⟨_, S, rfl⟩
set_option maxRecDepth 100000 in
theorem clock_Check.l0_k.step_j0 (go : (p : clock_Check.l0_k.Pt) → Option (Int)) (ih : ∀ p r, go p = some r → clock_Check.l0_k.I p r) (es3 : (List (Int × Bool))) (es4 : (List (Int × Bool))) (y6 : T_api_Event) (a12 : List T_api_Event) (x13 : Int) (x14 : Int) (r : Int) (e : clock_Check.l0_k.body go (.j0 es3 es4 y6 a12 x13 x14) = some r) : clock_Check.l0_k.I (.j0 es3 es4 y6 a12 x13 x14) r := by
  unfold clock_Check.l0_k.body at e
  intro h0 m0 h m bk3 bk4 bk6 cs6 A12 n12 c12 S o3 o4 o6 e6 ne12 k12 r12 d0_1 d0_2 d1_2
  obtain rfl : cs6 = [(Value.int .i64 y6.Place), (Value.int .i64 y6.Kind), (Value.int .i64 y6.Msg)] := e6
  subst ne12
  refine f86.j0_in ?_
  unfold f86.j0T
  refine ⟨_, ld0 (Sub.refl _) o6.all rfl, _, rfl, ?_⟩
  refine split_dec_e e (fun c44 e => ?_) (fun c44 e => ?_)
  · cases e
    exact ⟨_, S, rfl⟩
  · refine ⟨_, ld0 (Sub.refl _) o6.all rfl, _, rfl, ?_⟩
    refine split_dec_e e (fun c43 e => ?_) (fun c43 e => ?_)
    · cases e
      exact ⟨_, S, rfl⟩
    · refine ⟨_, ldk (k := 1) (Sub.refl _) o6.all rfl, _, rfl, ?_⟩
      refine split_ne_e e (fun c42 e => ?_) (fun c42 e => ?_)
      · refine ⟨_, ldk (k := 2) (Sub.refl _) o6.all rfl, _, rfl, ?_⟩
        refine split_dec_e e (fun c41 e => ?_) (fun c41 e => ?_)
        · cases e
          exact ⟨_, S, rfl⟩
        · refine ⟨_, ldk (k := 2) (Sub.refl _) o6.all rfl, _, rfl, ?_⟩
          refine split_dec_e e (fun c40 e => ?_) (fun c40 e => ?_)
          · cases e
            exact ⟨_, S, rfl⟩
          · exact (ih _ _ e) _ _ _ _ _ _ _ _ _ _ _ S o3 o4 o6 (show T_api_Event.E _ y6 [(Value.int .i64 y6.Place), (Value.int .i64 y6.Kind), (Value.int .i64 y6.Msg)] from rfl) rfl k12 r12 d0_1 d0_2 d1_2
      · exact (ih _ _ e) _ _ _ _ _ _ _ _ _ _ _ S o3 o4 o6 (show T_api_Event.E _ y6 [(Value.int .i64 y6.Place), (Value.int .i64 y6.Kind), (Value.int .i64 y6.Msg)] from rfl) rfl k12 r12 d0_1 d0_2 d1_2
set_option maxRecDepth 100000 in
theorem clock_Check.l0_k.step_j1 (go : (p : clock_Check.l0_k.Pt) → Option (Int)) (ih : ∀ p r, go p = some r → clock_Check.l0_k.I p r) (es3 : (List (Int × Bool))) (es4 : (List (Int × Bool))) (y6 : T_api_Event) (a12 : List T_api_Event) (x13 : Int) (x14 : Int) (r : Int) (e : clock_Check.l0_k.body go (.j1 es3 es4 y6 a12 x13 x14) = some r) : clock_Check.l0_k.I (.j1 es3 es4 y6 a12 x13 x14) r := by
  unfold clock_Check.l0_k.body at e
  intro h0 m0 h m bk3 bk4 bk6 cs6 A12 n12 c12 S o3 o4 o6 e6 ne12 k12 r12 d0_1 d0_2 d1_2
  obtain rfl : cs6 = [(Value.int .i64 y6.Place), (Value.int .i64 y6.Kind), (Value.int .i64 y6.Msg)] := e6
  subst ne12
  refine f86.j1_in ?_
  unfold f86.j1T
  refine ⟨_, ldk (k := 1) (Sub.refl _) o6.all rfl, _, rfl, ?_⟩
  refine split_eq_e e (fun c71 e => ?_) (fun c71 e => ?_)
  · refine ⟨_, ldk (k := 2) (Sub.refl _) o6.all rfl, _, rfl, ?_⟩
    refine OM.look (zv := false) (z := (Value.bool false)) o3 (keyOk_int (key := 3) (elem := 4) (by kernel_rfl) (by kernel_rfl)) y6.Msg (by kernel_rfl) rfl (fun v45 hv46 => ?_)
    obtain rfl : v45 = (Value.bool (pgd es3 y6.Msg false)) := (List.cons.inj (show [v45] = [(Value.bool (pgd es3 y6.Msg false))] from hv46)).1
    refine ⟨_, rfl, ?_⟩
    refine split_any_e e (fun c55 e => ?_) (fun c55 e => ?_)
    · cases e
      exact ⟨_, S, rfl⟩
    · refine ⟨_, ldk (k := 2) (Sub.refl _) o6.all rfl, _, rfl, ?_⟩
      obtain ⟨l50, g51, e⟩ := bind_e e
      refine OM.upd (x := true) (v := (Value.bool true)) o3 S.s (keyOk_int (key := 3) (elem := 4) (by kernel_rfl) (by kernel_rfl)) y6.Msg (show (eV0 eBool) m true (Value.bool true) from rfl) fun h47 o48 t49 => ?_
      have g51 := Option.some.inj g51
      rw [g51] at o48
      have S52 := S.then t49 (fun i _ hi => o3.wr i hi)
      have o53 := o4.step (monoV0 tell_bool) t49 d0_1
      have o54 := o6.step t49 d0_2
      exact (ih _ _ e) _ _ _ _ _ _ _ _ _ S52 o48 o53 rfl k12 r12 d0_1
  · refine split_eq_e e (fun c70 e => ?_) (fun c70 e => ?_)
    · refine ⟨_, ldk (k := 2) (Sub.refl _) o6.all rfl, _, rfl, ?_⟩
      refine OM.look (zv := false) (z := (Value.bool false)) o3 (keyOk_int (key := 3) (elem := 4) (by kernel_rfl) (by kernel_rfl)) y6.Msg (by kernel_rfl) rfl (fun v56 hv57 => ?_)
      obtain rfl : v56 = (Value.bool (pgd es3 y6.Msg false)) := (List.cons.inj (show [v56] = [(Value.bool (pgd es3 y6.Msg false))] from hv57)).1
      refine ⟨_, rfl, ?_⟩
      refine split_not ?_
      refine split_any_e e (fun c69 e => ?_) (fun c69 e => ?_)
      · refine ⟨_, ldk (k := 2) (Sub.refl _) o6.all rfl, _, rfl, ?_⟩
        refine OM.look (zv := false) (z := (Value.bool false)) o4 (keyOk_int (key := 3) (elem := 4) (by kernel_rfl) (by kernel_rfl)) y6.Msg (by kernel_rfl) rfl (fun v58 hv59 => ?_)
        obtain rfl : v58 = (Value.bool (pgd es4 y6.Msg false)) := (List.cons.inj (show [v58] = [(Value.bool (pgd es4 y6.Msg false))] from hv59)).1
        refine ⟨_, rfl, ?_⟩
        refine split_any_e e (fun c68 e => ?_) (fun c68 e => ?_)
        · cases e
          exact ⟨_, S, rfl⟩
        · refine ⟨_, ldk (k := 2) (Sub.refl _) o6.all rfl, _, rfl, ?_⟩
          obtain ⟨l63, g64, e⟩ := bind_e e
          refine OM.upd (x := true) (v := (Value.bool true)) o4 S.s (keyOk_int (key := 3) (elem := 4) (by kernel_rfl) (by kernel_rfl)) y6.Msg (show (eV0 eBool) m true (Value.bool true) from rfl) fun h60 o61 t62 => ?_
          have g64 := Option.some.inj g64
          rw [g64] at o61
          have S65 := S.then t62 (fun i _ hi => o4.wr i hi)
          have o66 := o3.step (monoV0 tell_bool) t62 (d0_1).symm
          have o67 := o6.step t62 d1_2
          exact (ih _ _ e) _ _ _ _ _ _ _ _ _ S65 o66 o61 rfl k12 r12 d0_1
      · cases e
        exact ⟨_, S, rfl⟩
    · exact (ih _ _ e) _ _ _ _ _ _ _ _ _ S o3 o4 rfl k12 r12 d0_1
theorem clock_Check.l0_k.all {p : clock_Check.l0_k.Pt} {r : (Int)} (e : clock_Check.l0_k.go p = some r) : clock_Check.l0_k.I p r := fixF_ind (β := fun _ => (Int)) clock_Check.l0_k.mono (I := clock_Check.l0_k.I) (fun go ih p r e => match p with
  | .l0 es3 es4 a12 x13 x14 => clock_Check.l0_k.step_l0 go ih es3 es4 a12 x13 x14 r e
  | .j0 es3 es4 y6 a12 x13 x14 => clock_Check.l0_k.step_j0 go ih es3 es4 y6 a12 x13 x14 r e
  | .j1 es3 es4 y6 a12 x13 x14 => clock_Check.l0_k.step_j1 go ih es3 es4 y6 a12 x13 x14 r e
  ) e
theorem clock_Check.l0.walk {h0 m0 h m : Heap} {bk3 : Nat} {bk4 : Nat} {A12 : Option Addr} {n12 c12 : Nat} {es3 : (List (Int × Bool))} {es4 : (List (Int × Bool))} {a12 : List T_api_Event} {x13 : Int} {x14 : Int} (S : St No h0 m0 h m) (o3 : OM No h0 (eV0 eBool) (fun n : Int => Value.int .i64 n) h m bk3 es3) (o4 : OM No h0 (eV0 eBool) (fun n : Int => Value.int .i64 n) h m bk4 es4) (ne12 : n12 = List.length a12) (k12 : List.length a12 ≤ c12) (r12 : Rd 3 T_api_Event.E m A12 a12) (d0_1 : Dj (fb bk3) (fb bk4)) {r : Int} (e : clock_Check.l0 es3 es4 a12 x13 x14 = some r) : f86.l0 (clock_Check.post No h0 m0 r) (Value.map (some bk3)) (Value.map (some bk4)) A12 n12 c12 x13 x14 h := clock_Check.l0_k.all (p := .l0 es3 es4 a12 x13 x14) e h0 m0 h m bk3 bk4 A12 n12 c12 S o3 o4 ne12 k12 r12 d0_1
theorem clock_Check.j0.walk {h0 m0 h m : Heap} {bk3 : Nat} {bk4 : Nat} {bk6 : Nat} {cs6 : List Value} {A12 : Option Addr} {n12 c12 : Nat} {es3 : (List (Int × Bool))} {es4 : (List (Int × Bool))} {y6 : T_api_Event} {a12 : List T_api_Event} {x13 : Int} {x14 : Int} (S : St No h0 m0 h m) (o3 : OM No h0 (eV0 eBool) (fun n : Int => Value.int .i64 n) h m bk3 es3) (o4 : OM No h0 (eV0 eBool) (fun n : Int => Value.int .i64 n) h m bk4 es4) (o6 : OB No h0 h m bk6 cs6 83) (e6 : T_api_Event.E m y6 cs6) (ne12 : n12 = List.length a12) (k12 : List.length a12 ≤ c12) (r12 : Rd 3 T_api_Event.E m A12 a12) (d0_1 : Dj (fb bk3) (fb bk4)) (d0_2 : Dj (fb bk3) (fb bk6)) (d1_2 : Dj (fb bk4) (fb bk6)) {r : Int} (e : clock_Check.j0 es3 es4 y6 a12 x13 x14 = some r) : f86.j0 (clock_Check.post No h0 m0 r) (Value.map (some bk3)) (Value.map (some bk4)) (⟨bk6, 0, none⟩ : Addr) A12 n12 c12 x13 x14 h := clock_Check.l0_k.all (p := .j0 es3 es4 y6 a12 x13 x14) e h0 m0 h m bk3 bk4 bk6 cs6 A12 n12 c12 S o3 o4 o6 e6 ne12 k12 r12 d0_1 d0_2 d1_2
theorem clock_Check.j1.walk {h0 m0 h m : Heap} {bk3 : Nat} {bk4 : Nat} {bk6 : Nat} {cs6 : List Value} {A12 : Option Addr} {n12 c12 : Nat} {es3 : (List (Int × Bool))} {es4 : (List (Int × Bool))} {y6 : T_api_Event} {a12 : List T_api_Event} {x13 : Int} {x14 : Int} (S : St No h0 m0 h m) (o3 : OM No h0 (eV0 eBool) (fun n : Int => Value.int .i64 n) h m bk3 es3) (o4 : OM No h0 (eV0 eBool) (fun n : Int => Value.int .i64 n) h m bk4 es4) (o6 : OB No h0 h m bk6 cs6 83) (e6 : T_api_Event.E m y6 cs6) (ne12 : n12 = List.length a12) (k12 : List.length a12 ≤ c12) (r12 : Rd 3 T_api_Event.E m A12 a12) (d0_1 : Dj (fb bk3) (fb bk4)) (d0_2 : Dj (fb bk3) (fb bk6)) (d1_2 : Dj (fb bk4) (fb bk6)) {r : Int} (e : clock_Check.j1 es3 es4 y6 a12 x13 x14 = some r) : f86.j1 (clock_Check.post No h0 m0 r) (Value.map (some bk3)) (Value.map (some bk4)) (⟨bk6, 0, none⟩ : Addr) A12 n12 c12 x13 x14 h := clock_Check.l0_k.all (p := .j1 es3 es4 y6 a12 x13 x14) e h0 m0 h m bk3 bk4 bk6 cs6 A12 n12 c12 S o3 o4 o6 e6 ne12 k12 r12 d0_1 d0_2 d1_2

noncomputable def clock_Check (a0 : List T_api_Event) : Option (Int) :=
  if (((List.length a0) : Nat) : Int) > (200 : Int) then (some ((2 : Int))) else ((clock_Check.l0 ([] : (List (Int × Bool))) ([] : (List (Int × Bool))) a0 (((List.length a0) : Nat) : Int) (0 : Int)))
set_option maxRecDepth 100000 in
theorem clock_Check.walk {h m : Heap} {A0 : Option Addr} {n0 c0 : Nat} {a0 : List T_api_Event} (s : Sub m h) (ne0 : n0 = List.length a0) (k0 : List.length a0 ≤ c0) (r0 : Rd 3 T_api_Event.E m A0 a0) {r : Int} (e : clock_Check a0 = some r) : Run Try.prog 86 #[Value.slice A0 n0 c0] h (clock_Check.post No h m r) := by
  unfold clock_Check at e
  subst ne0
  have S : St No h m h m := .refl s
  refine f86.run ?_
  unfold f86.runT
  refine split_dec_e e (fun c13 e => ?_) (fun c13 e => ?_)
  · cases e
    exact ⟨_, S, rfl⟩
  · refine OM.made (ν := Bool) (EV := (eV0 eBool)) (kv := (fun n : Int => Value.int .i64 n)) S fun h1 o2 x3 => ?_
    have S5 := S.ext' x3
    refine OM.made (ν := Bool) (EV := (eV0 eBool)) (kv := (fun n : Int => Value.int .i64 n)) S5 fun h6 o7 x8 => ?_
    have d10 : Dj (fb (Array.size h)) (fb (Array.size h1)) := Dj.new o2.lt
    have o12 := o2.ext x8
    have S11 := S5.ext' x8
    exact clock_Check.l0.walk S11 o12 o7 rfl k0 r0 d10 e

/-! ### 105 roadstead/trace.put -/
def trace_put.post (W : Nat → Prop) (h0 m0 : Heap) (r : (List Int)) (v : Value) (h : Heap) : Prop := ∃ m A0 n0 c0, St W h0 m0 h m ∧ v = .slice A0 n0 c0 ∧ n0 = r.length ∧ OS W h0 1 (eInt .u8) h m A0 r c0
inductive trace_put.l0_k.Pt where
  | l0 (a0 : List Int) (x1 : Int)
noncomputable def trace_put.l0_k.body (go : (p : trace_put.l0_k.Pt) → Option ((List Int))) : (p : trace_put.l0_k.Pt) → Option ((List Int))
  | .l0 a0 x1 => if x1 ≥ (128 : Int) then (Option.bind (ap 1 a0 ([(IntKind.wrap .u8 (IntKind.wrap .i64 ((Int.tmod x1 (128 : Int)) + (128 : Int))))] : List Int)) fun l9 => (go (.l0 l9 (IntKind.wrap .i64 (Int.tdiv x1 (128 : Int)))))) else (Option.bind (ap 1 a0 ([(IntKind.wrap .u8 x1)] : List Int)) fun l29 => some (l29))
theorem trace_put.l0_k.mono : MonoF (β := fun _ => ((List Int))) trace_put.l0_k.body := fun f g hfg p => match p with
  | .l0 a0 x1 => LeO.ite (LeO.bind (LeO.refl _) fun l9 => (hfg _)) (LeO.bind (LeO.refl _) fun l29 => LeO.refl _)
noncomputable def trace_put.l0_k.go (p : trace_put.l0_k.Pt) : Option ((List Int)) := fixF (β := fun _ => ((List Int))) trace_put.l0_k.body p
noncomputable def trace_put.l0 (a0 : List Int) (x1 : Int) : Option ((List Int)) := trace_put.l0_k.go (.l0 a0 x1)
theorem trace_put.l0_eq (a0 : List Int) (x1 : Int) : trace_put.l0 a0 x1 = if x1 ≥ (128 : Int) then (Option.bind (ap 1 a0 ([(IntKind.wrap .u8 (IntKind.wrap .i64 ((Int.tmod x1 (128 : Int)) + (128 : Int))))] : List Int)) fun l9 => (trace_put.l0 l9 (IntKind.wrap .i64 (Int.tdiv x1 (128 : Int))))) else (Option.bind (ap 1 a0 ([(IntKind.wrap .u8 x1)] : List Int)) fun l29 => some (l29)) := fixF_eq trace_put.l0_k.mono _
def trace_put.l0_k.I : (p : trace_put.l0_k.Pt) → ((List Int)) → Prop
  | .l0 a0 x1, r => ∀ (W : Nat → Prop) (h0 m0 h m : Heap) (A0 : Option Addr) (n0 c0 : Nat) (S : St W h0 m0 h m) (ne0 : n0 = List.length a0) (o0 : OS W h0 1 (eInt .u8) h m A0 a0 c0), f105.l0 (trace_put.post W h0 m0 r) A0 n0 c0 x1 h
set_option maxRecDepth 100000 in
theorem trace_put.l0_k.step_l0 (go : (p : trace_put.l0_k.Pt) → Option ((List Int))) (ih : ∀ p r, go p = some r → trace_put.l0_k.I p r) (a0 : List Int) (x1 : Int) (r : (List Int)) (e : trace_put.l0_k.body go (.l0 a0 x1) = some r) : trace_put.l0_k.I (.l0 a0 x1) r := by
  unfold trace_put.l0_k.body at e
  intro W h0 m0 h m A0 n0 c0 S ne0 o0
  subst ne0
  refine f105.l0_in ?_
  unfold f105.l0T
  refine split_dec_e e (fun c41 e => ?_) (fun c41 e => ?_)
  · refine ⟨by decide, ?_⟩
    refine new_in S fun h1 o2 x3 => ?_
    have d6 : Dj (fp A0 c0) (fb (Array.size h)) := Dj.new o0.lt
    have o7 := o0.ext (tell_int .u8) S.s x3
    have S4 := S.ext' x3
    have o2 : OB _ _ h1 _ (Array.size h) [(Value.int .u8 (IntKind.wrap .u8 (IntKind.wrap .i64 ((Int.tmod x1 (128 : Int)) + (128 : Int)))))] 5 := o2
    have o8 : OS _ _ 1 (eInt .u8) h1 m (some ⟨(Array.size h), 0, none⟩) ([(IntKind.wrap .u8 (IntKind.wrap .i64 ((Int.tmod x1 (128 : Int)) + (128 : Int))))] : List Int) 1 := OB.row o2 (CsE.cons (c1 := [(Value.int .u8 (IntKind.wrap .u8 (IntKind.wrap .i64 ((Int.tmod x1 (128 : Int)) + (128 : Int)))))]) rfl rfl CsE.nil) rfl
    obtain ⟨l9, g10, e⟩ := bind_e e
    refine o7.app (tell_int .u8) S4 rfl rfl (o8.srcE rfl) (by decide) g10 fun A11 c12 h13 o14 t15 n16 => ?_
    refine ⟨_, _, _, rfl, ?_⟩
    have d18 : Dj (fp (some ⟨(Array.size h), 0, none⟩) 1) (fp A11 c12) := Dj.app ((d6.row)).symm o8.lt n16
    have S19 := S4.then t15 (fun i _ hi => o7.wr i hi)
    have o20 := o8.step (tell_int .u8) t15 (d6.row)
    refine ⟨by decide, ?_⟩
    exact (ih _ _ e) _ _ _ _ _ _ _ _ S19 rfl o14
  · refine new_in S fun h21 o22 x23 => ?_
    have d26 : Dj (fp A0 c0) (fb (Array.size h)) := Dj.new o0.lt
    have o27 := o0.ext (tell_int .u8) S.s x23
    have S24 := S.ext' x23
    have o22 : OB _ _ h21 _ (Array.size h) [(Value.int .u8 (IntKind.wrap .u8 x1))] 5 := o22
    have o28 : OS _ _ 1 (eInt .u8) h21 m (some ⟨(Array.size h), 0, none⟩) ([(IntKind.wrap .u8 x1)] : List Int) 1 := OB.row o22 (CsE.cons (c1 := [(Value.int .u8 (IntKind.wrap .u8 x1))]) rfl rfl CsE.nil) rfl
    obtain ⟨l29, g30, e⟩ := bind_e e
    refine o27.app (tell_int .u8) S24 rfl rfl (o28.srcE rfl) (by decide) g30 fun A31 c32 h33 o34 t35 n36 => ?_
    refine ⟨_, _, _, rfl, ?_⟩
    have d38 : Dj (fp (some ⟨(Array.size h), 0, none⟩) 1) (fp A31 c32) := Dj.app ((d26.row)).symm o28.lt n36
    have S39 := S24.then t35 (fun i _ hi => o27.wr i hi)
    have o40 := o28.step (tell_int .u8) t35 (d26.row)
    cases e
    exact ⟨_, _, _, _, S39, rfl, rfl, o34⟩
theorem trace_put.l0_k.all {p : trace_put.l0_k.Pt} {r : ((List Int))} (e : trace_put.l0_k.go p = some r) : trace_put.l0_k.I p r := fixF_ind (β := fun _ => ((List Int))) trace_put.l0_k.mono (I := trace_put.l0_k.I) (fun go ih p r e => match p with
  | .l0 a0 x1 => trace_put.l0_k.step_l0 go ih a0 x1 r e
  ) e
theorem trace_put.l0.walk {W : Nat → Prop} {h0 m0 h m : Heap} {A0 : Option Addr} {n0 c0 : Nat} {a0 : List Int} {x1 : Int} (S : St W h0 m0 h m) (ne0 : n0 = List.length a0) (o0 : OS W h0 1 (eInt .u8) h m A0 a0 c0) {r : (List Int)} (e : trace_put.l0 a0 x1 = some r) : f105.l0 (trace_put.post W h0 m0 r) A0 n0 c0 x1 h := trace_put.l0_k.all (p := .l0 a0 x1) e W h0 m0 h m A0 n0 c0 S ne0 o0

noncomputable def trace_put (a0 : List Int) (x1 : Int) : Option ((List Int)) :=
  (trace_put.l0 a0 x1)
set_option maxRecDepth 100000 in
theorem trace_put.walk {W : Nat → Prop} {h m : Heap} {A0 : Option Addr} {n0 c0 : Nat} {a0 : List Int} {x1 : Int} (s : Sub m h) (ne0 : n0 = List.length a0) (o0 : OS W h 1 (eInt .u8) h m A0 a0 c0) {r : (List Int)} (e : trace_put a0 x1 = some r) : Run Try.prog 105 #[Value.slice A0 n0 c0, Value.int .i64 x1] h (trace_put.post W h m r) := by
  unfold trace_put at e
  subst ne0
  have S : St W h m h m := .refl s
  refine f105.run ?_
  unfold f105.runT
  exact trace_put.l0.walk S rfl o0 e

/-! ### 36 roadstead/trace.Pack -/
def trace_Pack.post (W : Nat → Prop) (h0 m0 : Heap) (r : (List Int) × Int) (v : Value) (h : Heap) : Prop := ∃ m A0 n0 c0, St W h0 m0 h m ∧ v = .tuple #[.slice A0 n0 c0, .int .i64 r.2] ∧ n0 = r.1.length ∧ OS W h0 1 (eInt .u8) h m A0 r.1 c0
inductive trace_Pack.l0_k.Pt where
  | l0 (a5 : List Int) (a16 : List T_api_Event) (x17 : Int) (x18 : Int)
noncomputable def trace_Pack.l0_k.body (go : (p : trace_Pack.l0_k.Pt) → Option ((List Int) × Int)) : (p : trace_Pack.l0_k.Pt) → Option ((List Int) × Int)
  | .l0 a5 a16 x17 x18 => if x18 < x17 then (Option.bind (gi a16 x18) fun y26 => Option.bind (trace_put a5 (IntKind.wrap .i64 ((IntKind.wrap .i64 ((IntKind.wrap .i64 ((3 : Int) * y26.Place)) + y26.Kind)) - (1 : Int)))) fun y46 => if y26.Kind = (1 : Int) then ((go (.l0 y46 a16 x17 (IntKind.wrap .i64 (x18 + (1 : Int)))))) else (Option.bind (trace_put y46 y26.Msg) fun y62 => (go (.l0 y62 a16 x17 (IntKind.wrap .i64 (x18 + (1 : Int))))))) else (some (a5, (0 : Int)))
theorem trace_Pack.l0_k.mono : MonoF (β := fun _ => ((List Int) × Int)) trace_Pack.l0_k.body := fun f g hfg p => match p with
  | .l0 a5 a16 x17 x18 => LeO.ite (LeO.bind (LeO.refl _) fun y26 => LeO.bind (LeO.refl _) fun y46 => LeO.ite ((hfg _)) (LeO.bind (LeO.refl _) fun y62 => (hfg _))) (LeO.refl _)
noncomputable def trace_Pack.l0_k.go (p : trace_Pack.l0_k.Pt) : Option ((List Int) × Int) := fixF (β := fun _ => ((List Int) × Int)) trace_Pack.l0_k.body p
noncomputable def trace_Pack.l0 (a5 : List Int) (a16 : List T_api_Event) (x17 : Int) (x18 : Int) : Option ((List Int) × Int) := trace_Pack.l0_k.go (.l0 a5 a16 x17 x18)
theorem trace_Pack.l0_eq (a5 : List Int) (a16 : List T_api_Event) (x17 : Int) (x18 : Int) : trace_Pack.l0 a5 a16 x17 x18 = if x18 < x17 then (Option.bind (gi a16 x18) fun y26 => Option.bind (trace_put a5 (IntKind.wrap .i64 ((IntKind.wrap .i64 ((IntKind.wrap .i64 ((3 : Int) * y26.Place)) + y26.Kind)) - (1 : Int)))) fun y46 => if y26.Kind = (1 : Int) then ((trace_Pack.l0 y46 a16 x17 (IntKind.wrap .i64 (x18 + (1 : Int))))) else (Option.bind (trace_put y46 y26.Msg) fun y62 => (trace_Pack.l0 y62 a16 x17 (IntKind.wrap .i64 (x18 + (1 : Int)))))) else (some (a5, (0 : Int))) := fixF_eq trace_Pack.l0_k.mono _
def trace_Pack.l0_k.I : (p : trace_Pack.l0_k.Pt) → ((List Int) × Int) → Prop
  | .l0 a5 a16 x17 x18, r => ∀ (h0 m0 h m : Heap) (A5 : Option Addr) (n5 c5 : Nat) (A16 : Option Addr) (n16 c16 : Nat) (S : St No h0 m0 h m) (ne5 : n5 = List.length a5) (o5 : OS No h0 1 (eInt .u8) h m A5 a5 c5) (ne16 : n16 = List.length a16) (k16 : List.length a16 ≤ c16) (r16 : Rd 3 T_api_Event.E m A16 a16), f36.l0 (trace_Pack.post No h0 m0 r) A5 n5 c5 A16 n16 c16 x17 x18 h
set_option maxRecDepth 100000 in
theorem trace_Pack.l0_k.step_l0 (go : (p : trace_Pack.l0_k.Pt) → Option ((List Int) × Int)) (ih : ∀ p r, go p = some r → trace_Pack.l0_k.I p r) (a5 : List Int) (a16 : List T_api_Event) (x17 : Int) (x18 : Int) (r : (List Int) × Int) (e : trace_Pack.l0_k.body go (.l0 a5 a16 x17 x18) = some r) : trace_Pack.l0_k.I (.l0 a5 a16 x17 x18) r := by
  unfold trace_Pack.l0_k.body at e
  intro h0 m0 h m A5 n5 c5 A16 n16 c16 S ne5 o5 ne16 k16 r16
  subst ne5
  subst ne16
  refine f36.l0_in ?_
  unfold f36.l0T
  refine split_dec_e e (fun c79 e => ?_) (fun c79 e => ?_)
  · obtain ⟨y26, g27, e⟩ := bind_e e
    refine r16.addr rfl g27 fun a28 cs29 ha30 hc31 he32 => ?_
    obtain rfl : cs29 = [(Value.int .i64 y26.Place), (Value.int .i64 y26.Kind), (Value.int .i64 y26.Msg)] := he32
    refine ⟨_, ldA S.s hc31, ?_⟩
    refine new_in S fun h33 o34 x35 => ?_
    have d38 : Dj (fp A5 c5) (fb (Array.size h)) := Dj.new o5.lt
    have o39 := o5.ext (tell_int .u8) S.s x35
    have S36 := S.ext' x35
    have o34 : OB _ _ h33 _ (Array.size h) [(Value.int .i64 (0 : Int)), (Value.int .i64 (0 : Int)), (Value.int .i64 (0 : Int))] 83 := o34
    obtain ⟨h40, w41, o42, t43⟩ := o34.stA S36.s [(Value.int .i64 y26.Place), (Value.int .i64 y26.Kind), (Value.int .i64 y26.Msg)] rfl (Flats.cons trivial (Flats.cons trivial (Flats.cons trivial Flats.nil)))
    refine ⟨[(Value.int .i64 y26.Place), (Value.int .i64 y26.Kind), (Value.int .i64 y26.Msg)], rfl, rfl, h40, w41, ?_⟩
    have o42 : OB _ _ h40 _ (Array.size h) [(Value.int .i64 y26.Place), (Value.int .i64 y26.Kind), (Value.int .i64 y26.Msg)] 83 := o42
    have S44 := S36.then t43 (fun i _ hi => o34.wr i hi)
    have o45 := o39.step (tell_int .u8) t43 (d38).symm
    refine ⟨_, ld0 (Sub.refl _) o42.all rfl, _, rfl, ?_⟩
    refine ⟨_, ldk (k := 1) (Sub.refl _) o42.all rfl, _, rfl, ?_⟩
    obtain ⟨y46, g47, e⟩ := bind_e e
    refine (trace_put.walk (W := (fp A5 c5)) S44.s rfl (o45.give (fun _ h => h)) g47).mono ?_
    rintro _ h48 ⟨m49, A51, n52, c53, T50, rfl, ne54, o55⟩
    subst ne54
    have d61 : Dj (fb (Array.size h)) (fp A51 c53) := fun i h1 h2 => (o55.new i h2).elim (fun h => (d38) i h h1) (fun h => absurd (o42.lt i h1) (Nat.not_lt.2 h))
    have o59 := o55.take S44 (fun i hi => o45.wr i hi)
    have S57 := S44.then T50 (fun i _ hi => o45.wr i hi)
    have o58 := o42.step T50 d38
    refine ⟨_, _, _, rfl, ?_⟩
    refine ⟨_, ldk (k := 1) (Sub.refl _) o58.all rfl, _, rfl, ?_⟩
    refine split_ne_e e (fun c78 e => ?_) (fun c78 e => ?_)
    · refine ⟨_, ldk (k := 2) (Sub.refl _) o58.all rfl, _, rfl, ?_⟩
      obtain ⟨y62, g63, e⟩ := bind_e e
      refine (trace_put.walk (W := (fp A51 c53)) S57.s rfl (o59.give (fun _ h => h)) g63).mono ?_
      rintro _ h64 ⟨m65, A67, n68, c69, T66, rfl, ne70, o71⟩
      subst ne70
      have d77 : Dj (fb (Array.size h)) (fp A67 c69) := fun i h1 h2 => (o71.new i h2).elim (fun h => ((d61).symm) i h h1) (fun h => absurd (o58.lt i h1) (Nat.not_lt.2 h))
      have o75 := o71.take S57 (fun i hi => o59.wr i hi)
      have S73 := S57.then T66 (fun i _ hi => o59.wr i hi)
      have o74 := o58.step T66 (d61).symm
      refine ⟨_, _, _, rfl, ?_⟩
      exact (ih _ _ e) _ _ _ _ _ _ _ _ _ _ S73 rfl o75 rfl k16 (r16.sub T_api_Event.T (T50.up.trans T66.up))
    · exact (ih _ _ e) _ _ _ _ _ _ _ _ _ _ S57 rfl o59 rfl k16 (r16.sub T_api_Event.T T50.up)
  · cases e
    exact ⟨_, _, _, _, S, rfl, rfl, o5⟩
theorem trace_Pack.l0_k.all {p : trace_Pack.l0_k.Pt} {r : ((List Int) × Int)} (e : trace_Pack.l0_k.go p = some r) : trace_Pack.l0_k.I p r := fixF_ind (β := fun _ => ((List Int) × Int)) trace_Pack.l0_k.mono (I := trace_Pack.l0_k.I) (fun go ih p r e => match p with
  | .l0 a5 a16 x17 x18 => trace_Pack.l0_k.step_l0 go ih a5 a16 x17 x18 r e
  ) e
theorem trace_Pack.l0.walk {h0 m0 h m : Heap} {A5 : Option Addr} {n5 c5 : Nat} {A16 : Option Addr} {n16 c16 : Nat} {a5 : List Int} {a16 : List T_api_Event} {x17 : Int} {x18 : Int} (S : St No h0 m0 h m) (ne5 : n5 = List.length a5) (o5 : OS No h0 1 (eInt .u8) h m A5 a5 c5) (ne16 : n16 = List.length a16) (k16 : List.length a16 ≤ c16) (r16 : Rd 3 T_api_Event.E m A16 a16) {r : (List Int) × Int} (e : trace_Pack.l0 a5 a16 x17 x18 = some r) : f36.l0 (trace_Pack.post No h0 m0 r) A5 n5 c5 A16 n16 c16 x17 x18 h := trace_Pack.l0_k.all (p := .l0 a5 a16 x17 x18) e h0 m0 h m A5 n5 c5 A16 n16 c16 S ne5 o5 ne16 k16 r16

noncomputable def trace_Pack (a0 : List T_api_Event) : Option ((List Int) × Int) :=
  Option.bind (clock_Check a0) fun y1 => if y1 = (0 : Int) then (Option.bind (trace_put ([] : List Int) (((List.length a0) : Nat) : Int)) fun y11 => (trace_Pack.l0 y11 a0 (((List.length a0) : Nat) : Int) (0 : Int))) else (some (([] : List Int), y1))
set_option maxRecDepth 100000 in
theorem trace_Pack.walk {h m : Heap} {A0 : Option Addr} {n0 c0 : Nat} {a0 : List T_api_Event} (s : Sub m h) (ne0 : n0 = List.length a0) (k0 : List.length a0 ≤ c0) (r0 : Rd 3 T_api_Event.E m A0 a0) {r : (List Int) × Int} (e : trace_Pack a0 = some r) : Run Try.prog 36 #[Value.slice A0 n0 c0] h (trace_Pack.post No h m r) := by
  unfold trace_Pack at e
  subst ne0
  have S : St No h m h m := .refl s
  refine f36.run ?_
  unfold f36.runT
  obtain ⟨y1, g2, e⟩ := bind_e e
  refine (clock_Check.walk S.s rfl k0 r0 g2).mono ?_
  rintro _ h3 ⟨m4, T5, rfl⟩
  have S6 := S.grow T5
  refine ⟨_, rfl, ?_⟩
  refine split_ne_e e (fun c25 e => ?_) (fun c25 e => ?_)
  · have o8 : OS No h 1 (eInt .u8) h3 m4 none ([] : List Int) 0 := .inl ⟨rfl, rfl⟩
    cases e
    exact ⟨_, _, _, _, S6, rfl, rfl, o8⟩
  · obtain ⟨y11, g12, e⟩ := bind_e e
    have o10 : OS No h 1 (eInt .u8) h3 m4 none ([] : List Int) 0 := .inl ⟨rfl, rfl⟩
    refine (trace_put.walk (W := (fp none 0)) S6.s rfl (o10.give (fun _ h => h)) g12).mono ?_
    rintro _ h13 ⟨m14, A16, n17, c18, T15, rfl, ne19, o20⟩
    subst ne19
    have o23 := o20.take S6 (fun i hi => o10.wr i hi)
    have S22 := S6.then T15 (fun i _ hi => o10.wr i hi)
    refine ⟨_, _, _, rfl, ?_⟩
    exact trace_Pack.l0.walk S22 rfl o23 rfl k0 (r0.sub T_api_Event.T (T5.up.trans T15.up)) e

/-! ### 37 bytes.Equal -/
def bytes_Equal.post (W : Nat → Prop) (h0 m0 : Heap) (r : Bool) (v : Value) (h : Heap) : Prop := ∃ m , St W h0 m0 h m ∧ v = .bool r
noncomputable def bytes_Equal (a0 : List Int) (a1 : List Int) : Option (Bool) :=
  some ((decide ((bytesOf a0) = (bytesOf a1))))
set_option maxRecDepth 100000 in
theorem bytes_Equal.walk {h m : Heap} {A0 : Option Addr} {n0 c0 : Nat} {A1 : Option Addr} {n1 c1 : Nat} {a0 : List Int} {a1 : List Int} (s : Sub m h) (ne0 : n0 = List.length a0) (k0 : List.length a0 ≤ c0) (r0 : Rd 1 (eInt .u8) m A0 a0) (ne1 : n1 = List.length a1) (k1 : List.length a1 ≤ c1) (r1 : Rd 1 (eInt .u8) m A1 a1) {r : Bool} (e : bytes_Equal a0 a1 = some r) : Run Try.prog 37 #[Value.slice A0 n0 c0, Value.slice A1 n1 c1] h (bytes_Equal.post No h m r) := by
  unfold bytes_Equal at e
  subst ne0
  subst ne1
  have S : St No h m h m := .refl s
  refine f37.run ?_
  unfold f37.runT
  refine gen_b2s' (e := 5) (by kernel_rfl) (by kernel_rfl) (by kernel_rfl) (r0.sub (tell_int .u8) S.s) rfl ?_
  refine ⟨_, rfl, ?_⟩
  refine gen_b2s' (e := 5) (by kernel_rfl) (by kernel_rfl) (by kernel_rfl) (r1.sub (tell_int .u8) S.s) rfl ?_
  refine ⟨_, rfl, ?_⟩
  try rw [ba_list (bytesOf a0) (bytesOf a1)]
  cases e
  exact ⟨_, S, rfl⟩

/-! ### 106 roadstead/trace.take -/
def trace_take.post (W : Nat → Prop) (h0 m0 : Heap) (r : Int × (List Int) × Bool) (v : Value) (h : Heap) : Prop := ∃ m A1 n1 c1, St W h0 m0 h m ∧ v = .tuple #[.int .i64 r.1, .slice A1 n1 c1, .bool r.2.2] ∧ n1 = r.2.1.length ∧ r.2.1.length ≤ c1 ∧ Rd 1 (eInt .u8) m A1 r.2.1
inductive trace_take.l0_k.Pt where
  | l0 (a0 : List Int) (x5 : Int) (x6 : Int) (a9 : List Int) (x10 : Int) (x11 : Int)
  | j1 (a0 : List Int) (x5 : Int) (x6 : Int) (x7 : Int) (x8 : Int) (a9 : List Int) (x10 : Int) (x11 : Int) (b25 : Bool)
  | j0 (a0 : List Int) (x5 : Int) (x6 : Int) (x7 : Int) (x8 : Int) (a9 : List Int) (x10 : Int) (x11 : Int)
noncomputable def trace_take.l0_k.body (go : (p : trace_take.l0_k.Pt) → Option (Int × (List Int) × Bool)) : (p : trace_take.l0_k.Pt) → Option (Int × (List Int) × Bool)
  | .l0 a0 x5 x6 a9 x10 x11 => if x11 < x10 then (Option.bind (gi a9 x11) fun y1 => if x11 = (3 : Int) then ((go (.j1 a0 x5 x6 x11 y1 a9 x10 x11 true))) else (if x11 > (0 : Int) then ((go (.j1 a0 x5 x6 x11 y1 a9 x10 x11 (y1 == (0 : Int))))) else ((go (.j1 a0 x5 x6 x11 y1 a9 x10 x11 false))))) else (some ((0 : Int), [], false))
  | .j1 a0 x5 x6 x7 x8 a9 x10 x11 b25 => if b25 = true then (some ((0 : Int), [], false)) else ((go (.j0 a0 x5 x6 x7 x8 a9 x10 x11)))
  | .j0 a0 x5 x6 x7 x8 a9 x10 x11 => if x8 < (128 : Int) then (Option.bind (sls a0 (IntKind.wrap .i64 (x7 + (1 : Int))) (((List.length a0) : Nat) : Int)) fun l12 => some ((IntKind.wrap .i64 (x5 + (IntKind.wrap .i64 (x6 * (IntKind.wrap .i64 x8))))), l12, true)) else ((go (.l0 a0 (IntKind.wrap .i64 (x5 + (IntKind.wrap .i64 (x6 * (IntKind.wrap .i64 (IntKind.wrap .u8 (x8 - (128 : Int)))))))) (IntKind.wrap .i64 (x6 * (128 : Int))) a9 x10 (IntKind.wrap .i64 (x11 + (1 : Int))))))
theorem trace_take.l0_k.mono : MonoF (β := fun _ => (Int × (List Int) × Bool)) trace_take.l0_k.body := fun f g hfg p => match p with
  | .l0 a0 x5 x6 a9 x10 x11 => LeO.ite (LeO.bind (LeO.refl _) fun y1 => LeO.ite ((hfg _)) (LeO.ite ((hfg _)) ((hfg _)))) (LeO.refl _)
  | .j1 a0 x5 x6 x7 x8 a9 x10 x11 b25 => LeO.ite (LeO.refl _) ((hfg _))
  | .j0 a0 x5 x6 x7 x8 a9 x10 x11 => LeO.ite (LeO.bind (LeO.refl _) fun l12 => LeO.refl _) ((hfg _))
noncomputable def trace_take.l0_k.go (p : trace_take.l0_k.Pt) : Option (Int × (List Int) × Bool) := fixF (β := fun _ => (Int × (List Int) × Bool)) trace_take.l0_k.body p
noncomputable def trace_take.l0 (a0 : List Int) (x5 : Int) (x6 : Int) (a9 : List Int) (x10 : Int) (x11 : Int) : Option (Int × (List Int) × Bool) := trace_take.l0_k.go (.l0 a0 x5 x6 a9 x10 x11)
noncomputable def trace_take.j1 (a0 : List Int) (x5 : Int) (x6 : Int) (x7 : Int) (x8 : Int) (a9 : List Int) (x10 : Int) (x11 : Int) (b25 : Bool) : Option (Int × (List Int) × Bool) := trace_take.l0_k.go (.j1 a0 x5 x6 x7 x8 a9 x10 x11 b25)
noncomputable def trace_take.j0 (a0 : List Int) (x5 : Int) (x6 : Int) (x7 : Int) (x8 : Int) (a9 : List Int) (x10 : Int) (x11 : Int) : Option (Int × (List Int) × Bool) := trace_take.l0_k.go (.j0 a0 x5 x6 x7 x8 a9 x10 x11)
theorem trace_take.l0_eq (a0 : List Int) (x5 : Int) (x6 : Int) (a9 : List Int) (x10 : Int) (x11 : Int) : trace_take.l0 a0 x5 x6 a9 x10 x11 = if x11 < x10 then (Option.bind (gi a9 x11) fun y1 => if x11 = (3 : Int) then ((trace_take.j1 a0 x5 x6 x11 y1 a9 x10 x11 true)) else (if x11 > (0 : Int) then ((trace_take.j1 a0 x5 x6 x11 y1 a9 x10 x11 (y1 == (0 : Int)))) else ((trace_take.j1 a0 x5 x6 x11 y1 a9 x10 x11 false)))) else (some ((0 : Int), [], false)) := fixF_eq trace_take.l0_k.mono _
theorem trace_take.j1_eq (a0 : List Int) (x5 : Int) (x6 : Int) (x7 : Int) (x8 : Int) (a9 : List Int) (x10 : Int) (x11 : Int) (b25 : Bool) : trace_take.j1 a0 x5 x6 x7 x8 a9 x10 x11 b25 = if b25 = true then (some ((0 : Int), [], false)) else ((trace_take.j0 a0 x5 x6 x7 x8 a9 x10 x11)) := fixF_eq trace_take.l0_k.mono _
theorem trace_take.j0_eq (a0 : List Int) (x5 : Int) (x6 : Int) (x7 : Int) (x8 : Int) (a9 : List Int) (x10 : Int) (x11 : Int) : trace_take.j0 a0 x5 x6 x7 x8 a9 x10 x11 = if x8 < (128 : Int) then (Option.bind (sls a0 (IntKind.wrap .i64 (x7 + (1 : Int))) (((List.length a0) : Nat) : Int)) fun l12 => some ((IntKind.wrap .i64 (x5 + (IntKind.wrap .i64 (x6 * (IntKind.wrap .i64 x8))))), l12, true)) else ((trace_take.l0 a0 (IntKind.wrap .i64 (x5 + (IntKind.wrap .i64 (x6 * (IntKind.wrap .i64 (IntKind.wrap .u8 (x8 - (128 : Int)))))))) (IntKind.wrap .i64 (x6 * (128 : Int))) a9 x10 (IntKind.wrap .i64 (x11 + (1 : Int))))) := fixF_eq trace_take.l0_k.mono _
def trace_take.l0_k.I : (p : trace_take.l0_k.Pt) → (Int × (List Int) × Bool) → Prop
  | .l0 a0 x5 x6 a9 x10 x11, r => ∀ (h0 m0 h m : Heap) (A0 : Option Addr) (n0 c0 : Nat) (A9 : Option Addr) (n9 c9 : Nat) (S : St No h0 m0 h m) (ne0 : n0 = List.length a0) (k0 : List.length a0 ≤ c0) (r0 : Rd 1 (eInt .u8) m A0 a0) (ne9 : n9 = List.length a9) (k9 : List.length a9 ≤ c9) (r9 : Rd 1 (eInt .u8) m A9 a9), f106.l0 (trace_take.post No h0 m0 r) A0 n0 c0 x5 x6 A9 n9 c9 x10 x11 h
  | .j1 a0 x5 x6 x7 x8 a9 x10 x11 b25, r => ∀ (h0 m0 h m : Heap) (A0 : Option Addr) (n0 c0 : Nat) (A9 : Option Addr) (n9 c9 : Nat) (S : St No h0 m0 h m) (ne0 : n0 = List.length a0) (k0 : List.length a0 ≤ c0) (r0 : Rd 1 (eInt .u8) m A0 a0) (ne9 : n9 = List.length a9) (k9 : List.length a9 ≤ c9) (r9 : Rd 1 (eInt .u8) m A9 a9), f106.j1 (trace_take.post No h0 m0 r) A0 n0 c0 x5 x6 x7 x8 A9 n9 c9 x10 x11 b25 h
  | .j0 a0 x5 x6 x7 x8 a9 x10 x11, r => ∀ (h0 m0 h m : Heap) (A0 : Option Addr) (n0 c0 : Nat) (A9 : Option Addr) (n9 c9 : Nat) (S : St No h0 m0 h m) (ne0 : n0 = List.length a0) (k0 : List.length a0 ≤ c0) (r0 : Rd 1 (eInt .u8) m A0 a0) (ne9 : n9 = List.length a9) (k9 : List.length a9 ≤ c9) (r9 : Rd 1 (eInt .u8) m A9 a9), f106.j0 (trace_take.post No h0 m0 r) A0 n0 c0 x5 x6 x7 x8 A9 n9 c9 x10 x11 h
set_option maxRecDepth 100000 in
theorem trace_take.l0_k.step_l0 (go : (p : trace_take.l0_k.Pt) → Option (Int × (List Int) × Bool)) (ih : ∀ p r, go p = some r → trace_take.l0_k.I p r) (a0 : List Int) (x5 : Int) (x6 : Int) (a9 : List Int) (x10 : Int) (x11 : Int) (r : Int × (List Int) × Bool) (e : trace_take.l0_k.body go (.l0 a0 x5 x6 a9 x10 x11) = some r) : trace_take.l0_k.I (.l0 a0 x5 x6 a9 x10 x11) r := by
  unfold trace_take.l0_k.body at e
  intro h0 m0 h m A0 n0 c0 A9 n9 c9 S ne0 k0 r0 ne9 k9 r9
  subst ne0
  subst ne9
  refine f106.l0_in ?_
  unfold f106.l0T
  refine split_dec_e e (fun c10 e => ?_) (fun c10 e => ?_)
  · obtain ⟨y1, g2, e⟩ := bind_e e
    refine r9.addr rfl g2 fun a3 cs4 ha5 hc6 he7 => ?_
    obtain rfl : cs4 = [(Value.int .u8 y1)] := he7
    refine ⟨_, ld0 S.s hc6 rfl, _, rfl, ?_⟩
    refine split_eq_e e (fun c9 e => ?_) (fun c9 e => ?_)
    · exact (ih _ _ e) _ _ _ _ _ _ _ _ _ _ S rfl k0 r0 rfl k9 r9
    · refine split_dec_e e (fun c8 e => ?_) (fun c8 e => ?_)
      · exact (ih _ _ e) _ _ _ _ _ _ _ _ _ _ S rfl k0 r0 rfl k9 r9
      · exact (ih _ _ e) _ _ _ _ _ _ _ _ _ _ S rfl k0 r0 rfl k9 r9
  · cases e
    exact ⟨_, _, _, _, S, rfl, rfl, (Nat.le_refl 0), Rd.nil⟩
set_option maxRecDepth 100000 in
theorem trace_take.l0_k.step_j1 (go : (p : trace_take.l0_k.Pt) → Option (Int × (List Int) × Bool)) (ih : ∀ p r, go p = some r → trace_take.l0_k.I p r) (a0 : List Int) (x5 : Int) (x6 : Int) (x7 : Int) (x8 : Int) (a9 : List Int) (x10 : Int) (x11 : Int) (b25 : Bool) (r : Int × (List Int) × Bool) (e : trace_take.l0_k.body go (.j1 a0 x5 x6 x7 x8 a9 x10 x11 b25) = some r) : trace_take.l0_k.I (.j1 a0 x5 x6 x7 x8 a9 x10 x11 b25) r := by
  unfold trace_take.l0_k.body at e
  intro h0 m0 h m A0 n0 c0 A9 n9 c9 S ne0 k0 r0 ne9 k9 r9
  subst ne0
  subst ne9
  refine f106.j1_in ?_
  unfold f106.j1T
  refine split_any_e e (fun c11 e => ?_) (fun c11 e => ?_)
  · cases e
    exact ⟨_, _, _, _, S, rfl, rfl, (Nat.le_refl 0), Rd.nil⟩
  · exact (ih _ _ e) _ _ _ _ _ _ _ _ _ _ S rfl k0 r0 rfl k9 r9
set_option maxRecDepth 100000 in
theorem trace_take.l0_k.step_j0 (go : (p : trace_take.l0_k.Pt) → Option (Int × (List Int) × Bool)) (ih : ∀ p r, go p = some r → trace_take.l0_k.I p r) (a0 : List Int) (x5 : Int) (x6 : Int) (x7 : Int) (x8 : Int) (a9 : List Int) (x10 : Int) (x11 : Int) (r : Int × (List Int) × Bool) (e : trace_take.l0_k.body go (.j0 a0 x5 x6 x7 x8 a9 x10 x11) = some r) : trace_take.l0_k.I (.j0 a0 x5 x6 x7 x8 a9 x10 x11) r := by
  unfold trace_take.l0_k.body at e
  intro h0 m0 h m A0 n0 c0 A9 n9 c9 S ne0 k0 r0 ne9 k9 r9
  subst ne0
  subst ne9
  refine f106.j0_in ?_
  unfold f106.j0T
  refine split_dec_e e (fun c17 e => ?_) (fun c17 e => ?_)
  · obtain ⟨l12, g13, e⟩ := bind_e e
    have q14 := sls_e g13
    refine ⟨q14.1, q14.2.1, cap_in q14.2.2.1 k0, ?_⟩
    try rw [q14.2.2.2.1]
    have k15 : List.length l12 ≤ (c0 - Int.toNat (IntKind.wrap .i64 (x7 + (1 : Int)))) := sls_cap g13 k0
    have r16 := r0.sls g13 (le_mx q14.2.2.1 k0)
    cases e
    exact ⟨_, _, _, _, S, rfl, rfl, k15, r16⟩
  · exact (ih _ _ e) _ _ _ _ _ _ _ _ _ _ S rfl k0 r0 rfl k9 r9
theorem trace_take.l0_k.all {p : trace_take.l0_k.Pt} {r : (Int × (List Int) × Bool)} (e : trace_take.l0_k.go p = some r) : trace_take.l0_k.I p r := fixF_ind (β := fun _ => (Int × (List Int) × Bool)) trace_take.l0_k.mono (I := trace_take.l0_k.I) (fun go ih p r e => match p with
  | .l0 a0 x5 x6 a9 x10 x11 => trace_take.l0_k.step_l0 go ih a0 x5 x6 a9 x10 x11 r e
  | .j1 a0 x5 x6 x7 x8 a9 x10 x11 b25 => trace_take.l0_k.step_j1 go ih a0 x5 x6 x7 x8 a9 x10 x11 b25 r e
  | .j0 a0 x5 x6 x7 x8 a9 x10 x11 => trace_take.l0_k.step_j0 go ih a0 x5 x6 x7 x8 a9 x10 x11 r e
  ) e
theorem trace_take.l0.walk {h0 m0 h m : Heap} {A0 : Option Addr} {n0 c0 : Nat} {A9 : Option Addr} {n9 c9 : Nat} {a0 : List Int} {x5 : Int} {x6 : Int} {a9 : List Int} {x10 : Int} {x11 : Int} (S : St No h0 m0 h m) (ne0 : n0 = List.length a0) (k0 : List.length a0 ≤ c0) (r0 : Rd 1 (eInt .u8) m A0 a0) (ne9 : n9 = List.length a9) (k9 : List.length a9 ≤ c9) (r9 : Rd 1 (eInt .u8) m A9 a9) {r : Int × (List Int) × Bool} (e : trace_take.l0 a0 x5 x6 a9 x10 x11 = some r) : f106.l0 (trace_take.post No h0 m0 r) A0 n0 c0 x5 x6 A9 n9 c9 x10 x11 h := trace_take.l0_k.all (p := .l0 a0 x5 x6 a9 x10 x11) e h0 m0 h m A0 n0 c0 A9 n9 c9 S ne0 k0 r0 ne9 k9 r9
theorem trace_take.j1.walk {h0 m0 h m : Heap} {A0 : Option Addr} {n0 c0 : Nat} {A9 : Option Addr} {n9 c9 : Nat} {a0 : List Int} {x5 : Int} {x6 : Int} {x7 : Int} {x8 : Int} {a9 : List Int} {x10 : Int} {x11 : Int} {b25 : Bool} (S : St No h0 m0 h m) (ne0 : n0 = List.length a0) (k0 : List.length a0 ≤ c0) (r0 : Rd 1 (eInt .u8) m A0 a0) (ne9 : n9 = List.length a9) (k9 : List.length a9 ≤ c9) (r9 : Rd 1 (eInt .u8) m A9 a9) {r : Int × (List Int) × Bool} (e : trace_take.j1 a0 x5 x6 x7 x8 a9 x10 x11 b25 = some r) : f106.j1 (trace_take.post No h0 m0 r) A0 n0 c0 x5 x6 x7 x8 A9 n9 c9 x10 x11 b25 h := trace_take.l0_k.all (p := .j1 a0 x5 x6 x7 x8 a9 x10 x11 b25) e h0 m0 h m A0 n0 c0 A9 n9 c9 S ne0 k0 r0 ne9 k9 r9
theorem trace_take.j0.walk {h0 m0 h m : Heap} {A0 : Option Addr} {n0 c0 : Nat} {A9 : Option Addr} {n9 c9 : Nat} {a0 : List Int} {x5 : Int} {x6 : Int} {x7 : Int} {x8 : Int} {a9 : List Int} {x10 : Int} {x11 : Int} (S : St No h0 m0 h m) (ne0 : n0 = List.length a0) (k0 : List.length a0 ≤ c0) (r0 : Rd 1 (eInt .u8) m A0 a0) (ne9 : n9 = List.length a9) (k9 : List.length a9 ≤ c9) (r9 : Rd 1 (eInt .u8) m A9 a9) {r : Int × (List Int) × Bool} (e : trace_take.j0 a0 x5 x6 x7 x8 a9 x10 x11 = some r) : f106.j0 (trace_take.post No h0 m0 r) A0 n0 c0 x5 x6 x7 x8 A9 n9 c9 x10 x11 h := trace_take.l0_k.all (p := .j0 a0 x5 x6 x7 x8 a9 x10 x11) e h0 m0 h m A0 n0 c0 A9 n9 c9 S ne0 k0 r0 ne9 k9 r9

noncomputable def trace_take (a0 : List Int) : Option (Int × (List Int) × Bool) :=
  (trace_take.l0 a0 (0 : Int) (1 : Int) a0 (((List.length a0) : Nat) : Int) (0 : Int))
set_option maxRecDepth 100000 in
theorem trace_take.walk {h m : Heap} {A0 : Option Addr} {n0 c0 : Nat} {a0 : List Int} (s : Sub m h) (ne0 : n0 = List.length a0) (k0 : List.length a0 ≤ c0) (r0 : Rd 1 (eInt .u8) m A0 a0) {r : Int × (List Int) × Bool} (e : trace_take a0 = some r) : Run Try.prog 106 #[Value.slice A0 n0 c0] h (trace_take.post No h m r) := by
  unfold trace_take at e
  subst ne0
  have S : St No h m h m := .refl s
  refine f106.run ?_
  unfold f106.runT
  exact trace_take.l0.walk S rfl k0 r0 rfl k0 r0 e

/-! ### 38 roadstead/trace.Unpack -/
def trace_Unpack.post (W : Nat → Prop) (h0 m0 : Heap) (r : (List T_api_Event) × Int) (v : Value) (h : Heap) : Prop := ∃ m A0 n0 c0, St W h0 m0 h m ∧ v = .tuple #[.slice A0 n0 c0, .int .i64 r.2] ∧ n0 = r.1.length ∧ OS W h0 3 T_api_Event.E h m A0 r.1 c0
inductive trace_Unpack.l0_k.Pt where
  | l0 (a0 : List Int) (a6 : List T_api_Event) (x23 : Int) (x24 : Int)
  | j0 (a0 : List Int) (a6 : List T_api_Event) (y8 : T_api_Event) (x23 : Int) (x24 : Int)
noncomputable def trace_Unpack.l0_k.body (go : (p : trace_Unpack.l0_k.Pt) → Option ((List T_api_Event) × Int)) : (p : trace_Unpack.l0_k.Pt) → Option ((List T_api_Event) × Int)
  | .l0 a0 a6 x23 x24 => if x24 < x23 then (Option.bind (trace_take a0) fun y24 => if y24.2.2 = true then (if (IntKind.wrap .i64 ((Int.tmod y24.1 (3 : Int)) + (1 : Int))) = (1 : Int) then ((go (.j0 y24.2.1 a6 (T_api_Event.mk (IntKind.wrap .i64 (Int.tdiv y24.1 (3 : Int))) (IntKind.wrap .i64 ((Int.tmod y24.1 (3 : Int)) + (1 : Int))) (0 : Int)) x23 x24))) else (Option.bind (trace_take y24.2.1) fun y50 => if y50.2.2 = true then ((go (.j0 y50.2.1 a6 (T_api_Event.mk (IntKind.wrap .i64 (Int.tdiv y24.1 (3 : Int))) (IntKind.wrap .i64 ((Int.tmod y24.1 (3 : Int)) + (1 : Int))) y50.1) x23 x24))) else (some (([] : List T_api_Event), (3 : Int))))) else (some (([] : List T_api_Event), (3 : Int)))) else (if (((List.length a0) : Nat) : Int) > (0 : Int) then (some (([] : List T_api_Event), (3 : Int))) else (Option.bind (clock_Check a6) fun y79 => if y79 = (0 : Int) then (some (a6, (0 : Int))) else (some (([] : List T_api_Event), y79))))
  | .j0 a0 a6 y8 x23 x24 => Option.bind (ap 24 a6 ([y8] : List T_api_Event)) fun l107 => (go (.l0 a0 l107 x23 (IntKind.wrap .i64 (x24 + (1 : Int)))))
theorem trace_Unpack.l0_k.mono : MonoF (β := fun _ => ((List T_api_Event) × Int)) trace_Unpack.l0_k.body := fun f g hfg p => match p with
  | .l0 a0 a6 x23 x24 => LeO.ite (LeO.bind (LeO.refl _) fun y24 => LeO.ite (LeO.ite ((hfg _)) (LeO.bind (LeO.refl _) fun y50 => LeO.ite ((hfg _)) (LeO.refl _))) (LeO.refl _)) (LeO.ite (LeO.refl _) (LeO.bind (LeO.refl _) fun y79 => LeO.ite (LeO.refl _) (LeO.refl _)))
  | .j0 a0 a6 y8 x23 x24 => LeO.bind (LeO.refl _) fun l107 => (hfg _)
noncomputable def trace_Unpack.l0_k.go (p : trace_Unpack.l0_k.Pt) : Option ((List T_api_Event) × Int) := fixF (β := fun _ => ((List T_api_Event) × Int)) trace_Unpack.l0_k.body p
noncomputable def trace_Unpack.l0 (a0 : List Int) (a6 : List T_api_Event) (x23 : Int) (x24 : Int) : Option ((List T_api_Event) × Int) := trace_Unpack.l0_k.go (.l0 a0 a6 x23 x24)
noncomputable def trace_Unpack.j0 (a0 : List Int) (a6 : List T_api_Event) (y8 : T_api_Event) (x23 : Int) (x24 : Int) : Option ((List T_api_Event) × Int) := trace_Unpack.l0_k.go (.j0 a0 a6 y8 x23 x24)
theorem trace_Unpack.l0_eq (a0 : List Int) (a6 : List T_api_Event) (x23 : Int) (x24 : Int) : trace_Unpack.l0 a0 a6 x23 x24 = if x24 < x23 then (Option.bind (trace_take a0) fun y24 => if y24.2.2 = true then (if (IntKind.wrap .i64 ((Int.tmod y24.1 (3 : Int)) + (1 : Int))) = (1 : Int) then ((trace_Unpack.j0 y24.2.1 a6 (T_api_Event.mk (IntKind.wrap .i64 (Int.tdiv y24.1 (3 : Int))) (IntKind.wrap .i64 ((Int.tmod y24.1 (3 : Int)) + (1 : Int))) (0 : Int)) x23 x24)) else (Option.bind (trace_take y24.2.1) fun y50 => if y50.2.2 = true then ((trace_Unpack.j0 y50.2.1 a6 (T_api_Event.mk (IntKind.wrap .i64 (Int.tdiv y24.1 (3 : Int))) (IntKind.wrap .i64 ((Int.tmod y24.1 (3 : Int)) + (1 : Int))) y50.1) x23 x24)) else (some (([] : List T_api_Event), (3 : Int))))) else (some (([] : List T_api_Event), (3 : Int)))) else (if (((List.length a0) : Nat) : Int) > (0 : Int) then (some (([] : List T_api_Event), (3 : Int))) else (Option.bind (clock_Check a6) fun y79 => if y79 = (0 : Int) then (some (a6, (0 : Int))) else (some (([] : List T_api_Event), y79)))) := fixF_eq trace_Unpack.l0_k.mono _
theorem trace_Unpack.j0_eq (a0 : List Int) (a6 : List T_api_Event) (y8 : T_api_Event) (x23 : Int) (x24 : Int) : trace_Unpack.j0 a0 a6 y8 x23 x24 = Option.bind (ap 24 a6 ([y8] : List T_api_Event)) fun l107 => (trace_Unpack.l0 a0 l107 x23 (IntKind.wrap .i64 (x24 + (1 : Int)))) := fixF_eq trace_Unpack.l0_k.mono _
def trace_Unpack.l0_k.I : (p : trace_Unpack.l0_k.Pt) → ((List T_api_Event) × Int) → Prop
  | .l0 a0 a6 x23 x24, r => ∀ (h0 m0 h m : Heap) (A0 : Option Addr) (n0 c0 : Nat) (A6 : Option Addr) (n6 c6 : Nat) (S : St No h0 m0 h m) (ne0 : n0 = List.length a0) (k0 : List.length a0 ≤ c0) (r0 : Rd 1 (eInt .u8) m A0 a0) (ne6 : n6 = List.length a6) (o6 : OS No h0 3 T_api_Event.E h m A6 a6 c6), f38.l0 (trace_Unpack.post No h0 m0 r) A0 n0 c0 A6 n6 c6 x23 x24 h
  | .j0 a0 a6 y8 x23 x24, r => ∀ (h0 m0 h m : Heap) (A0 : Option Addr) (n0 c0 : Nat) (A6 : Option Addr) (n6 c6 : Nat) (bk8 : Nat) (cs8 : List Value) (S : St No h0 m0 h m) (ne0 : n0 = List.length a0) (k0 : List.length a0 ≤ c0) (r0 : Rd 1 (eInt .u8) m A0 a0) (ne6 : n6 = List.length a6) (o6 : OS No h0 3 T_api_Event.E h m A6 a6 c6) (o8 : OB No h0 h m bk8 cs8 83) (e8 : T_api_Event.E m y8 cs8) (d0_1 : Dj (fp A6 c6) (fb bk8)), f38.j0 (trace_Unpack.post No h0 m0 r) A0 n0 c0 A6 n6 c6 (⟨bk8, 0, none⟩ : Addr) x23 x24 h
set_option maxRecDepth 100000 in
theorem trace_Unpack.l0_k.step_l0 (go : (p : trace_Unpack.l0_k.Pt) → Option ((List T_api_Event) × Int)) (ih : ∀ p r, go p = some r → trace_Unpack.l0_k.I p r) (a0 : List Int) (a6 : List T_api_Event) (x23 : Int) (x24 : Int) (r : (List T_api_Event) × Int) (e : trace_Unpack.l0_k.body go (.l0 a0 a6 x23 x24) = some r) : trace_Unpack.l0_k.I (.l0 a0 a6 x23 x24) r := by
  unfold trace_Unpack.l0_k.body at e
  intro h0 m0 h m A0 n0 c0 A6 n6 c6 S ne0 k0 r0 ne6 o6
  subst ne0
  subst ne6
  refine f38.l0_in ?_
  unfold f38.l0T
  refine split_dec_e e (fun c96 e => ?_) (fun c96 e => ?_)
  · obtain ⟨y24, g25, e⟩ := bind_e e
    refine (trace_take.walk S.s rfl k0 r0 g25).mono ?_
    rintro _ h26 ⟨m27, A29, n30, c31, T28, rfl, ne32, k33, r34⟩
    subst ne32
    have S35 := S.grow T28
    have o36 := o6.step T_api_Event.T T28 Dj.no
    refine ⟨_, _, _, _, _, rfl, ?_⟩
    refine split_not ?_
    refine split_any_e e (fun c76 e => ?_) (fun c76 e => ?_)
    · refine ⟨by decide, ?_⟩
      refine ⟨by decide, ?_⟩
      refine new_in S35 fun h37 o38 x39 => ?_
      have d42 : Dj (fp A6 c6) (fb (Array.size h26)) := Dj.new o36.lt
      have o43 := o36.ext T_api_Event.T S35.s x39
      have S40 := S35.ext' x39
      have o38 : OB _ _ h37 _ (Array.size h26) [(Value.int .i64 (0 : Int)), (Value.int .i64 (0 : Int)), (Value.int .i64 (0 : Int))] 83 := o38
      obtain ⟨h44, w45, o46, t47⟩ := o38.stA S40.s [(Value.int .i64 (IntKind.wrap .i64 (Int.tdiv y24.1 (3 : Int)))), (Value.int .i64 (IntKind.wrap .i64 ((Int.tmod y24.1 (3 : Int)) + (1 : Int)))), (Value.int .i64 (0 : Int))] rfl (Flats.cons trivial (Flats.cons trivial (Flats.cons trivial Flats.nil)))
      refine ⟨[(Value.int .i64 (IntKind.wrap .i64 (Int.tdiv y24.1 (3 : Int)))), (Value.int .i64 (IntKind.wrap .i64 ((Int.tmod y24.1 (3 : Int)) + (1 : Int)))), (Value.int .i64 (0 : Int))], rfl, rfl, h44, w45, ?_⟩
      have o46 : OB _ _ h44 _ (Array.size h26) [(Value.int .i64 (IntKind.wrap .i64 (Int.tdiv y24.1 (3 : Int)))), (Value.int .i64 (IntKind.wrap .i64 ((Int.tmod y24.1 (3 : Int)) + (1 : Int)))), (Value.int .i64 (0 : Int))] 83 := o46
      have S48 := S40.then t47 (fun i _ hi => o38.wr i hi)
      have o49 := o43.step T_api_Event.T t47 (d42).symm
      refine ⟨_, ldk (k := 1) (Sub.refl _) o46.all rfl, _, rfl, ?_⟩
      refine split_ne_e e (fun c73 e => ?_) (fun c73 e => ?_)
      · obtain ⟨y50, g51, e⟩ := bind_e e
        refine (trace_take.walk S48.s rfl k33 r34 g51).mono ?_
        rintro _ h52 ⟨m53, A55, n56, c57, T54, rfl, ne58, k59, r60⟩
        subst ne58
        have S61 := S48.grow T54
        have o62 := o49.step T_api_Event.T T54 Dj.no
        have o63 := o46.step T54 Dj.no
        refine ⟨_, _, _, _, _, rfl, ?_⟩
        obtain ⟨h64, w65, o66, t67⟩ := o63.st (k := 2) S61.s (v := (Value.int .i64 y50.1)) (Nat.le_of_ble_eq_true rfl) trivial
        refine ⟨h64, w65, ?_⟩
        have o66 : OB _ _ h64 _ (Array.size h26) [(Value.int .i64 (IntKind.wrap .i64 (Int.tdiv y24.1 (3 : Int)))), (Value.int .i64 (IntKind.wrap .i64 ((Int.tmod y24.1 (3 : Int)) + (1 : Int)))), (Value.int .i64 y50.1)] 83 := o66
        have S68 := S61.then t67 (fun i _ hi => o63.wr i hi)
        have o69 := o62.step T_api_Event.T t67 (d42).symm
        refine split_not ?_
        refine split_any_e e (fun c72 e => ?_) (fun c72 e => ?_)
        · exact (ih _ _ e) _ _ _ _ _ _ _ _ _ _ _ _ S68 rfl k59 r60 rfl o69 o66 (show T_api_Event.E _ (T_api_Event.mk (IntKind.wrap .i64 (Int.tdiv y24.1 (3 : Int))) (IntKind.wrap .i64 ((Int.tmod y24.1 (3 : Int)) + (1 : Int))) y50.1) [(Value.int .i64 (IntKind.wrap .i64 (Int.tdiv y24.1 (3 : Int)))), (Value.int .i64 (IntKind.wrap .i64 ((Int.tmod y24.1 (3 : Int)) + (1 : Int)))), (Value.int .i64 y50.1)] from rfl) d42
        · have o71 : OS No h0 3 T_api_Event.E h64 m53 none ([] : List T_api_Event) 0 := .inl ⟨rfl, rfl⟩
          cases e
          exact ⟨_, _, _, _, S68, rfl, rfl, o71⟩
      · exact (ih _ _ e) _ _ _ _ _ _ _ _ _ _ _ _ S48 rfl k33 r34 rfl o49 o46 (show T_api_Event.E _ (T_api_Event.mk (IntKind.wrap .i64 (Int.tdiv y24.1 (3 : Int))) (IntKind.wrap .i64 ((Int.tmod y24.1 (3 : Int)) + (1 : Int))) (0 : Int)) [(Value.int .i64 (IntKind.wrap .i64 (Int.tdiv y24.1 (3 : Int)))), (Value.int .i64 (IntKind.wrap .i64 ((Int.tmod y24.1 (3 : Int)) + (1 : Int)))), (Value.int .i64 (0 : Int))] from rfl) d42
    · have o75 : OS No h0 3 T_api_Event.E h26 m27 none ([] : List T_api_Event) 0 := .inl ⟨rfl, rfl⟩
      cases e
      exact ⟨_, _, _, _, S35, rfl, rfl, o75⟩
  · refine split_dec_e e (fun c95 e => ?_) (fun c95 e => ?_)
    · have o78 : OS No h0 3 T_api_Event.E h m none ([] : List T_api_Event) 0 := .inl ⟨rfl, rfl⟩
      cases e
      exact ⟨_, _, _, _, S, rfl, rfl, o78⟩
    · obtain ⟨y79, g80, e⟩ := bind_e e
      obtain ⟨m84, L85, u86, s87, t88⟩ := St.lend S.s (fp A6 c6)
      refine (clock_Check.walk s87 rfl o6.cap (o6.lent T_api_Event.T S.s L85 (fun _ h => h)) g80).mono ?_
      rintro _ h81 ⟨m82, T83, rfl⟩
      have x89 := T83.ext
      have o91 := o6.ext T_api_Event.T S.s x89
      have S90 := S.ext' x89
      refine ⟨_, rfl, ?_⟩
      refine split_ne_e e (fun c94 e => ?_) (fun c94 e => ?_)
      · have o93 : OS No h0 3 T_api_Event.E h81 m none ([] : List T_api_Event) 0 := .inl ⟨rfl, rfl⟩
        cases e
        exact ⟨_, _, _, _, S90, rfl, rfl, o93⟩
      · cases e
        exact ⟨_, _, _, _, S90, rfl, rfl, o91⟩
set_option maxRecDepth 100000 in
theorem trace_Unpack.l0_k.step_j0 (go : (p : trace_Unpack.l0_k.Pt) → Option ((List T_api_Event) × Int)) (ih : ∀ p r, go p = some r → trace_Unpack.l0_k.I p r) (a0 : List Int) (a6 : List T_api_Event) (y8 : T_api_Event) (x23 : Int) (x24 : Int) (r : (List T_api_Event) × Int) (e : trace_Unpack.l0_k.body go (.j0 a0 a6 y8 x23 x24) = some r) : trace_Unpack.l0_k.I (.j0 a0 a6 y8 x23 x24) r := by
  unfold trace_Unpack.l0_k.body at e
  intro h0 m0 h m A0 n0 c0 A6 n6 c6 bk8 cs8 S ne0 k0 r0 ne6 o6 o8 e8 d0_1
  subst ne0
  subst ne6
  obtain rfl : cs8 = [(Value.int .i64 y8.Place), (Value.int .i64 y8.Kind), (Value.int .i64 y8.Msg)] := e8
  refine f38.j0_in ?_
  unfold f38.j0T
  refine ⟨_, ldA (Sub.refl _) o8.all, ?_⟩
  refine ⟨[(Value.int .i64 y8.Place), (Value.int .i64 y8.Kind), (Value.int .i64 y8.Msg)], rfl, rfl, ?_⟩
  refine new_in S fun h97 o98 x99 => ?_
  have d102 : Dj (fp A6 c6) (fb (Array.size h)) := Dj.new o6.lt
  have d103 : Dj (fb bk8) (fb (Array.size h)) := Dj.new o8.lt
  have o104 := o6.ext T_api_Event.T S.s x99
  have o105 := o8.ext x99
  have S100 := S.ext' x99
  have o98 : OB _ _ h97 _ (Array.size h) [(Value.int .i64 y8.Place), (Value.int .i64 y8.Kind), (Value.int .i64 y8.Msg)] 83 := o98
  have o106 : OS _ _ 3 T_api_Event.E h97 m (some ⟨(Array.size h), 0, none⟩) ([y8] : List T_api_Event) 1 := OB.row o98 (CsE.cons (c1 := [(Value.int .i64 y8.Place), (Value.int .i64 y8.Kind), (Value.int .i64 y8.Msg)]) (show T_api_Event.E _ y8 [(Value.int .i64 y8.Place), (Value.int .i64 y8.Kind), (Value.int .i64 y8.Msg)] from rfl) rfl CsE.nil) rfl
  obtain ⟨l107, g108, e⟩ := bind_e e
  refine o104.app T_api_Event.T S100 rfl rfl (o106.srcE rfl) (by decide) g108 fun A109 c110 h111 o112 t113 n114 => ?_
  refine ⟨_, _, _, rfl, ?_⟩
  have d116 : Dj (fb bk8) (fp A109 c110) := Dj.app (d0_1).symm o105.lt n114
  have d117 : Dj (fp (some ⟨(Array.size h), 0, none⟩) 1) (fp A109 c110) := Dj.app ((d102.row)).symm o106.lt n114
  have S118 := S100.then t113 (fun i _ hi => o104.wr i hi)
  have o119 := o105.step t113 d0_1
  have o120 := o106.step T_api_Event.T t113 (d102.row)
  exact (ih _ _ e) _ _ _ _ _ _ _ _ _ _ S118 rfl k0 r0 rfl o112
theorem trace_Unpack.l0_k.all {p : trace_Unpack.l0_k.Pt} {r : ((List T_api_Event) × Int)} (e : trace_Unpack.l0_k.go p = some r) : trace_Unpack.l0_k.I p r := fixF_ind (β := fun _ => ((List T_api_Event) × Int)) trace_Unpack.l0_k.mono (I := trace_Unpack.l0_k.I) (fun go ih p r e => match p with
  | .l0 a0 a6 x23 x24 => trace_Unpack.l0_k.step_l0 go ih a0 a6 x23 x24 r e
  | .j0 a0 a6 y8 x23 x24 => trace_Unpack.l0_k.step_j0 go ih a0 a6 y8 x23 x24 r e
  ) e
theorem trace_Unpack.l0.walk {h0 m0 h m : Heap} {A0 : Option Addr} {n0 c0 : Nat} {A6 : Option Addr} {n6 c6 : Nat} {a0 : List Int} {a6 : List T_api_Event} {x23 : Int} {x24 : Int} (S : St No h0 m0 h m) (ne0 : n0 = List.length a0) (k0 : List.length a0 ≤ c0) (r0 : Rd 1 (eInt .u8) m A0 a0) (ne6 : n6 = List.length a6) (o6 : OS No h0 3 T_api_Event.E h m A6 a6 c6) {r : (List T_api_Event) × Int} (e : trace_Unpack.l0 a0 a6 x23 x24 = some r) : f38.l0 (trace_Unpack.post No h0 m0 r) A0 n0 c0 A6 n6 c6 x23 x24 h := trace_Unpack.l0_k.all (p := .l0 a0 a6 x23 x24) e h0 m0 h m A0 n0 c0 A6 n6 c6 S ne0 k0 r0 ne6 o6
theorem trace_Unpack.j0.walk {h0 m0 h m : Heap} {A0 : Option Addr} {n0 c0 : Nat} {A6 : Option Addr} {n6 c6 : Nat} {bk8 : Nat} {cs8 : List Value} {a0 : List Int} {a6 : List T_api_Event} {y8 : T_api_Event} {x23 : Int} {x24 : Int} (S : St No h0 m0 h m) (ne0 : n0 = List.length a0) (k0 : List.length a0 ≤ c0) (r0 : Rd 1 (eInt .u8) m A0 a0) (ne6 : n6 = List.length a6) (o6 : OS No h0 3 T_api_Event.E h m A6 a6 c6) (o8 : OB No h0 h m bk8 cs8 83) (e8 : T_api_Event.E m y8 cs8) (d0_1 : Dj (fp A6 c6) (fb bk8)) {r : (List T_api_Event) × Int} (e : trace_Unpack.j0 a0 a6 y8 x23 x24 = some r) : f38.j0 (trace_Unpack.post No h0 m0 r) A0 n0 c0 A6 n6 c6 (⟨bk8, 0, none⟩ : Addr) x23 x24 h := trace_Unpack.l0_k.all (p := .j0 a0 a6 y8 x23 x24) e h0 m0 h m A0 n0 c0 A6 n6 c6 bk8 cs8 S ne0 k0 r0 ne6 o6 o8 e8 d0_1

noncomputable def trace_Unpack (a0 : List Int) : Option ((List T_api_Event) × Int) :=
  if (((List.length a0) : Nat) : Int) > (4000 : Int) then (some (([] : List T_api_Event), (2 : Int))) else (Option.bind (trace_take a0) fun y3 => if y3.2.2 = true then (if y3.1 > (200 : Int) then (some (([] : List T_api_Event), (2 : Int))) else ((trace_Unpack.l0 y3.2.1 ([] : List T_api_Event) y3.1 (0 : Int)))) else (some (([] : List T_api_Event), (3 : Int))))
set_option maxRecDepth 100000 in
theorem trace_Unpack.walk {h m : Heap} {A0 : Option Addr} {n0 c0 : Nat} {a0 : List Int} (s : Sub m h) (ne0 : n0 = List.length a0) (k0 : List.length a0 ≤ c0) (r0 : Rd 1 (eInt .u8) m A0 a0) {r : (List T_api_Event) × Int} (e : trace_Unpack a0 = some r) : Run Try.prog 38 #[Value.slice A0 n0 c0] h (trace_Unpack.post No h m r) := by
  unfold trace_Unpack at e
  subst ne0
  have S : St No h m h m := .refl s
  refine f38.run ?_
  unfold f38.runT
  refine split_dec_e e (fun c23 e => ?_) (fun c23 e => ?_)
  · have o2 : OS No h 3 T_api_Event.E h m none ([] : List T_api_Event) 0 := .inl ⟨rfl, rfl⟩
    cases e
    exact ⟨_, _, _, _, S, rfl, rfl, o2⟩
  · obtain ⟨y3, g4, e⟩ := bind_e e
    refine (trace_take.walk S.s rfl k0 r0 g4).mono ?_
    rintro _ h5 ⟨m6, A8, n9, c10, T7, rfl, ne11, k12, r13⟩
    subst ne11
    have S14 := S.grow T7
    refine ⟨_, _, _, _, _, rfl, ?_⟩
    refine split_not ?_
    refine split_any_e e (fun c22 e => ?_) (fun c22 e => ?_)
    · refine split_dec_e e (fun c19 e => ?_) (fun c19 e => ?_)
      · have o16 : OS No h 3 T_api_Event.E h5 m6 none ([] : List T_api_Event) 0 := .inl ⟨rfl, rfl⟩
        cases e
        exact ⟨_, _, _, _, S14, rfl, rfl, o16⟩
      · have o18 : OS No h 3 T_api_Event.E h5 m6 none ([] : List T_api_Event) 0 := .inl ⟨rfl, rfl⟩
        exact trace_Unpack.l0.walk S14 rfl k12 r13 rfl o18 e
    · have o21 : OS No h 3 T_api_Event.E h5 m6 none ([] : List T_api_Event) 0 := .inl ⟨rfl, rfl⟩
      cases e
      exact ⟨_, _, _, _, S14, rfl, rfl, o21⟩

/-! ### 107 roadstead/roadref4.Bytes -/
def roadref4_Bytes.post (W : Nat → Prop) (h0 m0 : Heap) (r : (List Int)) (v : Value) (h : Heap) : Prop := ∃ m A0 n0 c0, St W h0 m0 h m ∧ v = .slice A0 n0 c0 ∧ n0 = r.length ∧ OS W h0 1 (eInt .u8) h m A0 r c0
inductive roadref4_Bytes.l0_k.Pt where
  | l0 (a3 : List Int) (a6 : List Int) (x7 : Int) (x8 : Int)
  | l1 (a3 : List Int) (x5 : Int) (a6 : List Int) (x7 : Int) (x8 : Int)
noncomputable def roadref4_Bytes.l0_k.body (go : (p : roadref4_Bytes.l0_k.Pt) → Option ((List Int))) : (p : roadref4_Bytes.l0_k.Pt) → Option ((List Int))
  | .l0 a3 a6 x7 x8 => if x8 < x7 then (Option.bind (gi a6 x8) fun y3 => (go (.l1 a3 y3 a6 x7 x8))) else (some (a3))
  | .l1 a3 x5 a6 x7 x8 => if x5 > (127 : Int) then (Option.bind (ap 1 a3 ([(IntKind.wrap .u8 (bitsI .or .i64 x5 (128 : Int)))] : List Int)) fun l19 => (go (.l1 l19 (shrI .i64 x5 (7 : Int)) a6 x7 x8))) else (Option.bind (ap 1 a3 ([(IntKind.wrap .u8 x5)] : List Int)) fun l39 => (go (.l0 l39 a6 x7 (IntKind.wrap .i64 (x8 + (1 : Int))))))
theorem roadref4_Bytes.l0_k.mono : MonoF (β := fun _ => ((List Int))) roadref4_Bytes.l0_k.body := fun f g hfg p => match p with
  | .l0 a3 a6 x7 x8 => LeO.ite (LeO.bind (LeO.refl _) fun y3 => (hfg _)) (LeO.refl _)
  | .l1 a3 x5 a6 x7 x8 => LeO.ite (LeO.bind (LeO.refl _) fun l19 => (hfg _)) (LeO.bind (LeO.refl _) fun l39 => (hfg _))
noncomputable def roadref4_Bytes.l0_k.go (p : roadref4_Bytes.l0_k.Pt) : Option ((List Int)) := fixF (β := fun _ => ((List Int))) roadref4_Bytes.l0_k.body p
noncomputable def roadref4_Bytes.l0 (a3 : List Int) (a6 : List Int) (x7 : Int) (x8 : Int) : Option ((List Int)) := roadref4_Bytes.l0_k.go (.l0 a3 a6 x7 x8)
noncomputable def roadref4_Bytes.l1 (a3 : List Int) (x5 : Int) (a6 : List Int) (x7 : Int) (x8 : Int) : Option ((List Int)) := roadref4_Bytes.l0_k.go (.l1 a3 x5 a6 x7 x8)
theorem roadref4_Bytes.l0_eq (a3 : List Int) (a6 : List Int) (x7 : Int) (x8 : Int) : roadref4_Bytes.l0 a3 a6 x7 x8 = if x8 < x7 then (Option.bind (gi a6 x8) fun y3 => (roadref4_Bytes.l1 a3 y3 a6 x7 x8)) else (some (a3)) := fixF_eq roadref4_Bytes.l0_k.mono _
theorem roadref4_Bytes.l1_eq (a3 : List Int) (x5 : Int) (a6 : List Int) (x7 : Int) (x8 : Int) : roadref4_Bytes.l1 a3 x5 a6 x7 x8 = if x5 > (127 : Int) then (Option.bind (ap 1 a3 ([(IntKind.wrap .u8 (bitsI .or .i64 x5 (128 : Int)))] : List Int)) fun l19 => (roadref4_Bytes.l1 l19 (shrI .i64 x5 (7 : Int)) a6 x7 x8)) else (Option.bind (ap 1 a3 ([(IntKind.wrap .u8 x5)] : List Int)) fun l39 => (roadref4_Bytes.l0 l39 a6 x7 (IntKind.wrap .i64 (x8 + (1 : Int))))) := fixF_eq roadref4_Bytes.l0_k.mono _
def roadref4_Bytes.l0_k.I : (p : roadref4_Bytes.l0_k.Pt) → ((List Int)) → Prop
  | .l0 a3 a6 x7 x8, r => ∀ (h0 m0 h m : Heap) (A3 : Option Addr) (n3 c3 : Nat) (A6 : Option Addr) (n6 c6 : Nat) (S : St No h0 m0 h m) (ne3 : n3 = List.length a3) (o3 : OS No h0 1 (eInt .u8) h m A3 a3 c3) (ne6 : n6 = List.length a6) (k6 : List.length a6 ≤ c6) (r6 : Rd 1 (eInt .i64) m A6 a6), f107.l0 (roadref4_Bytes.post No h0 m0 r) A3 n3 c3 A6 n6 c6 x7 x8 h
  | .l1 a3 x5 a6 x7 x8, r => ∀ (h0 m0 h m : Heap) (A3 : Option Addr) (n3 c3 : Nat) (A6 : Option Addr) (n6 c6 : Nat) (S : St No h0 m0 h m) (ne3 : n3 = List.length a3) (o3 : OS No h0 1 (eInt .u8) h m A3 a3 c3) (ne6 : n6 = List.length a6) (k6 : List.length a6 ≤ c6) (r6 : Rd 1 (eInt .i64) m A6 a6), f107.l1 (roadref4_Bytes.post No h0 m0 r) A3 n3 c3 x5 A6 n6 c6 x7 x8 h
set_option maxRecDepth 100000 in
theorem roadref4_Bytes.l0_k.step_l0 (go : (p : roadref4_Bytes.l0_k.Pt) → Option ((List Int))) (ih : ∀ p r, go p = some r → roadref4_Bytes.l0_k.I p r) (a3 : List Int) (a6 : List Int) (x7 : Int) (x8 : Int) (r : (List Int)) (e : roadref4_Bytes.l0_k.body go (.l0 a3 a6 x7 x8) = some r) : roadref4_Bytes.l0_k.I (.l0 a3 a6 x7 x8) r := by
  unfold roadref4_Bytes.l0_k.body at e
  intro h0 m0 h m A3 n3 c3 A6 n6 c6 S ne3 o3 ne6 k6 r6
  subst ne3
  subst ne6
  refine f107.l0_in ?_
  unfold f107.l0T
  refine split_dec_e e (fun c10 e => ?_) (fun c10 e => ?_)
  · obtain ⟨y3, g4, e⟩ := bind_e e
    refine r6.addr rfl g4 fun a5 cs6 ha7 hc8 he9 => ?_
    obtain rfl : cs6 = [(Value.int .i64 y3)] := he9
    refine ⟨_, ld0 S.s hc8 rfl, _, rfl, ?_⟩
    exact (ih _ _ e) _ _ _ _ _ _ _ _ _ _ S rfl o3 rfl k6 r6
  · cases e
    exact ⟨_, _, _, _, S, rfl, rfl, o3⟩
set_option maxRecDepth 100000 in
theorem roadref4_Bytes.l0_k.step_l1 (go : (p : roadref4_Bytes.l0_k.Pt) → Option ((List Int))) (ih : ∀ p r, go p = some r → roadref4_Bytes.l0_k.I p r) (a3 : List Int) (x5 : Int) (a6 : List Int) (x7 : Int) (x8 : Int) (r : (List Int)) (e : roadref4_Bytes.l0_k.body go (.l1 a3 x5 a6 x7 x8) = some r) : roadref4_Bytes.l0_k.I (.l1 a3 x5 a6 x7 x8) r := by
  unfold roadref4_Bytes.l0_k.body at e
  intro h0 m0 h m A3 n3 c3 A6 n6 c6 S ne3 o3 ne6 k6 r6
  subst ne3
  subst ne6
  refine f107.l1_in ?_
  unfold f107.l1T
  refine split_dec_e e (fun c51 e => ?_) (fun c51 e => ?_)
  · refine new_in S fun h11 o12 x13 => ?_
    have d16 : Dj (fp A3 c3) (fb (Array.size h)) := Dj.new o3.lt
    have o17 := o3.ext (tell_int .u8) S.s x13
    have S14 := S.ext' x13
    have o12 : OB _ _ h11 _ (Array.size h) [(Value.int .u8 (IntKind.wrap .u8 (bitsI .or .i64 x5 (128 : Int))))] 5 := o12
    have o18 : OS _ _ 1 (eInt .u8) h11 m (some ⟨(Array.size h), 0, none⟩) ([(IntKind.wrap .u8 (bitsI .or .i64 x5 (128 : Int)))] : List Int) 1 := OB.row o12 (CsE.cons (c1 := [(Value.int .u8 (IntKind.wrap .u8 (bitsI .or .i64 x5 (128 : Int))))]) rfl rfl CsE.nil) rfl
    obtain ⟨l19, g20, e⟩ := bind_e e
    refine o17.app (tell_int .u8) S14 rfl rfl (o18.srcE rfl) (by decide) g20 fun A21 c22 h23 o24 t25 n26 => ?_
    refine ⟨_, _, _, rfl, ?_⟩
    have d28 : Dj (fp (some ⟨(Array.size h), 0, none⟩) 1) (fp A21 c22) := Dj.app ((d16.row)).symm o18.lt n26
    have S29 := S14.then t25 (fun i _ hi => o17.wr i hi)
    have o30 := o18.step (tell_int .u8) t25 (d16.row)
    refine ⟨by decide, ?_⟩
    exact (ih _ _ e) _ _ _ _ _ _ _ _ _ _ S29 rfl o24 rfl k6 r6
  · refine new_in S fun h31 o32 x33 => ?_
    have d36 : Dj (fp A3 c3) (fb (Array.size h)) := Dj.new o3.lt
    have o37 := o3.ext (tell_int .u8) S.s x33
    have S34 := S.ext' x33
    have o32 : OB _ _ h31 _ (Array.size h) [(Value.int .u8 (IntKind.wrap .u8 x5))] 5 := o32
    have o38 : OS _ _ 1 (eInt .u8) h31 m (some ⟨(Array.size h), 0, none⟩) ([(IntKind.wrap .u8 x5)] : List Int) 1 := OB.row o32 (CsE.cons (c1 := [(Value.int .u8 (IntKind.wrap .u8 x5))]) rfl rfl CsE.nil) rfl
    obtain ⟨l39, g40, e⟩ := bind_e e
    refine o37.app (tell_int .u8) S34 rfl rfl (o38.srcE rfl) (by decide) g40 fun A41 c42 h43 o44 t45 n46 => ?_
    refine ⟨_, _, _, rfl, ?_⟩
    have d48 : Dj (fp (some ⟨(Array.size h), 0, none⟩) 1) (fp A41 c42) := Dj.app ((d36.row)).symm o38.lt n46
    have S49 := S34.then t45 (fun i _ hi => o37.wr i hi)
    have o50 := o38.step (tell_int .u8) t45 (d36.row)
    exact (ih _ _ e) _ _ _ _ _ _ _ _ _ _ S49 rfl o44 rfl k6 r6
theorem roadref4_Bytes.l0_k.all {p : roadref4_Bytes.l0_k.Pt} {r : ((List Int))} (e : roadref4_Bytes.l0_k.go p = some r) : roadref4_Bytes.l0_k.I p r := fixF_ind (β := fun _ => ((List Int))) roadref4_Bytes.l0_k.mono (I := roadref4_Bytes.l0_k.I) (fun go ih p r e => match p with
  | .l0 a3 a6 x7 x8 => roadref4_Bytes.l0_k.step_l0 go ih a3 a6 x7 x8 r e
  | .l1 a3 x5 a6 x7 x8 => roadref4_Bytes.l0_k.step_l1 go ih a3 x5 a6 x7 x8 r e
  ) e
theorem roadref4_Bytes.l0.walk {h0 m0 h m : Heap} {A3 : Option Addr} {n3 c3 : Nat} {A6 : Option Addr} {n6 c6 : Nat} {a3 : List Int} {a6 : List Int} {x7 : Int} {x8 : Int} (S : St No h0 m0 h m) (ne3 : n3 = List.length a3) (o3 : OS No h0 1 (eInt .u8) h m A3 a3 c3) (ne6 : n6 = List.length a6) (k6 : List.length a6 ≤ c6) (r6 : Rd 1 (eInt .i64) m A6 a6) {r : (List Int)} (e : roadref4_Bytes.l0 a3 a6 x7 x8 = some r) : f107.l0 (roadref4_Bytes.post No h0 m0 r) A3 n3 c3 A6 n6 c6 x7 x8 h := roadref4_Bytes.l0_k.all (p := .l0 a3 a6 x7 x8) e h0 m0 h m A3 n3 c3 A6 n6 c6 S ne3 o3 ne6 k6 r6
theorem roadref4_Bytes.l1.walk {h0 m0 h m : Heap} {A3 : Option Addr} {n3 c3 : Nat} {A6 : Option Addr} {n6 c6 : Nat} {a3 : List Int} {x5 : Int} {a6 : List Int} {x7 : Int} {x8 : Int} (S : St No h0 m0 h m) (ne3 : n3 = List.length a3) (o3 : OS No h0 1 (eInt .u8) h m A3 a3 c3) (ne6 : n6 = List.length a6) (k6 : List.length a6 ≤ c6) (r6 : Rd 1 (eInt .i64) m A6 a6) {r : (List Int)} (e : roadref4_Bytes.l1 a3 x5 a6 x7 x8 = some r) : f107.l1 (roadref4_Bytes.post No h0 m0 r) A3 n3 c3 x5 A6 n6 c6 x7 x8 h := roadref4_Bytes.l0_k.all (p := .l1 a3 x5 a6 x7 x8) e h0 m0 h m A3 n3 c3 A6 n6 c6 S ne3 o3 ne6 k6 r6

noncomputable def roadref4_Bytes (a0 : List Int) : Option ((List Int)) :=
  (roadref4_Bytes.l0 ([] : List Int) a0 (((List.length a0) : Nat) : Int) (0 : Int))
set_option maxRecDepth 100000 in
theorem roadref4_Bytes.walk {h m : Heap} {A0 : Option Addr} {n0 c0 : Nat} {a0 : List Int} (s : Sub m h) (ne0 : n0 = List.length a0) (k0 : List.length a0 ≤ c0) (r0 : Rd 1 (eInt .i64) m A0 a0) {r : (List Int)} (e : roadref4_Bytes a0 = some r) : Run Try.prog 107 #[Value.slice A0 n0 c0] h (roadref4_Bytes.post No h m r) := by
  unfold roadref4_Bytes at e
  subst ne0
  have S : St No h m h m := .refl s
  refine f107.run ?_
  unfold f107.runT
  have o2 : OS No h 1 (eInt .u8) h m none ([] : List Int) 0 := .inl ⟨rfl, rfl⟩
  exact roadref4_Bytes.l0.walk S rfl o2 rfl k0 r0 e

/-! ### 39 roadstead/roadref4.Pack -/
def roadref4_Pack.post (W : Nat → Prop) (h0 m0 : Heap) (r : (List Int)) (v : Value) (h : Heap) : Prop := ∃ m A0 n0 c0, St W h0 m0 h m ∧ v = .slice A0 n0 c0 ∧ n0 = r.length ∧ OS W h0 1 (eInt .u8) h m A0 r c0
inductive roadref4_Pack.l0_k.Pt where
  | l0 (a3 : List Int) (a9 : List T_api_Event) (x10 : Int) (x11 : Int)
noncomputable def roadref4_Pack.l0_k.body (go : (p : roadref4_Pack.l0_k.Pt) → Option ((List Int))) : (p : roadref4_Pack.l0_k.Pt) → Option ((List Int))
  | .l0 a3 a9 x10 x11 => if x11 < x10 then (Option.bind (gi a9 x11) fun y7 => Option.bind (ap 8 a3 ([(IntKind.wrap .i64 ((IntKind.wrap .i64 ((IntKind.wrap .i64 (y7.Place * (3 : Int))) + y7.Kind)) - (1 : Int)))] : List Int)) fun l37 => if y7.Kind > (1 : Int) then (Option.bind (ap 8 l37 ([y7.Msg] : List Int)) fun l61 => (go (.l0 l61 a9 x10 (IntKind.wrap .i64 (x11 + (1 : Int)))))) else ((go (.l0 l37 a9 x10 (IntKind.wrap .i64 (x11 + (1 : Int))))))) else (Option.bind (roadref4_Bytes a3) fun y76 => some (y76))
theorem roadref4_Pack.l0_k.mono : MonoF (β := fun _ => ((List Int))) roadref4_Pack.l0_k.body := fun f g hfg p => match p with
  | .l0 a3 a9 x10 x11 => LeO.ite (LeO.bind (LeO.refl _) fun y7 => LeO.bind (LeO.refl _) fun l37 => LeO.ite (LeO.bind (LeO.refl _) fun l61 => (hfg _)) ((hfg _))) (LeO.bind (LeO.refl _) fun y76 => LeO.refl _)
noncomputable def roadref4_Pack.l0_k.go (p : roadref4_Pack.l0_k.Pt) : Option ((List Int)) := fixF (β := fun _ => ((List Int))) roadref4_Pack.l0_k.body p
noncomputable def roadref4_Pack.l0 (a3 : List Int) (a9 : List T_api_Event) (x10 : Int) (x11 : Int) : Option ((List Int)) := roadref4_Pack.l0_k.go (.l0 a3 a9 x10 x11)
theorem roadref4_Pack.l0_eq (a3 : List Int) (a9 : List T_api_Event) (x10 : Int) (x11 : Int) : roadref4_Pack.l0 a3 a9 x10 x11 = if x11 < x10 then (Option.bind (gi a9 x11) fun y7 => Option.bind (ap 8 a3 ([(IntKind.wrap .i64 ((IntKind.wrap .i64 ((IntKind.wrap .i64 (y7.Place * (3 : Int))) + y7.Kind)) - (1 : Int)))] : List Int)) fun l37 => if y7.Kind > (1 : Int) then (Option.bind (ap 8 l37 ([y7.Msg] : List Int)) fun l61 => (roadref4_Pack.l0 l61 a9 x10 (IntKind.wrap .i64 (x11 + (1 : Int))))) else ((roadref4_Pack.l0 l37 a9 x10 (IntKind.wrap .i64 (x11 + (1 : Int)))))) else (Option.bind (roadref4_Bytes a3) fun y76 => some (y76)) := fixF_eq roadref4_Pack.l0_k.mono _
def roadref4_Pack.l0_k.I : (p : roadref4_Pack.l0_k.Pt) → ((List Int)) → Prop
  | .l0 a3 a9 x10 x11, r => ∀ (h0 m0 h m : Heap) (A3 : Option Addr) (n3 c3 : Nat) (A9 : Option Addr) (n9 c9 : Nat) (S : St No h0 m0 h m) (ne3 : n3 = List.length a3) (o3 : OS No h0 1 (eInt .i64) h m A3 a3 c3) (ne9 : n9 = List.length a9) (k9 : List.length a9 ≤ c9) (r9 : Rd 3 T_api_Event.E m A9 a9), f39.l0 (roadref4_Pack.post No h0 m0 r) A3 n3 c3 A9 n9 c9 x10 x11 h
set_option maxRecDepth 100000 in
theorem roadref4_Pack.l0_k.step_l0 (go : (p : roadref4_Pack.l0_k.Pt) → Option ((List Int))) (ih : ∀ p r, go p = some r → roadref4_Pack.l0_k.I p r) (a3 : List Int) (a9 : List T_api_Event) (x10 : Int) (x11 : Int) (r : (List Int)) (e : roadref4_Pack.l0_k.body go (.l0 a3 a9 x10 x11) = some r) : roadref4_Pack.l0_k.I (.l0 a3 a9 x10 x11) r := by
  unfold roadref4_Pack.l0_k.body at e
  intro h0 m0 h m A3 n3 c3 A9 n9 c9 S ne3 o3 ne9 k9 r9
  subst ne3
  subst ne9
  refine f39.l0_in ?_
  unfold f39.l0T
  refine split_dec_e e (fun c98 e => ?_) (fun c98 e => ?_)
  · obtain ⟨y7, g8, e⟩ := bind_e e
    refine r9.addr rfl g8 fun a9 cs10 ha11 hc12 he13 => ?_
    obtain rfl : cs10 = [(Value.int .i64 y7.Place), (Value.int .i64 y7.Kind), (Value.int .i64 y7.Msg)] := he13
    refine ⟨_, ldA S.s hc12, ?_⟩
    refine new_in S fun h14 o15 x16 => ?_
    have d19 : Dj (fp A3 c3) (fb (Array.size h)) := Dj.new o3.lt
    have o20 := o3.ext (tell_int .i64) S.s x16
    have S17 := S.ext' x16
    have o15 : OB _ _ h14 _ (Array.size h) [(Value.int .i64 (0 : Int)), (Value.int .i64 (0 : Int)), (Value.int .i64 (0 : Int))] 83 := o15
    obtain ⟨h21, w22, o23, t24⟩ := o15.stA S17.s [(Value.int .i64 y7.Place), (Value.int .i64 y7.Kind), (Value.int .i64 y7.Msg)] rfl (Flats.cons trivial (Flats.cons trivial (Flats.cons trivial Flats.nil)))
    refine ⟨[(Value.int .i64 y7.Place), (Value.int .i64 y7.Kind), (Value.int .i64 y7.Msg)], rfl, rfl, h21, w22, ?_⟩
    have o23 : OB _ _ h21 _ (Array.size h) [(Value.int .i64 y7.Place), (Value.int .i64 y7.Kind), (Value.int .i64 y7.Msg)] 83 := o23
    have S25 := S17.then t24 (fun i _ hi => o15.wr i hi)
    have o26 := o20.step (tell_int .i64) t24 (d19).symm
    refine ⟨_, ld0 (Sub.refl _) o23.all rfl, _, rfl, ?_⟩
    refine ⟨_, ldk (k := 1) (Sub.refl _) o23.all rfl, _, rfl, ?_⟩
    refine new_in S25 fun h27 o28 x29 => ?_
    have d32 : Dj (fp A3 c3) (fb (Array.size h21)) := Dj.new o26.lt
    have d33 : Dj (fb (Array.size h)) (fb (Array.size h21)) := Dj.new o23.lt
    have o34 := o26.ext (tell_int .i64) S25.s x29
    have o35 := o23.ext x29
    have S30 := S25.ext' x29
    have o28 : OB _ _ h27 _ (Array.size h21) [(Value.int .i64 (IntKind.wrap .i64 ((IntKind.wrap .i64 ((IntKind.wrap .i64 (y7.Place * (3 : Int))) + y7.Kind)) - (1 : Int))))] 3 := o28
    have o36 : OS _ _ 1 (eInt .i64) h27 m (some ⟨(Array.size h21), 0, none⟩) ([(IntKind.wrap .i64 ((IntKind.wrap .i64 ((IntKind.wrap .i64 (y7.Place * (3 : Int))) + y7.Kind)) - (1 : Int)))] : List Int) 1 := OB.row o28 (CsE.cons (c1 := [(Value.int .i64 (IntKind.wrap .i64 ((IntKind.wrap .i64 ((IntKind.wrap .i64 (y7.Place * (3 : Int))) + y7.Kind)) - (1 : Int))))]) rfl rfl CsE.nil) rfl
    obtain ⟨l37, g38, e⟩ := bind_e e
    refine o34.app (tell_int .i64) S30 rfl rfl (o36.srcE rfl) (by decide) g38 fun A39 c40 h41 o42 t43 n44 => ?_
    refine ⟨_, _, _, rfl, ?_⟩
    have d46 : Dj (fb (Array.size h)) (fp A39 c40) := Dj.app (d19).symm o35.lt n44
    have d47 : Dj (fp (some ⟨(Array.size h21), 0, none⟩) 1) (fp A39 c40) := Dj.app ((d32.row)).symm o36.lt n44
    have S48 := S30.then t43 (fun i _ hi => o34.wr i hi)
    have o49 := o35.step t43 d19
    have o50 := o36.step (tell_int .i64) t43 (d32.row)
    refine ⟨_, ldk (k := 1) (Sub.refl _) o49.all rfl, _, rfl, ?_⟩
    refine split_dec_e e (fun c75 e => ?_) (fun c75 e => ?_)
    · refine ⟨_, ldk (k := 2) (Sub.refl _) o49.all rfl, _, rfl, ?_⟩
      refine new_in S48 fun h51 o52 x53 => ?_
      have d56 : Dj (fb (Array.size h)) (fb (Array.size h41)) := Dj.new o49.lt
      have d57 : Dj (fp A39 c40) (fb (Array.size h41)) := Dj.new o42.lt
      have o58 := o49.ext x53
      have o59 := o42.ext (tell_int .i64) S48.s x53
      have S54 := S48.ext' x53
      have o52 : OB _ _ h51 _ (Array.size h41) [(Value.int .i64 y7.Msg)] 3 := o52
      have o60 : OS _ _ 1 (eInt .i64) h51 m (some ⟨(Array.size h41), 0, none⟩) ([y7.Msg] : List Int) 1 := OB.row o52 (CsE.cons (c1 := [(Value.int .i64 y7.Msg)]) rfl rfl CsE.nil) rfl
      obtain ⟨l61, g62, e⟩ := bind_e e
      refine o59.app (tell_int .i64) S54 rfl rfl (o60.srcE rfl) (by decide) g62 fun A63 c64 h65 o66 t67 n68 => ?_
      refine ⟨_, _, _, rfl, ?_⟩
      have d70 : Dj (fb (Array.size h)) (fp A63 c64) := Dj.app d46 o58.lt n68
      have d71 : Dj (fp (some ⟨(Array.size h41), 0, none⟩) 1) (fp A63 c64) := Dj.app ((d57.row)).symm o60.lt n68
      have S72 := S54.then t67 (fun i _ hi => o59.wr i hi)
      have o73 := o58.step t67 (d46).symm
      have o74 := o60.step (tell_int .i64) t67 (d57.row)
      exact (ih _ _ e) _ _ _ _ _ _ _ _ _ _ S72 rfl o66 rfl k9 r9
    · exact (ih _ _ e) _ _ _ _ _ _ _ _ _ _ S48 rfl o42 rfl k9 r9
  · obtain ⟨y76, g77, e⟩ := bind_e e
    obtain ⟨m81, L82, u83, s84, t85⟩ := St.lend S.s (fp A3 c3)
    refine (roadref4_Bytes.walk s84 rfl o3.cap (o3.lent (tell_int .i64) S.s L82 (fun _ h => h)) g77).mono ?_
    rintro _ h78 ⟨m79, A86, n87, c88, T80, rfl, ne89, o90⟩
    have x92 := T80.ext
    subst ne89
    have nw96 := o90.newNo
    have o90 := (o90.unlend (m := m) (fun _ _ h => h) S.s).take S (fun _ h => h.elim)
    have d97 : Dj (fp A3 c3) (fp A86 c88) := fun i h1 h2 => absurd (o3.lt i h1) (Nat.not_lt.2 (nw96 i h2))
    have o94 := o3.ext (tell_int .i64) S.s x92
    have S93 := S.ext' x92
    refine ⟨_, _, _, rfl, ?_⟩
    cases e
    exact ⟨_, _, _, _, S93, rfl, rfl, o90⟩
theorem roadref4_Pack.l0_k.all {p : roadref4_Pack.l0_k.Pt} {r : ((List Int))} (e : roadref4_Pack.l0_k.go p = some r) : roadref4_Pack.l0_k.I p r := fixF_ind (β := fun _ => ((List Int))) roadref4_Pack.l0_k.mono (I := roadref4_Pack.l0_k.I) (fun go ih p r e => match p with
  | .l0 a3 a9 x10 x11 => roadref4_Pack.l0_k.step_l0 go ih a3 a9 x10 x11 r e
  ) e
theorem roadref4_Pack.l0.walk {h0 m0 h m : Heap} {A3 : Option Addr} {n3 c3 : Nat} {A9 : Option Addr} {n9 c9 : Nat} {a3 : List Int} {a9 : List T_api_Event} {x10 : Int} {x11 : Int} (S : St No h0 m0 h m) (ne3 : n3 = List.length a3) (o3 : OS No h0 1 (eInt .i64) h m A3 a3 c3) (ne9 : n9 = List.length a9) (k9 : List.length a9 ≤ c9) (r9 : Rd 3 T_api_Event.E m A9 a9) {r : (List Int)} (e : roadref4_Pack.l0 a3 a9 x10 x11 = some r) : f39.l0 (roadref4_Pack.post No h0 m0 r) A3 n3 c3 A9 n9 c9 x10 x11 h := roadref4_Pack.l0_k.all (p := .l0 a3 a9 x10 x11) e h0 m0 h m A3 n3 c3 A9 n9 c9 S ne3 o3 ne9 k9 r9

noncomputable def roadref4_Pack (a0 : List T_api_Event) : Option ((List Int)) :=
  (roadref4_Pack.l0 ([(((List.length a0) : Nat) : Int)] : List Int) a0 (((List.length a0) : Nat) : Int) (0 : Int))
set_option maxRecDepth 100000 in
theorem roadref4_Pack.walk {h m : Heap} {A0 : Option Addr} {n0 c0 : Nat} {a0 : List T_api_Event} (s : Sub m h) (ne0 : n0 = List.length a0) (k0 : List.length a0 ≤ c0) (r0 : Rd 3 T_api_Event.E m A0 a0) {r : (List Int)} (e : roadref4_Pack a0 = some r) : Run Try.prog 39 #[Value.slice A0 n0 c0] h (roadref4_Pack.post No h m r) := by
  unfold roadref4_Pack at e
  subst ne0
  have S : St No h m h m := .refl s
  refine f39.run ?_
  unfold f39.runT
  refine new_in S fun h1 o2 x3 => ?_
  have S4 := S.ext' x3
  have o2 : OB _ _ h1 _ (Array.size h) [(Value.int .i64 (((List.length a0) : Nat) : Int))] 3 := o2
  have o6 : OS _ _ 1 (eInt .i64) h1 m (some ⟨(Array.size h), 0, none⟩) ([(((List.length a0) : Nat) : Int)] : List Int) 1 := OB.row o2 (CsE.cons (c1 := [(Value.int .i64 (((List.length a0) : Nat) : Int))]) rfl rfl CsE.nil) rfl
  exact roadref4_Pack.l0.walk S4 rfl o6 rfl k0 r0 e

/-! ### 108 roadstead/roadref4.Read -/
def roadref4_Read.post (W : Nat → Prop) (h0 m0 : Heap) (r : (List Int) × Bool) (v : Value) (h : Heap) : Prop := ∃ m A0 n0 c0, St W h0 m0 h m ∧ v = .tuple #[.slice A0 n0 c0, .bool r.2] ∧ n0 = r.1.length ∧ OS W h0 1 (eInt .i64) h m A0 r.1 c0
inductive roadref4_Read.l0_k.Pt where
  | l0 (a0 : List Int) (a4 : List Int)
  | l1 (a0 : List Int) (a4 : List Int) (x5 : Int)
  | j3 (a0 : List Int) (a4 : List Int) (x5 : Int)
  | j0 (a0 : List Int) (a4 : List Int) (x5 : Int)
  | j2 (a0 : List Int) (a4 : List Int) (x5 : Int) (b42 : Bool)
  | j1 (a0 : List Int) (a4 : List Int) (x5 : Int)
  | l2 (a0 : List Int) (a4 : List Int) (x5 : Int) (x6 : Int) (x7 : Int)
noncomputable def roadref4_Read.l0_k.body (go : (p : roadref4_Read.l0_k.Pt) → Option ((List Int) × Bool)) : (p : roadref4_Read.l0_k.Pt) → Option ((List Int) × Bool)
  | .l0 a0 a4 => if (((List.length a0) : Nat) : Int) > (0 : Int) then ((go (.l1 a0 a4 (0 : Int)))) else (some (a4, true))
  | .l1 a0 a4 x5 => if x5 < (((List.length a0) : Nat) : Int) then (Option.bind (gi a0 x5) fun y4 => if y4 > (127 : Int) then ((go (.j3 a0 a4 x5))) else ((go (.j0 a0 a4 x5)))) else ((go (.j0 a0 a4 x5)))
  | .j3 a0 a4 x5 => (go (.l1 a0 a4 (IntKind.wrap .i64 (x5 + (1 : Int)))))
  | .j0 a0 a4 x5 => if x5 = (((List.length a0) : Nat) : Int) then ((go (.j2 a0 a4 x5 true))) else (if x5 > (2 : Int) then ((go (.j2 a0 a4 x5 true))) else (if x5 > (0 : Int) then (Option.bind (gi a0 x5) fun y13 => (go (.j2 a0 a4 x5 (y13 == (0 : Int))))) else ((go (.j2 a0 a4 x5 false)))))
  | .j2 a0 a4 x5 b42 => if b42 = true then (some (a4, false)) else ((go (.j1 a0 a4 x5)))
  | .j1 a0 a4 x5 => (go (.l2 a0 a4 x5 (0 : Int) x5))
  | .l2 a0 a4 x5 x6 x7 => if x7 ≥ (0 : Int) then (Option.bind (gi a0 x7) fun y24 => (go (.l2 a0 a4 x5 (IntKind.wrap .i64 ((IntKind.wrap .i64 (x6 * (128 : Int))) + (IntKind.wrap .i64 (Int.tmod y24 (128 : Int))))) (IntKind.wrap .i64 (x7 - (1 : Int)))))) else (Option.bind (ap 8 a4 ([x6] : List Int)) fun l39 => Option.bind (sls a0 (IntKind.wrap .i64 (x5 + (1 : Int))) (((List.length a0) : Nat) : Int)) fun l51 => (go (.l0 l51 l39)))
theorem roadref4_Read.l0_k.mono : MonoF (β := fun _ => ((List Int) × Bool)) roadref4_Read.l0_k.body := fun f g hfg p => match p with
  | .l0 a0 a4 => LeO.ite ((hfg _)) (LeO.refl _)
  | .l1 a0 a4 x5 => LeO.ite (LeO.bind (LeO.refl _) fun y4 => LeO.ite ((hfg _)) ((hfg _))) ((hfg _))
  | .j3 a0 a4 x5 => (hfg _)
  | .j0 a0 a4 x5 => LeO.ite ((hfg _)) (LeO.ite ((hfg _)) (LeO.ite (LeO.bind (LeO.refl _) fun y13 => (hfg _)) ((hfg _))))
  | .j2 a0 a4 x5 b42 => LeO.ite (LeO.refl _) ((hfg _))
  | .j1 a0 a4 x5 => (hfg _)
  | .l2 a0 a4 x5 x6 x7 => LeO.ite (LeO.bind (LeO.refl _) fun y24 => (hfg _)) (LeO.bind (LeO.refl _) fun l39 => LeO.bind (LeO.refl _) fun l51 => (hfg _))
noncomputable def roadref4_Read.l0_k.go (p : roadref4_Read.l0_k.Pt) : Option ((List Int) × Bool) := fixF (β := fun _ => ((List Int) × Bool)) roadref4_Read.l0_k.body p
noncomputable def roadref4_Read.l0 (a0 : List Int) (a4 : List Int) : Option ((List Int) × Bool) := roadref4_Read.l0_k.go (.l0 a0 a4)
noncomputable def roadref4_Read.l1 (a0 : List Int) (a4 : List Int) (x5 : Int) : Option ((List Int) × Bool) := roadref4_Read.l0_k.go (.l1 a0 a4 x5)
noncomputable def roadref4_Read.j3 (a0 : List Int) (a4 : List Int) (x5 : Int) : Option ((List Int) × Bool) := roadref4_Read.l0_k.go (.j3 a0 a4 x5)
noncomputable def roadref4_Read.j0 (a0 : List Int) (a4 : List Int) (x5 : Int) : Option ((List Int) × Bool) := roadref4_Read.l0_k.go (.j0 a0 a4 x5)
noncomputable def roadref4_Read.j2 (a0 : List Int) (a4 : List Int) (x5 : Int) (b42 : Bool) : Option ((List Int) × Bool) := roadref4_Read.l0_k.go (.j2 a0 a4 x5 b42)
noncomputable def roadref4_Read.j1 (a0 : List Int) (a4 : List Int) (x5 : Int) : Option ((List Int) × Bool) := roadref4_Read.l0_k.go (.j1 a0 a4 x5)
noncomputable def roadref4_Read.l2 (a0 : List Int) (a4 : List Int) (x5 : Int) (x6 : Int) (x7 : Int) : Option ((List Int) × Bool) := roadref4_Read.l0_k.go (.l2 a0 a4 x5 x6 x7)
theorem roadref4_Read.l0_eq (a0 : List Int) (a4 : List Int) : roadref4_Read.l0 a0 a4 = if (((List.length a0) : Nat) : Int) > (0 : Int) then ((roadref4_Read.l1 a0 a4 (0 : Int))) else (some (a4, true)) := fixF_eq roadref4_Read.l0_k.mono _
theorem roadref4_Read.l1_eq (a0 : List Int) (a4 : List Int) (x5 : Int) : roadref4_Read.l1 a0 a4 x5 = if x5 < (((List.length a0) : Nat) : Int) then (Option.bind (gi a0 x5) fun y4 => if y4 > (127 : Int) then ((roadref4_Read.j3 a0 a4 x5)) else ((roadref4_Read.j0 a0 a4 x5))) else ((roadref4_Read.j0 a0 a4 x5)) := fixF_eq roadref4_Read.l0_k.mono _
theorem roadref4_Read.j3_eq (a0 : List Int) (a4 : List Int) (x5 : Int) : roadref4_Read.j3 a0 a4 x5 = (roadref4_Read.l1 a0 a4 (IntKind.wrap .i64 (x5 + (1 : Int)))) := fixF_eq roadref4_Read.l0_k.mono _
theorem roadref4_Read.j0_eq (a0 : List Int) (a4 : List Int) (x5 : Int) : roadref4_Read.j0 a0 a4 x5 = if x5 = (((List.length a0) : Nat) : Int) then ((roadref4_Read.j2 a0 a4 x5 true)) else (if x5 > (2 : Int) then ((roadref4_Read.j2 a0 a4 x5 true)) else (if x5 > (0 : Int) then (Option.bind (gi a0 x5) fun y13 => (roadref4_Read.j2 a0 a4 x5 (y13 == (0 : Int)))) else ((roadref4_Read.j2 a0 a4 x5 false)))) := fixF_eq roadref4_Read.l0_k.mono _
theorem roadref4_Read.j2_eq (a0 : List Int) (a4 : List Int) (x5 : Int) (b42 : Bool) : roadref4_Read.j2 a0 a4 x5 b42 = if b42 = true then (some (a4, false)) else ((roadref4_Read.j1 a0 a4 x5)) := fixF_eq roadref4_Read.l0_k.mono _
theorem roadref4_Read.j1_eq (a0 : List Int) (a4 : List Int) (x5 : Int) : roadref4_Read.j1 a0 a4 x5 = (roadref4_Read.l2 a0 a4 x5 (0 : Int) x5) := fixF_eq roadref4_Read.l0_k.mono _
theorem roadref4_Read.l2_eq (a0 : List Int) (a4 : List Int) (x5 : Int) (x6 : Int) (x7 : Int) : roadref4_Read.l2 a0 a4 x5 x6 x7 = if x7 ≥ (0 : Int) then (Option.bind (gi a0 x7) fun y24 => (roadref4_Read.l2 a0 a4 x5 (IntKind.wrap .i64 ((IntKind.wrap .i64 (x6 * (128 : Int))) + (IntKind.wrap .i64 (Int.tmod y24 (128 : Int))))) (IntKind.wrap .i64 (x7 - (1 : Int))))) else (Option.bind (ap 8 a4 ([x6] : List Int)) fun l39 => Option.bind (sls a0 (IntKind.wrap .i64 (x5 + (1 : Int))) (((List.length a0) : Nat) : Int)) fun l51 => (roadref4_Read.l0 l51 l39)) := fixF_eq roadref4_Read.l0_k.mono _
def roadref4_Read.l0_k.I : (p : roadref4_Read.l0_k.Pt) → ((List Int) × Bool) → Prop
  | .l0 a0 a4, r => ∀ (h0 m0 h m : Heap) (A0 : Option Addr) (n0 c0 : Nat) (A4 : Option Addr) (n4 c4 : Nat) (S : St No h0 m0 h m) (ne0 : n0 = List.length a0) (k0 : List.length a0 ≤ c0) (r0 : Rd 1 (eInt .u8) m A0 a0) (ne4 : n4 = List.length a4) (o4 : OS No h0 1 (eInt .i64) h m A4 a4 c4), f108.l0 (roadref4_Read.post No h0 m0 r) A0 n0 c0 A4 n4 c4 h
  | .l1 a0 a4 x5, r => ∀ (h0 m0 h m : Heap) (A0 : Option Addr) (n0 c0 : Nat) (A4 : Option Addr) (n4 c4 : Nat) (S : St No h0 m0 h m) (ne0 : n0 = List.length a0) (k0 : List.length a0 ≤ c0) (r0 : Rd 1 (eInt .u8) m A0 a0) (ne4 : n4 = List.length a4) (o4 : OS No h0 1 (eInt .i64) h m A4 a4 c4), f108.l1 (roadref4_Read.post No h0 m0 r) A0 n0 c0 A4 n4 c4 x5 h
  | .j3 a0 a4 x5, r => ∀ (h0 m0 h m : Heap) (A0 : Option Addr) (n0 c0 : Nat) (A4 : Option Addr) (n4 c4 : Nat) (S : St No h0 m0 h m) (ne0 : n0 = List.length a0) (k0 : List.length a0 ≤ c0) (r0 : Rd 1 (eInt .u8) m A0 a0) (ne4 : n4 = List.length a4) (o4 : OS No h0 1 (eInt .i64) h m A4 a4 c4), f108.j3 (roadref4_Read.post No h0 m0 r) A0 n0 c0 A4 n4 c4 x5 h
  | .j0 a0 a4 x5, r => ∀ (h0 m0 h m : Heap) (A0 : Option Addr) (n0 c0 : Nat) (A4 : Option Addr) (n4 c4 : Nat) (S : St No h0 m0 h m) (ne0 : n0 = List.length a0) (k0 : List.length a0 ≤ c0) (r0 : Rd 1 (eInt .u8) m A0 a0) (ne4 : n4 = List.length a4) (o4 : OS No h0 1 (eInt .i64) h m A4 a4 c4), f108.j0 (roadref4_Read.post No h0 m0 r) A0 n0 c0 A4 n4 c4 x5 h
  | .j2 a0 a4 x5 b42, r => ∀ (h0 m0 h m : Heap) (A0 : Option Addr) (n0 c0 : Nat) (A4 : Option Addr) (n4 c4 : Nat) (S : St No h0 m0 h m) (ne0 : n0 = List.length a0) (k0 : List.length a0 ≤ c0) (r0 : Rd 1 (eInt .u8) m A0 a0) (ne4 : n4 = List.length a4) (o4 : OS No h0 1 (eInt .i64) h m A4 a4 c4), f108.j2 (roadref4_Read.post No h0 m0 r) A0 n0 c0 A4 n4 c4 x5 b42 h
  | .j1 a0 a4 x5, r => ∀ (h0 m0 h m : Heap) (A0 : Option Addr) (n0 c0 : Nat) (A4 : Option Addr) (n4 c4 : Nat) (S : St No h0 m0 h m) (ne0 : n0 = List.length a0) (k0 : List.length a0 ≤ c0) (r0 : Rd 1 (eInt .u8) m A0 a0) (ne4 : n4 = List.length a4) (o4 : OS No h0 1 (eInt .i64) h m A4 a4 c4), f108.j1 (roadref4_Read.post No h0 m0 r) A0 n0 c0 A4 n4 c4 x5 h
  | .l2 a0 a4 x5 x6 x7, r => ∀ (h0 m0 h m : Heap) (A0 : Option Addr) (n0 c0 : Nat) (A4 : Option Addr) (n4 c4 : Nat) (S : St No h0 m0 h m) (ne0 : n0 = List.length a0) (k0 : List.length a0 ≤ c0) (r0 : Rd 1 (eInt .u8) m A0 a0) (ne4 : n4 = List.length a4) (o4 : OS No h0 1 (eInt .i64) h m A4 a4 c4), f108.l2 (roadref4_Read.post No h0 m0 r) A0 n0 c0 A4 n4 c4 x5 x6 x7 h
set_option maxRecDepth 100000 in
theorem roadref4_Read.l0_k.step_l0 (go : (p : roadref4_Read.l0_k.Pt) → Option ((List Int) × Bool)) (ih : ∀ p r, go p = some r → roadref4_Read.l0_k.I p r) (a0 : List Int) (a4 : List Int) (r : (List Int) × Bool) (e : roadref4_Read.l0_k.body go (.l0 a0 a4) = some r) : roadref4_Read.l0_k.I (.l0 a0 a4) r := by
  unfold roadref4_Read.l0_k.body at e
  intro h0 m0 h m A0 n0 c0 A4 n4 c4 S ne0 k0 r0 ne4 o4
  subst ne0
  subst ne4
  refine f108.l0_in ?_
  unfold f108.l0T
  refine split_dec_e e (fun c3 e => ?_) (fun c3 e => ?_)
  · exact (ih _ _ e) _ _ _ _ _ _ _ _ _ _ S rfl k0 r0 rfl o4
  · cases e
    exact ⟨_, _, _, _, S, rfl, rfl, o4⟩
set_option maxRecDepth 100000 in
theorem roadref4_Read.l0_k.step_l1 (go : (p : roadref4_Read.l0_k.Pt) → Option ((List Int) × Bool)) (ih : ∀ p r, go p = some r → roadref4_Read.l0_k.I p r) (a0 : List Int) (a4 : List Int) (x5 : Int) (r : (List Int) × Bool) (e : roadref4_Read.l0_k.body go (.l1 a0 a4 x5) = some r) : roadref4_Read.l0_k.I (.l1 a0 a4 x5) r := by
  unfold roadref4_Read.l0_k.body at e
  intro h0 m0 h m A0 n0 c0 A4 n4 c4 S ne0 k0 r0 ne4 o4
  subst ne0
  subst ne4
  refine f108.l1_in ?_
  unfold f108.l1T
  refine split_dec_e e (fun c12 e => ?_) (fun c12 e => ?_)
  · obtain ⟨y4, g5, e⟩ := bind_e e
    refine r0.addr rfl g5 fun a6 cs7 ha8 hc9 he10 => ?_
    obtain rfl : cs7 = [(Value.int .u8 y4)] := he10
    refine ⟨_, ld0 S.s hc9 rfl, _, rfl, ?_⟩
    refine split_dec_e e (fun c11 e => ?_) (fun c11 e => ?_)
    · exact (ih _ _ e) _ _ _ _ _ _ _ _ _ _ S rfl k0 r0 rfl o4
    · exact (ih _ _ e) _ _ _ _ _ _ _ _ _ _ S rfl k0 r0 rfl o4
  · exact (ih _ _ e) _ _ _ _ _ _ _ _ _ _ S rfl k0 r0 rfl o4
set_option maxRecDepth 100000 in
theorem roadref4_Read.l0_k.step_j3 (go : (p : roadref4_Read.l0_k.Pt) → Option ((List Int) × Bool)) (ih : ∀ p r, go p = some r → roadref4_Read.l0_k.I p r) (a0 : List Int) (a4 : List Int) (x5 : Int) (r : (List Int) × Bool) (e : roadref4_Read.l0_k.body go (.j3 a0 a4 x5) = some r) : roadref4_Read.l0_k.I (.j3 a0 a4 x5) r := by
  unfold roadref4_Read.l0_k.body at e
  intro h0 m0 h m A0 n0 c0 A4 n4 c4 S ne0 k0 r0 ne4 o4
  subst ne0
  subst ne4
  refine f108.j3_in ?_
  unfold f108.j3T
  exact (ih _ _ e) _ _ _ _ _ _ _ _ _ _ S rfl k0 r0 rfl o4
set_option maxRecDepth 100000 in
theorem roadref4_Read.l0_k.step_j0 (go : (p : roadref4_Read.l0_k.Pt) → Option ((List Int) × Bool)) (ih : ∀ p r, go p = some r → roadref4_Read.l0_k.I p r) (a0 : List Int) (a4 : List Int) (x5 : Int) (r : (List Int) × Bool) (e : roadref4_Read.l0_k.body go (.j0 a0 a4 x5) = some r) : roadref4_Read.l0_k.I (.j0 a0 a4 x5) r := by
  unfold roadref4_Read.l0_k.body at e
  intro h0 m0 h m A0 n0 c0 A4 n4 c4 S ne0 k0 r0 ne4 o4
  subst ne0
  subst ne4
  refine f108.j0_in ?_
  unfold f108.j0T
  refine split_eq_e e (fun c22 e => ?_) (fun c22 e => ?_)
  · exact (ih _ _ e) _ _ _ _ _ _ _ _ _ _ S rfl k0 r0 rfl o4
  · refine split_dec_e e (fun c21 e => ?_) (fun c21 e => ?_)
    · exact (ih _ _ e) _ _ _ _ _ _ _ _ _ _ S rfl k0 r0 rfl o4
    · refine split_dec_e e (fun c20 e => ?_) (fun c20 e => ?_)
      · obtain ⟨y13, g14, e⟩ := bind_e e
        refine r0.addr rfl g14 fun a15 cs16 ha17 hc18 he19 => ?_
        obtain rfl : cs16 = [(Value.int .u8 y13)] := he19
        refine ⟨_, ld0 S.s hc18 rfl, _, rfl, ?_⟩
        exact (ih _ _ e) _ _ _ _ _ _ _ _ _ _ S rfl k0 r0 rfl o4
      · exact (ih _ _ e) _ _ _ _ _ _ _ _ _ _ S rfl k0 r0 rfl o4
set_option maxRecDepth 100000 in
theorem roadref4_Read.l0_k.step_j2 (go : (p : roadref4_Read.l0_k.Pt) → Option ((List Int) × Bool)) (ih : ∀ p r, go p = some r → roadref4_Read.l0_k.I p r) (a0 : List Int) (a4 : List Int) (x5 : Int) (b42 : Bool) (r : (List Int) × Bool) (e : roadref4_Read.l0_k.body go (.j2 a0 a4 x5 b42) = some r) : roadref4_Read.l0_k.I (.j2 a0 a4 x5 b42) r := by
  unfold roadref4_Read.l0_k.body at e
  intro h0 m0 h m A0 n0 c0 A4 n4 c4 S ne0 k0 r0 ne4 o4
  subst ne0
  subst ne4
  refine f108.j2_in ?_
  unfold f108.j2T
  refine split_any_e e (fun c23 e => ?_) (fun c23 e => ?_)
  · cases e
    exact ⟨_, _, _, _, S, rfl, rfl, o4⟩
  · exact (ih _ _ e) _ _ _ _ _ _ _ _ _ _ S rfl k0 r0 rfl o4
set_option maxRecDepth 100000 in
theorem roadref4_Read.l0_k.step_j1 (go : (p : roadref4_Read.l0_k.Pt) → Option ((List Int) × Bool)) (ih : ∀ p r, go p = some r → roadref4_Read.l0_k.I p r) (a0 : List Int) (a4 : List Int) (x5 : Int) (r : (List Int) × Bool) (e : roadref4_Read.l0_k.body go (.j1 a0 a4 x5) = some r) : roadref4_Read.l0_k.I (.j1 a0 a4 x5) r := by
  unfold roadref4_Read.l0_k.body at e
  intro h0 m0 h m A0 n0 c0 A4 n4 c4 S ne0 k0 r0 ne4 o4
  subst ne0
  subst ne4
  refine f108.j1_in ?_
  unfold f108.j1T
  exact (ih _ _ e) _ _ _ _ _ _ _ _ _ _ S rfl k0 r0 rfl o4
set_option maxRecDepth 100000 in
theorem roadref4_Read.l0_k.step_l2 (go : (p : roadref4_Read.l0_k.Pt) → Option ((List Int) × Bool)) (ih : ∀ p r, go p = some r → roadref4_Read.l0_k.I p r) (a0 : List Int) (a4 : List Int) (x5 : Int) (x6 : Int) (x7 : Int) (r : (List Int) × Bool) (e : roadref4_Read.l0_k.body go (.l2 a0 a4 x5 x6 x7) = some r) : roadref4_Read.l0_k.I (.l2 a0 a4 x5 x6 x7) r := by
  unfold roadref4_Read.l0_k.body at e
  intro h0 m0 h m A0 n0 c0 A4 n4 c4 S ne0 k0 r0 ne4 o4
  subst ne0
  subst ne4
  refine f108.l2_in ?_
  unfold f108.l2T
  refine split_dec_e e (fun c56 e => ?_) (fun c56 e => ?_)
  · obtain ⟨y24, g25, e⟩ := bind_e e
    refine r0.addr rfl g25 fun a26 cs27 ha28 hc29 he30 => ?_
    obtain rfl : cs27 = [(Value.int .u8 y24)] := he30
    refine ⟨_, ld0 S.s hc29 rfl, _, rfl, ?_⟩
    refine ⟨by decide, ?_⟩
    exact (ih _ _ e) _ _ _ _ _ _ _ _ _ _ S rfl k0 r0 rfl o4
  · refine new_in S fun h31 o32 x33 => ?_
    have d36 : Dj (fp A4 c4) (fb (Array.size h)) := Dj.new o4.lt
    have o37 := o4.ext (tell_int .i64) S.s x33
    have S34 := S.ext' x33
    have o32 : OB _ _ h31 _ (Array.size h) [(Value.int .i64 x6)] 3 := o32
    have o38 : OS _ _ 1 (eInt .i64) h31 m (some ⟨(Array.size h), 0, none⟩) ([x6] : List Int) 1 := OB.row o32 (CsE.cons (c1 := [(Value.int .i64 x6)]) rfl rfl CsE.nil) rfl
    obtain ⟨l39, g40, e⟩ := bind_e e
    refine o37.app (tell_int .i64) S34 rfl rfl (o38.srcE rfl) (by decide) g40 fun A41 c42 h43 o44 t45 n46 => ?_
    refine ⟨_, _, _, rfl, ?_⟩
    have d48 : Dj (fp (some ⟨(Array.size h), 0, none⟩) 1) (fp A41 c42) := Dj.app ((d36.row)).symm o38.lt n46
    have S49 := S34.then t45 (fun i _ hi => o37.wr i hi)
    have o50 := o38.step (tell_int .i64) t45 (d36.row)
    obtain ⟨l51, g52, e⟩ := bind_e e
    have q53 := sls_e g52
    refine ⟨q53.1, q53.2.1, cap_in q53.2.2.1 k0, ?_⟩
    try rw [q53.2.2.2.1]
    have k54 : List.length l51 ≤ (c0 - Int.toNat (IntKind.wrap .i64 (x5 + (1 : Int)))) := sls_cap g52 k0
    have r55 := r0.sls g52 (le_mx q53.2.2.1 k0)
    exact (ih _ _ e) _ _ _ _ _ _ _ _ _ _ S49 rfl k54 r55 rfl o44
theorem roadref4_Read.l0_k.all {p : roadref4_Read.l0_k.Pt} {r : ((List Int) × Bool)} (e : roadref4_Read.l0_k.go p = some r) : roadref4_Read.l0_k.I p r := fixF_ind (β := fun _ => ((List Int) × Bool)) roadref4_Read.l0_k.mono (I := roadref4_Read.l0_k.I) (fun go ih p r e => match p with
  | .l0 a0 a4 => roadref4_Read.l0_k.step_l0 go ih a0 a4 r e
  | .l1 a0 a4 x5 => roadref4_Read.l0_k.step_l1 go ih a0 a4 x5 r e
  | .j3 a0 a4 x5 => roadref4_Read.l0_k.step_j3 go ih a0 a4 x5 r e
  | .j0 a0 a4 x5 => roadref4_Read.l0_k.step_j0 go ih a0 a4 x5 r e
  | .j2 a0 a4 x5 b42 => roadref4_Read.l0_k.step_j2 go ih a0 a4 x5 b42 r e
  | .j1 a0 a4 x5 => roadref4_Read.l0_k.step_j1 go ih a0 a4 x5 r e
  | .l2 a0 a4 x5 x6 x7 => roadref4_Read.l0_k.step_l2 go ih a0 a4 x5 x6 x7 r e
  ) e
theorem roadref4_Read.l0.walk {h0 m0 h m : Heap} {A0 : Option Addr} {n0 c0 : Nat} {A4 : Option Addr} {n4 c4 : Nat} {a0 : List Int} {a4 : List Int} (S : St No h0 m0 h m) (ne0 : n0 = List.length a0) (k0 : List.length a0 ≤ c0) (r0 : Rd 1 (eInt .u8) m A0 a0) (ne4 : n4 = List.length a4) (o4 : OS No h0 1 (eInt .i64) h m A4 a4 c4) {r : (List Int) × Bool} (e : roadref4_Read.l0 a0 a4 = some r) : f108.l0 (roadref4_Read.post No h0 m0 r) A0 n0 c0 A4 n4 c4 h := roadref4_Read.l0_k.all (p := .l0 a0 a4) e h0 m0 h m A0 n0 c0 A4 n4 c4 S ne0 k0 r0 ne4 o4
theorem roadref4_Read.l1.walk {h0 m0 h m : Heap} {A0 : Option Addr} {n0 c0 : Nat} {A4 : Option Addr} {n4 c4 : Nat} {a0 : List Int} {a4 : List Int} {x5 : Int} (S : St No h0 m0 h m) (ne0 : n0 = List.length a0) (k0 : List.length a0 ≤ c0) (r0 : Rd 1 (eInt .u8) m A0 a0) (ne4 : n4 = List.length a4) (o4 : OS No h0 1 (eInt .i64) h m A4 a4 c4) {r : (List Int) × Bool} (e : roadref4_Read.l1 a0 a4 x5 = some r) : f108.l1 (roadref4_Read.post No h0 m0 r) A0 n0 c0 A4 n4 c4 x5 h := roadref4_Read.l0_k.all (p := .l1 a0 a4 x5) e h0 m0 h m A0 n0 c0 A4 n4 c4 S ne0 k0 r0 ne4 o4
theorem roadref4_Read.j3.walk {h0 m0 h m : Heap} {A0 : Option Addr} {n0 c0 : Nat} {A4 : Option Addr} {n4 c4 : Nat} {a0 : List Int} {a4 : List Int} {x5 : Int} (S : St No h0 m0 h m) (ne0 : n0 = List.length a0) (k0 : List.length a0 ≤ c0) (r0 : Rd 1 (eInt .u8) m A0 a0) (ne4 : n4 = List.length a4) (o4 : OS No h0 1 (eInt .i64) h m A4 a4 c4) {r : (List Int) × Bool} (e : roadref4_Read.j3 a0 a4 x5 = some r) : f108.j3 (roadref4_Read.post No h0 m0 r) A0 n0 c0 A4 n4 c4 x5 h := roadref4_Read.l0_k.all (p := .j3 a0 a4 x5) e h0 m0 h m A0 n0 c0 A4 n4 c4 S ne0 k0 r0 ne4 o4
theorem roadref4_Read.j0.walk {h0 m0 h m : Heap} {A0 : Option Addr} {n0 c0 : Nat} {A4 : Option Addr} {n4 c4 : Nat} {a0 : List Int} {a4 : List Int} {x5 : Int} (S : St No h0 m0 h m) (ne0 : n0 = List.length a0) (k0 : List.length a0 ≤ c0) (r0 : Rd 1 (eInt .u8) m A0 a0) (ne4 : n4 = List.length a4) (o4 : OS No h0 1 (eInt .i64) h m A4 a4 c4) {r : (List Int) × Bool} (e : roadref4_Read.j0 a0 a4 x5 = some r) : f108.j0 (roadref4_Read.post No h0 m0 r) A0 n0 c0 A4 n4 c4 x5 h := roadref4_Read.l0_k.all (p := .j0 a0 a4 x5) e h0 m0 h m A0 n0 c0 A4 n4 c4 S ne0 k0 r0 ne4 o4
theorem roadref4_Read.j2.walk {h0 m0 h m : Heap} {A0 : Option Addr} {n0 c0 : Nat} {A4 : Option Addr} {n4 c4 : Nat} {a0 : List Int} {a4 : List Int} {x5 : Int} {b42 : Bool} (S : St No h0 m0 h m) (ne0 : n0 = List.length a0) (k0 : List.length a0 ≤ c0) (r0 : Rd 1 (eInt .u8) m A0 a0) (ne4 : n4 = List.length a4) (o4 : OS No h0 1 (eInt .i64) h m A4 a4 c4) {r : (List Int) × Bool} (e : roadref4_Read.j2 a0 a4 x5 b42 = some r) : f108.j2 (roadref4_Read.post No h0 m0 r) A0 n0 c0 A4 n4 c4 x5 b42 h := roadref4_Read.l0_k.all (p := .j2 a0 a4 x5 b42) e h0 m0 h m A0 n0 c0 A4 n4 c4 S ne0 k0 r0 ne4 o4
theorem roadref4_Read.j1.walk {h0 m0 h m : Heap} {A0 : Option Addr} {n0 c0 : Nat} {A4 : Option Addr} {n4 c4 : Nat} {a0 : List Int} {a4 : List Int} {x5 : Int} (S : St No h0 m0 h m) (ne0 : n0 = List.length a0) (k0 : List.length a0 ≤ c0) (r0 : Rd 1 (eInt .u8) m A0 a0) (ne4 : n4 = List.length a4) (o4 : OS No h0 1 (eInt .i64) h m A4 a4 c4) {r : (List Int) × Bool} (e : roadref4_Read.j1 a0 a4 x5 = some r) : f108.j1 (roadref4_Read.post No h0 m0 r) A0 n0 c0 A4 n4 c4 x5 h := roadref4_Read.l0_k.all (p := .j1 a0 a4 x5) e h0 m0 h m A0 n0 c0 A4 n4 c4 S ne0 k0 r0 ne4 o4
theorem roadref4_Read.l2.walk {h0 m0 h m : Heap} {A0 : Option Addr} {n0 c0 : Nat} {A4 : Option Addr} {n4 c4 : Nat} {a0 : List Int} {a4 : List Int} {x5 : Int} {x6 : Int} {x7 : Int} (S : St No h0 m0 h m) (ne0 : n0 = List.length a0) (k0 : List.length a0 ≤ c0) (r0 : Rd 1 (eInt .u8) m A0 a0) (ne4 : n4 = List.length a4) (o4 : OS No h0 1 (eInt .i64) h m A4 a4 c4) {r : (List Int) × Bool} (e : roadref4_Read.l2 a0 a4 x5 x6 x7 = some r) : f108.l2 (roadref4_Read.post No h0 m0 r) A0 n0 c0 A4 n4 c4 x5 x6 x7 h := roadref4_Read.l0_k.all (p := .l2 a0 a4 x5 x6 x7) e h0 m0 h m A0 n0 c0 A4 n4 c4 S ne0 k0 r0 ne4 o4

noncomputable def roadref4_Read (a0 : List Int) : Option ((List Int) × Bool) :=
  (roadref4_Read.l0 a0 ([] : List Int))
set_option maxRecDepth 100000 in
theorem roadref4_Read.walk {h m : Heap} {A0 : Option Addr} {n0 c0 : Nat} {a0 : List Int} (s : Sub m h) (ne0 : n0 = List.length a0) (k0 : List.length a0 ≤ c0) (r0 : Rd 1 (eInt .u8) m A0 a0) {r : (List Int) × Bool} (e : roadref4_Read a0 = some r) : Run Try.prog 108 #[Value.slice A0 n0 c0] h (roadref4_Read.post No h m r) := by
  unfold roadref4_Read at e
  subst ne0
  have S : St No h m h m := .refl s
  refine f108.run ?_
  unfold f108.runT
  have o2 : OS No h 1 (eInt .i64) h m none ([] : List Int) 0 := .inl ⟨rfl, rfl⟩
  exact roadref4_Read.l0.walk S rfl k0 r0 rfl o2 e

/-! ### 40 roadstead/roadref4.Unpack -/
def roadref4_Unpack.post (W : Nat → Prop) (h0 m0 : Heap) (r : (List T_api_Event) × Int) (v : Value) (h : Heap) : Prop := ∃ m A0 n0 c0, St W h0 m0 h m ∧ v = .tuple #[.slice A0 n0 c0, .int .i64 r.2] ∧ n0 = r.1.length ∧ OS W h0 3 T_api_Event.E h m A0 r.1 c0
noncomputable def roadref4_Unpack.j0 (a7 : List T_api_Event) : Option ((List T_api_Event) × Int) :=
  Option.bind (roadref4_History a7) fun y240 => if y240 = (0 : Int) then (some (a7, (0 : Int))) else (some (([] : List T_api_Event), y240))
set_option maxRecDepth 100000 in
theorem roadref4_Unpack.j0.walk {h0 m0 h m : Heap} {A7 : Option Addr} {n7 c7 : Nat} {a7 : List T_api_Event} (S : St No h0 m0 h m) (ne7 : n7 = List.length a7) (o7 : OS No h0 3 T_api_Event.E h m A7 a7 c7) {r : (List T_api_Event) × Int} (e : roadref4_Unpack.j0 a7 = some r) : f40.j0 (roadref4_Unpack.post No h0 m0 r) A7 n7 c7 h := by
  unfold roadref4_Unpack.j0 at e
  subst ne7
  refine f40.j0_in ?_
  unfold f40.j0T
  obtain ⟨y240, g241, e⟩ := bind_e e
  obtain ⟨m245, L246, u247, s248, t249⟩ := St.lend S.s (fp A7 c7)
  refine (roadref4_History.walk s248 rfl o7.cap (o7.lent T_api_Event.T S.s L246 (fun _ h => h)) g241).mono ?_
  rintro _ h242 ⟨m243, T244, rfl⟩
  have x250 := T244.ext
  have o252 := o7.ext T_api_Event.T S.s x250
  have S251 := S.ext' x250
  refine ⟨_, rfl, ?_⟩
  refine split_ne_e e (fun c255 e => ?_) (fun c255 e => ?_)
  · have o254 : OS No h0 3 T_api_Event.E h242 m none ([] : List T_api_Event) 0 := .inl ⟨rfl, rfl⟩
    cases e
    exact ⟨_, _, _, _, S251, rfl, rfl, o254⟩
  · cases e
    exact ⟨_, _, _, _, S251, rfl, rfl, o252⟩

noncomputable def roadref4_Unpack.j1 (a7 : List T_api_Event) (b69 : Bool) : Option ((List T_api_Event) × Int) :=
  if b69 = true then (some (([] : List T_api_Event), (3 : Int))) else ((roadref4_Unpack.j0 a7))
set_option maxRecDepth 100000 in
theorem roadref4_Unpack.j1.walk {h0 m0 h m : Heap} {A7 : Option Addr} {n7 c7 : Nat} {a7 : List T_api_Event} {b69 : Bool} (S : St No h0 m0 h m) (ne7 : n7 = List.length a7) (o7 : OS No h0 3 T_api_Event.E h m A7 a7 c7) {r : (List T_api_Event) × Int} (e : roadref4_Unpack.j1 a7 b69 = some r) : f40.j1 (roadref4_Unpack.post No h0 m0 r) A7 n7 c7 b69 h := by
  unfold roadref4_Unpack.j1 at e
  subst ne7
  refine f40.j1_in ?_
  unfold f40.j1T
  refine split_any_e e (fun c239 e => ?_) (fun c239 e => ?_)
  · have o238 : OS No h0 3 T_api_Event.E h m none ([] : List T_api_Event) 0 := .inl ⟨rfl, rfl⟩
    cases e
    exact ⟨_, _, _, _, S, rfl, rfl, o238⟩
  · exact roadref4_Unpack.j0.walk S rfl o7 e

inductive roadref4_Unpack.l0_k.Pt where
  | l0 (a4 : List Int) (b5 : Bool) (a7 : List T_api_Event) (x28 : Int) (x29 : Int)
  | j2 (a4 : List Int) (b5 : Bool) (a7 : List T_api_Event) (y8 : T_api_Event) (x28 : Int) (x29 : Int)
noncomputable def roadref4_Unpack.l0_k.body (go : (p : roadref4_Unpack.l0_k.Pt) → Option ((List T_api_Event) × Int)) : (p : roadref4_Unpack.l0_k.Pt) → Option ((List T_api_Event) × Int)
  | .l0 a4 b5 a7 x28 x29 => if x29 < x28 then (if (((List.length a4) : Nat) : Int) = (0 : Int) then (some (([] : List T_api_Event), (3 : Int))) else (Option.bind (gi a4 (0 : Int)) fun y40 => Option.bind (gi a4 (0 : Int)) fun y47 => Option.bind (sls a4 (1 : Int) (((List.length a4) : Nat) : Int)) fun l70 => if (IntKind.wrap .i64 ((Int.tmod y47 (3 : Int)) + (1 : Int))) > (1 : Int) then (if (((List.length l70) : Nat) : Int) = (0 : Int) then (some (([] : List T_api_Event), (3 : Int))) else (Option.bind (gi l70 (0 : Int)) fun y75 => Option.bind (sls l70 (1 : Int) (((List.length l70) : Nat) : Int)) fun l82 => (go (.j2 l82 b5 a7 (T_api_Event.mk (IntKind.wrap .i64 (Int.tdiv y40 (3 : Int))) (IntKind.wrap .i64 ((Int.tmod y47 (3 : Int)) + (1 : Int))) y75) x28 x29)))) else ((go (.j2 l70 b5 a7 (T_api_Event.mk (IntKind.wrap .i64 (Int.tdiv y40 (3 : Int))) (IntKind.wrap .i64 ((Int.tmod y47 (3 : Int)) + (1 : Int))) (0 : Int)) x28 x29))))) else (if (((List.length a4) : Nat) : Int) > (0 : Int) then ((roadref4_Unpack.j1 a7 true)) else ((roadref4_Unpack.j1 a7 (!b5))))
  | .j2 a4 b5 a7 y8 x28 x29 => Option.bind (ap 24 a7 ([y8] : List T_api_Event)) fun l221 => (go (.l0 a4 b5 l221 x28 (IntKind.wrap .i64 (x29 + (1 : Int)))))
theorem roadref4_Unpack.l0_k.mono : MonoF (β := fun _ => ((List T_api_Event) × Int)) roadref4_Unpack.l0_k.body := fun f g hfg p => match p with
  | .l0 a4 b5 a7 x28 x29 => LeO.ite (LeO.ite (LeO.refl _) (LeO.bind (LeO.refl _) fun y40 => LeO.bind (LeO.refl _) fun y47 => LeO.bind (LeO.refl _) fun l70 => LeO.ite (LeO.ite (LeO.refl _) (LeO.bind (LeO.refl _) fun y75 => LeO.bind (LeO.refl _) fun l82 => (hfg _))) ((hfg _)))) (LeO.ite ((LeO.refl _)) ((LeO.refl _)))
  | .j2 a4 b5 a7 y8 x28 x29 => LeO.bind (LeO.refl _) fun l221 => (hfg _)
noncomputable def roadref4_Unpack.l0_k.go (p : roadref4_Unpack.l0_k.Pt) : Option ((List T_api_Event) × Int) := fixF (β := fun _ => ((List T_api_Event) × Int)) roadref4_Unpack.l0_k.body p
noncomputable def roadref4_Unpack.l0 (a4 : List Int) (b5 : Bool) (a7 : List T_api_Event) (x28 : Int) (x29 : Int) : Option ((List T_api_Event) × Int) := roadref4_Unpack.l0_k.go (.l0 a4 b5 a7 x28 x29)
noncomputable def roadref4_Unpack.j2 (a4 : List Int) (b5 : Bool) (a7 : List T_api_Event) (y8 : T_api_Event) (x28 : Int) (x29 : Int) : Option ((List T_api_Event) × Int) := roadref4_Unpack.l0_k.go (.j2 a4 b5 a7 y8 x28 x29)
theorem roadref4_Unpack.l0_eq (a4 : List Int) (b5 : Bool) (a7 : List T_api_Event) (x28 : Int) (x29 : Int) : roadref4_Unpack.l0 a4 b5 a7 x28 x29 = if x29 < x28 then (if (((List.length a4) : Nat) : Int) = (0 : Int) then (some (([] : List T_api_Event), (3 : Int))) else (Option.bind (gi a4 (0 : Int)) fun y40 => Option.bind (gi a4 (0 : Int)) fun y47 => Option.bind (sls a4 (1 : Int) (((List.length a4) : Nat) : Int)) fun l70 => if (IntKind.wrap .i64 ((Int.tmod y47 (3 : Int)) + (1 : Int))) > (1 : Int) then (if (((List.length l70) : Nat) : Int) = (0 : Int) then (some (([] : List T_api_Event), (3 : Int))) else (Option.bind (gi l70 (0 : Int)) fun y75 => Option.bind (sls l70 (1 : Int) (((List.length l70) : Nat) : Int)) fun l82 => (roadref4_Unpack.j2 l82 b5 a7 (T_api_Event.mk (IntKind.wrap .i64 (Int.tdiv y40 (3 : Int))) (IntKind.wrap .i64 ((Int.tmod y47 (3 : Int)) + (1 : Int))) y75) x28 x29))) else ((roadref4_Unpack.j2 l70 b5 a7 (T_api_Event.mk (IntKind.wrap .i64 (Int.tdiv y40 (3 : Int))) (IntKind.wrap .i64 ((Int.tmod y47 (3 : Int)) + (1 : Int))) (0 : Int)) x28 x29)))) else (if (((List.length a4) : Nat) : Int) > (0 : Int) then ((roadref4_Unpack.j1 a7 true)) else ((roadref4_Unpack.j1 a7 (!b5)))) := fixF_eq roadref4_Unpack.l0_k.mono _
theorem roadref4_Unpack.j2_eq (a4 : List Int) (b5 : Bool) (a7 : List T_api_Event) (y8 : T_api_Event) (x28 : Int) (x29 : Int) : roadref4_Unpack.j2 a4 b5 a7 y8 x28 x29 = Option.bind (ap 24 a7 ([y8] : List T_api_Event)) fun l221 => (roadref4_Unpack.l0 a4 b5 l221 x28 (IntKind.wrap .i64 (x29 + (1 : Int)))) := fixF_eq roadref4_Unpack.l0_k.mono _
def roadref4_Unpack.l0_k.I : (p : roadref4_Unpack.l0_k.Pt) → ((List T_api_Event) × Int) → Prop
  | .l0 a4 b5 a7 x28 x29, r => ∀ (h0 m0 h m : Heap) (A4 : Option Addr) (n4 c4 : Nat) (A7 : Option Addr) (n7 c7 : Nat) (S : St No h0 m0 h m) (ne4 : n4 = List.length a4) (o4 : OS No h0 1 (eInt .i64) h m A4 a4 c4) (ne7 : n7 = List.length a7) (o7 : OS No h0 3 T_api_Event.E h m A7 a7 c7) (d0_1 : Dj (fp A4 c4) (fp A7 c7)), f40.l0 (roadref4_Unpack.post No h0 m0 r) A4 n4 c4 b5 A7 n7 c7 x28 x29 h
  | .j2 a4 b5 a7 y8 x28 x29, r => ∀ (h0 m0 h m : Heap) (A4 : Option Addr) (n4 c4 : Nat) (A7 : Option Addr) (n7 c7 : Nat) (bk8 : Nat) (cs8 : List Value) (S : St No h0 m0 h m) (ne4 : n4 = List.length a4) (o4 : OS No h0 1 (eInt .i64) h m A4 a4 c4) (ne7 : n7 = List.length a7) (o7 : OS No h0 3 T_api_Event.E h m A7 a7 c7) (o8 : OB No h0 h m bk8 cs8 83) (e8 : T_api_Event.E m y8 cs8) (d0_1 : Dj (fp A4 c4) (fp A7 c7)) (d0_2 : Dj (fp A4 c4) (fb bk8)) (d1_2 : Dj (fp A7 c7) (fb bk8)), f40.j2 (roadref4_Unpack.post No h0 m0 r) A4 n4 c4 b5 A7 n7 c7 (⟨bk8, 0, none⟩ : Addr) x28 x29 h
set_option maxRecDepth 100000 in
theorem roadref4_Unpack.l0_k.step_l0 (go : (p : roadref4_Unpack.l0_k.Pt) → Option ((List T_api_Event) × Int)) (ih : ∀ p r, go p = some r → roadref4_Unpack.l0_k.I p r) (a4 : List Int) (b5 : Bool) (a7 : List T_api_Event) (x28 : Int) (x29 : Int) (r : (List T_api_Event) × Int) (e : roadref4_Unpack.l0_k.body go (.l0 a4 b5 a7 x28 x29) = some r) : roadref4_Unpack.l0_k.I (.l0 a4 b5 a7 x28 x29) r := by
  unfold roadref4_Unpack.l0_k.body at e
  intro h0 m0 h m A4 n4 c4 A7 n7 c7 S ne4 o4 ne7 o7 d0_1
  subst ne4
  subst ne7
  refine f40.l0_in ?_
  unfold f40.l0T
  refine split_dec_e e (fun c208 e => ?_) (fun c208 e => ?_)
  · refine split_eq_e e (fun c206 e => ?_) (fun c206 e => ?_)
    · have o39 : OS No h0 3 T_api_Event.E h m none ([] : List T_api_Event) 0 := .inl ⟨rfl, rfl⟩
      cases e
      exact ⟨_, _, _, _, S, rfl, rfl, o39⟩
    · obtain ⟨y40, g41, e⟩ := bind_e e
      obtain ⟨y47, g48, e⟩ := bind_e e
      refine o4.addr rfl g41 fun a102 cs103 ha104 hc105 he106 => ?_
      obtain rfl : cs103 = [(Value.int .i64 y40)] := he106
      refine o4.addr rfl g48 fun a109 cs110 ha111 hc112 he113 => ?_
      obtain rfl : cs110 = [(Value.int .i64 y47)] := he113
      refine ⟨_, ld0 (Sub.refl _) hc105 rfl, _, rfl, ?_⟩
      refine ⟨by decide, ?_⟩
      refine ⟨_, ld0 (Sub.refl _) hc112 rfl, _, rfl, ?_⟩
      refine ⟨by decide, ?_⟩
      refine ⟨?_, ?_⟩
      · refine new_in S fun h114 o115 x116 => ?_
        have d119 : Dj (fp A4 c4) (fb (Array.size h)) := Dj.new o4.lt
        have d120 : Dj (fp A7 c7) (fb (Array.size h)) := Dj.new o7.lt
        have o121 := o4.ext (tell_int .i64) S.s x116
        have o122 := o7.ext T_api_Event.T S.s x116
        have S117 := S.ext' x116
        have o115 : OB _ _ h114 _ (Array.size h) [(Value.int .i64 (0 : Int)), (Value.int .i64 (0 : Int)), (Value.int .i64 (0 : Int))] 83 := o115
        refine ⟨x116, ?_⟩
        obtain ⟨h123, w124, o125, t126⟩ := o115.stA S117.s [(Value.int .i64 (IntKind.wrap .i64 (Int.tdiv y40 (3 : Int)))), (Value.int .i64 (IntKind.wrap .i64 ((Int.tmod y47 (3 : Int)) + (1 : Int)))), (Value.int .i64 (0 : Int))] rfl (Flats.cons trivial (Flats.cons trivial (Flats.cons trivial Flats.nil)))
        refine ⟨[(Value.int .i64 (IntKind.wrap .i64 (Int.tdiv y40 (3 : Int)))), (Value.int .i64 (IntKind.wrap .i64 ((Int.tmod y47 (3 : Int)) + (1 : Int)))), (Value.int .i64 (0 : Int))], rfl, rfl, h123, w124, ?_⟩
        have o125 : OB _ _ h123 _ (Array.size h) [(Value.int .i64 (IntKind.wrap .i64 (Int.tdiv y40 (3 : Int)))), (Value.int .i64 (IntKind.wrap .i64 ((Int.tmod y47 (3 : Int)) + (1 : Int)))), (Value.int .i64 (0 : Int))] 83 := o125
        have S127 := S117.then t126 (fun i _ hi => o115.wr i hi)
        have o128 := o121.step (tell_int .i64) t126 (d119).symm
        have o129 := o122.step T_api_Event.T t126 (d120).symm
        obtain ⟨l130, g131, e⟩ := bind_e e
        have q132 := sls_e g131
        refine ⟨q132.1, q132.2.1, cap_in q132.2.2.1 o128.cap, ?_⟩
        try rw [q132.2.2.2.1]
        refine ⟨_, ldk (k := 1) (Sub.refl _) o125.all rfl, _, rfl, ?_⟩
        refine split_dec_e e (fun c159 e => ?_) (fun c159 e => ?_)
        · refine split_eq_e e (fun c156 e => ?_) (fun c156 e => ?_)
          · have o134 : OS No h0 3 T_api_Event.E h123 m none ([] : List T_api_Event) 0 := .inl ⟨rfl, rfl⟩
            cases e
            exact ⟨_, _, _, _, S127, rfl, rfl, o134⟩
          · obtain ⟨y135, g136, e⟩ := bind_e e
            refine (o128.sls g131 (le_mx q132.2.2.1 o128.cap) (Nat.le_refl _)).addr rfl g136 fun a137 cs138 ha139 hc140 he141 => ?_
            obtain rfl : cs138 = [(Value.int .i64 y135)] := he141
            obtain ⟨l142, g143, e⟩ := bind_e e
            have o145 := (o128.sls g131 (le_mx q132.2.2.1 o128.cap) (Nat.le_refl _))
            have q144 := sls_e g143
            refine ⟨q144.1, q144.2.1, cap_in q144.2.2.1 (o128.sls g131 (le_mx q132.2.2.1 o128.cap) (Nat.le_refl _)).cap, ?_⟩
            try rw [q144.2.2.2.1]
            refine ⟨_, ld0 (Sub.refl _) hc140 rfl, _, rfl, ?_⟩
            obtain ⟨h147, w148, o149, t150⟩ := o125.st (k := 2) S127.s (v := (Value.int .i64 y135)) (Nat.le_of_ble_eq_true rfl) trivial
            refine ⟨h147, w148, ?_⟩
            have o149 : OB _ _ h147 _ (Array.size h) [(Value.int .i64 (IntKind.wrap .i64 (Int.tdiv y40 (3 : Int)))), (Value.int .i64 (IntKind.wrap .i64 ((Int.tmod y47 (3 : Int)) + (1 : Int)))), (Value.int .i64 y135)] 83 := o149
            have S151 := S127.then t150 (fun i _ hi => o125.wr i hi)
            have o152 := o129.step T_api_Event.T t150 (d120).symm
            have o153 := o145.step (tell_int .i64) t150 (((d119).symm).sl (Nat.le_refl _))
            have o154 := (o153.sls g143 (le_mx q144.2.2.1 o153.cap) (Nat.le_refl _))
            exact (ih _ _ e) _ _ _ _ _ _ _ _ _ _ _ _ S151 rfl o154 rfl o152 o149 (show T_api_Event.E _ (T_api_Event.mk (IntKind.wrap .i64 (Int.tdiv y40 (3 : Int))) (IntKind.wrap .i64 ((Int.tmod y47 (3 : Int)) + (1 : Int))) y135) [(Value.int .i64 (IntKind.wrap .i64 (Int.tdiv y40 (3 : Int)))), (Value.int .i64 (IntKind.wrap .i64 ((Int.tmod y47 (3 : Int)) + (1 : Int)))), (Value.int .i64 y135)] from rfl) ((((((d0_1).symm).sl (Nat.le_refl _))).sl (Nat.le_refl _))).symm ((((((d119).symm).sl (Nat.le_refl _))).sl (Nat.le_refl _))).symm d120
        · have o157 := (o128.sls g131 (le_mx q132.2.2.1 o128.cap) (Nat.le_refl _))
          exact (ih _ _ e) _ _ _ _ _ _ _ _ _ _ _ _ S127 rfl o157 rfl o129 o125 (show T_api_Event.E _ (T_api_Event.mk (IntKind.wrap .i64 (Int.tdiv y40 (3 : Int))) (IntKind.wrap .i64 ((Int.tmod y47 (3 : Int)) + (1 : Int))) (0 : Int)) [(Value.int .i64 (IntKind.wrap .i64 (Int.tdiv y40 (3 : Int)))), (Value.int .i64 (IntKind.wrap .i64 ((Int.tmod y47 (3 : Int)) + (1 : Int)))), (Value.int .i64 (0 : Int))] from rfl) ((((d0_1).symm).sl (Nat.le_refl _))).symm ((((d119).symm).sl (Nat.le_refl _))).symm d120
      · refine new_in S fun h160 o161 x162 => ?_
        have d165 : Dj (fp A4 c4) (fb (Array.size h)) := Dj.new o4.lt
        have d166 : Dj (fp A7 c7) (fb (Array.size h)) := Dj.new o7.lt
        have o167 := o4.ext (tell_int .i64) S.s x162
        have o168 := o7.ext T_api_Event.T S.s x162
        have S163 := S.ext' x162
        have o161 : OB _ _ h160 _ (Array.size h) [(Value.int .i64 (0 : Int)), (Value.int .i64 (0 : Int)), (Value.int .i64 (0 : Int))] 83 := o161
        refine ⟨x162, ?_⟩
        obtain ⟨h169, w170, o171, t172⟩ := o161.stA S163.s [(Value.int .i64 (IntKind.wrap .i64 (Int.tdiv y40 (3 : Int)))), (Value.int .i64 (IntKind.wrap .i64 ((Int.tmod y47 (3 : Int)) + (1 : Int)))), (Value.int .i64 (0 : Int))] rfl (Flats.cons trivial (Flats.cons trivial (Flats.cons trivial Flats.nil)))
        refine ⟨[(Value.int .i64 (IntKind.wrap .i64 (Int.tdiv y40 (3 : Int)))), (Value.int .i64 (IntKind.wrap .i64 ((Int.tmod y47 (3 : Int)) + (1 : Int)))), (Value.int .i64 (0 : Int))], rfl, rfl, h169, w170, ?_⟩
        have o171 : OB _ _ h169 _ (Array.size h) [(Value.int .i64 (IntKind.wrap .i64 (Int.tdiv y40 (3 : Int)))), (Value.int .i64 (IntKind.wrap .i64 ((Int.tmod y47 (3 : Int)) + (1 : Int)))), (Value.int .i64 (0 : Int))] 83 := o171
        have S173 := S163.then t172 (fun i _ hi => o161.wr i hi)
        have o174 := o167.step (tell_int .i64) t172 (d165).symm
        have o175 := o168.step T_api_Event.T t172 (d166).symm
        obtain ⟨l176, g177, e⟩ := bind_e e
        have q178 := sls_e g177
        refine ⟨q178.1, q178.2.1, cap_in q178.2.2.1 o174.cap, ?_⟩
        try rw [q178.2.2.2.1]
        refine ⟨_, ldk (k := 1) (Sub.refl _) o171.all rfl, _, rfl, ?_⟩
        refine split_dec_e e (fun c205 e => ?_) (fun c205 e => ?_)
        · refine split_eq_e e (fun c202 e => ?_) (fun c202 e => ?_)
          · have o180 : OS No h0 3 T_api_Event.E h169 m none ([] : List T_api_Event) 0 := .inl ⟨rfl, rfl⟩
            cases e
            exact ⟨_, _, _, _, S173, rfl, rfl, o180⟩
          · obtain ⟨y181, g182, e⟩ := bind_e e
            refine (o174.sls g177 (le_mx q178.2.2.1 o174.cap) (Nat.le_refl _)).addr rfl g182 fun a183 cs184 ha185 hc186 he187 => ?_
            obtain rfl : cs184 = [(Value.int .i64 y181)] := he187
            obtain ⟨l188, g189, e⟩ := bind_e e
            have o191 := (o174.sls g177 (le_mx q178.2.2.1 o174.cap) (Nat.le_refl _))
            have q190 := sls_e g189
            refine ⟨q190.1, q190.2.1, cap_in q190.2.2.1 (o174.sls g177 (le_mx q178.2.2.1 o174.cap) (Nat.le_refl _)).cap, ?_⟩
            try rw [q190.2.2.2.1]
            refine ⟨_, ld0 (Sub.refl _) hc186 rfl, _, rfl, ?_⟩
            obtain ⟨h193, w194, o195, t196⟩ := o171.st (k := 2) S173.s (v := (Value.int .i64 y181)) (Nat.le_of_ble_eq_true rfl) trivial
            refine ⟨h193, w194, ?_⟩
            have o195 : OB _ _ h193 _ (Array.size h) [(Value.int .i64 (IntKind.wrap .i64 (Int.tdiv y40 (3 : Int)))), (Value.int .i64 (IntKind.wrap .i64 ((Int.tmod y47 (3 : Int)) + (1 : Int)))), (Value.int .i64 y181)] 83 := o195
            have S197 := S173.then t196 (fun i _ hi => o171.wr i hi)
            have o198 := o175.step T_api_Event.T t196 (d166).symm
            have o199 := o191.step (tell_int .i64) t196 (((d165).symm).sl (Nat.le_refl _))
            have o200 := (o199.sls g189 (le_mx q190.2.2.1 o199.cap) (Nat.le_refl _))
            exact (ih _ _ e) _ _ _ _ _ _ _ _ _ _ _ _ S197 rfl o200 rfl o198 o195 (show T_api_Event.E _ (T_api_Event.mk (IntKind.wrap .i64 (Int.tdiv y40 (3 : Int))) (IntKind.wrap .i64 ((Int.tmod y47 (3 : Int)) + (1 : Int))) y181) [(Value.int .i64 (IntKind.wrap .i64 (Int.tdiv y40 (3 : Int)))), (Value.int .i64 (IntKind.wrap .i64 ((Int.tmod y47 (3 : Int)) + (1 : Int)))), (Value.int .i64 y181)] from rfl) ((((((d0_1).symm).sl (Nat.le_refl _))).sl (Nat.le_refl _))).symm ((((((d165).symm).sl (Nat.le_refl _))).sl (Nat.le_refl _))).symm d166
        · have o203 := (o174.sls g177 (le_mx q178.2.2.1 o174.cap) (Nat.le_refl _))
          exact (ih _ _ e) _ _ _ _ _ _ _ _ _ _ _ _ S173 rfl o203 rfl o175 o171 (show T_api_Event.E _ (T_api_Event.mk (IntKind.wrap .i64 (Int.tdiv y40 (3 : Int))) (IntKind.wrap .i64 ((Int.tmod y47 (3 : Int)) + (1 : Int))) (0 : Int)) [(Value.int .i64 (IntKind.wrap .i64 (Int.tdiv y40 (3 : Int)))), (Value.int .i64 (IntKind.wrap .i64 ((Int.tmod y47 (3 : Int)) + (1 : Int)))), (Value.int .i64 (0 : Int))] from rfl) ((((d0_1).symm).sl (Nat.le_refl _))).symm ((((d165).symm).sl (Nat.le_refl _))).symm d166
  · refine split_dec_e e (fun c207 e => ?_) (fun c207 e => ?_)
    · exact roadref4_Unpack.j1.walk S rfl o7 e
    · exact roadref4_Unpack.j1.walk S rfl o7 e
set_option maxRecDepth 100000 in
theorem roadref4_Unpack.l0_k.step_j2 (go : (p : roadref4_Unpack.l0_k.Pt) → Option ((List T_api_Event) × Int)) (ih : ∀ p r, go p = some r → roadref4_Unpack.l0_k.I p r) (a4 : List Int) (b5 : Bool) (a7 : List T_api_Event) (y8 : T_api_Event) (x28 : Int) (x29 : Int) (r : (List T_api_Event) × Int) (e : roadref4_Unpack.l0_k.body go (.j2 a4 b5 a7 y8 x28 x29) = some r) : roadref4_Unpack.l0_k.I (.j2 a4 b5 a7 y8 x28 x29) r := by
  unfold roadref4_Unpack.l0_k.body at e
  intro h0 m0 h m A4 n4 c4 A7 n7 c7 bk8 cs8 S ne4 o4 ne7 o7 o8 e8 d0_1 d0_2 d1_2
  subst ne4
  subst ne7
  obtain rfl : cs8 = [(Value.int .i64 y8.Place), (Value.int .i64 y8.Kind), (Value.int .i64 y8.Msg)] := e8
  refine f40.j2_in ?_
  unfold f40.j2T
  refine ⟨_, ldA (Sub.refl _) o8.all, ?_⟩
  refine ⟨[(Value.int .i64 y8.Place), (Value.int .i64 y8.Kind), (Value.int .i64 y8.Msg)], rfl, rfl, ?_⟩
  refine new_in S fun h209 o210 x211 => ?_
  have d214 : Dj (fp A4 c4) (fb (Array.size h)) := Dj.new o4.lt
  have d215 : Dj (fp A7 c7) (fb (Array.size h)) := Dj.new o7.lt
  have d216 : Dj (fb bk8) (fb (Array.size h)) := Dj.new o8.lt
  have o217 := o4.ext (tell_int .i64) S.s x211
  have o218 := o7.ext T_api_Event.T S.s x211
  have o219 := o8.ext x211
  have S212 := S.ext' x211
  have o210 : OB _ _ h209 _ (Array.size h) [(Value.int .i64 y8.Place), (Value.int .i64 y8.Kind), (Value.int .i64 y8.Msg)] 83 := o210
  have o220 : OS _ _ 3 T_api_Event.E h209 m (some ⟨(Array.size h), 0, none⟩) ([y8] : List T_api_Event) 1 := OB.row o210 (CsE.cons (c1 := [(Value.int .i64 y8.Place), (Value.int .i64 y8.Kind), (Value.int .i64 y8.Msg)]) (show T_api_Event.E _ y8 [(Value.int .i64 y8.Place), (Value.int .i64 y8.Kind), (Value.int .i64 y8.Msg)] from rfl) rfl CsE.nil) rfl
  obtain ⟨l221, g222, e⟩ := bind_e e
  refine o218.app T_api_Event.T S212 rfl rfl (o220.srcE rfl) (by decide) g222 fun A223 c224 h225 o226 t227 n228 => ?_
  refine ⟨_, _, _, rfl, ?_⟩
  have d230 : Dj (fp A4 c4) (fp A223 c224) := Dj.app d0_1 o217.lt n228
  have d231 : Dj (fb bk8) (fp A223 c224) := Dj.app (d1_2).symm o219.lt n228
  have d232 : Dj (fp (some ⟨(Array.size h), 0, none⟩) 1) (fp A223 c224) := Dj.app ((d215.row)).symm o220.lt n228
  have S233 := S212.then t227 (fun i _ hi => o218.wr i hi)
  have o234 := o217.step (tell_int .i64) t227 (d0_1).symm
  have o235 := o219.step t227 d1_2
  have o236 := o220.step T_api_Event.T t227 (d215.row)
  exact (ih _ _ e) _ _ _ _ _ _ _ _ _ _ S233 rfl o234 rfl o226 d230
theorem roadref4_Unpack.l0_k.all {p : roadref4_Unpack.l0_k.Pt} {r : ((List T_api_Event) × Int)} (e : roadref4_Unpack.l0_k.go p = some r) : roadref4_Unpack.l0_k.I p r := fixF_ind (β := fun _ => ((List T_api_Event) × Int)) roadref4_Unpack.l0_k.mono (I := roadref4_Unpack.l0_k.I) (fun go ih p r e => match p with
  | .l0 a4 b5 a7 x28 x29 => roadref4_Unpack.l0_k.step_l0 go ih a4 b5 a7 x28 x29 r e
  | .j2 a4 b5 a7 y8 x28 x29 => roadref4_Unpack.l0_k.step_j2 go ih a4 b5 a7 y8 x28 x29 r e
  ) e
theorem roadref4_Unpack.l0.walk {h0 m0 h m : Heap} {A4 : Option Addr} {n4 c4 : Nat} {A7 : Option Addr} {n7 c7 : Nat} {a4 : List Int} {b5 : Bool} {a7 : List T_api_Event} {x28 : Int} {x29 : Int} (S : St No h0 m0 h m) (ne4 : n4 = List.length a4) (o4 : OS No h0 1 (eInt .i64) h m A4 a4 c4) (ne7 : n7 = List.length a7) (o7 : OS No h0 3 T_api_Event.E h m A7 a7 c7) (d0_1 : Dj (fp A4 c4) (fp A7 c7)) {r : (List T_api_Event) × Int} (e : roadref4_Unpack.l0 a4 b5 a7 x28 x29 = some r) : f40.l0 (roadref4_Unpack.post No h0 m0 r) A4 n4 c4 b5 A7 n7 c7 x28 x29 h := roadref4_Unpack.l0_k.all (p := .l0 a4 b5 a7 x28 x29) e h0 m0 h m A4 n4 c4 A7 n7 c7 S ne4 o4 ne7 o7 d0_1
theorem roadref4_Unpack.j2.walk {h0 m0 h m : Heap} {A4 : Option Addr} {n4 c4 : Nat} {A7 : Option Addr} {n7 c7 : Nat} {bk8 : Nat} {cs8 : List Value} {a4 : List Int} {b5 : Bool} {a7 : List T_api_Event} {y8 : T_api_Event} {x28 : Int} {x29 : Int} (S : St No h0 m0 h m) (ne4 : n4 = List.length a4) (o4 : OS No h0 1 (eInt .i64) h m A4 a4 c4) (ne7 : n7 = List.length a7) (o7 : OS No h0 3 T_api_Event.E h m A7 a7 c7) (o8 : OB No h0 h m bk8 cs8 83) (e8 : T_api_Event.E m y8 cs8) (d0_1 : Dj (fp A4 c4) (fp A7 c7)) (d0_2 : Dj (fp A4 c4) (fb bk8)) (d1_2 : Dj (fp A7 c7) (fb bk8)) {r : (List T_api_Event) × Int} (e : roadref4_Unpack.j2 a4 b5 a7 y8 x28 x29 = some r) : f40.j2 (roadref4_Unpack.post No h0 m0 r) A4 n4 c4 b5 A7 n7 c7 (⟨bk8, 0, none⟩ : Addr) x28 x29 h := roadref4_Unpack.l0_k.all (p := .j2 a4 b5 a7 y8 x28 x29) e h0 m0 h m A4 n4 c4 A7 n7 c7 bk8 cs8 S ne4 o4 ne7 o7 o8 e8 d0_1 d0_2 d1_2

noncomputable def roadref4_Unpack (a0 : List Int) : Option ((List T_api_Event) × Int) :=
  if (((List.length a0) : Nat) : Int) > (4000 : Int) then (some (([] : List T_api_Event), (2 : Int))) else (Option.bind (roadref4_Read a0) fun y3 => if (((List.length y3.1) : Nat) : Int) = (0 : Int) then (some (([] : List T_api_Event), (3 : Int))) else (Option.bind (gi y3.1 (0 : Int)) fun y19 => if y19 > (200 : Int) then (some (([] : List T_api_Event), (2 : Int))) else (Option.bind (sls y3.1 (1 : Int) (((List.length y3.1) : Nat) : Int)) fun l28 => (roadref4_Unpack.l0 l28 y3.2 ([] : List T_api_Event) y19 (0 : Int)))))
set_option maxRecDepth 100000 in
theorem roadref4_Unpack.walk {h m : Heap} {A0 : Option Addr} {n0 c0 : Nat} {a0 : List Int} (s : Sub m h) (ne0 : n0 = List.length a0) (k0 : List.length a0 ≤ c0) (r0 : Rd 1 (eInt .u8) m A0 a0) {r : (List T_api_Event) × Int} (e : roadref4_Unpack a0 = some r) : Run Try.prog 40 #[Value.slice A0 n0 c0] h (roadref4_Unpack.post No h m r) := by
  unfold roadref4_Unpack at e
  subst ne0
  have S : St No h m h m := .refl s
  refine f40.run ?_
  unfold f40.runT
  refine split_dec_e e (fun c37 e => ?_) (fun c37 e => ?_)
  · have o2 : OS No h 3 T_api_Event.E h m none ([] : List T_api_Event) 0 := .inl ⟨rfl, rfl⟩
    cases e
    exact ⟨_, _, _, _, S, rfl, rfl, o2⟩
  · obtain ⟨y3, g4, e⟩ := bind_e e
    refine (roadref4_Read.walk S.s rfl k0 r0 g4).mono ?_
    rintro _ h5 ⟨m6, A8, n9, c10, T7, rfl, ne11, o12⟩
    subst ne11
    have nw16 := o12.newNo
    have o15 := o12.take S (fun _ h => h.elim)
    have S14 := S.grow T7
    refine ⟨_, _, _, _, rfl, ?_⟩
    refine split_eq_e e (fun c36 e => ?_) (fun c36 e => ?_)
    · have o18 : OS No h 3 T_api_Event.E h5 m6 none ([] : List T_api_Event) 0 := .inl ⟨rfl, rfl⟩
      cases e
      exact ⟨_, _, _, _, S14, rfl, rfl, o18⟩
    · obtain ⟨y19, g20, e⟩ := bind_e e
      refine o15.addr rfl g20 fun a21 cs22 ha23 hc24 he25 => ?_
      obtain rfl : cs22 = [(Value.int .i64 y19)] := he25
      refine ⟨_, ld0 (Sub.refl _) hc24 rfl, _, rfl, ?_⟩
      refine split_dec_e e (fun c35 e => ?_) (fun c35 e => ?_)
      · have o27 : OS No h 3 T_api_Event.E h5 m6 none ([] : List T_api_Event) 0 := .inl ⟨rfl, rfl⟩
        cases e
        exact ⟨_, _, _, _, S14, rfl, rfl, o27⟩
      · obtain ⟨l28, g29, e⟩ := bind_e e
        have q30 := sls_e g29
        refine ⟨q30.1, q30.2.1, cap_in q30.2.2.1 o15.cap, ?_⟩
        try rw [q30.2.2.2.1]
        have o31 := (o15.sls g29 (le_mx q30.2.2.1 o15.cap) (Nat.le_refl _))
        have o34 : OS No h 3 T_api_Event.E h5 m6 none ([] : List T_api_Event) 0 := .inl ⟨rfl, rfl⟩
        exact roadref4_Unpack.l0.walk S14 rfl o31 rfl o34 (show Dj (fp (sliceA A8 (Int.toNat (1 : Int)) c10 1) (c10 - Int.toNat (1 : Int))) (fp none 0) from Dj.nil) e

/-! ### 41 slices.Equal[[]roadstead/api.Event,roadstead/api.Event] -/
def slices_Equal_41.post (W : Nat → Prop) (h0 m0 : Heap) (r : Bool) (v : Value) (h : Heap) : Prop := ∃ m , St W h0 m0 h m ∧ v = .bool r
inductive slices_Equal_41.l0_k.Pt where
  | l0 (a0 : List T_api_Event) (a1 : List T_api_Event) (x12 : Int) (x13 : Int)
noncomputable def slices_Equal_41.l0_k.body (go : (p : slices_Equal_41.l0_k.Pt) → Option (Bool)) : (p : slices_Equal_41.l0_k.Pt) → Option (Bool)
  | .l0 a0 a1 x12 x13 => if x13 < x12 then (Option.bind (gi a0 x13) fun y2 => Option.bind (gi a1 x13) fun y9 => if (y2.Place == y9.Place && (y2.Kind == y9.Kind && (y2.Msg == y9.Msg && true))) = true then ((go (.l0 a0 a1 x12 (IntKind.wrap .i64 (x13 + (1 : Int)))))) else (some (false))) else (some (true))
theorem slices_Equal_41.l0_k.mono : MonoF (β := fun _ => (Bool)) slices_Equal_41.l0_k.body := fun f g hfg p => match p with
  | .l0 a0 a1 x12 x13 => LeO.ite (LeO.bind (LeO.refl _) fun y2 => LeO.bind (LeO.refl _) fun y9 => LeO.ite ((hfg _)) (LeO.refl _)) (LeO.refl _)
noncomputable def slices_Equal_41.l0_k.go (p : slices_Equal_41.l0_k.Pt) : Option (Bool) := fixF (β := fun _ => (Bool)) slices_Equal_41.l0_k.body p
noncomputable def slices_Equal_41.l0 (a0 : List T_api_Event) (a1 : List T_api_Event) (x12 : Int) (x13 : Int) : Option (Bool) := slices_Equal_41.l0_k.go (.l0 a0 a1 x12 x13)
theorem slices_Equal_41.l0_eq (a0 : List T_api_Event) (a1 : List T_api_Event) (x12 : Int) (x13 : Int) : slices_Equal_41.l0 a0 a1 x12 x13 = if x13 < x12 then (Option.bind (gi a0 x13) fun y2 => Option.bind (gi a1 x13) fun y9 => if (y2.Place == y9.Place && (y2.Kind == y9.Kind && (y2.Msg == y9.Msg && true))) = true then ((slices_Equal_41.l0 a0 a1 x12 (IntKind.wrap .i64 (x13 + (1 : Int))))) else (some (false))) else (some (true)) := fixF_eq slices_Equal_41.l0_k.mono _
def slices_Equal_41.l0_k.I : (p : slices_Equal_41.l0_k.Pt) → (Bool) → Prop
  | .l0 a0 a1 x12 x13, r => ∀ (h0 m0 h m : Heap) (A0 : Option Addr) (n0 c0 : Nat) (A1 : Option Addr) (n1 c1 : Nat) (S : St No h0 m0 h m) (ne0 : n0 = List.length a0) (k0 : List.length a0 ≤ c0) (r0 : Rd 3 T_api_Event.E m A0 a0) (ne1 : n1 = List.length a1) (k1 : List.length a1 ≤ c1) (r1 : Rd 3 T_api_Event.E m A1 a1), f41.l0 (slices_Equal_41.post No h0 m0 r) A0 n0 c0 A1 n1 c1 x12 x13 h
set_option maxRecDepth 100000 in
theorem slices_Equal_41.l0_k.step_l0 (go : (p : slices_Equal_41.l0_k.Pt) → Option (Bool)) (ih : ∀ p r, go p = some r → slices_Equal_41.l0_k.I p r) (a0 : List T_api_Event) (a1 : List T_api_Event) (x12 : Int) (x13 : Int) (r : Bool) (e : slices_Equal_41.l0_k.body go (.l0 a0 a1 x12 x13) = some r) : slices_Equal_41.l0_k.I (.l0 a0 a1 x12 x13) r := by
  unfold slices_Equal_41.l0_k.body at e
  intro h0 m0 h m A0 n0 c0 A1 n1 c1 S ne0 k0 r0 ne1 k1 r1
  subst ne0
  subst ne1
  refine f41.l0_in ?_
  unfold f41.l0T
  refine split_dec_e e (fun c17 e => ?_) (fun c17 e => ?_)
  · obtain ⟨y2, g3, e⟩ := bind_e e
    refine r0.addr rfl g3 fun a4 cs5 ha6 hc7 he8 => ?_
    obtain rfl : cs5 = [(Value.int .i64 y2.Place), (Value.int .i64 y2.Kind), (Value.int .i64 y2.Msg)] := he8
    obtain ⟨y9, g10, e⟩ := bind_e e
    refine r1.addr rfl g10 fun a11 cs12 ha13 hc14 he15 => ?_
    obtain rfl : cs12 = [(Value.int .i64 y9.Place), (Value.int .i64 y9.Kind), (Value.int .i64 y9.Msg)] := he15
    refine ⟨_, ldA S.s hc7, ?_⟩
    refine ⟨_, ldA S.s hc14, ?_⟩
    refine gen_neq (b := (y2.Place == y9.Place && (y2.Kind == y9.Kind && (y2.Msg == y9.Msg && true)))) (by kernel_rfl) ?_
    refine ⟨_, rfl, ?_⟩
    refine split_not ?_
    refine split_any_e e (fun c16 e => ?_) (fun c16 e => ?_)
    · exact (ih _ _ e) _ _ _ _ _ _ _ _ _ _ S rfl k0 r0 rfl k1 r1
    · cases e
      exact ⟨_, S, rfl⟩
  · cases e
    exact ⟨_, S, rfl⟩
theorem slices_Equal_41.l0_k.all {p : slices_Equal_41.l0_k.Pt} {r : (Bool)} (e : slices_Equal_41.l0_k.go p = some r) : slices_Equal_41.l0_k.I p r := fixF_ind (β := fun _ => (Bool)) slices_Equal_41.l0_k.mono (I := slices_Equal_41.l0_k.I) (fun go ih p r e => match p with
  | .l0 a0 a1 x12 x13 => slices_Equal_41.l0_k.step_l0 go ih a0 a1 x12 x13 r e
  ) e
theorem slices_Equal_41.l0.walk {h0 m0 h m : Heap} {A0 : Option Addr} {n0 c0 : Nat} {A1 : Option Addr} {n1 c1 : Nat} {a0 : List T_api_Event} {a1 : List T_api_Event} {x12 : Int} {x13 : Int} (S : St No h0 m0 h m) (ne0 : n0 = List.length a0) (k0 : List.length a0 ≤ c0) (r0 : Rd 3 T_api_Event.E m A0 a0) (ne1 : n1 = List.length a1) (k1 : List.length a1 ≤ c1) (r1 : Rd 3 T_api_Event.E m A1 a1) {r : Bool} (e : slices_Equal_41.l0 a0 a1 x12 x13 = some r) : f41.l0 (slices_Equal_41.post No h0 m0 r) A0 n0 c0 A1 n1 c1 x12 x13 h := slices_Equal_41.l0_k.all (p := .l0 a0 a1 x12 x13) e h0 m0 h m A0 n0 c0 A1 n1 c1 S ne0 k0 r0 ne1 k1 r1

noncomputable def slices_Equal_41 (a0 : List T_api_Event) (a1 : List T_api_Event) : Option (Bool) :=
  if (((List.length a0) : Nat) : Int) = (((List.length a1) : Nat) : Int) then ((slices_Equal_41.l0 a0 a1 (((List.length a0) : Nat) : Int) (0 : Int))) else (some (false))
set_option maxRecDepth 100000 in
theorem slices_Equal_41.walk {h m : Heap} {A0 : Option Addr} {n0 c0 : Nat} {A1 : Option Addr} {n1 c1 : Nat} {a0 : List T_api_Event} {a1 : List T_api_Event} (s : Sub m h) (ne0 : n0 = List.length a0) (k0 : List.length a0 ≤ c0) (r0 : Rd 3 T_api_Event.E m A0 a0) (ne1 : n1 = List.length a1) (k1 : List.length a1 ≤ c1) (r1 : Rd 3 T_api_Event.E m A1 a1) {r : Bool} (e : slices_Equal_41 a0 a1 = some r) : Run Try.prog 41 #[Value.slice A0 n0 c0, Value.slice A1 n1 c1] h (slices_Equal_41.post No h m r) := by
  unfold slices_Equal_41 at e
  subst ne0
  subst ne1
  have S : St No h m h m := .refl s
  refine f41.run ?_
  unfold f41.runT
  refine split_ne_e e (fun c1 e => ?_) (fun c1 e => ?_)
  · cases e
    exact ⟨_, S, rfl⟩
  · exact slices_Equal_41.l0.walk S rfl k0 r0 rfl k1 r1 e
theorem slices_Equal_41.val (l m : List T_api_Event) (hl : l.length ≤ 4611686018427387904) : ∃ b, slices_Equal_41 l m = some b ∧ (b = true ↔ l = m) := equal_val (R := fun x y => (x.Place == y.Place && (x.Kind == y.Kind && (x.Msg == y.Msg && true))) = true) (fun a b n i => slices_Equal_41.l0_eq a b n i) (fun _ _ => rfl) (fun x y => by cases x; cases y; simp [ba_beq]) l m hl

/-! ### 6 roadstead/roadlaw4.TraceSays -/
def roadlaw4_TraceSays.post (W : Nat → Prop) (h0 m0 : Heap) (r : Bool) (v : Value) (h : Heap) : Prop := ∃ m , St W h0 m0 h m ∧ v = .bool r
noncomputable def roadlaw4_TraceSays.j1 (a1 : List Int) (a9 : List T_api_Event) (x10 : Int) : Option (Bool) :=
  Option.bind (roadref4_Unpack a1) fun y140 => if x10 = y140.2 then (Option.bind (slices_Equal_41 a9 y140.1) fun y156 => some (y156)) else (some (false))
set_option maxRecDepth 100000 in
theorem roadlaw4_TraceSays.j1.walk {h0 m0 h m : Heap} {A1 : Option Addr} {n1 c1 : Nat} {A9 : Option Addr} {n9 c9 : Nat} {a1 : List Int} {a9 : List T_api_Event} {x10 : Int} (S : St No h0 m0 h m) (ne1 : n1 = List.length a1) (k1 : List.length a1 ≤ c1) (r1 : Rd 1 (eInt .u8) m A1 a1) (ne9 : n9 = List.length a9) (o9 : OS No h0 3 T_api_Event.E h m A9 a9 c9) {r : Bool} (e : roadlaw4_TraceSays.j1 a1 a9 x10 = some r) : f6.j1 (roadlaw4_TraceSays.post No h0 m0 r) A1 n1 c1 A9 n9 c9 x10 h := by
  unfold roadlaw4_TraceSays.j1 at e
  subst ne1
  subst ne9
  refine f6.j1_in ?_
  unfold f6.j1T
  obtain ⟨y140, g141, e⟩ := bind_e e
  refine (roadref4_Unpack.walk S.s rfl k1 r1 g141).mono ?_
  rintro _ h142 ⟨m143, A145, n146, c147, T144, rfl, ne148, o149⟩
  subst ne148
  have nw154 := o149.newNo
  have d155 : Dj (fp A9 c9) (fp A145 c147) := fun i h1 h2 => absurd (o9.lt i h1) (Nat.not_lt.2 (nw154 i h2))
  have o153 := o149.take S (fun _ h => h.elim)
  have S151 := S.grow T144
  have o152 := o9.step T_api_Event.T T144 Dj.no
  refine ⟨_, _, _, _, rfl, ?_⟩
  refine split_eq_e e (fun c170 e => ?_) (fun c170 e => ?_)
  · obtain ⟨y156, g157, e⟩ := bind_e e
    obtain ⟨m161, L162, u163, s164, t165⟩ := St.lend S151.s (fun i => (fp A9 c9) i ∨ (fp A145 c147) i)
    refine (slices_Equal_41.walk s164 rfl o152.cap (o152.lent T_api_Event.T S151.s L162 (fun _ h => (.inl h))) rfl o153.cap (o153.lent T_api_Event.T S151.s L162 (fun _ h => (.inr h))) g157).mono ?_
    rintro _ h158 ⟨m159, T160, rfl⟩
    have x166 := T160.ext
    have o168 := o152.ext T_api_Event.T S151.s x166
    have o169 := o153.ext T_api_Event.T S151.s x166
    have S167 := S151.ext' x166
    refine ⟨_, rfl, ?_⟩
    cases e
    exact ⟨_, S167, rfl⟩
  · cases e
    exact ⟨_, S151, rfl⟩

noncomputable def roadlaw4_TraceSays.j0 (a0 : List T_api_Event) (a1 : List Int) : Option (Bool) :=
  Option.bind (trace_Pack a0) fun y64 => Option.bind (trace_Unpack a1) fun y78 => Option.bind (roadref4_History a0) fun y94 => if y94 = (0 : Int) then (if y64.2 = (0 : Int) then (Option.bind (roadref4_Pack a0) fun y104 => Option.bind (bytes_Equal y64.1 y104) fun y122 => if y122 = true then ((roadlaw4_TraceSays.j1 a1 y78.1 y78.2)) else (some (false))) else (some (false))) else (if y64.2 = y94 then (if (((List.length y64.1) : Nat) : Int) = (0 : Int) then ((roadlaw4_TraceSays.j1 a1 y78.1 y78.2)) else (some (false))) else (some (false)))
set_option maxRecDepth 100000 in
theorem roadlaw4_TraceSays.j0.walk {h0 m0 h m : Heap} {A0 : Option Addr} {n0 c0 : Nat} {A1 : Option Addr} {n1 c1 : Nat} {a0 : List T_api_Event} {a1 : List Int} (S : St No h0 m0 h m) (ne0 : n0 = List.length a0) (k0 : List.length a0 ≤ c0) (r0 : Rd 3 T_api_Event.E m A0 a0) (ne1 : n1 = List.length a1) (k1 : List.length a1 ≤ c1) (r1 : Rd 1 (eInt .u8) m A1 a1) {r : Bool} (e : roadlaw4_TraceSays.j0 a0 a1 = some r) : f6.j0 (roadlaw4_TraceSays.post No h0 m0 r) A0 n0 c0 A1 n1 c1 h := by
  unfold roadlaw4_TraceSays.j0 at e
  subst ne0
  subst ne1
  refine f6.j0_in ?_
  unfold f6.j0T
  obtain ⟨y64, g65, e⟩ := bind_e e
  refine (trace_Pack.walk S.s rfl k0 r0 g65).mono ?_
  rintro _ h66 ⟨m67, A69, n70, c71, T68, rfl, ne72, o73⟩
  subst ne72
  have nw77 := o73.newNo
  have o76 := o73.take S (fun _ h => h.elim)
  have S75 := S.grow T68
  refine ⟨_, _, _, _, rfl, ?_⟩
  obtain ⟨y78, g79, e⟩ := bind_e e
  refine (trace_Unpack.walk S75.s rfl k1 (r1.sub (tell_int .u8) T68.up) g79).mono ?_
  rintro _ h80 ⟨m81, A83, n84, c85, T82, rfl, ne86, o87⟩
  subst ne86
  have nw92 := o87.newNo
  have d93 : Dj (fp A69 c71) (fp A83 c85) := fun i h1 h2 => absurd (o76.lt i h1) (Nat.not_lt.2 (nw92 i h2))
  have o91 := o87.take S75 (fun _ h => h.elim)
  have S89 := S75.grow T82
  have o90 := o76.step (tell_int .u8) T82 Dj.no
  refine ⟨_, _, _, _, rfl, ?_⟩
  obtain ⟨y94, g95, e⟩ := bind_e e
  refine (roadref4_History.walk S89.s rfl k0 (r0.sub T_api_Event.T (T68.up.trans T82.up)) g95).mono ?_
  rintro _ h96 ⟨m97, T98, rfl⟩
  have S99 := S89.grow T98
  have o100 := o90.step (tell_int .u8) T98 Dj.no
  have o101 := o91.step T_api_Event.T T98 Dj.no
  refine ⟨_, rfl, ?_⟩
  refine split_ne_e e (fun c139 e => ?_) (fun c139 e => ?_)
  · refine split_ne_e e (fun c103 e => ?_) (fun c103 e => ?_)
    · cases e
      exact ⟨_, S99, rfl⟩
    · refine split_ne_e e (fun c102 e => ?_) (fun c102 e => ?_)
      · cases e
        exact ⟨_, S99, rfl⟩
      · exact roadlaw4_TraceSays.j1.walk S99 rfl k1 (r1.sub (tell_int .u8) (T68.up.trans (T82.up.trans T98.up))) rfl o101 e
  · refine split_ne_e e (fun c138 e => ?_) (fun c138 e => ?_)
    · cases e
      exact ⟨_, S99, rfl⟩
    · obtain ⟨y104, g105, e⟩ := bind_e e
      refine (roadref4_Pack.walk S99.s rfl k0 (r0.sub T_api_Event.T (T68.up.trans (T82.up.trans T98.up))) g105).mono ?_
      rintro _ h106 ⟨m107, A109, n110, c111, T108, rfl, ne112, o113⟩
      subst ne112
      have nw119 := o113.newNo
      have d120 : Dj (fp A69 c71) (fp A109 c111) := fun i h1 h2 => absurd (o100.lt i h1) (Nat.not_lt.2 (nw119 i h2))
      have d121 : Dj (fp A83 c85) (fp A109 c111) := fun i h1 h2 => absurd (o101.lt i h1) (Nat.not_lt.2 (nw119 i h2))
      have o118 := o113.take S99 (fun _ h => h.elim)
      have S115 := S99.grow T108
      have o116 := o100.step (tell_int .u8) T108 Dj.no
      have o117 := o101.step T_api_Event.T T108 Dj.no
      refine ⟨_, _, _, rfl, ?_⟩
      obtain ⟨y122, g123, e⟩ := bind_e e
      obtain ⟨m127, L128, u129, s130, t131⟩ := St.lend S115.s (fun i => (fp A69 c71) i ∨ (fp A109 c111) i)
      refine (bytes_Equal.walk s130 rfl o116.cap (o116.lent (tell_int .u8) S115.s L128 (fun _ h => (.inl h))) rfl o118.cap (o118.lent (tell_int .u8) S115.s L128 (fun _ h => (.inr h))) g123).mono ?_
      rintro _ h124 ⟨m125, T126, rfl⟩
      have x132 := T126.ext
      have o134 := o116.ext (tell_int .u8) S115.s x132
      have o135 := o117.ext T_api_Event.T S115.s x132
      have o136 := o118.ext (tell_int .u8) S115.s x132
      have S133 := S115.ext' x132
      refine ⟨_, rfl, ?_⟩
      refine split_not ?_
      refine split_any_e e (fun c137 e => ?_) (fun c137 e => ?_)
      · exact roadlaw4_TraceSays.j1.walk S133 rfl k1 (r1.sub (tell_int .u8) (T68.up.trans (T82.up.trans (T98.up.trans T108.up)))) rfl o135 e
      · cases e
        exact ⟨_, S133, rfl⟩

noncomputable def roadlaw4_TraceSays (a0 : List T_api_Event) (a1 : List Int) : Option (Bool) :=
  Option.bind (roadlaw4_two ) fun y1 => Option.bind (trace_Pack y1) fun y15 => if y15.2 = (0 : Int) then (Option.bind (bytes_Equal y15.1 ([(2 : Int), (1 : Int), (5 : Int), (5 : Int), (5 : Int)] : List Int)) fun y47 => if y47 = true then ((roadlaw4_TraceSays.j0 a0 a1)) else (some (false))) else (some (false))
set_option maxRecDepth 100000 in
theorem roadlaw4_TraceSays.walk {h m : Heap} {A0 : Option Addr} {n0 c0 : Nat} {A1 : Option Addr} {n1 c1 : Nat} {a0 : List T_api_Event} {a1 : List Int} (s : Sub m h) (ne0 : n0 = List.length a0) (k0 : List.length a0 ≤ c0) (r0 : Rd 3 T_api_Event.E m A0 a0) (ne1 : n1 = List.length a1) (k1 : List.length a1 ≤ c1) (r1 : Rd 1 (eInt .u8) m A1 a1) {r : Bool} (e : roadlaw4_TraceSays a0 a1 = some r) : Run Try.prog 6 #[Value.slice A0 n0 c0, Value.slice A1 n1 c1] h (roadlaw4_TraceSays.post No h m r) := by
  unfold roadlaw4_TraceSays at e
  subst ne0
  subst ne1
  have S : St No h m h m := .refl s
  refine f6.run ?_
  unfold f6.runT
  obtain ⟨y1, g2, e⟩ := bind_e e
  refine (roadlaw4_two.walk S.s  g2).mono ?_
  rintro _ h3 ⟨m4, A6, n7, c8, T5, rfl, ne9, o10⟩
  subst ne9
  have nw14 := o10.newNo
  have o13 := o10.take S (fun _ h => h.elim)
  have S12 := S.grow T5
  refine ⟨_, _, _, rfl, ?_⟩
  obtain ⟨y15, g16, e⟩ := bind_e e
  obtain ⟨m20, L21, u22, s23, t24⟩ := St.lend S12.s (fp A6 c8)
  refine (trace_Pack.walk s23 rfl o13.cap (o13.lent T_api_Event.T S12.s L21 (fun _ h => h)) g16).mono ?_
  rintro _ h17 ⟨m18, A25, n26, c27, T19, rfl, ne28, o29⟩
  have x31 := T19.ext
  subst ne28
  have nw35 := o29.newNo
  have o29 := (o29.unlend (m := m4) (fun _ _ h => h) S12.s).take S12 (fun _ h => h.elim)
  have d36 : Dj (fp A6 c8) (fp A25 c27) := fun i h1 h2 => absurd (o13.lt i h1) (Nat.not_lt.2 (nw35 i h2))
  have o33 := o13.ext T_api_Event.T S12.s x31
  have S32 := S12.ext' x31
  refine ⟨_, _, _, _, rfl, ?_⟩
  refine split_ne_e e (fun c63 e => ?_) (fun c63 e => ?_)
  · cases e
    exact ⟨_, S32, rfl⟩
  · refine new_in S32 fun h37 o38 x39 => ?_
    have d42 : Dj (fp A6 c8) (fb (Array.size h17)) := Dj.new o33.lt
    have d43 : Dj (fp A25 c27) (fb (Array.size h17)) := Dj.new o29.lt
    have o44 := o33.ext T_api_Event.T S32.s x39
    have o45 := o29.ext (tell_int .u8) S32.s x39
    have S40 := S32.ext' x39
    have o38 : OB _ _ h37 _ (Array.size h17) [(Value.int .u8 (2 : Int)), (Value.int .u8 (1 : Int)), (Value.int .u8 (5 : Int)), (Value.int .u8 (5 : Int)), (Value.int .u8 (5 : Int))] 5 := o38
    have o46 : OS _ _ 1 (eInt .u8) h37 m4 (some ⟨(Array.size h17), 0, none⟩) ([(2 : Int), (1 : Int), (5 : Int), (5 : Int), (5 : Int)] : List Int) 5 := OB.row o38 (CsE.cons (c1 := [(Value.int .u8 (2 : Int))]) rfl rfl (CsE.cons (c1 := [(Value.int .u8 (1 : Int))]) rfl rfl (CsE.cons (c1 := [(Value.int .u8 (5 : Int))]) rfl rfl (CsE.cons (c1 := [(Value.int .u8 (5 : Int))]) rfl rfl (CsE.cons (c1 := [(Value.int .u8 (5 : Int))]) rfl rfl CsE.nil))))) rfl
    obtain ⟨y47, g48, e⟩ := bind_e e
    obtain ⟨m52, L53, u54, s55, t56⟩ := St.lend S40.s (fun i => (fp A25 c27) i ∨ (fp (some ⟨(Array.size h17), 0, none⟩) 5) i)
    refine (bytes_Equal.walk s55 rfl o45.cap (o45.lent (tell_int .u8) S40.s L53 (fun _ h => (.inl h))) rfl o46.cap (o46.lent (tell_int .u8) S40.s L53 (fun _ h => (.inr h))) g48).mono ?_
    rintro _ h49 ⟨m50, T51, rfl⟩
    have x57 := T51.ext
    have o59 := o44.ext T_api_Event.T S40.s x57
    have o60 := o45.ext (tell_int .u8) S40.s x57
    have o61 := o46.ext (tell_int .u8) S40.s x57
    have S58 := S40.ext' x57
    refine ⟨_, rfl, ?_⟩
    refine split_not ?_
    refine split_any_e e (fun c62 e => ?_) (fun c62 e => ?_)
    · exact roadlaw4_TraceSays.j0.walk S58 rfl k0 (r0.sub T_api_Event.T T5.up) rfl k1 (r1.sub (tell_int .u8) T5.up) e
    · cases e
      exact ⟨_, S58, rfl⟩

end Go.Proofs.Ytilmfjdagnbbaaa.Fw
