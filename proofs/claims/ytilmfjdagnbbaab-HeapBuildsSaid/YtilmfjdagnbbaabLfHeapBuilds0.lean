/- Data of the given program, and pure functions of its functions, with the walks. Printed by a program of this session. -/
import Derived.Test.YtilmfjdagnbbaabFwHeapBuilds
import Derived.Test.YtilmfjdagnbbaabHwW
namespace Go.Proofs.Ytilmfjdagnbbaab.Fw
open Go Go.Hw Go.Proofs
set_option linter.unusedVariables false

structure T_api_Value where
  Kind : Int
  Num : Int
  Text : ByteArray
  Args : (List T_api_Value)
def T_api_Value.E (h : Heap) : T_api_Value → List Value → Prop
  | ⟨f0, f1, f2, f3⟩, cs => ∃ A3 c3, cs = [.int .i64 f0, .int .i64 f1, .string f2, .slice A3 f3.length c3] ∧ f3.length ≤ c3 ∧ (∀ i (hi : i < f3.length), ∃ a ds, A3 = some a ∧ cellsH h (a.add (i * 4)) 0 4 = some ds ∧ T_api_Value.E h f3[i] ds)
  termination_by x => SizeOf.sizeOf x
  decreasing_by
    have := List.sizeOf_lt_of_mem (List.getElem_mem hi)
    simp_all
    omega
theorem T_api_Value.iff {h : Heap} {x : T_api_Value} {cs : List Value} : T_api_Value.E h x cs ↔ ∃ A3 c3, cs = [.int .i64 x.Kind, .int .i64 x.Num, .string x.Text, .slice A3 x.Args.length c3] ∧ x.Args.length ≤ c3 ∧ Rd 4 T_api_Value.E h A3 x.Args := by
  cases x
  rw [T_api_Value.E]
  exact Iff.rfl
theorem T_api_Value.mono {m h : Heap} (s : Sub m h) : ∀ (x : T_api_Value) (cs : List Value), T_api_Value.E m x cs → T_api_Value.E h x cs
  | ⟨f0, f1, f2, f3⟩, cs, e => by
    rw [T_api_Value.E] at e ⊢
    obtain ⟨A3, c3, h1, k3, r3⟩ := e
    exact ⟨A3, c3, h1, k3, fun i hi => let ⟨a, ds, h1, h2, h3⟩ := r3 i hi; ⟨a, ds, h1, s.cells _ _ h2, T_api_Value.mono s _ _ h3⟩⟩
  termination_by x => SizeOf.sizeOf x
  decreasing_by
    have := List.sizeOf_lt_of_mem (List.getElem_mem hi)
    simp_all
    omega
theorem T_api_Value.T : Tell 4 T_api_Value.E := ⟨fun _ _ x cs s e => T_api_Value.mono s x cs e, by intro h x cs e; obtain ⟨A3, c3, rfl, k3, r3⟩ := T_api_Value.iff.1 e; rfl, by intro h x cs e; obtain ⟨A3, c3, rfl, k3, r3⟩ := T_api_Value.iff.1 e; exact Flats.cons trivial (Flats.cons trivial (Flats.cons trivial (Flats.cons trivial Flats.nil)))⟩
def T_api_Value.Q : T_api_Value → Prop
  | ⟨f0, f1, f2, f3⟩ => (-9223372036854775808 ≤ f0 ∧ f0 ≤ 9223372036854775807) ∧ (-9223372036854775808 ≤ f1 ∧ f1 ≤ 9223372036854775807) ∧ (f2.size ≤ 140737488351232) ∧ (f3.length * 56 ≤ 140737488351232 ∧ ∀ i (hi : i < f3.length), T_api_Value.Q f3[i])
  termination_by x => SizeOf.sizeOf x
  decreasing_by
    have := List.sizeOf_lt_of_mem (List.getElem_mem hi)
    simp_all
    omega
theorem T_api_Value.Q_iff {x : T_api_Value} : T_api_Value.Q x ↔ (-9223372036854775808 ≤ x.Kind ∧ x.Kind ≤ 9223372036854775807) ∧ (-9223372036854775808 ≤ x.Num ∧ x.Num ≤ 9223372036854775807) ∧ (x.Text.size ≤ 140737488351232) ∧ (x.Args.length * 56 ≤ 140737488351232 ∧ ∀ a ∈ x.Args, T_api_Value.Q a) := by
  obtain ⟨f0, f1, f2, f3⟩ := x
  rw [T_api_Value.Q, forall_get (l := f3) (p := T_api_Value.Q)]
theorem T_api_Value.tells {H : Type} {enc : TypeId × Value → H} {W : World} : Tells enc Try.prog W 137 T_api_Value.E T_api_Value.Q := tells_rec fun N ih => tellsU_map (tellsU_struct (t := 137) (fs := [(3, 0), (3, 1), (9, 2), (135, 3)]) (T := 4) (by kernel_rfl) (by kernel_rfl) (tfU_cons (s := 1) (f := 3) (by kernel_rfl) (Tells.up (tells_i64 (t := 3) (by kernel_rfl))) (tfU_cons (s := 1) (f := 3) (by kernel_rfl) (Tells.up (tells_i64 (t := 3) (by kernel_rfl))) (tfU_cons (s := 1) (f := 9) (by kernel_rfl) (Tells.up (tells_strL (t := 9) (by kernel_rfl))) (tfU_cons (s := 1) (f := 135) (by kernel_rfl) (tellsU_slice (t := 135) (e := 137) (sz := 4) (B := 56) (by kernel_rfl) (by kernel_rfl) (by kernel_rfl) ih) tfU_nil))))) (by
  rintro ⟨x0, x1, x2, x3, ⟨⟩⟩ cs e q
  obtain ⟨c0, r0, rfl, e0, c1, r1, rfl, e1, c2, r2, rfl, e2, c3, r3, rfl, e3, eN⟩ := e
  obtain rfl : c0 = [.int .i64 x0] := e0
  obtain rfl : c1 = [.int .i64 x1] := e1
  obtain rfl : c2 = [.string x2] := e2
  obtain ⟨A3, k3, rfl, l3, R3⟩ := e3
  obtain rfl : r3 = [] := eN
  exact ⟨⟨x0, x1, x2, x3⟩, T_api_Value.iff.2 ⟨_, _, rfl, l3, R3⟩, T_api_Value.Q_iff.2 ⟨q.1, q.2.1, q.2.2.1, q.2.2.2.1⟩⟩)
structure T_heap_Object where
  At : Int
  Kind : Int
  Num : Int
  Text : ByteArray
  Parts : (List Int)
def T_heap_Object.E (h : Heap) (x : T_heap_Object) (cs : List Value) : Prop := ∃ A4 c4, cs = [.int .i64 x.At, .int .i64 x.Kind, .int .i64 x.Num, .string x.Text, .slice A4 x.Parts.length c4] ∧ x.Parts.length ≤ c4 ∧ Rd 1 (eInt .u64) h A4 x.Parts
theorem T_heap_Object.T : Tell 5 T_heap_Object.E := ⟨by rintro m h x _ s ⟨A4, c4, rfl, k4, r4⟩; exact ⟨_, _, rfl, k4, r4.sub (tell_int .u64) s⟩, by rintro h x _ ⟨A4, c4, rfl, k4, r4⟩; rfl, by rintro h x _ ⟨A4, c4, rfl, k4, r4⟩; exact Flats.cons trivial (Flats.cons trivial (Flats.cons trivial (Flats.cons trivial (Flats.cons trivial Flats.nil))))⟩
def T_heap_Object.Q (x : T_heap_Object) : Prop := (-9223372036854775808 ≤ x.At ∧ x.At ≤ 9223372036854775807) ∧ (-9223372036854775808 ≤ x.Kind ∧ x.Kind ≤ 9223372036854775807) ∧ (-9223372036854775808 ≤ x.Num ∧ x.Num ≤ 9223372036854775807) ∧ (x.Text.size ≤ 140737488351232) ∧ (x.Parts.length * 8 ≤ 140737488351232 ∧ ∀ a ∈ x.Parts, (0 ≤ a ∧ a ≤ 18446744073709551615))
theorem T_heap_Object.tells {H : Type} {enc : TypeId × Value → H} {W : World} : Tells enc Try.prog W 202 T_heap_Object.E T_heap_Object.Q := tells_map (tells_struct (t := 202) (fs := [(3, 0), (3, 1), (3, 2), (9, 3), (96, 4)]) (T := 5) (by kernel_rfl) (by kernel_rfl) (tf_cons (s := 1) (f := 3) (by kernel_rfl) (tells_i64 (t := 3) (by kernel_rfl)) (tf_cons (s := 1) (f := 3) (by kernel_rfl) (tells_i64 (t := 3) (by kernel_rfl)) (tf_cons (s := 1) (f := 3) (by kernel_rfl) (tells_i64 (t := 3) (by kernel_rfl)) (tf_cons (s := 1) (f := 9) (by kernel_rfl) (tells_strL (t := 9) (by kernel_rfl)) (tf_cons (s := 1) (f := 96) (by kernel_rfl) (tells_sliceL (t := 96) (e := 98) (sz := 1) (B := 8) (by kernel_rfl) (by kernel_rfl) (by kernel_rfl) (tells_u64 (t := 98) (by kernel_rfl))) tf_nil)))))) (by
  rintro ⟨x0, x1, x2, x3, x4, ⟨⟩⟩ cs e q
  obtain ⟨c0, r0, rfl, e0, c1, r1, rfl, e1, c2, r2, rfl, e2, c3, r3, rfl, e3, c4, r4, rfl, e4, eN⟩ := e
  obtain rfl : c0 = [.int .i64 x0] := e0
  obtain rfl : c1 = [.int .i64 x1] := e1
  obtain rfl : c2 = [.int .i64 x2] := e2
  obtain rfl : c3 = [.string x3] := e3
  obtain ⟨A4, k4, rfl, l4, R4⟩ := e4
  obtain rfl : r4 = [] := eN
  exact ⟨⟨x0, x1, x2, x3, x4⟩, ⟨_, _, rfl, l4, R4⟩, q.1, q.2.1, q.2.2.1, q.2.2.2.1, q.2.2.2.2.1⟩)

/-! ### 54 roadstead/roadref3.SameWords -/
def roadref3_SameWords.post (W : Nat → Prop) (h0 m0 : Heap) (r : Bool) (v : Value) (h : Heap) : Prop := ∃ m , St W h0 m0 h m ∧ v = .bool r
inductive roadref3_SameWords.l0_k.Pt where
  | l0 (a0 : List Int) (a1 : List Int) (x12 : Int) (x13 : Int)
noncomputable def roadref3_SameWords.l0_k.body (go : (p : roadref3_SameWords.l0_k.Pt) → Option (Bool)) : (p : roadref3_SameWords.l0_k.Pt) → Option (Bool)
  | .l0 a0 a1 x12 x13 => if x13 < x12 then (Option.bind (gi a0 x13) fun y2 => Option.bind (gi a1 x13) fun y9 => if y2 = y9 then ((go (.l0 a0 a1 x12 (IntKind.wrap .i64 (x13 + (1 : Int)))))) else (some (false))) else (some (true))
theorem roadref3_SameWords.l0_k.mono : MonoF (β := fun _ => (Bool)) roadref3_SameWords.l0_k.body := fun f g hfg p => match p with
  | .l0 a0 a1 x12 x13 => LeO.ite (LeO.bind (LeO.refl _) fun y2 => LeO.bind (LeO.refl _) fun y9 => LeO.ite ((hfg _)) (LeO.refl _)) (LeO.refl _)
noncomputable def roadref3_SameWords.l0_k.go (p : roadref3_SameWords.l0_k.Pt) : Option (Bool) := fixF (β := fun _ => (Bool)) roadref3_SameWords.l0_k.body p
noncomputable def roadref3_SameWords.l0 (a0 : List Int) (a1 : List Int) (x12 : Int) (x13 : Int) : Option (Bool) := roadref3_SameWords.l0_k.go (.l0 a0 a1 x12 x13)
theorem roadref3_SameWords.l0_eq (a0 : List Int) (a1 : List Int) (x12 : Int) (x13 : Int) : roadref3_SameWords.l0 a0 a1 x12 x13 = if x13 < x12 then (Option.bind (gi a0 x13) fun y2 => Option.bind (gi a1 x13) fun y9 => if y2 = y9 then ((roadref3_SameWords.l0 a0 a1 x12 (IntKind.wrap .i64 (x13 + (1 : Int))))) else (some (false))) else (some (true)) := fixF_eq roadref3_SameWords.l0_k.mono _
def roadref3_SameWords.l0_k.I : (p : roadref3_SameWords.l0_k.Pt) → (Bool) → Prop
  | .l0 a0 a1 x12 x13, r => ∀ (h0 m0 h m : Heap) (A0 : Option Addr) (n0 c0 : Nat) (A1 : Option Addr) (n1 c1 : Nat) (S : St No h0 m0 h m) (ne0 : n0 = List.length a0) (k0 : List.length a0 ≤ c0) (r0 : Rd 1 (eInt .u64) m A0 a0) (ne1 : n1 = List.length a1) (k1 : List.length a1 ≤ c1) (r1 : Rd 1 (eInt .u64) m A1 a1), f54.l0 (roadref3_SameWords.post No h0 m0 r) A0 n0 c0 A1 n1 c1 x12 x13 h
set_option maxRecDepth 100000 in
theorem roadref3_SameWords.l0_k.step_l0 (go : (p : roadref3_SameWords.l0_k.Pt) → Option (Bool)) (ih : ∀ p r, go p = some r → roadref3_SameWords.l0_k.I p r) (a0 : List Int) (a1 : List Int) (x12 : Int) (x13 : Int) (r : Bool) (e : roadref3_SameWords.l0_k.body go (.l0 a0 a1 x12 x13) = some r) : roadref3_SameWords.l0_k.I (.l0 a0 a1 x12 x13) r := by
  unfold roadref3_SameWords.l0_k.body at e
  intro h0 m0 h m A0 n0 c0 A1 n1 c1 S ne0 k0 r0 ne1 k1 r1
  subst ne0
  subst ne1
  refine f54.l0_in ?_
  unfold f54.l0T
  refine split_dec_e e (fun c17 e => ?_) (fun c17 e => ?_)
  · obtain ⟨y2, g3, e⟩ := bind_e e
    refine r0.addr rfl g3 fun a4 cs5 ha6 hc7 he8 => ?_
    obtain rfl : cs5 = [(Value.int .u64 y2)] := he8
    obtain ⟨y9, g10, e⟩ := bind_e e
    refine r1.addr rfl g10 fun a11 cs12 ha13 hc14 he15 => ?_
    obtain rfl : cs12 = [(Value.int .u64 y9)] := he15
    refine ⟨_, ld0 S.s hc7 rfl, _, rfl, ?_⟩
    refine ⟨_, ld0 S.s hc14 rfl, _, rfl, ?_⟩
    refine split_ne_e e (fun c16 e => ?_) (fun c16 e => ?_)
    · cases e
      exact ⟨_, S, rfl⟩
    · exact (ih _ _ e) _ _ _ _ _ _ _ _ _ _ S rfl k0 r0 rfl k1 r1
  · cases e
    exact ⟨_, S, rfl⟩
theorem roadref3_SameWords.l0_k.all {p : roadref3_SameWords.l0_k.Pt} {r : (Bool)} (e : roadref3_SameWords.l0_k.go p = some r) : roadref3_SameWords.l0_k.I p r := fixF_ind (β := fun _ => (Bool)) roadref3_SameWords.l0_k.mono (I := roadref3_SameWords.l0_k.I) (fun go ih p r e => match p with
  | .l0 a0 a1 x12 x13 => roadref3_SameWords.l0_k.step_l0 go ih a0 a1 x12 x13 r e
  ) e
theorem roadref3_SameWords.l0.walk {h0 m0 h m : Heap} {A0 : Option Addr} {n0 c0 : Nat} {A1 : Option Addr} {n1 c1 : Nat} {a0 : List Int} {a1 : List Int} {x12 : Int} {x13 : Int} (S : St No h0 m0 h m) (ne0 : n0 = List.length a0) (k0 : List.length a0 ≤ c0) (r0 : Rd 1 (eInt .u64) m A0 a0) (ne1 : n1 = List.length a1) (k1 : List.length a1 ≤ c1) (r1 : Rd 1 (eInt .u64) m A1 a1) {r : Bool} (e : roadref3_SameWords.l0 a0 a1 x12 x13 = some r) : f54.l0 (roadref3_SameWords.post No h0 m0 r) A0 n0 c0 A1 n1 c1 x12 x13 h := roadref3_SameWords.l0_k.all (p := .l0 a0 a1 x12 x13) e h0 m0 h m A0 n0 c0 A1 n1 c1 S ne0 k0 r0 ne1 k1 r1

noncomputable def roadref3_SameWords (a0 : List Int) (a1 : List Int) : Option (Bool) :=
  if (((List.length a0) : Nat) : Int) = (((List.length a1) : Nat) : Int) then ((roadref3_SameWords.l0 a0 a1 (((List.length a0) : Nat) : Int) (0 : Int))) else (some (false))
set_option maxRecDepth 100000 in
theorem roadref3_SameWords.walk {h m : Heap} {A0 : Option Addr} {n0 c0 : Nat} {A1 : Option Addr} {n1 c1 : Nat} {a0 : List Int} {a1 : List Int} (s : Sub m h) (ne0 : n0 = List.length a0) (k0 : List.length a0 ≤ c0) (r0 : Rd 1 (eInt .u64) m A0 a0) (ne1 : n1 = List.length a1) (k1 : List.length a1 ≤ c1) (r1 : Rd 1 (eInt .u64) m A1 a1) {r : Bool} (e : roadref3_SameWords a0 a1 = some r) : Run Try.prog 54 #[Value.slice A0 n0 c0, Value.slice A1 n1 c1] h (roadref3_SameWords.post No h m r) := by
  unfold roadref3_SameWords at e
  subst ne0
  subst ne1
  have S : St No h m h m := .refl s
  refine f54.run ?_
  unfold f54.runT
  refine split_ne_e e (fun c1 e => ?_) (fun c1 e => ?_)
  · cases e
    exact ⟨_, S, rfl⟩
  · exact roadref3_SameWords.l0.walk S rfl k0 r0 rfl k1 r1 e

/-! ### 115 roadstead/roadref3.Deep -/
def roadref3_Deep.post (W : Nat → Prop) (h0 m0 : Heap) (r : Int × Int) (v : Value) (h : Heap) : Prop := ∃ m , St W h0 m0 h m ∧ v = .tuple #[.int .i64 r.1, .int .i64 r.2]
inductive roadref3_Deep_k.Pt where
  | f (y0 : T_api_Value)
  | l0 (x4 : Int) (x5 : Int) (a11 : List T_api_Value) (x12 : Int) (x13 : Int)
noncomputable def roadref3_Deep_k.body (go : (p : roadref3_Deep_k.Pt) → Option (Int × Int)) : (p : roadref3_Deep_k.Pt) → Option (Int × Int)
  | .f y0 => (go (.l0 (0 : Int) (1 : Int) y0.Args (((List.length y0.Args) : Nat) : Int) (0 : Int)))
  | .l0 x4 x5 a11 x12 x13 => if x13 < x12 then (Option.bind (gi a11 x13) fun y6 => Option.bind ((go (.f y6))) fun y23 => (go (.l0 (if y23.1 > x4 then y23.1 else x4) (IntKind.wrap .i64 (x5 + y23.2)) a11 x12 (IntKind.wrap .i64 (x13 + (1 : Int)))))) else (some ((IntKind.wrap .i64 (x4 + (1 : Int))), x5))
theorem roadref3_Deep_k.mono : MonoF (β := fun _ => (Int × Int)) roadref3_Deep_k.body := fun f g hfg p => match p with
  | .f y0 => (hfg _)
  | .l0 x4 x5 a11 x12 x13 => LeO.ite (LeO.bind (LeO.refl _) fun y6 => LeO.bind ((hfg _)) fun y23 => (hfg _)) (LeO.refl _)
noncomputable def roadref3_Deep_k.go (p : roadref3_Deep_k.Pt) : Option (Int × Int) := fixF (β := fun _ => (Int × Int)) roadref3_Deep_k.body p
noncomputable def roadref3_Deep (y0 : T_api_Value) : Option (Int × Int) := roadref3_Deep_k.go (.f y0)
noncomputable def roadref3_Deep.l0 (x4 : Int) (x5 : Int) (a11 : List T_api_Value) (x12 : Int) (x13 : Int) : Option (Int × Int) := roadref3_Deep_k.go (.l0 x4 x5 a11 x12 x13)
theorem roadref3_Deep_eq (y0 : T_api_Value) : roadref3_Deep y0 = (roadref3_Deep.l0 (0 : Int) (1 : Int) y0.Args (((List.length y0.Args) : Nat) : Int) (0 : Int)) := fixF_eq roadref3_Deep_k.mono _
theorem roadref3_Deep.l0_eq (x4 : Int) (x5 : Int) (a11 : List T_api_Value) (x12 : Int) (x13 : Int) : roadref3_Deep.l0 x4 x5 a11 x12 x13 = if x13 < x12 then (Option.bind (gi a11 x13) fun y6 => Option.bind ((roadref3_Deep y6)) fun y23 => (roadref3_Deep.l0 (if y23.1 > x4 then y23.1 else x4) (IntKind.wrap .i64 (x5 + y23.2)) a11 x12 (IntKind.wrap .i64 (x13 + (1 : Int))))) else (some ((IntKind.wrap .i64 (x4 + (1 : Int))), x5)) := fixF_eq roadref3_Deep_k.mono _
def roadref3_Deep_k.I : (p : roadref3_Deep_k.Pt) → (Int × Int) → Prop
  | .f y0, r => ∀ (h m : Heap) (cs0 : List Value) (s : Sub m h) (e0 : T_api_Value.E m y0 cs0), Run Try.prog 115 #[Value.agg cs0.toArray] h (roadref3_Deep.post No h m r)
  | .l0 x4 x5 a11 x12 x13, r => ∀ (h0 m0 h m : Heap) (A11 : Option Addr) (n11 c11 : Nat) (S : St No h0 m0 h m) (ne11 : n11 = List.length a11) (k11 : List.length a11 ≤ c11) (r11 : Rd 4 T_api_Value.E m A11 a11), f115.l0 (roadref3_Deep.post No h0 m0 r) x4 x5 A11 n11 c11 x12 x13 h
set_option maxRecDepth 100000 in
theorem roadref3_Deep_k.step_f (go : (p : roadref3_Deep_k.Pt) → Option (Int × Int)) (ih : ∀ p r, go p = some r → roadref3_Deep_k.I p r) (y0 : T_api_Value) (r : Int × Int) (e : roadref3_Deep_k.body go (.f y0) = some r) : roadref3_Deep_k.I (.f y0) r := by
  unfold roadref3_Deep_k.body at e
  intro h m cs0 s e0
  obtain ⟨Ae0_3, ce0_3, rfl, ke0_3, re0_3⟩ := T_api_Value.iff.1 e0
  have S : St No h m h m := .refl s
  refine f115.run ?_
  unfold f115.runT
  refine new_in S fun h1 o2 x3 => ?_
  have S4 := S.ext' x3
  have o2 : OB _ _ h1 _ (Array.size h) [(Value.int .i64 y0.Kind), (Value.int .i64 y0.Num), (Value.string y0.Text), (Value.slice Ae0_3 (List.length y0.Args) ce0_3)] 137 := o2
  refine ⟨_, ldk (k := 3) (Sub.refl _) o2.all rfl, _, _, _, rfl, ?_⟩
  exact (ih _ _ e) _ _ _ _ _ _ _ S4 rfl ke0_3 re0_3
set_option maxRecDepth 100000 in
theorem roadref3_Deep_k.step_l0 (go : (p : roadref3_Deep_k.Pt) → Option (Int × Int)) (ih : ∀ p r, go p = some r → roadref3_Deep_k.I p r) (x4 : Int) (x5 : Int) (a11 : List T_api_Value) (x12 : Int) (x13 : Int) (r : Int × Int) (e : roadref3_Deep_k.body go (.l0 x4 x5 a11 x12 x13) = some r) : roadref3_Deep_k.I (.l0 x4 x5 a11 x12 x13) r := by
  unfold roadref3_Deep_k.body at e
  intro h0 m0 h m A11 n11 c11 S ne11 k11 r11
  subst ne11
  refine f115.l0_in ?_
  unfold f115.l0T
  refine split_dec_e e (fun c30 e => ?_) (fun c30 e => ?_)
  · obtain ⟨y6, g7, e⟩ := bind_e e
    refine r11.addr rfl g7 fun a8 cs9 ha10 hc11 he12 => ?_
    obtain ⟨Aa8_3, ca8_3, rfl, ka8_3, ra8_3⟩ := T_api_Value.iff.1 he12
    refine ⟨_, ldA S.s hc11, ?_⟩
    refine new_in S fun h13 o14 x15 => ?_
    have S16 := S.ext' x15
    have o14 : OB _ _ h13 _ (Array.size h) [(Value.int .i64 (0 : Int)), (Value.int .i64 (0 : Int)), (Value.string (ByteArray.mk #[])), (Value.slice none 0 0)] 137 := o14
    obtain ⟨h18, w19, o20, t21⟩ := o14.stA S16.s [(Value.int .i64 y6.Kind), (Value.int .i64 y6.Num), (Value.string y6.Text), (Value.slice Aa8_3 (List.length y6.Args) ca8_3)] rfl (Flats.cons trivial (Flats.cons trivial (Flats.cons trivial (Flats.cons trivial Flats.nil))))
    refine ⟨[(Value.int .i64 y6.Kind), (Value.int .i64 y6.Num), (Value.string y6.Text), (Value.slice Aa8_3 (List.length y6.Args) ca8_3)], rfl, rfl, h18, w19, ?_⟩
    have o20 : OB _ _ h18 _ (Array.size h) [(Value.int .i64 y6.Kind), (Value.int .i64 y6.Num), (Value.string y6.Text), (Value.slice Aa8_3 (List.length y6.Args) ca8_3)] 137 := o20
    have S22 := S16.then t21 (fun i _ hi => o14.wr i hi)
    refine ⟨_, ldA (Sub.refl _) o20.all, ?_⟩
    obtain ⟨y23, g24, e⟩ := bind_e e
    refine ((ih _ _ g24) _ _ _ S22.s (T_api_Value.iff.2 ⟨_, _, rfl, ka8_3, ra8_3⟩)).mono ?_
    rintro _ h25 ⟨m26, T27, rfl⟩
    have S28 := S22.grow T27
    have o29 := o20.step T27 Dj.no
    refine ⟨_, _, rfl, ?_⟩
    exact (ih _ _ e) _ _ _ _ _ _ _ S28 rfl k11 (r11.sub T_api_Value.T T27.up)
  · cases e
    exact ⟨_, S, rfl⟩
theorem roadref3_Deep_k.all {p : roadref3_Deep_k.Pt} {r : (Int × Int)} (e : roadref3_Deep_k.go p = some r) : roadref3_Deep_k.I p r := fixF_ind (β := fun _ => (Int × Int)) roadref3_Deep_k.mono (I := roadref3_Deep_k.I) (fun go ih p r e => match p with
  | .f y0 => roadref3_Deep_k.step_f go ih y0 r e
  | .l0 x4 x5 a11 x12 x13 => roadref3_Deep_k.step_l0 go ih x4 x5 a11 x12 x13 r e
  ) e
theorem roadref3_Deep.walk {h m : Heap} {cs0 : List Value} {y0 : T_api_Value} (s : Sub m h) (e0 : T_api_Value.E m y0 cs0) {r : Int × Int} (e : roadref3_Deep y0 = some r) : Run Try.prog 115 #[Value.agg cs0.toArray] h (roadref3_Deep.post No h m r) := roadref3_Deep_k.all (p := .f y0) e h m cs0 s e0
theorem roadref3_Deep.l0.walk {h0 m0 h m : Heap} {A11 : Option Addr} {n11 c11 : Nat} {x4 : Int} {x5 : Int} {a11 : List T_api_Value} {x12 : Int} {x13 : Int} (S : St No h0 m0 h m) (ne11 : n11 = List.length a11) (k11 : List.length a11 ≤ c11) (r11 : Rd 4 T_api_Value.E m A11 a11) {r : Int × Int} (e : roadref3_Deep.l0 x4 x5 a11 x12 x13 = some r) : f115.l0 (roadref3_Deep.post No h0 m0 r) x4 x5 A11 n11 c11 x12 x13 h := roadref3_Deep_k.all (p := .l0 x4 x5 a11 x12 x13) e h0 m0 h m A11 n11 c11 S ne11 k11 r11

/-! ### 65 roadstead/roadlaw3.flat -/
def roadlaw3_flat.post (W : Nat → Prop) (h0 m0 : Heap) (r : Bool) (v : Value) (h : Heap) : Prop := ∃ m , St W h0 m0 h m ∧ v = .bool r
noncomputable def roadlaw3_flat (y0 : T_api_Value) : Option (Bool) :=
  Option.bind (roadref3_Deep y0) fun y6 => if y6.1 ≤ (60 : Int) then (some ((decide (y6.2 ≤ (500 : Int))))) else (some (false))
set_option maxRecDepth 100000 in
theorem roadlaw3_flat.walk {h m : Heap} {cs0 : List Value} {y0 : T_api_Value} (s : Sub m h) (e0 : T_api_Value.E m y0 cs0) {r : Bool} (e : roadlaw3_flat y0 = some r) : Run Try.prog 65 #[Value.agg cs0.toArray] h (roadlaw3_flat.post No h m r) := by
  unfold roadlaw3_flat at e
  obtain ⟨Ae0_3, ce0_3, rfl, ke0_3, re0_3⟩ := T_api_Value.iff.1 e0
  have S : St No h m h m := .refl s
  refine f65.run ?_
  unfold f65.runT
  refine new_in S fun h1 o2 x3 => ?_
  have S4 := S.ext' x3
  have o2 : OB _ _ h1 _ (Array.size h) [(Value.int .i64 y0.Kind), (Value.int .i64 y0.Num), (Value.string y0.Text), (Value.slice Ae0_3 (List.length y0.Args) ce0_3)] 137 := o2
  refine ⟨_, ldA (Sub.refl _) o2.all, ?_⟩
  obtain ⟨y6, g7, e⟩ := bind_e e
  refine (roadref3_Deep.walk S4.s (T_api_Value.iff.2 ⟨_, _, rfl, ke0_3, re0_3⟩) g7).mono ?_
  rintro _ h8 ⟨m9, T10, rfl⟩
  have S11 := S4.grow T10
  have o12 := o2.step T10 Dj.no
  refine ⟨_, _, rfl, ?_⟩
  refine split_dec_e e (fun c13 e => ?_) (fun c13 e => ?_)
  · cases e
    exact ⟨_, S11, rfl⟩
  · cases e
    exact ⟨_, S11, rfl⟩

/-! ### 53 slices.Clone[roadstead/heap.Heap,uint64] -/
def slices_Clone_53.post (W : Nat → Prop) (h0 m0 : Heap) (r : (List Int)) (v : Value) (h : Heap) : Prop := ∃ m A0 n0 c0, St W h0 m0 h m ∧ v = .slice A0 n0 c0 ∧ n0 = r.length ∧ OS W h0 1 (eInt .u64) h m A0 r c0
noncomputable def slices_Clone_53 (a0 : List Int) : Option (List Int) := ap 8 ([] : List Int) a0
set_option maxRecDepth 100000 in
theorem slices_Clone_53.walk {h m : Heap} {A0 : Option Addr} {n0 c0 : Nat} {a0 : List Int} (s : Sub m h) (ne0 : n0 = List.length a0) (k0 : List.length a0 ≤ c0) (r0 : Rd 1 (eInt .u64) m A0 a0) {r : List Int} (e : slices_Clone_53 a0 = some r) : Run Try.prog 53 #[Value.slice A0 n0 c0] h (slices_Clone_53.post No h m r) := by
  unfold slices_Clone_53 at e
  subst ne0
  have S : St No h m h m := .refl s
  refine f53.run ?_
  unfold f53.runT
  cases A0 with
  | none =>
    refine split_t ?_
    obtain rfl := Rd.void r0
    obtain rfl : [] = r := by have := (ap_e e).2; simpa using this
    exact ⟨m, none, 0, 0, S, rfl, rfl, OS.nil⟩
  | some a =>
    refine split_f ?_
    refine new_in S fun h1 _ x1 => ?_
    have S1 := S.ext' x1
    have o2 : OS No h 1 (eInt .u64) h1 m (some ⟨Array.size h, 0, none⟩) ([] : List Int) 0 := .inl ⟨rfl, rfl⟩
    refine o2.app (tell_int .u64) S1 rfl rfl (r0.srcE (tell_int .u64) S1.s rfl) (by decide) e fun A4 c4 h4 o4 t4 n4 => ?_
    refine ⟨_, _, _, rfl, ?_⟩
    exact ⟨m, _, _, _, S1.then t4 (fun i _ hi => o2.wr i hi), rfl, rfl, o4⟩
theorem slices_Clone_53.val (l : List Int) (h : l.length * 8 ≤ 140737488355328) : slices_Clone_53 l = some l := ap_nil h

/-! ### 153 roadstead/term.Small -/
def term_Small.post (W : Nat → Prop) (h0 m0 : Heap) (r : Bool) (v : Value) (h : Heap) : Prop := ∃ m , St W h0 m0 h m ∧ v = .bool r
noncomputable def term_Small (x0 : Int) : Option (Bool) :=
  if x0 ≥ (-1152921504606846976 : Int) then (some ((decide (x0 < (1152921504606846976 : Int))))) else (some (false))
set_option maxRecDepth 100000 in
theorem term_Small.walk {h m : Heap} {x0 : Int} (s : Sub m h)  {r : Bool} (e : term_Small x0 = some r) : Run Try.prog 153 #[Value.int .i64 x0] h (term_Small.post No h m r) := by
  unfold term_Small at e
  have S : St No h m h m := .refl s
  refine f153.run ?_
  unfold f153.runT
  refine split_dec_e e (fun c1 e => ?_) (fun c1 e => ?_)
  · cases e
    exact ⟨_, S, rfl⟩
  · cases e
    exact ⟨_, S, rfl⟩

/-! ### 118 roadstead/term.Word -/
def term_Word.post (W : Nat → Prop) (h0 m0 : Heap) (r : Int × Int) (v : Value) (h : Heap) : Prop := ∃ m , St W h0 m0 h m ∧ v = .tuple #[.int .u64 r.1, .int .i64 r.2]
noncomputable def term_Word.j2 (b49 : Bool) : Option (Int × Int) :=
  if b49 = true then (some ((0 : Int), (1 : Int))) else (some ((0 : Int), (2 : Int)))
set_option maxRecDepth 100000 in
theorem term_Word.j2.walk {h0 m0 h m : Heap} {b49 : Bool} (S : St No h0 m0 h m)  {r : Int × Int} (e : term_Word.j2 b49 = some r) : f118.j2 (term_Word.post No h0 m0 r) b49 h := by
  unfold term_Word.j2 at e
  refine f118.j2_in ?_
  unfold f118.j2T
  refine split_any_e e (fun c15 e => ?_) (fun c15 e => ?_)
  · cases e
    exact ⟨_, S, rfl⟩
  · cases e
    exact ⟨_, S, rfl⟩

noncomputable def term_Word.j0 (x0 : Int) (x1 : Int) (b6 : Bool) : Option (Int × Int) :=
  if b6 = true then (some ((bitsI .or .u64 (shlI .u64 (IntKind.wrap .u64 x1) (3 : Int)) (IntKind.wrap .u64 x0)), (0 : Int))) else (if x0 < (0 : Int) then ((term_Word.j2 true)) else ((term_Word.j2 (decide (x0 > (4 : Int))))))
set_option maxRecDepth 100000 in
theorem term_Word.j0.walk {h0 m0 h m : Heap} {x0 : Int} {x1 : Int} {b6 : Bool} (S : St No h0 m0 h m)  {r : Int × Int} (e : term_Word.j0 x0 x1 b6 = some r) : f118.j0 (term_Word.post No h0 m0 r) x0 x1 b6 h := by
  unfold term_Word.j0 at e
  refine f118.j0_in ?_
  unfold f118.j0T
  refine split_any_e e (fun c6 e => ?_) (fun c6 e => ?_)
  · refine ⟨by decide, ?_⟩
    cases e
    exact ⟨_, S, rfl⟩
  · refine split_dec_e e (fun c5 e => ?_) (fun c5 e => ?_)
    · exact term_Word.j2.walk S  e
    · exact term_Word.j2.walk S  e

noncomputable def term_Word.j4 (x0 : Int) (x1 : Int) (b6 : Bool) : Option (Int × Int) :=
  if b6 = true then ((term_Word.j0 x0 x1 b6)) else (if x0 = (3 : Int) then (if x1 ≥ (0 : Int) then ((term_Word.j0 x0 x1 (decide (x1 < (1152921504606846976 : Int))))) else ((term_Word.j0 x0 x1 false))) else (if x0 = (4 : Int) then (if x1 ≥ (0 : Int) then ((term_Word.j0 x0 x1 (decide (x1 < (1152921504606846976 : Int))))) else ((term_Word.j0 x0 x1 false))) else ((term_Word.j0 x0 x1 false))))
set_option maxRecDepth 100000 in
theorem term_Word.j4.walk {h0 m0 h m : Heap} {x0 : Int} {x1 : Int} {b6 : Bool} (S : St No h0 m0 h m)  {r : Int × Int} (e : term_Word.j4 x0 x1 b6 = some r) : f118.j4 (term_Word.post No h0 m0 r) x0 x1 b6 h := by
  unfold term_Word.j4 at e
  refine f118.j4_in ?_
  unfold f118.j4T
  refine split_any_e e (fun c20 e => ?_) (fun c20 e => ?_)
  · exact term_Word.j0.walk S  e
  · refine split_eq_e e (fun c19 e => ?_) (fun c19 e => ?_)
    · refine split_dec_e e (fun c16 e => ?_) (fun c16 e => ?_)
      · exact term_Word.j0.walk S  e
      · exact term_Word.j0.walk S  e
    · refine split_eq_e e (fun c18 e => ?_) (fun c18 e => ?_)
      · refine split_dec_e e (fun c17 e => ?_) (fun c17 e => ?_)
        · exact term_Word.j0.walk S  e
        · exact term_Word.j0.walk S  e
      · exact term_Word.j0.walk S  e

noncomputable def term_Word.j3 (x0 : Int) (x1 : Int) (b6 : Bool) : Option (Int × Int) :=
  if b6 = true then ((term_Word.j0 x0 x1 b6)) else (if x0 = (1 : Int) then (Option.bind (term_Small x1) fun y7 => (term_Word.j4 x0 x1 y7)) else ((term_Word.j4 x0 x1 false)))
set_option maxRecDepth 100000 in
theorem term_Word.j3.walk {h0 m0 h m : Heap} {x0 : Int} {x1 : Int} {b6 : Bool} (S : St No h0 m0 h m)  {r : Int × Int} (e : term_Word.j3 x0 x1 b6 = some r) : f118.j3 (term_Word.post No h0 m0 r) x0 x1 b6 h := by
  unfold term_Word.j3 at e
  refine f118.j3_in ?_
  unfold f118.j3T
  refine split_any_e e (fun c14 e => ?_) (fun c14 e => ?_)
  · exact term_Word.j0.walk S  e
  · refine split_eq_e e (fun c13 e => ?_) (fun c13 e => ?_)
    · obtain ⟨y7, g8, e⟩ := bind_e e
      refine (term_Small.walk S.s  g8).mono ?_
      rintro _ h9 ⟨m10, T11, rfl⟩
      have S12 := S.grow T11
      refine ⟨_, rfl, ?_⟩
      exact term_Word.j4.walk S12  e
    · exact term_Word.j4.walk S  e

noncomputable def term_Word.j1 (x0 : Int) (x1 : Int) (b6 : Bool) : Option (Int × Int) :=
  if b6 = true then ((term_Word.j0 x0 x1 b6)) else (if x0 = (2 : Int) then (if x1 = (0 : Int) then ((term_Word.j3 x0 x1 true)) else ((term_Word.j3 x0 x1 (x1 == (1 : Int))))) else ((term_Word.j3 x0 x1 false)))
set_option maxRecDepth 100000 in
theorem term_Word.j1.walk {h0 m0 h m : Heap} {x0 : Int} {x1 : Int} {b6 : Bool} (S : St No h0 m0 h m)  {r : Int × Int} (e : term_Word.j1 x0 x1 b6 = some r) : f118.j1 (term_Word.post No h0 m0 r) x0 x1 b6 h := by
  unfold term_Word.j1 at e
  refine f118.j1_in ?_
  unfold f118.j1T
  refine split_any_e e (fun c4 e => ?_) (fun c4 e => ?_)
  · exact term_Word.j0.walk S  e
  · refine split_eq_e e (fun c3 e => ?_) (fun c3 e => ?_)
    · refine split_eq_e e (fun c2 e => ?_) (fun c2 e => ?_)
      · exact term_Word.j3.walk S  e
      · exact term_Word.j3.walk S  e
    · exact term_Word.j3.walk S  e

noncomputable def term_Word (x0 : Int) (x1 : Int) : Option (Int × Int) :=
  if x0 = (0 : Int) then ((term_Word.j1 x0 x1 (x1 == (0 : Int)))) else ((term_Word.j1 x0 x1 false))
set_option maxRecDepth 100000 in
theorem term_Word.walk {h m : Heap} {x0 : Int} {x1 : Int} (s : Sub m h)  {r : Int × Int} (e : term_Word x0 x1 = some r) : Run Try.prog 118 #[Value.int .i64 x0, Value.int .i64 x1] h (term_Word.post No h m r) := by
  unfold term_Word at e
  have S : St No h m h m := .refl s
  refine f118.run ?_
  unfold f118.runT
  refine split_eq_e e (fun c1 e => ?_) (fun c1 e => ?_)
  · exact term_Word.j1.walk S  e
  · exact term_Word.j1.walk S  e

/-! ### 116 roadstead/term.Of -/
def term_Of.post (W : Nat → Prop) (h0 m0 : Heap) (r : Int × Bool) (v : Value) (h : Heap) : Prop := ∃ m , St W h0 m0 h m ∧ v = .tuple #[.int .u64 r.1, .bool r.2]
noncomputable def term_Of.j1 (y1 : T_api_Value) (x4 : Int) : Option (Int × Bool) :=
  Option.bind (term_Word x4 y1.Num) fun y13 => some (y13.1, (y13.2 == (0 : Int)))
set_option maxRecDepth 100000 in
theorem term_Of.j1.walk {h0 m0 h m : Heap} {bk1 : Nat} {cs1 : List Value} {y1 : T_api_Value} {x4 : Int} (S : St No h0 m0 h m) (o1 : OB No h0 h m bk1 cs1 137) (e1 : T_api_Value.E m y1 cs1) {r : Int × Bool} (e : term_Of.j1 y1 x4 = some r) : f116.j1 (term_Of.post No h0 m0 r) (⟨bk1, 0, none⟩ : Addr) x4 h := by
  unfold term_Of.j1 at e
  obtain ⟨Ae1_3, ce1_3, rfl, ke1_3, re1_3⟩ := T_api_Value.iff.1 e1
  refine f116.j1_in ?_
  unfold f116.j1T
  refine ⟨_, ldk (k := 1) (Sub.refl _) o1.all rfl, _, rfl, ?_⟩
  obtain ⟨y13, g14, e⟩ := bind_e e
  refine (term_Word.walk S.s  g14).mono ?_
  rintro _ h15 ⟨m16, T17, rfl⟩
  have S18 := S.grow T17
  have o19 := o1.step T17 Dj.no
  refine ⟨_, _, rfl, ?_⟩
  cases e
  exact ⟨_, S18, rfl⟩

noncomputable def term_Of.j2 (y1 : T_api_Value) (x4 : Int) (b29 : Bool) : Option (Int × Bool) :=
  if b29 = true then (some ((0 : Int), false)) else ((term_Of.j1 y1 x4))
set_option maxRecDepth 100000 in
theorem term_Of.j2.walk {h0 m0 h m : Heap} {bk1 : Nat} {cs1 : List Value} {y1 : T_api_Value} {x4 : Int} {b29 : Bool} (S : St No h0 m0 h m) (o1 : OB No h0 h m bk1 cs1 137) (e1 : T_api_Value.E m y1 cs1) {r : Int × Bool} (e : term_Of.j2 y1 x4 b29 = some r) : f116.j2 (term_Of.post No h0 m0 r) (⟨bk1, 0, none⟩ : Addr) x4 b29 h := by
  unfold term_Of.j2 at e
  obtain ⟨Ae1_3, ce1_3, rfl, ke1_3, re1_3⟩ := T_api_Value.iff.1 e1
  refine f116.j2_in ?_
  unfold f116.j2T
  refine split_any_e e (fun c12 e => ?_) (fun c12 e => ?_)
  · cases e
    exact ⟨_, S, rfl⟩
  · exact term_Of.j1.walk S o1 (T_api_Value.iff.2 ⟨_, _, rfl, ke1_3, re1_3⟩) e

noncomputable def term_Of.j0 (y1 : T_api_Value) (x4 : Int) : Option (Int × Bool) :=
  if x4 < (0 : Int) then ((term_Of.j2 y1 x4 true)) else (if y1.Text = (ByteArray.mk #[]) then ((term_Of.j2 y1 x4 (decide ((((List.length y1.Args) : Nat) : Int) > (0 : Int))))) else ((term_Of.j2 y1 x4 true)))
set_option maxRecDepth 100000 in
theorem term_Of.j0.walk {h0 m0 h m : Heap} {bk1 : Nat} {cs1 : List Value} {y1 : T_api_Value} {x4 : Int} (S : St No h0 m0 h m) (o1 : OB No h0 h m bk1 cs1 137) (e1 : T_api_Value.E m y1 cs1) {r : Int × Bool} (e : term_Of.j0 y1 x4 = some r) : f116.j0 (term_Of.post No h0 m0 r) (⟨bk1, 0, none⟩ : Addr) x4 h := by
  unfold term_Of.j0 at e
  obtain ⟨Ae1_3, ce1_3, rfl, ke1_3, re1_3⟩ := T_api_Value.iff.1 e1
  refine f116.j0_in ?_
  unfold f116.j0T
  refine split_dec_e e (fun c11 e => ?_) (fun c11 e => ?_)
  · exact term_Of.j2.walk S o1 (T_api_Value.iff.2 ⟨_, _, rfl, ke1_3, re1_3⟩) e
  · refine ⟨_, ldk (k := 2) (Sub.refl _) o1.all rfl, _, rfl, ?_⟩
    try rw [ba_list y1.Text (ByteArray.mk #[])]
    refine split_not ?_
    refine split_dec_e e (fun c10 e => ?_) (fun c10 e => ?_)
    · refine ⟨_, ldk (k := 3) (Sub.refl _) o1.all rfl, _, _, _, rfl, ?_⟩
      exact term_Of.j2.walk S o1 (T_api_Value.iff.2 ⟨_, _, rfl, ke1_3, re1_3⟩) e
    · exact term_Of.j2.walk S o1 (T_api_Value.iff.2 ⟨_, _, rfl, ke1_3, re1_3⟩) e

noncomputable def term_Of (y0 : T_api_Value) : Option (Int × Bool) :=
  if y0.Kind = (1 : Int) then ((term_Of.j0 y0 (0 : Int))) else (if y0.Kind = (2 : Int) then ((term_Of.j0 y0 (1 : Int))) else (if y0.Kind = (3 : Int) then ((term_Of.j0 y0 (2 : Int))) else (if y0.Kind = (6 : Int) then ((term_Of.j0 y0 (3 : Int))) else ((term_Of.j0 y0 (-1 : Int))))))
set_option maxRecDepth 100000 in
theorem term_Of.walk {h m : Heap} {cs0 : List Value} {y0 : T_api_Value} (s : Sub m h) (e0 : T_api_Value.E m y0 cs0) {r : Int × Bool} (e : term_Of y0 = some r) : Run Try.prog 116 #[Value.agg cs0.toArray] h (term_Of.post No h m r) := by
  unfold term_Of at e
  obtain ⟨Ae0_3, ce0_3, rfl, ke0_3, re0_3⟩ := T_api_Value.iff.1 e0
  have S : St No h m h m := .refl s
  refine f116.run ?_
  unfold f116.runT
  refine new_in S fun h1 o2 x3 => ?_
  have S4 := S.ext' x3
  have o2 : OB _ _ h1 _ (Array.size h) [(Value.int .i64 y0.Kind), (Value.int .i64 y0.Num), (Value.string y0.Text), (Value.slice Ae0_3 (List.length y0.Args) ce0_3)] 137 := o2
  refine ⟨_, ld0 (Sub.refl _) o2.all rfl, _, rfl, ?_⟩
  refine split_eq_e e (fun c9 e => ?_) (fun c9 e => ?_)
  · exact term_Of.j0.walk S4 o2 (T_api_Value.iff.2 ⟨_, _, rfl, ke0_3, re0_3⟩) e
  · refine split_eq_e e (fun c8 e => ?_) (fun c8 e => ?_)
    · exact term_Of.j0.walk S4 o2 (T_api_Value.iff.2 ⟨_, _, rfl, ke0_3, re0_3⟩) e
    · refine split_eq_e e (fun c7 e => ?_) (fun c7 e => ?_)
      · exact term_Of.j0.walk S4 o2 (T_api_Value.iff.2 ⟨_, _, rfl, ke0_3, re0_3⟩) e
      · refine split_eq_e e (fun c6 e => ?_) (fun c6 e => ?_)
        · exact term_Of.j0.walk S4 o2 (T_api_Value.iff.2 ⟨_, _, rfl, ke0_3, re0_3⟩) e
        · exact term_Of.j0.walk S4 o2 (T_api_Value.iff.2 ⟨_, _, rfl, ke0_3, re0_3⟩) e

/-! ### 142 roadstead/heap.room -/
def heap_room.post (W : Nat → Prop) (h0 m0 : Heap) (r : Int) (v : Value) (h : Heap) : Prop := ∃ m , St W h0 m0 h m ∧ v = .int .i64 r
noncomputable def heap_room.j0 (x7 : Int) (b19 : Bool) : Option (Int) :=
  if b19 = true then (some ((IntKind.wrap .i64 (x7 + (1 : Int))))) else (some (x7))
set_option maxRecDepth 100000 in
theorem heap_room.j0.walk {h0 m0 h m : Heap} {x7 : Int} {b19 : Bool} (S : St No h0 m0 h m)  {r : Int} (e : heap_room.j0 x7 b19 = some r) : f142.j0 (heap_room.post No h0 m0 r) x7 b19 h := by
  unfold heap_room.j0 at e
  refine f142.j0_in ?_
  unfold f142.j0T
  refine split_any_e e (fun c2 e => ?_) (fun c2 e => ?_)
  · cases e
    exact ⟨_, S, rfl⟩
  · cases e
    exact ⟨_, S, rfl⟩

noncomputable def heap_room (x0 : Int) (x1 : Int) (x2 : Int) : Option (Int) :=
  if x0 = (1 : Int) then ((heap_room.j0 (IntKind.wrap .i64 ((IntKind.wrap .i64 ((1 : Int) + (IntKind.wrap .i64 (Int.tdiv (IntKind.wrap .i64 (x1 + (7 : Int))) (8 : Int))))) + x2)) true)) else ((heap_room.j0 (IntKind.wrap .i64 ((IntKind.wrap .i64 ((1 : Int) + (IntKind.wrap .i64 (Int.tdiv (IntKind.wrap .i64 (x1 + (7 : Int))) (8 : Int))))) + x2)) (x0 == (4 : Int))))
set_option maxRecDepth 100000 in
theorem heap_room.walk {h m : Heap} {x0 : Int} {x1 : Int} {x2 : Int} (s : Sub m h)  {r : Int} (e : heap_room x0 x1 x2 = some r) : Run Try.prog 142 #[Value.int .i64 x0, Value.int .i64 x1, Value.int .i64 x2] h (heap_room.post No h m r) := by
  unfold heap_room at e
  have S : St No h m h m := .refl s
  refine f142.run ?_
  unfold f142.runT
  refine ⟨by decide, ?_⟩
  refine split_eq_e e (fun c1 e => ?_) (fun c1 e => ?_)
  · exact heap_room.j0.walk S  e
  · exact heap_room.j0.walk S  e

/-! ### 151 roadstead/heap.right -/
def heap_right.post (W : Nat → Prop) (h0 m0 : Heap) (r : Bool) (v : Value) (h : Heap) : Prop := ∃ m , St W h0 m0 h m ∧ v = .bool r
noncomputable def heap_right.j0 (y1 : T_heap_Object) : Option (Bool) :=
  if y1.Kind = (5 : Int) then (some ((decide ((((List.length y1.Parts) : Nat) : Int) ≤ (1 : Int))))) else (some (true))
set_option maxRecDepth 100000 in
theorem heap_right.j0.walk {h0 m0 h m : Heap} {bk1 : Nat} {cs1 : List Value} {y1 : T_heap_Object} (S : St No h0 m0 h m) (o1 : OB No h0 h m bk1 cs1 202) (e1 : T_heap_Object.E m y1 cs1) {r : Bool} (e : heap_right.j0 y1 = some r) : f151.j0 (heap_right.post No h0 m0 r) (⟨bk1, 0, none⟩ : Addr) h := by
  unfold heap_right.j0 at e
  obtain ⟨Ae1_4, ce1_4, rfl, ke1_4, re1_4⟩ := e1
  refine f151.j0_in ?_
  unfold f151.j0T
  refine ⟨_, ldk (k := 1) (Sub.refl _) o1.all rfl, _, rfl, ?_⟩
  refine split_ne_e e (fun c16 e => ?_) (fun c16 e => ?_)
  · cases e
    exact ⟨_, S, rfl⟩
  · refine ⟨_, ldk (k := 4) (Sub.refl _) o1.all rfl, _, _, _, rfl, ?_⟩
    cases e
    exact ⟨_, S, rfl⟩

noncomputable def heap_right.j3 (y1 : T_heap_Object) (b24 : Bool) : Option (Bool) :=
  if b24 = true then (if b24 = true then (some (false)) else ((heap_right.j0 y1))) else (if y1.Kind = (1 : Int) then ((heap_right.j0 y1)) else (if y1.Kind = (4 : Int) then ((heap_right.j0 y1)) else (if y1.Num = (0 : Int) then ((heap_right.j0 y1)) else (some (false)))))
set_option maxRecDepth 100000 in
theorem heap_right.j3.walk {h0 m0 h m : Heap} {bk1 : Nat} {cs1 : List Value} {y1 : T_heap_Object} {b24 : Bool} (S : St No h0 m0 h m) (o1 : OB No h0 h m bk1 cs1 202) (e1 : T_heap_Object.E m y1 cs1) {r : Bool} (e : heap_right.j3 y1 b24 = some r) : f151.j3 (heap_right.post No h0 m0 r) (⟨bk1, 0, none⟩ : Addr) b24 h := by
  unfold heap_right.j3 at e
  obtain ⟨Ae1_4, ce1_4, rfl, ke1_4, re1_4⟩ := e1
  refine f151.j3_in ?_
  unfold f151.j3T
  refine split_any_e e (fun c21 e => ?_) (fun c21 e => ?_)
  · refine split_any_e e (fun c17 e => ?_) (fun c17 e => ?_)
    · cases e
      exact ⟨_, S, rfl⟩
    · exact heap_right.j0.walk S o1 (show T_heap_Object.E _ y1 [(Value.int .i64 y1.At), (Value.int .i64 y1.Kind), (Value.int .i64 y1.Num), (Value.string y1.Text), (Value.slice Ae1_4 (List.length y1.Parts) ce1_4)] from ⟨_, _, rfl, ke1_4, re1_4⟩) e
  · refine ⟨_, ldk (k := 1) (Sub.refl _) o1.all rfl, _, rfl, ?_⟩
    refine split_ne_e e (fun c20 e => ?_) (fun c20 e => ?_)
    · refine ⟨_, ldk (k := 1) (Sub.refl _) o1.all rfl, _, rfl, ?_⟩
      refine split_ne_e e (fun c19 e => ?_) (fun c19 e => ?_)
      · refine ⟨_, ldk (k := 2) (Sub.refl _) o1.all rfl, _, rfl, ?_⟩
        refine split_ne_e e (fun c18 e => ?_) (fun c18 e => ?_)
        · cases e
          exact ⟨_, S, rfl⟩
        · exact heap_right.j0.walk S o1 (show T_heap_Object.E _ y1 [(Value.int .i64 y1.At), (Value.int .i64 y1.Kind), (Value.int .i64 y1.Num), (Value.string y1.Text), (Value.slice Ae1_4 (List.length y1.Parts) ce1_4)] from ⟨_, _, rfl, ke1_4, re1_4⟩) e
      · exact heap_right.j0.walk S o1 (show T_heap_Object.E _ y1 [(Value.int .i64 y1.At), (Value.int .i64 y1.Kind), (Value.int .i64 y1.Num), (Value.string y1.Text), (Value.slice Ae1_4 (List.length y1.Parts) ce1_4)] from ⟨_, _, rfl, ke1_4, re1_4⟩) e
    · exact heap_right.j0.walk S o1 (show T_heap_Object.E _ y1 [(Value.int .i64 y1.At), (Value.int .i64 y1.Kind), (Value.int .i64 y1.Num), (Value.string y1.Text), (Value.slice Ae1_4 (List.length y1.Parts) ce1_4)] from ⟨_, _, rfl, ke1_4, re1_4⟩) e

noncomputable def heap_right.j2 (y1 : T_heap_Object) (b24 : Bool) : Option (Bool) :=
  if b24 = true then (if b24 = true then (some (false)) else ((heap_right.j0 y1))) else (if y1.Kind = (2 : Int) then ((heap_right.j3 y1 false)) else (if y1.Kind = (3 : Int) then ((heap_right.j3 y1 false)) else ((heap_right.j3 y1 (!(decide (y1.Text = (ByteArray.mk #[]))))))))
set_option maxRecDepth 100000 in
theorem heap_right.j2.walk {h0 m0 h m : Heap} {bk1 : Nat} {cs1 : List Value} {y1 : T_heap_Object} {b24 : Bool} (S : St No h0 m0 h m) (o1 : OB No h0 h m bk1 cs1 202) (e1 : T_heap_Object.E m y1 cs1) {r : Bool} (e : heap_right.j2 y1 b24 = some r) : f151.j2 (heap_right.post No h0 m0 r) (⟨bk1, 0, none⟩ : Addr) b24 h := by
  unfold heap_right.j2 at e
  obtain ⟨Ae1_4, ce1_4, rfl, ke1_4, re1_4⟩ := e1
  refine f151.j2_in ?_
  unfold f151.j2T
  refine split_any_e e (fun c15 e => ?_) (fun c15 e => ?_)
  · refine split_any_e e (fun c12 e => ?_) (fun c12 e => ?_)
    · cases e
      exact ⟨_, S, rfl⟩
    · exact heap_right.j0.walk S o1 (show T_heap_Object.E _ y1 [(Value.int .i64 y1.At), (Value.int .i64 y1.Kind), (Value.int .i64 y1.Num), (Value.string y1.Text), (Value.slice Ae1_4 (List.length y1.Parts) ce1_4)] from ⟨_, _, rfl, ke1_4, re1_4⟩) e
  · refine ⟨_, ldk (k := 1) (Sub.refl _) o1.all rfl, _, rfl, ?_⟩
    refine split_ne_e e (fun c14 e => ?_) (fun c14 e => ?_)
    · refine ⟨_, ldk (k := 1) (Sub.refl _) o1.all rfl, _, rfl, ?_⟩
      refine split_ne_e e (fun c13 e => ?_) (fun c13 e => ?_)
      · refine ⟨_, ldk (k := 3) (Sub.refl _) o1.all rfl, _, rfl, ?_⟩
        try rw [ba_list y1.Text (ByteArray.mk #[])]
        exact heap_right.j3.walk S o1 (show T_heap_Object.E _ y1 [(Value.int .i64 y1.At), (Value.int .i64 y1.Kind), (Value.int .i64 y1.Num), (Value.string y1.Text), (Value.slice Ae1_4 (List.length y1.Parts) ce1_4)] from ⟨_, _, rfl, ke1_4, re1_4⟩) e
      · exact heap_right.j3.walk S o1 (show T_heap_Object.E _ y1 [(Value.int .i64 y1.At), (Value.int .i64 y1.Kind), (Value.int .i64 y1.Num), (Value.string y1.Text), (Value.slice Ae1_4 (List.length y1.Parts) ce1_4)] from ⟨_, _, rfl, ke1_4, re1_4⟩) e
    · exact heap_right.j3.walk S o1 (show T_heap_Object.E _ y1 [(Value.int .i64 y1.At), (Value.int .i64 y1.Kind), (Value.int .i64 y1.Num), (Value.string y1.Text), (Value.slice Ae1_4 (List.length y1.Parts) ce1_4)] from ⟨_, _, rfl, ke1_4, re1_4⟩) e

noncomputable def heap_right.j1 (y1 : T_heap_Object) (b3 : Bool) : Option (Bool) :=
  if b3 = true then (some (false)) else (if y1.Kind = (1 : Int) then ((heap_right.j2 y1 (decide ((((List.length y1.Parts) : Nat) : Int) > (0 : Int))))) else (if y1.Kind = (2 : Int) then ((heap_right.j2 y1 (decide ((((List.length y1.Parts) : Nat) : Int) > (0 : Int))))) else ((heap_right.j2 y1 false))))
set_option maxRecDepth 100000 in
theorem heap_right.j1.walk {h0 m0 h m : Heap} {bk1 : Nat} {cs1 : List Value} {y1 : T_heap_Object} {b3 : Bool} (S : St No h0 m0 h m) (o1 : OB No h0 h m bk1 cs1 202) (e1 : T_heap_Object.E m y1 cs1) {r : Bool} (e : heap_right.j1 y1 b3 = some r) : f151.j1 (heap_right.post No h0 m0 r) (⟨bk1, 0, none⟩ : Addr) b3 h := by
  unfold heap_right.j1 at e
  obtain ⟨Ae1_4, ce1_4, rfl, ke1_4, re1_4⟩ := e1
  refine f151.j1_in ?_
  unfold f151.j1T
  refine split_any_e e (fun c11 e => ?_) (fun c11 e => ?_)
  · cases e
    exact ⟨_, S, rfl⟩
  · refine ⟨_, ldk (k := 1) (Sub.refl _) o1.all rfl, _, rfl, ?_⟩
    refine split_eq_e e (fun c10 e => ?_) (fun c10 e => ?_)
    · refine ⟨_, ldk (k := 4) (Sub.refl _) o1.all rfl, _, _, _, rfl, ?_⟩
      exact heap_right.j2.walk S o1 (show T_heap_Object.E _ y1 [(Value.int .i64 y1.At), (Value.int .i64 y1.Kind), (Value.int .i64 y1.Num), (Value.string y1.Text), (Value.slice Ae1_4 (List.length y1.Parts) ce1_4)] from ⟨_, _, rfl, ke1_4, re1_4⟩) e
    · refine ⟨_, ldk (k := 1) (Sub.refl _) o1.all rfl, _, rfl, ?_⟩
      refine split_eq_e e (fun c9 e => ?_) (fun c9 e => ?_)
      · refine ⟨_, ldk (k := 4) (Sub.refl _) o1.all rfl, _, _, _, rfl, ?_⟩
        exact heap_right.j2.walk S o1 (show T_heap_Object.E _ y1 [(Value.int .i64 y1.At), (Value.int .i64 y1.Kind), (Value.int .i64 y1.Num), (Value.string y1.Text), (Value.slice Ae1_4 (List.length y1.Parts) ce1_4)] from ⟨_, _, rfl, ke1_4, re1_4⟩) e
      · exact heap_right.j2.walk S o1 (show T_heap_Object.E _ y1 [(Value.int .i64 y1.At), (Value.int .i64 y1.Kind), (Value.int .i64 y1.Num), (Value.string y1.Text), (Value.slice Ae1_4 (List.length y1.Parts) ce1_4)] from ⟨_, _, rfl, ke1_4, re1_4⟩) e

noncomputable def heap_right (y0 : T_heap_Object) : Option (Bool) :=
  if ((ByteArray.size y0.Text : Nat) : Int) > (64 : Int) then ((heap_right.j1 y0 true)) else (if (((List.length y0.Parts) : Nat) : Int) > (400 : Int) then ((heap_right.j1 y0 true)) else (if y0.Kind < (1 : Int) then ((heap_right.j1 y0 true)) else ((heap_right.j1 y0 (decide (y0.Kind > (5 : Int)))))))
set_option maxRecDepth 100000 in
theorem heap_right.walk {h m : Heap} {cs0 : List Value} {y0 : T_heap_Object} (s : Sub m h) (e0 : T_heap_Object.E m y0 cs0) {r : Bool} (e : heap_right y0 = some r) : Run Try.prog 151 #[Value.agg cs0.toArray] h (heap_right.post No h m r) := by
  unfold heap_right at e
  obtain ⟨Ae0_4, ce0_4, rfl, ke0_4, re0_4⟩ := e0
  have S : St No h m h m := .refl s
  refine f151.run ?_
  unfold f151.runT
  refine new_in S fun h1 o2 x3 => ?_
  have S4 := S.ext' x3
  have o2 : OB _ _ h1 _ (Array.size h) [(Value.int .i64 y0.At), (Value.int .i64 y0.Kind), (Value.int .i64 y0.Num), (Value.string y0.Text), (Value.slice Ae0_4 (List.length y0.Parts) ce0_4)] 202 := o2
  refine ⟨_, ldk (k := 3) (Sub.refl _) o2.all rfl, _, rfl, ?_⟩
  refine split_dec_e e (fun c8 e => ?_) (fun c8 e => ?_)
  · exact heap_right.j1.walk S4 o2 (show T_heap_Object.E _ y0 [(Value.int .i64 y0.At), (Value.int .i64 y0.Kind), (Value.int .i64 y0.Num), (Value.string y0.Text), (Value.slice Ae0_4 (List.length y0.Parts) ce0_4)] from ⟨_, _, rfl, ke0_4, re0_4⟩) e
  · refine ⟨_, ldk (k := 4) (Sub.refl _) o2.all rfl, _, _, _, rfl, ?_⟩
    refine split_dec_e e (fun c7 e => ?_) (fun c7 e => ?_)
    · exact heap_right.j1.walk S4 o2 (show T_heap_Object.E _ y0 [(Value.int .i64 y0.At), (Value.int .i64 y0.Kind), (Value.int .i64 y0.Num), (Value.string y0.Text), (Value.slice Ae0_4 (List.length y0.Parts) ce0_4)] from ⟨_, _, rfl, ke0_4, re0_4⟩) e
    · refine ⟨_, ldk (k := 1) (Sub.refl _) o2.all rfl, _, rfl, ?_⟩
      refine split_dec_e e (fun c6 e => ?_) (fun c6 e => ?_)
      · exact heap_right.j1.walk S4 o2 (show T_heap_Object.E _ y0 [(Value.int .i64 y0.At), (Value.int .i64 y0.Kind), (Value.int .i64 y0.Num), (Value.string y0.Text), (Value.slice Ae0_4 (List.length y0.Parts) ce0_4)] from ⟨_, _, rfl, ke0_4, re0_4⟩) e
      · refine ⟨_, ldk (k := 1) (Sub.refl _) o2.all rfl, _, rfl, ?_⟩
        exact heap_right.j1.walk S4 o2 (show T_heap_Object.E _ y0 [(Value.int .i64 y0.At), (Value.int .i64 y0.Kind), (Value.int .i64 y0.Num), (Value.string y0.Text), (Value.slice Ae0_4 (List.length y0.Parts) ce0_4)] from ⟨_, _, rfl, ke0_4, re0_4⟩) e

/-! ### 152 roadstead/heap.head -/
def heap_head.post (W : Nat → Prop) (h0 m0 : Heap) (r : Int) (v : Value) (h : Heap) : Prop := ∃ m , St W h0 m0 h m ∧ v = .int .u64 r
noncomputable def heap_head (y0 : T_heap_Object) : Option (Int) :=
  some ((bitsI .or .u64 (bitsI .or .u64 (IntKind.wrap .u64 y0.Kind) (shlI .u64 (IntKind.wrap .u64 ((ByteArray.size y0.Text : Nat) : Int)) (8 : Int))) (shlI .u64 (IntKind.wrap .u64 (((List.length y0.Parts) : Nat) : Int)) (20 : Int))))
set_option maxRecDepth 100000 in
theorem heap_head.walk {h m : Heap} {cs0 : List Value} {y0 : T_heap_Object} (s : Sub m h) (e0 : T_heap_Object.E m y0 cs0) {r : Int} (e : heap_head y0 = some r) : Run Try.prog 152 #[Value.agg cs0.toArray] h (heap_head.post No h m r) := by
  unfold heap_head at e
  obtain ⟨Ae0_4, ce0_4, rfl, ke0_4, re0_4⟩ := e0
  have S : St No h m h m := .refl s
  refine f152.run ?_
  unfold f152.runT
  refine new_in S fun h1 o2 x3 => ?_
  have S4 := S.ext' x3
  have o2 : OB _ _ h1 _ (Array.size h) [(Value.int .i64 y0.At), (Value.int .i64 y0.Kind), (Value.int .i64 y0.Num), (Value.string y0.Text), (Value.slice Ae0_4 (List.length y0.Parts) ce0_4)] 202 := o2
  refine ⟨_, ldk (k := 1) (Sub.refl _) o2.all rfl, _, rfl, ?_⟩
  refine ⟨_, ldk (k := 3) (Sub.refl _) o2.all rfl, _, rfl, ?_⟩
  refine ⟨by decide, ?_⟩
  refine ⟨_, ldk (k := 4) (Sub.refl _) o2.all rfl, _, _, _, rfl, ?_⟩
  refine ⟨by decide, ?_⟩
  cases e
  exact ⟨_, S4, rfl⟩

/-! ### 117 roadstead/heap.Put -/
def heap_Put.post (W : Nat → Prop) (h0 m0 : Heap) (r : (List Int) × Int × Int) (v : Value) (h : Heap) : Prop := ∃ m A0 n0 c0, St W h0 m0 h m ∧ v = .tuple #[.slice A0 n0 c0, .int .i64 r.2.1, .int .i64 r.2.2] ∧ n0 = r.1.length ∧ OS W h0 1 (eInt .u64) h m A0 r.1 c0
inductive heap_Put.l0_k.Pt where
  | l0 (a0 : List Int) (y3 : T_heap_Object) (a7 : List Int) (x8 : Int)
  | l1 (a0 : List Int) (y3 : T_heap_Object) (a7 : List Int) (x8 : Int) (x9 : Int) (x56 : Int)
noncomputable def heap_Put.l0_k.body (go : (p : heap_Put.l0_k.Pt) → Option ((List Int) × Int × Int)) : (p : heap_Put.l0_k.Pt) → Option ((List Int) × Int × Int)
  | .l0 a0 y3 a7 x8 => if x8 < ((ByteArray.size y3.Text : Nat) : Int) then ((go (.l1 a0 y3 a7 x8 (0 : Int) (0 : Int)))) else (Option.bind (ap 8 a7 y3.Parts) fun l99 => some (l99, (((List.length a0) : Nat) : Int), (0 : Int)))
  | .l1 a0 y3 a7 x8 x9 x56 => if x56 < (8 : Int) then (if (IntKind.wrap .i64 (x8 + x56)) < ((ByteArray.size y3.Text : Nat) : Int) then (Option.bind (gb y3.Text (IntKind.wrap .i64 (x8 + x56))) fun y112 => if 0 ≤ (IntKind.wrap .i64 ((8 : Int) * x56)) then ((go (.l1 a0 y3 a7 x8 (bitsI .or .u64 x9 (shlI .u64 (IntKind.wrap .u64 y112) (IntKind.wrap .i64 ((8 : Int) * x56)))) (IntKind.wrap .i64 (x56 + (1 : Int)))))) else none) else ((go (.l1 a0 y3 a7 x8 x9 (IntKind.wrap .i64 (x56 + (1 : Int))))))) else (Option.bind (ap 8 a7 ([x9] : List Int)) fun l130 => (go (.l0 a0 y3 l130 (IntKind.wrap .i64 (x8 + (8 : Int))))))
theorem heap_Put.l0_k.mono : MonoF (β := fun _ => ((List Int) × Int × Int)) heap_Put.l0_k.body := fun f g hfg p => match p with
  | .l0 a0 y3 a7 x8 => LeO.ite ((hfg _)) (LeO.bind (LeO.refl _) fun l99 => LeO.refl _)
  | .l1 a0 y3 a7 x8 x9 x56 => LeO.ite (LeO.ite (LeO.bind (LeO.refl _) fun y112 => LeO.ite ((hfg _)) (LeO.refl _)) ((hfg _))) (LeO.bind (LeO.refl _) fun l130 => (hfg _))
noncomputable def heap_Put.l0_k.go (p : heap_Put.l0_k.Pt) : Option ((List Int) × Int × Int) := fixF (β := fun _ => ((List Int) × Int × Int)) heap_Put.l0_k.body p
noncomputable def heap_Put.l0 (a0 : List Int) (y3 : T_heap_Object) (a7 : List Int) (x8 : Int) : Option ((List Int) × Int × Int) := heap_Put.l0_k.go (.l0 a0 y3 a7 x8)
noncomputable def heap_Put.l1 (a0 : List Int) (y3 : T_heap_Object) (a7 : List Int) (x8 : Int) (x9 : Int) (x56 : Int) : Option ((List Int) × Int × Int) := heap_Put.l0_k.go (.l1 a0 y3 a7 x8 x9 x56)
theorem heap_Put.l0_eq (a0 : List Int) (y3 : T_heap_Object) (a7 : List Int) (x8 : Int) : heap_Put.l0 a0 y3 a7 x8 = if x8 < ((ByteArray.size y3.Text : Nat) : Int) then ((heap_Put.l1 a0 y3 a7 x8 (0 : Int) (0 : Int))) else (Option.bind (ap 8 a7 y3.Parts) fun l99 => some (l99, (((List.length a0) : Nat) : Int), (0 : Int))) := fixF_eq heap_Put.l0_k.mono _
theorem heap_Put.l1_eq (a0 : List Int) (y3 : T_heap_Object) (a7 : List Int) (x8 : Int) (x9 : Int) (x56 : Int) : heap_Put.l1 a0 y3 a7 x8 x9 x56 = if x56 < (8 : Int) then (if (IntKind.wrap .i64 (x8 + x56)) < ((ByteArray.size y3.Text : Nat) : Int) then (Option.bind (gb y3.Text (IntKind.wrap .i64 (x8 + x56))) fun y112 => if 0 ≤ (IntKind.wrap .i64 ((8 : Int) * x56)) then ((heap_Put.l1 a0 y3 a7 x8 (bitsI .or .u64 x9 (shlI .u64 (IntKind.wrap .u64 y112) (IntKind.wrap .i64 ((8 : Int) * x56)))) (IntKind.wrap .i64 (x56 + (1 : Int))))) else none) else ((heap_Put.l1 a0 y3 a7 x8 x9 (IntKind.wrap .i64 (x56 + (1 : Int)))))) else (Option.bind (ap 8 a7 ([x9] : List Int)) fun l130 => (heap_Put.l0 a0 y3 l130 (IntKind.wrap .i64 (x8 + (8 : Int))))) := fixF_eq heap_Put.l0_k.mono _
def heap_Put.l0_k.I : (p : heap_Put.l0_k.Pt) → ((List Int) × Int × Int) → Prop
  | .l0 a0 y3 a7 x8, r => ∀ (h0 m0 h m : Heap) (A0 : Option Addr) (n0 c0 : Nat) (bk3 : Nat) (cs3 : List Value) (A7 : Option Addr) (n7 c7 : Nat) (S : St No h0 m0 h m) (ne0 : n0 = List.length a0) (k0 : List.length a0 ≤ c0) (r0 : Rd 1 (eInt .u64) m A0 a0) (o3 : OB No h0 h m bk3 cs3 202) (e3 : T_heap_Object.E m y3 cs3) (ne7 : n7 = List.length a7) (o7 : OS No h0 1 (eInt .u64) h m A7 a7 c7) (d0_1 : Dj (fb bk3) (fp A7 c7)), f117.l0 (heap_Put.post No h0 m0 r) A0 n0 c0 (⟨bk3, 0, none⟩ : Addr) A7 n7 c7 x8 h
  | .l1 a0 y3 a7 x8 x9 x56, r => ∀ (h0 m0 h m : Heap) (A0 : Option Addr) (n0 c0 : Nat) (bk3 : Nat) (cs3 : List Value) (A7 : Option Addr) (n7 c7 : Nat) (S : St No h0 m0 h m) (ne0 : n0 = List.length a0) (k0 : List.length a0 ≤ c0) (r0 : Rd 1 (eInt .u64) m A0 a0) (o3 : OB No h0 h m bk3 cs3 202) (e3 : T_heap_Object.E m y3 cs3) (ne7 : n7 = List.length a7) (o7 : OS No h0 1 (eInt .u64) h m A7 a7 c7) (d0_1 : Dj (fb bk3) (fp A7 c7)), f117.l1 (heap_Put.post No h0 m0 r) A0 n0 c0 (⟨bk3, 0, none⟩ : Addr) A7 n7 c7 x8 x9 x56 h
set_option maxRecDepth 100000 in
theorem heap_Put.l0_k.step_l0 (go : (p : heap_Put.l0_k.Pt) → Option ((List Int) × Int × Int)) (ih : ∀ p r, go p = some r → heap_Put.l0_k.I p r) (a0 : List Int) (y3 : T_heap_Object) (a7 : List Int) (x8 : Int) (r : (List Int) × Int × Int) (e : heap_Put.l0_k.body go (.l0 a0 y3 a7 x8) = some r) : heap_Put.l0_k.I (.l0 a0 y3 a7 x8) r := by
  unfold heap_Put.l0_k.body at e
  intro h0 m0 h m A0 n0 c0 bk3 cs3 A7 n7 c7 S ne0 k0 r0 o3 e3 ne7 o7 d0_1
  subst ne0
  obtain ⟨Ae3_4, ce3_4, rfl, ke3_4, re3_4⟩ := e3
  subst ne7
  refine f117.l0_in ?_
  unfold f117.l0T
  refine ⟨_, ldk (k := 3) (Sub.refl _) o3.all rfl, _, rfl, ?_⟩
  refine split_dec_e e (fun c111 e => ?_) (fun c111 e => ?_)
  · exact (ih _ _ e) _ _ _ _ _ _ _ _ _ _ _ _ S rfl k0 r0 o3 (show T_heap_Object.E _ y3 [(Value.int .i64 y3.At), (Value.int .i64 y3.Kind), (Value.int .i64 y3.Num), (Value.string y3.Text), (Value.slice Ae3_4 (List.length y3.Parts) ce3_4)] from ⟨_, _, rfl, ke3_4, re3_4⟩) rfl o7 d0_1
  · refine ⟨_, ldk (k := 4) (Sub.refl _) o3.all rfl, _, _, _, rfl, ?_⟩
    obtain ⟨l99, g100, e⟩ := bind_e e
    refine o7.app (tell_int .u64) S rfl rfl (Rd.srcE re3_4 (tell_int .u64) S.s rfl) (by decide) g100 fun A101 c102 h103 o104 t105 n106 => ?_
    refine ⟨_, _, _, rfl, ?_⟩
    have d108 : Dj (fb bk3) (fp A101 c102) := Dj.app d0_1 o3.lt n106
    have S109 := S.then t105 (fun i _ hi => o7.wr i hi)
    have o110 := o3.step t105 (d0_1).symm
    cases e
    exact ⟨_, _, _, _, S109, rfl, rfl, o104⟩
set_option maxRecDepth 100000 in
theorem heap_Put.l0_k.step_l1 (go : (p : heap_Put.l0_k.Pt) → Option ((List Int) × Int × Int)) (ih : ∀ p r, go p = some r → heap_Put.l0_k.I p r) (a0 : List Int) (y3 : T_heap_Object) (a7 : List Int) (x8 : Int) (x9 : Int) (x56 : Int) (r : (List Int) × Int × Int) (e : heap_Put.l0_k.body go (.l1 a0 y3 a7 x8 x9 x56) = some r) : heap_Put.l0_k.I (.l1 a0 y3 a7 x8 x9 x56) r := by
  unfold heap_Put.l0_k.body at e
  intro h0 m0 h m A0 n0 c0 bk3 cs3 A7 n7 c7 S ne0 k0 r0 o3 e3 ne7 o7 d0_1
  subst ne0
  obtain ⟨Ae3_4, ce3_4, rfl, ke3_4, re3_4⟩ := e3
  subst ne7
  refine f117.l1_in ?_
  unfold f117.l1T
  refine split_dec_e e (fun c144 e => ?_) (fun c144 e => ?_)
  · refine ⟨_, ldk (k := 3) (Sub.refl _) o3.all rfl, _, rfl, ?_⟩
    refine split_dec_e e (fun c119 e => ?_) (fun c119 e => ?_)
    · refine ⟨_, ldk (k := 3) (Sub.refl _) o3.all rfl, _, rfl, ?_⟩
      obtain ⟨y112, g113, e⟩ := bind_e e
      obtain ⟨q114, b115, q116, q117⟩ := gb_e g113
      refine ⟨q114, _, q116, ?_⟩
      try rw [← q117]
      obtain ⟨g118, e⟩ := guard_e e
      refine ⟨g118, ?_⟩
      exact (ih _ _ e) _ _ _ _ _ _ _ _ _ _ _ _ S rfl k0 r0 o3 (show T_heap_Object.E _ y3 [(Value.int .i64 y3.At), (Value.int .i64 y3.Kind), (Value.int .i64 y3.Num), (Value.string y3.Text), (Value.slice Ae3_4 (List.length y3.Parts) ce3_4)] from ⟨_, _, rfl, ke3_4, re3_4⟩) rfl o7 d0_1
    · exact (ih _ _ e) _ _ _ _ _ _ _ _ _ _ _ _ S rfl k0 r0 o3 (show T_heap_Object.E _ y3 [(Value.int .i64 y3.At), (Value.int .i64 y3.Kind), (Value.int .i64 y3.Num), (Value.string y3.Text), (Value.slice Ae3_4 (List.length y3.Parts) ce3_4)] from ⟨_, _, rfl, ke3_4, re3_4⟩) rfl o7 d0_1
  · refine new_in S fun h120 o121 x122 => ?_
    have d125 : Dj (fb bk3) (fb (Array.size h)) := Dj.new o3.lt
    have d126 : Dj (fp A7 c7) (fb (Array.size h)) := Dj.new o7.lt
    have o127 := o3.ext x122
    have o128 := o7.ext (tell_int .u64) S.s x122
    have S123 := S.ext' x122
    have o121 : OB _ _ h120 _ (Array.size h) [(Value.int .u64 x9)] 98 := o121
    have o129 : OS _ _ 1 (eInt .u64) h120 m (some ⟨(Array.size h), 0, none⟩) ([x9] : List Int) 1 := OB.row o121 (CsE.cons (c1 := [(Value.int .u64 x9)]) rfl rfl CsE.nil) rfl
    obtain ⟨l130, g131, e⟩ := bind_e e
    refine o128.app (tell_int .u64) S123 rfl rfl (o129.srcE rfl) (by decide) g131 fun A132 c133 h134 o135 t136 n137 => ?_
    refine ⟨_, _, _, rfl, ?_⟩
    have d139 : Dj (fb bk3) (fp A132 c133) := Dj.app d0_1 o127.lt n137
    have d140 : Dj (fp (some ⟨(Array.size h), 0, none⟩) 1) (fp A132 c133) := Dj.app ((d126.row)).symm o129.lt n137
    have S141 := S123.then t136 (fun i _ hi => o128.wr i hi)
    have o142 := o127.step t136 (d0_1).symm
    have o143 := o129.step (tell_int .u64) t136 (d126.row)
    exact (ih _ _ e) _ _ _ _ _ _ _ _ _ _ _ _ S141 rfl k0 r0 o142 (show T_heap_Object.E _ y3 [(Value.int .i64 y3.At), (Value.int .i64 y3.Kind), (Value.int .i64 y3.Num), (Value.string y3.Text), (Value.slice Ae3_4 (List.length y3.Parts) ce3_4)] from ⟨_, _, rfl, ke3_4, re3_4⟩) rfl o135 d139
theorem heap_Put.l0_k.all {p : heap_Put.l0_k.Pt} {r : ((List Int) × Int × Int)} (e : heap_Put.l0_k.go p = some r) : heap_Put.l0_k.I p r := fixF_ind (β := fun _ => ((List Int) × Int × Int)) heap_Put.l0_k.mono (I := heap_Put.l0_k.I) (fun go ih p r e => match p with
  | .l0 a0 y3 a7 x8 => heap_Put.l0_k.step_l0 go ih a0 y3 a7 x8 r e
  | .l1 a0 y3 a7 x8 x9 x56 => heap_Put.l0_k.step_l1 go ih a0 y3 a7 x8 x9 x56 r e
  ) e
theorem heap_Put.l0.walk {h0 m0 h m : Heap} {A0 : Option Addr} {n0 c0 : Nat} {bk3 : Nat} {cs3 : List Value} {A7 : Option Addr} {n7 c7 : Nat} {a0 : List Int} {y3 : T_heap_Object} {a7 : List Int} {x8 : Int} (S : St No h0 m0 h m) (ne0 : n0 = List.length a0) (k0 : List.length a0 ≤ c0) (r0 : Rd 1 (eInt .u64) m A0 a0) (o3 : OB No h0 h m bk3 cs3 202) (e3 : T_heap_Object.E m y3 cs3) (ne7 : n7 = List.length a7) (o7 : OS No h0 1 (eInt .u64) h m A7 a7 c7) (d0_1 : Dj (fb bk3) (fp A7 c7)) {r : (List Int) × Int × Int} (e : heap_Put.l0 a0 y3 a7 x8 = some r) : f117.l0 (heap_Put.post No h0 m0 r) A0 n0 c0 (⟨bk3, 0, none⟩ : Addr) A7 n7 c7 x8 h := heap_Put.l0_k.all (p := .l0 a0 y3 a7 x8) e h0 m0 h m A0 n0 c0 bk3 cs3 A7 n7 c7 S ne0 k0 r0 o3 e3 ne7 o7 d0_1
theorem heap_Put.l1.walk {h0 m0 h m : Heap} {A0 : Option Addr} {n0 c0 : Nat} {bk3 : Nat} {cs3 : List Value} {A7 : Option Addr} {n7 c7 : Nat} {a0 : List Int} {y3 : T_heap_Object} {a7 : List Int} {x8 : Int} {x9 : Int} {x56 : Int} (S : St No h0 m0 h m) (ne0 : n0 = List.length a0) (k0 : List.length a0 ≤ c0) (r0 : Rd 1 (eInt .u64) m A0 a0) (o3 : OB No h0 h m bk3 cs3 202) (e3 : T_heap_Object.E m y3 cs3) (ne7 : n7 = List.length a7) (o7 : OS No h0 1 (eInt .u64) h m A7 a7 c7) (d0_1 : Dj (fb bk3) (fp A7 c7)) {r : (List Int) × Int × Int} (e : heap_Put.l1 a0 y3 a7 x8 x9 x56 = some r) : f117.l1 (heap_Put.post No h0 m0 r) A0 n0 c0 (⟨bk3, 0, none⟩ : Addr) A7 n7 c7 x8 x9 x56 h := heap_Put.l0_k.all (p := .l1 a0 y3 a7 x8 x9 x56) e h0 m0 h m A0 n0 c0 bk3 cs3 A7 n7 c7 S ne0 k0 r0 o3 e3 ne7 o7 d0_1

noncomputable def heap_Put.j0 (a0 : List Int) (y3 : T_heap_Object) (a7 : List Int) : Option ((List Int) × Int × Int) :=
  (heap_Put.l0 a0 y3 a7 (0 : Int))
set_option maxRecDepth 100000 in
theorem heap_Put.j0.walk {h0 m0 h m : Heap} {A0 : Option Addr} {n0 c0 : Nat} {bk3 : Nat} {cs3 : List Value} {A7 : Option Addr} {n7 c7 : Nat} {a0 : List Int} {y3 : T_heap_Object} {a7 : List Int} (S : St No h0 m0 h m) (ne0 : n0 = List.length a0) (k0 : List.length a0 ≤ c0) (r0 : Rd 1 (eInt .u64) m A0 a0) (o3 : OB No h0 h m bk3 cs3 202) (e3 : T_heap_Object.E m y3 cs3) (ne7 : n7 = List.length a7) (o7 : OS No h0 1 (eInt .u64) h m A7 a7 c7) (d0_1 : Dj (fb bk3) (fp A7 c7)) {r : (List Int) × Int × Int} (e : heap_Put.j0 a0 y3 a7 = some r) : f117.j0 (heap_Put.post No h0 m0 r) A0 n0 c0 (⟨bk3, 0, none⟩ : Addr) A7 n7 c7 h := by
  unfold heap_Put.j0 at e
  subst ne0
  obtain ⟨Ae3_4, ce3_4, rfl, ke3_4, re3_4⟩ := e3
  subst ne7
  refine f117.j0_in ?_
  unfold f117.j0T
  exact heap_Put.l0.walk S rfl k0 r0 o3 (show T_heap_Object.E _ y3 [(Value.int .i64 y3.At), (Value.int .i64 y3.Kind), (Value.int .i64 y3.Num), (Value.string y3.Text), (Value.slice Ae3_4 (List.length y3.Parts) ce3_4)] from ⟨_, _, rfl, ke3_4, re3_4⟩) rfl o7 d0_1 e

noncomputable def heap_Put.j1 (a0 : List Int) (y3 : T_heap_Object) (a7 : List Int) (b42 : Bool) : Option ((List Int) × Int × Int) :=
  if b42 = true then (Option.bind (ap 8 a7 ([(IntKind.wrap .u64 y3.Num)] : List Int)) fun l84 => (heap_Put.j0 a0 y3 l84)) else ((heap_Put.j0 a0 y3 a7))
set_option maxRecDepth 100000 in
theorem heap_Put.j1.walk {h0 m0 h m : Heap} {A0 : Option Addr} {n0 c0 : Nat} {bk3 : Nat} {cs3 : List Value} {A7 : Option Addr} {n7 c7 : Nat} {a0 : List Int} {y3 : T_heap_Object} {a7 : List Int} {b42 : Bool} (S : St No h0 m0 h m) (ne0 : n0 = List.length a0) (k0 : List.length a0 ≤ c0) (r0 : Rd 1 (eInt .u64) m A0 a0) (o3 : OB No h0 h m bk3 cs3 202) (e3 : T_heap_Object.E m y3 cs3) (ne7 : n7 = List.length a7) (o7 : OS No h0 1 (eInt .u64) h m A7 a7 c7) (d0_1 : Dj (fb bk3) (fp A7 c7)) {r : (List Int) × Int × Int} (e : heap_Put.j1 a0 y3 a7 b42 = some r) : f117.j1 (heap_Put.post No h0 m0 r) A0 n0 c0 (⟨bk3, 0, none⟩ : Addr) A7 n7 c7 b42 h := by
  unfold heap_Put.j1 at e
  subst ne0
  obtain ⟨Ae3_4, ce3_4, rfl, ke3_4, re3_4⟩ := e3
  subst ne7
  refine f117.j1_in ?_
  unfold f117.j1T
  refine split_any_e e (fun c98 e => ?_) (fun c98 e => ?_)
  · refine ⟨_, ldk (k := 2) (Sub.refl _) o3.all rfl, _, rfl, ?_⟩
    refine new_in S fun h74 o75 x76 => ?_
    have d79 : Dj (fb bk3) (fb (Array.size h)) := Dj.new o3.lt
    have d80 : Dj (fp A7 c7) (fb (Array.size h)) := Dj.new o7.lt
    have o81 := o3.ext x76
    have o82 := o7.ext (tell_int .u64) S.s x76
    have S77 := S.ext' x76
    have o75 : OB _ _ h74 _ (Array.size h) [(Value.int .u64 (IntKind.wrap .u64 y3.Num))] 98 := o75
    have o83 : OS _ _ 1 (eInt .u64) h74 m (some ⟨(Array.size h), 0, none⟩) ([(IntKind.wrap .u64 y3.Num)] : List Int) 1 := OB.row o75 (CsE.cons (c1 := [(Value.int .u64 (IntKind.wrap .u64 y3.Num))]) rfl rfl CsE.nil) rfl
    obtain ⟨l84, g85, e⟩ := bind_e e
    refine o82.app (tell_int .u64) S77 rfl rfl (o83.srcE rfl) (by decide) g85 fun A86 c87 h88 o89 t90 n91 => ?_
    refine ⟨_, _, _, rfl, ?_⟩
    have d93 : Dj (fb bk3) (fp A86 c87) := Dj.app d0_1 o81.lt n91
    have d94 : Dj (fp (some ⟨(Array.size h), 0, none⟩) 1) (fp A86 c87) := Dj.app ((d80.row)).symm o83.lt n91
    have S95 := S77.then t90 (fun i _ hi => o82.wr i hi)
    have o96 := o81.step t90 (d0_1).symm
    have o97 := o83.step (tell_int .u64) t90 (d80.row)
    exact heap_Put.j0.walk S95 rfl k0 r0 o96 (show T_heap_Object.E _ y3 [(Value.int .i64 y3.At), (Value.int .i64 y3.Kind), (Value.int .i64 y3.Num), (Value.string y3.Text), (Value.slice Ae3_4 (List.length y3.Parts) ce3_4)] from ⟨_, _, rfl, ke3_4, re3_4⟩) rfl o89 d93 e
  · exact heap_Put.j0.walk S rfl k0 r0 o3 (show T_heap_Object.E _ y3 [(Value.int .i64 y3.At), (Value.int .i64 y3.Kind), (Value.int .i64 y3.Num), (Value.string y3.Text), (Value.slice Ae3_4 (List.length y3.Parts) ce3_4)] from ⟨_, _, rfl, ke3_4, re3_4⟩) rfl o7 d0_1 e

noncomputable def heap_Put (a0 : List Int) (y1 : T_heap_Object) : Option ((List Int) × Int × Int) :=
  Option.bind (heap_right y1) fun y6 => if y6 = true then (Option.bind (heap_room y1.Kind ((ByteArray.size y1.Text : Nat) : Int) (((List.length y1.Parts) : Nat) : Int)) fun y13 => if (((List.length a0) : Nat) : Int) > (IntKind.wrap .i64 ((4000 : Int) - y13)) then (some (([] : List Int), (0 : Int), (6 : Int))) else (Option.bind (slices_Clone_53 a0) fun y22 => Option.bind (heap_head y1) fun y37 => Option.bind (ap 8 y22 ([y37] : List Int)) fun l55 => if y1.Kind = (1 : Int) then ((heap_Put.j1 a0 y1 l55 true)) else ((heap_Put.j1 a0 y1 l55 (y1.Kind == (4 : Int)))))) else (some (([] : List Int), (0 : Int), (1 : Int)))
set_option maxRecDepth 100000 in
theorem heap_Put.walk {h m : Heap} {A0 : Option Addr} {n0 c0 : Nat} {cs1 : List Value} {a0 : List Int} {y1 : T_heap_Object} (s : Sub m h) (ne0 : n0 = List.length a0) (k0 : List.length a0 ≤ c0) (r0 : Rd 1 (eInt .u64) m A0 a0) (e1 : T_heap_Object.E m y1 cs1) {r : (List Int) × Int × Int} (e : heap_Put a0 y1 = some r) : Run Try.prog 117 #[Value.slice A0 n0 c0, Value.agg cs1.toArray] h (heap_Put.post No h m r) := by
  unfold heap_Put at e
  subst ne0
  obtain ⟨Ae1_4, ce1_4, rfl, ke1_4, re1_4⟩ := e1
  have S : St No h m h m := .refl s
  refine f117.run ?_
  unfold f117.runT
  refine new_in S fun h1 o2 x3 => ?_
  have S4 := S.ext' x3
  have o2 : OB _ _ h1 _ (Array.size h) [(Value.int .i64 y1.At), (Value.int .i64 y1.Kind), (Value.int .i64 y1.Num), (Value.string y1.Text), (Value.slice Ae1_4 (List.length y1.Parts) ce1_4)] 202 := o2
  refine ⟨_, ldA (Sub.refl _) o2.all, ?_⟩
  obtain ⟨y6, g7, e⟩ := bind_e e
  refine (heap_right.walk S4.s (show T_heap_Object.E _ y1 [(Value.int .i64 y1.At), (Value.int .i64 y1.Kind), (Value.int .i64 y1.Num), (Value.string y1.Text), (Value.slice Ae1_4 (List.length y1.Parts) ce1_4)] from ⟨_, _, rfl, ke1_4, re1_4⟩) g7).mono ?_
  rintro _ h8 ⟨m9, T10, rfl⟩
  have S11 := S4.grow T10
  have o12 := o2.step T10 Dj.no
  refine ⟨_, rfl, ?_⟩
  refine split_not ?_
  refine split_any_e e (fun c73 e => ?_) (fun c73 e => ?_)
  · refine ⟨_, ldk (k := 1) (Sub.refl _) o12.all rfl, _, rfl, ?_⟩
    refine ⟨_, ldk (k := 3) (Sub.refl _) o12.all rfl, _, rfl, ?_⟩
    refine ⟨_, ldk (k := 4) (Sub.refl _) o12.all rfl, _, _, _, rfl, ?_⟩
    obtain ⟨y13, g14, e⟩ := bind_e e
    refine (heap_room.walk S11.s  g14).mono ?_
    rintro _ h15 ⟨m16, T17, rfl⟩
    have S18 := S11.grow T17
    have o19 := o12.step T17 Dj.no
    refine ⟨_, rfl, ?_⟩
    refine split_dec_e e (fun c70 e => ?_) (fun c70 e => ?_)
    · have o21 : OS No h 1 (eInt .u64) h15 m16 none ([] : List Int) 0 := .inl ⟨rfl, rfl⟩
      cases e
      exact ⟨_, _, _, _, S18, rfl, rfl, o21⟩
    · refine ⟨_, ldA (Sub.refl _) o19.all, ?_⟩
      obtain ⟨y22, g23, e⟩ := bind_e e
      refine (slices_Clone_53.walk S18.s rfl k0 (r0.sub (tell_int .u64) (T10.up.trans T17.up)) g23).mono ?_
      rintro _ h24 ⟨m25, A27, n28, c29, T26, rfl, ne30, o31⟩
      subst ne30
      have S33 := S18.grow T26
      have o34 := o19.step T26 Dj.no
      have d36 : Dj (fb (Array.size h)) (fp A27 c29) := fun i h1 h2 => absurd (o19.lt i h1) (Nat.not_lt.2 ((o31.new i h2).elim (fun h => h.elim) id))
      have o35 := o31.take S18 (fun _ h => h.elim)
      refine ⟨_, _, _, rfl, ?_⟩
      refine ⟨T26.ext, ?_⟩
      obtain ⟨y37, g38, e⟩ := bind_e e
      refine (heap_head.walk S33.s (show T_heap_Object.E _ y1 [(Value.int .i64 y1.At), (Value.int .i64 y1.Kind), (Value.int .i64 y1.Num), (Value.string y1.Text), (Value.slice Ae1_4 (List.length y1.Parts) ce1_4)] from ⟨_, _, rfl, ke1_4, (re1_4.sub (tell_int .u64) (T10.up.trans (T17.up.trans T26.up)))⟩) g38).mono ?_
      rintro _ h39 ⟨m40, T41, rfl⟩
      have S42 := S33.grow T41
      have o43 := o34.step T41 Dj.no
      have o44 := o35.step (tell_int .u64) T41 Dj.no
      refine ⟨_, rfl, ?_⟩
      refine new_in S42 fun h45 o46 x47 => ?_
      have d50 : Dj (fb (Array.size h)) (fb (Array.size h39)) := Dj.new o43.lt
      have d51 : Dj (fp A27 c29) (fb (Array.size h39)) := Dj.new o44.lt
      have o52 := o43.ext x47
      have o53 := o44.ext (tell_int .u64) S42.s x47
      have S48 := S42.ext' x47
      have o46 : OB _ _ h45 _ (Array.size h39) [(Value.int .u64 y37)] 98 := o46
      have o54 : OS _ _ 1 (eInt .u64) h45 m40 (some ⟨(Array.size h39), 0, none⟩) ([y37] : List Int) 1 := OB.row o46 (CsE.cons (c1 := [(Value.int .u64 y37)]) rfl rfl CsE.nil) rfl
      obtain ⟨l55, g56, e⟩ := bind_e e
      refine o53.app (tell_int .u64) S48 rfl rfl (o54.srcE rfl) (by decide) g56 fun A57 c58 h59 o60 t61 n62 => ?_
      refine ⟨_, _, _, rfl, ?_⟩
      have d64 : Dj (fb (Array.size h)) (fp A57 c58) := Dj.app d36 o52.lt n62
      have d65 : Dj (fp (some ⟨(Array.size h39), 0, none⟩) 1) (fp A57 c58) := Dj.app ((d51.row)).symm o54.lt n62
      have S66 := S48.then t61 (fun i _ hi => o53.wr i hi)
      have o67 := o52.step t61 (d36).symm
      have o68 := o54.step (tell_int .u64) t61 (d51.row)
      refine ⟨_, ldk (k := 1) (Sub.refl _) o67.all rfl, _, rfl, ?_⟩
      refine split_eq_e e (fun c69 e => ?_) (fun c69 e => ?_)
      · exact heap_Put.j1.walk S66 rfl k0 (r0.sub (tell_int .u64) (T10.up.trans (T17.up.trans (T26.up.trans T41.up)))) o67 (show T_heap_Object.E _ y1 [(Value.int .i64 y1.At), (Value.int .i64 y1.Kind), (Value.int .i64 y1.Num), (Value.string y1.Text), (Value.slice Ae1_4 (List.length y1.Parts) ce1_4)] from ⟨_, _, rfl, ke1_4, (re1_4.sub (tell_int .u64) (T10.up.trans (T17.up.trans (T26.up.trans T41.up))))⟩) rfl o60 d64 e
      · refine ⟨_, ldk (k := 1) (Sub.refl _) o67.all rfl, _, rfl, ?_⟩
        exact heap_Put.j1.walk S66 rfl k0 (r0.sub (tell_int .u64) (T10.up.trans (T17.up.trans (T26.up.trans T41.up)))) o67 (show T_heap_Object.E _ y1 [(Value.int .i64 y1.At), (Value.int .i64 y1.Kind), (Value.int .i64 y1.Num), (Value.string y1.Text), (Value.slice Ae1_4 (List.length y1.Parts) ce1_4)] from ⟨_, _, rfl, ke1_4, (re1_4.sub (tell_int .u64) (T10.up.trans (T17.up.trans (T26.up.trans T41.up))))⟩) rfl o60 d64 e
  · have o72 : OS No h 1 (eInt .u64) h8 m9 none ([] : List Int) 0 := .inl ⟨rfl, rfl⟩
    cases e
    exact ⟨_, _, _, _, S11, rfl, rfl, o72⟩

/-! ### 66 roadstead/heap.Build -/
def heap_Build.post (W : Nat → Prop) (h0 m0 : Heap) (r : (List Int) × Int × Int) (v : Value) (h : Heap) : Prop := ∃ m A0 n0 c0, St W h0 m0 h m ∧ v = .tuple #[.slice A0 n0 c0, .int .u64 r.2.1, .int .i64 r.2.2] ∧ n0 = r.1.length ∧ OS W h0 1 (eInt .u64) h m A0 r.1 c0
inductive heap_Build_k.Pt where
  | f (a0 : List Int) (y1 : T_api_Value)
  | j0 (a0 : List Int) (y3 : T_api_Value) (x9_0 : Int) (x9_1 : Int) (x9_2 : Int) (s9_3 : ByteArray) (a9_4 : List Int)
  | j2 (a0 : List Int) (y3 : T_api_Value) (x9_0 : Int) (x9_1 : Int) (x9_2 : Int) (s9_3 : ByteArray) (a9_4 : List Int) (b61 : Bool)
  | j1 (a0 : List Int) (y3 : T_api_Value) (x9_0 : Int) (x9_1 : Int) (x9_2 : Int) (s9_3 : ByteArray) (a9_4 : List Int)
  | l0 (a0 : List Int) (x9_0 : Int) (x9_1 : Int) (x9_2 : Int) (s9_3 : ByteArray) (a9_4 : List Int) (a63 : List T_api_Value) (x64 : Int) (x65 : Int)
noncomputable def heap_Build_k.body (go : (p : heap_Build_k.Pt) → Option ((List Int) × Int × Int)) : (p : heap_Build_k.Pt) → Option ((List Int) × Int × Int)
  | .f a0 y1 => Option.bind (term_Of y1) fun y6 => if y6.2 = true then (Option.bind (slices_Clone_53 a0) fun y13 => some (y13, y6.1, (0 : Int))) else (if y1.Kind = (2 : Int) then ((go (.j0 a0 y1 (0 : Int) (1 : Int) y1.Num y1.Text ([] : List Int)))) else (if y1.Kind = (4 : Int) then ((go (.j0 a0 y1 (0 : Int) (2 : Int) (0 : Int) y1.Text ([] : List Int)))) else (if y1.Kind = (5 : Int) then ((go (.j0 a0 y1 (0 : Int) (3 : Int) (0 : Int) y1.Text ([] : List Int)))) else (if y1.Kind = (7 : Int) then ((go (.j0 a0 y1 (0 : Int) (4 : Int) y1.Num y1.Text ([] : List Int)))) else (if y1.Kind = (8 : Int) then ((go (.j0 a0 y1 (0 : Int) (5 : Int) (0 : Int) y1.Text ([] : List Int)))) else (some (([] : List Int), (0 : Int), (1 : Int))))))))
  | .j0 a0 y3 x9_0 x9_1 x9_2 s9_3 a9_4 => if y3.Num = (0 : Int) then ((go (.j2 a0 y3 x9_0 x9_1 x9_2 s9_3 a9_4 false))) else ((go (.j2 a0 y3 x9_0 x9_1 x9_2 s9_3 a9_4 (x9_2 == (0 : Int)))))
  | .j2 a0 y3 x9_0 x9_1 x9_2 s9_3 a9_4 b61 => if b61 = true then (some (([] : List Int), (0 : Int), (1 : Int))) else ((go (.j1 a0 y3 x9_0 x9_1 x9_2 s9_3 a9_4)))
  | .j1 a0 y3 x9_0 x9_1 x9_2 s9_3 a9_4 => (go (.l0 a0 x9_0 x9_1 x9_2 s9_3 a9_4 y3.Args (((List.length y3.Args) : Nat) : Int) (0 : Int)))
  | .l0 a0 x9_0 x9_1 x9_2 s9_3 a9_4 a63 x64 x65 => if x65 < x64 then (Option.bind (gi a63 x65) fun y161 => Option.bind ((go (.f a0 y161))) fun y184 => if y184.2.2 = (0 : Int) then (Option.bind (ap 8 a9_4 ([y184.2.1] : List Int)) fun l219 => (go (.l0 y184.1 x9_0 x9_1 x9_2 s9_3 l219 a63 x64 (IntKind.wrap .i64 (x65 + (1 : Int)))))) else (some (([] : List Int), (0 : Int), y184.2.2))) else (Option.bind (heap_Put a0 (T_heap_Object.mk x9_0 x9_1 x9_2 s9_3 a9_4)) fun y266 => if y266.2.2 = (0 : Int) then (Option.bind (term_Word (4 : Int) y266.2.1) fun y283 => some (y266.1, y283.1, y283.2)) else (some (([] : List Int), (0 : Int), y266.2.2)))
theorem heap_Build_k.mono : MonoF (β := fun _ => ((List Int) × Int × Int)) heap_Build_k.body := fun f g hfg p => match p with
  | .f a0 y1 => LeO.bind (LeO.refl _) fun y6 => LeO.ite (LeO.bind (LeO.refl _) fun y13 => LeO.refl _) (LeO.ite ((hfg _)) (LeO.ite ((hfg _)) (LeO.ite ((hfg _)) (LeO.ite ((hfg _)) (LeO.ite ((hfg _)) (LeO.refl _))))))
  | .j0 a0 y3 x9_0 x9_1 x9_2 s9_3 a9_4 => LeO.ite ((hfg _)) ((hfg _))
  | .j2 a0 y3 x9_0 x9_1 x9_2 s9_3 a9_4 b61 => LeO.ite (LeO.refl _) ((hfg _))
  | .j1 a0 y3 x9_0 x9_1 x9_2 s9_3 a9_4 => (hfg _)
  | .l0 a0 x9_0 x9_1 x9_2 s9_3 a9_4 a63 x64 x65 => LeO.ite (LeO.bind (LeO.refl _) fun y161 => LeO.bind ((hfg _)) fun y184 => LeO.ite (LeO.bind (LeO.refl _) fun l219 => (hfg _)) (LeO.refl _)) (LeO.bind (LeO.refl _) fun y266 => LeO.ite (LeO.bind (LeO.refl _) fun y283 => LeO.refl _) (LeO.refl _))
noncomputable def heap_Build_k.go (p : heap_Build_k.Pt) : Option ((List Int) × Int × Int) := fixF (β := fun _ => ((List Int) × Int × Int)) heap_Build_k.body p
noncomputable def heap_Build (a0 : List Int) (y1 : T_api_Value) : Option ((List Int) × Int × Int) := heap_Build_k.go (.f a0 y1)
noncomputable def heap_Build.j0 (a0 : List Int) (y3 : T_api_Value) (x9_0 : Int) (x9_1 : Int) (x9_2 : Int) (s9_3 : ByteArray) (a9_4 : List Int) : Option ((List Int) × Int × Int) := heap_Build_k.go (.j0 a0 y3 x9_0 x9_1 x9_2 s9_3 a9_4)
noncomputable def heap_Build.j2 (a0 : List Int) (y3 : T_api_Value) (x9_0 : Int) (x9_1 : Int) (x9_2 : Int) (s9_3 : ByteArray) (a9_4 : List Int) (b61 : Bool) : Option ((List Int) × Int × Int) := heap_Build_k.go (.j2 a0 y3 x9_0 x9_1 x9_2 s9_3 a9_4 b61)
noncomputable def heap_Build.j1 (a0 : List Int) (y3 : T_api_Value) (x9_0 : Int) (x9_1 : Int) (x9_2 : Int) (s9_3 : ByteArray) (a9_4 : List Int) : Option ((List Int) × Int × Int) := heap_Build_k.go (.j1 a0 y3 x9_0 x9_1 x9_2 s9_3 a9_4)
noncomputable def heap_Build.l0 (a0 : List Int) (x9_0 : Int) (x9_1 : Int) (x9_2 : Int) (s9_3 : ByteArray) (a9_4 : List Int) (a63 : List T_api_Value) (x64 : Int) (x65 : Int) : Option ((List Int) × Int × Int) := heap_Build_k.go (.l0 a0 x9_0 x9_1 x9_2 s9_3 a9_4 a63 x64 x65)
theorem heap_Build_eq (a0 : List Int) (y1 : T_api_Value) : heap_Build a0 y1 = Option.bind (term_Of y1) fun y6 => if y6.2 = true then (Option.bind (slices_Clone_53 a0) fun y13 => some (y13, y6.1, (0 : Int))) else (if y1.Kind = (2 : Int) then ((heap_Build.j0 a0 y1 (0 : Int) (1 : Int) y1.Num y1.Text ([] : List Int))) else (if y1.Kind = (4 : Int) then ((heap_Build.j0 a0 y1 (0 : Int) (2 : Int) (0 : Int) y1.Text ([] : List Int))) else (if y1.Kind = (5 : Int) then ((heap_Build.j0 a0 y1 (0 : Int) (3 : Int) (0 : Int) y1.Text ([] : List Int))) else (if y1.Kind = (7 : Int) then ((heap_Build.j0 a0 y1 (0 : Int) (4 : Int) y1.Num y1.Text ([] : List Int))) else (if y1.Kind = (8 : Int) then ((heap_Build.j0 a0 y1 (0 : Int) (5 : Int) (0 : Int) y1.Text ([] : List Int))) else (some (([] : List Int), (0 : Int), (1 : Int)))))))) := fixF_eq heap_Build_k.mono _
theorem heap_Build.j0_eq (a0 : List Int) (y3 : T_api_Value) (x9_0 : Int) (x9_1 : Int) (x9_2 : Int) (s9_3 : ByteArray) (a9_4 : List Int) : heap_Build.j0 a0 y3 x9_0 x9_1 x9_2 s9_3 a9_4 = if y3.Num = (0 : Int) then ((heap_Build.j2 a0 y3 x9_0 x9_1 x9_2 s9_3 a9_4 false)) else ((heap_Build.j2 a0 y3 x9_0 x9_1 x9_2 s9_3 a9_4 (x9_2 == (0 : Int)))) := fixF_eq heap_Build_k.mono _
theorem heap_Build.j2_eq (a0 : List Int) (y3 : T_api_Value) (x9_0 : Int) (x9_1 : Int) (x9_2 : Int) (s9_3 : ByteArray) (a9_4 : List Int) (b61 : Bool) : heap_Build.j2 a0 y3 x9_0 x9_1 x9_2 s9_3 a9_4 b61 = if b61 = true then (some (([] : List Int), (0 : Int), (1 : Int))) else ((heap_Build.j1 a0 y3 x9_0 x9_1 x9_2 s9_3 a9_4)) := fixF_eq heap_Build_k.mono _
theorem heap_Build.j1_eq (a0 : List Int) (y3 : T_api_Value) (x9_0 : Int) (x9_1 : Int) (x9_2 : Int) (s9_3 : ByteArray) (a9_4 : List Int) : heap_Build.j1 a0 y3 x9_0 x9_1 x9_2 s9_3 a9_4 = (heap_Build.l0 a0 x9_0 x9_1 x9_2 s9_3 a9_4 y3.Args (((List.length y3.Args) : Nat) : Int) (0 : Int)) := fixF_eq heap_Build_k.mono _
theorem heap_Build.l0_eq (a0 : List Int) (x9_0 : Int) (x9_1 : Int) (x9_2 : Int) (s9_3 : ByteArray) (a9_4 : List Int) (a63 : List T_api_Value) (x64 : Int) (x65 : Int) : heap_Build.l0 a0 x9_0 x9_1 x9_2 s9_3 a9_4 a63 x64 x65 = if x65 < x64 then (Option.bind (gi a63 x65) fun y161 => Option.bind ((heap_Build a0 y161)) fun y184 => if y184.2.2 = (0 : Int) then (Option.bind (ap 8 a9_4 ([y184.2.1] : List Int)) fun l219 => (heap_Build.l0 y184.1 x9_0 x9_1 x9_2 s9_3 l219 a63 x64 (IntKind.wrap .i64 (x65 + (1 : Int))))) else (some (([] : List Int), (0 : Int), y184.2.2))) else (Option.bind (heap_Put a0 (T_heap_Object.mk x9_0 x9_1 x9_2 s9_3 a9_4)) fun y266 => if y266.2.2 = (0 : Int) then (Option.bind (term_Word (4 : Int) y266.2.1) fun y283 => some (y266.1, y283.1, y283.2)) else (some (([] : List Int), (0 : Int), y266.2.2))) := fixF_eq heap_Build_k.mono _
def heap_Build_k.I : (p : heap_Build_k.Pt) → ((List Int) × Int × Int) → Prop
  | .f a0 y1, r => ∀ (h m : Heap) (A0 : Option Addr) (n0 c0 : Nat) (cs1 : List Value) (s : Sub m h) (ne0 : n0 = List.length a0) (k0 : List.length a0 ≤ c0) (r0 : Rd 1 (eInt .u64) m A0 a0) (e1 : T_api_Value.E m y1 cs1), Run Try.prog 66 #[Value.slice A0 n0 c0, Value.agg cs1.toArray] h (heap_Build.post No h m r)
  | .j0 a0 y3 x9_0 x9_1 x9_2 s9_3 a9_4, r => ∀ (h0 m0 h m : Heap) (A0 : Option Addr) (n0 c0 : Nat) (bk3 : Nat) (cs3 : List Value) (bk9 : Nat) (A9_4 : Option Addr) (n9_4 c9_4 : Nat) (S : St No h0 m0 h m) (ne0 : n0 = List.length a0) (k0 : List.length a0 ≤ c0) (r0 : Rd 1 (eInt .u64) m A0 a0) (o3 : OB No h0 h m bk3 cs3 137) (e3 : T_api_Value.E m y3 cs3) (o9 : OB No h0 h m bk9 [(Value.int .i64 x9_0), (Value.int .i64 x9_1), (Value.int .i64 x9_2), (Value.string s9_3), (Value.slice A9_4 n9_4 c9_4)] 202) (ne9_4 : n9_4 = List.length a9_4) (o9_4 : OS No h0 1 (eInt .u64) h m A9_4 a9_4 c9_4) (d0_1 : Dj (fb bk3) (fb bk9)) (d0_2 : Dj (fb bk3) (fp A9_4 c9_4)) (d1_2 : Dj (fb bk9) (fp A9_4 c9_4)), f66.j0 (heap_Build.post No h0 m0 r) A0 n0 c0 (⟨bk3, 0, none⟩ : Addr) (⟨bk9, 0, none⟩ : Addr) h
  | .j2 a0 y3 x9_0 x9_1 x9_2 s9_3 a9_4 b61, r => ∀ (h0 m0 h m : Heap) (A0 : Option Addr) (n0 c0 : Nat) (bk3 : Nat) (cs3 : List Value) (bk9 : Nat) (A9_4 : Option Addr) (n9_4 c9_4 : Nat) (S : St No h0 m0 h m) (ne0 : n0 = List.length a0) (k0 : List.length a0 ≤ c0) (r0 : Rd 1 (eInt .u64) m A0 a0) (o3 : OB No h0 h m bk3 cs3 137) (e3 : T_api_Value.E m y3 cs3) (o9 : OB No h0 h m bk9 [(Value.int .i64 x9_0), (Value.int .i64 x9_1), (Value.int .i64 x9_2), (Value.string s9_3), (Value.slice A9_4 n9_4 c9_4)] 202) (ne9_4 : n9_4 = List.length a9_4) (o9_4 : OS No h0 1 (eInt .u64) h m A9_4 a9_4 c9_4) (d0_1 : Dj (fb bk3) (fb bk9)) (d0_2 : Dj (fb bk3) (fp A9_4 c9_4)) (d1_2 : Dj (fb bk9) (fp A9_4 c9_4)), f66.j2 (heap_Build.post No h0 m0 r) A0 n0 c0 (⟨bk3, 0, none⟩ : Addr) (⟨bk9, 0, none⟩ : Addr) b61 h
  | .j1 a0 y3 x9_0 x9_1 x9_2 s9_3 a9_4, r => ∀ (h0 m0 h m : Heap) (A0 : Option Addr) (n0 c0 : Nat) (bk3 : Nat) (cs3 : List Value) (bk9 : Nat) (A9_4 : Option Addr) (n9_4 c9_4 : Nat) (S : St No h0 m0 h m) (ne0 : n0 = List.length a0) (k0 : List.length a0 ≤ c0) (r0 : Rd 1 (eInt .u64) m A0 a0) (o3 : OB No h0 h m bk3 cs3 137) (e3 : T_api_Value.E m y3 cs3) (o9 : OB No h0 h m bk9 [(Value.int .i64 x9_0), (Value.int .i64 x9_1), (Value.int .i64 x9_2), (Value.string s9_3), (Value.slice A9_4 n9_4 c9_4)] 202) (ne9_4 : n9_4 = List.length a9_4) (o9_4 : OS No h0 1 (eInt .u64) h m A9_4 a9_4 c9_4) (d0_1 : Dj (fb bk3) (fb bk9)) (d0_2 : Dj (fb bk3) (fp A9_4 c9_4)) (d1_2 : Dj (fb bk9) (fp A9_4 c9_4)), f66.j1 (heap_Build.post No h0 m0 r) A0 n0 c0 (⟨bk3, 0, none⟩ : Addr) (⟨bk9, 0, none⟩ : Addr) h
  | .l0 a0 x9_0 x9_1 x9_2 s9_3 a9_4 a63 x64 x65, r => ∀ (h0 m0 h m : Heap) (A0 : Option Addr) (n0 c0 : Nat) (bk9 : Nat) (A9_4 : Option Addr) (n9_4 c9_4 : Nat) (A63 : Option Addr) (n63 c63 : Nat) (S : St No h0 m0 h m) (ne0 : n0 = List.length a0) (k0 : List.length a0 ≤ c0) (r0 : Rd 1 (eInt .u64) m A0 a0) (o9 : OB No h0 h m bk9 [(Value.int .i64 x9_0), (Value.int .i64 x9_1), (Value.int .i64 x9_2), (Value.string s9_3), (Value.slice A9_4 n9_4 c9_4)] 202) (ne9_4 : n9_4 = List.length a9_4) (o9_4 : OS No h0 1 (eInt .u64) h m A9_4 a9_4 c9_4) (ne63 : n63 = List.length a63) (k63 : List.length a63 ≤ c63) (r63 : Rd 4 T_api_Value.E m A63 a63) (d0_1 : Dj (fb bk9) (fp A9_4 c9_4)), f66.l0 (heap_Build.post No h0 m0 r) A0 n0 c0 (⟨bk9, 0, none⟩ : Addr) A63 n63 c63 x64 x65 h
set_option maxRecDepth 100000 in
theorem heap_Build_k.step_f (go : (p : heap_Build_k.Pt) → Option ((List Int) × Int × Int)) (ih : ∀ p r, go p = some r → heap_Build_k.I p r) (a0 : List Int) (y1 : T_api_Value) (r : (List Int) × Int × Int) (e : heap_Build_k.body go (.f a0 y1) = some r) : heap_Build_k.I (.f a0 y1) r := by
  unfold heap_Build_k.body at e
  intro h m A0 n0 c0 cs1 s ne0 k0 r0 e1
  subst ne0
  obtain ⟨Ae1_3, ce1_3, rfl, ke1_3, re1_3⟩ := T_api_Value.iff.1 e1
  have S : St No h m h m := .refl s
  refine f66.run ?_
  unfold f66.runT
  refine new_in S fun h1 o2 x3 => ?_
  have S4 := S.ext' x3
  have o2 : OB _ _ h1 _ (Array.size h) [(Value.int .i64 y1.Kind), (Value.int .i64 y1.Num), (Value.string y1.Text), (Value.slice Ae1_3 (List.length y1.Args) ce1_3)] 137 := o2
  refine ⟨_, ldA (Sub.refl _) o2.all, ?_⟩
  obtain ⟨y6, g7, e⟩ := bind_e e
  refine (term_Of.walk S4.s (T_api_Value.iff.2 ⟨_, _, rfl, ke1_3, re1_3⟩) g7).mono ?_
  rintro _ h8 ⟨m9, T10, rfl⟩
  have S11 := S4.grow T10
  have o12 := o2.step T10 Dj.no
  refine ⟨_, _, rfl, ?_⟩
  refine split_any_e e (fun c156 e => ?_) (fun c156 e => ?_)
  · obtain ⟨y13, g14, e⟩ := bind_e e
    refine (slices_Clone_53.walk S11.s rfl k0 (r0.sub (tell_int .u64) T10.up) g14).mono ?_
    rintro _ h15 ⟨m16, A18, n19, c20, T17, rfl, ne21, o22⟩
    subst ne21
    have S24 := S11.grow T17
    have o25 := o12.step T17 Dj.no
    have d27 : Dj (fb (Array.size h)) (fp A18 c20) := fun i h1 h2 => absurd (o12.lt i h1) (Nat.not_lt.2 ((o22.new i h2).elim (fun h => h.elim) id))
    have o26 := o22.take S11 (fun _ h => h.elim)
    refine ⟨_, _, _, rfl, ?_⟩
    cases e
    exact ⟨_, _, _, _, S24, rfl, rfl, o26⟩
  · refine ⟨_, ldk (k := 2) (Sub.refl _) o12.all rfl, _, rfl, ?_⟩
    refine new_in S11 fun h28 o29 x30 => ?_
    have d33 : Dj (fb (Array.size h)) (fb (Array.size h8)) := Dj.new o12.lt
    have o34 := o12.ext x30
    have S31 := S11.ext' x30
    have o29 : OB _ _ h28 _ (Array.size h8) [(Value.int .i64 (0 : Int)), (Value.int .i64 (0 : Int)), (Value.int .i64 (0 : Int)), (Value.string (ByteArray.mk #[])), (Value.slice none 0 0)] 202 := o29
    obtain ⟨h35, w36, o37, t38⟩ := o29.stA S31.s [(Value.int .i64 (0 : Int)), (Value.int .i64 (0 : Int)), (Value.int .i64 (0 : Int)), (Value.string y1.Text), (Value.slice none 0 0)] rfl (Flats.cons trivial (Flats.cons trivial (Flats.cons trivial (Flats.cons trivial (Flats.cons trivial Flats.nil)))))
    refine ⟨[(Value.int .i64 (0 : Int)), (Value.int .i64 (0 : Int)), (Value.int .i64 (0 : Int)), (Value.string y1.Text), (Value.slice none 0 0)], rfl, rfl, h35, w36, ?_⟩
    have o37 : OB _ _ h35 _ (Array.size h8) [(Value.int .i64 (0 : Int)), (Value.int .i64 (0 : Int)), (Value.int .i64 (0 : Int)), (Value.string y1.Text), (Value.slice none 0 0)] 202 := o37
    have S39 := S31.then t38 (fun i _ hi => o29.wr i hi)
    have o40 := o34.step t38 (d33).symm
    refine ⟨_, ld0 (Sub.refl _) o40.all rfl, _, rfl, ?_⟩
    refine split_eq_e e (fun c155 e => ?_) (fun c155 e => ?_)
    · refine ⟨?_, ?_⟩
      · refine ⟨_, ldk (k := 1) (Sub.refl _) o40.all rfl, _, rfl, ?_⟩
        obtain ⟨h55, w56, o57, t58⟩ := o37.st (k := 1) S39.s (v := (Value.int .i64 (1 : Int))) (Nat.le_of_ble_eq_true rfl) trivial
        refine ⟨h55, w56, ?_⟩
        have o57 : OB _ _ h55 _ (Array.size h8) [(Value.int .i64 (0 : Int)), (Value.int .i64 (1 : Int)), (Value.int .i64 (0 : Int)), (Value.string y1.Text), (Value.slice none 0 0)] 202 := o57
        have S59 := S39.then t58 (fun i _ hi => o37.wr i hi)
        have o60 := o40.step t58 (d33).symm
        obtain ⟨h61, w62, o63, t64⟩ := o57.st (k := 2) S59.s (v := (Value.int .i64 y1.Num)) (Nat.le_of_ble_eq_true rfl) trivial
        refine ⟨h61, w62, ?_⟩
        have o63 : OB _ _ h61 _ (Array.size h8) [(Value.int .i64 (0 : Int)), (Value.int .i64 (1 : Int)), (Value.int .i64 y1.Num), (Value.string y1.Text), (Value.slice none 0 0)] 202 := o63
        have S65 := S59.then t64 (fun i _ hi => o57.wr i hi)
        have o66 := o60.step t64 (d33).symm
        have o68 : OS No h 1 (eInt .u64) h61 m9 none ([] : List Int) 0 := .inl ⟨rfl, rfl⟩
        exact (ih _ _ e) _ _ _ _ _ _ _ _ _ _ _ _ _ S65 rfl k0 (r0.sub (tell_int .u64) T10.up) o66 (T_api_Value.iff.2 ⟨_, _, rfl, ke1_3, (re1_3.sub T_api_Value.T T10.up)⟩) o63 rfl o68 d33 (show Dj (fb (Array.size h)) (fp none 0) from Dj.nil) (show Dj (fb (Array.size h8)) (fp none 0) from Dj.nil)
      · obtain ⟨h69, w70, o71, t72⟩ := o37.st (k := 1) S39.s (v := (Value.int .i64 (1 : Int))) (Nat.le_of_ble_eq_true rfl) trivial
        refine ⟨h69, w70, ?_⟩
        have o71 : OB _ _ h69 _ (Array.size h8) [(Value.int .i64 (0 : Int)), (Value.int .i64 (1 : Int)), (Value.int .i64 (0 : Int)), (Value.string y1.Text), (Value.slice none 0 0)] 202 := o71
        have S73 := S39.then t72 (fun i _ hi => o37.wr i hi)
        have o74 := o40.step t72 (d33).symm
        refine ⟨_, ldk (k := 1) (Sub.refl _) o74.all rfl, _, rfl, ?_⟩
        obtain ⟨h75, w76, o77, t78⟩ := o71.st (k := 2) S73.s (v := (Value.int .i64 y1.Num)) (Nat.le_of_ble_eq_true rfl) trivial
        refine ⟨h75, w76, ?_⟩
        have o77 : OB _ _ h75 _ (Array.size h8) [(Value.int .i64 (0 : Int)), (Value.int .i64 (1 : Int)), (Value.int .i64 y1.Num), (Value.string y1.Text), (Value.slice none 0 0)] 202 := o77
        have S79 := S73.then t78 (fun i _ hi => o71.wr i hi)
        have o80 := o74.step t78 (d33).symm
        have o82 : OS No h 1 (eInt .u64) h75 m9 none ([] : List Int) 0 := .inl ⟨rfl, rfl⟩
        exact (ih _ _ e) _ _ _ _ _ _ _ _ _ _ _ _ _ S79 rfl k0 (r0.sub (tell_int .u64) T10.up) o80 (T_api_Value.iff.2 ⟨_, _, rfl, ke1_3, (re1_3.sub T_api_Value.T T10.up)⟩) o77 rfl o82 d33 (show Dj (fb (Array.size h)) (fp none 0) from Dj.nil) (show Dj (fb (Array.size h8)) (fp none 0) from Dj.nil)
    · refine split_eq_e e (fun c154 e => ?_) (fun c154 e => ?_)
      · obtain ⟨h83, w84, o85, t86⟩ := o37.st (k := 1) S39.s (v := (Value.int .i64 (2 : Int))) (Nat.le_of_ble_eq_true rfl) trivial
        refine ⟨h83, w84, ?_⟩
        have o85 : OB _ _ h83 _ (Array.size h8) [(Value.int .i64 (0 : Int)), (Value.int .i64 (2 : Int)), (Value.int .i64 (0 : Int)), (Value.string y1.Text), (Value.slice none 0 0)] 202 := o85
        have S87 := S39.then t86 (fun i _ hi => o37.wr i hi)
        have o88 := o40.step t86 (d33).symm
        have o90 : OS No h 1 (eInt .u64) h83 m9 none ([] : List Int) 0 := .inl ⟨rfl, rfl⟩
        exact (ih _ _ e) _ _ _ _ _ _ _ _ _ _ _ _ _ S87 rfl k0 (r0.sub (tell_int .u64) T10.up) o88 (T_api_Value.iff.2 ⟨_, _, rfl, ke1_3, (re1_3.sub T_api_Value.T T10.up)⟩) o85 rfl o90 d33 (show Dj (fb (Array.size h)) (fp none 0) from Dj.nil) (show Dj (fb (Array.size h8)) (fp none 0) from Dj.nil)
      · refine split_eq_e e (fun c153 e => ?_) (fun c153 e => ?_)
        · obtain ⟨h91, w92, o93, t94⟩ := o37.st (k := 1) S39.s (v := (Value.int .i64 (3 : Int))) (Nat.le_of_ble_eq_true rfl) trivial
          refine ⟨h91, w92, ?_⟩
          have o93 : OB _ _ h91 _ (Array.size h8) [(Value.int .i64 (0 : Int)), (Value.int .i64 (3 : Int)), (Value.int .i64 (0 : Int)), (Value.string y1.Text), (Value.slice none 0 0)] 202 := o93
          have S95 := S39.then t94 (fun i _ hi => o37.wr i hi)
          have o96 := o40.step t94 (d33).symm
          have o98 : OS No h 1 (eInt .u64) h91 m9 none ([] : List Int) 0 := .inl ⟨rfl, rfl⟩
          exact (ih _ _ e) _ _ _ _ _ _ _ _ _ _ _ _ _ S95 rfl k0 (r0.sub (tell_int .u64) T10.up) o96 (T_api_Value.iff.2 ⟨_, _, rfl, ke1_3, (re1_3.sub T_api_Value.T T10.up)⟩) o93 rfl o98 d33 (show Dj (fb (Array.size h)) (fp none 0) from Dj.nil) (show Dj (fb (Array.size h8)) (fp none 0) from Dj.nil)
        · refine split_eq_e e (fun c152 e => ?_) (fun c152 e => ?_)
          · refine ⟨?_, ?_⟩
            · refine ⟨_, ldk (k := 1) (Sub.refl _) o40.all rfl, _, rfl, ?_⟩
              obtain ⟨h113, w114, o115, t116⟩ := o37.st (k := 1) S39.s (v := (Value.int .i64 (4 : Int))) (Nat.le_of_ble_eq_true rfl) trivial
              refine ⟨h113, w114, ?_⟩
              have o115 : OB _ _ h113 _ (Array.size h8) [(Value.int .i64 (0 : Int)), (Value.int .i64 (4 : Int)), (Value.int .i64 (0 : Int)), (Value.string y1.Text), (Value.slice none 0 0)] 202 := o115
              have S117 := S39.then t116 (fun i _ hi => o37.wr i hi)
              have o118 := o40.step t116 (d33).symm
              obtain ⟨h119, w120, o121, t122⟩ := o115.st (k := 2) S117.s (v := (Value.int .i64 y1.Num)) (Nat.le_of_ble_eq_true rfl) trivial
              refine ⟨h119, w120, ?_⟩
              have o121 : OB _ _ h119 _ (Array.size h8) [(Value.int .i64 (0 : Int)), (Value.int .i64 (4 : Int)), (Value.int .i64 y1.Num), (Value.string y1.Text), (Value.slice none 0 0)] 202 := o121
              have S123 := S117.then t122 (fun i _ hi => o115.wr i hi)
              have o124 := o118.step t122 (d33).symm
              have o126 : OS No h 1 (eInt .u64) h119 m9 none ([] : List Int) 0 := .inl ⟨rfl, rfl⟩
              exact (ih _ _ e) _ _ _ _ _ _ _ _ _ _ _ _ _ S123 rfl k0 (r0.sub (tell_int .u64) T10.up) o124 (T_api_Value.iff.2 ⟨_, _, rfl, ke1_3, (re1_3.sub T_api_Value.T T10.up)⟩) o121 rfl o126 d33 (show Dj (fb (Array.size h)) (fp none 0) from Dj.nil) (show Dj (fb (Array.size h8)) (fp none 0) from Dj.nil)
            · obtain ⟨h127, w128, o129, t130⟩ := o37.st (k := 1) S39.s (v := (Value.int .i64 (4 : Int))) (Nat.le_of_ble_eq_true rfl) trivial
              refine ⟨h127, w128, ?_⟩
              have o129 : OB _ _ h127 _ (Array.size h8) [(Value.int .i64 (0 : Int)), (Value.int .i64 (4 : Int)), (Value.int .i64 (0 : Int)), (Value.string y1.Text), (Value.slice none 0 0)] 202 := o129
              have S131 := S39.then t130 (fun i _ hi => o37.wr i hi)
              have o132 := o40.step t130 (d33).symm
              refine ⟨_, ldk (k := 1) (Sub.refl _) o132.all rfl, _, rfl, ?_⟩
              obtain ⟨h133, w134, o135, t136⟩ := o129.st (k := 2) S131.s (v := (Value.int .i64 y1.Num)) (Nat.le_of_ble_eq_true rfl) trivial
              refine ⟨h133, w134, ?_⟩
              have o135 : OB _ _ h133 _ (Array.size h8) [(Value.int .i64 (0 : Int)), (Value.int .i64 (4 : Int)), (Value.int .i64 y1.Num), (Value.string y1.Text), (Value.slice none 0 0)] 202 := o135
              have S137 := S131.then t136 (fun i _ hi => o129.wr i hi)
              have o138 := o132.step t136 (d33).symm
              have o140 : OS No h 1 (eInt .u64) h133 m9 none ([] : List Int) 0 := .inl ⟨rfl, rfl⟩
              exact (ih _ _ e) _ _ _ _ _ _ _ _ _ _ _ _ _ S137 rfl k0 (r0.sub (tell_int .u64) T10.up) o138 (T_api_Value.iff.2 ⟨_, _, rfl, ke1_3, (re1_3.sub T_api_Value.T T10.up)⟩) o135 rfl o140 d33 (show Dj (fb (Array.size h)) (fp none 0) from Dj.nil) (show Dj (fb (Array.size h8)) (fp none 0) from Dj.nil)
          · refine split_eq_e e (fun c151 e => ?_) (fun c151 e => ?_)
            · obtain ⟨h141, w142, o143, t144⟩ := o37.st (k := 1) S39.s (v := (Value.int .i64 (5 : Int))) (Nat.le_of_ble_eq_true rfl) trivial
              refine ⟨h141, w142, ?_⟩
              have o143 : OB _ _ h141 _ (Array.size h8) [(Value.int .i64 (0 : Int)), (Value.int .i64 (5 : Int)), (Value.int .i64 (0 : Int)), (Value.string y1.Text), (Value.slice none 0 0)] 202 := o143
              have S145 := S39.then t144 (fun i _ hi => o37.wr i hi)
              have o146 := o40.step t144 (d33).symm
              have o148 : OS No h 1 (eInt .u64) h141 m9 none ([] : List Int) 0 := .inl ⟨rfl, rfl⟩
              exact (ih _ _ e) _ _ _ _ _ _ _ _ _ _ _ _ _ S145 rfl k0 (r0.sub (tell_int .u64) T10.up) o146 (T_api_Value.iff.2 ⟨_, _, rfl, ke1_3, (re1_3.sub T_api_Value.T T10.up)⟩) o143 rfl o148 d33 (show Dj (fb (Array.size h)) (fp none 0) from Dj.nil) (show Dj (fb (Array.size h8)) (fp none 0) from Dj.nil)
            · have o150 : OS No h 1 (eInt .u64) h35 m9 none ([] : List Int) 0 := .inl ⟨rfl, rfl⟩
              cases e
              exact ⟨_, _, _, _, S39, rfl, rfl, o150⟩
set_option maxRecDepth 100000 in
theorem heap_Build_k.step_j0 (go : (p : heap_Build_k.Pt) → Option ((List Int) × Int × Int)) (ih : ∀ p r, go p = some r → heap_Build_k.I p r) (a0 : List Int) (y3 : T_api_Value) (x9_0 : Int) (x9_1 : Int) (x9_2 : Int) (s9_3 : ByteArray) (a9_4 : List Int) (r : (List Int) × Int × Int) (e : heap_Build_k.body go (.j0 a0 y3 x9_0 x9_1 x9_2 s9_3 a9_4) = some r) : heap_Build_k.I (.j0 a0 y3 x9_0 x9_1 x9_2 s9_3 a9_4) r := by
  unfold heap_Build_k.body at e
  intro h0 m0 h m A0 n0 c0 bk3 cs3 bk9 A9_4 n9_4 c9_4 S ne0 k0 r0 o3 e3 o9 ne9_4 o9_4 d0_1 d0_2 d1_2
  subst ne0
  obtain ⟨Ae3_3, ce3_3, rfl, ke3_3, re3_3⟩ := T_api_Value.iff.1 e3
  subst ne9_4
  refine f66.j0_in ?_
  unfold f66.j0T
  refine ⟨_, ldk (k := 1) (Sub.refl _) o3.all rfl, _, rfl, ?_⟩
  refine split_ne_e e (fun c157 e => ?_) (fun c157 e => ?_)
  · refine ⟨_, ldk (k := 2) (Sub.refl _) o9.all rfl, _, rfl, ?_⟩
    exact (ih _ _ e) _ _ _ _ _ _ _ _ _ _ _ _ _ S rfl k0 r0 o3 (T_api_Value.iff.2 ⟨_, _, rfl, ke3_3, re3_3⟩) o9 rfl o9_4 d0_1 d0_2 d1_2
  · exact (ih _ _ e) _ _ _ _ _ _ _ _ _ _ _ _ _ S rfl k0 r0 o3 (T_api_Value.iff.2 ⟨_, _, rfl, ke3_3, re3_3⟩) o9 rfl o9_4 d0_1 d0_2 d1_2
set_option maxRecDepth 100000 in
theorem heap_Build_k.step_j2 (go : (p : heap_Build_k.Pt) → Option ((List Int) × Int × Int)) (ih : ∀ p r, go p = some r → heap_Build_k.I p r) (a0 : List Int) (y3 : T_api_Value) (x9_0 : Int) (x9_1 : Int) (x9_2 : Int) (s9_3 : ByteArray) (a9_4 : List Int) (b61 : Bool) (r : (List Int) × Int × Int) (e : heap_Build_k.body go (.j2 a0 y3 x9_0 x9_1 x9_2 s9_3 a9_4 b61) = some r) : heap_Build_k.I (.j2 a0 y3 x9_0 x9_1 x9_2 s9_3 a9_4 b61) r := by
  unfold heap_Build_k.body at e
  intro h0 m0 h m A0 n0 c0 bk3 cs3 bk9 A9_4 n9_4 c9_4 S ne0 k0 r0 o3 e3 o9 ne9_4 o9_4 d0_1 d0_2 d1_2
  subst ne0
  obtain ⟨Ae3_3, ce3_3, rfl, ke3_3, re3_3⟩ := T_api_Value.iff.1 e3
  subst ne9_4
  refine f66.j2_in ?_
  unfold f66.j2T
  refine split_any_e e (fun c160 e => ?_) (fun c160 e => ?_)
  · have o159 : OS No h0 1 (eInt .u64) h m none ([] : List Int) 0 := .inl ⟨rfl, rfl⟩
    cases e
    exact ⟨_, _, _, _, S, rfl, rfl, o159⟩
  · exact (ih _ _ e) _ _ _ _ _ _ _ _ _ _ _ _ _ S rfl k0 r0 o3 (T_api_Value.iff.2 ⟨_, _, rfl, ke3_3, re3_3⟩) o9 rfl o9_4 d0_1 d0_2 d1_2
set_option maxRecDepth 100000 in
theorem heap_Build_k.step_j1 (go : (p : heap_Build_k.Pt) → Option ((List Int) × Int × Int)) (ih : ∀ p r, go p = some r → heap_Build_k.I p r) (a0 : List Int) (y3 : T_api_Value) (x9_0 : Int) (x9_1 : Int) (x9_2 : Int) (s9_3 : ByteArray) (a9_4 : List Int) (r : (List Int) × Int × Int) (e : heap_Build_k.body go (.j1 a0 y3 x9_0 x9_1 x9_2 s9_3 a9_4) = some r) : heap_Build_k.I (.j1 a0 y3 x9_0 x9_1 x9_2 s9_3 a9_4) r := by
  unfold heap_Build_k.body at e
  intro h0 m0 h m A0 n0 c0 bk3 cs3 bk9 A9_4 n9_4 c9_4 S ne0 k0 r0 o3 e3 o9 ne9_4 o9_4 d0_1 d0_2 d1_2
  subst ne0
  obtain ⟨Ae3_3, ce3_3, rfl, ke3_3, re3_3⟩ := T_api_Value.iff.1 e3
  subst ne9_4
  refine f66.j1_in ?_
  unfold f66.j1T
  refine ⟨_, ldk (k := 3) (Sub.refl _) o3.all rfl, _, _, _, rfl, ?_⟩
  exact (ih _ _ e) _ _ _ _ _ _ _ _ _ _ _ _ _ _ S rfl k0 r0 o9 rfl o9_4 rfl ke3_3 re3_3 d1_2
set_option maxRecDepth 100000 in
theorem heap_Build_k.step_l0 (go : (p : heap_Build_k.Pt) → Option ((List Int) × Int × Int)) (ih : ∀ p r, go p = some r → heap_Build_k.I p r) (a0 : List Int) (x9_0 : Int) (x9_1 : Int) (x9_2 : Int) (s9_3 : ByteArray) (a9_4 : List Int) (a63 : List T_api_Value) (x64 : Int) (x65 : Int) (r : (List Int) × Int × Int) (e : heap_Build_k.body go (.l0 a0 x9_0 x9_1 x9_2 s9_3 a9_4 a63 x64 x65) = some r) : heap_Build_k.I (.l0 a0 x9_0 x9_1 x9_2 s9_3 a9_4 a63 x64 x65) r := by
  unfold heap_Build_k.body at e
  intro h0 m0 h m A0 n0 c0 bk9 A9_4 n9_4 c9_4 A63 n63 c63 S ne0 k0 r0 o9 ne9_4 o9_4 ne63 k63 r63 d0_1
  subst ne0
  subst ne9_4
  subst ne63
  refine f66.l0_in ?_
  unfold f66.l0T
  refine split_dec_e e (fun c292 e => ?_) (fun c292 e => ?_)
  · obtain ⟨y161, g162, e⟩ := bind_e e
    refine r63.addr rfl g162 fun a163 cs164 ha165 hc166 he167 => ?_
    obtain ⟨Aa163_3, ca163_3, rfl, ka163_3, ra163_3⟩ := T_api_Value.iff.1 he167
    refine ⟨_, ldA S.s hc166, ?_⟩
    refine new_in S fun h168 o169 x170 => ?_
    have d173 : Dj (fp A9_4 c9_4) (fb (Array.size h)) := Dj.new o9_4.lt
    have d174 : Dj (fb bk9) (fb (Array.size h)) := Dj.new o9.lt
    have o175 := o9_4.ext (tell_int .u64) S.s x170
    have o176 := o9.ext x170
    have S171 := S.ext' x170
    have o169 : OB _ _ h168 _ (Array.size h) [(Value.int .i64 (0 : Int)), (Value.int .i64 (0 : Int)), (Value.string (ByteArray.mk #[])), (Value.slice none 0 0)] 137 := o169
    obtain ⟨h177, w178, o179, t180⟩ := o169.stA S171.s [(Value.int .i64 y161.Kind), (Value.int .i64 y161.Num), (Value.string y161.Text), (Value.slice Aa163_3 (List.length y161.Args) ca163_3)] rfl (Flats.cons trivial (Flats.cons trivial (Flats.cons trivial (Flats.cons trivial Flats.nil))))
    refine ⟨[(Value.int .i64 y161.Kind), (Value.int .i64 y161.Num), (Value.string y161.Text), (Value.slice Aa163_3 (List.length y161.Args) ca163_3)], rfl, rfl, h177, w178, ?_⟩
    have o179 : OB _ _ h177 _ (Array.size h) [(Value.int .i64 y161.Kind), (Value.int .i64 y161.Num), (Value.string y161.Text), (Value.slice Aa163_3 (List.length y161.Args) ca163_3)] 137 := o179
    have S181 := S171.then t180 (fun i _ hi => o169.wr i hi)
    have o182 := o175.step (tell_int .u64) t180 (d173).symm
    have o183 := o176.step t180 (d174).symm
    refine ⟨_, ldA (Sub.refl _) o179.all, ?_⟩
    obtain ⟨y184, g185, e⟩ := bind_e e
    refine ((ih _ _ g185) _ _ _ _ _ _ S181.s rfl k0 r0 (T_api_Value.iff.2 ⟨_, _, rfl, ka163_3, ra163_3⟩)).mono ?_
    rintro _ h186 ⟨m187, A189, n190, c191, T188, rfl, ne192, o193⟩
    subst ne192
    have S195 := S181.grow T188
    have o196 := o182.step (tell_int .u64) T188 Dj.no
    have o197 := o183.step T188 Dj.no
    have o198 := o179.step T188 Dj.no
    have d200 : Dj (fp A9_4 c9_4) (fp A189 c191) := fun i h1 h2 => absurd (o182.lt i h1) (Nat.not_lt.2 ((o193.new i h2).elim (fun h => h.elim) id))
    have d201 : Dj (fb bk9) (fp A189 c191) := fun i h1 h2 => absurd (o183.lt i h1) (Nat.not_lt.2 ((o193.new i h2).elim (fun h => h.elim) id))
    have d202 : Dj (fb (Array.size h)) (fp A189 c191) := fun i h1 h2 => absurd (o179.lt i h1) (Nat.not_lt.2 ((o193.new i h2).elim (fun h => h.elim) id))
    have o199 := o193.take S181 (fun _ h => h.elim)
    refine ⟨_, _, _, _, _, rfl, ?_⟩
    refine split_ne_e e (fun c256 e => ?_) (fun c256 e => ?_)
    · have o204 : OS No h0 1 (eInt .u64) h186 m187 none ([] : List Int) 0 := .inl ⟨rfl, rfl⟩
      cases e
      exact ⟨_, _, _, _, S195, rfl, rfl, o204⟩
    · refine ⟨_, ldk (k := 4) (Sub.refl _) o197.all rfl, _, _, _, rfl, ?_⟩
      refine new_in S195 fun h205 o206 x207 => ?_
      have d210 : Dj (fp A9_4 c9_4) (fb (Array.size h186)) := Dj.new o196.lt
      have d211 : Dj (fb bk9) (fb (Array.size h186)) := Dj.new o197.lt
      have d212 : Dj (fb (Array.size h)) (fb (Array.size h186)) := Dj.new o198.lt
      have d213 : Dj (fp A189 c191) (fb (Array.size h186)) := Dj.new o199.lt
      have o214 := o196.ext (tell_int .u64) S195.s x207
      have o215 := o197.ext x207
      have o216 := o198.ext x207
      have o217 := o199.ext (tell_int .u64) S195.s x207
      have S208 := S195.ext' x207
      have o206 : OB _ _ h205 _ (Array.size h186) [(Value.int .u64 y184.2.1)] 98 := o206
      have o218 : OS _ _ 1 (eInt .u64) h205 m187 (some ⟨(Array.size h186), 0, none⟩) ([y184.2.1] : List Int) 1 := OB.row o206 (CsE.cons (c1 := [(Value.int .u64 y184.2.1)]) rfl rfl CsE.nil) rfl
      obtain ⟨l219, g220, e⟩ := bind_e e
      refine o214.app (tell_int .u64) S208 rfl rfl (o218.srcE rfl) (by decide) g220 fun A221 c222 h223 o224 t225 n226 => ?_
      refine ⟨_, _, _, rfl, ?_⟩
      have d228 : Dj (fb bk9) (fp A221 c222) := Dj.app d0_1 o215.lt n226
      have d229 : Dj (fb (Array.size h)) (fp A221 c222) := Dj.app (d173).symm o216.lt n226
      have d230 : Dj (fp A189 c191) (fp A221 c222) := Dj.app (d200).symm o217.lt n226
      have d231 : Dj (fp (some ⟨(Array.size h186), 0, none⟩) 1) (fp A221 c222) := Dj.app ((d210.row)).symm o218.lt n226
      have S232 := S208.then t225 (fun i _ hi => o214.wr i hi)
      have o233 := o215.step t225 (d0_1).symm
      have o234 := o216.step t225 d173
      have o235 := o217.step (tell_int .u64) t225 d200
      have o236 := o218.step (tell_int .u64) t225 (d210.row)
      obtain ⟨h237, w238, o239, t240⟩ := o233.st (k := 4) S232.s (v := (Value.slice A221 (List.length l219) c222)) (Nat.le_of_ble_eq_true rfl) trivial
      refine ⟨h237, w238, ?_⟩
      have o239 : OB _ _ h237 _ bk9 [(Value.int .i64 x9_0), (Value.int .i64 x9_1), (Value.int .i64 x9_2), (Value.string s9_3), (Value.slice A221 (List.length l219) c222)] 202 := o239
      have S241 := S232.then t240 (fun i _ hi => o233.wr i hi)
      have o242 := o234.step t240 d174
      have o243 := o235.step (tell_int .u64) t240 d201
      have o244 := o224.step (tell_int .u64) t240 d228
      obtain ⟨m249, L248, u245, s246, t247⟩ := St.lend S241.s (fp A189 c191)
      have r250 : Rd 1 (eInt .u64) m249 A189 y184.1 := o243.lent (tell_int .u64) S241.s L248 (fun _ h => h)
      have k251 := o243.cap
      have S252 := S241.then t247 (fun i _ hi => o243.wr i hi)
      have o253 := o239.step t247 (d201).symm
      have o254 := o242.step t247 (d202).symm
      have o255 := o244.step (tell_int .u64) t247 d230
      exact (ih _ _ e) _ _ _ _ _ _ _ _ _ _ _ _ _ _ S252 rfl k251 r250 o253 rfl o255 rfl k63 (r63.sub T_api_Value.T (T188.up.trans t247.up)) d228
  · refine ⟨_, ldA (Sub.refl _) o9.all, ?_⟩
    obtain ⟨y266, g267, e⟩ := bind_e e
    obtain ⟨m261, L260, u257, s258, t259⟩ := St.lend S.s (fp A9_4 c9_4)
    have r262 : Rd 1 (eInt .u64) m261 A9_4 a9_4 := o9_4.lent (tell_int .u64) S.s L260 (fun _ h => h)
    have k263 := o9_4.cap
    have S264 := S.then t259 (fun i _ hi => o9_4.wr i hi)
    have o265 := o9.step t259 (d0_1).symm
    refine (heap_Put.walk S264.s rfl k0 (r0.sub (tell_int .u64) t259.up) (show T_heap_Object.E _ (T_heap_Object.mk x9_0 x9_1 x9_2 s9_3 a9_4) [(Value.int .i64 x9_0), (Value.int .i64 x9_1), (Value.int .i64 x9_2), (Value.string s9_3), (Value.slice A9_4 (List.length a9_4) c9_4)] from ⟨_, _, rfl, k263, r262⟩) g267).mono ?_
    rintro _ h268 ⟨m269, A271, n272, c273, T270, rfl, ne274, o275⟩
    subst ne274
    have S277 := S264.grow T270
    have o278 := o265.step T270 Dj.no
    have d280 : Dj (fb bk9) (fp A271 c273) := fun i h1 h2 => absurd (o265.lt i h1) (Nat.not_lt.2 ((o275.new i h2).elim (fun h => h.elim) id))
    have o279 := o275.take S264 (fun _ h => h.elim)
    refine ⟨_, _, _, _, _, rfl, ?_⟩
    refine split_ne_e e (fun c291 e => ?_) (fun c291 e => ?_)
    · have o282 : OS No h0 1 (eInt .u64) h268 m269 none ([] : List Int) 0 := .inl ⟨rfl, rfl⟩
      cases e
      exact ⟨_, _, _, _, S277, rfl, rfl, o282⟩
    · obtain ⟨y283, g284, e⟩ := bind_e e
      refine (term_Word.walk S277.s  g284).mono ?_
      rintro _ h285 ⟨m286, T287, rfl⟩
      have S288 := S277.grow T287
      have o289 := o278.step T287 Dj.no
      have o290 := o279.step (tell_int .u64) T287 Dj.no
      refine ⟨_, _, rfl, ?_⟩
      cases e
      exact ⟨_, _, _, _, S288, rfl, rfl, o290⟩
theorem heap_Build_k.all {p : heap_Build_k.Pt} {r : ((List Int) × Int × Int)} (e : heap_Build_k.go p = some r) : heap_Build_k.I p r := fixF_ind (β := fun _ => ((List Int) × Int × Int)) heap_Build_k.mono (I := heap_Build_k.I) (fun go ih p r e => match p with
  | .f a0 y1 => heap_Build_k.step_f go ih a0 y1 r e
  | .j0 a0 y3 x9_0 x9_1 x9_2 s9_3 a9_4 => heap_Build_k.step_j0 go ih a0 y3 x9_0 x9_1 x9_2 s9_3 a9_4 r e
  | .j2 a0 y3 x9_0 x9_1 x9_2 s9_3 a9_4 b61 => heap_Build_k.step_j2 go ih a0 y3 x9_0 x9_1 x9_2 s9_3 a9_4 b61 r e
  | .j1 a0 y3 x9_0 x9_1 x9_2 s9_3 a9_4 => heap_Build_k.step_j1 go ih a0 y3 x9_0 x9_1 x9_2 s9_3 a9_4 r e
  | .l0 a0 x9_0 x9_1 x9_2 s9_3 a9_4 a63 x64 x65 => heap_Build_k.step_l0 go ih a0 x9_0 x9_1 x9_2 s9_3 a9_4 a63 x64 x65 r e
  ) e
theorem heap_Build.walk {h m : Heap} {A0 : Option Addr} {n0 c0 : Nat} {cs1 : List Value} {a0 : List Int} {y1 : T_api_Value} (s : Sub m h) (ne0 : n0 = List.length a0) (k0 : List.length a0 ≤ c0) (r0 : Rd 1 (eInt .u64) m A0 a0) (e1 : T_api_Value.E m y1 cs1) {r : (List Int) × Int × Int} (e : heap_Build a0 y1 = some r) : Run Try.prog 66 #[Value.slice A0 n0 c0, Value.agg cs1.toArray] h (heap_Build.post No h m r) := heap_Build_k.all (p := .f a0 y1) e h m A0 n0 c0 cs1 s ne0 k0 r0 e1
theorem heap_Build.j0.walk {h0 m0 h m : Heap} {A0 : Option Addr} {n0 c0 : Nat} {bk3 : Nat} {cs3 : List Value} {bk9 : Nat} {A9_4 : Option Addr} {n9_4 c9_4 : Nat} {a0 : List Int} {y3 : T_api_Value} {x9_0 : Int} {x9_1 : Int} {x9_2 : Int} {s9_3 : ByteArray} {a9_4 : List Int} (S : St No h0 m0 h m) (ne0 : n0 = List.length a0) (k0 : List.length a0 ≤ c0) (r0 : Rd 1 (eInt .u64) m A0 a0) (o3 : OB No h0 h m bk3 cs3 137) (e3 : T_api_Value.E m y3 cs3) (o9 : OB No h0 h m bk9 [(Value.int .i64 x9_0), (Value.int .i64 x9_1), (Value.int .i64 x9_2), (Value.string s9_3), (Value.slice A9_4 n9_4 c9_4)] 202) (ne9_4 : n9_4 = List.length a9_4) (o9_4 : OS No h0 1 (eInt .u64) h m A9_4 a9_4 c9_4) (d0_1 : Dj (fb bk3) (fb bk9)) (d0_2 : Dj (fb bk3) (fp A9_4 c9_4)) (d1_2 : Dj (fb bk9) (fp A9_4 c9_4)) {r : (List Int) × Int × Int} (e : heap_Build.j0 a0 y3 x9_0 x9_1 x9_2 s9_3 a9_4 = some r) : f66.j0 (heap_Build.post No h0 m0 r) A0 n0 c0 (⟨bk3, 0, none⟩ : Addr) (⟨bk9, 0, none⟩ : Addr) h := heap_Build_k.all (p := .j0 a0 y3 x9_0 x9_1 x9_2 s9_3 a9_4) e h0 m0 h m A0 n0 c0 bk3 cs3 bk9 A9_4 n9_4 c9_4 S ne0 k0 r0 o3 e3 o9 ne9_4 o9_4 d0_1 d0_2 d1_2
theorem heap_Build.j2.walk {h0 m0 h m : Heap} {A0 : Option Addr} {n0 c0 : Nat} {bk3 : Nat} {cs3 : List Value} {bk9 : Nat} {A9_4 : Option Addr} {n9_4 c9_4 : Nat} {a0 : List Int} {y3 : T_api_Value} {x9_0 : Int} {x9_1 : Int} {x9_2 : Int} {s9_3 : ByteArray} {a9_4 : List Int} {b61 : Bool} (S : St No h0 m0 h m) (ne0 : n0 = List.length a0) (k0 : List.length a0 ≤ c0) (r0 : Rd 1 (eInt .u64) m A0 a0) (o3 : OB No h0 h m bk3 cs3 137) (e3 : T_api_Value.E m y3 cs3) (o9 : OB No h0 h m bk9 [(Value.int .i64 x9_0), (Value.int .i64 x9_1), (Value.int .i64 x9_2), (Value.string s9_3), (Value.slice A9_4 n9_4 c9_4)] 202) (ne9_4 : n9_4 = List.length a9_4) (o9_4 : OS No h0 1 (eInt .u64) h m A9_4 a9_4 c9_4) (d0_1 : Dj (fb bk3) (fb bk9)) (d0_2 : Dj (fb bk3) (fp A9_4 c9_4)) (d1_2 : Dj (fb bk9) (fp A9_4 c9_4)) {r : (List Int) × Int × Int} (e : heap_Build.j2 a0 y3 x9_0 x9_1 x9_2 s9_3 a9_4 b61 = some r) : f66.j2 (heap_Build.post No h0 m0 r) A0 n0 c0 (⟨bk3, 0, none⟩ : Addr) (⟨bk9, 0, none⟩ : Addr) b61 h := heap_Build_k.all (p := .j2 a0 y3 x9_0 x9_1 x9_2 s9_3 a9_4 b61) e h0 m0 h m A0 n0 c0 bk3 cs3 bk9 A9_4 n9_4 c9_4 S ne0 k0 r0 o3 e3 o9 ne9_4 o9_4 d0_1 d0_2 d1_2
theorem heap_Build.j1.walk {h0 m0 h m : Heap} {A0 : Option Addr} {n0 c0 : Nat} {bk3 : Nat} {cs3 : List Value} {bk9 : Nat} {A9_4 : Option Addr} {n9_4 c9_4 : Nat} {a0 : List Int} {y3 : T_api_Value} {x9_0 : Int} {x9_1 : Int} {x9_2 : Int} {s9_3 : ByteArray} {a9_4 : List Int} (S : St No h0 m0 h m) (ne0 : n0 = List.length a0) (k0 : List.length a0 ≤ c0) (r0 : Rd 1 (eInt .u64) m A0 a0) (o3 : OB No h0 h m bk3 cs3 137) (e3 : T_api_Value.E m y3 cs3) (o9 : OB No h0 h m bk9 [(Value.int .i64 x9_0), (Value.int .i64 x9_1), (Value.int .i64 x9_2), (Value.string s9_3), (Value.slice A9_4 n9_4 c9_4)] 202) (ne9_4 : n9_4 = List.length a9_4) (o9_4 : OS No h0 1 (eInt .u64) h m A9_4 a9_4 c9_4) (d0_1 : Dj (fb bk3) (fb bk9)) (d0_2 : Dj (fb bk3) (fp A9_4 c9_4)) (d1_2 : Dj (fb bk9) (fp A9_4 c9_4)) {r : (List Int) × Int × Int} (e : heap_Build.j1 a0 y3 x9_0 x9_1 x9_2 s9_3 a9_4 = some r) : f66.j1 (heap_Build.post No h0 m0 r) A0 n0 c0 (⟨bk3, 0, none⟩ : Addr) (⟨bk9, 0, none⟩ : Addr) h := heap_Build_k.all (p := .j1 a0 y3 x9_0 x9_1 x9_2 s9_3 a9_4) e h0 m0 h m A0 n0 c0 bk3 cs3 bk9 A9_4 n9_4 c9_4 S ne0 k0 r0 o3 e3 o9 ne9_4 o9_4 d0_1 d0_2 d1_2
theorem heap_Build.l0.walk {h0 m0 h m : Heap} {A0 : Option Addr} {n0 c0 : Nat} {bk9 : Nat} {A9_4 : Option Addr} {n9_4 c9_4 : Nat} {A63 : Option Addr} {n63 c63 : Nat} {a0 : List Int} {x9_0 : Int} {x9_1 : Int} {x9_2 : Int} {s9_3 : ByteArray} {a9_4 : List Int} {a63 : List T_api_Value} {x64 : Int} {x65 : Int} (S : St No h0 m0 h m) (ne0 : n0 = List.length a0) (k0 : List.length a0 ≤ c0) (r0 : Rd 1 (eInt .u64) m A0 a0) (o9 : OB No h0 h m bk9 [(Value.int .i64 x9_0), (Value.int .i64 x9_1), (Value.int .i64 x9_2), (Value.string s9_3), (Value.slice A9_4 n9_4 c9_4)] 202) (ne9_4 : n9_4 = List.length a9_4) (o9_4 : OS No h0 1 (eInt .u64) h m A9_4 a9_4 c9_4) (ne63 : n63 = List.length a63) (k63 : List.length a63 ≤ c63) (r63 : Rd 4 T_api_Value.E m A63 a63) (d0_1 : Dj (fb bk9) (fp A9_4 c9_4)) {r : (List Int) × Int × Int} (e : heap_Build.l0 a0 x9_0 x9_1 x9_2 s9_3 a9_4 a63 x64 x65 = some r) : f66.l0 (heap_Build.post No h0 m0 r) A0 n0 c0 (⟨bk9, 0, none⟩ : Addr) A63 n63 c63 x64 x65 h := heap_Build_k.all (p := .l0 a0 x9_0 x9_1 x9_2 s9_3 a9_4 a63 x64 x65) e h0 m0 h m A0 n0 c0 bk9 A9_4 n9_4 c9_4 A63 n63 c63 S ne0 k0 r0 o9 ne9_4 o9_4 ne63 k63 r63 d0_1

/-! ### 161 slices.Equal[roadstead/heap.Heap,uint64] -/
def slices_Equal_161.post (W : Nat → Prop) (h0 m0 : Heap) (r : Bool) (v : Value) (h : Heap) : Prop := ∃ m , St W h0 m0 h m ∧ v = .bool r
inductive slices_Equal_161.l0_k.Pt where
  | l0 (a0 : List Int) (a1 : List Int) (x12 : Int) (x13 : Int)
noncomputable def slices_Equal_161.l0_k.body (go : (p : slices_Equal_161.l0_k.Pt) → Option (Bool)) : (p : slices_Equal_161.l0_k.Pt) → Option (Bool)
  | .l0 a0 a1 x12 x13 => if x13 < x12 then (Option.bind (gi a0 x13) fun y2 => Option.bind (gi a1 x13) fun y9 => if y2 = y9 then ((go (.l0 a0 a1 x12 (IntKind.wrap .i64 (x13 + (1 : Int)))))) else (some (false))) else (some (true))
theorem slices_Equal_161.l0_k.mono : MonoF (β := fun _ => (Bool)) slices_Equal_161.l0_k.body := fun f g hfg p => match p with
  | .l0 a0 a1 x12 x13 => LeO.ite (LeO.bind (LeO.refl _) fun y2 => LeO.bind (LeO.refl _) fun y9 => LeO.ite ((hfg _)) (LeO.refl _)) (LeO.refl _)
noncomputable def slices_Equal_161.l0_k.go (p : slices_Equal_161.l0_k.Pt) : Option (Bool) := fixF (β := fun _ => (Bool)) slices_Equal_161.l0_k.body p
noncomputable def slices_Equal_161.l0 (a0 : List Int) (a1 : List Int) (x12 : Int) (x13 : Int) : Option (Bool) := slices_Equal_161.l0_k.go (.l0 a0 a1 x12 x13)
theorem slices_Equal_161.l0_eq (a0 : List Int) (a1 : List Int) (x12 : Int) (x13 : Int) : slices_Equal_161.l0 a0 a1 x12 x13 = if x13 < x12 then (Option.bind (gi a0 x13) fun y2 => Option.bind (gi a1 x13) fun y9 => if y2 = y9 then ((slices_Equal_161.l0 a0 a1 x12 (IntKind.wrap .i64 (x13 + (1 : Int))))) else (some (false))) else (some (true)) := fixF_eq slices_Equal_161.l0_k.mono _
def slices_Equal_161.l0_k.I : (p : slices_Equal_161.l0_k.Pt) → (Bool) → Prop
  | .l0 a0 a1 x12 x13, r => ∀ (h0 m0 h m : Heap) (A0 : Option Addr) (n0 c0 : Nat) (A1 : Option Addr) (n1 c1 : Nat) (S : St No h0 m0 h m) (ne0 : n0 = List.length a0) (k0 : List.length a0 ≤ c0) (r0 : Rd 1 (eInt .u64) m A0 a0) (ne1 : n1 = List.length a1) (k1 : List.length a1 ≤ c1) (r1 : Rd 1 (eInt .u64) m A1 a1), f161.l0 (slices_Equal_161.post No h0 m0 r) A0 n0 c0 A1 n1 c1 x12 x13 h
set_option maxRecDepth 100000 in
theorem slices_Equal_161.l0_k.step_l0 (go : (p : slices_Equal_161.l0_k.Pt) → Option (Bool)) (ih : ∀ p r, go p = some r → slices_Equal_161.l0_k.I p r) (a0 : List Int) (a1 : List Int) (x12 : Int) (x13 : Int) (r : Bool) (e : slices_Equal_161.l0_k.body go (.l0 a0 a1 x12 x13) = some r) : slices_Equal_161.l0_k.I (.l0 a0 a1 x12 x13) r := by
  unfold slices_Equal_161.l0_k.body at e
  intro h0 m0 h m A0 n0 c0 A1 n1 c1 S ne0 k0 r0 ne1 k1 r1
  subst ne0
  subst ne1
  refine f161.l0_in ?_
  unfold f161.l0T
  refine split_dec_e e (fun c17 e => ?_) (fun c17 e => ?_)
  · obtain ⟨y2, g3, e⟩ := bind_e e
    refine r0.addr rfl g3 fun a4 cs5 ha6 hc7 he8 => ?_
    obtain rfl : cs5 = [(Value.int .u64 y2)] := he8
    obtain ⟨y9, g10, e⟩ := bind_e e
    refine r1.addr rfl g10 fun a11 cs12 ha13 hc14 he15 => ?_
    obtain rfl : cs12 = [(Value.int .u64 y9)] := he15
    refine ⟨_, ld0 S.s hc7 rfl, _, rfl, ?_⟩
    refine ⟨_, ld0 S.s hc14 rfl, _, rfl, ?_⟩
    refine split_ne_e e (fun c16 e => ?_) (fun c16 e => ?_)
    · cases e
      exact ⟨_, S, rfl⟩
    · exact (ih _ _ e) _ _ _ _ _ _ _ _ _ _ S rfl k0 r0 rfl k1 r1
  · cases e
    exact ⟨_, S, rfl⟩
theorem slices_Equal_161.l0_k.all {p : slices_Equal_161.l0_k.Pt} {r : (Bool)} (e : slices_Equal_161.l0_k.go p = some r) : slices_Equal_161.l0_k.I p r := fixF_ind (β := fun _ => (Bool)) slices_Equal_161.l0_k.mono (I := slices_Equal_161.l0_k.I) (fun go ih p r e => match p with
  | .l0 a0 a1 x12 x13 => slices_Equal_161.l0_k.step_l0 go ih a0 a1 x12 x13 r e
  ) e
theorem slices_Equal_161.l0.walk {h0 m0 h m : Heap} {A0 : Option Addr} {n0 c0 : Nat} {A1 : Option Addr} {n1 c1 : Nat} {a0 : List Int} {a1 : List Int} {x12 : Int} {x13 : Int} (S : St No h0 m0 h m) (ne0 : n0 = List.length a0) (k0 : List.length a0 ≤ c0) (r0 : Rd 1 (eInt .u64) m A0 a0) (ne1 : n1 = List.length a1) (k1 : List.length a1 ≤ c1) (r1 : Rd 1 (eInt .u64) m A1 a1) {r : Bool} (e : slices_Equal_161.l0 a0 a1 x12 x13 = some r) : f161.l0 (slices_Equal_161.post No h0 m0 r) A0 n0 c0 A1 n1 c1 x12 x13 h := slices_Equal_161.l0_k.all (p := .l0 a0 a1 x12 x13) e h0 m0 h m A0 n0 c0 A1 n1 c1 S ne0 k0 r0 ne1 k1 r1

noncomputable def slices_Equal_161 (a0 : List Int) (a1 : List Int) : Option (Bool) :=
  if (((List.length a0) : Nat) : Int) = (((List.length a1) : Nat) : Int) then ((slices_Equal_161.l0 a0 a1 (((List.length a0) : Nat) : Int) (0 : Int))) else (some (false))
set_option maxRecDepth 100000 in
theorem slices_Equal_161.walk {h m : Heap} {A0 : Option Addr} {n0 c0 : Nat} {A1 : Option Addr} {n1 c1 : Nat} {a0 : List Int} {a1 : List Int} (s : Sub m h) (ne0 : n0 = List.length a0) (k0 : List.length a0 ≤ c0) (r0 : Rd 1 (eInt .u64) m A0 a0) (ne1 : n1 = List.length a1) (k1 : List.length a1 ≤ c1) (r1 : Rd 1 (eInt .u64) m A1 a1) {r : Bool} (e : slices_Equal_161 a0 a1 = some r) : Run Try.prog 161 #[Value.slice A0 n0 c0, Value.slice A1 n1 c1] h (slices_Equal_161.post No h m r) := by
  unfold slices_Equal_161 at e
  subst ne0
  subst ne1
  have S : St No h m h m := .refl s
  refine f161.run ?_
  unfold f161.runT
  refine split_ne_e e (fun c1 e => ?_) (fun c1 e => ?_)
  · cases e
    exact ⟨_, S, rfl⟩
  · exact slices_Equal_161.l0.walk S rfl k0 r0 rfl k1 r1 e
theorem slices_Equal_161.val (l m : List Int) (hl : l.length ≤ 4611686018427387904) : ∃ b, slices_Equal_161 l m = some b ∧ (b = true ↔ l = m) := equal_val (R := fun x y => x = y) (fun a b n i => slices_Equal_161.l0_eq a b n i) (fun _ _ => rfl) (fun _ _ => Iff.rfl) l m hl

/-! ### 141 roadstead/heap.At -/
def heap_At.post (W : Nat → Prop) (h0 m0 : Heap) (r : T_heap_Object × Int) (v : Value) (h : Heap) : Prop := ∃ m cs0, St W h0 m0 h m ∧ v = .tuple #[.agg cs0.toArray, .int .i64 r.2] ∧ T_heap_Object.E m r.1 cs0
noncomputable def heap_At.j6 (y4 : T_heap_Object) (y10 : T_heap_Object) : Option (T_heap_Object × Int) :=
  some (y10, (0 : Int))
set_option maxRecDepth 100000 in
theorem heap_At.j6.walk {h0 m0 h m : Heap} {bk4 : Nat} {cs4 : List Value} {bk10 : Nat} {cs10 : List Value} {y4 : T_heap_Object} {y10 : T_heap_Object} (S : St No h0 m0 h m) (o4 : OB No h0 h m bk4 cs4 202) (e4 : T_heap_Object.E m y4 cs4) (o10 : OB No h0 h m bk10 cs10 202) (e10 : T_heap_Object.E m y10 cs10) (d0_1 : Dj (fb bk4) (fb bk10)) {r : T_heap_Object × Int} (e : heap_At.j6 y4 y10 = some r) : f141.j6 (heap_At.post No h0 m0 r) (⟨bk4, 0, none⟩ : Addr) (⟨bk10, 0, none⟩ : Addr) h := by
  unfold heap_At.j6 at e
  obtain ⟨Ae4_4, ce4_4, rfl, ke4_4, re4_4⟩ := e4
  obtain ⟨Ae10_4, ce10_4, rfl, ke10_4, re10_4⟩ := e10
  refine f141.j6_in ?_
  unfold f141.j6T
  refine ⟨_, ldA (Sub.refl _) o10.all, ?_⟩
  obtain ⟨h206, w207, o208, t209⟩ := o4.stA S.s [(Value.int .i64 y10.At), (Value.int .i64 y10.Kind), (Value.int .i64 y10.Num), (Value.string y10.Text), (Value.slice Ae10_4 (List.length y10.Parts) ce10_4)] rfl (Flats.cons trivial (Flats.cons trivial (Flats.cons trivial (Flats.cons trivial (Flats.cons trivial Flats.nil)))))
  refine ⟨[(Value.int .i64 y10.At), (Value.int .i64 y10.Kind), (Value.int .i64 y10.Num), (Value.string y10.Text), (Value.slice Ae10_4 (List.length y10.Parts) ce10_4)], rfl, rfl, h206, w207, ?_⟩
  have o208 : OB _ _ h206 _ bk4 [(Value.int .i64 y10.At), (Value.int .i64 y10.Kind), (Value.int .i64 y10.Num), (Value.string y10.Text), (Value.slice Ae10_4 (List.length y10.Parts) ce10_4)] 202 := o208
  have S210 := S.then t209 (fun i _ hi => o4.wr i hi)
  have o211 := o10.step t209 d0_1
  refine ⟨_, ldA (Sub.refl _) o208.all, ?_⟩
  cases e
  exact ⟨_, _, S210, rfl, (show T_heap_Object.E _ y10 [(Value.int .i64 y10.At), (Value.int .i64 y10.Kind), (Value.int .i64 y10.Num), (Value.string y10.Text), (Value.slice Ae10_4 (List.length y10.Parts) ce10_4)] from ⟨_, _, rfl, ke10_4, re10_4⟩)⟩

noncomputable def heap_At.j7 (y4 : T_heap_Object) (y10 : T_heap_Object) (b131 : Bool) : Option (T_heap_Object × Int) :=
  if b131 = true then (some ((T_heap_Object.mk (0 : Int) (0 : Int) (0 : Int) (ByteArray.mk #[]) ([] : List Int)), (3 : Int))) else ((heap_At.j6 y4 y10))
set_option maxRecDepth 100000 in
theorem heap_At.j7.walk {h0 m0 h m : Heap} {bk4 : Nat} {cs4 : List Value} {bk10 : Nat} {cs10 : List Value} {y4 : T_heap_Object} {y10 : T_heap_Object} {b131 : Bool} (S : St No h0 m0 h m) (o4 : OB No h0 h m bk4 cs4 202) (e4 : T_heap_Object.E m y4 cs4) (o10 : OB No h0 h m bk10 cs10 202) (e10 : T_heap_Object.E m y10 cs10) (d0_1 : Dj (fb bk4) (fb bk10)) {r : T_heap_Object × Int} (e : heap_At.j7 y4 y10 b131 = some r) : f141.j7 (heap_At.post No h0 m0 r) (⟨bk4, 0, none⟩ : Addr) (⟨bk10, 0, none⟩ : Addr) b131 h := by
  unfold heap_At.j7 at e
  obtain ⟨Ae4_4, ce4_4, rfl, ke4_4, re4_4⟩ := e4
  obtain ⟨Ae10_4, ce10_4, rfl, ke10_4, re10_4⟩ := e10
  refine f141.j7_in ?_
  unfold f141.j7T
  refine split_any_e e (fun c205 e => ?_) (fun c205 e => ?_)
  · obtain ⟨h199, w200, o201, t202⟩ := o4.stA S.s [(Value.int .i64 (0 : Int)), (Value.int .i64 (0 : Int)), (Value.int .i64 (0 : Int)), (Value.string (ByteArray.mk #[])), (Value.slice none 0 0)] rfl (Flats.cons trivial (Flats.cons trivial (Flats.cons trivial (Flats.cons trivial (Flats.cons trivial Flats.nil)))))
    refine ⟨[(Value.int .i64 (0 : Int)), (Value.int .i64 (0 : Int)), (Value.int .i64 (0 : Int)), (Value.string (ByteArray.mk #[])), (Value.slice none 0 0)], rfl, rfl, h199, w200, ?_⟩
    have o201 : OB _ _ h199 _ bk4 [(Value.int .i64 (0 : Int)), (Value.int .i64 (0 : Int)), (Value.int .i64 (0 : Int)), (Value.string (ByteArray.mk #[])), (Value.slice none 0 0)] 202 := o201
    have S203 := S.then t202 (fun i _ hi => o4.wr i hi)
    have o204 := o10.step t202 d0_1
    refine ⟨_, ldA (Sub.refl _) o201.all, ?_⟩
    cases e
    exact ⟨_, _, S203, rfl, (show T_heap_Object.E _ (T_heap_Object.mk (0 : Int) (0 : Int) (0 : Int) (ByteArray.mk #[]) ([] : List Int)) [(Value.int .i64 (0 : Int)), (Value.int .i64 (0 : Int)), (Value.int .i64 (0 : Int)), (Value.string (ByteArray.mk #[])), (Value.slice none 0 0)] from ⟨_, _, rfl, (Nat.le_refl 0), Rd.nil⟩)⟩
  · exact heap_At.j6.walk S o4 (show T_heap_Object.E _ y4 [(Value.int .i64 y4.At), (Value.int .i64 y4.Kind), (Value.int .i64 y4.Num), (Value.string y4.Text), (Value.slice Ae4_4 (List.length y4.Parts) ce4_4)] from ⟨_, _, rfl, ke4_4, re4_4⟩) o10 (show T_heap_Object.E _ y10 [(Value.int .i64 y10.At), (Value.int .i64 y10.Kind), (Value.int .i64 y10.Num), (Value.string y10.Text), (Value.slice Ae10_4 (List.length y10.Parts) ce10_4)] from ⟨_, _, rfl, ke10_4, re10_4⟩) d0_1 e

inductive heap_At.l0_k.Pt where
  | l0 (a0 : List Int) (x1 : Int) (y4 : T_heap_Object) (x8 : Int) (x9 : Int) (x10_0 : Int) (x10_1 : Int) (x10_2 : Int) (s10_3 : ByteArray) (a10_4 : List Int) (a11 : List Int) (x74 : Int) (x75 : Int)
noncomputable def heap_At.l0_k.body (go : (p : heap_At.l0_k.Pt) → Option (T_heap_Object × Int)) : (p : heap_At.l0_k.Pt) → Option (T_heap_Object × Int)
  | .l0 a0 x1 y4 x8 x9 x10_0 x10_1 x10_2 s10_3 a10_4 a11 x74 x75 => if x75 < x74 then (Option.bind (gi a0 (IntKind.wrap .i64 (x1 + (IntKind.wrap .i64 (Int.tdiv x75 (8 : Int)))))) fun y69 => if 0 ≤ (IntKind.wrap .i64 ((8 : Int) * (Int.tmod x75 (8 : Int)))) then (Option.bind (ap 1 a11 ([(IntKind.wrap .u8 (shrI .u64 y69 (IntKind.wrap .i64 ((8 : Int) * (Int.tmod x75 (8 : Int))))))] : List Int)) fun l91 => (go (.l0 a0 x1 y4 x8 x9 x10_0 x10_1 x10_2 s10_3 a10_4 l91 x74 (IntKind.wrap .i64 (x75 + (1 : Int)))))) else none) else (Option.bind (sls a0 (IntKind.wrap .i64 (x1 + (IntKind.wrap .i64 (Int.tdiv (IntKind.wrap .i64 (x8 + (7 : Int))) (8 : Int))))) (IntKind.wrap .i64 ((IntKind.wrap .i64 (x1 + (IntKind.wrap .i64 (Int.tdiv (IntKind.wrap .i64 (x8 + (7 : Int))) (8 : Int))))) + x9))) fun l117 => Option.bind (ap 8 a10_4 l117) fun l122 => Option.bind (heap_Put ([] : List Int) (T_heap_Object.mk x10_0 x10_1 x10_2 (bytesOf a11) l122)) fun y157 => if y157.2.2 = (0 : Int) then (Option.bind (sls a0 x10_0 (IntKind.wrap .i64 ((IntKind.wrap .i64 (x1 + (IntKind.wrap .i64 (Int.tdiv (IntKind.wrap .i64 (x8 + (7 : Int))) (8 : Int))))) + x9))) fun l176 => Option.bind (slices_Equal_161 y157.1 l176) fun y181 => (heap_At.j7 y4 (T_heap_Object.mk x10_0 x10_1 x10_2 (bytesOf a11) l122) (!y181))) else ((heap_At.j7 y4 (T_heap_Object.mk x10_0 x10_1 x10_2 (bytesOf a11) l122) true)))
theorem heap_At.l0_k.mono : MonoF (β := fun _ => (T_heap_Object × Int)) heap_At.l0_k.body := fun f g hfg p => match p with
  | .l0 a0 x1 y4 x8 x9 x10_0 x10_1 x10_2 s10_3 a10_4 a11 x74 x75 => LeO.ite (LeO.bind (LeO.refl _) fun y69 => LeO.ite (LeO.bind (LeO.refl _) fun l91 => (hfg _)) (LeO.refl _)) (LeO.bind (LeO.refl _) fun l117 => LeO.bind (LeO.refl _) fun l122 => LeO.bind (LeO.refl _) fun y157 => LeO.ite (LeO.bind (LeO.refl _) fun l176 => LeO.bind (LeO.refl _) fun y181 => (LeO.refl _)) ((LeO.refl _)))
noncomputable def heap_At.l0_k.go (p : heap_At.l0_k.Pt) : Option (T_heap_Object × Int) := fixF (β := fun _ => (T_heap_Object × Int)) heap_At.l0_k.body p
noncomputable def heap_At.l0 (a0 : List Int) (x1 : Int) (y4 : T_heap_Object) (x8 : Int) (x9 : Int) (x10_0 : Int) (x10_1 : Int) (x10_2 : Int) (s10_3 : ByteArray) (a10_4 : List Int) (a11 : List Int) (x74 : Int) (x75 : Int) : Option (T_heap_Object × Int) := heap_At.l0_k.go (.l0 a0 x1 y4 x8 x9 x10_0 x10_1 x10_2 s10_3 a10_4 a11 x74 x75)
theorem heap_At.l0_eq (a0 : List Int) (x1 : Int) (y4 : T_heap_Object) (x8 : Int) (x9 : Int) (x10_0 : Int) (x10_1 : Int) (x10_2 : Int) (s10_3 : ByteArray) (a10_4 : List Int) (a11 : List Int) (x74 : Int) (x75 : Int) : heap_At.l0 a0 x1 y4 x8 x9 x10_0 x10_1 x10_2 s10_3 a10_4 a11 x74 x75 = if x75 < x74 then (Option.bind (gi a0 (IntKind.wrap .i64 (x1 + (IntKind.wrap .i64 (Int.tdiv x75 (8 : Int)))))) fun y69 => if 0 ≤ (IntKind.wrap .i64 ((8 : Int) * (Int.tmod x75 (8 : Int)))) then (Option.bind (ap 1 a11 ([(IntKind.wrap .u8 (shrI .u64 y69 (IntKind.wrap .i64 ((8 : Int) * (Int.tmod x75 (8 : Int))))))] : List Int)) fun l91 => (heap_At.l0 a0 x1 y4 x8 x9 x10_0 x10_1 x10_2 s10_3 a10_4 l91 x74 (IntKind.wrap .i64 (x75 + (1 : Int))))) else none) else (Option.bind (sls a0 (IntKind.wrap .i64 (x1 + (IntKind.wrap .i64 (Int.tdiv (IntKind.wrap .i64 (x8 + (7 : Int))) (8 : Int))))) (IntKind.wrap .i64 ((IntKind.wrap .i64 (x1 + (IntKind.wrap .i64 (Int.tdiv (IntKind.wrap .i64 (x8 + (7 : Int))) (8 : Int))))) + x9))) fun l117 => Option.bind (ap 8 a10_4 l117) fun l122 => Option.bind (heap_Put ([] : List Int) (T_heap_Object.mk x10_0 x10_1 x10_2 (bytesOf a11) l122)) fun y157 => if y157.2.2 = (0 : Int) then (Option.bind (sls a0 x10_0 (IntKind.wrap .i64 ((IntKind.wrap .i64 (x1 + (IntKind.wrap .i64 (Int.tdiv (IntKind.wrap .i64 (x8 + (7 : Int))) (8 : Int))))) + x9))) fun l176 => Option.bind (slices_Equal_161 y157.1 l176) fun y181 => (heap_At.j7 y4 (T_heap_Object.mk x10_0 x10_1 x10_2 (bytesOf a11) l122) (!y181))) else ((heap_At.j7 y4 (T_heap_Object.mk x10_0 x10_1 x10_2 (bytesOf a11) l122) true))) := fixF_eq heap_At.l0_k.mono _
def heap_At.l0_k.I : (p : heap_At.l0_k.Pt) → (T_heap_Object × Int) → Prop
  | .l0 a0 x1 y4 x8 x9 x10_0 x10_1 x10_2 s10_3 a10_4 a11 x74 x75, r => ∀ (h0 m0 h m : Heap) (A0 : Option Addr) (n0 c0 : Nat) (bk4 : Nat) (cs4 : List Value) (bk10 : Nat) (A10_4 : Option Addr) (n10_4 c10_4 : Nat) (A11 : Option Addr) (n11 c11 : Nat) (S : St No h0 m0 h m) (ne0 : n0 = List.length a0) (k0 : List.length a0 ≤ c0) (r0 : Rd 1 (eInt .u64) m A0 a0) (o4 : OB No h0 h m bk4 cs4 202) (e4 : T_heap_Object.E m y4 cs4) (o10 : OB No h0 h m bk10 [(Value.int .i64 x10_0), (Value.int .i64 x10_1), (Value.int .i64 x10_2), (Value.string s10_3), (Value.slice A10_4 n10_4 c10_4)] 202) (ne10_4 : n10_4 = List.length a10_4) (o10_4 : OS No h0 1 (eInt .u64) h m A10_4 a10_4 c10_4) (ne11 : n11 = List.length a11) (o11 : OS No h0 1 (eInt .u8) h m A11 a11 c11) (d0_1 : Dj (fb bk4) (fb bk10)) (d0_2 : Dj (fb bk4) (fp A10_4 c10_4)) (d0_3 : Dj (fb bk4) (fp A11 c11)) (d1_2 : Dj (fb bk10) (fp A10_4 c10_4)) (d1_3 : Dj (fb bk10) (fp A11 c11)) (d2_3 : Dj (fp A10_4 c10_4) (fp A11 c11)), f141.l0 (heap_At.post No h0 m0 r) A0 n0 c0 x1 (⟨bk4, 0, none⟩ : Addr) x8 x9 (⟨bk10, 0, none⟩ : Addr) A11 n11 c11 x74 x75 h
set_option maxRecDepth 100000 in
theorem heap_At.l0_k.step_l0 (go : (p : heap_At.l0_k.Pt) → Option (T_heap_Object × Int)) (ih : ∀ p r, go p = some r → heap_At.l0_k.I p r) (a0 : List Int) (x1 : Int) (y4 : T_heap_Object) (x8 : Int) (x9 : Int) (x10_0 : Int) (x10_1 : Int) (x10_2 : Int) (s10_3 : ByteArray) (a10_4 : List Int) (a11 : List Int) (x74 : Int) (x75 : Int) (r : T_heap_Object × Int) (e : heap_At.l0_k.body go (.l0 a0 x1 y4 x8 x9 x10_0 x10_1 x10_2 s10_3 a10_4 a11 x74 x75) = some r) : heap_At.l0_k.I (.l0 a0 x1 y4 x8 x9 x10_0 x10_1 x10_2 s10_3 a10_4 a11 x74 x75) r := by
  unfold heap_At.l0_k.body at e
  intro h0 m0 h m A0 n0 c0 bk4 cs4 bk10 A10_4 n10_4 c10_4 A11 n11 c11 S ne0 k0 r0 o4 e4 o10 ne10_4 o10_4 ne11 o11 d0_1 d0_2 d0_3 d1_2 d1_3 d2_3
  subst ne0
  obtain ⟨Ae4_4, ce4_4, rfl, ke4_4, re4_4⟩ := e4
  subst ne10_4
  subst ne11
  refine f141.l0_in ?_
  unfold f141.l0T
  refine split_dec_e e (fun c198 e => ?_) (fun c198 e => ?_)
  · refine ⟨by decide, ?_⟩
    obtain ⟨y69, g70, e⟩ := bind_e e
    refine r0.addr rfl g70 fun a71 cs72 ha73 hc74 he75 => ?_
    obtain rfl : cs72 = [(Value.int .u64 y69)] := he75
    refine ⟨_, ld0 S.s hc74 rfl, _, rfl, ?_⟩
    refine ⟨by decide, ?_⟩
    obtain ⟨g76, e⟩ := guard_e e
    refine ⟨g76, ?_⟩
    refine new_in S fun h77 o78 x79 => ?_
    have d82 : Dj (fb bk4) (fb (Array.size h)) := Dj.new o4.lt
    have d83 : Dj (fp A10_4 c10_4) (fb (Array.size h)) := Dj.new o10_4.lt
    have d84 : Dj (fb bk10) (fb (Array.size h)) := Dj.new o10.lt
    have d85 : Dj (fp A11 c11) (fb (Array.size h)) := Dj.new o11.lt
    have o86 := o4.ext x79
    have o87 := o10_4.ext (tell_int .u64) S.s x79
    have o88 := o10.ext x79
    have o89 := o11.ext (tell_int .u8) S.s x79
    have S80 := S.ext' x79
    have o78 : OB _ _ h77 _ (Array.size h) [(Value.int .u8 (IntKind.wrap .u8 (shrI .u64 y69 (IntKind.wrap .i64 ((8 : Int) * (Int.tmod x75 (8 : Int)))))))] 5 := o78
    have o90 : OS _ _ 1 (eInt .u8) h77 m (some ⟨(Array.size h), 0, none⟩) ([(IntKind.wrap .u8 (shrI .u64 y69 (IntKind.wrap .i64 ((8 : Int) * (Int.tmod x75 (8 : Int))))))] : List Int) 1 := OB.row o78 (CsE.cons (c1 := [(Value.int .u8 (IntKind.wrap .u8 (shrI .u64 y69 (IntKind.wrap .i64 ((8 : Int) * (Int.tmod x75 (8 : Int)))))))]) rfl rfl CsE.nil) rfl
    obtain ⟨l91, g92, e⟩ := bind_e e
    refine o89.app (tell_int .u8) S80 rfl rfl (o90.srcE rfl) (by decide) g92 fun A93 c94 h95 o96 t97 n98 => ?_
    refine ⟨_, _, _, rfl, ?_⟩
    have d100 : Dj (fb bk4) (fp A93 c94) := Dj.app d0_3 o86.lt n98
    have d101 : Dj (fp A10_4 c10_4) (fp A93 c94) := Dj.app d2_3 o87.lt n98
    have d102 : Dj (fb bk10) (fp A93 c94) := Dj.app d1_3 o88.lt n98
    have d103 : Dj (fp (some ⟨(Array.size h), 0, none⟩) 1) (fp A93 c94) := Dj.app ((d85.row)).symm o90.lt n98
    have S104 := S80.then t97 (fun i _ hi => o89.wr i hi)
    have o105 := o86.step t97 (d0_3).symm
    have o106 := o87.step (tell_int .u64) t97 (d2_3).symm
    have o107 := o88.step t97 (d1_3).symm
    have o108 := o90.step (tell_int .u8) t97 (d85.row)
    exact (ih _ _ e) _ _ _ _ _ _ _ _ _ _ _ _ _ _ _ _ S104 rfl k0 r0 o105 (show T_heap_Object.E _ y4 [(Value.int .i64 y4.At), (Value.int .i64 y4.Kind), (Value.int .i64 y4.Num), (Value.string y4.Text), (Value.slice Ae4_4 (List.length y4.Parts) ce4_4)] from ⟨_, _, rfl, ke4_4, re4_4⟩) o107 rfl o106 rfl o96 d0_1 d0_2 d100 d1_2 d102 d101
  · refine gen_b2s' (e := 5) (by kernel_rfl) (by kernel_rfl) (by kernel_rfl) (o11.rd (tell_int .u8) S.s) rfl ?_
    refine ⟨_, rfl, ?_⟩
    refine ⟨by decide, ?_⟩
    obtain ⟨h109, w110, o111, t112⟩ := o10.st (k := 3) S.s (v := (Value.string (bytesOf a11))) (Nat.le_of_ble_eq_true rfl) trivial
    refine ⟨h109, w110, ?_⟩
    have o111 : OB _ _ h109 _ bk10 [(Value.int .i64 x10_0), (Value.int .i64 x10_1), (Value.int .i64 x10_2), (Value.string (bytesOf a11)), (Value.slice A10_4 (List.length a10_4) c10_4)] 202 := o111
    have S113 := S.then t112 (fun i _ hi => o10.wr i hi)
    have o114 := o4.step t112 (d0_1).symm
    have o115 := o10_4.step (tell_int .u64) t112 d1_2
    have o116 := o11.step (tell_int .u8) t112 d1_3
    obtain ⟨l117, g118, e⟩ := bind_e e
    have q119 := sls_e g118
    refine ⟨q119.1, q119.2.1, cap_in q119.2.2.1 k0, ?_⟩
    try rw [q119.2.2.2.1]
    have k120 : List.length l117 ≤ (c0 - Int.toNat (IntKind.wrap .i64 (x1 + (IntKind.wrap .i64 (Int.tdiv (IntKind.wrap .i64 (x8 + (7 : Int))) (8 : Int)))))) := sls_cap g118 k0
    have r121 := r0.sls g118 (le_mx q119.2.2.1 k0)
    refine ⟨_, ldk (k := 4) (Sub.refl _) o111.all rfl, _, _, _, rfl, ?_⟩
    obtain ⟨l122, g123, e⟩ := bind_e e
    refine o115.app (tell_int .u64) S113 rfl rfl (Rd.srcE r121 (tell_int .u64) S113.s rfl) (by decide) g123 fun A124 c125 h126 o127 t128 n129 => ?_
    refine ⟨_, _, _, rfl, ?_⟩
    have d131 : Dj (fb bk4) (fp A124 c125) := Dj.app d0_2 o114.lt n129
    have d132 : Dj (fb bk10) (fp A124 c125) := Dj.app d1_2 o111.lt n129
    have d133 : Dj (fp A11 c11) (fp A124 c125) := Dj.app (d2_3).symm o116.lt n129
    have S134 := S113.then t128 (fun i _ hi => o115.wr i hi)
    have o135 := o114.step t128 (d0_2).symm
    have o136 := o111.step t128 (d1_2).symm
    have o137 := o116.step (tell_int .u8) t128 d2_3
    obtain ⟨h138, w139, o140, t141⟩ := o136.st (k := 4) S134.s (v := (Value.slice A124 (List.length l122) c125)) (Nat.le_of_ble_eq_true rfl) trivial
    refine ⟨h138, w139, ?_⟩
    have o140 : OB _ _ h138 _ bk10 [(Value.int .i64 x10_0), (Value.int .i64 x10_1), (Value.int .i64 x10_2), (Value.string (bytesOf a11)), (Value.slice A124 (List.length l122) c125)] 202 := o140
    have S142 := S134.then t141 (fun i _ hi => o136.wr i hi)
    have o143 := o135.step t141 (d0_1).symm
    have o144 := o137.step (tell_int .u8) t141 d1_3
    have o145 := o127.step (tell_int .u64) t141 d132
    refine ⟨_, ldA (Sub.refl _) o140.all, ?_⟩
    obtain ⟨y157, g158, e⟩ := bind_e e
    obtain ⟨m150, L149, u146, s147, t148⟩ := St.lend S142.s (fp A124 c125)
    have r151 : Rd 1 (eInt .u64) m150 A124 l122 := o145.lent (tell_int .u64) S142.s L149 (fun _ h => h)
    have k152 := o145.cap
    have S153 := S142.then t148 (fun i _ hi => o145.wr i hi)
    have o154 := o143.step t148 (d131).symm
    have o155 := o140.step t148 (d132).symm
    have o156 := o144.step (tell_int .u8) t148 (d133).symm
    refine (heap_Put.walk S153.s rfl (Nat.le_refl 0) Rd.nil (show T_heap_Object.E _ (T_heap_Object.mk x10_0 x10_1 x10_2 (bytesOf a11) l122) [(Value.int .i64 x10_0), (Value.int .i64 x10_1), (Value.int .i64 x10_2), (Value.string (bytesOf a11)), (Value.slice A124 (List.length l122) c125)] from ⟨_, _, rfl, k152, r151⟩) g158).mono ?_
    rintro _ h159 ⟨m160, A162, n163, c164, T161, rfl, ne165, o166⟩
    subst ne165
    have S168 := S153.grow T161
    have o169 := o154.step T161 Dj.no
    have o170 := o155.step T161 Dj.no
    have o171 := o156.step (tell_int .u8) T161 Dj.no
    have d173 : Dj (fb bk4) (fp A162 c164) := fun i h1 h2 => absurd (o154.lt i h1) (Nat.not_lt.2 ((o166.new i h2).elim (fun h => h.elim) id))
    have d174 : Dj (fb bk10) (fp A162 c164) := fun i h1 h2 => absurd (o155.lt i h1) (Nat.not_lt.2 ((o166.new i h2).elim (fun h => h.elim) id))
    have d175 : Dj (fp A11 c11) (fp A162 c164) := fun i h1 h2 => absurd (o156.lt i h1) (Nat.not_lt.2 ((o166.new i h2).elim (fun h => h.elim) id))
    have o172 := o166.take S153 (fun _ h => h.elim)
    refine ⟨_, _, _, _, _, rfl, ?_⟩
    refine split_ne_e e (fun c197 e => ?_) (fun c197 e => ?_)
    · exact heap_At.j7.walk S168 o169 (show T_heap_Object.E _ y4 [(Value.int .i64 y4.At), (Value.int .i64 y4.Kind), (Value.int .i64 y4.Num), (Value.string y4.Text), (Value.slice Ae4_4 (List.length y4.Parts) ce4_4)] from ⟨_, _, rfl, ke4_4, (re4_4.sub (tell_int .u64) (t148.up.trans T161.up))⟩) o170 (show T_heap_Object.E _ (T_heap_Object.mk x10_0 x10_1 x10_2 (bytesOf a11) l122) [(Value.int .i64 x10_0), (Value.int .i64 x10_1), (Value.int .i64 x10_2), (Value.string (bytesOf a11)), (Value.slice A124 (List.length l122) c125)] from ⟨_, _, rfl, k152, (r151.sub (tell_int .u64) T161.up)⟩) d0_1 e
    · refine ⟨_, ld0 (Sub.refl _) o170.all rfl, _, rfl, ?_⟩
      obtain ⟨l176, g177, e⟩ := bind_e e
      have q178 := sls_e g177
      refine ⟨q178.1, q178.2.1, cap_in q178.2.2.1 k0, ?_⟩
      try rw [q178.2.2.2.1]
      have k179 : List.length l176 ≤ (c0 - Int.toNat x10_0) := sls_cap g177 k0
      have r180 := r0.sls g177 (le_mx q178.2.2.1 k0)
      obtain ⟨y181, g182, e⟩ := bind_e e
      obtain ⟨m186, L187, u188, s189, t190⟩ := St.lend S168.s (fp A162 c164)
      refine (slices_Equal_161.walk s189 rfl o172.cap (o172.lent (tell_int .u64) S168.s L187 (fun _ h => h)) rfl k179 (r180.sub (tell_int .u64) (t148.up.trans (T161.up.trans u188))) g182).mono ?_
      rintro _ h183 ⟨m184, T185, rfl⟩
      have T191 := T185.unlend S168.s (fun _ h => h.elim)
      have S192 := S168.grow T191
      have o193 := o169.step T191 Dj.no
      have o194 := o170.step T191 Dj.no
      have o195 := o171.step (tell_int .u8) T191 Dj.no
      have o196 := o172.step (tell_int .u64) T191 Dj.no
      refine ⟨_, rfl, ?_⟩
      exact heap_At.j7.walk S192 o193 (show T_heap_Object.E _ y4 [(Value.int .i64 y4.At), (Value.int .i64 y4.Kind), (Value.int .i64 y4.Num), (Value.string y4.Text), (Value.slice Ae4_4 (List.length y4.Parts) ce4_4)] from ⟨_, _, rfl, ke4_4, (re4_4.sub (tell_int .u64) (t148.up.trans T161.up))⟩) o194 (show T_heap_Object.E _ (T_heap_Object.mk x10_0 x10_1 x10_2 (bytesOf a11) l122) [(Value.int .i64 x10_0), (Value.int .i64 x10_1), (Value.int .i64 x10_2), (Value.string (bytesOf a11)), (Value.slice A124 (List.length l122) c125)] from ⟨_, _, rfl, k152, (r151.sub (tell_int .u64) T161.up)⟩) d0_1 e
theorem heap_At.l0_k.all {p : heap_At.l0_k.Pt} {r : (T_heap_Object × Int)} (e : heap_At.l0_k.go p = some r) : heap_At.l0_k.I p r := fixF_ind (β := fun _ => (T_heap_Object × Int)) heap_At.l0_k.mono (I := heap_At.l0_k.I) (fun go ih p r e => match p with
  | .l0 a0 x1 y4 x8 x9 x10_0 x10_1 x10_2 s10_3 a10_4 a11 x74 x75 => heap_At.l0_k.step_l0 go ih a0 x1 y4 x8 x9 x10_0 x10_1 x10_2 s10_3 a10_4 a11 x74 x75 r e
  ) e
theorem heap_At.l0.walk {h0 m0 h m : Heap} {A0 : Option Addr} {n0 c0 : Nat} {bk4 : Nat} {cs4 : List Value} {bk10 : Nat} {A10_4 : Option Addr} {n10_4 c10_4 : Nat} {A11 : Option Addr} {n11 c11 : Nat} {a0 : List Int} {x1 : Int} {y4 : T_heap_Object} {x8 : Int} {x9 : Int} {x10_0 : Int} {x10_1 : Int} {x10_2 : Int} {s10_3 : ByteArray} {a10_4 : List Int} {a11 : List Int} {x74 : Int} {x75 : Int} (S : St No h0 m0 h m) (ne0 : n0 = List.length a0) (k0 : List.length a0 ≤ c0) (r0 : Rd 1 (eInt .u64) m A0 a0) (o4 : OB No h0 h m bk4 cs4 202) (e4 : T_heap_Object.E m y4 cs4) (o10 : OB No h0 h m bk10 [(Value.int .i64 x10_0), (Value.int .i64 x10_1), (Value.int .i64 x10_2), (Value.string s10_3), (Value.slice A10_4 n10_4 c10_4)] 202) (ne10_4 : n10_4 = List.length a10_4) (o10_4 : OS No h0 1 (eInt .u64) h m A10_4 a10_4 c10_4) (ne11 : n11 = List.length a11) (o11 : OS No h0 1 (eInt .u8) h m A11 a11 c11) (d0_1 : Dj (fb bk4) (fb bk10)) (d0_2 : Dj (fb bk4) (fp A10_4 c10_4)) (d0_3 : Dj (fb bk4) (fp A11 c11)) (d1_2 : Dj (fb bk10) (fp A10_4 c10_4)) (d1_3 : Dj (fb bk10) (fp A11 c11)) (d2_3 : Dj (fp A10_4 c10_4) (fp A11 c11)) {r : T_heap_Object × Int} (e : heap_At.l0 a0 x1 y4 x8 x9 x10_0 x10_1 x10_2 s10_3 a10_4 a11 x74 x75 = some r) : f141.l0 (heap_At.post No h0 m0 r) A0 n0 c0 x1 (⟨bk4, 0, none⟩ : Addr) x8 x9 (⟨bk10, 0, none⟩ : Addr) A11 n11 c11 x74 x75 h := heap_At.l0_k.all (p := .l0 a0 x1 y4 x8 x9 x10_0 x10_1 x10_2 s10_3 a10_4 a11 x74 x75) e h0 m0 h m A0 n0 c0 bk4 cs4 bk10 A10_4 n10_4 c10_4 A11 n11 c11 S ne0 k0 r0 o4 e4 o10 ne10_4 o10_4 ne11 o11 d0_1 d0_2 d0_3 d1_2 d1_3 d2_3

noncomputable def heap_At.j4 (a0 : List Int) (x1 : Int) (y4 : T_heap_Object) (x8 : Int) (x9 : Int) (x10_0 : Int) (x10_1 : Int) (x10_2 : Int) (s10_3 : ByteArray) (a10_4 : List Int) : Option (T_heap_Object × Int) :=
  (heap_At.l0 a0 x1 y4 x8 x9 x10_0 x10_1 x10_2 s10_3 a10_4 ([] : List Int) x8 (0 : Int))
set_option maxRecDepth 100000 in
theorem heap_At.j4.walk {h0 m0 h m : Heap} {A0 : Option Addr} {n0 c0 : Nat} {bk4 : Nat} {cs4 : List Value} {bk10 : Nat} {A10_4 : Option Addr} {n10_4 c10_4 : Nat} {a0 : List Int} {x1 : Int} {y4 : T_heap_Object} {x8 : Int} {x9 : Int} {x10_0 : Int} {x10_1 : Int} {x10_2 : Int} {s10_3 : ByteArray} {a10_4 : List Int} (S : St No h0 m0 h m) (ne0 : n0 = List.length a0) (k0 : List.length a0 ≤ c0) (r0 : Rd 1 (eInt .u64) m A0 a0) (o4 : OB No h0 h m bk4 cs4 202) (e4 : T_heap_Object.E m y4 cs4) (o10 : OB No h0 h m bk10 [(Value.int .i64 x10_0), (Value.int .i64 x10_1), (Value.int .i64 x10_2), (Value.string s10_3), (Value.slice A10_4 n10_4 c10_4)] 202) (ne10_4 : n10_4 = List.length a10_4) (o10_4 : OS No h0 1 (eInt .u64) h m A10_4 a10_4 c10_4) (d0_1 : Dj (fb bk4) (fb bk10)) (d0_2 : Dj (fb bk4) (fp A10_4 c10_4)) (d1_2 : Dj (fb bk10) (fp A10_4 c10_4)) {r : T_heap_Object × Int} (e : heap_At.j4 a0 x1 y4 x8 x9 x10_0 x10_1 x10_2 s10_3 a10_4 = some r) : f141.j4 (heap_At.post No h0 m0 r) A0 n0 c0 x1 (⟨bk4, 0, none⟩ : Addr) x8 x9 (⟨bk10, 0, none⟩ : Addr) h := by
  unfold heap_At.j4 at e
  subst ne0
  obtain ⟨Ae4_4, ce4_4, rfl, ke4_4, re4_4⟩ := e4
  subst ne10_4
  refine f141.j4_in ?_
  unfold f141.j4T
  have o68 : OS No h0 1 (eInt .u8) h m none ([] : List Int) 0 := .inl ⟨rfl, rfl⟩
  exact heap_At.l0.walk S rfl k0 r0 o4 (show T_heap_Object.E _ y4 [(Value.int .i64 y4.At), (Value.int .i64 y4.Kind), (Value.int .i64 y4.Num), (Value.string y4.Text), (Value.slice Ae4_4 (List.length y4.Parts) ce4_4)] from ⟨_, _, rfl, ke4_4, re4_4⟩) o10 rfl o10_4 rfl o68 d0_1 d0_2 (show Dj (fb bk4) (fp none 0) from Dj.nil) d1_2 (show Dj (fb bk10) (fp none 0) from Dj.nil) (show Dj (fp A10_4 c10_4) (fp none 0) from Dj.nil) e

noncomputable def heap_At.j5 (a0 : List Int) (x1 : Int) (y4 : T_heap_Object) (x8 : Int) (x9 : Int) (x10_0 : Int) (x10_1 : Int) (x10_2 : Int) (s10_3 : ByteArray) (a10_4 : List Int) (b65 : Bool) : Option (T_heap_Object × Int) :=
  if b65 = true then (Option.bind (gi a0 x1) fun y52 => (heap_At.j4 a0 (IntKind.wrap .i64 (x1 + (1 : Int))) y4 x8 x9 x10_0 x10_1 (IntKind.wrap .i64 y52) s10_3 a10_4)) else ((heap_At.j4 a0 x1 y4 x8 x9 x10_0 x10_1 x10_2 s10_3 a10_4))
set_option maxRecDepth 100000 in
theorem heap_At.j5.walk {h0 m0 h m : Heap} {A0 : Option Addr} {n0 c0 : Nat} {bk4 : Nat} {cs4 : List Value} {bk10 : Nat} {A10_4 : Option Addr} {n10_4 c10_4 : Nat} {a0 : List Int} {x1 : Int} {y4 : T_heap_Object} {x8 : Int} {x9 : Int} {x10_0 : Int} {x10_1 : Int} {x10_2 : Int} {s10_3 : ByteArray} {a10_4 : List Int} {b65 : Bool} (S : St No h0 m0 h m) (ne0 : n0 = List.length a0) (k0 : List.length a0 ≤ c0) (r0 : Rd 1 (eInt .u64) m A0 a0) (o4 : OB No h0 h m bk4 cs4 202) (e4 : T_heap_Object.E m y4 cs4) (o10 : OB No h0 h m bk10 [(Value.int .i64 x10_0), (Value.int .i64 x10_1), (Value.int .i64 x10_2), (Value.string s10_3), (Value.slice A10_4 n10_4 c10_4)] 202) (ne10_4 : n10_4 = List.length a10_4) (o10_4 : OS No h0 1 (eInt .u64) h m A10_4 a10_4 c10_4) (d0_1 : Dj (fb bk4) (fb bk10)) (d0_2 : Dj (fb bk4) (fp A10_4 c10_4)) (d1_2 : Dj (fb bk10) (fp A10_4 c10_4)) {r : T_heap_Object × Int} (e : heap_At.j5 a0 x1 y4 x8 x9 x10_0 x10_1 x10_2 s10_3 a10_4 b65 = some r) : f141.j5 (heap_At.post No h0 m0 r) A0 n0 c0 x1 (⟨bk4, 0, none⟩ : Addr) x8 x9 (⟨bk10, 0, none⟩ : Addr) b65 h := by
  unfold heap_At.j5 at e
  subst ne0
  obtain ⟨Ae4_4, ce4_4, rfl, ke4_4, re4_4⟩ := e4
  subst ne10_4
  refine f141.j5_in ?_
  unfold f141.j5T
  refine split_any_e e (fun c66 e => ?_) (fun c66 e => ?_)
  · obtain ⟨y52, g53, e⟩ := bind_e e
    refine r0.addr rfl g53 fun a54 cs55 ha56 hc57 he58 => ?_
    obtain rfl : cs55 = [(Value.int .u64 y52)] := he58
    refine ⟨_, ld0 S.s hc57 rfl, _, rfl, ?_⟩
    obtain ⟨h59, w60, o61, t62⟩ := o10.st (k := 2) S.s (v := (Value.int .i64 (IntKind.wrap .i64 y52))) (Nat.le_of_ble_eq_true rfl) trivial
    refine ⟨h59, w60, ?_⟩
    have o61 : OB _ _ h59 _ bk10 [(Value.int .i64 x10_0), (Value.int .i64 x10_1), (Value.int .i64 (IntKind.wrap .i64 y52)), (Value.string s10_3), (Value.slice A10_4 (List.length a10_4) c10_4)] 202 := o61
    have S63 := S.then t62 (fun i _ hi => o10.wr i hi)
    have o64 := o4.step t62 (d0_1).symm
    have o65 := o10_4.step (tell_int .u64) t62 d1_2
    exact heap_At.j4.walk S63 rfl k0 r0 o64 (show T_heap_Object.E _ y4 [(Value.int .i64 y4.At), (Value.int .i64 y4.Kind), (Value.int .i64 y4.Num), (Value.string y4.Text), (Value.slice Ae4_4 (List.length y4.Parts) ce4_4)] from ⟨_, _, rfl, ke4_4, re4_4⟩) o61 rfl o65 d0_1 d0_2 d1_2 e
  · exact heap_At.j4.walk S rfl k0 r0 o4 (show T_heap_Object.E _ y4 [(Value.int .i64 y4.At), (Value.int .i64 y4.Kind), (Value.int .i64 y4.Num), (Value.string y4.Text), (Value.slice Ae4_4 (List.length y4.Parts) ce4_4)] from ⟨_, _, rfl, ke4_4, re4_4⟩) o10 rfl o10_4 d0_1 d0_2 d1_2 e

noncomputable def heap_At.j2 (a0 : List Int) (x1 : Int) (y4 : T_heap_Object) (x7 : Int) (x8 : Int) (x9 : Int) : Option (T_heap_Object × Int) :=
  if x7 = (1 : Int) then ((heap_At.j5 a0 (IntKind.wrap .i64 (x1 + (1 : Int))) y4 x8 x9 x1 x7 (0 : Int) (ByteArray.mk #[]) ([] : List Int) true)) else ((heap_At.j5 a0 (IntKind.wrap .i64 (x1 + (1 : Int))) y4 x8 x9 x1 x7 (0 : Int) (ByteArray.mk #[]) ([] : List Int) (x7 == (4 : Int))))
set_option maxRecDepth 100000 in
theorem heap_At.j2.walk {h0 m0 h m : Heap} {A0 : Option Addr} {n0 c0 : Nat} {bk4 : Nat} {cs4 : List Value} {a0 : List Int} {x1 : Int} {y4 : T_heap_Object} {x7 : Int} {x8 : Int} {x9 : Int} (S : St No h0 m0 h m) (ne0 : n0 = List.length a0) (k0 : List.length a0 ≤ c0) (r0 : Rd 1 (eInt .u64) m A0 a0) (o4 : OB No h0 h m bk4 cs4 202) (e4 : T_heap_Object.E m y4 cs4) {r : T_heap_Object × Int} (e : heap_At.j2 a0 x1 y4 x7 x8 x9 = some r) : f141.j2 (heap_At.post No h0 m0 r) A0 n0 c0 x1 (⟨bk4, 0, none⟩ : Addr) x7 x8 x9 h := by
  unfold heap_At.j2 at e
  subst ne0
  obtain ⟨Ae4_4, ce4_4, rfl, ke4_4, re4_4⟩ := e4
  refine f141.j2_in ?_
  unfold f141.j2T
  refine new_in S fun h34 o35 x36 => ?_
  have d39 : Dj (fb bk4) (fb (Array.size h)) := Dj.new o4.lt
  have o40 := o4.ext x36
  have S37 := S.ext' x36
  have o35 : OB _ _ h34 _ (Array.size h) [(Value.int .i64 (0 : Int)), (Value.int .i64 (0 : Int)), (Value.int .i64 (0 : Int)), (Value.string (ByteArray.mk #[])), (Value.slice none 0 0)] 202 := o35
  obtain ⟨h41, w42, o43, t44⟩ := o35.stA S37.s [(Value.int .i64 x1), (Value.int .i64 x7), (Value.int .i64 (0 : Int)), (Value.string (ByteArray.mk #[])), (Value.slice none 0 0)] rfl (Flats.cons trivial (Flats.cons trivial (Flats.cons trivial (Flats.cons trivial (Flats.cons trivial Flats.nil)))))
  refine ⟨[(Value.int .i64 x1), (Value.int .i64 x7), (Value.int .i64 (0 : Int)), (Value.string (ByteArray.mk #[])), (Value.slice none 0 0)], rfl, rfl, h41, w42, ?_⟩
  have o43 : OB _ _ h41 _ (Array.size h) [(Value.int .i64 x1), (Value.int .i64 x7), (Value.int .i64 (0 : Int)), (Value.string (ByteArray.mk #[])), (Value.slice none 0 0)] 202 := o43
  have S45 := S37.then t44 (fun i _ hi => o35.wr i hi)
  have o46 := o40.step t44 (d39).symm
  refine split_eq_e e (fun c51 e => ?_) (fun c51 e => ?_)
  · have o48 : OS No h0 1 (eInt .u64) h41 m none ([] : List Int) 0 := .inl ⟨rfl, rfl⟩
    exact heap_At.j5.walk S45 rfl k0 r0 o46 (show T_heap_Object.E _ y4 [(Value.int .i64 y4.At), (Value.int .i64 y4.Kind), (Value.int .i64 y4.Num), (Value.string y4.Text), (Value.slice Ae4_4 (List.length y4.Parts) ce4_4)] from ⟨_, _, rfl, ke4_4, re4_4⟩) o43 rfl o48 d39 (show Dj (fb bk4) (fp none 0) from Dj.nil) (show Dj (fb (Array.size h)) (fp none 0) from Dj.nil) e
  · have o50 : OS No h0 1 (eInt .u64) h41 m none ([] : List Int) 0 := .inl ⟨rfl, rfl⟩
    exact heap_At.j5.walk S45 rfl k0 r0 o46 (show T_heap_Object.E _ y4 [(Value.int .i64 y4.At), (Value.int .i64 y4.Kind), (Value.int .i64 y4.Num), (Value.string y4.Text), (Value.slice Ae4_4 (List.length y4.Parts) ce4_4)] from ⟨_, _, rfl, ke4_4, re4_4⟩) o43 rfl o50 d39 (show Dj (fb bk4) (fp none 0) from Dj.nil) (show Dj (fb (Array.size h)) (fp none 0) from Dj.nil) e

noncomputable def heap_At.j3 (a0 : List Int) (x1 : Int) (y4 : T_heap_Object) (x7 : Int) (x8 : Int) (x9 : Int) (b53 : Bool) : Option (T_heap_Object × Int) :=
  if b53 = true then (some ((T_heap_Object.mk (0 : Int) (0 : Int) (0 : Int) (ByteArray.mk #[]) ([] : List Int)), (3 : Int))) else ((heap_At.j2 a0 x1 y4 x7 x8 x9))
set_option maxRecDepth 100000 in
theorem heap_At.j3.walk {h0 m0 h m : Heap} {A0 : Option Addr} {n0 c0 : Nat} {bk4 : Nat} {cs4 : List Value} {a0 : List Int} {x1 : Int} {y4 : T_heap_Object} {x7 : Int} {x8 : Int} {x9 : Int} {b53 : Bool} (S : St No h0 m0 h m) (ne0 : n0 = List.length a0) (k0 : List.length a0 ≤ c0) (r0 : Rd 1 (eInt .u64) m A0 a0) (o4 : OB No h0 h m bk4 cs4 202) (e4 : T_heap_Object.E m y4 cs4) {r : T_heap_Object × Int} (e : heap_At.j3 a0 x1 y4 x7 x8 x9 b53 = some r) : f141.j3 (heap_At.post No h0 m0 r) A0 n0 c0 x1 (⟨bk4, 0, none⟩ : Addr) x7 x8 x9 b53 h := by
  unfold heap_At.j3 at e
  subst ne0
  obtain ⟨Ae4_4, ce4_4, rfl, ke4_4, re4_4⟩ := e4
  refine f141.j3_in ?_
  unfold f141.j3T
  refine split_any_e e (fun c33 e => ?_) (fun c33 e => ?_)
  · obtain ⟨h28, w29, o30, t31⟩ := o4.stA S.s [(Value.int .i64 (0 : Int)), (Value.int .i64 (0 : Int)), (Value.int .i64 (0 : Int)), (Value.string (ByteArray.mk #[])), (Value.slice none 0 0)] rfl (Flats.cons trivial (Flats.cons trivial (Flats.cons trivial (Flats.cons trivial (Flats.cons trivial Flats.nil)))))
    refine ⟨[(Value.int .i64 (0 : Int)), (Value.int .i64 (0 : Int)), (Value.int .i64 (0 : Int)), (Value.string (ByteArray.mk #[])), (Value.slice none 0 0)], rfl, rfl, h28, w29, ?_⟩
    have o30 : OB _ _ h28 _ bk4 [(Value.int .i64 (0 : Int)), (Value.int .i64 (0 : Int)), (Value.int .i64 (0 : Int)), (Value.string (ByteArray.mk #[])), (Value.slice none 0 0)] 202 := o30
    have S32 := S.then t31 (fun i _ hi => o4.wr i hi)
    refine ⟨_, ldA (Sub.refl _) o30.all, ?_⟩
    cases e
    exact ⟨_, _, S32, rfl, (show T_heap_Object.E _ (T_heap_Object.mk (0 : Int) (0 : Int) (0 : Int) (ByteArray.mk #[]) ([] : List Int)) [(Value.int .i64 (0 : Int)), (Value.int .i64 (0 : Int)), (Value.int .i64 (0 : Int)), (Value.string (ByteArray.mk #[])), (Value.slice none 0 0)] from ⟨_, _, rfl, (Nat.le_refl 0), Rd.nil⟩)⟩
  · exact heap_At.j2.walk S rfl k0 r0 o4 (show T_heap_Object.E _ y4 [(Value.int .i64 y4.At), (Value.int .i64 y4.Kind), (Value.int .i64 y4.Num), (Value.string y4.Text), (Value.slice Ae4_4 (List.length y4.Parts) ce4_4)] from ⟨_, _, rfl, ke4_4, re4_4⟩) e

noncomputable def heap_At.j0 (a0 : List Int) (x1 : Int) (y4 : T_heap_Object) : Option (T_heap_Object × Int) :=
  Option.bind (gi a0 x1) fun y13 => if (shrI .u64 y13 (32 : Int)) = (0 : Int) then (Option.bind (heap_room (IntKind.wrap .i64 (bitsI .and .u64 y13 (255 : Int))) (IntKind.wrap .i64 (bitsI .and .u64 (shrI .u64 y13 (8 : Int)) (4095 : Int))) (IntKind.wrap .i64 (bitsI .and .u64 (shrI .u64 y13 (20 : Int)) (4095 : Int)))) fun y20 => (heap_At.j3 a0 x1 y4 (IntKind.wrap .i64 (bitsI .and .u64 y13 (255 : Int))) (IntKind.wrap .i64 (bitsI .and .u64 (shrI .u64 y13 (8 : Int)) (4095 : Int))) (IntKind.wrap .i64 (bitsI .and .u64 (shrI .u64 y13 (20 : Int)) (4095 : Int))) (decide (y20 > (IntKind.wrap .i64 ((((List.length a0) : Nat) : Int) - x1)))))) else ((heap_At.j3 a0 x1 y4 (IntKind.wrap .i64 (bitsI .and .u64 y13 (255 : Int))) (IntKind.wrap .i64 (bitsI .and .u64 (shrI .u64 y13 (8 : Int)) (4095 : Int))) (IntKind.wrap .i64 (bitsI .and .u64 (shrI .u64 y13 (20 : Int)) (4095 : Int))) true))
set_option maxRecDepth 100000 in
theorem heap_At.j0.walk {h0 m0 h m : Heap} {A0 : Option Addr} {n0 c0 : Nat} {bk4 : Nat} {cs4 : List Value} {a0 : List Int} {x1 : Int} {y4 : T_heap_Object} (S : St No h0 m0 h m) (ne0 : n0 = List.length a0) (k0 : List.length a0 ≤ c0) (r0 : Rd 1 (eInt .u64) m A0 a0) (o4 : OB No h0 h m bk4 cs4 202) (e4 : T_heap_Object.E m y4 cs4) {r : T_heap_Object × Int} (e : heap_At.j0 a0 x1 y4 = some r) : f141.j0 (heap_At.post No h0 m0 r) A0 n0 c0 x1 (⟨bk4, 0, none⟩ : Addr) h := by
  unfold heap_At.j0 at e
  subst ne0
  obtain ⟨Ae4_4, ce4_4, rfl, ke4_4, re4_4⟩ := e4
  refine f141.j0_in ?_
  unfold f141.j0T
  obtain ⟨y13, g14, e⟩ := bind_e e
  refine r0.addr rfl g14 fun a15 cs16 ha17 hc18 he19 => ?_
  obtain rfl : cs16 = [(Value.int .u64 y13)] := he19
  refine ⟨_, ld0 S.s hc18 rfl, _, rfl, ?_⟩
  refine ⟨by decide, ?_⟩
  refine ⟨by decide, ?_⟩
  refine ⟨by decide, ?_⟩
  refine split_ne_e e (fun c27 e => ?_) (fun c27 e => ?_)
  · exact heap_At.j3.walk S rfl k0 r0 o4 (show T_heap_Object.E _ y4 [(Value.int .i64 y4.At), (Value.int .i64 y4.Kind), (Value.int .i64 y4.Num), (Value.string y4.Text), (Value.slice Ae4_4 (List.length y4.Parts) ce4_4)] from ⟨_, _, rfl, ke4_4, re4_4⟩) e
  · obtain ⟨y20, g21, e⟩ := bind_e e
    refine (heap_room.walk S.s  g21).mono ?_
    rintro _ h22 ⟨m23, T24, rfl⟩
    have S25 := S.grow T24
    have o26 := o4.step T24 Dj.no
    refine ⟨_, rfl, ?_⟩
    exact heap_At.j3.walk S25 rfl k0 (r0.sub (tell_int .u64) T24.up) o26 (show T_heap_Object.E _ y4 [(Value.int .i64 y4.At), (Value.int .i64 y4.Kind), (Value.int .i64 y4.Num), (Value.string y4.Text), (Value.slice Ae4_4 (List.length y4.Parts) ce4_4)] from ⟨_, _, rfl, ke4_4, (re4_4.sub (tell_int .u64) T24.up)⟩) e

noncomputable def heap_At.j1 (a0 : List Int) (x1 : Int) (y4 : T_heap_Object) (b23 : Bool) : Option (T_heap_Object × Int) :=
  if b23 = true then (some ((T_heap_Object.mk (0 : Int) (0 : Int) (0 : Int) (ByteArray.mk #[]) ([] : List Int)), (4 : Int))) else ((heap_At.j0 a0 x1 y4))
set_option maxRecDepth 100000 in
theorem heap_At.j1.walk {h0 m0 h m : Heap} {A0 : Option Addr} {n0 c0 : Nat} {bk4 : Nat} {cs4 : List Value} {a0 : List Int} {x1 : Int} {y4 : T_heap_Object} {b23 : Bool} (S : St No h0 m0 h m) (ne0 : n0 = List.length a0) (k0 : List.length a0 ≤ c0) (r0 : Rd 1 (eInt .u64) m A0 a0) (o4 : OB No h0 h m bk4 cs4 202) (e4 : T_heap_Object.E m y4 cs4) {r : T_heap_Object × Int} (e : heap_At.j1 a0 x1 y4 b23 = some r) : f141.j1 (heap_At.post No h0 m0 r) A0 n0 c0 x1 (⟨bk4, 0, none⟩ : Addr) b23 h := by
  unfold heap_At.j1 at e
  subst ne0
  obtain ⟨Ae4_4, ce4_4, rfl, ke4_4, re4_4⟩ := e4
  refine f141.j1_in ?_
  unfold f141.j1T
  refine split_any_e e (fun c12 e => ?_) (fun c12 e => ?_)
  · obtain ⟨h7, w8, o9, t10⟩ := o4.stA S.s [(Value.int .i64 (0 : Int)), (Value.int .i64 (0 : Int)), (Value.int .i64 (0 : Int)), (Value.string (ByteArray.mk #[])), (Value.slice none 0 0)] rfl (Flats.cons trivial (Flats.cons trivial (Flats.cons trivial (Flats.cons trivial (Flats.cons trivial Flats.nil)))))
    refine ⟨[(Value.int .i64 (0 : Int)), (Value.int .i64 (0 : Int)), (Value.int .i64 (0 : Int)), (Value.string (ByteArray.mk #[])), (Value.slice none 0 0)], rfl, rfl, h7, w8, ?_⟩
    have o9 : OB _ _ h7 _ bk4 [(Value.int .i64 (0 : Int)), (Value.int .i64 (0 : Int)), (Value.int .i64 (0 : Int)), (Value.string (ByteArray.mk #[])), (Value.slice none 0 0)] 202 := o9
    have S11 := S.then t10 (fun i _ hi => o4.wr i hi)
    refine ⟨_, ldA (Sub.refl _) o9.all, ?_⟩
    cases e
    exact ⟨_, _, S11, rfl, (show T_heap_Object.E _ (T_heap_Object.mk (0 : Int) (0 : Int) (0 : Int) (ByteArray.mk #[]) ([] : List Int)) [(Value.int .i64 (0 : Int)), (Value.int .i64 (0 : Int)), (Value.int .i64 (0 : Int)), (Value.string (ByteArray.mk #[])), (Value.slice none 0 0)] from ⟨_, _, rfl, (Nat.le_refl 0), Rd.nil⟩)⟩
  · exact heap_At.j0.walk S rfl k0 r0 o4 (show T_heap_Object.E _ y4 [(Value.int .i64 y4.At), (Value.int .i64 y4.Kind), (Value.int .i64 y4.Num), (Value.string y4.Text), (Value.slice Ae4_4 (List.length y4.Parts) ce4_4)] from ⟨_, _, rfl, ke4_4, re4_4⟩) e

noncomputable def heap_At (a0 : List Int) (x1 : Int) : Option (T_heap_Object × Int) :=
  if x1 < (0 : Int) then ((heap_At.j1 a0 x1 (T_heap_Object.mk (0 : Int) (0 : Int) (0 : Int) (ByteArray.mk #[]) ([] : List Int)) true)) else ((heap_At.j1 a0 x1 (T_heap_Object.mk (0 : Int) (0 : Int) (0 : Int) (ByteArray.mk #[]) ([] : List Int)) (decide (x1 ≥ (((List.length a0) : Nat) : Int)))))
set_option maxRecDepth 100000 in
theorem heap_At.walk {h m : Heap} {A0 : Option Addr} {n0 c0 : Nat} {a0 : List Int} {x1 : Int} (s : Sub m h) (ne0 : n0 = List.length a0) (k0 : List.length a0 ≤ c0) (r0 : Rd 1 (eInt .u64) m A0 a0) {r : T_heap_Object × Int} (e : heap_At a0 x1 = some r) : Run Try.prog 141 #[Value.slice A0 n0 c0, Value.int .i64 x1] h (heap_At.post No h m r) := by
  unfold heap_At at e
  subst ne0
  have S : St No h m h m := .refl s
  refine f141.run ?_
  unfold f141.runT
  refine new_in S fun h1 o2 x3 => ?_
  have S4 := S.ext' x3
  have o2 : OB _ _ h1 _ (Array.size h) [(Value.int .i64 (0 : Int)), (Value.int .i64 (0 : Int)), (Value.int .i64 (0 : Int)), (Value.string (ByteArray.mk #[])), (Value.slice none 0 0)] 202 := o2
  refine split_dec_e e (fun c6 e => ?_) (fun c6 e => ?_)
  · exact heap_At.j1.walk S4 rfl k0 r0 o2 (show T_heap_Object.E _ (T_heap_Object.mk (0 : Int) (0 : Int) (0 : Int) (ByteArray.mk #[]) ([] : List Int)) [(Value.int .i64 (0 : Int)), (Value.int .i64 (0 : Int)), (Value.int .i64 (0 : Int)), (Value.string (ByteArray.mk #[])), (Value.slice none 0 0)] from ⟨_, _, rfl, (Nat.le_refl 0), Rd.nil⟩) e
  · exact heap_At.j1.walk S4 rfl k0 r0 o2 (show T_heap_Object.E _ (T_heap_Object.mk (0 : Int) (0 : Int) (0 : Int) (ByteArray.mk #[]) ([] : List Int)) [(Value.int .i64 (0 : Int)), (Value.int .i64 (0 : Int)), (Value.int .i64 (0 : Int)), (Value.string (ByteArray.mk #[])), (Value.slice none 0 0)] from ⟨_, _, rfl, (Nat.le_refl 0), Rd.nil⟩) e

/-! ### 143 roadstead/term.Read -/
def term_Read.post (W : Nat → Prop) (h0 m0 : Heap) (r : Int × Int × Int) (v : Value) (h : Heap) : Prop := ∃ m , St W h0 m0 h m ∧ v = .tuple #[.int .i64 r.1, .int .i64 r.2.1, .int .i64 r.2.2]
noncomputable def term_Read.j1 (x5 : Int) (x6 : Int) : Option (Int × Int × Int) :=
  some (x5, x6, (0 : Int))
set_option maxRecDepth 100000 in
theorem term_Read.j1.walk {h0 m0 h m : Heap} {x5 : Int} {x6 : Int} (S : St No h0 m0 h m)  {r : Int × Int × Int} (e : term_Read.j1 x5 x6 = some r) : f143.j1 (term_Read.post No h0 m0 r) x5 x6 h := by
  unfold term_Read.j1 at e
  refine f143.j1_in ?_
  unfold f143.j1T
  cases e
  exact ⟨_, S, rfl⟩

noncomputable def term_Read.j2 (x5 : Int) (x6 : Int) (b32 : Bool) : Option (Int × Int × Int) :=
  if b32 = true then (some ((0 : Int), (0 : Int), (3 : Int))) else ((term_Read.j1 x5 x6))
set_option maxRecDepth 100000 in
theorem term_Read.j2.walk {h0 m0 h m : Heap} {x5 : Int} {x6 : Int} {b32 : Bool} (S : St No h0 m0 h m)  {r : Int × Int × Int} (e : term_Read.j2 x5 x6 b32 = some r) : f143.j2 (term_Read.post No h0 m0 r) x5 x6 b32 h := by
  unfold term_Read.j2 at e
  refine f143.j2_in ?_
  unfold f143.j2T
  refine split_any_e e (fun c9 e => ?_) (fun c9 e => ?_)
  · cases e
    exact ⟨_, S, rfl⟩
  · exact term_Read.j1.walk S  e

noncomputable def term_Read.j0 (x0 : Int) (x5 : Int) (x6 : Int) : Option (Int × Int × Int) :=
  Option.bind (term_Word x5 x6) fun y2 => if y2.2 = (0 : Int) then ((term_Read.j2 x5 x6 (y2.1 != x0))) else ((term_Read.j2 x5 x6 true))
set_option maxRecDepth 100000 in
theorem term_Read.j0.walk {h0 m0 h m : Heap} {x0 : Int} {x5 : Int} {x6 : Int} (S : St No h0 m0 h m)  {r : Int × Int × Int} (e : term_Read.j0 x0 x5 x6 = some r) : f143.j0 (term_Read.post No h0 m0 r) x0 x5 x6 h := by
  unfold term_Read.j0 at e
  refine f143.j0_in ?_
  unfold f143.j0T
  obtain ⟨y2, g3, e⟩ := bind_e e
  refine (term_Word.walk S.s  g3).mono ?_
  rintro _ h4 ⟨m5, T6, rfl⟩
  have S7 := S.grow T6
  refine ⟨_, _, rfl, ?_⟩
  refine split_ne_e e (fun c8 e => ?_) (fun c8 e => ?_)
  · exact term_Read.j2.walk S7  e
  · exact term_Read.j2.walk S7  e

noncomputable def term_Read (x0 : Int) : Option (Int × Int × Int) :=
  if (IntKind.wrap .i64 (Int.tmod x0 (8 : Int))) = (1 : Int) then ((term_Read.j0 x0 (IntKind.wrap .i64 (Int.tmod x0 (8 : Int))) (shrI .i64 (IntKind.wrap .i64 x0) (3 : Int)))) else ((term_Read.j0 x0 (IntKind.wrap .i64 (Int.tmod x0 (8 : Int))) (IntKind.wrap .i64 (shrI .u64 x0 (3 : Int)))))
set_option maxRecDepth 100000 in
theorem term_Read.walk {h m : Heap} {x0 : Int} (s : Sub m h)  {r : Int × Int × Int} (e : term_Read x0 = some r) : Run Try.prog 143 #[Value.int .u64 x0] h (term_Read.post No h m r) := by
  unfold term_Read at e
  have S : St No h m h m := .refl s
  refine f143.run ?_
  unfold f143.runT
  refine ⟨by decide, ?_⟩
  refine ⟨by decide, ?_⟩
  refine split_eq_e e (fun c1 e => ?_) (fun c1 e => ?_)
  · refine ⟨by decide, ?_⟩
    exact term_Read.j0.walk S  e
  · exact term_Read.j0.walk S  e

/-! ### 154 roadstead/term.Value -/
def term_Value.post (W : Nat → Prop) (h0 m0 : Heap) (r : T_api_Value × Bool) (v : Value) (h : Heap) : Prop := ∃ m cs0, St W h0 m0 h m ∧ v = .tuple #[.agg cs0.toArray, .bool r.2] ∧ T_api_Value.E m r.1 cs0
noncomputable def term_Value.j0 (y2 : T_api_Value) (x4 : Int) (x5 : Int) : Option (T_api_Value × Bool) :=
  Option.bind (gi ([(1 : Int), (2 : Int), (3 : Int), (6 : Int)] : List Int) x4) fun y20 => some ((T_api_Value.mk y20 x5 (ByteArray.mk #[]) ([] : List T_api_Value)), true)
set_option maxRecDepth 100000 in
theorem term_Value.j0.walk {h0 m0 h m : Heap} {bk2 : Nat} {cs2 : List Value} {y2 : T_api_Value} {x4 : Int} {x5 : Int} (S : St No h0 m0 h m) (o2 : OB No h0 h m bk2 cs2 137) (e2 : T_api_Value.E m y2 cs2) {r : T_api_Value × Bool} (e : term_Value.j0 y2 x4 x5 = some r) : f154.j0 (term_Value.post No h0 m0 r) (⟨bk2, 0, none⟩ : Addr) x4 x5 h := by
  unfold term_Value.j0 at e
  obtain ⟨Ae2_3, ce2_3, rfl, ke2_3, re2_3⟩ := T_api_Value.iff.1 e2
  refine f154.j0_in ?_
  unfold f154.j0T
  obtain ⟨y20, g21, e⟩ := bind_e e
  refine ⟨gi_le g21, gi_ltn g21 rfl, _, fldArr (n := 4) (f := (fun n : Int => Value.int .i64 n)) (d := (0 : Int)) rfl rfl g21, _, rfl, ?_⟩
  obtain ⟨h22, w23, o24, t25⟩ := o2.stA S.s [(Value.int .i64 y20), (Value.int .i64 x5), (Value.string (ByteArray.mk #[])), (Value.slice none 0 0)] rfl (Flats.cons trivial (Flats.cons trivial (Flats.cons trivial (Flats.cons trivial Flats.nil))))
  refine ⟨[(Value.int .i64 y20), (Value.int .i64 x5), (Value.string (ByteArray.mk #[])), (Value.slice none 0 0)], rfl, rfl, h22, w23, ?_⟩
  have o24 : OB _ _ h22 _ bk2 [(Value.int .i64 y20), (Value.int .i64 x5), (Value.string (ByteArray.mk #[])), (Value.slice none 0 0)] 137 := o24
  have S26 := S.then t25 (fun i _ hi => o2.wr i hi)
  refine ⟨_, ldA (Sub.refl _) o24.all, ?_⟩
  cases e
  exact ⟨_, _, S26, rfl, (T_api_Value.iff.2 ⟨_, _, rfl, (Nat.le_refl 0), Rd.nil⟩)⟩

noncomputable def term_Value.j1 (y2 : T_api_Value) (x4 : Int) (x5 : Int) (b18 : Bool) : Option (T_api_Value × Bool) :=
  if b18 = true then (some ((T_api_Value.mk (0 : Int) (0 : Int) (ByteArray.mk #[]) ([] : List T_api_Value)), false)) else ((term_Value.j0 y2 x4 x5))
set_option maxRecDepth 100000 in
theorem term_Value.j1.walk {h0 m0 h m : Heap} {bk2 : Nat} {cs2 : List Value} {y2 : T_api_Value} {x4 : Int} {x5 : Int} {b18 : Bool} (S : St No h0 m0 h m) (o2 : OB No h0 h m bk2 cs2 137) (e2 : T_api_Value.E m y2 cs2) {r : T_api_Value × Bool} (e : term_Value.j1 y2 x4 x5 b18 = some r) : f154.j1 (term_Value.post No h0 m0 r) (⟨bk2, 0, none⟩ : Addr) x4 x5 b18 h := by
  unfold term_Value.j1 at e
  obtain ⟨Ae2_3, ce2_3, rfl, ke2_3, re2_3⟩ := T_api_Value.iff.1 e2
  refine f154.j1_in ?_
  unfold f154.j1T
  refine split_any_e e (fun c19 e => ?_) (fun c19 e => ?_)
  · obtain ⟨h14, w15, o16, t17⟩ := o2.stA S.s [(Value.int .i64 (0 : Int)), (Value.int .i64 (0 : Int)), (Value.string (ByteArray.mk #[])), (Value.slice none 0 0)] rfl (Flats.cons trivial (Flats.cons trivial (Flats.cons trivial (Flats.cons trivial Flats.nil))))
    refine ⟨[(Value.int .i64 (0 : Int)), (Value.int .i64 (0 : Int)), (Value.string (ByteArray.mk #[])), (Value.slice none 0 0)], rfl, rfl, h14, w15, ?_⟩
    have o16 : OB _ _ h14 _ bk2 [(Value.int .i64 (0 : Int)), (Value.int .i64 (0 : Int)), (Value.string (ByteArray.mk #[])), (Value.slice none 0 0)] 137 := o16
    have S18 := S.then t17 (fun i _ hi => o2.wr i hi)
    refine ⟨_, ldA (Sub.refl _) o16.all, ?_⟩
    cases e
    exact ⟨_, _, S18, rfl, (T_api_Value.iff.2 ⟨_, _, rfl, (Nat.le_refl 0), Rd.nil⟩)⟩
  · exact term_Value.j0.walk S o2 (T_api_Value.iff.2 ⟨_, _, rfl, ke2_3, re2_3⟩) e

noncomputable def term_Value (x0 : Int) : Option (T_api_Value × Bool) :=
  Option.bind (term_Read x0) fun y6 => if y6.2.2 = (0 : Int) then ((term_Value.j1 (T_api_Value.mk (0 : Int) (0 : Int) (ByteArray.mk #[]) ([] : List T_api_Value)) y6.1 y6.2.1 (y6.1 == (4 : Int)))) else ((term_Value.j1 (T_api_Value.mk (0 : Int) (0 : Int) (ByteArray.mk #[]) ([] : List T_api_Value)) y6.1 y6.2.1 true))
set_option maxRecDepth 100000 in
theorem term_Value.walk {h m : Heap} {x0 : Int} (s : Sub m h)  {r : T_api_Value × Bool} (e : term_Value x0 = some r) : Run Try.prog 154 #[Value.int .u64 x0] h (term_Value.post No h m r) := by
  unfold term_Value at e
  have S : St No h m h m := .refl s
  refine f154.run ?_
  unfold f154.runT
  refine new_in S fun h1 o2 x3 => ?_
  have S4 := S.ext' x3
  have o2 : OB _ _ h1 _ (Array.size h) [(Value.int .i64 (0 : Int)), (Value.int .i64 (0 : Int)), (Value.string (ByteArray.mk #[])), (Value.slice none 0 0)] 137 := o2
  obtain ⟨y6, g7, e⟩ := bind_e e
  refine (term_Read.walk S4.s  g7).mono ?_
  rintro _ h8 ⟨m9, T10, rfl⟩
  have S11 := S4.grow T10
  have o12 := o2.step T10 Dj.no
  refine ⟨_, _, _, rfl, ?_⟩
  refine split_ne_e e (fun c13 e => ?_) (fun c13 e => ?_)
  · exact term_Value.j1.walk S11 o12 (T_api_Value.iff.2 ⟨_, _, rfl, (Nat.le_refl 0), Rd.nil⟩) e
  · exact term_Value.j1.walk S11 o12 (T_api_Value.iff.2 ⟨_, _, rfl, (Nat.le_refl 0), Rd.nil⟩) e

/-! ### 155 roadstead/heap.kinds -/
def heap_kinds.post (W : Nat → Prop) (h0 m0 : Heap) (r : Int) (v : Value) (h : Heap) : Prop := ∃ m , St W h0 m0 h m ∧ v = .int .i64 r
noncomputable def heap_kinds (x0 : Int) : Option (Int) :=
  Option.bind (gi ([(0 : Int), (2 : Int), (4 : Int), (5 : Int), (7 : Int), (8 : Int)] : List Int) x0) fun y1 => some (y1)
set_option maxRecDepth 100000 in
theorem heap_kinds.walk {h m : Heap} {x0 : Int} (s : Sub m h)  {r : Int} (e : heap_kinds x0 = some r) : Run Try.prog 155 #[Value.int .i64 x0] h (heap_kinds.post No h m r) := by
  unfold heap_kinds at e
  have S : St No h m h m := .refl s
  refine f155.run ?_
  unfold f155.runT
  obtain ⟨y1, g2, e⟩ := bind_e e
  refine ⟨gi_le g2, gi_ltn g2 rfl, _, fldArr (n := 6) (f := (fun n : Int => Value.int .i64 n)) (d := (0 : Int)) rfl rfl g2, _, rfl, ?_⟩
  cases e
  exact ⟨_, S, rfl⟩

/-! ### 119 roadstead/heap.read -/
def heap_read.post (W : Nat → Prop) (bkio3 : Nat) (h0 m0 : Heap) (r : T_api_Value × Int × Int) (v : Value) (h : Heap) : Prop := ∃ m cs0 csio3, St W h0 m0 h m ∧ v = .tuple #[.agg cs0.toArray, .int .i64 r.2.1] ∧ T_api_Value.E m r.1 cs0 ∧ OB W h0 h m bkio3 csio3 3 ∧ (eInt .i64) m r.2.2 csio3
inductive heap_read_k.Pt where
  | f (a0 : List Int) (x1 : Int) (x2 : Int) (yio3 : Int)
  | j1 (a0 : List Int) (x1 : Int) (x2 : Int) (yio3 : Int) (y8 : T_api_Value) (b33 : Bool)
  | j0 (a0 : List Int) (x1 : Int) (x2 : Int) (yio3 : Int) (y8 : T_api_Value)
  | l0 (a0 : List Int) (x2 : Int) (yio3 : Int) (y8 : T_api_Value) (x16_0 : Int) (x16_1 : Int) (s16_2 : ByteArray) (a16_3 : List T_api_Value) (a71 : List Int) (x72 : Int) (x73 : Int)
noncomputable def heap_read_k.body (go : (p : heap_read_k.Pt) → Option (T_api_Value × Int × Int)) : (p : heap_read_k.Pt) → Option (T_api_Value × Int × Int)
  | .f a0 x1 x2 yio3 => if (IntKind.wrap .i64 (yio3 - (1 : Int))) < (0 : Int) then ((go (.j1 a0 x1 x2 (IntKind.wrap .i64 (yio3 - (1 : Int))) (T_api_Value.mk (0 : Int) (0 : Int) (ByteArray.mk #[]) ([] : List T_api_Value)) true))) else ((go (.j1 a0 x1 x2 (IntKind.wrap .i64 (yio3 - (1 : Int))) (T_api_Value.mk (0 : Int) (0 : Int) (ByteArray.mk #[]) ([] : List T_api_Value)) (decide (x2 < (1 : Int))))))
  | .j1 a0 x1 x2 yio3 y8 b33 => if b33 = true then (some ((T_api_Value.mk (0 : Int) (0 : Int) (ByteArray.mk #[]) ([] : List T_api_Value)), (2 : Int), yio3)) else ((go (.j0 a0 x1 x2 yio3 y8)))
  | .j0 a0 x1 x2 yio3 y8 => Option.bind (term_Value x1) fun y22 => if y22.2 = true then (some (y22.1, (0 : Int), yio3)) else (Option.bind (term_Read x1) fun y55 => if y55.2.2 = (0 : Int) then (Option.bind (heap_At a0 y55.2.1) fun y71 => if y71.2 = (0 : Int) then (Option.bind (heap_kinds y71.1.Kind) fun y109 => (go (.l0 a0 x2 yio3 y8 y109 y71.1.Num y71.1.Text ([] : List T_api_Value) y71.1.Parts (((List.length y71.1.Parts) : Nat) : Int) (0 : Int)))) else (some ((T_api_Value.mk (0 : Int) (0 : Int) (ByteArray.mk #[]) ([] : List T_api_Value)), y71.2, yio3))) else (some ((T_api_Value.mk (0 : Int) (0 : Int) (ByteArray.mk #[]) ([] : List T_api_Value)), y55.2.2, yio3)))
  | .l0 a0 x2 yio3 y8 x16_0 x16_1 s16_2 a16_3 a71 x72 x73 => if x73 < x72 then (Option.bind (gi a71 x73) fun y239 => Option.bind ((go (.f a0 y239 (IntKind.wrap .i64 (x2 - (1 : Int))) yio3))) fun y246 => if y246.2.1 = (0 : Int) then (Option.bind (ap 56 a16_3 ([y246.1] : List T_api_Value)) fun l308 => (go (.l0 a0 x2 y246.2.2 y8 x16_0 x16_1 s16_2 l308 a71 x72 (IntKind.wrap .i64 (x73 + (1 : Int)))))) else (some ((T_api_Value.mk (0 : Int) (0 : Int) (ByteArray.mk #[]) ([] : List T_api_Value)), y246.2.1, y246.2.2))) else (some ((T_api_Value.mk x16_0 x16_1 s16_2 a16_3), (0 : Int), yio3))
theorem heap_read_k.mono : MonoF (β := fun _ => (T_api_Value × Int × Int)) heap_read_k.body := fun f g hfg p => match p with
  | .f a0 x1 x2 yio3 => LeO.ite ((hfg _)) ((hfg _))
  | .j1 a0 x1 x2 yio3 y8 b33 => LeO.ite (LeO.refl _) ((hfg _))
  | .j0 a0 x1 x2 yio3 y8 => LeO.bind (LeO.refl _) fun y22 => LeO.ite (LeO.refl _) (LeO.bind (LeO.refl _) fun y55 => LeO.ite (LeO.bind (LeO.refl _) fun y71 => LeO.ite (LeO.bind (LeO.refl _) fun y109 => (hfg _)) (LeO.refl _)) (LeO.refl _))
  | .l0 a0 x2 yio3 y8 x16_0 x16_1 s16_2 a16_3 a71 x72 x73 => LeO.ite (LeO.bind (LeO.refl _) fun y239 => LeO.bind ((hfg _)) fun y246 => LeO.ite (LeO.bind (LeO.refl _) fun l308 => (hfg _)) (LeO.refl _)) (LeO.refl _)
noncomputable def heap_read_k.go (p : heap_read_k.Pt) : Option (T_api_Value × Int × Int) := fixF (β := fun _ => (T_api_Value × Int × Int)) heap_read_k.body p
noncomputable def heap_read (a0 : List Int) (x1 : Int) (x2 : Int) (yio3 : Int) : Option (T_api_Value × Int × Int) := heap_read_k.go (.f a0 x1 x2 yio3)
noncomputable def heap_read.j1 (a0 : List Int) (x1 : Int) (x2 : Int) (yio3 : Int) (y8 : T_api_Value) (b33 : Bool) : Option (T_api_Value × Int × Int) := heap_read_k.go (.j1 a0 x1 x2 yio3 y8 b33)
noncomputable def heap_read.j0 (a0 : List Int) (x1 : Int) (x2 : Int) (yio3 : Int) (y8 : T_api_Value) : Option (T_api_Value × Int × Int) := heap_read_k.go (.j0 a0 x1 x2 yio3 y8)
noncomputable def heap_read.l0 (a0 : List Int) (x2 : Int) (yio3 : Int) (y8 : T_api_Value) (x16_0 : Int) (x16_1 : Int) (s16_2 : ByteArray) (a16_3 : List T_api_Value) (a71 : List Int) (x72 : Int) (x73 : Int) : Option (T_api_Value × Int × Int) := heap_read_k.go (.l0 a0 x2 yio3 y8 x16_0 x16_1 s16_2 a16_3 a71 x72 x73)
theorem heap_read_eq (a0 : List Int) (x1 : Int) (x2 : Int) (yio3 : Int) : heap_read a0 x1 x2 yio3 = if (IntKind.wrap .i64 (yio3 - (1 : Int))) < (0 : Int) then ((heap_read.j1 a0 x1 x2 (IntKind.wrap .i64 (yio3 - (1 : Int))) (T_api_Value.mk (0 : Int) (0 : Int) (ByteArray.mk #[]) ([] : List T_api_Value)) true)) else ((heap_read.j1 a0 x1 x2 (IntKind.wrap .i64 (yio3 - (1 : Int))) (T_api_Value.mk (0 : Int) (0 : Int) (ByteArray.mk #[]) ([] : List T_api_Value)) (decide (x2 < (1 : Int))))) := fixF_eq heap_read_k.mono _
theorem heap_read.j1_eq (a0 : List Int) (x1 : Int) (x2 : Int) (yio3 : Int) (y8 : T_api_Value) (b33 : Bool) : heap_read.j1 a0 x1 x2 yio3 y8 b33 = if b33 = true then (some ((T_api_Value.mk (0 : Int) (0 : Int) (ByteArray.mk #[]) ([] : List T_api_Value)), (2 : Int), yio3)) else ((heap_read.j0 a0 x1 x2 yio3 y8)) := fixF_eq heap_read_k.mono _
theorem heap_read.j0_eq (a0 : List Int) (x1 : Int) (x2 : Int) (yio3 : Int) (y8 : T_api_Value) : heap_read.j0 a0 x1 x2 yio3 y8 = Option.bind (term_Value x1) fun y22 => if y22.2 = true then (some (y22.1, (0 : Int), yio3)) else (Option.bind (term_Read x1) fun y55 => if y55.2.2 = (0 : Int) then (Option.bind (heap_At a0 y55.2.1) fun y71 => if y71.2 = (0 : Int) then (Option.bind (heap_kinds y71.1.Kind) fun y109 => (heap_read.l0 a0 x2 yio3 y8 y109 y71.1.Num y71.1.Text ([] : List T_api_Value) y71.1.Parts (((List.length y71.1.Parts) : Nat) : Int) (0 : Int))) else (some ((T_api_Value.mk (0 : Int) (0 : Int) (ByteArray.mk #[]) ([] : List T_api_Value)), y71.2, yio3))) else (some ((T_api_Value.mk (0 : Int) (0 : Int) (ByteArray.mk #[]) ([] : List T_api_Value)), y55.2.2, yio3))) := fixF_eq heap_read_k.mono _
theorem heap_read.l0_eq (a0 : List Int) (x2 : Int) (yio3 : Int) (y8 : T_api_Value) (x16_0 : Int) (x16_1 : Int) (s16_2 : ByteArray) (a16_3 : List T_api_Value) (a71 : List Int) (x72 : Int) (x73 : Int) : heap_read.l0 a0 x2 yio3 y8 x16_0 x16_1 s16_2 a16_3 a71 x72 x73 = if x73 < x72 then (Option.bind (gi a71 x73) fun y239 => Option.bind ((heap_read a0 y239 (IntKind.wrap .i64 (x2 - (1 : Int))) yio3)) fun y246 => if y246.2.1 = (0 : Int) then (Option.bind (ap 56 a16_3 ([y246.1] : List T_api_Value)) fun l308 => (heap_read.l0 a0 x2 y246.2.2 y8 x16_0 x16_1 s16_2 l308 a71 x72 (IntKind.wrap .i64 (x73 + (1 : Int))))) else (some ((T_api_Value.mk (0 : Int) (0 : Int) (ByteArray.mk #[]) ([] : List T_api_Value)), y246.2.1, y246.2.2))) else (some ((T_api_Value.mk x16_0 x16_1 s16_2 a16_3), (0 : Int), yio3)) := fixF_eq heap_read_k.mono _
def heap_read_k.I : (p : heap_read_k.Pt) → (T_api_Value × Int × Int) → Prop
  | .f a0 x1 x2 yio3, r => ∀ (W : Nat → Prop) (h m : Heap) (A0 : Option Addr) (n0 c0 : Nat) (bkio3 : Nat) (csio3 : List Value) (s : Sub m h) (ne0 : n0 = List.length a0) (k0 : List.length a0 ≤ c0) (r0 : Rd 1 (eInt .u64) m A0 a0) (oio3 : OB W h h m bkio3 csio3 3) (eio3 : (eInt .i64) m yio3 csio3), Run Try.prog 119 #[Value.slice A0 n0 c0, Value.int .u64 x1, Value.int .i64 x2, Value.pointer (some ⟨bkio3, 0, none⟩)] h (heap_read.post W bkio3 h m r)
  | .j1 a0 x1 x2 yio3 y8 b33, r => ∀ (W : Nat → Prop) (h0 m0 h m : Heap) (A0 : Option Addr) (n0 c0 : Nat) (bkio3 : Nat) (csio3 : List Value) (bk8 : Nat) (cs8 : List Value) (S : St W h0 m0 h m) (ne0 : n0 = List.length a0) (k0 : List.length a0 ≤ c0) (r0 : Rd 1 (eInt .u64) m A0 a0) (oio3 : OB W h0 h m bkio3 csio3 3) (eio3 : (eInt .i64) m yio3 csio3) (o8 : OB W h0 h m bk8 cs8 137) (e8 : T_api_Value.E m y8 cs8) (d0_1 : Dj (fb bkio3) (fb bk8)), f119.j1 (heap_read.post W bkio3 h0 m0 r) A0 n0 c0 x1 x2 (⟨bkio3, 0, none⟩ : Addr) (⟨bk8, 0, none⟩ : Addr) b33 h
  | .j0 a0 x1 x2 yio3 y8, r => ∀ (W : Nat → Prop) (h0 m0 h m : Heap) (A0 : Option Addr) (n0 c0 : Nat) (bkio3 : Nat) (csio3 : List Value) (bk8 : Nat) (cs8 : List Value) (S : St W h0 m0 h m) (ne0 : n0 = List.length a0) (k0 : List.length a0 ≤ c0) (r0 : Rd 1 (eInt .u64) m A0 a0) (oio3 : OB W h0 h m bkio3 csio3 3) (eio3 : (eInt .i64) m yio3 csio3) (o8 : OB W h0 h m bk8 cs8 137) (e8 : T_api_Value.E m y8 cs8) (d0_1 : Dj (fb bkio3) (fb bk8)), f119.j0 (heap_read.post W bkio3 h0 m0 r) A0 n0 c0 x1 x2 (⟨bkio3, 0, none⟩ : Addr) (⟨bk8, 0, none⟩ : Addr) h
  | .l0 a0 x2 yio3 y8 x16_0 x16_1 s16_2 a16_3 a71 x72 x73, r => ∀ (W : Nat → Prop) (h0 m0 h m : Heap) (A0 : Option Addr) (n0 c0 : Nat) (bkio3 : Nat) (csio3 : List Value) (bk8 : Nat) (cs8 : List Value) (bk16 : Nat) (A16_3 : Option Addr) (n16_3 c16_3 : Nat) (A71 : Option Addr) (n71 c71 : Nat) (S : St W h0 m0 h m) (ne0 : n0 = List.length a0) (k0 : List.length a0 ≤ c0) (r0 : Rd 1 (eInt .u64) m A0 a0) (oio3 : OB W h0 h m bkio3 csio3 3) (eio3 : (eInt .i64) m yio3 csio3) (o8 : OB W h0 h m bk8 cs8 137) (e8 : T_api_Value.E m y8 cs8) (o16 : OB W h0 h m bk16 [(Value.int .i64 x16_0), (Value.int .i64 x16_1), (Value.string s16_2), (Value.slice A16_3 n16_3 c16_3)] 137) (ne16_3 : n16_3 = List.length a16_3) (o16_3 : OS W h0 4 T_api_Value.E h m A16_3 a16_3 c16_3) (ne71 : n71 = List.length a71) (k71 : List.length a71 ≤ c71) (r71 : Rd 1 (eInt .u64) m A71 a71) (d0_1 : Dj (fb bkio3) (fb bk8)) (d0_2 : Dj (fb bkio3) (fb bk16)) (d0_3 : Dj (fb bkio3) (fp A16_3 c16_3)) (d1_2 : Dj (fb bk8) (fb bk16)) (d1_3 : Dj (fb bk8) (fp A16_3 c16_3)) (d2_3 : Dj (fb bk16) (fp A16_3 c16_3)), f119.l0 (heap_read.post W bkio3 h0 m0 r) A0 n0 c0 x2 (⟨bkio3, 0, none⟩ : Addr) (⟨bk8, 0, none⟩ : Addr) (⟨bk16, 0, none⟩ : Addr) A71 n71 c71 x72 x73 h
set_option maxRecDepth 100000 in
theorem heap_read_k.step_f (go : (p : heap_read_k.Pt) → Option (T_api_Value × Int × Int)) (ih : ∀ p r, go p = some r → heap_read_k.I p r) (a0 : List Int) (x1 : Int) (x2 : Int) (yio3 : Int) (r : T_api_Value × Int × Int) (e : heap_read_k.body go (.f a0 x1 x2 yio3) = some r) : heap_read_k.I (.f a0 x1 x2 yio3) r := by
  unfold heap_read_k.body at e
  intro W h m A0 n0 c0 bkio3 csio3 s ne0 k0 r0 oio3 eio3
  subst ne0
  obtain rfl : csio3 = [(Value.int .i64 yio3)] := eio3
  have S : St W h m h m := .refl s
  refine f119.run ?_
  unfold f119.runT
  refine new_in S fun h1 o2 x3 => ?_
  have d6 : Dj (fb bkio3) (fb (Array.size h)) := Dj.new oio3.lt
  have o7 := oio3.ext x3
  have S4 := S.ext' x3
  have o2 : OB _ _ h1 _ (Array.size h) [(Value.int .i64 (0 : Int)), (Value.int .i64 (0 : Int)), (Value.string (ByteArray.mk #[])), (Value.slice none 0 0)] 137 := o2
  refine ⟨_, ld0 (Sub.refl _) o7.all rfl, _, rfl, ?_⟩
  obtain ⟨h8, w9, o10, t11⟩ := o7.st0 S4.s (v := (Value.int .i64 (IntKind.wrap .i64 (yio3 - (1 : Int))))) (by exact Nat.succ_pos _) trivial
  refine ⟨h8, w9, ?_⟩
  have o10 : OB _ _ h8 _ bkio3 [(Value.int .i64 (IntKind.wrap .i64 (yio3 - (1 : Int))))] 3 := o10
  have S12 := S4.then t11 (fun i _ hi => o7.wr i hi)
  have o13 := o2.step t11 d6
  refine ⟨_, ld0 (Sub.refl _) o10.all rfl, _, rfl, ?_⟩
  refine split_dec_e e (fun c14 e => ?_) (fun c14 e => ?_)
  · exact (ih _ _ e) _ _ _ _ _ _ _ _ _ _ _ _ S12 rfl k0 r0 o10 rfl o13 (T_api_Value.iff.2 ⟨_, _, rfl, (Nat.le_refl 0), Rd.nil⟩) d6
  · exact (ih _ _ e) _ _ _ _ _ _ _ _ _ _ _ _ S12 rfl k0 r0 o10 rfl o13 (T_api_Value.iff.2 ⟨_, _, rfl, (Nat.le_refl 0), Rd.nil⟩) d6
set_option maxRecDepth 100000 in
theorem heap_read_k.step_j1 (go : (p : heap_read_k.Pt) → Option (T_api_Value × Int × Int)) (ih : ∀ p r, go p = some r → heap_read_k.I p r) (a0 : List Int) (x1 : Int) (x2 : Int) (yio3 : Int) (y8 : T_api_Value) (b33 : Bool) (r : T_api_Value × Int × Int) (e : heap_read_k.body go (.j1 a0 x1 x2 yio3 y8 b33) = some r) : heap_read_k.I (.j1 a0 x1 x2 yio3 y8 b33) r := by
  unfold heap_read_k.body at e
  intro W h0 m0 h m A0 n0 c0 bkio3 csio3 bk8 cs8 S ne0 k0 r0 oio3 eio3 o8 e8 d0_1
  subst ne0
  obtain rfl : csio3 = [(Value.int .i64 yio3)] := eio3
  obtain ⟨Ae8_3, ce8_3, rfl, ke8_3, re8_3⟩ := T_api_Value.iff.1 e8
  refine f119.j1_in ?_
  unfold f119.j1T
  refine split_any_e e (fun c21 e => ?_) (fun c21 e => ?_)
  · obtain ⟨h15, w16, o17, t18⟩ := o8.stA S.s [(Value.int .i64 (0 : Int)), (Value.int .i64 (0 : Int)), (Value.string (ByteArray.mk #[])), (Value.slice none 0 0)] rfl (Flats.cons trivial (Flats.cons trivial (Flats.cons trivial (Flats.cons trivial Flats.nil))))
    refine ⟨[(Value.int .i64 (0 : Int)), (Value.int .i64 (0 : Int)), (Value.string (ByteArray.mk #[])), (Value.slice none 0 0)], rfl, rfl, h15, w16, ?_⟩
    have o17 : OB _ _ h15 _ bk8 [(Value.int .i64 (0 : Int)), (Value.int .i64 (0 : Int)), (Value.string (ByteArray.mk #[])), (Value.slice none 0 0)] 137 := o17
    have S19 := S.then t18 (fun i _ hi => o8.wr i hi)
    have o20 := oio3.step t18 (d0_1).symm
    refine ⟨_, ldA (Sub.refl _) o17.all, ?_⟩
    cases e
    exact ⟨_, _, _, S19, rfl, (T_api_Value.iff.2 ⟨_, _, rfl, (Nat.le_refl 0), Rd.nil⟩), o20, rfl⟩
  · exact (ih _ _ e) _ _ _ _ _ _ _ _ _ _ _ _ S rfl k0 r0 oio3 rfl o8 (T_api_Value.iff.2 ⟨_, _, rfl, ke8_3, re8_3⟩) d0_1
set_option maxRecDepth 100000 in
theorem heap_read_k.step_j0 (go : (p : heap_read_k.Pt) → Option (T_api_Value × Int × Int)) (ih : ∀ p r, go p = some r → heap_read_k.I p r) (a0 : List Int) (x1 : Int) (x2 : Int) (yio3 : Int) (y8 : T_api_Value) (r : T_api_Value × Int × Int) (e : heap_read_k.body go (.j0 a0 x1 x2 yio3 y8) = some r) : heap_read_k.I (.j0 a0 x1 x2 yio3 y8) r := by
  unfold heap_read_k.body at e
  intro W h0 m0 h m A0 n0 c0 bkio3 csio3 bk8 cs8 S ne0 k0 r0 oio3 eio3 o8 e8 d0_1
  subst ne0
  obtain rfl : csio3 = [(Value.int .i64 yio3)] := eio3
  obtain ⟨Ae8_3, ce8_3, rfl, ke8_3, re8_3⟩ := T_api_Value.iff.1 e8
  refine f119.j0_in ?_
  unfold f119.j0T
  obtain ⟨y22, g23, e⟩ := bind_e e
  refine (term_Value.walk S.s  g23).mono ?_
  rintro _ h24 ⟨m25, cs27, T26, rfl, he28⟩
  obtain ⟨Ahe28_3, che28_3, rfl, khe28_3, rhe28_3⟩ := T_api_Value.iff.1 he28
  have S29 := S.grow T26
  have o30 := oio3.step T26 Dj.no
  have o31 := o8.step T26 Dj.no
  refine ⟨_, _, rfl, ?_⟩
  refine new_in S29 fun h32 o33 x34 => ?_
  have d37 : Dj (fb bkio3) (fb (Array.size h24)) := Dj.new o30.lt
  have d38 : Dj (fb bk8) (fb (Array.size h24)) := Dj.new o31.lt
  have o39 := o30.ext x34
  have o40 := o31.ext x34
  have S35 := S29.ext' x34
  have o33 : OB _ _ h32 _ (Array.size h24) [(Value.int .i64 (0 : Int)), (Value.int .i64 (0 : Int)), (Value.string (ByteArray.mk #[])), (Value.slice none 0 0)] 137 := o33
  obtain ⟨h41, w42, o43, t44⟩ := o33.stA S35.s [(Value.int .i64 y22.1.Kind), (Value.int .i64 y22.1.Num), (Value.string y22.1.Text), (Value.slice Ahe28_3 (List.length y22.1.Args) che28_3)] rfl (Flats.cons trivial (Flats.cons trivial (Flats.cons trivial (Flats.cons trivial Flats.nil))))
  refine ⟨[(Value.int .i64 y22.1.Kind), (Value.int .i64 y22.1.Num), (Value.string y22.1.Text), (Value.slice Ahe28_3 (List.length y22.1.Args) che28_3)], rfl, rfl, h41, w42, ?_⟩
  have o43 : OB _ _ h41 _ (Array.size h24) [(Value.int .i64 y22.1.Kind), (Value.int .i64 y22.1.Num), (Value.string y22.1.Text), (Value.slice Ahe28_3 (List.length y22.1.Args) che28_3)] 137 := o43
  have S45 := S35.then t44 (fun i _ hi => o33.wr i hi)
  have o46 := o39.step t44 (d37).symm
  have o47 := o40.step t44 (d38).symm
  refine split_any_e e (fun c238 e => ?_) (fun c238 e => ?_)
  · refine ⟨_, ldA (Sub.refl _) o43.all, ?_⟩
    obtain ⟨h48, w49, o50, t51⟩ := o47.stA S45.s [(Value.int .i64 y22.1.Kind), (Value.int .i64 y22.1.Num), (Value.string y22.1.Text), (Value.slice Ahe28_3 (List.length y22.1.Args) che28_3)] rfl (Flats.cons trivial (Flats.cons trivial (Flats.cons trivial (Flats.cons trivial Flats.nil))))
    refine ⟨[(Value.int .i64 y22.1.Kind), (Value.int .i64 y22.1.Num), (Value.string y22.1.Text), (Value.slice Ahe28_3 (List.length y22.1.Args) che28_3)], rfl, rfl, h48, w49, ?_⟩
    have o50 : OB _ _ h48 _ bk8 [(Value.int .i64 y22.1.Kind), (Value.int .i64 y22.1.Num), (Value.string y22.1.Text), (Value.slice Ahe28_3 (List.length y22.1.Args) che28_3)] 137 := o50
    have S52 := S45.then t51 (fun i _ hi => o47.wr i hi)
    have o53 := o46.step t51 (d0_1).symm
    have o54 := o43.step t51 d38
    refine ⟨_, ldA (Sub.refl _) o50.all, ?_⟩
    cases e
    exact ⟨_, _, _, S52, rfl, (T_api_Value.iff.2 ⟨_, _, rfl, khe28_3, rhe28_3⟩), o53, rfl⟩
  · obtain ⟨y55, g56, e⟩ := bind_e e
    refine (term_Read.walk S45.s  g56).mono ?_
    rintro _ h57 ⟨m58, T59, rfl⟩
    have S60 := S45.grow T59
    have o61 := o46.step T59 Dj.no
    have o62 := o47.step T59 Dj.no
    have o63 := o43.step T59 Dj.no
    refine ⟨_, _, _, rfl, ?_⟩
    refine split_ne_e e (fun c237 e => ?_) (fun c237 e => ?_)
    · obtain ⟨h64, w65, o66, t67⟩ := o62.stA S60.s [(Value.int .i64 (0 : Int)), (Value.int .i64 (0 : Int)), (Value.string (ByteArray.mk #[])), (Value.slice none 0 0)] rfl (Flats.cons trivial (Flats.cons trivial (Flats.cons trivial (Flats.cons trivial Flats.nil))))
      refine ⟨[(Value.int .i64 (0 : Int)), (Value.int .i64 (0 : Int)), (Value.string (ByteArray.mk #[])), (Value.slice none 0 0)], rfl, rfl, h64, w65, ?_⟩
      have o66 : OB _ _ h64 _ bk8 [(Value.int .i64 (0 : Int)), (Value.int .i64 (0 : Int)), (Value.string (ByteArray.mk #[])), (Value.slice none 0 0)] 137 := o66
      have S68 := S60.then t67 (fun i _ hi => o62.wr i hi)
      have o69 := o61.step t67 (d0_1).symm
      have o70 := o63.step t67 d38
      refine ⟨_, ldA (Sub.refl _) o66.all, ?_⟩
      cases e
      exact ⟨_, _, _, S68, rfl, (T_api_Value.iff.2 ⟨_, _, rfl, (Nat.le_refl 0), Rd.nil⟩), o69, rfl⟩
    · obtain ⟨y71, g72, e⟩ := bind_e e
      refine (heap_At.walk S60.s rfl k0 (r0.sub (tell_int .u64) (T26.up.trans T59.up)) g72).mono ?_
      rintro _ h73 ⟨m74, cs76, T75, rfl, he77⟩
      obtain ⟨Ahe77_4, che77_4, rfl, khe77_4, rhe77_4⟩ := he77
      have S78 := S60.grow T75
      have o79 := o61.step T75 Dj.no
      have o80 := o62.step T75 Dj.no
      have o81 := o63.step T75 Dj.no
      refine ⟨_, _, rfl, ?_⟩
      refine new_in S78 fun h82 o83 x84 => ?_
      have d87 : Dj (fb bkio3) (fb (Array.size h73)) := Dj.new o79.lt
      have d88 : Dj (fb bk8) (fb (Array.size h73)) := Dj.new o80.lt
      have d89 : Dj (fb (Array.size h24)) (fb (Array.size h73)) := Dj.new o81.lt
      have o90 := o79.ext x84
      have o91 := o80.ext x84
      have o92 := o81.ext x84
      have S85 := S78.ext' x84
      have o83 : OB _ _ h82 _ (Array.size h73) [(Value.int .i64 (0 : Int)), (Value.int .i64 (0 : Int)), (Value.int .i64 (0 : Int)), (Value.string (ByteArray.mk #[])), (Value.slice none 0 0)] 202 := o83
      obtain ⟨h93, w94, o95, t96⟩ := o83.stA S85.s [(Value.int .i64 y71.1.At), (Value.int .i64 y71.1.Kind), (Value.int .i64 y71.1.Num), (Value.string y71.1.Text), (Value.slice Ahe77_4 (List.length y71.1.Parts) che77_4)] rfl (Flats.cons trivial (Flats.cons trivial (Flats.cons trivial (Flats.cons trivial (Flats.cons trivial Flats.nil)))))
      refine ⟨[(Value.int .i64 y71.1.At), (Value.int .i64 y71.1.Kind), (Value.int .i64 y71.1.Num), (Value.string y71.1.Text), (Value.slice Ahe77_4 (List.length y71.1.Parts) che77_4)], rfl, rfl, h93, w94, ?_⟩
      have o95 : OB _ _ h93 _ (Array.size h73) [(Value.int .i64 y71.1.At), (Value.int .i64 y71.1.Kind), (Value.int .i64 y71.1.Num), (Value.string y71.1.Text), (Value.slice Ahe77_4 (List.length y71.1.Parts) che77_4)] 202 := o95
      have S97 := S85.then t96 (fun i _ hi => o83.wr i hi)
      have o98 := o90.step t96 (d87).symm
      have o99 := o91.step t96 (d88).symm
      have o100 := o92.step t96 (d89).symm
      refine split_ne_e e (fun c236 e => ?_) (fun c236 e => ?_)
      · obtain ⟨h101, w102, o103, t104⟩ := o99.stA S97.s [(Value.int .i64 (0 : Int)), (Value.int .i64 (0 : Int)), (Value.string (ByteArray.mk #[])), (Value.slice none 0 0)] rfl (Flats.cons trivial (Flats.cons trivial (Flats.cons trivial (Flats.cons trivial Flats.nil))))
        refine ⟨[(Value.int .i64 (0 : Int)), (Value.int .i64 (0 : Int)), (Value.string (ByteArray.mk #[])), (Value.slice none 0 0)], rfl, rfl, h101, w102, ?_⟩
        have o103 : OB _ _ h101 _ bk8 [(Value.int .i64 (0 : Int)), (Value.int .i64 (0 : Int)), (Value.string (ByteArray.mk #[])), (Value.slice none 0 0)] 137 := o103
        have S105 := S97.then t104 (fun i _ hi => o99.wr i hi)
        have o106 := o98.step t104 (d0_1).symm
        have o107 := o100.step t104 d38
        have o108 := o95.step t104 d88
        refine ⟨_, ldA (Sub.refl _) o103.all, ?_⟩
        cases e
        exact ⟨_, _, _, S105, rfl, (T_api_Value.iff.2 ⟨_, _, rfl, (Nat.le_refl 0), Rd.nil⟩), o106, rfl⟩
      · obtain ⟨y109, g110, e⟩ := bind_e e
        refine ⟨_, ldk (k := 1) (Sub.refl _) o95.all rfl, _, rfl, ?_⟩
        refine ⟨_, ldk (k := 2) (Sub.refl _) o95.all rfl, _, rfl, ?_⟩
        refine ⟨_, ldk (k := 3) (Sub.refl _) o95.all rfl, _, rfl, ?_⟩
        refine ⟨?_, ?_⟩
        · refine (heap_kinds.walk S97.s  g110).mono ?_
          rintro _ h145 ⟨m146, T147, rfl⟩
          have S148 := S97.grow T147
          have o149 := o98.step T147 Dj.no
          have o150 := o99.step T147 Dj.no
          have o151 := o100.step T147 Dj.no
          have o152 := o95.step T147 Dj.no
          refine ⟨_, rfl, ?_⟩
          refine ⟨T147.ext, ?_⟩
          refine ⟨?_, ?_⟩
          · refine new_in S148 fun h153 o154 x155 => ?_
            have d158 : Dj (fb bkio3) (fb (Array.size h145)) := Dj.new o149.lt
            have d159 : Dj (fb bk8) (fb (Array.size h145)) := Dj.new o150.lt
            have d160 : Dj (fb (Array.size h24)) (fb (Array.size h145)) := Dj.new o151.lt
            have d161 : Dj (fb (Array.size h73)) (fb (Array.size h145)) := Dj.new o152.lt
            have o162 := o149.ext x155
            have o163 := o150.ext x155
            have o164 := o151.ext x155
            have o165 := o152.ext x155
            have S156 := S148.ext' x155
            have o154 : OB _ _ h153 _ (Array.size h145) [(Value.int .i64 (0 : Int)), (Value.int .i64 (0 : Int)), (Value.string (ByteArray.mk #[])), (Value.slice none 0 0)] 137 := o154
            refine ⟨x155, ?_⟩
            obtain ⟨h166, w167, o168, t169⟩ := o154.stA S156.s [(Value.int .i64 y109), (Value.int .i64 y71.1.Num), (Value.string y71.1.Text), (Value.slice none 0 0)] rfl (Flats.cons trivial (Flats.cons trivial (Flats.cons trivial (Flats.cons trivial Flats.nil))))
            refine ⟨[(Value.int .i64 y109), (Value.int .i64 y71.1.Num), (Value.string y71.1.Text), (Value.slice none 0 0)], rfl, rfl, h166, w167, ?_⟩
            have o168 : OB _ _ h166 _ (Array.size h145) [(Value.int .i64 y109), (Value.int .i64 y71.1.Num), (Value.string y71.1.Text), (Value.slice none 0 0)] 137 := o168
            have S170 := S156.then t169 (fun i _ hi => o154.wr i hi)
            have o171 := o162.step t169 (d158).symm
            have o172 := o163.step t169 (d159).symm
            have o173 := o164.step t169 (d160).symm
            have o174 := o165.step t169 (d161).symm
            refine ⟨_, ldk (k := 4) (Sub.refl _) o174.all rfl, _, _, _, rfl, ?_⟩
            have o176 : OS W h0 4 T_api_Value.E h166 m146 none ([] : List T_api_Value) 0 := .inl ⟨rfl, rfl⟩
            exact (ih _ _ e) _ _ _ _ _ _ _ _ _ _ _ _ _ _ _ _ _ _ _ S170 rfl k0 (r0.sub (tell_int .u64) (T26.up.trans (T59.up.trans (T75.up.trans T147.up)))) o171 rfl o172 (T_api_Value.iff.2 ⟨_, _, rfl, ke8_3, (re8_3.sub T_api_Value.T (T26.up.trans (T59.up.trans (T75.up.trans T147.up))))⟩) o168 rfl o176 rfl khe77_4 (rhe77_4.sub (tell_int .u64) T147.up) d0_1 d158 (show Dj (fb bkio3) (fp none 0) from Dj.nil) d159 (show Dj (fb bk8) (fp none 0) from Dj.nil) (show Dj (fb (Array.size h145)) (fp none 0) from Dj.nil)
          · refine new_in S148 fun h177 o178 x179 => ?_
            have d182 : Dj (fb bkio3) (fb (Array.size h145)) := Dj.new o149.lt
            have d183 : Dj (fb bk8) (fb (Array.size h145)) := Dj.new o150.lt
            have d184 : Dj (fb (Array.size h24)) (fb (Array.size h145)) := Dj.new o151.lt
            have d185 : Dj (fb (Array.size h73)) (fb (Array.size h145)) := Dj.new o152.lt
            have o186 := o149.ext x179
            have o187 := o150.ext x179
            have o188 := o151.ext x179
            have o189 := o152.ext x179
            have S180 := S148.ext' x179
            have o178 : OB _ _ h177 _ (Array.size h145) [(Value.int .i64 (0 : Int)), (Value.int .i64 (0 : Int)), (Value.string (ByteArray.mk #[])), (Value.slice none 0 0)] 137 := o178
            refine ⟨x179, ?_⟩
            obtain ⟨h190, w191, o192, t193⟩ := o178.stA S180.s [(Value.int .i64 y109), (Value.int .i64 y71.1.Num), (Value.string y71.1.Text), (Value.slice none 0 0)] rfl (Flats.cons trivial (Flats.cons trivial (Flats.cons trivial (Flats.cons trivial Flats.nil))))
            refine ⟨[(Value.int .i64 y109), (Value.int .i64 y71.1.Num), (Value.string y71.1.Text), (Value.slice none 0 0)], rfl, rfl, h190, w191, ?_⟩
            have o192 : OB _ _ h190 _ (Array.size h145) [(Value.int .i64 y109), (Value.int .i64 y71.1.Num), (Value.string y71.1.Text), (Value.slice none 0 0)] 137 := o192
            have S194 := S180.then t193 (fun i _ hi => o178.wr i hi)
            have o195 := o186.step t193 (d182).symm
            have o196 := o187.step t193 (d183).symm
            have o197 := o188.step t193 (d184).symm
            have o198 := o189.step t193 (d185).symm
            refine ⟨_, ldk (k := 4) (Sub.refl _) o198.all rfl, _, _, _, rfl, ?_⟩
            have o200 : OS W h0 4 T_api_Value.E h190 m146 none ([] : List T_api_Value) 0 := .inl ⟨rfl, rfl⟩
            exact (ih _ _ e) _ _ _ _ _ _ _ _ _ _ _ _ _ _ _ _ _ _ _ S194 rfl k0 (r0.sub (tell_int .u64) (T26.up.trans (T59.up.trans (T75.up.trans T147.up)))) o195 rfl o196 (T_api_Value.iff.2 ⟨_, _, rfl, ke8_3, (re8_3.sub T_api_Value.T (T26.up.trans (T59.up.trans (T75.up.trans T147.up))))⟩) o192 rfl o200 rfl khe77_4 (rhe77_4.sub (tell_int .u64) T147.up) d0_1 d182 (show Dj (fb bkio3) (fp none 0) from Dj.nil) d183 (show Dj (fb bk8) (fp none 0) from Dj.nil) (show Dj (fb (Array.size h145)) (fp none 0) from Dj.nil)
        · refine new_in S97 fun h201 o202 x203 => ?_
          have d206 : Dj (fb bkio3) (fb (Array.size h93)) := Dj.new o98.lt
          have d207 : Dj (fb bk8) (fb (Array.size h93)) := Dj.new o99.lt
          have d208 : Dj (fb (Array.size h24)) (fb (Array.size h93)) := Dj.new o100.lt
          have d209 : Dj (fb (Array.size h73)) (fb (Array.size h93)) := Dj.new o95.lt
          have o210 := o98.ext x203
          have o211 := o99.ext x203
          have o212 := o100.ext x203
          have o213 := o95.ext x203
          have S204 := S97.ext' x203
          have o202 : OB _ _ h201 _ (Array.size h93) [(Value.int .i64 (0 : Int)), (Value.int .i64 (0 : Int)), (Value.string (ByteArray.mk #[])), (Value.slice none 0 0)] 137 := o202
          refine ⟨x203, ?_⟩
          refine (heap_kinds.walk S204.s  g110).mono ?_
          rintro _ h216 ⟨m217, T218, rfl⟩
          have S219 := S204.grow T218
          have o220 := o210.step T218 Dj.no
          have o221 := o211.step T218 Dj.no
          have o222 := o212.step T218 Dj.no
          have o223 := o213.step T218 Dj.no
          have o224 := o202.step T218 Dj.no
          refine ⟨_, rfl, ?_⟩
          refine ⟨T218.ext, ?_⟩
          obtain ⟨h225, w226, o227, t228⟩ := o224.stA S219.s [(Value.int .i64 y109), (Value.int .i64 y71.1.Num), (Value.string y71.1.Text), (Value.slice none 0 0)] rfl (Flats.cons trivial (Flats.cons trivial (Flats.cons trivial (Flats.cons trivial Flats.nil))))
          refine ⟨[(Value.int .i64 y109), (Value.int .i64 y71.1.Num), (Value.string y71.1.Text), (Value.slice none 0 0)], rfl, rfl, h225, w226, ?_⟩
          have o227 : OB _ _ h225 _ (Array.size h93) [(Value.int .i64 y109), (Value.int .i64 y71.1.Num), (Value.string y71.1.Text), (Value.slice none 0 0)] 137 := o227
          have S229 := S219.then t228 (fun i _ hi => o224.wr i hi)
          have o230 := o220.step t228 (d206).symm
          have o231 := o221.step t228 (d207).symm
          have o232 := o222.step t228 (d208).symm
          have o233 := o223.step t228 (d209).symm
          refine ⟨_, ldk (k := 4) (Sub.refl _) o233.all rfl, _, _, _, rfl, ?_⟩
          have o235 : OS W h0 4 T_api_Value.E h225 m217 none ([] : List T_api_Value) 0 := .inl ⟨rfl, rfl⟩
          exact (ih _ _ e) _ _ _ _ _ _ _ _ _ _ _ _ _ _ _ _ _ _ _ S229 rfl k0 (r0.sub (tell_int .u64) (T26.up.trans (T59.up.trans (T75.up.trans T218.up)))) o230 rfl o231 (T_api_Value.iff.2 ⟨_, _, rfl, ke8_3, (re8_3.sub T_api_Value.T (T26.up.trans (T59.up.trans (T75.up.trans T218.up))))⟩) o227 rfl o235 rfl khe77_4 (rhe77_4.sub (tell_int .u64) T218.up) d0_1 d206 (show Dj (fb bkio3) (fp none 0) from Dj.nil) d207 (show Dj (fb bk8) (fp none 0) from Dj.nil) (show Dj (fb (Array.size h93)) (fp none 0) from Dj.nil)
set_option maxRecDepth 100000 in
theorem heap_read_k.step_l0 (go : (p : heap_read_k.Pt) → Option (T_api_Value × Int × Int)) (ih : ∀ p r, go p = some r → heap_read_k.I p r) (a0 : List Int) (x2 : Int) (yio3 : Int) (y8 : T_api_Value) (x16_0 : Int) (x16_1 : Int) (s16_2 : ByteArray) (a16_3 : List T_api_Value) (a71 : List Int) (x72 : Int) (x73 : Int) (r : T_api_Value × Int × Int) (e : heap_read_k.body go (.l0 a0 x2 yio3 y8 x16_0 x16_1 s16_2 a16_3 a71 x72 x73) = some r) : heap_read_k.I (.l0 a0 x2 yio3 y8 x16_0 x16_1 s16_2 a16_3 a71 x72 x73) r := by
  unfold heap_read_k.body at e
  intro W h0 m0 h m A0 n0 c0 bkio3 csio3 bk8 cs8 bk16 A16_3 n16_3 c16_3 A71 n71 c71 S ne0 k0 r0 oio3 eio3 o8 e8 o16 ne16_3 o16_3 ne71 k71 r71 d0_1 d0_2 d0_3 d1_2 d1_3 d2_3
  subst ne0
  obtain rfl : csio3 = [(Value.int .i64 yio3)] := eio3
  obtain ⟨Ae8_3, ce8_3, rfl, ke8_3, re8_3⟩ := T_api_Value.iff.1 e8
  subst ne16_3
  subst ne71
  refine f119.l0_in ?_
  unfold f119.l0T
  refine split_dec_e e (fun c357 e => ?_) (fun c357 e => ?_)
  · obtain ⟨y239, g240, e⟩ := bind_e e
    refine r71.addr rfl g240 fun a241 cs242 ha243 hc244 he245 => ?_
    obtain rfl : cs242 = [(Value.int .u64 y239)] := he245
    refine ⟨_, ld0 S.s hc244 rfl, _, rfl, ?_⟩
    obtain ⟨y246, g247, e⟩ := bind_e e
    refine ((ih _ _ g247) (fb bkio3) _ _ _ _ _ _ _ S.s rfl k0 r0 (oio3.give fbr) rfl).mono ?_
    rintro _ h248 ⟨m249, cs251, cs254, T250, rfl, he252, o253, he255⟩
    obtain ⟨Ahe252_3, che252_3, rfl, khe252_3, rhe252_3⟩ := T_api_Value.iff.1 he252
    obtain rfl : cs254 = [(Value.int .i64 y246.2.2)] := he255
    have S256 := S.then T250 (fun i _ hi => oio3.wr i hi)
    have o257 := o8.step T250 d0_1
    have o258 := o16_3.step T_api_Value.T T250 d0_3
    have o259 := o16.step T250 d0_2
    have o260 := o253.take S (fun i hi => oio3.wr i hi)
    refine ⟨_, _, rfl, ?_⟩
    refine new_in S256 fun h261 o262 x263 => ?_
    have d266 : Dj (fb bkio3) (fb (Array.size h248)) := Dj.new o260.lt
    have d267 : Dj (fb bk8) (fb (Array.size h248)) := Dj.new o257.lt
    have d268 : Dj (fp A16_3 c16_3) (fb (Array.size h248)) := Dj.new o258.lt
    have d269 : Dj (fb bk16) (fb (Array.size h248)) := Dj.new o259.lt
    have o270 := o260.ext x263
    have o271 := o257.ext x263
    have o272 := o258.ext T_api_Value.T S256.s x263
    have o273 := o259.ext x263
    have S264 := S256.ext' x263
    have o262 : OB _ _ h261 _ (Array.size h248) [(Value.int .i64 (0 : Int)), (Value.int .i64 (0 : Int)), (Value.string (ByteArray.mk #[])), (Value.slice none 0 0)] 137 := o262
    obtain ⟨h274, w275, o276, t277⟩ := o262.stA S264.s [(Value.int .i64 y246.1.Kind), (Value.int .i64 y246.1.Num), (Value.string y246.1.Text), (Value.slice Ahe252_3 (List.length y246.1.Args) che252_3)] rfl (Flats.cons trivial (Flats.cons trivial (Flats.cons trivial (Flats.cons trivial Flats.nil))))
    refine ⟨[(Value.int .i64 y246.1.Kind), (Value.int .i64 y246.1.Num), (Value.string y246.1.Text), (Value.slice Ahe252_3 (List.length y246.1.Args) che252_3)], rfl, rfl, h274, w275, ?_⟩
    have o276 : OB _ _ h274 _ (Array.size h248) [(Value.int .i64 y246.1.Kind), (Value.int .i64 y246.1.Num), (Value.string y246.1.Text), (Value.slice Ahe252_3 (List.length y246.1.Args) che252_3)] 137 := o276
    have S278 := S264.then t277 (fun i _ hi => o262.wr i hi)
    have o279 := o270.step t277 (d266).symm
    have o280 := o271.step t277 (d267).symm
    have o281 := o272.step T_api_Value.T t277 (d268).symm
    have o282 := o273.step t277 (d269).symm
    refine split_ne_e e (fun c337 e => ?_) (fun c337 e => ?_)
    · obtain ⟨h283, w284, o285, t286⟩ := o280.stA S278.s [(Value.int .i64 (0 : Int)), (Value.int .i64 (0 : Int)), (Value.string (ByteArray.mk #[])), (Value.slice none 0 0)] rfl (Flats.cons trivial (Flats.cons trivial (Flats.cons trivial (Flats.cons trivial Flats.nil))))
      refine ⟨[(Value.int .i64 (0 : Int)), (Value.int .i64 (0 : Int)), (Value.string (ByteArray.mk #[])), (Value.slice none 0 0)], rfl, rfl, h283, w284, ?_⟩
      have o285 : OB _ _ h283 _ bk8 [(Value.int .i64 (0 : Int)), (Value.int .i64 (0 : Int)), (Value.string (ByteArray.mk #[])), (Value.slice none 0 0)] 137 := o285
      have S287 := S278.then t286 (fun i _ hi => o280.wr i hi)
      have o288 := o279.step t286 (d0_1).symm
      have o289 := o281.step T_api_Value.T t286 d1_3
      have o290 := o282.step t286 d1_2
      have o291 := o276.step t286 d267
      refine ⟨_, ldA (Sub.refl _) o285.all, ?_⟩
      cases e
      exact ⟨_, _, _, S287, rfl, (T_api_Value.iff.2 ⟨_, _, rfl, (Nat.le_refl 0), Rd.nil⟩), o288, rfl⟩
    · refine ⟨_, ldk (k := 3) (Sub.refl _) o282.all rfl, _, _, _, rfl, ?_⟩
      refine ⟨_, ldA (Sub.refl _) o276.all, ?_⟩
      refine ⟨[(Value.int .i64 y246.1.Kind), (Value.int .i64 y246.1.Num), (Value.string y246.1.Text), (Value.slice Ahe252_3 (List.length y246.1.Args) che252_3)], rfl, rfl, ?_⟩
      refine new_in S278 fun h292 o293 x294 => ?_
      have d297 : Dj (fb bkio3) (fb (Array.size h274)) := Dj.new o279.lt
      have d298 : Dj (fb bk8) (fb (Array.size h274)) := Dj.new o280.lt
      have d299 : Dj (fp A16_3 c16_3) (fb (Array.size h274)) := Dj.new o281.lt
      have d300 : Dj (fb bk16) (fb (Array.size h274)) := Dj.new o282.lt
      have d301 : Dj (fb (Array.size h248)) (fb (Array.size h274)) := Dj.new o276.lt
      have o302 := o279.ext x294
      have o303 := o280.ext x294
      have o304 := o281.ext T_api_Value.T S278.s x294
      have o305 := o282.ext x294
      have o306 := o276.ext x294
      have S295 := S278.ext' x294
      have o293 : OB _ _ h292 _ (Array.size h274) [(Value.int .i64 y246.1.Kind), (Value.int .i64 y246.1.Num), (Value.string y246.1.Text), (Value.slice Ahe252_3 (List.length y246.1.Args) che252_3)] 137 := o293
      have o307 : OS _ _ 4 T_api_Value.E h292 m249 (some ⟨(Array.size h274), 0, none⟩) ([y246.1] : List T_api_Value) 1 := OB.row o293 (CsE.cons (c1 := [(Value.int .i64 y246.1.Kind), (Value.int .i64 y246.1.Num), (Value.string y246.1.Text), (Value.slice Ahe252_3 (List.length y246.1.Args) che252_3)]) (T_api_Value.iff.2 ⟨_, _, rfl, khe252_3, rhe252_3⟩) rfl CsE.nil) rfl
      obtain ⟨l308, g309, e⟩ := bind_e e
      refine o304.app T_api_Value.T S295 rfl rfl (o307.srcE rfl) (by decide) g309 fun A310 c311 h312 o313 t314 n315 => ?_
      refine ⟨_, _, _, rfl, ?_⟩
      have d317 : Dj (fb bkio3) (fp A310 c311) := Dj.app d0_3 o302.lt n315
      have d318 : Dj (fb bk8) (fp A310 c311) := Dj.app d1_3 o303.lt n315
      have d319 : Dj (fb bk16) (fp A310 c311) := Dj.app d2_3 o305.lt n315
      have d320 : Dj (fb (Array.size h248)) (fp A310 c311) := Dj.app (d268).symm o306.lt n315
      have d321 : Dj (fp (some ⟨(Array.size h274), 0, none⟩) 1) (fp A310 c311) := Dj.app ((d299.row)).symm o307.lt n315
      have S322 := S295.then t314 (fun i _ hi => o304.wr i hi)
      have o323 := o302.step t314 (d0_3).symm
      have o324 := o303.step t314 (d1_3).symm
      have o325 := o305.step t314 (d2_3).symm
      have o326 := o306.step t314 d268
      have o327 := o307.step T_api_Value.T t314 (d299.row)
      obtain ⟨h328, w329, o330, t331⟩ := o325.st (k := 3) S322.s (v := (Value.slice A310 (List.length l308) c311)) (Nat.le_of_ble_eq_true rfl) trivial
      refine ⟨h328, w329, ?_⟩
      have o330 : OB _ _ h328 _ bk16 [(Value.int .i64 x16_0), (Value.int .i64 x16_1), (Value.string s16_2), (Value.slice A310 (List.length l308) c311)] 137 := o330
      have S332 := S322.then t331 (fun i _ hi => o325.wr i hi)
      have o333 := o323.step t331 (d0_2).symm
      have o334 := o324.step t331 (d1_2).symm
      have o335 := o326.step t331 d269
      have o336 := o313.step T_api_Value.T t331 d319
      exact (ih _ _ e) _ _ _ _ _ _ _ _ _ _ _ _ _ _ _ _ _ _ _ S332 rfl k0 (r0.sub (tell_int .u64) T250.up) o333 rfl o334 (T_api_Value.iff.2 ⟨_, _, rfl, ke8_3, (re8_3.sub T_api_Value.T T250.up)⟩) o330 rfl o336 rfl k71 (r71.sub (tell_int .u64) T250.up) d0_1 d0_2 d317 d1_2 d318 d319
  · refine ⟨_, ldA (Sub.refl _) o16.all, ?_⟩
    obtain ⟨h338, w339, o340, t341⟩ := o8.stA S.s [(Value.int .i64 x16_0), (Value.int .i64 x16_1), (Value.string s16_2), (Value.slice A16_3 (List.length a16_3) c16_3)] rfl (Flats.cons trivial (Flats.cons trivial (Flats.cons trivial (Flats.cons trivial Flats.nil))))
    refine ⟨[(Value.int .i64 x16_0), (Value.int .i64 x16_1), (Value.string s16_2), (Value.slice A16_3 (List.length a16_3) c16_3)], rfl, rfl, h338, w339, ?_⟩
    have o340 : OB _ _ h338 _ bk8 [(Value.int .i64 x16_0), (Value.int .i64 x16_1), (Value.string s16_2), (Value.slice A16_3 (List.length a16_3) c16_3)] 137 := o340
    have S342 := S.then t341 (fun i _ hi => o8.wr i hi)
    have o343 := oio3.step t341 (d0_1).symm
    have o344 := o16_3.step T_api_Value.T t341 d1_3
    have o345 := o16.step t341 d1_2
    refine ⟨_, ldA (Sub.refl _) o340.all, ?_⟩
    obtain ⟨m350, L349, u346, s347, t348⟩ := St.lend S342.s (fp A16_3 c16_3)
    have r351 : Rd 4 T_api_Value.E m350 A16_3 a16_3 := o344.lent T_api_Value.T S342.s L349 (fun _ h => h)
    have k352 := o344.cap
    have S353 := S342.then t348 (fun i _ hi => o344.wr i hi)
    have o354 := o343.step t348 (d0_3).symm
    have o355 := o340.step t348 (d1_3).symm
    have o356 := o345.step t348 (d2_3).symm
    cases e
    exact ⟨_, _, _, S353, rfl, (T_api_Value.iff.2 ⟨_, _, rfl, k352, r351⟩), o354, rfl⟩
theorem heap_read_k.all {p : heap_read_k.Pt} {r : (T_api_Value × Int × Int)} (e : heap_read_k.go p = some r) : heap_read_k.I p r := fixF_ind (β := fun _ => (T_api_Value × Int × Int)) heap_read_k.mono (I := heap_read_k.I) (fun go ih p r e => match p with
  | .f a0 x1 x2 yio3 => heap_read_k.step_f go ih a0 x1 x2 yio3 r e
  | .j1 a0 x1 x2 yio3 y8 b33 => heap_read_k.step_j1 go ih a0 x1 x2 yio3 y8 b33 r e
  | .j0 a0 x1 x2 yio3 y8 => heap_read_k.step_j0 go ih a0 x1 x2 yio3 y8 r e
  | .l0 a0 x2 yio3 y8 x16_0 x16_1 s16_2 a16_3 a71 x72 x73 => heap_read_k.step_l0 go ih a0 x2 yio3 y8 x16_0 x16_1 s16_2 a16_3 a71 x72 x73 r e
  ) e
theorem heap_read.walk {W : Nat → Prop} {h m : Heap} {A0 : Option Addr} {n0 c0 : Nat} {bkio3 : Nat} {csio3 : List Value} {a0 : List Int} {x1 : Int} {x2 : Int} {yio3 : Int} (s : Sub m h) (ne0 : n0 = List.length a0) (k0 : List.length a0 ≤ c0) (r0 : Rd 1 (eInt .u64) m A0 a0) (oio3 : OB W h h m bkio3 csio3 3) (eio3 : (eInt .i64) m yio3 csio3) {r : T_api_Value × Int × Int} (e : heap_read a0 x1 x2 yio3 = some r) : Run Try.prog 119 #[Value.slice A0 n0 c0, Value.int .u64 x1, Value.int .i64 x2, Value.pointer (some ⟨bkio3, 0, none⟩)] h (heap_read.post W bkio3 h m r) := heap_read_k.all (p := .f a0 x1 x2 yio3) e W h m A0 n0 c0 bkio3 csio3 s ne0 k0 r0 oio3 eio3
theorem heap_read.j1.walk {W : Nat → Prop} {h0 m0 h m : Heap} {A0 : Option Addr} {n0 c0 : Nat} {bkio3 : Nat} {csio3 : List Value} {bk8 : Nat} {cs8 : List Value} {a0 : List Int} {x1 : Int} {x2 : Int} {yio3 : Int} {y8 : T_api_Value} {b33 : Bool} (S : St W h0 m0 h m) (ne0 : n0 = List.length a0) (k0 : List.length a0 ≤ c0) (r0 : Rd 1 (eInt .u64) m A0 a0) (oio3 : OB W h0 h m bkio3 csio3 3) (eio3 : (eInt .i64) m yio3 csio3) (o8 : OB W h0 h m bk8 cs8 137) (e8 : T_api_Value.E m y8 cs8) (d0_1 : Dj (fb bkio3) (fb bk8)) {r : T_api_Value × Int × Int} (e : heap_read.j1 a0 x1 x2 yio3 y8 b33 = some r) : f119.j1 (heap_read.post W bkio3 h0 m0 r) A0 n0 c0 x1 x2 (⟨bkio3, 0, none⟩ : Addr) (⟨bk8, 0, none⟩ : Addr) b33 h := heap_read_k.all (p := .j1 a0 x1 x2 yio3 y8 b33) e W h0 m0 h m A0 n0 c0 bkio3 csio3 bk8 cs8 S ne0 k0 r0 oio3 eio3 o8 e8 d0_1
theorem heap_read.j0.walk {W : Nat → Prop} {h0 m0 h m : Heap} {A0 : Option Addr} {n0 c0 : Nat} {bkio3 : Nat} {csio3 : List Value} {bk8 : Nat} {cs8 : List Value} {a0 : List Int} {x1 : Int} {x2 : Int} {yio3 : Int} {y8 : T_api_Value} (S : St W h0 m0 h m) (ne0 : n0 = List.length a0) (k0 : List.length a0 ≤ c0) (r0 : Rd 1 (eInt .u64) m A0 a0) (oio3 : OB W h0 h m bkio3 csio3 3) (eio3 : (eInt .i64) m yio3 csio3) (o8 : OB W h0 h m bk8 cs8 137) (e8 : T_api_Value.E m y8 cs8) (d0_1 : Dj (fb bkio3) (fb bk8)) {r : T_api_Value × Int × Int} (e : heap_read.j0 a0 x1 x2 yio3 y8 = some r) : f119.j0 (heap_read.post W bkio3 h0 m0 r) A0 n0 c0 x1 x2 (⟨bkio3, 0, none⟩ : Addr) (⟨bk8, 0, none⟩ : Addr) h := heap_read_k.all (p := .j0 a0 x1 x2 yio3 y8) e W h0 m0 h m A0 n0 c0 bkio3 csio3 bk8 cs8 S ne0 k0 r0 oio3 eio3 o8 e8 d0_1
theorem heap_read.l0.walk {W : Nat → Prop} {h0 m0 h m : Heap} {A0 : Option Addr} {n0 c0 : Nat} {bkio3 : Nat} {csio3 : List Value} {bk8 : Nat} {cs8 : List Value} {bk16 : Nat} {A16_3 : Option Addr} {n16_3 c16_3 : Nat} {A71 : Option Addr} {n71 c71 : Nat} {a0 : List Int} {x2 : Int} {yio3 : Int} {y8 : T_api_Value} {x16_0 : Int} {x16_1 : Int} {s16_2 : ByteArray} {a16_3 : List T_api_Value} {a71 : List Int} {x72 : Int} {x73 : Int} (S : St W h0 m0 h m) (ne0 : n0 = List.length a0) (k0 : List.length a0 ≤ c0) (r0 : Rd 1 (eInt .u64) m A0 a0) (oio3 : OB W h0 h m bkio3 csio3 3) (eio3 : (eInt .i64) m yio3 csio3) (o8 : OB W h0 h m bk8 cs8 137) (e8 : T_api_Value.E m y8 cs8) (o16 : OB W h0 h m bk16 [(Value.int .i64 x16_0), (Value.int .i64 x16_1), (Value.string s16_2), (Value.slice A16_3 n16_3 c16_3)] 137) (ne16_3 : n16_3 = List.length a16_3) (o16_3 : OS W h0 4 T_api_Value.E h m A16_3 a16_3 c16_3) (ne71 : n71 = List.length a71) (k71 : List.length a71 ≤ c71) (r71 : Rd 1 (eInt .u64) m A71 a71) (d0_1 : Dj (fb bkio3) (fb bk8)) (d0_2 : Dj (fb bkio3) (fb bk16)) (d0_3 : Dj (fb bkio3) (fp A16_3 c16_3)) (d1_2 : Dj (fb bk8) (fb bk16)) (d1_3 : Dj (fb bk8) (fp A16_3 c16_3)) (d2_3 : Dj (fb bk16) (fp A16_3 c16_3)) {r : T_api_Value × Int × Int} (e : heap_read.l0 a0 x2 yio3 y8 x16_0 x16_1 s16_2 a16_3 a71 x72 x73 = some r) : f119.l0 (heap_read.post W bkio3 h0 m0 r) A0 n0 c0 x2 (⟨bkio3, 0, none⟩ : Addr) (⟨bk8, 0, none⟩ : Addr) (⟨bk16, 0, none⟩ : Addr) A71 n71 c71 x72 x73 h := heap_read_k.all (p := .l0 a0 x2 yio3 y8 x16_0 x16_1 s16_2 a16_3 a71 x72 x73) e W h0 m0 h m A0 n0 c0 bkio3 csio3 bk8 cs8 bk16 A16_3 n16_3 c16_3 A71 n71 c71 S ne0 k0 r0 oio3 eio3 o8 e8 o16 ne16_3 o16_3 ne71 k71 r71 d0_1 d0_2 d0_3 d1_2 d1_3 d2_3

/-! ### 67 roadstead/heap.Read -/
def heap_Read.post (W : Nat → Prop) (h0 m0 : Heap) (r : T_api_Value × Int) (v : Value) (h : Heap) : Prop := ∃ m cs0, St W h0 m0 h m ∧ v = .tuple #[.agg cs0.toArray, .int .i64 r.2] ∧ T_api_Value.E m r.1 cs0
noncomputable def heap_Read (a0 : List Int) (x1 : Int) : Option (T_api_Value × Int) :=
  Option.bind (heap_read a0 x1 (40 : Int) (400 : Int)) fun y19 => some (y19.1, y19.2.1)
set_option maxRecDepth 100000 in
theorem heap_Read.walk {h m : Heap} {A0 : Option Addr} {n0 c0 : Nat} {a0 : List Int} {x1 : Int} (s : Sub m h) (ne0 : n0 = List.length a0) (k0 : List.length a0 ≤ c0) (r0 : Rd 1 (eInt .u64) m A0 a0) {r : T_api_Value × Int} (e : heap_Read a0 x1 = some r) : Run Try.prog 67 #[Value.slice A0 n0 c0, Value.int .u64 x1] h (heap_Read.post No h m r) := by
  unfold heap_Read at e
  subst ne0
  have S : St No h m h m := .refl s
  refine f67.run ?_
  unfold f67.runT
  refine new_in S fun h1 o2 x3 => ?_
  have S4 := S.ext' x3
  have o2 : OB _ _ h1 _ (Array.size h) [(Value.int .i64 (0 : Int)), (Value.int .i64 (0 : Int)), (Value.string (ByteArray.mk #[])), (Value.slice none 0 0)] 137 := o2
  refine new_in S4 fun h6 o7 x8 => ?_
  have d11 : Dj (fb (Array.size h)) (fb (Array.size h1)) := Dj.new o2.lt
  have o12 := o2.ext x8
  have S9 := S4.ext' x8
  have o7 : OB _ _ h6 _ (Array.size h1) [(Value.int .i64 (0 : Int))] 3 := o7
  obtain ⟨h13, w14, o15, t16⟩ := o7.st0 S9.s (v := (Value.int .i64 (400 : Int))) (by exact Nat.succ_pos _) trivial
  refine ⟨h13, w14, ?_⟩
  have o15 : OB _ _ h13 _ (Array.size h1) [(Value.int .i64 (400 : Int))] 3 := o15
  have S17 := S9.then t16 (fun i _ hi => o7.wr i hi)
  have o18 := o12.step t16 (d11).symm
  obtain ⟨y19, g20, e⟩ := bind_e e
  refine (heap_read.walk (W := (fb (Array.size h1))) S17.s rfl k0 r0 (o15.give fbr) rfl g20).mono ?_
  rintro _ h21 ⟨m22, cs24, cs27, T23, rfl, he25, o26, he28⟩
  obtain ⟨Ahe25_3, che25_3, rfl, khe25_3, rhe25_3⟩ := T_api_Value.iff.1 he25
  obtain rfl : cs27 = [(Value.int .i64 y19.2.2)] := he28
  have S29 := S17.then T23 (fun i _ hi => o15.wr i hi)
  have o30 := o18.step T23 ((d11).symm)
  have o31 := o26.take S17 (fun i hi => o15.wr i hi)
  refine ⟨_, _, rfl, ?_⟩
  obtain ⟨h32, w33, o34, t35⟩ := o30.stA S29.s [(Value.int .i64 y19.1.Kind), (Value.int .i64 y19.1.Num), (Value.string y19.1.Text), (Value.slice Ahe25_3 (List.length y19.1.Args) che25_3)] rfl (Flats.cons trivial (Flats.cons trivial (Flats.cons trivial (Flats.cons trivial Flats.nil))))
  refine ⟨[(Value.int .i64 y19.1.Kind), (Value.int .i64 y19.1.Num), (Value.string y19.1.Text), (Value.slice Ahe25_3 (List.length y19.1.Args) che25_3)], rfl, rfl, h32, w33, ?_⟩
  have o34 : OB _ _ h32 _ (Array.size h) [(Value.int .i64 y19.1.Kind), (Value.int .i64 y19.1.Num), (Value.string y19.1.Text), (Value.slice Ahe25_3 (List.length y19.1.Args) che25_3)] 137 := o34
  have S36 := S29.then t35 (fun i _ hi => o30.wr i hi)
  have o37 := o31.step t35 d11
  refine ⟨_, ldA (Sub.refl _) o34.all, ?_⟩
  cases e
  exact ⟨_, _, S36, rfl, (T_api_Value.iff.2 ⟨_, _, rfl, khe25_3, rhe25_3⟩)⟩

/-! ### 16 roadstead/roadref3.In -/
def roadref3_In.post (W : Nat → Prop) (h0 m0 : Heap) (r : Bool) (v : Value) (h : Heap) : Prop := ∃ m , St W h0 m0 h m ∧ v = .bool r
noncomputable def roadref3_In (x0 : Int) (x1 : Int) (x2 : Int) : Option (Bool) :=
  if x0 ≥ x1 then (some ((decide (x0 ≤ x2)))) else (some (false))
set_option maxRecDepth 100000 in
theorem roadref3_In.walk {h m : Heap} {x0 : Int} {x1 : Int} {x2 : Int} (s : Sub m h)  {r : Bool} (e : roadref3_In x0 x1 x2 = some r) : Run Try.prog 16 #[Value.int .i64 x0, Value.int .i64 x1, Value.int .i64 x2] h (roadref3_In.post No h m r) := by
  unfold roadref3_In at e
  have S : St No h m h m := .refl s
  refine f16.run ?_
  unfold f16.runT
  refine split_dec_e e (fun c1 e => ?_) (fun c1 e => ?_)
  · cases e
    exact ⟨_, S, rfl⟩
  · cases e
    exact ⟨_, S, rfl⟩

/-! ### 104 roadstead/roadref3.ObjectWords -/
def roadref3_ObjectWords.post (W : Nat → Prop) (h0 m0 : Heap) (r : (List Int)) (v : Value) (h : Heap) : Prop := ∃ m A0 n0 c0, St W h0 m0 h m ∧ v = .slice A0 n0 c0 ∧ n0 = r.length ∧ OS W h0 1 (eInt .u64) h m A0 r c0
inductive roadref3_ObjectWords.l0_k.Pt where
  | l0 (y1 : T_heap_Object) (a3 : List Int) (s4 : ByteArray)
  | l1 (y1 : T_heap_Object) (a3 : List Int) (s4 : ByteArray) (x5 : Int) (x6 : Int) (x7 : Int)
noncomputable def roadref3_ObjectWords.l0_k.body (go : (p : roadref3_ObjectWords.l0_k.Pt) → Option ((List Int))) : (p : roadref3_ObjectWords.l0_k.Pt) → Option ((List Int))
  | .l0 y1 a3 s4 => if s4 = (ByteArray.mk #[]) then (Option.bind (ap 8 a3 y1.Parts) fun l40 => some (l40)) else ((go (.l1 y1 a3 s4 (if ((ByteArray.size s4 : Nat) : Int) < (8 : Int) then ((ByteArray.size s4 : Nat) : Int) else (8 : Int)) (0 : Int) (IntKind.wrap .i64 ((if ((ByteArray.size s4 : Nat) : Int) < (8 : Int) then ((ByteArray.size s4 : Nat) : Int) else (8 : Int)) - (1 : Int))))))
  | .l1 y1 a3 s4 x5 x6 x7 => if x7 ≥ (0 : Int) then (Option.bind (gb s4 x7) fun y53 => (go (.l1 y1 a3 s4 x5 (IntKind.wrap .u64 ((IntKind.wrap .u64 ((256 : Int) * x6)) + (IntKind.wrap .u64 y53))) (IntKind.wrap .i64 (x7 - (1 : Int)))))) else (if 0 ≤ x5 ∧ x5 ≤ ((ByteArray.size s4 : Nat) : Int) ∧ ((ByteArray.size s4 : Nat) : Int) ≤ ((ByteArray.size s4 : Nat) : Int) then (Option.bind (ap 8 a3 ([x6] : List Int)) fun l70 => (go (.l0 y1 l70 (ByteArray.extract s4 (Int.toNat x5) (Int.toNat ((ByteArray.size s4 : Nat) : Int)))))) else none)
theorem roadref3_ObjectWords.l0_k.mono : MonoF (β := fun _ => ((List Int))) roadref3_ObjectWords.l0_k.body := fun f g hfg p => match p with
  | .l0 y1 a3 s4 => LeO.ite (LeO.bind (LeO.refl _) fun l40 => LeO.refl _) ((hfg _))
  | .l1 y1 a3 s4 x5 x6 x7 => LeO.ite (LeO.bind (LeO.refl _) fun y53 => (hfg _)) (LeO.ite (LeO.bind (LeO.refl _) fun l70 => (hfg _)) (LeO.refl _))
noncomputable def roadref3_ObjectWords.l0_k.go (p : roadref3_ObjectWords.l0_k.Pt) : Option ((List Int)) := fixF (β := fun _ => ((List Int))) roadref3_ObjectWords.l0_k.body p
noncomputable def roadref3_ObjectWords.l0 (y1 : T_heap_Object) (a3 : List Int) (s4 : ByteArray) : Option ((List Int)) := roadref3_ObjectWords.l0_k.go (.l0 y1 a3 s4)
noncomputable def roadref3_ObjectWords.l1 (y1 : T_heap_Object) (a3 : List Int) (s4 : ByteArray) (x5 : Int) (x6 : Int) (x7 : Int) : Option ((List Int)) := roadref3_ObjectWords.l0_k.go (.l1 y1 a3 s4 x5 x6 x7)
theorem roadref3_ObjectWords.l0_eq (y1 : T_heap_Object) (a3 : List Int) (s4 : ByteArray) : roadref3_ObjectWords.l0 y1 a3 s4 = if s4 = (ByteArray.mk #[]) then (Option.bind (ap 8 a3 y1.Parts) fun l40 => some (l40)) else ((roadref3_ObjectWords.l1 y1 a3 s4 (if ((ByteArray.size s4 : Nat) : Int) < (8 : Int) then ((ByteArray.size s4 : Nat) : Int) else (8 : Int)) (0 : Int) (IntKind.wrap .i64 ((if ((ByteArray.size s4 : Nat) : Int) < (8 : Int) then ((ByteArray.size s4 : Nat) : Int) else (8 : Int)) - (1 : Int))))) := fixF_eq roadref3_ObjectWords.l0_k.mono _
theorem roadref3_ObjectWords.l1_eq (y1 : T_heap_Object) (a3 : List Int) (s4 : ByteArray) (x5 : Int) (x6 : Int) (x7 : Int) : roadref3_ObjectWords.l1 y1 a3 s4 x5 x6 x7 = if x7 ≥ (0 : Int) then (Option.bind (gb s4 x7) fun y53 => (roadref3_ObjectWords.l1 y1 a3 s4 x5 (IntKind.wrap .u64 ((IntKind.wrap .u64 ((256 : Int) * x6)) + (IntKind.wrap .u64 y53))) (IntKind.wrap .i64 (x7 - (1 : Int))))) else (if 0 ≤ x5 ∧ x5 ≤ ((ByteArray.size s4 : Nat) : Int) ∧ ((ByteArray.size s4 : Nat) : Int) ≤ ((ByteArray.size s4 : Nat) : Int) then (Option.bind (ap 8 a3 ([x6] : List Int)) fun l70 => (roadref3_ObjectWords.l0 y1 l70 (ByteArray.extract s4 (Int.toNat x5) (Int.toNat ((ByteArray.size s4 : Nat) : Int))))) else none) := fixF_eq roadref3_ObjectWords.l0_k.mono _
def roadref3_ObjectWords.l0_k.I : (p : roadref3_ObjectWords.l0_k.Pt) → ((List Int)) → Prop
  | .l0 y1 a3 s4, r => ∀ (h0 m0 h m : Heap) (bk1 : Nat) (cs1 : List Value) (A3 : Option Addr) (n3 c3 : Nat) (S : St No h0 m0 h m) (o1 : OB No h0 h m bk1 cs1 202) (e1 : T_heap_Object.E m y1 cs1) (ne3 : n3 = List.length a3) (o3 : OS No h0 1 (eInt .u64) h m A3 a3 c3) (d0_1 : Dj (fb bk1) (fp A3 c3)), f104.l0 (roadref3_ObjectWords.post No h0 m0 r) (⟨bk1, 0, none⟩ : Addr) A3 n3 c3 s4 h
  | .l1 y1 a3 s4 x5 x6 x7, r => ∀ (h0 m0 h m : Heap) (bk1 : Nat) (cs1 : List Value) (A3 : Option Addr) (n3 c3 : Nat) (S : St No h0 m0 h m) (o1 : OB No h0 h m bk1 cs1 202) (e1 : T_heap_Object.E m y1 cs1) (ne3 : n3 = List.length a3) (o3 : OS No h0 1 (eInt .u64) h m A3 a3 c3) (d0_1 : Dj (fb bk1) (fp A3 c3)), f104.l1 (roadref3_ObjectWords.post No h0 m0 r) (⟨bk1, 0, none⟩ : Addr) A3 n3 c3 s4 x5 x6 x7 h
set_option maxRecDepth 100000 in
theorem roadref3_ObjectWords.l0_k.step_l0 (go : (p : roadref3_ObjectWords.l0_k.Pt) → Option ((List Int))) (ih : ∀ p r, go p = some r → roadref3_ObjectWords.l0_k.I p r) (y1 : T_heap_Object) (a3 : List Int) (s4 : ByteArray) (r : (List Int)) (e : roadref3_ObjectWords.l0_k.body go (.l0 y1 a3 s4) = some r) : roadref3_ObjectWords.l0_k.I (.l0 y1 a3 s4) r := by
  unfold roadref3_ObjectWords.l0_k.body at e
  intro h0 m0 h m bk1 cs1 A3 n3 c3 S o1 e1 ne3 o3 d0_1
  obtain ⟨Ae1_4, ce1_4, rfl, ke1_4, re1_4⟩ := e1
  subst ne3
  refine f104.l0_in ?_
  unfold f104.l0T
  try rw [ba_list s4 (ByteArray.mk #[])]
  refine split_not ?_
  refine split_dec_e e (fun c52 e => ?_) (fun c52 e => ?_)
  · refine ⟨_, ldk (k := 4) (Sub.refl _) o1.all rfl, _, _, _, rfl, ?_⟩
    obtain ⟨l40, g41, e⟩ := bind_e e
    refine o3.app (tell_int .u64) S rfl rfl (Rd.srcE re1_4 (tell_int .u64) S.s rfl) (by decide) g41 fun A42 c43 h44 o45 t46 n47 => ?_
    refine ⟨_, _, _, rfl, ?_⟩
    have d49 : Dj (fb bk1) (fp A42 c43) := Dj.app d0_1 o1.lt n47
    have S50 := S.then t46 (fun i _ hi => o3.wr i hi)
    have o51 := o1.step t46 (d0_1).symm
    cases e
    exact ⟨_, _, _, _, S50, rfl, rfl, o45⟩
  · exact (ih _ _ e) _ _ _ _ _ _ _ _ _ S o1 (show T_heap_Object.E _ y1 [(Value.int .i64 y1.At), (Value.int .i64 y1.Kind), (Value.int .i64 y1.Num), (Value.string y1.Text), (Value.slice Ae1_4 (List.length y1.Parts) ce1_4)] from ⟨_, _, rfl, ke1_4, re1_4⟩) rfl o3 d0_1
set_option maxRecDepth 100000 in
theorem roadref3_ObjectWords.l0_k.step_l1 (go : (p : roadref3_ObjectWords.l0_k.Pt) → Option ((List Int))) (ih : ∀ p r, go p = some r → roadref3_ObjectWords.l0_k.I p r) (y1 : T_heap_Object) (a3 : List Int) (s4 : ByteArray) (x5 : Int) (x6 : Int) (x7 : Int) (r : (List Int)) (e : roadref3_ObjectWords.l0_k.body go (.l1 y1 a3 s4 x5 x6 x7) = some r) : roadref3_ObjectWords.l0_k.I (.l1 y1 a3 s4 x5 x6 x7) r := by
  unfold roadref3_ObjectWords.l0_k.body at e
  intro h0 m0 h m bk1 cs1 A3 n3 c3 S o1 e1 ne3 o3 d0_1
  obtain ⟨Ae1_4, ce1_4, rfl, ke1_4, re1_4⟩ := e1
  subst ne3
  refine f104.l1_in ?_
  unfold f104.l1T
  refine split_dec_e e (fun c84 e => ?_) (fun c84 e => ?_)
  · obtain ⟨y53, g54, e⟩ := bind_e e
    obtain ⟨q55, b56, q57, q58⟩ := gb_e g54
    refine ⟨q55, _, q57, ?_⟩
    try rw [← q58]
    exact (ih _ _ e) _ _ _ _ _ _ _ _ _ S o1 (show T_heap_Object.E _ y1 [(Value.int .i64 y1.At), (Value.int .i64 y1.Kind), (Value.int .i64 y1.Num), (Value.string y1.Text), (Value.slice Ae1_4 (List.length y1.Parts) ce1_4)] from ⟨_, _, rfl, ke1_4, re1_4⟩) rfl o3 d0_1
  · obtain ⟨g59, e⟩ := guard_e e
    refine ⟨g59.1, g59.2.1, g59.2.2, ?_⟩
    refine new_in S fun h60 o61 x62 => ?_
    have d65 : Dj (fb bk1) (fb (Array.size h)) := Dj.new o1.lt
    have d66 : Dj (fp A3 c3) (fb (Array.size h)) := Dj.new o3.lt
    have o67 := o1.ext x62
    have o68 := o3.ext (tell_int .u64) S.s x62
    have S63 := S.ext' x62
    have o61 : OB _ _ h60 _ (Array.size h) [(Value.int .u64 x6)] 98 := o61
    have o69 : OS _ _ 1 (eInt .u64) h60 m (some ⟨(Array.size h), 0, none⟩) ([x6] : List Int) 1 := OB.row o61 (CsE.cons (c1 := [(Value.int .u64 x6)]) rfl rfl CsE.nil) rfl
    obtain ⟨l70, g71, e⟩ := bind_e e
    refine o68.app (tell_int .u64) S63 rfl rfl (o69.srcE rfl) (by decide) g71 fun A72 c73 h74 o75 t76 n77 => ?_
    refine ⟨_, _, _, rfl, ?_⟩
    have d79 : Dj (fb bk1) (fp A72 c73) := Dj.app d0_1 o67.lt n77
    have d80 : Dj (fp (some ⟨(Array.size h), 0, none⟩) 1) (fp A72 c73) := Dj.app ((d66.row)).symm o69.lt n77
    have S81 := S63.then t76 (fun i _ hi => o68.wr i hi)
    have o82 := o67.step t76 (d0_1).symm
    have o83 := o69.step (tell_int .u64) t76 (d66.row)
    exact (ih _ _ e) _ _ _ _ _ _ _ _ _ S81 o82 (show T_heap_Object.E _ y1 [(Value.int .i64 y1.At), (Value.int .i64 y1.Kind), (Value.int .i64 y1.Num), (Value.string y1.Text), (Value.slice Ae1_4 (List.length y1.Parts) ce1_4)] from ⟨_, _, rfl, ke1_4, re1_4⟩) rfl o75 d79
theorem roadref3_ObjectWords.l0_k.all {p : roadref3_ObjectWords.l0_k.Pt} {r : ((List Int))} (e : roadref3_ObjectWords.l0_k.go p = some r) : roadref3_ObjectWords.l0_k.I p r := fixF_ind (β := fun _ => ((List Int))) roadref3_ObjectWords.l0_k.mono (I := roadref3_ObjectWords.l0_k.I) (fun go ih p r e => match p with
  | .l0 y1 a3 s4 => roadref3_ObjectWords.l0_k.step_l0 go ih y1 a3 s4 r e
  | .l1 y1 a3 s4 x5 x6 x7 => roadref3_ObjectWords.l0_k.step_l1 go ih y1 a3 s4 x5 x6 x7 r e
  ) e
theorem roadref3_ObjectWords.l0.walk {h0 m0 h m : Heap} {bk1 : Nat} {cs1 : List Value} {A3 : Option Addr} {n3 c3 : Nat} {y1 : T_heap_Object} {a3 : List Int} {s4 : ByteArray} (S : St No h0 m0 h m) (o1 : OB No h0 h m bk1 cs1 202) (e1 : T_heap_Object.E m y1 cs1) (ne3 : n3 = List.length a3) (o3 : OS No h0 1 (eInt .u64) h m A3 a3 c3) (d0_1 : Dj (fb bk1) (fp A3 c3)) {r : (List Int)} (e : roadref3_ObjectWords.l0 y1 a3 s4 = some r) : f104.l0 (roadref3_ObjectWords.post No h0 m0 r) (⟨bk1, 0, none⟩ : Addr) A3 n3 c3 s4 h := roadref3_ObjectWords.l0_k.all (p := .l0 y1 a3 s4) e h0 m0 h m bk1 cs1 A3 n3 c3 S o1 e1 ne3 o3 d0_1
theorem roadref3_ObjectWords.l1.walk {h0 m0 h m : Heap} {bk1 : Nat} {cs1 : List Value} {A3 : Option Addr} {n3 c3 : Nat} {y1 : T_heap_Object} {a3 : List Int} {s4 : ByteArray} {x5 : Int} {x6 : Int} {x7 : Int} (S : St No h0 m0 h m) (o1 : OB No h0 h m bk1 cs1 202) (e1 : T_heap_Object.E m y1 cs1) (ne3 : n3 = List.length a3) (o3 : OS No h0 1 (eInt .u64) h m A3 a3 c3) (d0_1 : Dj (fb bk1) (fp A3 c3)) {r : (List Int)} (e : roadref3_ObjectWords.l1 y1 a3 s4 x5 x6 x7 = some r) : f104.l1 (roadref3_ObjectWords.post No h0 m0 r) (⟨bk1, 0, none⟩ : Addr) A3 n3 c3 s4 x5 x6 x7 h := roadref3_ObjectWords.l0_k.all (p := .l1 y1 a3 s4 x5 x6 x7) e h0 m0 h m bk1 cs1 A3 n3 c3 S o1 e1 ne3 o3 d0_1

noncomputable def roadref3_ObjectWords.j0 (y1 : T_heap_Object) (a3 : List Int) : Option ((List Int)) :=
  (roadref3_ObjectWords.l0 y1 a3 y1.Text)
set_option maxRecDepth 100000 in
theorem roadref3_ObjectWords.j0.walk {h0 m0 h m : Heap} {bk1 : Nat} {cs1 : List Value} {A3 : Option Addr} {n3 c3 : Nat} {y1 : T_heap_Object} {a3 : List Int} (S : St No h0 m0 h m) (o1 : OB No h0 h m bk1 cs1 202) (e1 : T_heap_Object.E m y1 cs1) (ne3 : n3 = List.length a3) (o3 : OS No h0 1 (eInt .u64) h m A3 a3 c3) (d0_1 : Dj (fb bk1) (fp A3 c3)) {r : (List Int)} (e : roadref3_ObjectWords.j0 y1 a3 = some r) : f104.j0 (roadref3_ObjectWords.post No h0 m0 r) (⟨bk1, 0, none⟩ : Addr) A3 n3 c3 h := by
  unfold roadref3_ObjectWords.j0 at e
  obtain ⟨Ae1_4, ce1_4, rfl, ke1_4, re1_4⟩ := e1
  subst ne3
  refine f104.j0_in ?_
  unfold f104.j0T
  refine ⟨_, ldk (k := 3) (Sub.refl _) o1.all rfl, _, rfl, ?_⟩
  exact roadref3_ObjectWords.l0.walk S o1 (show T_heap_Object.E _ y1 [(Value.int .i64 y1.At), (Value.int .i64 y1.Kind), (Value.int .i64 y1.Num), (Value.string y1.Text), (Value.slice Ae1_4 (List.length y1.Parts) ce1_4)] from ⟨_, _, rfl, ke1_4, re1_4⟩) rfl o3 d0_1 e

noncomputable def roadref3_ObjectWords.j1 (y1 : T_heap_Object) (a3 : List Int) (b31 : Bool) : Option ((List Int)) :=
  if b31 = true then (Option.bind (ap 8 a3 ([(IntKind.wrap .u64 y1.Num)] : List Int)) fun l25 => (roadref3_ObjectWords.j0 y1 l25)) else ((roadref3_ObjectWords.j0 y1 a3))
set_option maxRecDepth 100000 in
theorem roadref3_ObjectWords.j1.walk {h0 m0 h m : Heap} {bk1 : Nat} {cs1 : List Value} {A3 : Option Addr} {n3 c3 : Nat} {y1 : T_heap_Object} {a3 : List Int} {b31 : Bool} (S : St No h0 m0 h m) (o1 : OB No h0 h m bk1 cs1 202) (e1 : T_heap_Object.E m y1 cs1) (ne3 : n3 = List.length a3) (o3 : OS No h0 1 (eInt .u64) h m A3 a3 c3) (d0_1 : Dj (fb bk1) (fp A3 c3)) {r : (List Int)} (e : roadref3_ObjectWords.j1 y1 a3 b31 = some r) : f104.j1 (roadref3_ObjectWords.post No h0 m0 r) (⟨bk1, 0, none⟩ : Addr) A3 n3 c3 b31 h := by
  unfold roadref3_ObjectWords.j1 at e
  obtain ⟨Ae1_4, ce1_4, rfl, ke1_4, re1_4⟩ := e1
  subst ne3
  refine f104.j1_in ?_
  unfold f104.j1T
  refine split_any_e e (fun c39 e => ?_) (fun c39 e => ?_)
  · refine ⟨_, ldk (k := 2) (Sub.refl _) o1.all rfl, _, rfl, ?_⟩
    refine new_in S fun h15 o16 x17 => ?_
    have d20 : Dj (fb bk1) (fb (Array.size h)) := Dj.new o1.lt
    have d21 : Dj (fp A3 c3) (fb (Array.size h)) := Dj.new o3.lt
    have o22 := o1.ext x17
    have o23 := o3.ext (tell_int .u64) S.s x17
    have S18 := S.ext' x17
    have o16 : OB _ _ h15 _ (Array.size h) [(Value.int .u64 (IntKind.wrap .u64 y1.Num))] 98 := o16
    have o24 : OS _ _ 1 (eInt .u64) h15 m (some ⟨(Array.size h), 0, none⟩) ([(IntKind.wrap .u64 y1.Num)] : List Int) 1 := OB.row o16 (CsE.cons (c1 := [(Value.int .u64 (IntKind.wrap .u64 y1.Num))]) rfl rfl CsE.nil) rfl
    obtain ⟨l25, g26, e⟩ := bind_e e
    refine o23.app (tell_int .u64) S18 rfl rfl (o24.srcE rfl) (by decide) g26 fun A27 c28 h29 o30 t31 n32 => ?_
    refine ⟨_, _, _, rfl, ?_⟩
    have d34 : Dj (fb bk1) (fp A27 c28) := Dj.app d0_1 o22.lt n32
    have d35 : Dj (fp (some ⟨(Array.size h), 0, none⟩) 1) (fp A27 c28) := Dj.app ((d21.row)).symm o24.lt n32
    have S36 := S18.then t31 (fun i _ hi => o23.wr i hi)
    have o37 := o22.step t31 (d0_1).symm
    have o38 := o24.step (tell_int .u64) t31 (d21.row)
    exact roadref3_ObjectWords.j0.walk S36 o37 (show T_heap_Object.E _ y1 [(Value.int .i64 y1.At), (Value.int .i64 y1.Kind), (Value.int .i64 y1.Num), (Value.string y1.Text), (Value.slice Ae1_4 (List.length y1.Parts) ce1_4)] from ⟨_, _, rfl, ke1_4, re1_4⟩) rfl o30 d34 e
  · exact roadref3_ObjectWords.j0.walk S o1 (show T_heap_Object.E _ y1 [(Value.int .i64 y1.At), (Value.int .i64 y1.Kind), (Value.int .i64 y1.Num), (Value.string y1.Text), (Value.slice Ae1_4 (List.length y1.Parts) ce1_4)] from ⟨_, _, rfl, ke1_4, re1_4⟩) rfl o3 d0_1 e

noncomputable def roadref3_ObjectWords (y0 : T_heap_Object) : Option ((List Int)) :=
  if y0.Kind = (1 : Int) then ((roadref3_ObjectWords.j1 y0 ([(IntKind.wrap .u64 ((IntKind.wrap .u64 ((IntKind.wrap .u64 y0.Kind) + (IntKind.wrap .u64 ((256 : Int) * (IntKind.wrap .u64 ((ByteArray.size y0.Text : Nat) : Int)))))) + (IntKind.wrap .u64 ((1048576 : Int) * (IntKind.wrap .u64 (((List.length y0.Parts) : Nat) : Int))))))] : List Int) true)) else ((roadref3_ObjectWords.j1 y0 ([(IntKind.wrap .u64 ((IntKind.wrap .u64 ((IntKind.wrap .u64 y0.Kind) + (IntKind.wrap .u64 ((256 : Int) * (IntKind.wrap .u64 ((ByteArray.size y0.Text : Nat) : Int)))))) + (IntKind.wrap .u64 ((1048576 : Int) * (IntKind.wrap .u64 (((List.length y0.Parts) : Nat) : Int))))))] : List Int) (y0.Kind == (4 : Int))))
set_option maxRecDepth 100000 in
theorem roadref3_ObjectWords.walk {h m : Heap} {cs0 : List Value} {y0 : T_heap_Object} (s : Sub m h) (e0 : T_heap_Object.E m y0 cs0) {r : (List Int)} (e : roadref3_ObjectWords y0 = some r) : Run Try.prog 104 #[Value.agg cs0.toArray] h (roadref3_ObjectWords.post No h m r) := by
  unfold roadref3_ObjectWords at e
  obtain ⟨Ae0_4, ce0_4, rfl, ke0_4, re0_4⟩ := e0
  have S : St No h m h m := .refl s
  refine f104.run ?_
  unfold f104.runT
  refine new_in S fun h1 o2 x3 => ?_
  have S4 := S.ext' x3
  have o2 : OB _ _ h1 _ (Array.size h) [(Value.int .i64 y0.At), (Value.int .i64 y0.Kind), (Value.int .i64 y0.Num), (Value.string y0.Text), (Value.slice Ae0_4 (List.length y0.Parts) ce0_4)] 202 := o2
  refine ⟨_, ldk (k := 1) (Sub.refl _) o2.all rfl, _, rfl, ?_⟩
  refine ⟨_, ldk (k := 3) (Sub.refl _) o2.all rfl, _, rfl, ?_⟩
  refine ⟨_, ldk (k := 4) (Sub.refl _) o2.all rfl, _, _, _, rfl, ?_⟩
  refine new_in S4 fun h6 o7 x8 => ?_
  have d11 : Dj (fb (Array.size h)) (fb (Array.size h1)) := Dj.new o2.lt
  have o12 := o2.ext x8
  have S9 := S4.ext' x8
  have o7 : OB _ _ h6 _ (Array.size h1) [(Value.int .u64 (IntKind.wrap .u64 ((IntKind.wrap .u64 ((IntKind.wrap .u64 y0.Kind) + (IntKind.wrap .u64 ((256 : Int) * (IntKind.wrap .u64 ((ByteArray.size y0.Text : Nat) : Int)))))) + (IntKind.wrap .u64 ((1048576 : Int) * (IntKind.wrap .u64 (((List.length y0.Parts) : Nat) : Int)))))))] 98 := o7
  have o13 : OS _ _ 1 (eInt .u64) h6 m (some ⟨(Array.size h1), 0, none⟩) ([(IntKind.wrap .u64 ((IntKind.wrap .u64 ((IntKind.wrap .u64 y0.Kind) + (IntKind.wrap .u64 ((256 : Int) * (IntKind.wrap .u64 ((ByteArray.size y0.Text : Nat) : Int)))))) + (IntKind.wrap .u64 ((1048576 : Int) * (IntKind.wrap .u64 (((List.length y0.Parts) : Nat) : Int))))))] : List Int) 1 := OB.row o7 (CsE.cons (c1 := [(Value.int .u64 (IntKind.wrap .u64 ((IntKind.wrap .u64 ((IntKind.wrap .u64 y0.Kind) + (IntKind.wrap .u64 ((256 : Int) * (IntKind.wrap .u64 ((ByteArray.size y0.Text : Nat) : Int)))))) + (IntKind.wrap .u64 ((1048576 : Int) * (IntKind.wrap .u64 (((List.length y0.Parts) : Nat) : Int)))))))]) rfl rfl CsE.nil) rfl
  refine ⟨_, ldk (k := 1) (Sub.refl _) o12.all rfl, _, rfl, ?_⟩
  refine split_eq_e e (fun c14 e => ?_) (fun c14 e => ?_)
  · exact roadref3_ObjectWords.j1.walk S9 o12 (show T_heap_Object.E _ y0 [(Value.int .i64 y0.At), (Value.int .i64 y0.Kind), (Value.int .i64 y0.Num), (Value.string y0.Text), (Value.slice Ae0_4 (List.length y0.Parts) ce0_4)] from ⟨_, _, rfl, ke0_4, re0_4⟩) rfl o13 (d11.row) e
  · refine ⟨_, ldk (k := 1) (Sub.refl _) o12.all rfl, _, rfl, ?_⟩
    exact roadref3_ObjectWords.j1.walk S9 o12 (show T_heap_Object.E _ y0 [(Value.int .i64 y0.At), (Value.int .i64 y0.Kind), (Value.int .i64 y0.Num), (Value.string y0.Text), (Value.slice Ae0_4 (List.length y0.Parts) ce0_4)] from ⟨_, _, rfl, ke0_4, re0_4⟩) rfl o13 (d11.row) e

/-! ### 122 roadstead/roadref3.ObjectIs -/
def roadref3_ObjectIs.post (W : Nat → Prop) (h0 m0 : Heap) (r : Bool) (v : Value) (h : Heap) : Prop := ∃ m , St W h0 m0 h m ∧ v = .bool r
noncomputable def roadref3_ObjectIs.j1 (y1 : T_heap_Object) (b3 : Bool) (b4 : Bool) (b5 : Bool) : Option (Bool) :=
  if b3 = true then (if b4 = true then (if b5 = true then (some (true)) else (some (((((List.length y1.Parts) : Nat) : Int) == (0 : Int))))) else (if y1.Num = (0 : Int) then (if b5 = true then (some (true)) else (some (((((List.length y1.Parts) : Nat) : Int) == (0 : Int))))) else (some (false)))) else (if y1.Text = (ByteArray.mk #[]) then (if b4 = true then (if b5 = true then (some (true)) else (some (((((List.length y1.Parts) : Nat) : Int) == (0 : Int))))) else (if y1.Num = (0 : Int) then (if b5 = true then (some (true)) else (some (((((List.length y1.Parts) : Nat) : Int) == (0 : Int))))) else (some (false)))) else (some (false)))
set_option maxRecDepth 100000 in
theorem roadref3_ObjectIs.j1.walk {h0 m0 h m : Heap} {bk1 : Nat} {cs1 : List Value} {y1 : T_heap_Object} {b3 : Bool} {b4 : Bool} {b5 : Bool} (S : St No h0 m0 h m) (o1 : OB No h0 h m bk1 cs1 202) (e1 : T_heap_Object.E m y1 cs1) {r : Bool} (e : roadref3_ObjectIs.j1 y1 b3 b4 b5 = some r) : f122.j1 (roadref3_ObjectIs.post No h0 m0 r) (⟨bk1, 0, none⟩ : Addr) b3 b4 b5 h := by
  unfold roadref3_ObjectIs.j1 at e
  obtain ⟨Ae1_4, ce1_4, rfl, ke1_4, re1_4⟩ := e1
  refine f122.j1_in ?_
  unfold f122.j1T
  refine split_any_e e (fun c30 e => ?_) (fun c30 e => ?_)
  · refine split_any_e e (fun c24 e => ?_) (fun c24 e => ?_)
    · refine split_any_e e (fun c21 e => ?_) (fun c21 e => ?_)
      · cases e
        exact ⟨_, S, rfl⟩
      · refine ⟨_, ldk (k := 4) (Sub.refl _) o1.all rfl, _, _, _, rfl, ?_⟩
        cases e
        exact ⟨_, S, rfl⟩
    · refine ⟨_, ldk (k := 2) (Sub.refl _) o1.all rfl, _, rfl, ?_⟩
      refine split_eq_e e (fun c23 e => ?_) (fun c23 e => ?_)
      · refine split_any_e e (fun c22 e => ?_) (fun c22 e => ?_)
        · cases e
          exact ⟨_, S, rfl⟩
        · refine ⟨_, ldk (k := 4) (Sub.refl _) o1.all rfl, _, _, _, rfl, ?_⟩
          cases e
          exact ⟨_, S, rfl⟩
      · cases e
        exact ⟨_, S, rfl⟩
  · refine ⟨_, ldk (k := 3) (Sub.refl _) o1.all rfl, _, rfl, ?_⟩
    try rw [ba_list y1.Text (ByteArray.mk #[])]
    refine split_dec_e e (fun c29 e => ?_) (fun c29 e => ?_)
    · refine split_any_e e (fun c28 e => ?_) (fun c28 e => ?_)
      · refine split_any_e e (fun c25 e => ?_) (fun c25 e => ?_)
        · cases e
          exact ⟨_, S, rfl⟩
        · refine ⟨_, ldk (k := 4) (Sub.refl _) o1.all rfl, _, _, _, rfl, ?_⟩
          cases e
          exact ⟨_, S, rfl⟩
      · refine ⟨_, ldk (k := 2) (Sub.refl _) o1.all rfl, _, rfl, ?_⟩
        refine split_eq_e e (fun c27 e => ?_) (fun c27 e => ?_)
        · refine split_any_e e (fun c26 e => ?_) (fun c26 e => ?_)
          · cases e
            exact ⟨_, S, rfl⟩
          · refine ⟨_, ldk (k := 4) (Sub.refl _) o1.all rfl, _, _, _, rfl, ?_⟩
            cases e
            exact ⟨_, S, rfl⟩
        · cases e
          exact ⟨_, S, rfl⟩
    · cases e
      exact ⟨_, S, rfl⟩

noncomputable def roadref3_ObjectIs.j0 (y1 : T_heap_Object) (b3 : Bool) (b4 : Bool) (b5 : Bool) : Option (Bool) :=
  Option.bind (roadref3_In y1.Kind (1 : Int) (5 : Int)) fun y9 => if y9 = true then (if ((ByteArray.size y1.Text : Nat) : Int) > (64 : Int) then (some (false)) else (if (((List.length y1.Parts) : Nat) : Int) > (400 : Int) then (some (false)) else (if y1.Kind = (5 : Int) then (if (((List.length y1.Parts) : Nat) : Int) > (1 : Int) then (some (false)) else ((roadref3_ObjectIs.j1 y1 b3 b4 b5))) else ((roadref3_ObjectIs.j1 y1 b3 b4 b5))))) else (some (false))
set_option maxRecDepth 100000 in
theorem roadref3_ObjectIs.j0.walk {h0 m0 h m : Heap} {bk1 : Nat} {cs1 : List Value} {y1 : T_heap_Object} {b3 : Bool} {b4 : Bool} {b5 : Bool} (S : St No h0 m0 h m) (o1 : OB No h0 h m bk1 cs1 202) (e1 : T_heap_Object.E m y1 cs1) {r : Bool} (e : roadref3_ObjectIs.j0 y1 b3 b4 b5 = some r) : f122.j0 (roadref3_ObjectIs.post No h0 m0 r) (⟨bk1, 0, none⟩ : Addr) b3 b4 b5 h := by
  unfold roadref3_ObjectIs.j0 at e
  obtain ⟨Ae1_4, ce1_4, rfl, ke1_4, re1_4⟩ := e1
  refine f122.j0_in ?_
  unfold f122.j0T
  refine ⟨_, ldk (k := 1) (Sub.refl _) o1.all rfl, _, rfl, ?_⟩
  obtain ⟨y9, g10, e⟩ := bind_e e
  refine (roadref3_In.walk S.s  g10).mono ?_
  rintro _ h11 ⟨m12, T13, rfl⟩
  have S14 := S.grow T13
  have o15 := o1.step T13 Dj.no
  refine ⟨_, rfl, ?_⟩
  refine split_not ?_
  refine split_any_e e (fun c20 e => ?_) (fun c20 e => ?_)
  · refine ⟨_, ldk (k := 3) (Sub.refl _) o15.all rfl, _, rfl, ?_⟩
    refine split_dec_e e (fun c19 e => ?_) (fun c19 e => ?_)
    · cases e
      exact ⟨_, S14, rfl⟩
    · refine ⟨_, ldk (k := 4) (Sub.refl _) o15.all rfl, _, _, _, rfl, ?_⟩
      refine split_dec_e e (fun c18 e => ?_) (fun c18 e => ?_)
      · cases e
        exact ⟨_, S14, rfl⟩
      · refine ⟨_, ldk (k := 1) (Sub.refl _) o15.all rfl, _, rfl, ?_⟩
        refine split_eq_e e (fun c17 e => ?_) (fun c17 e => ?_)
        · refine ⟨_, ldk (k := 4) (Sub.refl _) o15.all rfl, _, _, _, rfl, ?_⟩
          refine split_dec_e e (fun c16 e => ?_) (fun c16 e => ?_)
          · cases e
            exact ⟨_, S14, rfl⟩
          · exact roadref3_ObjectIs.j1.walk S14 o15 (show T_heap_Object.E _ y1 [(Value.int .i64 y1.At), (Value.int .i64 y1.Kind), (Value.int .i64 y1.Num), (Value.string y1.Text), (Value.slice Ae1_4 (List.length y1.Parts) ce1_4)] from ⟨_, _, rfl, ke1_4, (re1_4.sub (tell_int .u64) T13.up)⟩) e
        · exact roadref3_ObjectIs.j1.walk S14 o15 (show T_heap_Object.E _ y1 [(Value.int .i64 y1.At), (Value.int .i64 y1.Kind), (Value.int .i64 y1.Num), (Value.string y1.Text), (Value.slice Ae1_4 (List.length y1.Parts) ce1_4)] from ⟨_, _, rfl, ke1_4, (re1_4.sub (tell_int .u64) T13.up)⟩) e
  · cases e
    exact ⟨_, S14, rfl⟩

noncomputable def roadref3_ObjectIs (y0 : T_heap_Object) : Option (Bool) :=
  if y0.Kind = (2 : Int) then (if y0.Kind = (1 : Int) then ((roadref3_ObjectIs.j0 y0 true true (decide (y0.Kind > (2 : Int))))) else ((roadref3_ObjectIs.j0 y0 true (y0.Kind == (4 : Int)) (decide (y0.Kind > (2 : Int)))))) else (if y0.Kind = (1 : Int) then ((roadref3_ObjectIs.j0 y0 (y0.Kind == (3 : Int)) true (decide (y0.Kind > (2 : Int))))) else ((roadref3_ObjectIs.j0 y0 (y0.Kind == (3 : Int)) (y0.Kind == (4 : Int)) (decide (y0.Kind > (2 : Int))))))
set_option maxRecDepth 100000 in
theorem roadref3_ObjectIs.walk {h m : Heap} {cs0 : List Value} {y0 : T_heap_Object} (s : Sub m h) (e0 : T_heap_Object.E m y0 cs0) {r : Bool} (e : roadref3_ObjectIs y0 = some r) : Run Try.prog 122 #[Value.agg cs0.toArray] h (roadref3_ObjectIs.post No h m r) := by
  unfold roadref3_ObjectIs at e
  obtain ⟨Ae0_4, ce0_4, rfl, ke0_4, re0_4⟩ := e0
  have S : St No h m h m := .refl s
  refine f122.run ?_
  unfold f122.runT
  refine new_in S fun h1 o2 x3 => ?_
  have S4 := S.ext' x3
  have o2 : OB _ _ h1 _ (Array.size h) [(Value.int .i64 y0.At), (Value.int .i64 y0.Kind), (Value.int .i64 y0.Num), (Value.string y0.Text), (Value.slice Ae0_4 (List.length y0.Parts) ce0_4)] 202 := o2
  refine ⟨_, ldk (k := 1) (Sub.refl _) o2.all rfl, _, rfl, ?_⟩
  refine split_eq_e e (fun c8 e => ?_) (fun c8 e => ?_)
  · refine ⟨_, ldk (k := 1) (Sub.refl _) o2.all rfl, _, rfl, ?_⟩
    refine split_eq_e e (fun c6 e => ?_) (fun c6 e => ?_)
    · refine ⟨_, ldk (k := 1) (Sub.refl _) o2.all rfl, _, rfl, ?_⟩
      exact roadref3_ObjectIs.j0.walk S4 o2 (show T_heap_Object.E _ y0 [(Value.int .i64 y0.At), (Value.int .i64 y0.Kind), (Value.int .i64 y0.Num), (Value.string y0.Text), (Value.slice Ae0_4 (List.length y0.Parts) ce0_4)] from ⟨_, _, rfl, ke0_4, re0_4⟩) e
    · refine ⟨_, ldk (k := 1) (Sub.refl _) o2.all rfl, _, rfl, ?_⟩
      refine ⟨_, ldk (k := 1) (Sub.refl _) o2.all rfl, _, rfl, ?_⟩
      exact roadref3_ObjectIs.j0.walk S4 o2 (show T_heap_Object.E _ y0 [(Value.int .i64 y0.At), (Value.int .i64 y0.Kind), (Value.int .i64 y0.Num), (Value.string y0.Text), (Value.slice Ae0_4 (List.length y0.Parts) ce0_4)] from ⟨_, _, rfl, ke0_4, re0_4⟩) e
  · refine ⟨_, ldk (k := 1) (Sub.refl _) o2.all rfl, _, rfl, ?_⟩
    refine ⟨_, ldk (k := 1) (Sub.refl _) o2.all rfl, _, rfl, ?_⟩
    refine split_eq_e e (fun c7 e => ?_) (fun c7 e => ?_)
    · refine ⟨_, ldk (k := 1) (Sub.refl _) o2.all rfl, _, rfl, ?_⟩
      exact roadref3_ObjectIs.j0.walk S4 o2 (show T_heap_Object.E _ y0 [(Value.int .i64 y0.At), (Value.int .i64 y0.Kind), (Value.int .i64 y0.Num), (Value.string y0.Text), (Value.slice Ae0_4 (List.length y0.Parts) ce0_4)] from ⟨_, _, rfl, ke0_4, re0_4⟩) e
    · refine ⟨_, ldk (k := 1) (Sub.refl _) o2.all rfl, _, rfl, ?_⟩
      refine ⟨_, ldk (k := 1) (Sub.refl _) o2.all rfl, _, rfl, ?_⟩
      exact roadref3_ObjectIs.j0.walk S4 o2 (show T_heap_Object.E _ y0 [(Value.int .i64 y0.At), (Value.int .i64 y0.Kind), (Value.int .i64 y0.Num), (Value.string y0.Text), (Value.slice Ae0_4 (List.length y0.Parts) ce0_4)] from ⟨_, _, rfl, ke0_4, re0_4⟩) e

end Go.Proofs.Ytilmfjdagnbbaab.Fw
