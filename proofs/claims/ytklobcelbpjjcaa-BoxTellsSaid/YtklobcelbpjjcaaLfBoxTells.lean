/- Data of the given program, and pure functions of its functions, with the walks. Printed by a program of this session. -/
import Derived.Test.YtklobcelbpjjcaaFwBoxTells
import Derived.Test.YtklobcelbpjjcaaHwOf
namespace Go.Proofs.Ytklobcelbpjjcaa.Fw
open Go Go.Hw Go.Proofs
set_option linter.unusedVariables false

structure T_api_Value where
  Kind : Int
  Num : Int
  Text : ByteArray
  Args : (List T_api_Value)
def T_api_Value.E (h : Heap) : T_api_Value → List Value → Prop
  | ⟨f0, f1, f2, f3⟩, cs => ∃ A3 c3, cs = [.int .i64 f0, .int .i64 f1, .string f2, .slice A3 f3.length c3] ∧ f3.length ≤ c3 ∧ (∀ i (hi : i < f3.length), ∃ a ds, A3 = some a ∧ cellsH h (a.add (i * 4)) 0 4 = some ds ∧ T_api_Value.E h f3[i] ds)
  termination_by x => SizeOf.sizeOf x
  decreasing_by
    all_goals
      have h1 := List.sizeOf_lt_of_mem (List.getElem_mem hi)
      first
      | (simp_all; omega)
theorem T_api_Value.iff {h : Heap} {x : T_api_Value} {cs : List Value} : T_api_Value.E h x cs ↔ ∃ A3 c3, cs = [.int .i64 x.Kind, .int .i64 x.Num, .string x.Text, .slice A3 x.Args.length c3] ∧ x.Args.length ≤ c3 ∧ Rd 4 T_api_Value.E h A3 x.Args := by
  cases x
  rw [T_api_Value.E]
  exact Iff.rfl
theorem T_api_Value.mono {m h : Heap} (s : Sub m h) : ∀ (x : T_api_Value) (cs : List Value), T_api_Value.E m x cs → T_api_Value.E h x cs
  | ⟨f0, f1, f2, f3⟩, cs, e => by
    rw [T_api_Value.E] at e ⊢
    obtain ⟨A3, c3, h1, k3, r3⟩ := e
    exact ⟨A3, c3, h1, k3, fun i hi => let ⟨a, ds, h1, h2, h3⟩ := r3 i hi; ⟨a, ds, h1, s.cells _ _ h2, T_api_Value.mono s _ _ h3⟩⟩
  termination_by x => SizeOf.sizeOf x
  decreasing_by
    all_goals
      have h1 := List.sizeOf_lt_of_mem (List.getElem_mem hi)
      first
      | (simp_all; omega)
theorem T_api_Value.T : Tell 4 T_api_Value.E := ⟨fun _ _ x cs s e => T_api_Value.mono s x cs e, by intro h x cs e; obtain ⟨A3, c3, rfl, k3, r3⟩ := T_api_Value.iff.1 e; rfl, by intro h x cs e; obtain ⟨A3, c3, rfl, k3, r3⟩ := T_api_Value.iff.1 e; exact Flats.cons trivial (Flats.cons trivial (Flats.cons trivial (Flats.cons trivial Flats.nil)))⟩
def T_api_Value.Q : T_api_Value → Prop
  | ⟨f0, f1, f2, f3⟩ => (-9223372036854775808 ≤ f0 ∧ f0 ≤ 9223372036854775807) ∧ (-9223372036854775808 ≤ f1 ∧ f1 ≤ 9223372036854775807) ∧ (f2.size ≤ 140737488351232) ∧ (f3.length * 56 ≤ 140737488351232 ∧ ∀ i (hi : i < f3.length), T_api_Value.Q f3[i])
  termination_by x => SizeOf.sizeOf x
  decreasing_by
    all_goals
      have h1 := List.sizeOf_lt_of_mem (List.getElem_mem hi)
      first
      | (simp_all; omega)
theorem T_api_Value.Q_iff {x : T_api_Value} : T_api_Value.Q x ↔ (-9223372036854775808 ≤ x.Kind ∧ x.Kind ≤ 9223372036854775807) ∧ (-9223372036854775808 ≤ x.Num ∧ x.Num ≤ 9223372036854775807) ∧ (x.Text.size ≤ 140737488351232) ∧ (x.Args.length * 56 ≤ 140737488351232 ∧ ∀ a ∈ x.Args, T_api_Value.Q a) := by
  obtain ⟨f0, f1, f2, f3⟩ := x
  rw [T_api_Value.Q]
  show _ ↔ (-9223372036854775808 ≤ f0 ∧ f0 ≤ 9223372036854775807) ∧ (-9223372036854775808 ≤ f1 ∧ f1 ≤ 9223372036854775807) ∧ (f2.size ≤ 140737488351232) ∧ (f3.length * 56 ≤ 140737488351232 ∧ ∀ a ∈ f3, T_api_Value.Q a)
  rw [← forall_get (l := f3) (p := T_api_Value.Q)]
theorem T_api_Value.tells {H : Type} {enc : TypeId × Value → H} {W : World} : Tells enc Try.prog W 27 T_api_Value.E T_api_Value.Q := tells_rec fun N ih => tellsU_map (tellsU_struct (t := 27) (fs := [(3, 0), (3, 1), (9, 2), (25, 3)]) (T := 4) (by kernel_rfl) (by kernel_rfl) (tfU_cons (s := 1) (f := 3) (by kernel_rfl) (Tells.up (tells_i64 (t := 3) (by kernel_rfl))) (tfU_cons (s := 1) (f := 3) (by kernel_rfl) (Tells.up (tells_i64 (t := 3) (by kernel_rfl))) (tfU_cons (s := 1) (f := 9) (by kernel_rfl) (Tells.up (tells_strL (t := 9) (by kernel_rfl))) (tfU_cons (s := 1) (f := 25) (by kernel_rfl) (tellsU_slice (t := 25) (e := 27) (sz := 4) (B := 56) (by kernel_rfl) (by kernel_rfl) (by kernel_rfl) ih) tfU_nil))))) (by
  rintro ⟨x0, x1, x2, x3, ⟨⟩⟩ cs e q
  obtain ⟨c0, r0, rfl, e0, c1, r1, rfl, e1, c2, r2, rfl, e2, c3, r3, rfl, e3, eN⟩ := e
  obtain rfl : c0 = [.int .i64 x0] := e0
  obtain rfl : c1 = [.int .i64 x1] := e1
  obtain rfl : c2 = [.string x2] := e2
  obtain ⟨A3, k3, rfl, l3, R3⟩ := e3
  obtain rfl : r3 = [] := eN
  exact ⟨⟨x0, x1, x2, x3⟩, T_api_Value.iff.2 ⟨_, _, rfl, l3, R3⟩, T_api_Value.Q_iff.2 ⟨q.1, q.2.1, q.2.2.1, q.2.2.2.1⟩⟩)
structure T_api_Letter where
  Kind : Int
  From : Int
  To : Int
  Num : Int
  Text : ByteArray
  Value_ : T_api_Value
def T_api_Letter.E (h : Heap) (x : T_api_Letter) (cs : List Value) : Prop := ∃ A8 c8, cs = [.int .i64 x.Kind, .int .i64 x.From, .int .i64 x.To, .int .i64 x.Num, .string x.Text, .int .i64 x.Value_.Kind, .int .i64 x.Value_.Num, .string x.Value_.Text, .slice A8 x.Value_.Args.length c8] ∧ x.Value_.Args.length ≤ c8 ∧ Rd 4 T_api_Value.E h A8 x.Value_.Args
theorem T_api_Letter.T : Tell 9 T_api_Letter.E := ⟨by rintro m h x _ s ⟨A8, c8, rfl, k8, r8⟩; exact ⟨_, _, rfl, k8, r8.sub T_api_Value.T s⟩, by rintro h x _ ⟨A8, c8, rfl, k8, r8⟩; rfl, by rintro h x _ ⟨A8, c8, rfl, k8, r8⟩; exact Flats.cons trivial (Flats.cons trivial (Flats.cons trivial (Flats.cons trivial (Flats.cons trivial (Flats.cons trivial (Flats.cons trivial (Flats.cons trivial (Flats.cons trivial Flats.nil))))))))⟩
def T_api_Letter.Q (x : T_api_Letter) : Prop := (-9223372036854775808 ≤ x.Kind ∧ x.Kind ≤ 9223372036854775807) ∧ (-9223372036854775808 ≤ x.From ∧ x.From ≤ 9223372036854775807) ∧ (-9223372036854775808 ≤ x.To ∧ x.To ≤ 9223372036854775807) ∧ (-9223372036854775808 ≤ x.Num ∧ x.Num ≤ 9223372036854775807) ∧ (x.Text.size ≤ 140737488351232) ∧ (T_api_Value.Q x.Value_)
theorem T_api_Letter.tells {H : Type} {enc : TypeId × Value → H} {W : World} : Tells enc Try.prog W 29 T_api_Letter.E T_api_Letter.Q := tells_map (tells_struct (t := 29) (fs := [(3, 0), (3, 1), (3, 2), (3, 3), (9, 4), (27, 5)]) (T := 9) (by kernel_rfl) (by kernel_rfl) (tf_cons (s := 1) (f := 3) (by kernel_rfl) (tells_i64 (t := 3) (by kernel_rfl)) (tf_cons (s := 1) (f := 3) (by kernel_rfl) (tells_i64 (t := 3) (by kernel_rfl)) (tf_cons (s := 1) (f := 3) (by kernel_rfl) (tells_i64 (t := 3) (by kernel_rfl)) (tf_cons (s := 1) (f := 3) (by kernel_rfl) (tells_i64 (t := 3) (by kernel_rfl)) (tf_cons (s := 1) (f := 9) (by kernel_rfl) (tells_strL (t := 9) (by kernel_rfl)) (tf_cons (s := 4) (f := 27) (by kernel_rfl) T_api_Value.tells tf_nil))))))) (by
  rintro ⟨x0, x1, x2, x3, x4, x5, ⟨⟩⟩ cs e q
  obtain ⟨c0, r0, rfl, e0, c1, r1, rfl, e1, c2, r2, rfl, e2, c3, r3, rfl, e3, c4, r4, rfl, e4, c5, r5, rfl, e5, eN⟩ := e
  obtain rfl : c0 = [.int .i64 x0] := e0
  obtain rfl : c1 = [.int .i64 x1] := e1
  obtain rfl : c2 = [.int .i64 x2] := e2
  obtain rfl : c3 = [.int .i64 x3] := e3
  obtain rfl : c4 = [.string x4] := e4
  obtain ⟨A5_3, k5_3, rfl, l5_3, R5_3⟩ := T_api_Value.iff.1 e5
  obtain rfl : r5 = [] := eN
  exact ⟨⟨x0, x1, x2, x3, x4, x5⟩, ⟨_, _, rfl, l5_3, R5_3⟩, q.1, q.2.1, q.2.2.1, q.2.2.2.1, q.2.2.2.2.1, q.2.2.2.2.2.1⟩)
structure T_box_Box where
  Letters : (List T_api_Letter)
  At : Int
def T_box_Box.E (h : Heap) (x : T_box_Box) (cs : List Value) : Prop := ∃ A0 c0, cs = [.slice A0 x.Letters.length c0, .int .i64 x.At] ∧ x.Letters.length ≤ c0 ∧ Rd 9 T_api_Letter.E h A0 x.Letters
theorem T_box_Box.T : Tell 2 T_box_Box.E := ⟨by rintro m h x _ s ⟨A0, c0, rfl, k0, r0⟩; exact ⟨_, _, rfl, k0, r0.sub T_api_Letter.T s⟩, by rintro h x _ ⟨A0, c0, rfl, k0, r0⟩; rfl, by rintro h x _ ⟨A0, c0, rfl, k0, r0⟩; exact Flats.cons trivial (Flats.cons trivial Flats.nil)⟩
def T_box_Box.Q (x : T_box_Box) : Prop := (x.Letters.length * 104 ≤ 140737488351232 ∧ ∀ a ∈ x.Letters, (T_api_Letter.Q a)) ∧ (-9223372036854775808 ≤ x.At ∧ x.At ≤ 9223372036854775807)
theorem T_box_Box.tells {H : Type} {enc : TypeId × Value → H} {W : World} : Tells enc Try.prog W 24 T_box_Box.E T_box_Box.Q := tells_map (tells_struct (t := 24) (fs := [(22, 0), (3, 1)]) (T := 2) (by kernel_rfl) (by kernel_rfl) (tf_cons (s := 1) (f := 22) (by kernel_rfl) (tells_sliceL (t := 22) (e := 29) (sz := 9) (B := 104) (by kernel_rfl) (by kernel_rfl) (by kernel_rfl) T_api_Letter.tells) (tf_cons (s := 1) (f := 3) (by kernel_rfl) (tells_i64 (t := 3) (by kernel_rfl)) tf_nil))) (by
  rintro ⟨x0, x1, ⟨⟩⟩ cs e q
  obtain ⟨c0, r0, rfl, e0, c1, r1, rfl, e1, eN⟩ := e
  obtain ⟨A0, k0, rfl, l0, R0⟩ := e0
  obtain rfl : c1 = [.int .i64 x1] := e1
  obtain rfl : r1 = [] := eN
  exact ⟨⟨x0, x1⟩, ⟨_, _, rfl, l0, R0⟩, q.1, q.2.1⟩)
theorem T_api_Value.g3 {m : Heap} {x : T_api_Value} {cs : List Value} (e : T_api_Value.E m x cs) : ∃ A c, cs[3]? = some (.slice A (List.length x.Args) c) ∧ List.length x.Args ≤ c ∧ Rd 4 T_api_Value.E m A x.Args := by
  obtain ⟨A3, c3, rfl, k3, r3⟩ := T_api_Value.iff.1 e
  exact ⟨_, _, rfl, k3, r3⟩
theorem T_box_Box.g0 {m : Heap} {x : T_box_Box} {cs : List Value} (e : T_box_Box.E m x cs) : ∃ A c, cs[0]? = some (.slice A (List.length x.Letters) c) ∧ List.length x.Letters ≤ c ∧ Rd 9 T_api_Letter.E m A x.Letters := by
  obtain ⟨A0, c0, rfl, k0, r0⟩ := e
  exact ⟨_, _, rfl, k0, r0⟩
theorem T_box_Box.g1 {m : Heap} {x : T_box_Box} {cs : List Value} (e : T_box_Box.E m x cs) : cs[1]? = some (Value.int .i64 x.At) := by
  obtain ⟨A0, c0, rfl, k0, r0⟩ := e
  exact rfl
theorem T_api_Letter.g0 {m : Heap} {x : T_api_Letter} {cs : List Value} (e : T_api_Letter.E m x cs) : cs[0]? = some (Value.int .i64 x.Kind) := by
  obtain ⟨A8, c8, rfl, k8, r8⟩ := e
  exact rfl
theorem T_api_Letter.g1 {m : Heap} {x : T_api_Letter} {cs : List Value} (e : T_api_Letter.E m x cs) : cs[1]? = some (Value.int .i64 x.From) := by
  obtain ⟨A8, c8, rfl, k8, r8⟩ := e
  exact rfl
theorem T_api_Value.g0 {m : Heap} {x : T_api_Value} {cs : List Value} (e : T_api_Value.E m x cs) : cs[0]? = some (Value.int .i64 x.Kind) := by
  obtain ⟨A3, c3, rfl, k3, r3⟩ := T_api_Value.iff.1 e
  exact rfl
theorem T_api_Value.g1 {m : Heap} {x : T_api_Value} {cs : List Value} (e : T_api_Value.E m x cs) : cs[1]? = some (Value.int .i64 x.Num) := by
  obtain ⟨A3, c3, rfl, k3, r3⟩ := T_api_Value.iff.1 e
  exact rfl
theorem T_api_Value.g2 {m : Heap} {x : T_api_Value} {cs : List Value} (e : T_api_Value.E m x cs) : cs[2]? = some (Value.string x.Text) := by
  obtain ⟨A3, c3, rfl, k3, r3⟩ := T_api_Value.iff.1 e
  exact rfl
theorem T_api_Letter.u5_27 {m : Heap} {x : T_api_Letter} {cs : List Value} (e : T_api_Letter.E m x cs) : T_api_Value.E m x.Value_ (List.take 4 (List.drop 5 cs)) := by
  obtain ⟨A8, c8, rfl, k8, r8⟩ := e
  exact (T_api_Value.iff.2 ⟨_, _, rfl, k8, r8⟩)
theorem T_api_Letter.g3 {m : Heap} {x : T_api_Letter} {cs : List Value} (e : T_api_Letter.E m x cs) : cs[3]? = some (Value.int .i64 x.Num) := by
  obtain ⟨A8, c8, rfl, k8, r8⟩ := e
  exact rfl
theorem T_api_Letter.g2 {m : Heap} {x : T_api_Letter} {cs : List Value} (e : T_api_Letter.E m x cs) : cs[2]? = some (Value.int .i64 x.To) := by
  obtain ⟨A8, c8, rfl, k8, r8⟩ := e
  exact rfl
theorem T_api_Letter.g4 {m : Heap} {x : T_api_Letter} {cs : List Value} (e : T_api_Letter.E m x cs) : cs[4]? = some (Value.string x.Text) := by
  obtain ⟨A8, c8, rfl, k8, r8⟩ := e
  exact rfl

/-! ### 78 roadstead/roadref3.Deep -/
def roadref3_Deep.post (W : Nat → Prop) (h0 m0 : Heap) (r : Int × Int) (v : Value) (h : Heap) : Prop := ∃ m , Hold W h0 m0 h m [] ∧ v = .tuple #[.int .i64 r.1, .int .i64 r.2]
inductive roadref3_Deep_k.Pt where
  | f (y_0 : T_api_Value)
  | l0 (x_4 : Int) (x_5 : Int) (a_11 : List T_api_Value) (x_12 : Int) (x_13 : Int)
noncomputable def roadref3_Deep_k.body (go : (p : roadref3_Deep_k.Pt) → Option (Int × Int)) : (p : roadref3_Deep_k.Pt) → Option (Int × Int)
  | .f y_0 => (go (.l0 (0 : Int) (1 : Int) y_0.Args (((List.length y_0.Args) : Nat) : Int) (0 : Int)))
  | .l0 x_4 x_5 a_11 x_12 x_13 => if x_13 < x_12 then (Option.bind (gi a_11 x_13) fun y1 => Option.bind ((go (.f y1))) fun y14 => (go (.l0 (if y14.1 > x_4 then y14.1 else x_4) (IntKind.wrap .i64 (x_5 + y14.2)) a_11 x_12 (IntKind.wrap .i64 (x_13 + (1 : Int)))))) else (some ((IntKind.wrap .i64 (x_4 + (1 : Int))), x_5))
theorem roadref3_Deep_k.mono : MonoF (β := fun _ => (Int × Int)) roadref3_Deep_k.body := fun f g hfg p => match p with
  | .f y_0 => (hfg _)
  | .l0 x_4 x_5 a_11 x_12 x_13 => LeO.ite (LeO.bind (LeO.refl _) fun y1 => LeO.bind ((hfg _)) fun y14 => (hfg _)) (LeO.refl _)
noncomputable def roadref3_Deep_k.go (p : roadref3_Deep_k.Pt) : Option (Int × Int) := fixF (β := fun _ => (Int × Int)) roadref3_Deep_k.body p
noncomputable def roadref3_Deep (y_0 : T_api_Value) : Option (Int × Int) := roadref3_Deep_k.go (.f y_0)
noncomputable def roadref3_Deep.l0 (x_4 : Int) (x_5 : Int) (a_11 : List T_api_Value) (x_12 : Int) (x_13 : Int) : Option (Int × Int) := roadref3_Deep_k.go (.l0 x_4 x_5 a_11 x_12 x_13)
theorem roadref3_Deep_eq (y_0 : T_api_Value) : roadref3_Deep y_0 = (roadref3_Deep.l0 (0 : Int) (1 : Int) y_0.Args (((List.length y_0.Args) : Nat) : Int) (0 : Int)) := fixF_eq roadref3_Deep_k.mono _
theorem roadref3_Deep.l0_eq (x_4 : Int) (x_5 : Int) (a_11 : List T_api_Value) (x_12 : Int) (x_13 : Int) : roadref3_Deep.l0 x_4 x_5 a_11 x_12 x_13 = if x_13 < x_12 then (Option.bind (gi a_11 x_13) fun y1 => Option.bind ((roadref3_Deep y1)) fun y14 => (roadref3_Deep.l0 (if y14.1 > x_4 then y14.1 else x_4) (IntKind.wrap .i64 (x_5 + y14.2)) a_11 x_12 (IntKind.wrap .i64 (x_13 + (1 : Int))))) else (some ((IntKind.wrap .i64 (x_4 + (1 : Int))), x_5)) := fixF_eq roadref3_Deep_k.mono _
def roadref3_Deep_k.I : (p : roadref3_Deep_k.Pt) → (Int × Int) → Prop
  | .f y_0, r => ∀ (W : Nat → Prop) (h m : Heap) (cs_0 : List Value) (O : Hold W h m h m []) (e_0 : T_api_Value.E m y_0 cs_0), Run Try.prog 78 #[Value.agg cs_0.toArray] h (roadref3_Deep.post W h m r)
  | .l0 x_4 x_5 a_11 x_12 x_13, r => ∀ (W : Nat → Prop) (h0 m0 h m : Heap) (A_11 : Option Addr) (n_11 c_11 : Nat) (O : Hold W h0 m0 h m []) (ne_11 : n_11 = List.length a_11) (k_11 : List.length a_11 ≤ c_11) (r_11 : Rd 4 T_api_Value.E m A_11 a_11), f78.l0 (roadref3_Deep.post W h0 m0 r) x_4 x_5 A_11 n_11 c_11 x_12 x_13 h
set_option maxRecDepth 100000 in
theorem roadref3_Deep_k.step_f (go : (p : roadref3_Deep_k.Pt) → Option (Int × Int)) (ih : ∀ p r, go p = some r → roadref3_Deep_k.I p r) (y_0 : T_api_Value) (r : Int × Int) (e : roadref3_Deep_k.body go (.f y_0) = some r) : roadref3_Deep_k.I (.f y_0) r := by
  unfold roadref3_Deep_k.body at e
  intro W h m cs_0 O e_0
  refine f78.run ?_
  unfold f78.runT
  refine O.new fun h1 x2 O3 => ?_
  obtain ⟨A5, c6, q7, k8, r9⟩ := T_api_Value.g3 e_0
  refine ⟨_, ldk (k := 3) (Sub.refl _) (O3.all 0 rfl) q7, _, _, _, rfl, ?_⟩
  have O10 := O3.nm
  exact (ih _ _ e) _ _ _ _ _ _ _ _ (O10.pick []).nm rfl k8 r9
set_option maxRecDepth 100000 in
theorem roadref3_Deep_k.step_l0 (go : (p : roadref3_Deep_k.Pt) → Option (Int × Int)) (ih : ∀ p r, go p = some r → roadref3_Deep_k.I p r) (x_4 : Int) (x_5 : Int) (a_11 : List T_api_Value) (x_12 : Int) (x_13 : Int) (r : Int × Int) (e : roadref3_Deep_k.body go (.l0 x_4 x_5 a_11 x_12 x_13) = some r) : roadref3_Deep_k.I (.l0 x_4 x_5 a_11 x_12 x_13) r := by
  unfold roadref3_Deep_k.body at e
  intro W h0 m0 h m A_11 n_11 c_11 O ne_11 k_11 r_11
  subst ne_11
  refine f78.l0_in ?_
  unfold f78.l0T
  refine split_dec_e e (fun c21 e => ?_) (fun c21 e => ?_)
  · obtain ⟨y1, g2, e⟩ := bind_e e
    refine r_11.addr rfl g2 fun a3 cs4 ha5 hc6 he7 => ?_
    refine ⟨_, ldAn O.s hc6 rfl, ?_⟩
    refine O.new fun h8 x9 O10 => ?_
    refine ⟨_, rfl, (T_api_Value.T.len _ _ _ he7), ?_⟩
    refine O10.stA 0 rfl (T_api_Value.T.len _ _ _ he7) (T_api_Value.T.flat _ _ _ he7) fun h12 O13 => ?_
    refine ⟨_, ldAn (Sub.refl _) (O13.all 0 rfl) (T_api_Value.T.len _ _ _ he7), ?_⟩
    obtain ⟨y14, g15, e⟩ := bind_e e
    refine ((ih _ _ g15) _ _ _ _ (Hold.start (W := No) O13.s) he7).mono ?_
    rintro _ h16 ⟨m17, Q18, rfl⟩
    have O20 := Hold.nm (O13.retC Q18 vfs_nil)
    refine ⟨_, _, rfl, ?_⟩
    exact (ih _ _ e) _ _ _ _ _ _ _ _ (O20.pick []).nm rfl k_11 r_11
  · cases e
    exact ⟨_, O.pick [], rfl⟩
theorem roadref3_Deep_k.all {p : roadref3_Deep_k.Pt} {r : (Int × Int)} (e : roadref3_Deep_k.go p = some r) : roadref3_Deep_k.I p r := fixF_ind (β := fun _ => (Int × Int)) roadref3_Deep_k.mono (I := roadref3_Deep_k.I) (fun go ih p r e => match p with
  | .f y_0 => roadref3_Deep_k.step_f go ih y_0 r e
  | .l0 x_4 x_5 a_11 x_12 x_13 => roadref3_Deep_k.step_l0 go ih x_4 x_5 a_11 x_12 x_13 r e
  ) e
theorem roadref3_Deep.walk {W : Nat → Prop} {h m : Heap} {cs_0 : List Value} {y_0 : T_api_Value} (O : Hold W h m h m []) (e_0 : T_api_Value.E m y_0 cs_0) {r : Int × Int} (e : roadref3_Deep y_0 = some r) : Run Try.prog 78 #[Value.agg cs_0.toArray] h (roadref3_Deep.post W h m r) := roadref3_Deep_k.all (p := .f y_0) e W h m cs_0 O e_0
theorem roadref3_Deep.l0.walk {W : Nat → Prop} {h0 m0 h m : Heap} {A_11 : Option Addr} {n_11 c_11 : Nat} {x_4 : Int} {x_5 : Int} {a_11 : List T_api_Value} {x_12 : Int} {x_13 : Int} (O : Hold W h0 m0 h m []) (ne_11 : n_11 = List.length a_11) (k_11 : List.length a_11 ≤ c_11) (r_11 : Rd 4 T_api_Value.E m A_11 a_11) {r : Int × Int} (e : roadref3_Deep.l0 x_4 x_5 a_11 x_12 x_13 = some r) : f78.l0 (roadref3_Deep.post W h0 m0 r) x_4 x_5 A_11 n_11 c_11 x_12 x_13 h := roadref3_Deep_k.all (p := .l0 x_4 x_5 a_11 x_12 x_13) e W h0 m0 h m A_11 n_11 c_11 O ne_11 k_11 r_11

/-! ### 9 roadstead/roadlaw3.flat -/
def roadlaw3_flat.post (W : Nat → Prop) (h0 m0 : Heap) (r : Bool) (v : Value) (h : Heap) : Prop := ∃ m , Hold W h0 m0 h m [] ∧ v = .bool r
noncomputable def roadlaw3_flat (y_0 : T_api_Value) : Option (Bool) :=
  Option.bind (roadref3_Deep y_0) fun y5 => if y5.1 ≤ (60 : Int) then (some ((decide (y5.2 ≤ (500 : Int))))) else (some (false))
set_option maxRecDepth 100000 in
theorem roadlaw3_flat.walk {W : Nat → Prop} {h m : Heap} {cs_0 : List Value} {y_0 : T_api_Value} (O : Hold W h m h m []) (e_0 : T_api_Value.E m y_0 cs_0) {r : Bool} (e : roadlaw3_flat y_0 = some r) : Run Try.prog 9 #[Value.agg cs_0.toArray] h (roadlaw3_flat.post W h m r) := by
  unfold roadlaw3_flat at e
  refine f9.run ?_
  unfold f9.runT
  refine O.new fun h1 x2 O3 => ?_
  refine ⟨_, ldAn (Sub.refl _) (O3.all 0 rfl) (T_api_Value.T.len _ _ _ e_0), ?_⟩
  obtain ⟨y5, g6, e⟩ := bind_e e
  refine (roadref3_Deep.walk (Hold.start (W := No) O3.s) e_0 g6).mono ?_
  rintro _ h7 ⟨m8, Q9, rfl⟩
  have O11 := Hold.nm (O3.retC Q9 vfs_nil)
  refine ⟨_, _, rfl, ?_⟩
  refine split_dec_e e (fun c12 e => ?_) (fun c12 e => ?_)
  · cases e
    exact ⟨_, O11.pick [], rfl⟩
  · cases e
    exact ⟨_, O11.pick [], rfl⟩

/-! ### 14 roadstead/box.Check -/
def box_Check.post (W : Nat → Prop) (h0 m0 : Heap) (r : Int) (v : Value) (h : Heap) : Prop := ∃ m , Hold W h0 m0 h m [] ∧ v = .int .i64 r
inductive box_Check.l0_k.Pt where
  | l0 (a_23 : List T_api_Letter) (x_24 : Int) (x_25 : Int)
noncomputable def box_Check.l0_k.body (go : (p : box_Check.l0_k.Pt) → Option (Int)) : (p : box_Check.l0_k.Pt) → Option (Int)
  | .l0 a_23 x_24 x_25 => if x_25 < x_24 then (Option.bind (gi a_23 x_25) fun y1 => if y1.Kind = (1 : Int) then ((go (.l0 a_23 x_24 (IntKind.wrap .i64 (x_25 + (1 : Int)))))) else (if y1.Kind = (2 : Int) then ((go (.l0 a_23 x_24 (IntKind.wrap .i64 (x_25 + (1 : Int)))))) else (some ((3 : Int))))) else (some ((0 : Int)))
theorem box_Check.l0_k.mono : MonoF (β := fun _ => (Int)) box_Check.l0_k.body := fun f g hfg p => match p with
  | .l0 a_23 x_24 x_25 => LeO.ite (LeO.bind (LeO.refl _) fun y1 => LeO.ite ((hfg _)) (LeO.ite ((hfg _)) (LeO.refl _))) (LeO.refl _)
noncomputable def box_Check.l0_k.go (p : box_Check.l0_k.Pt) : Option (Int) := fixF (β := fun _ => (Int)) box_Check.l0_k.body p
noncomputable def box_Check.l0 (a_23 : List T_api_Letter) (x_24 : Int) (x_25 : Int) : Option (Int) := box_Check.l0_k.go (.l0 a_23 x_24 x_25)
theorem box_Check.l0_eq (a_23 : List T_api_Letter) (x_24 : Int) (x_25 : Int) : box_Check.l0 a_23 x_24 x_25 = if x_25 < x_24 then (Option.bind (gi a_23 x_25) fun y1 => if y1.Kind = (1 : Int) then ((box_Check.l0 a_23 x_24 (IntKind.wrap .i64 (x_25 + (1 : Int))))) else (if y1.Kind = (2 : Int) then ((box_Check.l0 a_23 x_24 (IntKind.wrap .i64 (x_25 + (1 : Int))))) else (some ((3 : Int))))) else (some ((0 : Int))) := fixF_eq box_Check.l0_k.mono _
def box_Check.l0_k.I : (p : box_Check.l0_k.Pt) → (Int) → Prop
  | .l0 a_23 x_24 x_25, r => ∀ (W : Nat → Prop) (h0 m0 h m : Heap) (A_23 : Option Addr) (n_23 c_23 : Nat) (O : Hold W h0 m0 h m []) (ne_23 : n_23 = List.length a_23) (k_23 : List.length a_23 ≤ c_23) (r_23 : Rd 9 T_api_Letter.E m A_23 a_23), f14.l0 (box_Check.post W h0 m0 r) A_23 n_23 c_23 x_24 x_25 h
set_option maxRecDepth 100000 in
theorem box_Check.l0_k.step_l0 (go : (p : box_Check.l0_k.Pt) → Option (Int)) (ih : ∀ p r, go p = some r → box_Check.l0_k.I p r) (a_23 : List T_api_Letter) (x_24 : Int) (x_25 : Int) (r : Int) (e : box_Check.l0_k.body go (.l0 a_23 x_24 x_25) = some r) : box_Check.l0_k.I (.l0 a_23 x_24 x_25) r := by
  unfold box_Check.l0_k.body at e
  intro W h0 m0 h m A_23 n_23 c_23 O ne_23 k_23 r_23
  subst ne_23
  refine f14.l0_in ?_
  unfold f14.l0T
  refine split_dec_e e (fun c19 e => ?_) (fun c19 e => ?_)
  · obtain ⟨y1, g2, e⟩ := bind_e e
    refine r_23.addr rfl g2 fun a3 cs4 ha5 hc6 he7 => ?_
    refine ⟨_, ldAn O.s hc6 rfl, ?_⟩
    refine O.new fun h8 x9 O10 => ?_
    refine ⟨_, rfl, (T_api_Letter.T.len _ _ _ he7), ?_⟩
    refine O10.stA 0 rfl (T_api_Letter.T.len _ _ _ he7) (T_api_Letter.T.flat _ _ _ he7) fun h12 O13 => ?_
    refine ⟨_, ld0 (Sub.refl _) (O13.all 0 rfl) (T_api_Letter.g0 he7), _, rfl, ?_⟩
    refine split_ne_e e (fun c18 e => ?_) (fun c18 e => ?_)
    · refine ⟨_, ld0 (Sub.refl _) (O13.all 0 rfl) (T_api_Letter.g0 he7), _, rfl, ?_⟩
      refine split_ne_e e (fun c16 e => ?_) (fun c16 e => ?_)
      · have O14 := O13.nm
        cases e
        exact ⟨_, O14.pick [], rfl⟩
      · have O15 := O13.nm
        exact (ih _ _ e) _ _ _ _ _ _ _ _ (O15.pick []).nm rfl k_23 r_23
    · have O17 := O13.nm
      exact (ih _ _ e) _ _ _ _ _ _ _ _ (O17.pick []).nm rfl k_23 r_23
  · cases e
    exact ⟨_, O.pick [], rfl⟩
theorem box_Check.l0_k.all {p : box_Check.l0_k.Pt} {r : (Int)} (e : box_Check.l0_k.go p = some r) : box_Check.l0_k.I p r := fixF_ind (β := fun _ => (Int)) box_Check.l0_k.mono (I := box_Check.l0_k.I) (fun go ih p r e => match p with
  | .l0 a_23 x_24 x_25 => box_Check.l0_k.step_l0 go ih a_23 x_24 x_25 r e
  ) e
theorem box_Check.l0.walk {W : Nat → Prop} {h0 m0 h m : Heap} {A_23 : Option Addr} {n_23 c_23 : Nat} {a_23 : List T_api_Letter} {x_24 : Int} {x_25 : Int} (O : Hold W h0 m0 h m []) (ne_23 : n_23 = List.length a_23) (k_23 : List.length a_23 ≤ c_23) (r_23 : Rd 9 T_api_Letter.E m A_23 a_23) {r : Int} (e : box_Check.l0 a_23 x_24 x_25 = some r) : f14.l0 (box_Check.post W h0 m0 r) A_23 n_23 c_23 x_24 x_25 h := box_Check.l0_k.all (p := .l0 a_23 x_24 x_25) e W h0 m0 h m A_23 n_23 c_23 O ne_23 k_23 r_23

noncomputable def box_Check.j0 (y_1 : T_box_Box) : Option (Int) :=
  (box_Check.l0 y_1.Letters (((List.length y_1.Letters) : Nat) : Int) (0 : Int))
set_option maxRecDepth 100000 in
theorem box_Check.j0.walk {W : Nat → Prop} {h0 m0 h m : Heap} {bk_1 : Nat} {cs_1 : List Value} {y_1 : T_box_Box} (O : Hold W h0 m0 h m [rV bk_1 24 cs_1]) (e_1 : T_box_Box.E m y_1 cs_1) {r : Int} (e : box_Check.j0 y_1 = some r) : f14.j0 (box_Check.post W h0 m0 r) (⟨bk_1, 0, none⟩ : Addr) h := by
  unfold box_Check.j0 at e
  refine f14.j0_in ?_
  unfold f14.j0T
  obtain ⟨A1, c2, q3, k4, r5⟩ := T_box_Box.g0 e_1
  refine ⟨_, ld0 (Sub.refl _) (O.all 0 rfl) q3, _, _, _, rfl, ?_⟩
  exact box_Check.l0.walk (O.pick []).nm rfl k4 r5 e

noncomputable def box_Check (y_0 : T_box_Box) : Option (Int) :=
  if (((List.length y_0.Letters) : Nat) : Int) > (60 : Int) then (some ((2 : Int))) else (if y_0.At < (0 : Int) then (some ((1 : Int))) else (if y_0.At > (((List.length y_0.Letters) : Nat) : Int) then (some ((1 : Int))) else ((box_Check.j0 y_0))))
set_option maxRecDepth 100000 in
theorem box_Check.walk {W : Nat → Prop} {h m : Heap} {cs_0 : List Value} {y_0 : T_box_Box} (O : Hold W h m h m []) (e_0 : T_box_Box.E m y_0 cs_0) {r : Int} (e : box_Check y_0 = some r) : Run Try.prog 14 #[Value.agg cs_0.toArray] h (box_Check.post W h m r) := by
  unfold box_Check at e
  refine f14.run ?_
  unfold f14.runT
  refine O.new fun h1 x2 O3 => ?_
  obtain ⟨A5, c6, q7, k8, r9⟩ := T_box_Box.g0 e_0
  refine ⟨_, ld0 (Sub.refl _) (O3.all 0 rfl) q7, _, _, _, rfl, ?_⟩
  refine split_dec_e e (fun c21 e => ?_) (fun c21 e => ?_)
  · have O10 := O3.nm
    cases e
    exact ⟨_, O10.pick [], rfl⟩
  · refine ⟨_, ldk (k := 1) (Sub.refl _) (O3.all 0 rfl) (T_box_Box.g1 e_0), _, rfl, ?_⟩
    refine split_dec_e e (fun c20 e => ?_) (fun c20 e => ?_)
    · have O11 := O3.nm
      cases e
      exact ⟨_, O11.pick [], rfl⟩
    · refine ⟨_, ldk (k := 1) (Sub.refl _) (O3.all 0 rfl) (T_box_Box.g1 e_0), _, rfl, ?_⟩
      obtain ⟨A12, c13, q14, k15, r16⟩ := T_box_Box.g0 e_0
      refine ⟨_, ld0 (Sub.refl _) (O3.all 0 rfl) q14, _, _, _, rfl, ?_⟩
      refine split_dec_e e (fun c19 e => ?_) (fun c19 e => ?_)
      · have O17 := O3.nm
        cases e
        exact ⟨_, O17.pick [], rfl⟩
      · have O18 := O3.nm
        exact box_Check.j0.walk (O18.pick [0]).nm e_0 e

/-! ### 22 slices.Clone[[]roadstead/api.Letter,roadstead/api.Letter] -/
def slices_Clone_22.post (W : Nat → Prop) (h0 m0 : Heap) (r : (List T_api_Letter)) (v : Value) (h : Heap) : Prop := ∃ m A0 n0 c0, Hold W h0 m0 h m [rR (aE T_api_Letter.T) A0 c0 r] ∧ v = .slice A0 n0 c0 ∧ n0 = List.length r
noncomputable def slices_Clone_22 (a0 : List T_api_Letter) : Option (List T_api_Letter) := ap 104 ([] : List T_api_Letter) a0
set_option maxRecDepth 100000 in
theorem slices_Clone_22.walk {W : Nat → Prop} {h m : Heap} {A0 : Option Addr} {n0 c0 : Nat} {a0 : List T_api_Letter} (O : Hold W h m h m []) (ne0 : n0 = List.length a0) (k0 : List.length a0 ≤ c0) (r0 : Rd 9 T_api_Letter.E m A0 a0) {r : List T_api_Letter} (e : slices_Clone_22 a0 = some r) : Run Try.prog 22 #[Value.slice A0 n0 c0] h (slices_Clone_22.post W h m r) := by
  unfold slices_Clone_22 at e
  subst ne0
  refine f22.run ?_
  unfold f22.runT
  cases A0 with
  | none =>
    refine split_t ?_
    obtain rfl := Rd.void r0
    obtain rfl : [] = r := by have := (ap_e e).2; simpa using this
    exact ⟨m, none, 0, 0, O.nil (aE T_api_Letter.T) none, rfl, rfl⟩
  | some a =>
    refine split_f ?_
    refine O.new fun h1 x1 O1 => ?_
    refine O1.appE0 T_api_Letter.T rfl rfl (r0.srcE T_api_Letter.T O1.s rfl) (by decide) e fun A4 c4 h4 x4 O4 => ?_
    refine ⟨_, _, _, rfl, ?_⟩
    exact ⟨m, _, _, _, O4.pick [1], rfl, rfl⟩
theorem slices_Clone_22.val (l : List T_api_Letter) (h : l.length * 104 ≤ 140737488355328) : slices_Clone_22 l = some l := ap_nil h

/-! ### 10 roadstead/box.Put -/
def box_Put.post (W : Nat → Prop) (h0 m0 : Heap) (r : T_box_Box × Int) (v : Value) (h : Heap) : Prop := ∃ m cs0, Hold W h0 m0 h m [] ∧ v = .tuple #[.agg cs0.toArray, .int .i64 r.2] ∧ T_box_Box.E m r.1 cs0
noncomputable def box_Put.j0 (y_2 : T_box_Box) (y_3 : T_api_Letter) (y_4 : T_box_Box) : Option (T_box_Box × Int) :=
  Option.bind (slices_Clone_22 y_2.Letters) fun y6 => Option.bind (ap 104 y6 ([y_3] : List T_api_Letter)) fun l23 => some ((T_box_Box.mk l23 y_2.At), (0 : Int))
set_option maxHeartbeats 4000000 in
set_option maxRecDepth 100000 in
theorem box_Put.j0.walk {W : Nat → Prop} {h0 m0 h m : Heap} {bk_2 : Nat} {cs_2 : List Value} {bk_3 : Nat} {cs_3 : List Value} {bk_4 : Nat} {cs_4 : List Value} {y_2 : T_box_Box} {y_3 : T_api_Letter} {y_4 : T_box_Box} (O : Hold W h0 m0 h m [rV bk_2 24 cs_2, rV bk_3 29 cs_3, rV bk_4 24 cs_4]) (e_2 : T_box_Box.E m y_2 cs_2) (e_3 : T_api_Letter.E m y_3 cs_3) (e_4 : T_box_Box.E m y_4 cs_4) {r : T_box_Box × Int} (e : box_Put.j0 y_2 y_3 y_4 = some r) : f10.j0 (box_Put.post W h0 m0 r) (⟨bk_2, 0, none⟩ : Addr) (⟨bk_3, 0, none⟩ : Addr) (⟨bk_4, 0, none⟩ : Addr) h := by
  unfold box_Put.j0 at e
  refine f10.j0_in ?_
  unfold f10.j0T
  obtain ⟨y6, g7, e⟩ := bind_e e
  obtain ⟨l23, g24, e⟩ := bind_e e
  obtain ⟨A40, c41, q42, k43, r44⟩ := T_box_Box.g0 e_2
  refine ⟨_, ld0 (Sub.refl _) (O.all 0 rfl) q42, _, _, _, rfl, ?_⟩
  refine ⟨_, ldAn (Sub.refl _) (O.all 1 rfl) (T_api_Letter.T.len _ _ _ e_3), ?_⟩
  refine ⟨?_, ?_⟩
  · refine (slices_Clone_22.walk (Hold.start (W := No) O.s) rfl k43 r44 g7).mono ?_
    rintro _ h47 ⟨m48, A51, n52, c53, Q49, rfl, ne54⟩
    have O56 := Hold.nm (O.ret Q49)
    subst ne54
    refine ⟨_, _, _, rfl, ?_⟩
    refine ⟨Q49.S.ext, ?_⟩
    refine ⟨?_, ?_⟩
    · refine ⟨cs_3, rfl, (T_api_Letter.T.len _ _ _ e_3), ?_⟩
      refine O56.new fun h57 x58 O59 => ?_
      have O61 := O59.recell 4 rfl (cs' := cs_3 ++ []) rfl
      refine ⟨x58, ?_⟩
      refine ⟨?_, ?_⟩
      · have O70 := O61.rowE (l := ([y_3] : List T_api_Letter)) 4 rfl T_api_Letter.T (show CsE _ _ _ _ _ from (CsE.cons (T_api_Letter.T.mono _ _ _ _ Q49.S.up e_3) (T_api_Letter.T.len _ _ _ (T_api_Letter.T.mono _ _ _ _ Q49.S.up e_3)) CsE.nil)) rfl
        refine O70.app 3 rfl rfl rfl ((O70.os 4 rfl).srcE rfl) (by decide) g24 fun A64 c65 h66 O67 => ?_
        refine ⟨_, _, _, rfl, ?_⟩
        refine ⟨_, ldk (k := 1) (Sub.refl _) (O67.all 0 rfl) (T_box_Box.g1 e_2), _, rfl, ?_⟩
        refine ⟨Ext.refl _, ?_⟩
        refine ⟨_, rfl, rfl, ?_⟩
        refine O67.stA 2 rfl ((T_box_Box.T.len _ _ _ e_4)).symm (Flats.cons trivial (Flats.cons trivial Flats.nil)) fun h71 O72 => ?_
        refine ⟨_, ldAn (Sub.refl _) (O72.all 2 rfl) rfl, ?_⟩
        obtain ⟨m73, u74, ⟨r75, k76⟩, O77⟩ := O72.frz 3 rfl
        replace r75 : Rd 9 T_api_Letter.E m73 A64 l23 := r75
        have O78 := O77.nm
        cases e
        exact ⟨_, _, O78.pick [], rfl, (show T_box_Box.E _ (T_box_Box.mk l23 y_2.At) [(Value.slice A64 (List.length l23) c65), (Value.int .i64 y_2.At)] from ⟨_, _, rfl, k76, r75⟩)⟩
      · refine ⟨_, ldk (k := 1) (Sub.refl _) (O61.all 0 rfl) (T_box_Box.g1 e_2), _, rfl, ?_⟩
        refine ⟨Ext.refl _, ?_⟩
        have O87 := O61.rowE (l := ([y_3] : List T_api_Letter)) 4 rfl T_api_Letter.T (show CsE _ _ _ _ _ from (CsE.cons (T_api_Letter.T.mono _ _ _ _ Q49.S.up e_3) (T_api_Letter.T.len _ _ _ (T_api_Letter.T.mono _ _ _ _ Q49.S.up e_3)) CsE.nil)) rfl
        refine O87.app 3 rfl rfl rfl ((O87.os 4 rfl).srcE rfl) (by decide) g24 fun A81 c82 h83 O84 => ?_
        refine ⟨_, _, _, rfl, ?_⟩
        refine ⟨_, rfl, rfl, ?_⟩
        refine O84.stA 2 rfl ((T_box_Box.T.len _ _ _ e_4)).symm (Flats.cons trivial (Flats.cons trivial Flats.nil)) fun h88 O89 => ?_
        refine ⟨_, ldAn (Sub.refl _) (O89.all 2 rfl) rfl, ?_⟩
        obtain ⟨m90, u91, ⟨r92, k93⟩, O94⟩ := O89.frz 3 rfl
        replace r92 : Rd 9 T_api_Letter.E m90 A81 l23 := r92
        have O95 := O94.nm
        cases e
        exact ⟨_, _, O95.pick [], rfl, (show T_box_Box.E _ (T_box_Box.mk l23 y_2.At) [(Value.slice A81 (List.length l23) c82), (Value.int .i64 y_2.At)] from ⟨_, _, rfl, k93, r92⟩)⟩
    · refine ⟨_, ldk (k := 1) (Sub.refl _) (O56.all 0 rfl) (T_box_Box.g1 e_2), _, rfl, ?_⟩
      refine ⟨Ext.refl _, ?_⟩
      refine ⟨cs_3, rfl, (T_api_Letter.T.len _ _ _ e_3), ?_⟩
      refine O56.new fun h96 x97 O98 => ?_
      have O100 := O98.recell 4 rfl (cs' := cs_3 ++ []) rfl
      refine ⟨x97, ?_⟩
      have O109 := O100.rowE (l := ([y_3] : List T_api_Letter)) 4 rfl T_api_Letter.T (show CsE _ _ _ _ _ from (CsE.cons (T_api_Letter.T.mono _ _ _ _ Q49.S.up e_3) (T_api_Letter.T.len _ _ _ (T_api_Letter.T.mono _ _ _ _ Q49.S.up e_3)) CsE.nil)) rfl
      refine O109.app 3 rfl rfl rfl ((O109.os 4 rfl).srcE rfl) (by decide) g24 fun A103 c104 h105 O106 => ?_
      refine ⟨_, _, _, rfl, ?_⟩
      refine ⟨_, rfl, rfl, ?_⟩
      refine O106.stA 2 rfl ((T_box_Box.T.len _ _ _ e_4)).symm (Flats.cons trivial (Flats.cons trivial Flats.nil)) fun h110 O111 => ?_
      refine ⟨_, ldAn (Sub.refl _) (O111.all 2 rfl) rfl, ?_⟩
      obtain ⟨m112, u113, ⟨r114, k115⟩, O116⟩ := O111.frz 3 rfl
      replace r114 : Rd 9 T_api_Letter.E m112 A103 l23 := r114
      have O117 := O116.nm
      cases e
      exact ⟨_, _, O117.pick [], rfl, (show T_box_Box.E _ (T_box_Box.mk l23 y_2.At) [(Value.slice A103 (List.length l23) c104), (Value.int .i64 y_2.At)] from ⟨_, _, rfl, k115, r114⟩)⟩
  · refine ⟨?_, ?_⟩
    · refine ⟨cs_3, rfl, (T_api_Letter.T.len _ _ _ e_3), ?_⟩
      refine O.new fun h118 x119 O120 => ?_
      have O122 := O120.recell 3 rfl (cs' := cs_3 ++ []) rfl
      refine ⟨x119, ?_⟩
      refine ⟨?_, ?_⟩
      · refine (slices_Clone_22.walk (Hold.start (W := No) O122.s) rfl k43 r44 g7).mono ?_
        rintro _ h125 ⟨m126, A129, n130, c131, Q127, rfl, ne132⟩
        have O134 := Hold.nm (O122.ret Q127)
        subst ne132
        refine ⟨_, _, _, rfl, ?_⟩
        refine ⟨Q127.S.ext, ?_⟩
        refine ⟨?_, ?_⟩
        · have O143 := O134.rowE (l := ([y_3] : List T_api_Letter)) 3 rfl T_api_Letter.T (show CsE _ _ _ _ _ from (CsE.cons (T_api_Letter.T.mono _ _ _ _ Q127.S.up e_3) (T_api_Letter.T.len _ _ _ (T_api_Letter.T.mono _ _ _ _ Q127.S.up e_3)) CsE.nil)) rfl
          refine O143.app 4 rfl rfl rfl ((O143.os 3 rfl).srcE rfl) (by decide) g24 fun A137 c138 h139 O140 => ?_
          refine ⟨_, _, _, rfl, ?_⟩
          refine ⟨_, ldk (k := 1) (Sub.refl _) (O140.all 0 rfl) (T_box_Box.g1 e_2), _, rfl, ?_⟩
          refine ⟨Ext.refl _, ?_⟩
          refine ⟨_, rfl, rfl, ?_⟩
          refine O140.stA 2 rfl ((T_box_Box.T.len _ _ _ e_4)).symm (Flats.cons trivial (Flats.cons trivial Flats.nil)) fun h144 O145 => ?_
          refine ⟨_, ldAn (Sub.refl _) (O145.all 2 rfl) rfl, ?_⟩
          obtain ⟨m146, u147, ⟨r148, k149⟩, O150⟩ := O145.frz 4 rfl
          replace r148 : Rd 9 T_api_Letter.E m146 A137 l23 := r148
          have O151 := O150.nm
          cases e
          exact ⟨_, _, O151.pick [], rfl, (show T_box_Box.E _ (T_box_Box.mk l23 y_2.At) [(Value.slice A137 (List.length l23) c138), (Value.int .i64 y_2.At)] from ⟨_, _, rfl, k149, r148⟩)⟩
        · refine ⟨_, ldk (k := 1) (Sub.refl _) (O134.all 0 rfl) (T_box_Box.g1 e_2), _, rfl, ?_⟩
          refine ⟨Ext.refl _, ?_⟩
          have O160 := O134.rowE (l := ([y_3] : List T_api_Letter)) 3 rfl T_api_Letter.T (show CsE _ _ _ _ _ from (CsE.cons (T_api_Letter.T.mono _ _ _ _ Q127.S.up e_3) (T_api_Letter.T.len _ _ _ (T_api_Letter.T.mono _ _ _ _ Q127.S.up e_3)) CsE.nil)) rfl
          refine O160.app 4 rfl rfl rfl ((O160.os 3 rfl).srcE rfl) (by decide) g24 fun A154 c155 h156 O157 => ?_
          refine ⟨_, _, _, rfl, ?_⟩
          refine ⟨_, rfl, rfl, ?_⟩
          refine O157.stA 2 rfl ((T_box_Box.T.len _ _ _ e_4)).symm (Flats.cons trivial (Flats.cons trivial Flats.nil)) fun h161 O162 => ?_
          refine ⟨_, ldAn (Sub.refl _) (O162.all 2 rfl) rfl, ?_⟩
          obtain ⟨m163, u164, ⟨r165, k166⟩, O167⟩ := O162.frz 4 rfl
          replace r165 : Rd 9 T_api_Letter.E m163 A154 l23 := r165
          have O168 := O167.nm
          cases e
          exact ⟨_, _, O168.pick [], rfl, (show T_box_Box.E _ (T_box_Box.mk l23 y_2.At) [(Value.slice A154 (List.length l23) c155), (Value.int .i64 y_2.At)] from ⟨_, _, rfl, k166, r165⟩)⟩
      · refine ⟨_, ldk (k := 1) (Sub.refl _) (O122.all 0 rfl) (T_box_Box.g1 e_2), _, rfl, ?_⟩
        refine ⟨Ext.refl _, ?_⟩
        refine (slices_Clone_22.walk (Hold.start (W := No) O122.s) rfl k43 r44 g7).mono ?_
        rintro _ h171 ⟨m172, A175, n176, c177, Q173, rfl, ne178⟩
        have O180 := Hold.nm (O122.ret Q173)
        subst ne178
        refine ⟨_, _, _, rfl, ?_⟩
        refine ⟨Q173.S.ext, ?_⟩
        have O189 := O180.rowE (l := ([y_3] : List T_api_Letter)) 3 rfl T_api_Letter.T (show CsE _ _ _ _ _ from (CsE.cons (T_api_Letter.T.mono _ _ _ _ Q173.S.up e_3) (T_api_Letter.T.len _ _ _ (T_api_Letter.T.mono _ _ _ _ Q173.S.up e_3)) CsE.nil)) rfl
        refine O189.app 4 rfl rfl rfl ((O189.os 3 rfl).srcE rfl) (by decide) g24 fun A183 c184 h185 O186 => ?_
        refine ⟨_, _, _, rfl, ?_⟩
        refine ⟨_, rfl, rfl, ?_⟩
        refine O186.stA 2 rfl ((T_box_Box.T.len _ _ _ e_4)).symm (Flats.cons trivial (Flats.cons trivial Flats.nil)) fun h190 O191 => ?_
        refine ⟨_, ldAn (Sub.refl _) (O191.all 2 rfl) rfl, ?_⟩
        obtain ⟨m192, u193, ⟨r194, k195⟩, O196⟩ := O191.frz 4 rfl
        replace r194 : Rd 9 T_api_Letter.E m192 A183 l23 := r194
        have O197 := O196.nm
        cases e
        exact ⟨_, _, O197.pick [], rfl, (show T_box_Box.E _ (T_box_Box.mk l23 y_2.At) [(Value.slice A183 (List.length l23) c184), (Value.int .i64 y_2.At)] from ⟨_, _, rfl, k195, r194⟩)⟩
    · refine ⟨_, ldk (k := 1) (Sub.refl _) (O.all 0 rfl) (T_box_Box.g1 e_2), _, rfl, ?_⟩
      refine ⟨Ext.refl _, ?_⟩
      refine ⟨?_, ?_⟩
      · refine (slices_Clone_22.walk (Hold.start (W := No) O.s) rfl k43 r44 g7).mono ?_
        rintro _ h200 ⟨m201, A204, n205, c206, Q202, rfl, ne207⟩
        have O209 := Hold.nm (O.ret Q202)
        subst ne207
        refine ⟨_, _, _, rfl, ?_⟩
        refine ⟨Q202.S.ext, ?_⟩
        refine ⟨cs_3, rfl, (T_api_Letter.T.len _ _ _ e_3), ?_⟩
        refine O209.new fun h210 x211 O212 => ?_
        have O214 := O212.recell 4 rfl (cs' := cs_3 ++ []) rfl
        refine ⟨x211, ?_⟩
        have O223 := O214.rowE (l := ([y_3] : List T_api_Letter)) 4 rfl T_api_Letter.T (show CsE _ _ _ _ _ from (CsE.cons (T_api_Letter.T.mono _ _ _ _ Q202.S.up e_3) (T_api_Letter.T.len _ _ _ (T_api_Letter.T.mono _ _ _ _ Q202.S.up e_3)) CsE.nil)) rfl
        refine O223.app 3 rfl rfl rfl ((O223.os 4 rfl).srcE rfl) (by decide) g24 fun A217 c218 h219 O220 => ?_
        refine ⟨_, _, _, rfl, ?_⟩
        refine ⟨_, rfl, rfl, ?_⟩
        refine O220.stA 2 rfl ((T_box_Box.T.len _ _ _ e_4)).symm (Flats.cons trivial (Flats.cons trivial Flats.nil)) fun h224 O225 => ?_
        refine ⟨_, ldAn (Sub.refl _) (O225.all 2 rfl) rfl, ?_⟩
        obtain ⟨m226, u227, ⟨r228, k229⟩, O230⟩ := O225.frz 3 rfl
        replace r228 : Rd 9 T_api_Letter.E m226 A217 l23 := r228
        have O231 := O230.nm
        cases e
        exact ⟨_, _, O231.pick [], rfl, (show T_box_Box.E _ (T_box_Box.mk l23 y_2.At) [(Value.slice A217 (List.length l23) c218), (Value.int .i64 y_2.At)] from ⟨_, _, rfl, k229, r228⟩)⟩
      · refine ⟨cs_3, rfl, (T_api_Letter.T.len _ _ _ e_3), ?_⟩
        refine O.new fun h232 x233 O234 => ?_
        have O236 := O234.recell 3 rfl (cs' := cs_3 ++ []) rfl
        refine ⟨x233, ?_⟩
        refine (slices_Clone_22.walk (Hold.start (W := No) O236.s) rfl k43 r44 g7).mono ?_
        rintro _ h239 ⟨m240, A243, n244, c245, Q241, rfl, ne246⟩
        have O248 := Hold.nm (O236.ret Q241)
        subst ne246
        refine ⟨_, _, _, rfl, ?_⟩
        refine ⟨Q241.S.ext, ?_⟩
        have O257 := O248.rowE (l := ([y_3] : List T_api_Letter)) 3 rfl T_api_Letter.T (show CsE _ _ _ _ _ from (CsE.cons (T_api_Letter.T.mono _ _ _ _ Q241.S.up e_3) (T_api_Letter.T.len _ _ _ (T_api_Letter.T.mono _ _ _ _ Q241.S.up e_3)) CsE.nil)) rfl
        refine O257.app 4 rfl rfl rfl ((O257.os 3 rfl).srcE rfl) (by decide) g24 fun A251 c252 h253 O254 => ?_
        refine ⟨_, _, _, rfl, ?_⟩
        refine ⟨_, rfl, rfl, ?_⟩
        refine O254.stA 2 rfl ((T_box_Box.T.len _ _ _ e_4)).symm (Flats.cons trivial (Flats.cons trivial Flats.nil)) fun h258 O259 => ?_
        refine ⟨_, ldAn (Sub.refl _) (O259.all 2 rfl) rfl, ?_⟩
        obtain ⟨m260, u261, ⟨r262, k263⟩, O264⟩ := O259.frz 4 rfl
        replace r262 : Rd 9 T_api_Letter.E m260 A251 l23 := r262
        have O265 := O264.nm
        cases e
        exact ⟨_, _, O265.pick [], rfl, (show T_box_Box.E _ (T_box_Box.mk l23 y_2.At) [(Value.slice A251 (List.length l23) c252), (Value.int .i64 y_2.At)] from ⟨_, _, rfl, k263, r262⟩)⟩

noncomputable def box_Put.j1 (y_2 : T_box_Box) (y_3 : T_api_Letter) (y_4 : T_box_Box) (b_14 : Bool) : Option (T_box_Box × Int) :=
  if b_14 = true then (some ((T_box_Box.mk ([] : List T_api_Letter) (0 : Int)), (3 : Int))) else (if (((List.length y_2.Letters) : Nat) : Int) = (60 : Int) then (some ((T_box_Box.mk ([] : List T_api_Letter) (0 : Int)), (6 : Int))) else ((box_Put.j0 y_2 y_3 y_4)))
set_option maxRecDepth 100000 in
theorem box_Put.j1.walk {W : Nat → Prop} {h0 m0 h m : Heap} {bk_2 : Nat} {cs_2 : List Value} {bk_3 : Nat} {cs_3 : List Value} {bk_4 : Nat} {cs_4 : List Value} {y_2 : T_box_Box} {y_3 : T_api_Letter} {y_4 : T_box_Box} {b_14 : Bool} (O : Hold W h0 m0 h m [rV bk_2 24 cs_2, rV bk_3 29 cs_3, rV bk_4 24 cs_4]) (e_2 : T_box_Box.E m y_2 cs_2) (e_3 : T_api_Letter.E m y_3 cs_3) (e_4 : T_box_Box.E m y_4 cs_4) {r : T_box_Box × Int} (e : box_Put.j1 y_2 y_3 y_4 b_14 = some r) : f10.j1 (box_Put.post W h0 m0 r) (⟨bk_2, 0, none⟩ : Addr) (⟨bk_3, 0, none⟩ : Addr) (⟨bk_4, 0, none⟩ : Addr) b_14 h := by
  unfold box_Put.j1 at e
  refine f10.j1_in ?_
  unfold f10.j1T
  refine split_any_e e (fun c13 e => ?_) (fun c13 e => ?_)
  · refine ⟨_, rfl, rfl, ?_⟩
    refine O.stA 2 rfl ((T_box_Box.T.len _ _ _ e_4)).symm (Flats.cons trivial (Flats.cons trivial Flats.nil)) fun h1 O2 => ?_
    refine ⟨_, ldAn (Sub.refl _) (O2.all 2 rfl) rfl, ?_⟩
    have O3 := O2.nm
    cases e
    exact ⟨_, _, O3.pick [], rfl, (show T_box_Box.E _ (T_box_Box.mk ([] : List T_api_Letter) (0 : Int)) [(Value.slice none 0 0), (Value.int .i64 (0 : Int))] from ⟨_, _, rfl, (Nat.le_refl 0), Rd.nil⟩)⟩
  · obtain ⟨A4, c5, q6, k7, r8⟩ := T_box_Box.g0 e_2
    refine ⟨_, ld0 (Sub.refl _) (O.all 0 rfl) q6, _, _, _, rfl, ?_⟩
    refine split_eq_e e (fun c12 e => ?_) (fun c12 e => ?_)
    · refine ⟨_, rfl, rfl, ?_⟩
      refine O.stA 2 rfl ((T_box_Box.T.len _ _ _ e_4)).symm (Flats.cons trivial (Flats.cons trivial Flats.nil)) fun h9 O10 => ?_
      refine ⟨_, ldAn (Sub.refl _) (O10.all 2 rfl) rfl, ?_⟩
      have O11 := O10.nm
      cases e
      exact ⟨_, _, O11.pick [], rfl, (show T_box_Box.E _ (T_box_Box.mk ([] : List T_api_Letter) (0 : Int)) [(Value.slice none 0 0), (Value.int .i64 (0 : Int))] from ⟨_, _, rfl, (Nat.le_refl 0), Rd.nil⟩)⟩
    · exact box_Put.j0.walk (O.pick [0, 1, 2]).nm e_2 e_3 e_4 e

noncomputable def box_Put (y_0 : T_box_Box) (y_1 : T_api_Letter) : Option (T_box_Box × Int) :=
  Option.bind (box_Check y_0) fun y13 => if y13 = (0 : Int) then (if y_1.Kind = (1 : Int) then ((box_Put.j1 y_0 y_1 (T_box_Box.mk ([] : List T_api_Letter) (0 : Int)) false)) else ((box_Put.j1 y_0 y_1 (T_box_Box.mk ([] : List T_api_Letter) (0 : Int)) (y_1.Kind != (2 : Int))))) else (some ((T_box_Box.mk ([] : List T_api_Letter) (0 : Int)), y13))
set_option maxRecDepth 100000 in
theorem box_Put.walk {W : Nat → Prop} {h m : Heap} {cs_0 : List Value} {cs_1 : List Value} {y_0 : T_box_Box} {y_1 : T_api_Letter} (O : Hold W h m h m []) (e_0 : T_box_Box.E m y_0 cs_0) (e_1 : T_api_Letter.E m y_1 cs_1) {r : T_box_Box × Int} (e : box_Put y_0 y_1 = some r) : Run Try.prog 10 #[Value.agg cs_0.toArray, Value.agg cs_1.toArray] h (box_Put.post W h m r) := by
  unfold box_Put at e
  refine f10.run ?_
  unfold f10.runT
  refine O.new fun h1 x2 O3 => ?_
  refine O3.new fun h5 x6 O7 => ?_
  refine O7.new fun h9 x10 O11 => ?_
  refine ⟨_, ldAn (Sub.refl _) (O11.all 0 rfl) (T_box_Box.T.len _ _ _ e_0), ?_⟩
  obtain ⟨y13, g14, e⟩ := bind_e e
  refine (box_Check.walk (Hold.start (W := No) O11.s) e_0 g14).mono ?_
  rintro _ h15 ⟨m16, Q17, rfl⟩
  have O19 := Hold.nm (O11.retC Q17 vfs_nil)
  refine ⟨_, rfl, ?_⟩
  refine split_ne_e e (fun c24 e => ?_) (fun c24 e => ?_)
  · refine ⟨_, rfl, rfl, ?_⟩
    refine O19.stA 2 rfl rfl (Flats.cons trivial (Flats.cons trivial Flats.nil)) fun h20 O21 => ?_
    refine ⟨_, ldAn (Sub.refl _) (O21.all 2 rfl) rfl, ?_⟩
    have O22 := O21.nm
    cases e
    exact ⟨_, _, O22.pick [], rfl, (show T_box_Box.E _ (T_box_Box.mk ([] : List T_api_Letter) (0 : Int)) [(Value.slice none 0 0), (Value.int .i64 (0 : Int))] from ⟨_, _, rfl, (Nat.le_refl 0), Rd.nil⟩)⟩
  · refine ⟨_, ld0 (Sub.refl _) (O19.all 1 rfl) (T_api_Letter.g0 e_1), _, rfl, ?_⟩
    refine split_ne_e e (fun c23 e => ?_) (fun c23 e => ?_)
    · refine ⟨_, ld0 (Sub.refl _) (O19.all 1 rfl) (T_api_Letter.g0 e_1), _, rfl, ?_⟩
      exact box_Put.j1.walk (O19.pick [0, 1, 2]).nm e_0 e_1 (show T_box_Box.E _ (T_box_Box.mk ([] : List T_api_Letter) (0 : Int)) [(Value.slice none 0 0), (Value.int .i64 (0 : Int))] from ⟨_, _, rfl, (Nat.le_refl 0), Rd.nil⟩) e
    · exact box_Put.j1.walk (O19.pick [0, 1, 2]).nm e_0 e_1 (show T_box_Box.E _ (T_box_Box.mk ([] : List T_api_Letter) (0 : Int)) [(Value.slice none 0 0), (Value.int .i64 (0 : Int))] from ⟨_, _, rfl, (Nat.le_refl 0), Rd.nil⟩) e

/-! ### 11 roadstead/box.Again -/
def box_Again.post (W : Nat → Prop) (h0 m0 : Heap) (r : T_box_Box × Int) (v : Value) (h : Heap) : Prop := ∃ m cs0, Hold W h0 m0 h m [] ∧ v = .tuple #[.agg cs0.toArray, .int .i64 r.2] ∧ T_box_Box.E m r.1 cs0
noncomputable def box_Again (y_0 : T_box_Box) : Option (T_box_Box × Int) :=
  Option.bind (box_Check y_0) fun y9 => if y9 = (0 : Int) then (Option.bind (slices_Clone_22 y_0.Letters) fun y24 => some ((T_box_Box.mk y24 (0 : Int)), (0 : Int))) else (some ((T_box_Box.mk ([] : List T_api_Letter) (0 : Int)), y9))
set_option maxHeartbeats 4000000 in
set_option maxRecDepth 100000 in
theorem box_Again.walk {W : Nat → Prop} {h m : Heap} {cs_0 : List Value} {y_0 : T_box_Box} (O : Hold W h m h m []) (e_0 : T_box_Box.E m y_0 cs_0) {r : T_box_Box × Int} (e : box_Again y_0 = some r) : Run Try.prog 11 #[Value.agg cs_0.toArray] h (box_Again.post W h m r) := by
  unfold box_Again at e
  refine f11.run ?_
  unfold f11.runT
  refine O.new fun h1 x2 O3 => ?_
  refine O3.new fun h5 x6 O7 => ?_
  refine ⟨_, ldAn (Sub.refl _) (O7.all 0 rfl) (T_box_Box.T.len _ _ _ e_0), ?_⟩
  obtain ⟨y9, g10, e⟩ := bind_e e
  refine (box_Check.walk (Hold.start (W := No) O7.s) e_0 g10).mono ?_
  rintro _ h11 ⟨m12, Q13, rfl⟩
  have O15 := Hold.nm (O7.retC Q13 vfs_nil)
  refine ⟨_, rfl, ?_⟩
  refine split_ne_e e (fun c44 e => ?_) (fun c44 e => ?_)
  · refine ⟨_, rfl, rfl, ?_⟩
    refine O15.stA 1 rfl rfl (Flats.cons trivial (Flats.cons trivial Flats.nil)) fun h16 O17 => ?_
    refine ⟨_, ldAn (Sub.refl _) (O17.all 1 rfl) rfl, ?_⟩
    have O18 := O17.nm
    cases e
    exact ⟨_, _, O18.pick [], rfl, (show T_box_Box.E _ (T_box_Box.mk ([] : List T_api_Letter) (0 : Int)) [(Value.slice none 0 0), (Value.int .i64 (0 : Int))] from ⟨_, _, rfl, (Nat.le_refl 0), Rd.nil⟩)⟩
  · obtain ⟨A19, c20, q21, k22, r23⟩ := T_box_Box.g0 e_0
    refine ⟨_, ld0 (Sub.refl _) (O15.all 0 rfl) q21, _, _, _, rfl, ?_⟩
    obtain ⟨y24, g25, e⟩ := bind_e e
    refine (slices_Clone_22.walk (Hold.start (W := No) O15.s) rfl k22 r23 g25).mono ?_
    rintro _ h26 ⟨m27, A30, n31, c32, Q28, rfl, ne33⟩
    have O35 := Hold.nm (O15.ret Q28)
    subst ne33
    refine ⟨_, _, _, rfl, ?_⟩
    refine ⟨_, rfl, rfl, ?_⟩
    refine O35.stA 1 rfl rfl (Flats.cons trivial (Flats.cons trivial Flats.nil)) fun h36 O37 => ?_
    refine ⟨_, ldAn (Sub.refl _) (O37.all 1 rfl) rfl, ?_⟩
    obtain ⟨m38, u39, ⟨r40, k41⟩, O42⟩ := O37.frz 2 rfl
    replace r40 : Rd 9 T_api_Letter.E m38 A30 y24 := r40
    have O43 := O42.nm
    cases e
    exact ⟨_, _, O43.pick [], rfl, (show T_box_Box.E _ (T_box_Box.mk y24 (0 : Int)) [(Value.slice A30 (List.length y24) c32), (Value.int .i64 (0 : Int))] from ⟨_, _, rfl, k41, r40⟩)⟩

/-! ### 102 slices.IndexFunc[[]roadstead/api.Letter,roadstead/api.Letter] -/
def slices_IndexFunc_102.post (W : Nat → Prop) (h0 m0 : Heap) (r : Int) (v : Value) (h : Heap) : Prop := ∃ m , Hold W h0 m0 h m [] ∧ v = .int .i64 r
inductive slices_IndexFunc_102.l0_k.Pt where
  | l0 (a_0 : List T_api_Letter) (p_1 : T_api_Letter → Option Bool) (x_7 : Int) (x_8 : Int)
noncomputable def slices_IndexFunc_102.l0_k.body (go : (p : slices_IndexFunc_102.l0_k.Pt) → Option (Int)) : (p : slices_IndexFunc_102.l0_k.Pt) → Option (Int)
  | .l0 a_0 p_1 x_7 x_8 => if x_8 < x_7 then (Option.bind (gi a_0 x_8) fun y1 => Option.bind (p_1 y1) fun y8 => if y8 = true then (some (x_8)) else ((go (.l0 a_0 p_1 x_7 (IntKind.wrap .i64 (x_8 + (1 : Int))))))) else (some ((-1 : Int)))
theorem slices_IndexFunc_102.l0_k.mono : MonoF (β := fun _ => (Int)) slices_IndexFunc_102.l0_k.body := fun f g hfg p => match p with
  | .l0 a_0 p_1 x_7 x_8 => LeO.ite (LeO.bind (LeO.refl _) fun y1 => LeO.bind (LeO.refl _) fun y8 => LeO.ite (LeO.refl _) ((hfg _))) (LeO.refl _)
noncomputable def slices_IndexFunc_102.l0_k.go (p : slices_IndexFunc_102.l0_k.Pt) : Option (Int) := fixF (β := fun _ => (Int)) slices_IndexFunc_102.l0_k.body p
noncomputable def slices_IndexFunc_102.l0 (a_0 : List T_api_Letter) (p_1 : T_api_Letter → Option Bool) (x_7 : Int) (x_8 : Int) : Option (Int) := slices_IndexFunc_102.l0_k.go (.l0 a_0 p_1 x_7 x_8)
theorem slices_IndexFunc_102.l0_eq (a_0 : List T_api_Letter) (p_1 : T_api_Letter → Option Bool) (x_7 : Int) (x_8 : Int) : slices_IndexFunc_102.l0 a_0 p_1 x_7 x_8 = if x_8 < x_7 then (Option.bind (gi a_0 x_8) fun y1 => Option.bind (p_1 y1) fun y8 => if y8 = true then (some (x_8)) else ((slices_IndexFunc_102.l0 a_0 p_1 x_7 (IntKind.wrap .i64 (x_8 + (1 : Int)))))) else (some ((-1 : Int))) := fixF_eq slices_IndexFunc_102.l0_k.mono _
def slices_IndexFunc_102.l0_k.I : (p : slices_IndexFunc_102.l0_k.Pt) → (Int) → Prop
  | .l0 a_0 p_1 x_7 x_8, r => ∀ (W : Nat → Prop) (h0 m0 h m : Heap) (A_0 : Option Addr) (n_0 c_0 : Nat) (fv_1 : Value) (O : Hold W h0 m0 h m []) (ne_0 : n_0 = List.length a_0) (k_0 : List.length a_0 ≤ c_0) (r_0 : Rd 9 T_api_Letter.E m A_0 a_0) (f_1 : ∀ h' m', Sub m0 m' → Sub m' h' → ∀ (y0 : T_api_Letter) (cs0 : List Value) (_ : T_api_Letter.E m' y0 cs0) (r : Bool), p_1 y0 = some r → CallF Try.prog fv_1 [.agg cs0.toArray] h' (fun v h'' => v = .bool r ∧ Ext h' h'')), f102.l0 (slices_IndexFunc_102.post W h0 m0 r) A_0 n_0 c_0 fv_1 x_7 x_8 h
set_option maxRecDepth 100000 in
theorem slices_IndexFunc_102.l0_k.step_l0 (go : (p : slices_IndexFunc_102.l0_k.Pt) → Option (Int)) (ih : ∀ p r, go p = some r → slices_IndexFunc_102.l0_k.I p r) (a_0 : List T_api_Letter) (p_1 : T_api_Letter → Option Bool) (x_7 : Int) (x_8 : Int) (r : Int) (e : slices_IndexFunc_102.l0_k.body go (.l0 a_0 p_1 x_7 x_8) = some r) : slices_IndexFunc_102.l0_k.I (.l0 a_0 p_1 x_7 x_8) r := by
  unfold slices_IndexFunc_102.l0_k.body at e
  intro W h0 m0 h m A_0 n_0 c_0 fv_1 O ne_0 k_0 r_0 f_1
  subst ne_0
  refine f102.l0_in ?_
  unfold f102.l0T
  refine split_dec_e e (fun c14 e => ?_) (fun c14 e => ?_)
  · obtain ⟨y1, g2, e⟩ := bind_e e
    refine r_0.addr rfl g2 fun a3 cs4 ha5 hc6 he7 => ?_
    refine ⟨_, ldAn O.s hc6 rfl, ?_⟩
    obtain ⟨y8, g9, e⟩ := bind_e e
    refine CallF.mono (f_1 _ _ O.up O.s _ _ he7 _ g9) ?_
    rintro _ h10 ⟨rfl, x11⟩
    have O12 := O.ext x11
    refine ⟨_, rfl, ?_⟩
    refine split_any_e e (fun c13 e => ?_) (fun c13 e => ?_)
    · cases e
      exact ⟨_, O12.pick [], rfl⟩
    · exact (ih _ _ e) _ _ _ _ _ _ _ _ _ (O12.pick []).nm rfl k_0 r_0 f_1
  · cases e
    exact ⟨_, O.pick [], rfl⟩
theorem slices_IndexFunc_102.l0_k.all {p : slices_IndexFunc_102.l0_k.Pt} {r : (Int)} (e : slices_IndexFunc_102.l0_k.go p = some r) : slices_IndexFunc_102.l0_k.I p r := fixF_ind (β := fun _ => (Int)) slices_IndexFunc_102.l0_k.mono (I := slices_IndexFunc_102.l0_k.I) (fun go ih p r e => match p with
  | .l0 a_0 p_1 x_7 x_8 => slices_IndexFunc_102.l0_k.step_l0 go ih a_0 p_1 x_7 x_8 r e
  ) e
theorem slices_IndexFunc_102.l0.walk {W : Nat → Prop} {h0 m0 h m : Heap} {A_0 : Option Addr} {n_0 c_0 : Nat} {fv_1 : Value} {a_0 : List T_api_Letter} {p_1 : T_api_Letter → Option Bool} {x_7 : Int} {x_8 : Int} (O : Hold W h0 m0 h m []) (ne_0 : n_0 = List.length a_0) (k_0 : List.length a_0 ≤ c_0) (r_0 : Rd 9 T_api_Letter.E m A_0 a_0) (f_1 : ∀ h' m', Sub m0 m' → Sub m' h' → ∀ (y0 : T_api_Letter) (cs0 : List Value) (_ : T_api_Letter.E m' y0 cs0) (r : Bool), p_1 y0 = some r → CallF Try.prog fv_1 [.agg cs0.toArray] h' (fun v h'' => v = .bool r ∧ Ext h' h'')) {r : Int} (e : slices_IndexFunc_102.l0 a_0 p_1 x_7 x_8 = some r) : f102.l0 (slices_IndexFunc_102.post W h0 m0 r) A_0 n_0 c_0 fv_1 x_7 x_8 h := slices_IndexFunc_102.l0_k.all (p := .l0 a_0 p_1 x_7 x_8) e W h0 m0 h m A_0 n_0 c_0 fv_1 O ne_0 k_0 r_0 f_1

noncomputable def slices_IndexFunc_102 (a_0 : List T_api_Letter) (p_1 : T_api_Letter → Option Bool) : Option (Int) :=
  (slices_IndexFunc_102.l0 a_0 p_1 (((List.length a_0) : Nat) : Int) (0 : Int))
set_option maxRecDepth 100000 in
theorem slices_IndexFunc_102.walk {W : Nat → Prop} {h m : Heap} {A_0 : Option Addr} {n_0 c_0 : Nat} {fv_1 : Value} {a_0 : List T_api_Letter} {p_1 : T_api_Letter → Option Bool} (O : Hold W h m h m []) (ne_0 : n_0 = List.length a_0) (k_0 : List.length a_0 ≤ c_0) (r_0 : Rd 9 T_api_Letter.E m A_0 a_0) (f_1 : ∀ h' m', Sub m m' → Sub m' h' → ∀ (y0 : T_api_Letter) (cs0 : List Value) (_ : T_api_Letter.E m' y0 cs0) (r : Bool), p_1 y0 = some r → CallF Try.prog fv_1 [.agg cs0.toArray] h' (fun v h'' => v = .bool r ∧ Ext h' h'')) {r : Int} (e : slices_IndexFunc_102 a_0 p_1 = some r) : Run Try.prog 102 #[Value.slice A_0 n_0 c_0, fv_1] h (slices_IndexFunc_102.post W h m r) := by
  unfold slices_IndexFunc_102 at e
  subst ne_0
  refine f102.run ?_
  unfold f102.runT
  exact slices_IndexFunc_102.l0.walk (O.pick []).nm rfl k_0 r_0 f_1 e
theorem slices_IndexFunc_102.val {l : List T_api_Letter} {p : T_api_Letter → Option Bool} (q : T_api_Letter → Bool) (hp : ∀ x ∈ l, p x = some (q x)) (hl : l.length ≤ 4611686018427387904) : slices_IndexFunc_102 l p = some (idxOf q l) := find_val (fun a p n i => slices_IndexFunc_102.l0_eq a p n i) q hp hl

/-! ### 79 slices.DeleteFunc[[]roadstead/api.Letter,roadstead/api.Letter] -/
def slices_DeleteFunc_79.post (W : Nat → Prop) (h0 m0 : Heap) (r : (List T_api_Letter)) (v : Value) (h : Heap) : Prop := ∃ m A0 n0 c0, Hold W h0 m0 h m [] ∧ v = .slice A0 n0 c0 ∧ n0 = List.length r ∧ List.length r ≤ c0 ∧ Rd 9 T_api_Letter.E m A0 r
inductive slices_DeleteFunc_79.l0_k.Pt where
  | l0 (a_0 : List T_api_Letter) (p_1 : T_api_Letter → Option Bool) (x_5 : Int) (x_6 : Int)
  | j0 (a_0 : List T_api_Letter) (p_1 : T_api_Letter → Option Bool) (x_5 : Int) (x_6 : Int)
noncomputable def slices_DeleteFunc_79.l0_k.body (go : (p : slices_DeleteFunc_79.l0_k.Pt) → Option ((List T_api_Letter))) : (p : slices_DeleteFunc_79.l0_k.Pt) → Option ((List T_api_Letter))
  | .l0 a_0 p_1 x_5 x_6 => if x_6 < (((List.length a_0) : Nat) : Int) then (Option.bind (gi a_0 x_6) fun y1 => Option.bind (p_1 y1) fun y14 => if y14 = true then ((go (.j0 a_0 p_1 x_5 x_6))) else (Option.bind (gi a_0 x_5) fun y20 => Option.bind (some (List.set a_0 (Int.toNat x_5) y1)) fun l29 => (go (.j0 l29 p_1 (IntKind.wrap .i64 (x_5 + (1 : Int))) x_6)))) else (Option.bind (sls a_0 x_5 (((List.length a_0) : Nat) : Int)) fun l33 => Option.bind (sls (clrL a_0 x_5 (((List.length a_0) : Nat) : Int) (T_api_Letter.mk (0 : Int) (0 : Int) (0 : Int) (0 : Int) (ByteArray.mk #[]) (T_api_Value.mk (0 : Int) (0 : Int) (ByteArray.mk #[]) ([] : (List T_api_Value))))) (0 : Int) x_5) fun l38 => some (l38))
  | .j0 a_0 p_1 x_5 x_6 => (go (.l0 a_0 p_1 x_5 (IntKind.wrap .i64 (x_6 + (1 : Int)))))
theorem slices_DeleteFunc_79.l0_k.mono : MonoF (β := fun _ => ((List T_api_Letter))) slices_DeleteFunc_79.l0_k.body := fun f g hfg p => match p with
  | .l0 a_0 p_1 x_5 x_6 => LeO.ite (LeO.bind (LeO.refl _) fun y1 => LeO.bind (LeO.refl _) fun y14 => LeO.ite ((hfg _)) (LeO.bind (LeO.refl _) fun y20 => LeO.bind (LeO.refl _) fun l29 => (hfg _))) (LeO.bind (LeO.refl _) fun l33 => LeO.bind (LeO.refl _) fun l38 => LeO.refl _)
  | .j0 a_0 p_1 x_5 x_6 => (hfg _)
noncomputable def slices_DeleteFunc_79.l0_k.go (p : slices_DeleteFunc_79.l0_k.Pt) : Option ((List T_api_Letter)) := fixF (β := fun _ => ((List T_api_Letter))) slices_DeleteFunc_79.l0_k.body p
noncomputable def slices_DeleteFunc_79.l0 (a_0 : List T_api_Letter) (p_1 : T_api_Letter → Option Bool) (x_5 : Int) (x_6 : Int) : Option ((List T_api_Letter)) := slices_DeleteFunc_79.l0_k.go (.l0 a_0 p_1 x_5 x_6)
noncomputable def slices_DeleteFunc_79.j0 (a_0 : List T_api_Letter) (p_1 : T_api_Letter → Option Bool) (x_5 : Int) (x_6 : Int) : Option ((List T_api_Letter)) := slices_DeleteFunc_79.l0_k.go (.j0 a_0 p_1 x_5 x_6)
theorem slices_DeleteFunc_79.l0_eq (a_0 : List T_api_Letter) (p_1 : T_api_Letter → Option Bool) (x_5 : Int) (x_6 : Int) : slices_DeleteFunc_79.l0 a_0 p_1 x_5 x_6 = if x_6 < (((List.length a_0) : Nat) : Int) then (Option.bind (gi a_0 x_6) fun y1 => Option.bind (p_1 y1) fun y14 => if y14 = true then ((slices_DeleteFunc_79.j0 a_0 p_1 x_5 x_6)) else (Option.bind (gi a_0 x_5) fun y20 => Option.bind (some (List.set a_0 (Int.toNat x_5) y1)) fun l29 => (slices_DeleteFunc_79.j0 l29 p_1 (IntKind.wrap .i64 (x_5 + (1 : Int))) x_6))) else (Option.bind (sls a_0 x_5 (((List.length a_0) : Nat) : Int)) fun l33 => Option.bind (sls (clrL a_0 x_5 (((List.length a_0) : Nat) : Int) (T_api_Letter.mk (0 : Int) (0 : Int) (0 : Int) (0 : Int) (ByteArray.mk #[]) (T_api_Value.mk (0 : Int) (0 : Int) (ByteArray.mk #[]) ([] : (List T_api_Value))))) (0 : Int) x_5) fun l38 => some (l38)) := fixF_eq slices_DeleteFunc_79.l0_k.mono _
theorem slices_DeleteFunc_79.j0_eq (a_0 : List T_api_Letter) (p_1 : T_api_Letter → Option Bool) (x_5 : Int) (x_6 : Int) : slices_DeleteFunc_79.j0 a_0 p_1 x_5 x_6 = (slices_DeleteFunc_79.l0 a_0 p_1 x_5 (IntKind.wrap .i64 (x_6 + (1 : Int)))) := fixF_eq slices_DeleteFunc_79.l0_k.mono _
def slices_DeleteFunc_79.l0_k.I : (p : slices_DeleteFunc_79.l0_k.Pt) → ((List T_api_Letter)) → Prop
  | .l0 a_0 p_1 x_5 x_6, r => ∀ (W : Nat → Prop) (h0 m0 h m : Heap) (A_0 : Option Addr) (n_0 c_0 : Nat) (fv_1 : Value) (O : Hold W h0 m0 h m [rR (aE T_api_Letter.T) A_0 c_0 a_0]) (ne_0 : n_0 = List.length a_0) (f_1 : ∀ h' m', Sub m0 m' → Sub m' h' → ∀ (y0 : T_api_Letter) (cs0 : List Value) (_ : T_api_Letter.E m' y0 cs0) (r : Bool), p_1 y0 = some r → CallF Try.prog fv_1 [.agg cs0.toArray] h' (fun v h'' => v = .bool r ∧ Ext h' h'')), f79.l0 (slices_DeleteFunc_79.post W h0 m0 r) A_0 n_0 c_0 fv_1 x_5 x_6 h
  | .j0 a_0 p_1 x_5 x_6, r => ∀ (W : Nat → Prop) (h0 m0 h m : Heap) (A_0 : Option Addr) (n_0 c_0 : Nat) (fv_1 : Value) (O : Hold W h0 m0 h m [rR (aE T_api_Letter.T) A_0 c_0 a_0]) (ne_0 : n_0 = List.length a_0) (f_1 : ∀ h' m', Sub m0 m' → Sub m' h' → ∀ (y0 : T_api_Letter) (cs0 : List Value) (_ : T_api_Letter.E m' y0 cs0) (r : Bool), p_1 y0 = some r → CallF Try.prog fv_1 [.agg cs0.toArray] h' (fun v h'' => v = .bool r ∧ Ext h' h'')), f79.j0 (slices_DeleteFunc_79.post W h0 m0 r) A_0 n_0 c_0 fv_1 x_5 x_6 h
set_option maxHeartbeats 4000000 in
set_option maxRecDepth 100000 in
theorem slices_DeleteFunc_79.l0_k.step_l0 (go : (p : slices_DeleteFunc_79.l0_k.Pt) → Option ((List T_api_Letter))) (ih : ∀ p r, go p = some r → slices_DeleteFunc_79.l0_k.I p r) (a_0 : List T_api_Letter) (p_1 : T_api_Letter → Option Bool) (x_5 : Int) (x_6 : Int) (r : (List T_api_Letter)) (e : slices_DeleteFunc_79.l0_k.body go (.l0 a_0 p_1 x_5 x_6) = some r) : slices_DeleteFunc_79.l0_k.I (.l0 a_0 p_1 x_5 x_6) r := by
  unfold slices_DeleteFunc_79.l0_k.body at e
  intro W h0 m0 h m A_0 n_0 c_0 fv_1 O ne_0 f_1
  subst ne_0
  refine f79.l0_in ?_
  unfold f79.l0T
  refine split_dec_e e (fun c49 e => ?_) (fun c49 e => ?_)
  · obtain ⟨y1, g2, e⟩ := bind_e e
    refine (O.os 0 rfl).addr rfl g2 fun a3 cs4 ha5 hc6 he7 => ?_
    refine ⟨_, ldAn (Sub.refl _) hc6 rfl, ?_⟩
    refine O.new fun h8 x9 O10 => ?_
    refine ⟨_, rfl, (T_api_Letter.T.len _ _ _ he7), ?_⟩
    refine O10.stA 1 rfl (T_api_Letter.T.len _ _ _ he7) (T_api_Letter.T.flat _ _ _ he7) fun h12 O13 => ?_
    refine ⟨_, ldAn (Sub.refl _) (O13.all 1 rfl) (T_api_Letter.T.len _ _ _ he7), ?_⟩
    obtain ⟨y14, g15, e⟩ := bind_e e
    refine CallF.mono (f_1 _ _ O.up O13.s _ _ he7 _ g15) ?_
    rintro _ h16 ⟨rfl, x17⟩
    have O18 := O13.ext x17
    refine ⟨_, rfl, ?_⟩
    refine split_not ?_
    refine split_any_e e (fun c32 e => ?_) (fun c32 e => ?_)
    · have O19 := O18.nm
      exact (ih _ _ e) _ _ _ _ _ _ _ _ _ (O19.pick [0]).nm rfl f_1
    · refine ⟨_, ldAn (Sub.refl _) (O18.all 1 rfl) (T_api_Letter.T.len _ _ _ he7), ?_⟩
      obtain ⟨y20, g21, e⟩ := bind_e e
      refine (O18.os 0 rfl).addr rfl g21 fun a22 cs23 ha24 hc25 he26 => ?_
      obtain ⟨l29, g30, e⟩ := bind_e e
      replace g30 := Option.some.inj g30
      refine ⟨_, rfl, (T_api_Letter.T.len _ _ _ he7), ?_⟩
      refine O18.elstA 0 rfl g21 ha24 hc25 (y' := y1) he7 (T_api_Letter.T.flat _ _ _ he7) g30 fun h27 O28 => ?_
      have O31 := O28.nm
      exact (ih _ _ e) _ _ _ _ _ _ _ _ _ (O31.pick [0]).nm (lset' g30) f_1
  · obtain ⟨l33, g34, e⟩ := bind_e e
    have q35 := sls_e g34
    refine ⟨q35.1, q35.2.1, cap_in q35.2.2.1 (O.cap 0 rfl), ?_⟩
    try rw [q35.2.2.2.1]
    refine O.clr (e := 29) (zv := (Value.agg #[(Value.int .i64 (0 : Int)), (Value.int .i64 (0 : Int)), (Value.int .i64 (0 : Int)), (Value.int .i64 (0 : Int)), (Value.string (ByteArray.mk #[])), (Value.int .i64 (0 : Int)), (Value.int .i64 (0 : Int)), (Value.string (ByteArray.mk #[])), (Value.slice none 0 0)])) (zp := (T_api_Letter.mk (0 : Int) (0 : Int) (0 : Int) (0 : Int) (ByteArray.mk #[]) (T_api_Value.mk (0 : Int) (0 : Int) (ByteArray.mk #[]) ([] : (List T_api_Value))))) 0 rfl g34 (by kernel_rfl) (by kernel_rfl) (show T_api_Letter.E m (T_api_Letter.mk (0 : Int) (0 : Int) (0 : Int) (0 : Int) (ByteArray.mk #[]) (T_api_Value.mk (0 : Int) (0 : Int) (ByteArray.mk #[]) ([] : (List T_api_Value)))) [(Value.int .i64 (0 : Int)), (Value.int .i64 (0 : Int)), (Value.int .i64 (0 : Int)), (Value.int .i64 (0 : Int)), (Value.string (ByteArray.mk #[])), (Value.int .i64 (0 : Int)), (Value.int .i64 (0 : Int)), (Value.string (ByteArray.mk #[])), (Value.slice none 0 0)] from (show T_api_Letter.E _ (T_api_Letter.mk (0 : Int) (0 : Int) (0 : Int) (0 : Int) (ByteArray.mk #[]) (T_api_Value.mk (0 : Int) (0 : Int) (ByteArray.mk #[]) ([] : List T_api_Value))) [(Value.int .i64 (0 : Int)), (Value.int .i64 (0 : Int)), (Value.int .i64 (0 : Int)), (Value.int .i64 (0 : Int)), (Value.string (ByteArray.mk #[])), (Value.int .i64 (0 : Int)), (Value.int .i64 (0 : Int)), (Value.string (ByteArray.mk #[])), (Value.slice none 0 0)] from ⟨_, _, rfl, (Nat.le_refl 0), Rd.nil⟩)) fun h36 O37 => ?_
    refine ⟨rfl, ?_⟩
    obtain ⟨l38, g39, e⟩ := bind_e e
    have q40 := sls_e g39
    refine ⟨q40.1, q40.2.1, cap_in q40.2.2.1 (O37.cap 0 rfl), ?_⟩
    try rw [q40.2.2.2.1]
    have O41 := O37.sls 0 rfl g39
    obtain ⟨m43, u44, ⟨r45, k46⟩, O47⟩ := O41.frz 0 rfl
    replace r45 : Rd 9 T_api_Letter.E m43 (sliceA A_0 (Int.toNat (0 : Int)) c_0 9) l38 := r45
    have O48 := O47.nm
    cases e
    exact ⟨_, _, _, _, O48.pick [], rfl, rfl, k46, r45⟩
set_option maxRecDepth 100000 in
theorem slices_DeleteFunc_79.l0_k.step_j0 (go : (p : slices_DeleteFunc_79.l0_k.Pt) → Option ((List T_api_Letter))) (ih : ∀ p r, go p = some r → slices_DeleteFunc_79.l0_k.I p r) (a_0 : List T_api_Letter) (p_1 : T_api_Letter → Option Bool) (x_5 : Int) (x_6 : Int) (r : (List T_api_Letter)) (e : slices_DeleteFunc_79.l0_k.body go (.j0 a_0 p_1 x_5 x_6) = some r) : slices_DeleteFunc_79.l0_k.I (.j0 a_0 p_1 x_5 x_6) r := by
  unfold slices_DeleteFunc_79.l0_k.body at e
  intro W h0 m0 h m A_0 n_0 c_0 fv_1 O ne_0 f_1
  subst ne_0
  refine f79.j0_in ?_
  unfold f79.j0T
  exact (ih _ _ e) _ _ _ _ _ _ _ _ _ (O.pick [0]).nm rfl f_1
theorem slices_DeleteFunc_79.l0_k.all {p : slices_DeleteFunc_79.l0_k.Pt} {r : ((List T_api_Letter))} (e : slices_DeleteFunc_79.l0_k.go p = some r) : slices_DeleteFunc_79.l0_k.I p r := fixF_ind (β := fun _ => ((List T_api_Letter))) slices_DeleteFunc_79.l0_k.mono (I := slices_DeleteFunc_79.l0_k.I) (fun go ih p r e => match p with
  | .l0 a_0 p_1 x_5 x_6 => slices_DeleteFunc_79.l0_k.step_l0 go ih a_0 p_1 x_5 x_6 r e
  | .j0 a_0 p_1 x_5 x_6 => slices_DeleteFunc_79.l0_k.step_j0 go ih a_0 p_1 x_5 x_6 r e
  ) e
theorem slices_DeleteFunc_79.l0.walk {W : Nat → Prop} {h0 m0 h m : Heap} {A_0 : Option Addr} {n_0 c_0 : Nat} {fv_1 : Value} {a_0 : List T_api_Letter} {p_1 : T_api_Letter → Option Bool} {x_5 : Int} {x_6 : Int} (O : Hold W h0 m0 h m [rR (aE T_api_Letter.T) A_0 c_0 a_0]) (ne_0 : n_0 = List.length a_0) (f_1 : ∀ h' m', Sub m0 m' → Sub m' h' → ∀ (y0 : T_api_Letter) (cs0 : List Value) (_ : T_api_Letter.E m' y0 cs0) (r : Bool), p_1 y0 = some r → CallF Try.prog fv_1 [.agg cs0.toArray] h' (fun v h'' => v = .bool r ∧ Ext h' h'')) {r : (List T_api_Letter)} (e : slices_DeleteFunc_79.l0 a_0 p_1 x_5 x_6 = some r) : f79.l0 (slices_DeleteFunc_79.post W h0 m0 r) A_0 n_0 c_0 fv_1 x_5 x_6 h := slices_DeleteFunc_79.l0_k.all (p := .l0 a_0 p_1 x_5 x_6) e W h0 m0 h m A_0 n_0 c_0 fv_1 O ne_0 f_1
theorem slices_DeleteFunc_79.j0.walk {W : Nat → Prop} {h0 m0 h m : Heap} {A_0 : Option Addr} {n_0 c_0 : Nat} {fv_1 : Value} {a_0 : List T_api_Letter} {p_1 : T_api_Letter → Option Bool} {x_5 : Int} {x_6 : Int} (O : Hold W h0 m0 h m [rR (aE T_api_Letter.T) A_0 c_0 a_0]) (ne_0 : n_0 = List.length a_0) (f_1 : ∀ h' m', Sub m0 m' → Sub m' h' → ∀ (y0 : T_api_Letter) (cs0 : List Value) (_ : T_api_Letter.E m' y0 cs0) (r : Bool), p_1 y0 = some r → CallF Try.prog fv_1 [.agg cs0.toArray] h' (fun v h'' => v = .bool r ∧ Ext h' h'')) {r : (List T_api_Letter)} (e : slices_DeleteFunc_79.j0 a_0 p_1 x_5 x_6 = some r) : f79.j0 (slices_DeleteFunc_79.post W h0 m0 r) A_0 n_0 c_0 fv_1 x_5 x_6 h := slices_DeleteFunc_79.l0_k.all (p := .j0 a_0 p_1 x_5 x_6) e W h0 m0 h m A_0 n_0 c_0 fv_1 O ne_0 f_1

noncomputable def slices_DeleteFunc_79 (a_0 : List T_api_Letter) (p_1 : T_api_Letter → Option Bool) : Option ((List T_api_Letter)) :=
  Option.bind (slices_IndexFunc_102 a_0 p_1) fun y1 => if y1 = (-1 : Int) then (some (a_0)) else ((slices_DeleteFunc_79.l0 a_0 p_1 y1 (IntKind.wrap .i64 (y1 + (1 : Int)))))
set_option maxRecDepth 100000 in
theorem slices_DeleteFunc_79.walk {W : Nat → Prop} {h m : Heap} {A_0 : Option Addr} {n_0 c_0 : Nat} {fv_1 : Value} {a_0 : List T_api_Letter} {p_1 : T_api_Letter → Option Bool} (O : Hold W h m h m [rR (aE T_api_Letter.T) A_0 c_0 a_0]) (ne_0 : n_0 = List.length a_0) (f_1 : ∀ h' m', Sub m m' → Sub m' h' → ∀ (y0 : T_api_Letter) (cs0 : List Value) (_ : T_api_Letter.E m' y0 cs0) (r : Bool), p_1 y0 = some r → CallF Try.prog fv_1 [.agg cs0.toArray] h' (fun v h'' => v = .bool r ∧ Ext h' h'')) {r : (List T_api_Letter)} (e : slices_DeleteFunc_79 a_0 p_1 = some r) : Run Try.prog 79 #[Value.slice A_0 n_0 c_0, fv_1] h (slices_DeleteFunc_79.post W h m r) := by
  unfold slices_DeleteFunc_79 at e
  subst ne_0
  refine f79.run ?_
  unfold f79.runT
  obtain ⟨y1, g2, e⟩ := bind_e e
  obtain ⟨m7, u8, s13, ⟨⟨r11, k12⟩, _⟩, B9, C10⟩ := O.lend0 [0]
  replace r11 : Rd 9 T_api_Letter.E m7 A_0 a_0 := r11
  replace k12 : List.length a_0 ≤ c_0 := k12
  refine (slices_IndexFunc_102.walk (Hold.start (W := No) s13) rfl k12 r11 (fun h' m' u s => f_1 h' m' (u8.trans u) s) g2).mono ?_
  rintro _ h3 ⟨m4, Q5, rfl⟩
  have O14 := Hold.nm (C10 Q5 vfs_nil)
  refine ⟨_, rfl, ?_⟩
  refine split_eq_e e (fun c21 e => ?_) (fun c21 e => ?_)
  · obtain ⟨m15, u16, ⟨r17, k18⟩, O19⟩ := O14.frz 0 rfl
    replace r17 : Rd 9 T_api_Letter.E m15 A_0 a_0 := r17
    have O20 := O19.nm
    cases e
    exact ⟨_, _, _, _, O20.pick [], rfl, rfl, k18, r17⟩
  · exact slices_DeleteFunc_79.l0.walk (O14.pick [0]).nm rfl f_1 e
theorem slices_DeleteFunc_79.val {l : List T_api_Letter} {p : T_api_Letter → Option Bool} (q : T_api_Letter → Bool) (hp : ∀ x ∈ l, p x = some (q x)) (hl : l.length ≤ 4611686018427387904) : slices_DeleteFunc_79 l p = some (l.filter fun x => !q x) := deleteFunc_val (z := (T_api_Letter.mk (0 : Int) (0 : Int) (0 : Int) (0 : Int) (ByteArray.mk #[]) (T_api_Value.mk (0 : Int) (0 : Int) (ByteArray.mk #[]) ([] : (List T_api_Value))))) (fun a p i j => slices_DeleteFunc_79.l0_eq a p i j) (fun a p i j => slices_DeleteFunc_79.j0_eq a p i j) q hp hl (slices_IndexFunc_102.val q hp hl) (fun _ _ => rfl)

/-! ### 80 roadstead/box.From$1 -/
def box_From_1.post (W : Nat → Prop) (h0 m0 : Heap) (r : Bool) (v : Value) (h : Heap) : Prop := ∃ m , Hold W h0 m0 h m [] ∧ v = .bool r
noncomputable def box_From_1 (y_0 : T_api_Letter) (y_1 : Int) : Option (Bool) :=
  some ((y_0.From != y_1))
set_option maxRecDepth 100000 in
theorem box_From_1.walk {W : Nat → Prop} {h m : Heap} {cs_0 : List Value} {bk_1 : Nat} {y_0 : T_api_Letter} {y_1 : Int} (O : Hold W h m h m []) (e_0 : T_api_Letter.E m y_0 cs_0) (v_1 : VB (eInt .i64) m bk_1 y_1) {r : Bool} (e : box_From_1 y_0 y_1 = some r) : Run Try.prog 80 #[Value.agg cs_0.toArray, Value.pointer (some ⟨bk_1, 0, none⟩)] h (box_From_1.post W h m r) := by
  unfold box_From_1 at e
  obtain ⟨cs_1, t_1, hb_1, nn_1, e_1⟩ := id v_1
  obtain rfl : cs_1 = [(Value.int .i64 y_1)] := e_1
  refine f80.run ?_
  unfold f80.runT
  refine O.new fun h1 x2 O3 => ?_
  refine ⟨_, ldk (k := 1) (Sub.refl _) (O3.all 0 rfl) (T_api_Letter.g1 e_0), _, rfl, ?_⟩
  refine ⟨_, ld0 O3.s (Blk.all' hb_1) rfl, _, rfl, ?_⟩
  have O5 := O3.nm
  cases e
  exact ⟨_, O5.pick [], rfl⟩

/-! ### 12 roadstead/box.From -/
def box_From.post (W : Nat → Prop) (h0 m0 : Heap) (r : (List T_api_Letter) × Int) (v : Value) (h : Heap) : Prop := ∃ m A0 n0 c0, Hold W h0 m0 h m [] ∧ v = .tuple #[.slice A0 n0 c0, .int .i64 r.2] ∧ n0 = List.length r.1 ∧ List.length r.1 ≤ c0 ∧ Rd 9 T_api_Letter.E m A0 r.1
noncomputable def box_From (y_0 : T_box_Box) (x_1 : Int) : Option ((List T_api_Letter) × Int) :=
  Option.bind (box_Check y_0) fun y9 => if y9 = (0 : Int) then (Option.bind (slices_Clone_22 y_0.Letters) fun y21 => Option.bind (slices_DeleteFunc_79 y21 (fun z46 => box_From_1 z46 x_1)) fun y33 => some (y33, (0 : Int))) else (some (([] : List T_api_Letter), y9))
set_option maxRecDepth 100000 in
theorem box_From.walk {W : Nat → Prop} {h m : Heap} {cs_0 : List Value} {y_0 : T_box_Box} {x_1 : Int} (O : Hold W h m h m []) (e_0 : T_box_Box.E m y_0 cs_0) {r : (List T_api_Letter) × Int} (e : box_From y_0 x_1 = some r) : Run Try.prog 12 #[Value.agg cs_0.toArray, Value.int .i64 x_1] h (box_From.post W h m r) := by
  unfold box_From at e
  refine f12.run ?_
  unfold f12.runT
  refine O.new fun h1 x2 O3 => ?_
  refine O3.new fun h5 x6 O7 => ?_
  refine ⟨_, ldAn (Sub.refl _) (O7.all 0 rfl) (T_box_Box.T.len _ _ _ e_0), ?_⟩
  obtain ⟨y9, g10, e⟩ := bind_e e
  refine (box_Check.walk (Hold.start (W := No) O7.s) e_0 g10).mono ?_
  rintro _ h11 ⟨m12, Q13, rfl⟩
  have O15 := Hold.nm (O7.retC Q13 vfs_nil)
  refine ⟨_, rfl, ?_⟩
  refine split_ne_e e (fun c61 e => ?_) (fun c61 e => ?_)
  · cases e
    exact ⟨_, _, _, _, O15.pick [], rfl, rfl, (Nat.le_refl 0), Rd.nil⟩
  · obtain ⟨A16, c17, q18, k19, r20⟩ := T_box_Box.g0 e_0
    refine ⟨_, ld0 (Sub.refl _) (O15.all 0 rfl) q18, _, _, _, rfl, ?_⟩
    obtain ⟨y21, g22, e⟩ := bind_e e
    refine (slices_Clone_22.walk (Hold.start (W := No) O15.s) rfl k19 r20 g22).mono ?_
    rintro _ h23 ⟨m24, A27, n28, c29, Q25, rfl, ne30⟩
    have O32 := Hold.nm (O15.ret Q25)
    subst ne30
    refine ⟨_, _, _, rfl, ?_⟩
    obtain ⟨y33, g34, e⟩ := bind_e e
    obtain ⟨m39, W44, u40, P45, ⟨hb43, _⟩, B41, C42⟩ := O32.lend [2] [1]
    refine (slices_DeleteFunc_79.walk P45 rfl (fun h47 m48 u49 s50 y53 cs53 he53 r51 e52 => CallF.of [Value.agg cs53.toArray, Value.pointer (some ⟨(Array.size h1), 0, none⟩)] f80.ok rfl ((box_From_1.walk (Hold.start (W := No) s50) he53 (VB.sub (show VB (eInt .i64) _ _ _ from ⟨_, _, hb43, nn, rfl⟩) (tell_int .i64) u49) e52).mono (fun _ _ h => let ⟨_, t, e⟩ := h; ⟨e, t.S.ext⟩))) g34).mono ?_
    rintro _ h35 ⟨m36, A54, n55, c56, Q37, rfl, ne57, k58, r59⟩
    have O60 := Hold.nm (B41 Q37)
    subst ne57
    refine ⟨_, _, _, rfl, ?_⟩
    cases e
    exact ⟨_, _, _, _, O60.pick [], rfl, rfl, k58, r59⟩

/-! ### 21 roadstead/roadref3.In -/
def roadref3_In.post (W : Nat → Prop) (h0 m0 : Heap) (r : Bool) (v : Value) (h : Heap) : Prop := ∃ m , Hold W h0 m0 h m [] ∧ v = .bool r
noncomputable def roadref3_In (x_0 : Int) (x_1 : Int) (x_2 : Int) : Option (Bool) :=
  if x_0 ≥ x_1 then (some ((decide (x_0 ≤ x_2)))) else (some (false))
set_option maxRecDepth 100000 in
theorem roadref3_In.walk {W : Nat → Prop} {h m : Heap} {x_0 : Int} {x_1 : Int} {x_2 : Int} (O : Hold W h m h m []) {r : Bool} (e : roadref3_In x_0 x_1 x_2 = some r) : Run Try.prog 21 #[Value.int .i64 x_0, Value.int .i64 x_1, Value.int .i64 x_2] h (roadref3_In.post W h m r) := by
  unfold roadref3_In at e
  refine f21.run ?_
  unfold f21.runT
  refine split_dec_e e (fun c1 e => ?_) (fun c1 e => ?_)
  · cases e
    exact ⟨_, O.pick [], rfl⟩
  · cases e
    exact ⟨_, O.pick [], rfl⟩

/-! ### 13 roadstead/roadref3.BoxFault -/
def roadref3_BoxFault.post (W : Nat → Prop) (h0 m0 : Heap) (r : Int) (v : Value) (h : Heap) : Prop := ∃ m , Hold W h0 m0 h m [] ∧ v = .int .i64 r
inductive roadref3_BoxFault.l0_k.Pt where
  | l0 (a_17 : List T_api_Letter) (x_18 : Int) (x_19 : Int)
noncomputable def roadref3_BoxFault.l0_k.body (go : (p : roadref3_BoxFault.l0_k.Pt) → Option (Int)) : (p : roadref3_BoxFault.l0_k.Pt) → Option (Int)
  | .l0 a_17 x_18 x_19 => if x_19 < x_18 then (Option.bind (gi a_17 x_19) fun y1 => Option.bind (roadref3_In y1.Kind (1 : Int) (2 : Int)) fun y14 => if y14 = true then ((go (.l0 a_17 x_18 (IntKind.wrap .i64 (x_19 + (1 : Int)))))) else (some ((3 : Int)))) else (some ((0 : Int)))
theorem roadref3_BoxFault.l0_k.mono : MonoF (β := fun _ => (Int)) roadref3_BoxFault.l0_k.body := fun f g hfg p => match p with
  | .l0 a_17 x_18 x_19 => LeO.ite (LeO.bind (LeO.refl _) fun y1 => LeO.bind (LeO.refl _) fun y14 => LeO.ite ((hfg _)) (LeO.refl _)) (LeO.refl _)
noncomputable def roadref3_BoxFault.l0_k.go (p : roadref3_BoxFault.l0_k.Pt) : Option (Int) := fixF (β := fun _ => (Int)) roadref3_BoxFault.l0_k.body p
noncomputable def roadref3_BoxFault.l0 (a_17 : List T_api_Letter) (x_18 : Int) (x_19 : Int) : Option (Int) := roadref3_BoxFault.l0_k.go (.l0 a_17 x_18 x_19)
theorem roadref3_BoxFault.l0_eq (a_17 : List T_api_Letter) (x_18 : Int) (x_19 : Int) : roadref3_BoxFault.l0 a_17 x_18 x_19 = if x_19 < x_18 then (Option.bind (gi a_17 x_19) fun y1 => Option.bind (roadref3_In y1.Kind (1 : Int) (2 : Int)) fun y14 => if y14 = true then ((roadref3_BoxFault.l0 a_17 x_18 (IntKind.wrap .i64 (x_19 + (1 : Int))))) else (some ((3 : Int)))) else (some ((0 : Int))) := fixF_eq roadref3_BoxFault.l0_k.mono _
def roadref3_BoxFault.l0_k.I : (p : roadref3_BoxFault.l0_k.Pt) → (Int) → Prop
  | .l0 a_17 x_18 x_19, r => ∀ (W : Nat → Prop) (h0 m0 h m : Heap) (A_17 : Option Addr) (n_17 c_17 : Nat) (O : Hold W h0 m0 h m []) (ne_17 : n_17 = List.length a_17) (k_17 : List.length a_17 ≤ c_17) (r_17 : Rd 9 T_api_Letter.E m A_17 a_17), f13.l0 (roadref3_BoxFault.post W h0 m0 r) A_17 n_17 c_17 x_18 x_19 h
set_option maxRecDepth 100000 in
theorem roadref3_BoxFault.l0_k.step_l0 (go : (p : roadref3_BoxFault.l0_k.Pt) → Option (Int)) (ih : ∀ p r, go p = some r → roadref3_BoxFault.l0_k.I p r) (a_17 : List T_api_Letter) (x_18 : Int) (x_19 : Int) (r : Int) (e : roadref3_BoxFault.l0_k.body go (.l0 a_17 x_18 x_19) = some r) : roadref3_BoxFault.l0_k.I (.l0 a_17 x_18 x_19) r := by
  unfold roadref3_BoxFault.l0_k.body at e
  intro W h0 m0 h m A_17 n_17 c_17 O ne_17 k_17 r_17
  subst ne_17
  refine f13.l0_in ?_
  unfold f13.l0T
  refine split_dec_e e (fun c22 e => ?_) (fun c22 e => ?_)
  · obtain ⟨y1, g2, e⟩ := bind_e e
    refine r_17.addr rfl g2 fun a3 cs4 ha5 hc6 he7 => ?_
    refine ⟨_, ldAn O.s hc6 rfl, ?_⟩
    refine O.new fun h8 x9 O10 => ?_
    refine ⟨_, rfl, (T_api_Letter.T.len _ _ _ he7), ?_⟩
    refine O10.stA 0 rfl (T_api_Letter.T.len _ _ _ he7) (T_api_Letter.T.flat _ _ _ he7) fun h12 O13 => ?_
    refine ⟨_, ld0 (Sub.refl _) (O13.all 0 rfl) (T_api_Letter.g0 he7), _, rfl, ?_⟩
    obtain ⟨y14, g15, e⟩ := bind_e e
    refine (roadref3_In.walk (Hold.start (W := No) O13.s)  g15).mono ?_
    rintro _ h16 ⟨m17, Q18, rfl⟩
    have O20 := Hold.nm (O13.retC Q18 vfs_nil)
    refine ⟨_, rfl, ?_⟩
    refine split_not ?_
    refine split_any_e e (fun c21 e => ?_) (fun c21 e => ?_)
    · exact (ih _ _ e) _ _ _ _ _ _ _ _ (O20.pick []).nm rfl k_17 r_17
    · cases e
      exact ⟨_, O20.pick [], rfl⟩
  · cases e
    exact ⟨_, O.pick [], rfl⟩
theorem roadref3_BoxFault.l0_k.all {p : roadref3_BoxFault.l0_k.Pt} {r : (Int)} (e : roadref3_BoxFault.l0_k.go p = some r) : roadref3_BoxFault.l0_k.I p r := fixF_ind (β := fun _ => (Int)) roadref3_BoxFault.l0_k.mono (I := roadref3_BoxFault.l0_k.I) (fun go ih p r e => match p with
  | .l0 a_17 x_18 x_19 => roadref3_BoxFault.l0_k.step_l0 go ih a_17 x_18 x_19 r e
  ) e
theorem roadref3_BoxFault.l0.walk {W : Nat → Prop} {h0 m0 h m : Heap} {A_17 : Option Addr} {n_17 c_17 : Nat} {a_17 : List T_api_Letter} {x_18 : Int} {x_19 : Int} (O : Hold W h0 m0 h m []) (ne_17 : n_17 = List.length a_17) (k_17 : List.length a_17 ≤ c_17) (r_17 : Rd 9 T_api_Letter.E m A_17 a_17) {r : Int} (e : roadref3_BoxFault.l0 a_17 x_18 x_19 = some r) : f13.l0 (roadref3_BoxFault.post W h0 m0 r) A_17 n_17 c_17 x_18 x_19 h := roadref3_BoxFault.l0_k.all (p := .l0 a_17 x_18 x_19) e W h0 m0 h m A_17 n_17 c_17 O ne_17 k_17 r_17

noncomputable def roadref3_BoxFault (y_0 : T_box_Box) : Option (Int) :=
  if (((List.length y_0.Letters) : Nat) : Int) > (60 : Int) then (some ((2 : Int))) else (Option.bind (roadref3_In y_0.At (0 : Int) (((List.length y_0.Letters) : Nat) : Int)) fun y16 => if y16 = true then ((roadref3_BoxFault.l0 y_0.Letters (((List.length y_0.Letters) : Nat) : Int) (0 : Int))) else (some ((1 : Int))))
set_option maxRecDepth 100000 in
theorem roadref3_BoxFault.walk {W : Nat → Prop} {h m : Heap} {cs_0 : List Value} {y_0 : T_box_Box} (O : Hold W h m h m []) (e_0 : T_box_Box.E m y_0 cs_0) {r : Int} (e : roadref3_BoxFault y_0 = some r) : Run Try.prog 13 #[Value.agg cs_0.toArray] h (roadref3_BoxFault.post W h m r) := by
  unfold roadref3_BoxFault at e
  refine f13.run ?_
  unfold f13.runT
  refine O.new fun h1 x2 O3 => ?_
  obtain ⟨A5, c6, q7, k8, r9⟩ := T_box_Box.g0 e_0
  refine ⟨_, ld0 (Sub.refl _) (O3.all 0 rfl) q7, _, _, _, rfl, ?_⟩
  refine split_dec_e e (fun c29 e => ?_) (fun c29 e => ?_)
  · have O10 := O3.nm
    cases e
    exact ⟨_, O10.pick [], rfl⟩
  · refine ⟨_, ldk (k := 1) (Sub.refl _) (O3.all 0 rfl) (T_box_Box.g1 e_0), _, rfl, ?_⟩
    obtain ⟨A11, c12, q13, k14, r15⟩ := T_box_Box.g0 e_0
    refine ⟨_, ld0 (Sub.refl _) (O3.all 0 rfl) q13, _, _, _, rfl, ?_⟩
    obtain ⟨y16, g17, e⟩ := bind_e e
    refine (roadref3_In.walk (Hold.start (W := No) O3.s)  g17).mono ?_
    rintro _ h18 ⟨m19, Q20, rfl⟩
    have O22 := Hold.nm (O3.retC Q20 vfs_nil)
    refine ⟨_, rfl, ?_⟩
    refine split_not ?_
    refine split_any_e e (fun c28 e => ?_) (fun c28 e => ?_)
    · obtain ⟨A23, c24, q25, k26, r27⟩ := T_box_Box.g0 e_0
      refine ⟨_, ld0 (Sub.refl _) (O22.all 0 rfl) q25, _, _, _, rfl, ?_⟩
      exact roadref3_BoxFault.l0.walk (O22.pick []).nm rfl k26 r27 e
    · cases e
      exact ⟨_, O22.pick [], rfl⟩

/-! ### 15 roadstead/roadref3.SameValue -/
def roadref3_SameValue.post (W : Nat → Prop) (h0 m0 : Heap) (r : Bool) (v : Value) (h : Heap) : Prop := ∃ m , Hold W h0 m0 h m [] ∧ v = .bool r
inductive roadref3_SameValue_k.Pt where
  | f (y_0 : T_api_Value) (y_1 : T_api_Value)
  | j0 (y_2 : T_api_Value) (y_3 : T_api_Value)
  | l0 (y_2 : T_api_Value) (y_3 : T_api_Value) (x_36 : Int) (x_37 : Int)
noncomputable def roadref3_SameValue_k.body (go : (p : roadref3_SameValue_k.Pt) → Option (Bool)) : (p : roadref3_SameValue_k.Pt) → Option (Bool)
  | .f y_0 y_1 => if y_0.Kind = y_1.Kind then (if y_0.Num = y_1.Num then (if y_0.Text = y_1.Text then (if (((List.length y_0.Args) : Nat) : Int) = (((List.length y_1.Args) : Nat) : Int) then ((go (.j0 y_0 y_1))) else (some (false))) else (some (false))) else (some (false))) else (some (false))
  | .j0 y_2 y_3 => (go (.l0 y_2 y_3 (((List.length y_2.Args) : Nat) : Int) (0 : Int)))
  | .l0 y_2 y_3 x_36 x_37 => if x_37 < x_36 then (Option.bind (gi y_2.Args x_37) fun y6 => Option.bind (gi y_3.Args x_37) fun y18 => Option.bind ((go (.f y6 y18))) fun y25 => if y25 = true then ((go (.l0 y_2 y_3 x_36 (IntKind.wrap .i64 (x_37 + (1 : Int)))))) else (some (false))) else (some (true))
theorem roadref3_SameValue_k.mono : MonoF (β := fun _ => (Bool)) roadref3_SameValue_k.body := fun f g hfg p => match p with
  | .f y_0 y_1 => LeO.ite (LeO.ite (LeO.ite (LeO.ite ((hfg _)) (LeO.refl _)) (LeO.refl _)) (LeO.refl _)) (LeO.refl _)
  | .j0 y_2 y_3 => (hfg _)
  | .l0 y_2 y_3 x_36 x_37 => LeO.ite (LeO.bind (LeO.refl _) fun y6 => LeO.bind (LeO.refl _) fun y18 => LeO.bind ((hfg _)) fun y25 => LeO.ite ((hfg _)) (LeO.refl _)) (LeO.refl _)
noncomputable def roadref3_SameValue_k.go (p : roadref3_SameValue_k.Pt) : Option (Bool) := fixF (β := fun _ => (Bool)) roadref3_SameValue_k.body p
noncomputable def roadref3_SameValue (y_0 : T_api_Value) (y_1 : T_api_Value) : Option (Bool) := roadref3_SameValue_k.go (.f y_0 y_1)
noncomputable def roadref3_SameValue.j0 (y_2 : T_api_Value) (y_3 : T_api_Value) : Option (Bool) := roadref3_SameValue_k.go (.j0 y_2 y_3)
noncomputable def roadref3_SameValue.l0 (y_2 : T_api_Value) (y_3 : T_api_Value) (x_36 : Int) (x_37 : Int) : Option (Bool) := roadref3_SameValue_k.go (.l0 y_2 y_3 x_36 x_37)
theorem roadref3_SameValue_eq (y_0 : T_api_Value) (y_1 : T_api_Value) : roadref3_SameValue y_0 y_1 = if y_0.Kind = y_1.Kind then (if y_0.Num = y_1.Num then (if y_0.Text = y_1.Text then (if (((List.length y_0.Args) : Nat) : Int) = (((List.length y_1.Args) : Nat) : Int) then ((roadref3_SameValue.j0 y_0 y_1)) else (some (false))) else (some (false))) else (some (false))) else (some (false)) := fixF_eq roadref3_SameValue_k.mono _
theorem roadref3_SameValue.j0_eq (y_2 : T_api_Value) (y_3 : T_api_Value) : roadref3_SameValue.j0 y_2 y_3 = (roadref3_SameValue.l0 y_2 y_3 (((List.length y_2.Args) : Nat) : Int) (0 : Int)) := fixF_eq roadref3_SameValue_k.mono _
theorem roadref3_SameValue.l0_eq (y_2 : T_api_Value) (y_3 : T_api_Value) (x_36 : Int) (x_37 : Int) : roadref3_SameValue.l0 y_2 y_3 x_36 x_37 = if x_37 < x_36 then (Option.bind (gi y_2.Args x_37) fun y6 => Option.bind (gi y_3.Args x_37) fun y18 => Option.bind ((roadref3_SameValue y6 y18)) fun y25 => if y25 = true then ((roadref3_SameValue.l0 y_2 y_3 x_36 (IntKind.wrap .i64 (x_37 + (1 : Int))))) else (some (false))) else (some (true)) := fixF_eq roadref3_SameValue_k.mono _
def roadref3_SameValue_k.I : (p : roadref3_SameValue_k.Pt) → (Bool) → Prop
  | .f y_0 y_1, r => ∀ (W : Nat → Prop) (h m : Heap) (cs_0 : List Value) (cs_1 : List Value) (O : Hold W h m h m []) (e_0 : T_api_Value.E m y_0 cs_0) (e_1 : T_api_Value.E m y_1 cs_1), Run Try.prog 15 #[Value.agg cs_0.toArray, Value.agg cs_1.toArray] h (roadref3_SameValue.post W h m r)
  | .j0 y_2 y_3, r => ∀ (W : Nat → Prop) (h0 m0 h m : Heap) (bk_2 : Nat) (cs_2 : List Value) (bk_3 : Nat) (cs_3 : List Value) (O : Hold W h0 m0 h m [rV bk_2 27 cs_2, rV bk_3 27 cs_3]) (e_2 : T_api_Value.E m y_2 cs_2) (e_3 : T_api_Value.E m y_3 cs_3), f15.j0 (roadref3_SameValue.post W h0 m0 r) (⟨bk_2, 0, none⟩ : Addr) (⟨bk_3, 0, none⟩ : Addr) h
  | .l0 y_2 y_3 x_36 x_37, r => ∀ (W : Nat → Prop) (h0 m0 h m : Heap) (bk_2 : Nat) (cs_2 : List Value) (bk_3 : Nat) (cs_3 : List Value) (O : Hold W h0 m0 h m [rV bk_2 27 cs_2, rV bk_3 27 cs_3]) (e_2 : T_api_Value.E m y_2 cs_2) (e_3 : T_api_Value.E m y_3 cs_3), f15.l0 (roadref3_SameValue.post W h0 m0 r) (⟨bk_2, 0, none⟩ : Addr) (⟨bk_3, 0, none⟩ : Addr) x_36 x_37 h
set_option maxHeartbeats 4000000 in
set_option maxRecDepth 100000 in
theorem roadref3_SameValue_k.step_f (go : (p : roadref3_SameValue_k.Pt) → Option (Bool)) (ih : ∀ p r, go p = some r → roadref3_SameValue_k.I p r) (y_0 : T_api_Value) (y_1 : T_api_Value) (r : Bool) (e : roadref3_SameValue_k.body go (.f y_0 y_1) = some r) : roadref3_SameValue_k.I (.f y_0 y_1) r := by
  unfold roadref3_SameValue_k.body at e
  intro W h m cs_0 cs_1 O e_0 e_1
  refine f15.run ?_
  unfold f15.runT
  refine O.new fun h1 x2 O3 => ?_
  refine O3.new fun h5 x6 O7 => ?_
  refine ⟨_, ld0 (Sub.refl _) (O7.all 0 rfl) (T_api_Value.g0 e_0), _, rfl, ?_⟩
  refine ⟨_, ld0 (Sub.refl _) (O7.all 1 rfl) (T_api_Value.g0 e_1), _, rfl, ?_⟩
  refine split_ne_e e (fun c27 e => ?_) (fun c27 e => ?_)
  · have O9 := O7.nm
    cases e
    exact ⟨_, O9.pick [], rfl⟩
  · refine ⟨_, ldk (k := 1) (Sub.refl _) (O7.all 0 rfl) (T_api_Value.g1 e_0), _, rfl, ?_⟩
    refine ⟨_, ldk (k := 1) (Sub.refl _) (O7.all 1 rfl) (T_api_Value.g1 e_1), _, rfl, ?_⟩
    refine split_ne_e e (fun c26 e => ?_) (fun c26 e => ?_)
    · have O10 := O7.nm
      cases e
      exact ⟨_, O10.pick [], rfl⟩
    · refine ⟨_, ldk (k := 2) (Sub.refl _) (O7.all 0 rfl) (T_api_Value.g2 e_0), _, rfl, ?_⟩
      refine ⟨_, ldk (k := 2) (Sub.refl _) (O7.all 1 rfl) (T_api_Value.g2 e_1), _, rfl, ?_⟩
      try rw [ba_list y_0.Text y_1.Text]
      refine split_not ?_
      refine split_dec_e e (fun c25 e => ?_) (fun c25 e => ?_)
      · obtain ⟨A11, c12, q13, k14, r15⟩ := T_api_Value.g3 e_0
        refine ⟨_, ldk (k := 3) (Sub.refl _) (O7.all 0 rfl) q13, _, _, _, rfl, ?_⟩
        obtain ⟨A16, c17, q18, k19, r20⟩ := T_api_Value.g3 e_1
        refine ⟨_, ldk (k := 3) (Sub.refl _) (O7.all 1 rfl) q18, _, _, _, rfl, ?_⟩
        refine split_ne_e e (fun c23 e => ?_) (fun c23 e => ?_)
        · have O21 := O7.nm
          cases e
          exact ⟨_, O21.pick [], rfl⟩
        · have O22 := O7.nm
          exact (ih _ _ e) _ _ _ _ _ _ _ _ _ (O22.pick [0, 1]).nm e_0 e_1
      · have O24 := O7.nm
        cases e
        exact ⟨_, O24.pick [], rfl⟩
set_option maxRecDepth 100000 in
theorem roadref3_SameValue_k.step_j0 (go : (p : roadref3_SameValue_k.Pt) → Option (Bool)) (ih : ∀ p r, go p = some r → roadref3_SameValue_k.I p r) (y_2 : T_api_Value) (y_3 : T_api_Value) (r : Bool) (e : roadref3_SameValue_k.body go (.j0 y_2 y_3) = some r) : roadref3_SameValue_k.I (.j0 y_2 y_3) r := by
  unfold roadref3_SameValue_k.body at e
  intro W h0 m0 h m bk_2 cs_2 bk_3 cs_3 O e_2 e_3
  refine f15.j0_in ?_
  unfold f15.j0T
  obtain ⟨A1, c2, q3, k4, r5⟩ := T_api_Value.g3 e_2
  refine ⟨_, ldk (k := 3) (Sub.refl _) (O.all 0 rfl) q3, _, _, _, rfl, ?_⟩
  exact (ih _ _ e) _ _ _ _ _ _ _ _ _ (O.pick [0, 1]).nm e_2 e_3
set_option maxRecDepth 100000 in
theorem roadref3_SameValue_k.step_l0 (go : (p : roadref3_SameValue_k.Pt) → Option (Bool)) (ih : ∀ p r, go p = some r → roadref3_SameValue_k.I p r) (y_2 : T_api_Value) (y_3 : T_api_Value) (x_36 : Int) (x_37 : Int) (r : Bool) (e : roadref3_SameValue_k.body go (.l0 y_2 y_3 x_36 x_37) = some r) : roadref3_SameValue_k.I (.l0 y_2 y_3 x_36 x_37) r := by
  unfold roadref3_SameValue_k.body at e
  intro W h0 m0 h m bk_2 cs_2 bk_3 cs_3 O e_2 e_3
  refine f15.l0_in ?_
  unfold f15.l0T
  refine split_dec_e e (fun c33 e => ?_) (fun c33 e => ?_)
  · obtain ⟨A1, c2, q3, k4, r5⟩ := T_api_Value.g3 e_2
    refine ⟨_, ldk (k := 3) (Sub.refl _) (O.all 0 rfl) q3, _, _, _, rfl, ?_⟩
    obtain ⟨y6, g7, e⟩ := bind_e e
    refine r5.addr rfl g7 fun a8 cs9 ha10 hc11 he12 => ?_
    refine ⟨_, ldAn O.s hc11 rfl, ?_⟩
    obtain ⟨A13, c14, q15, k16, r17⟩ := T_api_Value.g3 e_3
    refine ⟨_, ldk (k := 3) (Sub.refl _) (O.all 1 rfl) q15, _, _, _, rfl, ?_⟩
    obtain ⟨y18, g19, e⟩ := bind_e e
    refine r17.addr rfl g19 fun a20 cs21 ha22 hc23 he24 => ?_
    refine ⟨_, ldAn O.s hc23 rfl, ?_⟩
    obtain ⟨y25, g26, e⟩ := bind_e e
    refine ((ih _ _ g26) _ _ _ _ _ (Hold.start (W := No) O.s) he12 he24).mono ?_
    rintro _ h27 ⟨m28, Q29, rfl⟩
    have O31 := Hold.nm (O.retC Q29 vfs_nil)
    refine ⟨_, rfl, ?_⟩
    refine split_not ?_
    refine split_any_e e (fun c32 e => ?_) (fun c32 e => ?_)
    · exact (ih _ _ e) _ _ _ _ _ _ _ _ _ (O31.pick [0, 1]).nm e_2 e_3
    · cases e
      exact ⟨_, O31.pick [], rfl⟩
  · cases e
    exact ⟨_, O.pick [], rfl⟩
theorem roadref3_SameValue_k.all {p : roadref3_SameValue_k.Pt} {r : (Bool)} (e : roadref3_SameValue_k.go p = some r) : roadref3_SameValue_k.I p r := fixF_ind (β := fun _ => (Bool)) roadref3_SameValue_k.mono (I := roadref3_SameValue_k.I) (fun go ih p r e => match p with
  | .f y_0 y_1 => roadref3_SameValue_k.step_f go ih y_0 y_1 r e
  | .j0 y_2 y_3 => roadref3_SameValue_k.step_j0 go ih y_2 y_3 r e
  | .l0 y_2 y_3 x_36 x_37 => roadref3_SameValue_k.step_l0 go ih y_2 y_3 x_36 x_37 r e
  ) e
theorem roadref3_SameValue.walk {W : Nat → Prop} {h m : Heap} {cs_0 : List Value} {cs_1 : List Value} {y_0 : T_api_Value} {y_1 : T_api_Value} (O : Hold W h m h m []) (e_0 : T_api_Value.E m y_0 cs_0) (e_1 : T_api_Value.E m y_1 cs_1) {r : Bool} (e : roadref3_SameValue y_0 y_1 = some r) : Run Try.prog 15 #[Value.agg cs_0.toArray, Value.agg cs_1.toArray] h (roadref3_SameValue.post W h m r) := roadref3_SameValue_k.all (p := .f y_0 y_1) e W h m cs_0 cs_1 O e_0 e_1
theorem roadref3_SameValue.j0.walk {W : Nat → Prop} {h0 m0 h m : Heap} {bk_2 : Nat} {cs_2 : List Value} {bk_3 : Nat} {cs_3 : List Value} {y_2 : T_api_Value} {y_3 : T_api_Value} (O : Hold W h0 m0 h m [rV bk_2 27 cs_2, rV bk_3 27 cs_3]) (e_2 : T_api_Value.E m y_2 cs_2) (e_3 : T_api_Value.E m y_3 cs_3) {r : Bool} (e : roadref3_SameValue.j0 y_2 y_3 = some r) : f15.j0 (roadref3_SameValue.post W h0 m0 r) (⟨bk_2, 0, none⟩ : Addr) (⟨bk_3, 0, none⟩ : Addr) h := roadref3_SameValue_k.all (p := .j0 y_2 y_3) e W h0 m0 h m bk_2 cs_2 bk_3 cs_3 O e_2 e_3
theorem roadref3_SameValue.l0.walk {W : Nat → Prop} {h0 m0 h m : Heap} {bk_2 : Nat} {cs_2 : List Value} {bk_3 : Nat} {cs_3 : List Value} {y_2 : T_api_Value} {y_3 : T_api_Value} {x_36 : Int} {x_37 : Int} (O : Hold W h0 m0 h m [rV bk_2 27 cs_2, rV bk_3 27 cs_3]) (e_2 : T_api_Value.E m y_2 cs_2) (e_3 : T_api_Value.E m y_3 cs_3) {r : Bool} (e : roadref3_SameValue.l0 y_2 y_3 x_36 x_37 = some r) : f15.l0 (roadref3_SameValue.post W h0 m0 r) (⟨bk_2, 0, none⟩ : Addr) (⟨bk_3, 0, none⟩ : Addr) x_36 x_37 h := roadref3_SameValue_k.all (p := .l0 y_2 y_3 x_36 x_37) e W h0 m0 h m bk_2 cs_2 bk_3 cs_3 O e_2 e_3

/-! ### 81 slices.Clone[[]roadstead/api.Value,roadstead/api.Value] -/
def slices_Clone_81.post (W : Nat → Prop) (h0 m0 : Heap) (r : (List T_api_Value)) (v : Value) (h : Heap) : Prop := ∃ m A0 n0 c0, Hold W h0 m0 h m [rR (aE T_api_Value.T) A0 c0 r] ∧ v = .slice A0 n0 c0 ∧ n0 = List.length r
noncomputable def slices_Clone_81 (a0 : List T_api_Value) : Option (List T_api_Value) := ap 56 ([] : List T_api_Value) a0
set_option maxRecDepth 100000 in
theorem slices_Clone_81.walk {W : Nat → Prop} {h m : Heap} {A0 : Option Addr} {n0 c0 : Nat} {a0 : List T_api_Value} (O : Hold W h m h m []) (ne0 : n0 = List.length a0) (k0 : List.length a0 ≤ c0) (r0 : Rd 4 T_api_Value.E m A0 a0) {r : List T_api_Value} (e : slices_Clone_81 a0 = some r) : Run Try.prog 81 #[Value.slice A0 n0 c0] h (slices_Clone_81.post W h m r) := by
  unfold slices_Clone_81 at e
  subst ne0
  refine f81.run ?_
  unfold f81.runT
  cases A0 with
  | none =>
    refine split_t ?_
    obtain rfl := Rd.void r0
    obtain rfl : [] = r := by have := (ap_e e).2; simpa using this
    exact ⟨m, none, 0, 0, O.nil (aE T_api_Value.T) none, rfl, rfl⟩
  | some a =>
    refine split_f ?_
    refine O.new fun h1 x1 O1 => ?_
    refine O1.appE0 T_api_Value.T rfl rfl (r0.srcE T_api_Value.T O1.s rfl) (by decide) e fun A4 c4 h4 x4 O4 => ?_
    refine ⟨_, _, _, rfl, ?_⟩
    exact ⟨m, _, _, _, O4.pick [1], rfl, rfl⟩
theorem slices_Clone_81.val (l : List T_api_Value) (h : l.length * 56 ≤ 140737488355328) : slices_Clone_81 l = some l := ap_nil h

/-! ### 18 roadstead/box.Own -/
def box_Own.post (W : Nat → Prop) (h0 m0 : Heap) (r : T_api_Value) (v : Value) (h : Heap) : Prop := ∃ m cs0, Hold W h0 m0 h m [] ∧ v = .agg cs0.toArray ∧ T_api_Value.E m r cs0
inductive box_Own_k.Pt where
  | f (y_0 : T_api_Value)
  | l0 (x_1_0 : Int) (x_1_1 : Int) (s_1_2 : ByteArray) (a_1_3 : (List T_api_Value)) (y_2 : T_api_Value) (x_11 : Int) (x_12 : Int)
noncomputable def box_Own_k.body (go : (p : box_Own_k.Pt) → Option (T_api_Value)) : (p : box_Own_k.Pt) → Option (T_api_Value)
  | .f y_0 => Option.bind (slices_Clone_81 y_0.Args) fun y14 => (go (.l0 y_0.Kind y_0.Num y_0.Text y14 (T_api_Value.mk (0 : Int) (0 : Int) (ByteArray.mk #[]) ([] : List T_api_Value)) (((List.length y14) : Nat) : Int) (0 : Int)))
  | .l0 x_1_0 x_1_1 s_1_2 a_1_3 y_2 x_11 x_12 => if x_12 < x_11 then (Option.bind (gi a_1_3 x_12) fun y1 => Option.bind ((go (.f y1))) fun y14 => Option.bind (gi a_1_3 x_12) fun y24 => Option.bind (some (List.set a_1_3 (Int.toNat x_12) y14)) fun l33 => (go (.l0 x_1_0 x_1_1 s_1_2 l33 y_2 x_11 (IntKind.wrap .i64 (x_12 + (1 : Int)))))) else (some ((T_api_Value.mk x_1_0 x_1_1 s_1_2 a_1_3)))
theorem box_Own_k.mono : MonoF (β := fun _ => (T_api_Value)) box_Own_k.body := fun f g hfg p => match p with
  | .f y_0 => LeO.bind (LeO.refl _) fun y14 => (hfg _)
  | .l0 x_1_0 x_1_1 s_1_2 a_1_3 y_2 x_11 x_12 => LeO.ite (LeO.bind (LeO.refl _) fun y1 => LeO.bind ((hfg _)) fun y14 => LeO.bind (LeO.refl _) fun y24 => LeO.bind (LeO.refl _) fun l33 => (hfg _)) (LeO.refl _)
noncomputable def box_Own_k.go (p : box_Own_k.Pt) : Option (T_api_Value) := fixF (β := fun _ => (T_api_Value)) box_Own_k.body p
noncomputable def box_Own (y_0 : T_api_Value) : Option (T_api_Value) := box_Own_k.go (.f y_0)
noncomputable def box_Own.l0 (x_1_0 : Int) (x_1_1 : Int) (s_1_2 : ByteArray) (a_1_3 : (List T_api_Value)) (y_2 : T_api_Value) (x_11 : Int) (x_12 : Int) : Option (T_api_Value) := box_Own_k.go (.l0 x_1_0 x_1_1 s_1_2 a_1_3 y_2 x_11 x_12)
theorem box_Own_eq (y_0 : T_api_Value) : box_Own y_0 = Option.bind (slices_Clone_81 y_0.Args) fun y14 => (box_Own.l0 y_0.Kind y_0.Num y_0.Text y14 (T_api_Value.mk (0 : Int) (0 : Int) (ByteArray.mk #[]) ([] : List T_api_Value)) (((List.length y14) : Nat) : Int) (0 : Int)) := fixF_eq box_Own_k.mono _
theorem box_Own.l0_eq (x_1_0 : Int) (x_1_1 : Int) (s_1_2 : ByteArray) (a_1_3 : (List T_api_Value)) (y_2 : T_api_Value) (x_11 : Int) (x_12 : Int) : box_Own.l0 x_1_0 x_1_1 s_1_2 a_1_3 y_2 x_11 x_12 = if x_12 < x_11 then (Option.bind (gi a_1_3 x_12) fun y1 => Option.bind ((box_Own y1)) fun y14 => Option.bind (gi a_1_3 x_12) fun y24 => Option.bind (some (List.set a_1_3 (Int.toNat x_12) y14)) fun l33 => (box_Own.l0 x_1_0 x_1_1 s_1_2 l33 y_2 x_11 (IntKind.wrap .i64 (x_12 + (1 : Int))))) else (some ((T_api_Value.mk x_1_0 x_1_1 s_1_2 a_1_3))) := fixF_eq box_Own_k.mono _
def box_Own_k.I : (p : box_Own_k.Pt) → (T_api_Value) → Prop
  | .f y_0, r => ∀ (W : Nat → Prop) (h m : Heap) (cs_0 : List Value) (O : Hold W h m h m []) (e_0 : T_api_Value.E m y_0 cs_0), Run Try.prog 18 #[Value.agg cs_0.toArray] h (box_Own.post W h m r)
  | .l0 x_1_0 x_1_1 s_1_2 a_1_3 y_2 x_11 x_12, r => ∀ (W : Nat → Prop) (h0 m0 h m : Heap) (bk_1 : Nat) (A_1_3_0 : Option Addr) (n_1_3_0 : Nat) (c_1_3_0 : Nat) (bk_2 : Nat) (cs_2 : List Value) (O : Hold W h0 m0 h m [rV bk_1 27 [(Value.int .i64 x_1_0), (Value.int .i64 x_1_1), (Value.string s_1_2), (Value.slice A_1_3_0 n_1_3_0 c_1_3_0)], rR (aE T_api_Value.T) A_1_3_0 c_1_3_0 a_1_3, rV bk_2 27 cs_2]) (ne_1_3_0 : n_1_3_0 = List.length a_1_3) (e_2 : T_api_Value.E m y_2 cs_2), f18.l0 (box_Own.post W h0 m0 r) (⟨bk_1, 0, none⟩ : Addr) (⟨bk_2, 0, none⟩ : Addr) A_1_3_0 n_1_3_0 c_1_3_0 x_11 x_12 h
set_option maxRecDepth 100000 in
theorem box_Own_k.step_f (go : (p : box_Own_k.Pt) → Option (T_api_Value)) (ih : ∀ p r, go p = some r → box_Own_k.I p r) (y_0 : T_api_Value) (r : T_api_Value) (e : box_Own_k.body go (.f y_0) = some r) : box_Own_k.I (.f y_0) r := by
  unfold box_Own_k.body at e
  intro W h m cs_0 O e_0
  refine f18.run ?_
  unfold f18.runT
  refine O.new fun h1 x2 O3 => ?_
  refine O3.new fun h5 x6 O7 => ?_
  obtain ⟨A9, c10, q11, k12, r13⟩ := T_api_Value.g3 e_0
  refine ⟨_, ldk (k := 3) (Sub.refl _) (O7.all 0 rfl) q11, _, _, _, rfl, ?_⟩
  obtain ⟨y14, g15, e⟩ := bind_e e
  refine (slices_Clone_81.walk (Hold.start (W := No) O7.s) rfl k12 r13 g15).mono ?_
  rintro _ h16 ⟨m17, A20, n21, c22, Q18, rfl, ne23⟩
  have O25 := Hold.nm (O7.ret Q18)
  subst ne23
  refine ⟨_, _, _, rfl, ?_⟩
  obtain ⟨Ae28_3, ce28_3, rfl, ke28_3, re28_3⟩ := T_api_Value.iff.1 e_0
  refine O25.st 0 rfl 3 (Nat.le_of_ble_eq_true rfl) trivial fun h29 O30 => ?_
  refine ⟨_, ldk (k := 3) (Sub.refl _) (O30.all 0 rfl) rfl, _, _, _, rfl, ?_⟩
  have O31 := O30.nm
  exact (ih _ _ e) _ _ _ _ _ _ _ _ _ _ _ (O31.pick [0, 2, 1]).nm rfl (T_api_Value.iff.2 ⟨_, _, rfl, (Nat.le_refl 0), Rd.nil⟩)
set_option maxHeartbeats 4000000 in
set_option maxRecDepth 100000 in
theorem box_Own_k.step_l0 (go : (p : box_Own_k.Pt) → Option (T_api_Value)) (ih : ∀ p r, go p = some r → box_Own_k.I p r) (x_1_0 : Int) (x_1_1 : Int) (s_1_2 : ByteArray) (a_1_3 : (List T_api_Value)) (y_2 : T_api_Value) (x_11 : Int) (x_12 : Int) (r : T_api_Value) (e : box_Own_k.body go (.l0 x_1_0 x_1_1 s_1_2 a_1_3 y_2 x_11 x_12) = some r) : box_Own_k.I (.l0 x_1_0 x_1_1 s_1_2 a_1_3 y_2 x_11 x_12) r := by
  unfold box_Own_k.body at e
  intro W h0 m0 h m bk_1 A_1_3_0 n_1_3_0 c_1_3_0 bk_2 cs_2 O ne_1_3_0 e_2
  subst ne_1_3_0
  refine f18.l0_in ?_
  unfold f18.l0T
  refine split_dec_e e (fun c44 e => ?_) (fun c44 e => ?_)
  · obtain ⟨y1, g2, e⟩ := bind_e e
    refine (O.os 1 rfl).addr rfl g2 fun a3 cs4 ha5 hc6 he7 => ?_
    refine ⟨_, ldAn (Sub.refl _) hc6 rfl, ?_⟩
    refine O.new fun h8 x9 O10 => ?_
    refine ⟨_, rfl, (T_api_Value.T.len _ _ _ he7), ?_⟩
    refine O10.stA 3 rfl (T_api_Value.T.len _ _ _ he7) (T_api_Value.T.flat _ _ _ he7) fun h12 O13 => ?_
    refine ⟨_, ldk (k := 3) (Sub.refl _) (O13.all 0 rfl) rfl, _, _, _, rfl, ?_⟩
    refine ⟨_, ldAn (Sub.refl _) (O13.all 3 rfl) (T_api_Value.T.len _ _ _ he7), ?_⟩
    obtain ⟨y14, g15, e⟩ := bind_e e
    refine ((ih _ _ g15) _ _ _ _ (Hold.start (W := No) O13.s) he7).mono ?_
    rintro _ h16 ⟨m17, cs21, Q18, rfl, he22⟩
    have O23 := Hold.nm (O13.ret Q18)
    refine ⟨Q18.S.ext, ?_⟩
    obtain ⟨y24, g25, e⟩ := bind_e e
    refine (O23.os 1 rfl).addr rfl g25 fun a26 cs27 ha28 hc29 he30 => ?_
    obtain ⟨l33, g34, e⟩ := bind_e e
    replace g34 := Option.some.inj g34
    refine ⟨_, rfl, (T_api_Value.T.len _ _ _ he22), ?_⟩
    refine O23.elstA 1 rfl g25 ha28 hc29 (y' := y14) he22 (T_api_Value.T.flat _ _ _ he22) g34 fun h31 O32 => ?_
    have O35 := O32.nm
    exact (ih _ _ e) _ _ _ _ _ _ _ _ _ _ _ (O35.pick [0, 1, 2]).nm (lset' g34) (T_api_Value.T.mono _ _ _ _ Q18.S.up e_2)
  · refine ⟨_, ldAn (Sub.refl _) (O.all 0 rfl) rfl, ?_⟩
    refine ⟨_, rfl, rfl, ?_⟩
    refine O.stA 2 rfl ((T_api_Value.T.len _ _ _ e_2)).symm (Flats.cons trivial (Flats.cons trivial (Flats.cons trivial (Flats.cons trivial Flats.nil)))) fun h36 O37 => ?_
    refine ⟨_, ldAn (Sub.refl _) (O37.all 2 rfl) rfl, ?_⟩
    obtain ⟨m38, u39, ⟨r40, k41⟩, O42⟩ := O37.frz 1 rfl
    replace r40 : Rd 4 T_api_Value.E m38 A_1_3_0 a_1_3 := r40
    have O43 := O42.nm
    cases e
    exact ⟨_, _, O43.pick [], rfl, (T_api_Value.iff.2 ⟨_, _, rfl, k41, r40⟩)⟩
theorem box_Own_k.all {p : box_Own_k.Pt} {r : (T_api_Value)} (e : box_Own_k.go p = some r) : box_Own_k.I p r := fixF_ind (β := fun _ => (T_api_Value)) box_Own_k.mono (I := box_Own_k.I) (fun go ih p r e => match p with
  | .f y_0 => box_Own_k.step_f go ih y_0 r e
  | .l0 x_1_0 x_1_1 s_1_2 a_1_3 y_2 x_11 x_12 => box_Own_k.step_l0 go ih x_1_0 x_1_1 s_1_2 a_1_3 y_2 x_11 x_12 r e
  ) e
theorem box_Own.walk {W : Nat → Prop} {h m : Heap} {cs_0 : List Value} {y_0 : T_api_Value} (O : Hold W h m h m []) (e_0 : T_api_Value.E m y_0 cs_0) {r : T_api_Value} (e : box_Own y_0 = some r) : Run Try.prog 18 #[Value.agg cs_0.toArray] h (box_Own.post W h m r) := box_Own_k.all (p := .f y_0) e W h m cs_0 O e_0
theorem box_Own.l0.walk {W : Nat → Prop} {h0 m0 h m : Heap} {bk_1 : Nat} {A_1_3_0 : Option Addr} {n_1_3_0 : Nat} {c_1_3_0 : Nat} {bk_2 : Nat} {cs_2 : List Value} {x_1_0 : Int} {x_1_1 : Int} {s_1_2 : ByteArray} {a_1_3 : (List T_api_Value)} {y_2 : T_api_Value} {x_11 : Int} {x_12 : Int} (O : Hold W h0 m0 h m [rV bk_1 27 [(Value.int .i64 x_1_0), (Value.int .i64 x_1_1), (Value.string s_1_2), (Value.slice A_1_3_0 n_1_3_0 c_1_3_0)], rR (aE T_api_Value.T) A_1_3_0 c_1_3_0 a_1_3, rV bk_2 27 cs_2]) (ne_1_3_0 : n_1_3_0 = List.length a_1_3) (e_2 : T_api_Value.E m y_2 cs_2) {r : T_api_Value} (e : box_Own.l0 x_1_0 x_1_1 s_1_2 a_1_3 y_2 x_11 x_12 = some r) : f18.l0 (box_Own.post W h0 m0 r) (⟨bk_1, 0, none⟩ : Addr) (⟨bk_2, 0, none⟩ : Addr) A_1_3_0 n_1_3_0 c_1_3_0 x_11 x_12 h := box_Own_k.all (p := .l0 x_1_0 x_1_1 s_1_2 a_1_3 y_2 x_11 x_12) e W h0 m0 h m bk_1 A_1_3_0 n_1_3_0 c_1_3_0 bk_2 cs_2 O ne_1_3_0 e_2

/-! ### 16 roadstead/box.Says -/
def box_Says.post (W : Nat → Prop) (h0 m0 : Heap) (r : T_api_Value) (v : Value) (h : Heap) : Prop := ∃ m cs0, Hold W h0 m0 h m [] ∧ v = .agg cs0.toArray ∧ T_api_Value.E m r cs0
noncomputable def box_Says (y_0 : T_api_Letter) : Option (T_api_Value) :=
  if y_0.Kind = (2 : Int) then (some ((T_api_Value.mk (5 : Int) (0 : Int) (ByteArray.mk #[68, 111, 119, 110]) ([(T_api_Value.mk (6 : Int) y_0.From (ByteArray.mk #[]) ([] : List T_api_Value)), (T_api_Value.mk (2 : Int) y_0.Num (ByteArray.mk #[]) ([] : List T_api_Value))] : List T_api_Value)))) else (Option.bind (box_Own y_0.Value_) fun y9 => some (y9))
set_option maxRecDepth 100000 in
theorem box_Says.walk {W : Nat → Prop} {h m : Heap} {cs_0 : List Value} {y_0 : T_api_Letter} (O : Hold W h m h m []) (e_0 : T_api_Letter.E m y_0 cs_0) {r : T_api_Value} (e : box_Says y_0 = some r) : Run Try.prog 16 #[Value.agg cs_0.toArray] h (box_Says.post W h m r) := by
  unfold box_Says at e
  refine f16.run ?_
  unfold f16.runT
  refine O.new fun h1 x2 O3 => ?_
  refine O3.new fun h5 x6 O7 => ?_
  refine ⟨_, ld0 (Sub.refl _) (O7.all 0 rfl) (T_api_Letter.g0 e_0), _, rfl, ?_⟩
  refine split_ne_e e (fun c35 e => ?_) (fun c35 e => ?_)
  · refine ⟨_, ldAkn (Sub.refl _) (O7.all 0 rfl) 5 4 (le_len (T_api_Letter.T.len _ _ _ e_0) (by decide)), ?_⟩
    obtain ⟨y9, g10, e⟩ := bind_e e
    refine (box_Own.walk (Hold.start (W := No) O7.s) (T_api_Letter.u5_27 e_0) g10).mono ?_
    rintro _ h11 ⟨m12, cs16, Q13, rfl, he17⟩
    have O18 := Hold.nm (O7.ret Q13)
    refine ⟨_, rfl, (T_api_Value.T.len _ _ _ he17), ?_⟩
    refine O18.stA 1 rfl (T_api_Value.T.len _ _ _ he17) (T_api_Value.T.flat _ _ _ he17) fun h19 O20 => ?_
    refine ⟨_, ldAn (Sub.refl _) (O20.all 1 rfl) (T_api_Value.T.len _ _ _ he17), ?_⟩
    have O21 := O20.nm
    cases e
    exact ⟨_, _, O21.pick [], rfl, he17⟩
  · refine ⟨_, ldk (k := 1) (Sub.refl _) (O7.all 0 rfl) (T_api_Letter.g1 e_0), _, rfl, ?_⟩
    refine ⟨_, ldk (k := 3) (Sub.refl _) (O7.all 0 rfl) (T_api_Letter.g3 e_0), _, rfl, ?_⟩
    refine ⟨[(Value.int .i64 (6 : Int)), (Value.int .i64 y_0.From), (Value.string (ByteArray.mk #[])), (Value.slice none 0 0)], rfl, rfl, ?_⟩
    refine ⟨[(Value.int .i64 (2 : Int)), (Value.int .i64 y_0.Num), (Value.string (ByteArray.mk #[])), (Value.slice none 0 0)], rfl, rfl, ?_⟩
    refine O7.new fun h22 x23 O24 => ?_
    refine ⟨_, rfl, rfl, ?_⟩
    refine O24.stA 1 rfl rfl (Flats.cons trivial (Flats.cons trivial (Flats.cons trivial (Flats.cons trivial Flats.nil)))) fun h26 O27 => ?_
    refine ⟨_, ldAn (Sub.refl _) (O27.all 1 rfl) rfl, ?_⟩
    have O28 := O27.rowE (l := ([(T_api_Value.mk (6 : Int) y_0.From (ByteArray.mk #[]) ([] : List T_api_Value)), (T_api_Value.mk (2 : Int) y_0.Num (ByteArray.mk #[]) ([] : List T_api_Value))] : List T_api_Value)) 2 rfl T_api_Value.T (show CsE _ _ _ _ _ from (CsE.cons (c1 := [(Value.int .i64 (6 : Int)), (Value.int .i64 y_0.From), (Value.string (ByteArray.mk #[])), (Value.slice none 0 0)]) (T_api_Value.iff.2 ⟨_, _, rfl, (Nat.le_refl 0), Rd.nil⟩) rfl (CsE.cons (c1 := [(Value.int .i64 (2 : Int)), (Value.int .i64 y_0.Num), (Value.string (ByteArray.mk #[])), (Value.slice none 0 0)]) (T_api_Value.iff.2 ⟨_, _, rfl, (Nat.le_refl 0), Rd.nil⟩) rfl CsE.nil))) rfl
    obtain ⟨m29, u30, ⟨r31, k32⟩, O33⟩ := O28.frz 2 rfl
    replace r31 : Rd 4 T_api_Value.E m29 (some ⟨(Array.size h5), 0, none⟩) ([(T_api_Value.mk (6 : Int) y_0.From (ByteArray.mk #[]) ([] : List T_api_Value)), (T_api_Value.mk (2 : Int) y_0.Num (ByteArray.mk #[]) ([] : List T_api_Value))] : List T_api_Value) := r31
    have O34 := O33.nm
    cases e
    exact ⟨_, _, O34.pick [], rfl, (T_api_Value.iff.2 ⟨_, _, rfl, k32, r31⟩)⟩

/-! ### 17 roadstead/roadref3.Message -/
def roadref3_Message.post (W : Nat → Prop) (h0 m0 : Heap) (r : T_api_Value) (v : Value) (h : Heap) : Prop := ∃ m cs0, Hold W h0 m0 h m [] ∧ v = .agg cs0.toArray ∧ T_api_Value.E m r cs0
noncomputable def roadref3_Message (y_0 : T_api_Letter) : Option (T_api_Value) :=
  if y_0.Kind = (2 : Int) then (some ((T_api_Value.mk (5 : Int) (0 : Int) (ByteArray.mk #[68, 111, 119, 110]) ([(T_api_Value.mk (6 : Int) y_0.From (ByteArray.mk #[]) ([] : List T_api_Value)), (T_api_Value.mk (2 : Int) y_0.Num (ByteArray.mk #[]) ([] : List T_api_Value))] : List T_api_Value)))) else (some (y_0.Value_))
set_option maxRecDepth 100000 in
theorem roadref3_Message.walk {W : Nat → Prop} {h m : Heap} {cs_0 : List Value} {y_0 : T_api_Letter} (O : Hold W h m h m []) (e_0 : T_api_Letter.E m y_0 cs_0) {r : T_api_Value} (e : roadref3_Message y_0 = some r) : Run Try.prog 17 #[Value.agg cs_0.toArray] h (roadref3_Message.post W h m r) := by
  unfold roadref3_Message at e
  refine f17.run ?_
  unfold f17.runT
  refine O.new fun h1 x2 O3 => ?_
  refine O3.new fun h5 x6 O7 => ?_
  refine ⟨_, ld0 (Sub.refl _) (O7.all 0 rfl) (T_api_Letter.g0 e_0), _, rfl, ?_⟩
  refine split_eq_e e (fun c27 e => ?_) (fun c27 e => ?_)
  · refine ⟨_, ldk (k := 1) (Sub.refl _) (O7.all 0 rfl) (T_api_Letter.g1 e_0), _, rfl, ?_⟩
    refine ⟨_, ldk (k := 3) (Sub.refl _) (O7.all 0 rfl) (T_api_Letter.g3 e_0), _, rfl, ?_⟩
    refine ⟨[(Value.int .i64 (6 : Int)), (Value.int .i64 y_0.From), (Value.string (ByteArray.mk #[])), (Value.slice none 0 0)], rfl, rfl, ?_⟩
    refine ⟨[(Value.int .i64 (2 : Int)), (Value.int .i64 y_0.Num), (Value.string (ByteArray.mk #[])), (Value.slice none 0 0)], rfl, rfl, ?_⟩
    refine O7.new fun h9 x10 O11 => ?_
    refine ⟨_, rfl, rfl, ?_⟩
    refine O11.stA 1 rfl rfl (Flats.cons trivial (Flats.cons trivial (Flats.cons trivial (Flats.cons trivial Flats.nil)))) fun h13 O14 => ?_
    refine ⟨_, ldAn (Sub.refl _) (O14.all 1 rfl) rfl, ?_⟩
    have O15 := O14.rowE (l := ([(T_api_Value.mk (6 : Int) y_0.From (ByteArray.mk #[]) ([] : List T_api_Value)), (T_api_Value.mk (2 : Int) y_0.Num (ByteArray.mk #[]) ([] : List T_api_Value))] : List T_api_Value)) 2 rfl T_api_Value.T (show CsE _ _ _ _ _ from (CsE.cons (c1 := [(Value.int .i64 (6 : Int)), (Value.int .i64 y_0.From), (Value.string (ByteArray.mk #[])), (Value.slice none 0 0)]) (T_api_Value.iff.2 ⟨_, _, rfl, (Nat.le_refl 0), Rd.nil⟩) rfl (CsE.cons (c1 := [(Value.int .i64 (2 : Int)), (Value.int .i64 y_0.Num), (Value.string (ByteArray.mk #[])), (Value.slice none 0 0)]) (T_api_Value.iff.2 ⟨_, _, rfl, (Nat.le_refl 0), Rd.nil⟩) rfl CsE.nil))) rfl
    obtain ⟨m16, u17, ⟨r18, k19⟩, O20⟩ := O15.frz 2 rfl
    replace r18 : Rd 4 T_api_Value.E m16 (some ⟨(Array.size h5), 0, none⟩) ([(T_api_Value.mk (6 : Int) y_0.From (ByteArray.mk #[]) ([] : List T_api_Value)), (T_api_Value.mk (2 : Int) y_0.Num (ByteArray.mk #[]) ([] : List T_api_Value))] : List T_api_Value) := r18
    have O21 := O20.nm
    cases e
    exact ⟨_, _, O21.pick [], rfl, (T_api_Value.iff.2 ⟨_, _, rfl, k19, r18⟩)⟩
  · refine ⟨_, ldAkn (Sub.refl _) (O7.all 0 rfl) 5 4 (le_len (T_api_Letter.T.len _ _ _ e_0) (by decide)), ?_⟩
    refine ⟨_, rfl, (T_api_Value.T.len _ _ _ (T_api_Letter.u5_27 e_0)), ?_⟩
    refine O7.stAE 1 rfl (T_api_Value.T.len _ _ _ (T_api_Letter.u5_27 e_0)) (T_api_Value.T.flat _ _ _ (T_api_Letter.u5_27 e_0)) (T_api_Letter.u5_27 e_0) fun h22 cs24 e25 O23 => ?_
    refine ⟨_, ldAn (Sub.refl _) (O23.all 1 rfl) (T_api_Value.T.len _ _ _ e25), ?_⟩
    have O26 := O23.nm
    cases e
    exact ⟨_, _, O26.pick [], rfl, e25⟩

/-! ### 76 roadstead/roadref3.SameLetter -/
def roadref3_SameLetter.post (W : Nat → Prop) (h0 m0 : Heap) (r : Bool) (v : Value) (h : Heap) : Prop := ∃ m , Hold W h0 m0 h m [] ∧ v = .bool r
noncomputable def roadref3_SameLetter (y_0 : T_api_Letter) (y_1 : T_api_Letter) : Option (Bool) :=
  if y_0.Kind = y_1.Kind then (if y_0.From = y_1.From then (if y_0.To = y_1.To then (if y_0.Num = y_1.Num then (if y_0.Text = y_1.Text then (Option.bind (roadref3_SameValue y_0.Value_ y_1.Value_) fun y9 => some (y9)) else (some (false))) else (some (false))) else (some (false))) else (some (false))) else (some (false))
set_option maxHeartbeats 4000000 in
set_option maxRecDepth 100000 in
theorem roadref3_SameLetter.walk {W : Nat → Prop} {h m : Heap} {cs_0 : List Value} {cs_1 : List Value} {y_0 : T_api_Letter} {y_1 : T_api_Letter} (O : Hold W h m h m []) (e_0 : T_api_Letter.E m y_0 cs_0) (e_1 : T_api_Letter.E m y_1 cs_1) {r : Bool} (e : roadref3_SameLetter y_0 y_1 = some r) : Run Try.prog 76 #[Value.agg cs_0.toArray, Value.agg cs_1.toArray] h (roadref3_SameLetter.post W h m r) := by
  unfold roadref3_SameLetter at e
  refine f76.run ?_
  unfold f76.runT
  refine O.new fun h1 x2 O3 => ?_
  refine O3.new fun h5 x6 O7 => ?_
  refine ⟨_, ld0 (Sub.refl _) (O7.all 0 rfl) (T_api_Letter.g0 e_0), _, rfl, ?_⟩
  refine ⟨_, ld0 (Sub.refl _) (O7.all 1 rfl) (T_api_Letter.g0 e_1), _, rfl, ?_⟩
  refine split_eq_e e (fun c25 e => ?_) (fun c25 e => ?_)
  · refine ⟨_, ldk (k := 1) (Sub.refl _) (O7.all 0 rfl) (T_api_Letter.g1 e_0), _, rfl, ?_⟩
    refine ⟨_, ldk (k := 1) (Sub.refl _) (O7.all 1 rfl) (T_api_Letter.g1 e_1), _, rfl, ?_⟩
    refine split_eq_e e (fun c23 e => ?_) (fun c23 e => ?_)
    · refine ⟨_, ldk (k := 2) (Sub.refl _) (O7.all 0 rfl) (T_api_Letter.g2 e_0), _, rfl, ?_⟩
      refine ⟨_, ldk (k := 2) (Sub.refl _) (O7.all 1 rfl) (T_api_Letter.g2 e_1), _, rfl, ?_⟩
      refine split_eq_e e (fun c21 e => ?_) (fun c21 e => ?_)
      · refine ⟨_, ldk (k := 3) (Sub.refl _) (O7.all 0 rfl) (T_api_Letter.g3 e_0), _, rfl, ?_⟩
        refine ⟨_, ldk (k := 3) (Sub.refl _) (O7.all 1 rfl) (T_api_Letter.g3 e_1), _, rfl, ?_⟩
        refine split_eq_e e (fun c19 e => ?_) (fun c19 e => ?_)
        · refine ⟨_, ldk (k := 4) (Sub.refl _) (O7.all 0 rfl) (T_api_Letter.g4 e_0), _, rfl, ?_⟩
          refine ⟨_, ldk (k := 4) (Sub.refl _) (O7.all 1 rfl) (T_api_Letter.g4 e_1), _, rfl, ?_⟩
          try rw [ba_list y_0.Text y_1.Text]
          refine split_dec_e e (fun c17 e => ?_) (fun c17 e => ?_)
          · refine ⟨_, ldAkn (Sub.refl _) (O7.all 0 rfl) 5 4 (le_len (T_api_Letter.T.len _ _ _ e_0) (by decide)), ?_⟩
            refine ⟨_, ldAkn (Sub.refl _) (O7.all 1 rfl) 5 4 (le_len (T_api_Letter.T.len _ _ _ e_1) (by decide)), ?_⟩
            obtain ⟨y9, g10, e⟩ := bind_e e
            refine (roadref3_SameValue.walk (Hold.start (W := No) O7.s) (T_api_Letter.u5_27 e_0) (T_api_Letter.u5_27 e_1) g10).mono ?_
            rintro _ h11 ⟨m12, Q13, rfl⟩
            have O15 := Hold.nm (O7.retC Q13 vfs_nil)
            refine ⟨_, rfl, ?_⟩
            cases e
            exact ⟨_, O15.pick [], rfl⟩
          · have O16 := O7.nm
            cases e
            exact ⟨_, O16.pick [], rfl⟩
        · have O18 := O7.nm
          cases e
          exact ⟨_, O18.pick [], rfl⟩
      · have O20 := O7.nm
        cases e
        exact ⟨_, O20.pick [], rfl⟩
    · have O22 := O7.nm
      cases e
      exact ⟨_, O22.pick [], rfl⟩
  · have O24 := O7.nm
    cases e
    exact ⟨_, O24.pick [], rfl⟩

/-! ### 20 roadstead/roadref3.SameLetters -/
def roadref3_SameLetters.post (W : Nat → Prop) (h0 m0 : Heap) (r : Bool) (v : Value) (h : Heap) : Prop := ∃ m , Hold W h0 m0 h m [] ∧ v = .bool r
inductive roadref3_SameLetters.l0_k.Pt where
  | l0 (a_0 : List T_api_Letter) (a_1 : List T_api_Letter) (x_12 : Int) (x_13 : Int)
noncomputable def roadref3_SameLetters.l0_k.body (go : (p : roadref3_SameLetters.l0_k.Pt) → Option (Bool)) : (p : roadref3_SameLetters.l0_k.Pt) → Option (Bool)
  | .l0 a_0 a_1 x_12 x_13 => if x_13 < x_12 then (Option.bind (gi a_0 x_13) fun y1 => Option.bind (gi a_1 x_13) fun y8 => Option.bind (roadref3_SameLetter y1 y8) fun y15 => if y15 = true then ((go (.l0 a_0 a_1 x_12 (IntKind.wrap .i64 (x_13 + (1 : Int)))))) else (some (false))) else (some (true))
theorem roadref3_SameLetters.l0_k.mono : MonoF (β := fun _ => (Bool)) roadref3_SameLetters.l0_k.body := fun f g hfg p => match p with
  | .l0 a_0 a_1 x_12 x_13 => LeO.ite (LeO.bind (LeO.refl _) fun y1 => LeO.bind (LeO.refl _) fun y8 => LeO.bind (LeO.refl _) fun y15 => LeO.ite ((hfg _)) (LeO.refl _)) (LeO.refl _)
noncomputable def roadref3_SameLetters.l0_k.go (p : roadref3_SameLetters.l0_k.Pt) : Option (Bool) := fixF (β := fun _ => (Bool)) roadref3_SameLetters.l0_k.body p
noncomputable def roadref3_SameLetters.l0 (a_0 : List T_api_Letter) (a_1 : List T_api_Letter) (x_12 : Int) (x_13 : Int) : Option (Bool) := roadref3_SameLetters.l0_k.go (.l0 a_0 a_1 x_12 x_13)
theorem roadref3_SameLetters.l0_eq (a_0 : List T_api_Letter) (a_1 : List T_api_Letter) (x_12 : Int) (x_13 : Int) : roadref3_SameLetters.l0 a_0 a_1 x_12 x_13 = if x_13 < x_12 then (Option.bind (gi a_0 x_13) fun y1 => Option.bind (gi a_1 x_13) fun y8 => Option.bind (roadref3_SameLetter y1 y8) fun y15 => if y15 = true then ((roadref3_SameLetters.l0 a_0 a_1 x_12 (IntKind.wrap .i64 (x_13 + (1 : Int))))) else (some (false))) else (some (true)) := fixF_eq roadref3_SameLetters.l0_k.mono _
def roadref3_SameLetters.l0_k.I : (p : roadref3_SameLetters.l0_k.Pt) → (Bool) → Prop
  | .l0 a_0 a_1 x_12 x_13, r => ∀ (W : Nat → Prop) (h0 m0 h m : Heap) (A_0 : Option Addr) (n_0 c_0 : Nat) (A_1 : Option Addr) (n_1 c_1 : Nat) (O : Hold W h0 m0 h m []) (ne_0 : n_0 = List.length a_0) (k_0 : List.length a_0 ≤ c_0) (r_0 : Rd 9 T_api_Letter.E m A_0 a_0) (ne_1 : n_1 = List.length a_1) (k_1 : List.length a_1 ≤ c_1) (r_1 : Rd 9 T_api_Letter.E m A_1 a_1), f20.l0 (roadref3_SameLetters.post W h0 m0 r) A_0 n_0 c_0 A_1 n_1 c_1 x_12 x_13 h
set_option maxRecDepth 100000 in
theorem roadref3_SameLetters.l0_k.step_l0 (go : (p : roadref3_SameLetters.l0_k.Pt) → Option (Bool)) (ih : ∀ p r, go p = some r → roadref3_SameLetters.l0_k.I p r) (a_0 : List T_api_Letter) (a_1 : List T_api_Letter) (x_12 : Int) (x_13 : Int) (r : Bool) (e : roadref3_SameLetters.l0_k.body go (.l0 a_0 a_1 x_12 x_13) = some r) : roadref3_SameLetters.l0_k.I (.l0 a_0 a_1 x_12 x_13) r := by
  unfold roadref3_SameLetters.l0_k.body at e
  intro W h0 m0 h m A_0 n_0 c_0 A_1 n_1 c_1 O ne_0 k_0 r_0 ne_1 k_1 r_1
  subst ne_0
  subst ne_1
  refine f20.l0_in ?_
  unfold f20.l0T
  refine split_dec_e e (fun c23 e => ?_) (fun c23 e => ?_)
  · obtain ⟨y1, g2, e⟩ := bind_e e
    refine r_0.addr rfl g2 fun a3 cs4 ha5 hc6 he7 => ?_
    obtain ⟨y8, g9, e⟩ := bind_e e
    refine r_1.addr rfl g9 fun a10 cs11 ha12 hc13 he14 => ?_
    refine ⟨_, ldAn O.s hc6 rfl, ?_⟩
    refine ⟨_, ldAn O.s hc13 rfl, ?_⟩
    obtain ⟨y15, g16, e⟩ := bind_e e
    refine (roadref3_SameLetter.walk (Hold.start (W := No) O.s) he7 he14 g16).mono ?_
    rintro _ h17 ⟨m18, Q19, rfl⟩
    have O21 := Hold.nm (O.retC Q19 vfs_nil)
    refine ⟨_, rfl, ?_⟩
    refine split_not ?_
    refine split_any_e e (fun c22 e => ?_) (fun c22 e => ?_)
    · exact (ih _ _ e) _ _ _ _ _ _ _ _ _ _ _ (O21.pick []).nm rfl k_0 r_0 rfl k_1 r_1
    · cases e
      exact ⟨_, O21.pick [], rfl⟩
  · cases e
    exact ⟨_, O.pick [], rfl⟩
theorem roadref3_SameLetters.l0_k.all {p : roadref3_SameLetters.l0_k.Pt} {r : (Bool)} (e : roadref3_SameLetters.l0_k.go p = some r) : roadref3_SameLetters.l0_k.I p r := fixF_ind (β := fun _ => (Bool)) roadref3_SameLetters.l0_k.mono (I := roadref3_SameLetters.l0_k.I) (fun go ih p r e => match p with
  | .l0 a_0 a_1 x_12 x_13 => roadref3_SameLetters.l0_k.step_l0 go ih a_0 a_1 x_12 x_13 r e
  ) e
theorem roadref3_SameLetters.l0.walk {W : Nat → Prop} {h0 m0 h m : Heap} {A_0 : Option Addr} {n_0 c_0 : Nat} {A_1 : Option Addr} {n_1 c_1 : Nat} {a_0 : List T_api_Letter} {a_1 : List T_api_Letter} {x_12 : Int} {x_13 : Int} (O : Hold W h0 m0 h m []) (ne_0 : n_0 = List.length a_0) (k_0 : List.length a_0 ≤ c_0) (r_0 : Rd 9 T_api_Letter.E m A_0 a_0) (ne_1 : n_1 = List.length a_1) (k_1 : List.length a_1 ≤ c_1) (r_1 : Rd 9 T_api_Letter.E m A_1 a_1) {r : Bool} (e : roadref3_SameLetters.l0 a_0 a_1 x_12 x_13 = some r) : f20.l0 (roadref3_SameLetters.post W h0 m0 r) A_0 n_0 c_0 A_1 n_1 c_1 x_12 x_13 h := roadref3_SameLetters.l0_k.all (p := .l0 a_0 a_1 x_12 x_13) e W h0 m0 h m A_0 n_0 c_0 A_1 n_1 c_1 O ne_0 k_0 r_0 ne_1 k_1 r_1

noncomputable def roadref3_SameLetters (a_0 : List T_api_Letter) (a_1 : List T_api_Letter) : Option (Bool) :=
  if (((List.length a_0) : Nat) : Int) = (((List.length a_1) : Nat) : Int) then ((roadref3_SameLetters.l0 a_0 a_1 (((List.length a_0) : Nat) : Int) (0 : Int))) else (some (false))
set_option maxRecDepth 100000 in
theorem roadref3_SameLetters.walk {W : Nat → Prop} {h m : Heap} {A_0 : Option Addr} {n_0 c_0 : Nat} {A_1 : Option Addr} {n_1 c_1 : Nat} {a_0 : List T_api_Letter} {a_1 : List T_api_Letter} (O : Hold W h m h m []) (ne_0 : n_0 = List.length a_0) (k_0 : List.length a_0 ≤ c_0) (r_0 : Rd 9 T_api_Letter.E m A_0 a_0) (ne_1 : n_1 = List.length a_1) (k_1 : List.length a_1 ≤ c_1) (r_1 : Rd 9 T_api_Letter.E m A_1 a_1) {r : Bool} (e : roadref3_SameLetters a_0 a_1 = some r) : Run Try.prog 20 #[Value.slice A_0 n_0 c_0, Value.slice A_1 n_1 c_1] h (roadref3_SameLetters.post W h m r) := by
  unfold roadref3_SameLetters at e
  subst ne_0
  subst ne_1
  refine f20.run ?_
  unfold f20.runT
  refine split_ne_e e (fun c1 e => ?_) (fun c1 e => ?_)
  · cases e
    exact ⟨_, O.pick [], rfl⟩
  · exact roadref3_SameLetters.l0.walk (O.pick []).nm rfl k_0 r_0 rfl k_1 r_1 e

/-! ### 19 roadstead/roadref3.SameBox -/
def roadref3_SameBox.post (W : Nat → Prop) (h0 m0 : Heap) (r : Bool) (v : Value) (h : Heap) : Prop := ∃ m , Hold W h0 m0 h m [] ∧ v = .bool r
noncomputable def roadref3_SameBox (y_0 : T_box_Box) (y_1 : T_box_Box) : Option (Bool) :=
  if y_0.At = y_1.At then (Option.bind (roadref3_SameLetters y_0.Letters y_1.Letters) fun y19 => some (y19)) else (some (false))
set_option maxRecDepth 100000 in
theorem roadref3_SameBox.walk {W : Nat → Prop} {h m : Heap} {cs_0 : List Value} {cs_1 : List Value} {y_0 : T_box_Box} {y_1 : T_box_Box} (O : Hold W h m h m []) (e_0 : T_box_Box.E m y_0 cs_0) (e_1 : T_box_Box.E m y_1 cs_1) {r : Bool} (e : roadref3_SameBox y_0 y_1 = some r) : Run Try.prog 19 #[Value.agg cs_0.toArray, Value.agg cs_1.toArray] h (roadref3_SameBox.post W h m r) := by
  unfold roadref3_SameBox at e
  refine f19.run ?_
  unfold f19.runT
  refine O.new fun h1 x2 O3 => ?_
  refine O3.new fun h5 x6 O7 => ?_
  refine ⟨_, ldk (k := 1) (Sub.refl _) (O7.all 0 rfl) (T_box_Box.g1 e_0), _, rfl, ?_⟩
  refine ⟨_, ldk (k := 1) (Sub.refl _) (O7.all 1 rfl) (T_box_Box.g1 e_1), _, rfl, ?_⟩
  refine split_eq_e e (fun c27 e => ?_) (fun c27 e => ?_)
  · obtain ⟨A9, c10, q11, k12, r13⟩ := T_box_Box.g0 e_0
    refine ⟨_, ld0 (Sub.refl _) (O7.all 0 rfl) q11, _, _, _, rfl, ?_⟩
    obtain ⟨A14, c15, q16, k17, r18⟩ := T_box_Box.g0 e_1
    refine ⟨_, ld0 (Sub.refl _) (O7.all 1 rfl) q16, _, _, _, rfl, ?_⟩
    obtain ⟨y19, g20, e⟩ := bind_e e
    refine (roadref3_SameLetters.walk (Hold.start (W := No) O7.s) rfl k12 r13 rfl k17 r18 g20).mono ?_
    rintro _ h21 ⟨m22, Q23, rfl⟩
    have O25 := Hold.nm (O7.retC Q23 vfs_nil)
    refine ⟨_, rfl, ?_⟩
    cases e
    exact ⟨_, O25.pick [], rfl⟩
  · have O26 := O7.nm
    cases e
    exact ⟨_, O26.pick [], rfl⟩

/-! ### 3 roadstead/roadlaw3.BoxTells -/
def roadlaw3_BoxTells.post (W : Nat → Prop) (h0 m0 : Heap) (r : Bool) (v : Value) (h : Heap) : Prop := ∃ m , Hold W h0 m0 h m [] ∧ v = .bool r
noncomputable def roadlaw3_BoxTells.j2 (y_3 : T_box_Box) (y_4 : T_api_Letter) (y_7 : T_box_Box) (x_8 : Int) (x_13 : Int) : Option (Bool) :=
  if x_13 = (0 : Int) then (Option.bind (slices_Clone_22 y_3.Letters) fun y14 => Option.bind (ap 104 y14 ([y_4] : List T_api_Letter)) fun l31 => Option.bind (roadref3_SameBox y_7 (T_box_Box.mk l31 y_3.At)) fun y45 => if y45 = true then (some ((x_8 == (0 : Int)))) else (some (false))) else (Option.bind (roadref3_SameBox y_7 (T_box_Box.mk ([] : List T_api_Letter) (0 : Int))) fun y1 => if y1 = true then (some ((x_8 == x_13))) else (some (false)))
set_option maxHeartbeats 4000000 in
set_option maxRecDepth 100000 in
theorem roadlaw3_BoxTells.j2.walk {W : Nat → Prop} {h0 m0 h m : Heap} {bk_3 : Nat} {cs_3 : List Value} {bk_4 : Nat} {cs_4 : List Value} {bk_7 : Nat} {cs_7 : List Value} {y_3 : T_box_Box} {y_4 : T_api_Letter} {y_7 : T_box_Box} {x_8 : Int} {x_13 : Int} (O : Hold W h0 m0 h m [rV bk_3 24 cs_3, rV bk_4 29 cs_4, rV bk_7 24 cs_7]) (e_3 : T_box_Box.E m y_3 cs_3) (e_4 : T_api_Letter.E m y_4 cs_4) (e_7 : T_box_Box.E m y_7 cs_7) {r : Bool} (e : roadlaw3_BoxTells.j2 y_3 y_4 y_7 x_8 x_13 = some r) : f3.j2 (roadlaw3_BoxTells.post W h0 m0 r) (⟨bk_3, 0, none⟩ : Addr) (⟨bk_4, 0, none⟩ : Addr) (⟨bk_7, 0, none⟩ : Addr) x_8 x_13 h := by
  unfold roadlaw3_BoxTells.j2 at e
  refine f3.j2_in ?_
  unfold f3.j2T
  refine split_ne_e e (fun c1296 e => ?_) (fun c1296 e => ?_)
  · refine ⟨_, ldAn (Sub.refl _) (O.all 2 rfl) (T_box_Box.T.len _ _ _ e_7), ?_⟩
    obtain ⟨y1, g2, e⟩ := bind_e e
    refine (roadref3_SameBox.walk (Hold.start (W := No) O.s) e_7 (show T_box_Box.E _ (T_box_Box.mk ([] : List T_api_Letter) (0 : Int)) [(Value.slice none 0 0), (Value.int .i64 (0 : Int))] from ⟨_, _, rfl, (Nat.le_refl 0), Rd.nil⟩) g2).mono ?_
    rintro _ h3 ⟨m4, Q5, rfl⟩
    have O7 := Hold.nm (O.retC Q5 vfs_nil)
    refine ⟨_, rfl, ?_⟩
    refine split_any_e e (fun c8 e => ?_) (fun c8 e => ?_)
    · cases e
      exact ⟨_, O7.pick [], rfl⟩
    · cases e
      exact ⟨_, O7.pick [], rfl⟩
  · obtain ⟨y14, g15, e⟩ := bind_e e
    obtain ⟨l31, g32, e⟩ := bind_e e
    obtain ⟨y45, g46, e⟩ := bind_e e
    obtain ⟨A53, c54, q55, k56, r57⟩ := T_box_Box.g0 e_3
    refine ⟨_, ld0 (Sub.refl _) (O.all 0 rfl) q55, _, _, _, rfl, ?_⟩
    refine ⟨_, ldAn (Sub.refl _) (O.all 1 rfl) (T_api_Letter.T.len _ _ _ e_4), ?_⟩
    refine ⟨?_, ?_⟩
    · refine ⟨_, ldAn (Sub.refl _) (O.all 2 rfl) (T_box_Box.T.len _ _ _ e_7), ?_⟩
      refine ⟨Ext.refl _, ?_⟩
      refine ⟨?_, ?_⟩
      · refine (slices_Clone_22.walk (Hold.start (W := No) O.s) rfl k56 r57 g15).mono ?_
        rintro _ h60 ⟨m61, A64, n65, c66, Q62, rfl, ne67⟩
        have O69 := Hold.nm (O.ret Q62)
        subst ne67
        refine ⟨_, _, _, rfl, ?_⟩
        refine ⟨Q62.S.ext, ?_⟩
        refine ⟨?_, ?_⟩
        · refine ⟨cs_4, rfl, (T_api_Letter.T.len _ _ _ e_4), ?_⟩
          refine O69.new fun h70 x71 O72 => ?_
          have O74 := O72.recell 4 rfl (cs' := cs_4 ++ []) rfl
          refine ⟨x71, ?_⟩
          refine ⟨?_, ?_⟩
          · have O83 := O74.rowE (l := ([y_4] : List T_api_Letter)) 4 rfl T_api_Letter.T (show CsE _ _ _ _ _ from (CsE.cons (T_api_Letter.T.mono _ _ _ _ Q62.S.up e_4) (T_api_Letter.T.len _ _ _ (T_api_Letter.T.mono _ _ _ _ Q62.S.up e_4)) CsE.nil)) rfl
            refine O83.app 3 rfl rfl rfl ((O83.os 4 rfl).srcE rfl) (by decide) g32 fun A77 c78 h79 O80 => ?_
            refine ⟨_, _, _, rfl, ?_⟩
            refine ⟨_, ldk (k := 1) (Sub.refl _) (O80.all 0 rfl) (T_box_Box.g1 e_3), _, rfl, ?_⟩
            refine ⟨Ext.refl _, ?_⟩
            obtain ⟨m84, u85, ⟨r86, k87⟩, O88⟩ := O80.frz 3 rfl
            replace r86 : Rd 9 T_api_Letter.E m84 A77 l31 := r86
            refine (roadref3_SameBox.walk (Hold.start (W := No) O88.s) (T_box_Box.T.mono _ _ _ _ (Q62.S.up.trans u85) e_7) (show T_box_Box.E _ (T_box_Box.mk l31 y_3.At) [(Value.slice A77 (List.length l31) c78), (Value.int .i64 y_3.At)] from ⟨_, _, rfl, k87, r86⟩) g46).mono ?_
            rintro _ h91 ⟨m92, Q93, rfl⟩
            have O95 := Hold.nm (O88.retC Q93 vfs_nil)
            refine ⟨_, rfl, ?_⟩
            refine split_any_e e (fun c96 e => ?_) (fun c96 e => ?_)
            · cases e
              exact ⟨_, O95.pick [], rfl⟩
            · cases e
              exact ⟨_, O95.pick [], rfl⟩
          · refine ⟨_, ldk (k := 1) (Sub.refl _) (O74.all 0 rfl) (T_box_Box.g1 e_3), _, rfl, ?_⟩
            refine ⟨Ext.refl _, ?_⟩
            have O105 := O74.rowE (l := ([y_4] : List T_api_Letter)) 4 rfl T_api_Letter.T (show CsE _ _ _ _ _ from (CsE.cons (T_api_Letter.T.mono _ _ _ _ Q62.S.up e_4) (T_api_Letter.T.len _ _ _ (T_api_Letter.T.mono _ _ _ _ Q62.S.up e_4)) CsE.nil)) rfl
            refine O105.app 3 rfl rfl rfl ((O105.os 4 rfl).srcE rfl) (by decide) g32 fun A99 c100 h101 O102 => ?_
            refine ⟨_, _, _, rfl, ?_⟩
            obtain ⟨m106, u107, ⟨r108, k109⟩, O110⟩ := O102.frz 3 rfl
            replace r108 : Rd 9 T_api_Letter.E m106 A99 l31 := r108
            refine (roadref3_SameBox.walk (Hold.start (W := No) O110.s) (T_box_Box.T.mono _ _ _ _ (Q62.S.up.trans u107) e_7) (show T_box_Box.E _ (T_box_Box.mk l31 y_3.At) [(Value.slice A99 (List.length l31) c100), (Value.int .i64 y_3.At)] from ⟨_, _, rfl, k109, r108⟩) g46).mono ?_
            rintro _ h113 ⟨m114, Q115, rfl⟩
            have O117 := Hold.nm (O110.retC Q115 vfs_nil)
            refine ⟨_, rfl, ?_⟩
            refine split_any_e e (fun c118 e => ?_) (fun c118 e => ?_)
            · cases e
              exact ⟨_, O117.pick [], rfl⟩
            · cases e
              exact ⟨_, O117.pick [], rfl⟩
        · refine ⟨_, ldk (k := 1) (Sub.refl _) (O69.all 0 rfl) (T_box_Box.g1 e_3), _, rfl, ?_⟩
          refine ⟨Ext.refl _, ?_⟩
          refine ⟨cs_4, rfl, (T_api_Letter.T.len _ _ _ e_4), ?_⟩
          refine O69.new fun h119 x120 O121 => ?_
          have O123 := O121.recell 4 rfl (cs' := cs_4 ++ []) rfl
          refine ⟨x120, ?_⟩
          have O132 := O123.rowE (l := ([y_4] : List T_api_Letter)) 4 rfl T_api_Letter.T (show CsE _ _ _ _ _ from (CsE.cons (T_api_Letter.T.mono _ _ _ _ Q62.S.up e_4) (T_api_Letter.T.len _ _ _ (T_api_Letter.T.mono _ _ _ _ Q62.S.up e_4)) CsE.nil)) rfl
          refine O132.app 3 rfl rfl rfl ((O132.os 4 rfl).srcE rfl) (by decide) g32 fun A126 c127 h128 O129 => ?_
          refine ⟨_, _, _, rfl, ?_⟩
          obtain ⟨m133, u134, ⟨r135, k136⟩, O137⟩ := O129.frz 3 rfl
          replace r135 : Rd 9 T_api_Letter.E m133 A126 l31 := r135
          refine (roadref3_SameBox.walk (Hold.start (W := No) O137.s) (T_box_Box.T.mono _ _ _ _ (Q62.S.up.trans u134) e_7) (show T_box_Box.E _ (T_box_Box.mk l31 y_3.At) [(Value.slice A126 (List.length l31) c127), (Value.int .i64 y_3.At)] from ⟨_, _, rfl, k136, r135⟩) g46).mono ?_
          rintro _ h140 ⟨m141, Q142, rfl⟩
          have O144 := Hold.nm (O137.retC Q142 vfs_nil)
          refine ⟨_, rfl, ?_⟩
          refine split_any_e e (fun c145 e => ?_) (fun c145 e => ?_)
          · cases e
            exact ⟨_, O144.pick [], rfl⟩
          · cases e
            exact ⟨_, O144.pick [], rfl⟩
      · refine ⟨?_, ?_⟩
        · refine ⟨cs_4, rfl, (T_api_Letter.T.len _ _ _ e_4), ?_⟩
          refine O.new fun h146 x147 O148 => ?_
          have O150 := O148.recell 3 rfl (cs' := cs_4 ++ []) rfl
          refine ⟨x147, ?_⟩
          refine ⟨?_, ?_⟩
          · refine (slices_Clone_22.walk (Hold.start (W := No) O150.s) rfl k56 r57 g15).mono ?_
            rintro _ h153 ⟨m154, A157, n158, c159, Q155, rfl, ne160⟩
            have O162 := Hold.nm (O150.ret Q155)
            subst ne160
            refine ⟨_, _, _, rfl, ?_⟩
            refine ⟨Q155.S.ext, ?_⟩
            refine ⟨?_, ?_⟩
            · have O171 := O162.rowE (l := ([y_4] : List T_api_Letter)) 3 rfl T_api_Letter.T (show CsE _ _ _ _ _ from (CsE.cons (T_api_Letter.T.mono _ _ _ _ Q155.S.up e_4) (T_api_Letter.T.len _ _ _ (T_api_Letter.T.mono _ _ _ _ Q155.S.up e_4)) CsE.nil)) rfl
              refine O171.app 4 rfl rfl rfl ((O171.os 3 rfl).srcE rfl) (by decide) g32 fun A165 c166 h167 O168 => ?_
              refine ⟨_, _, _, rfl, ?_⟩
              refine ⟨_, ldk (k := 1) (Sub.refl _) (O168.all 0 rfl) (T_box_Box.g1 e_3), _, rfl, ?_⟩
              refine ⟨Ext.refl _, ?_⟩
              obtain ⟨m172, u173, ⟨r174, k175⟩, O176⟩ := O168.frz 4 rfl
              replace r174 : Rd 9 T_api_Letter.E m172 A165 l31 := r174
              refine (roadref3_SameBox.walk (Hold.start (W := No) O176.s) (T_box_Box.T.mono _ _ _ _ (Q155.S.up.trans u173) e_7) (show T_box_Box.E _ (T_box_Box.mk l31 y_3.At) [(Value.slice A165 (List.length l31) c166), (Value.int .i64 y_3.At)] from ⟨_, _, rfl, k175, r174⟩) g46).mono ?_
              rintro _ h179 ⟨m180, Q181, rfl⟩
              have O183 := Hold.nm (O176.retC Q181 vfs_nil)
              refine ⟨_, rfl, ?_⟩
              refine split_any_e e (fun c184 e => ?_) (fun c184 e => ?_)
              · cases e
                exact ⟨_, O183.pick [], rfl⟩
              · cases e
                exact ⟨_, O183.pick [], rfl⟩
            · refine ⟨_, ldk (k := 1) (Sub.refl _) (O162.all 0 rfl) (T_box_Box.g1 e_3), _, rfl, ?_⟩
              refine ⟨Ext.refl _, ?_⟩
              have O193 := O162.rowE (l := ([y_4] : List T_api_Letter)) 3 rfl T_api_Letter.T (show CsE _ _ _ _ _ from (CsE.cons (T_api_Letter.T.mono _ _ _ _ Q155.S.up e_4) (T_api_Letter.T.len _ _ _ (T_api_Letter.T.mono _ _ _ _ Q155.S.up e_4)) CsE.nil)) rfl
              refine O193.app 4 rfl rfl rfl ((O193.os 3 rfl).srcE rfl) (by decide) g32 fun A187 c188 h189 O190 => ?_
              refine ⟨_, _, _, rfl, ?_⟩
              obtain ⟨m194, u195, ⟨r196, k197⟩, O198⟩ := O190.frz 4 rfl
              replace r196 : Rd 9 T_api_Letter.E m194 A187 l31 := r196
              refine (roadref3_SameBox.walk (Hold.start (W := No) O198.s) (T_box_Box.T.mono _ _ _ _ (Q155.S.up.trans u195) e_7) (show T_box_Box.E _ (T_box_Box.mk l31 y_3.At) [(Value.slice A187 (List.length l31) c188), (Value.int .i64 y_3.At)] from ⟨_, _, rfl, k197, r196⟩) g46).mono ?_
              rintro _ h201 ⟨m202, Q203, rfl⟩
              have O205 := Hold.nm (O198.retC Q203 vfs_nil)
              refine ⟨_, rfl, ?_⟩
              refine split_any_e e (fun c206 e => ?_) (fun c206 e => ?_)
              · cases e
                exact ⟨_, O205.pick [], rfl⟩
              · cases e
                exact ⟨_, O205.pick [], rfl⟩
          · refine ⟨_, ldk (k := 1) (Sub.refl _) (O150.all 0 rfl) (T_box_Box.g1 e_3), _, rfl, ?_⟩
            refine ⟨Ext.refl _, ?_⟩
            refine (slices_Clone_22.walk (Hold.start (W := No) O150.s) rfl k56 r57 g15).mono ?_
            rintro _ h209 ⟨m210, A213, n214, c215, Q211, rfl, ne216⟩
            have O218 := Hold.nm (O150.ret Q211)
            subst ne216
            refine ⟨_, _, _, rfl, ?_⟩
            refine ⟨Q211.S.ext, ?_⟩
            have O227 := O218.rowE (l := ([y_4] : List T_api_Letter)) 3 rfl T_api_Letter.T (show CsE _ _ _ _ _ from (CsE.cons (T_api_Letter.T.mono _ _ _ _ Q211.S.up e_4) (T_api_Letter.T.len _ _ _ (T_api_Letter.T.mono _ _ _ _ Q211.S.up e_4)) CsE.nil)) rfl
            refine O227.app 4 rfl rfl rfl ((O227.os 3 rfl).srcE rfl) (by decide) g32 fun A221 c222 h223 O224 => ?_
            refine ⟨_, _, _, rfl, ?_⟩
            obtain ⟨m228, u229, ⟨r230, k231⟩, O232⟩ := O224.frz 4 rfl
            replace r230 : Rd 9 T_api_Letter.E m228 A221 l31 := r230
            refine (roadref3_SameBox.walk (Hold.start (W := No) O232.s) (T_box_Box.T.mono _ _ _ _ (Q211.S.up.trans u229) e_7) (show T_box_Box.E _ (T_box_Box.mk l31 y_3.At) [(Value.slice A221 (List.length l31) c222), (Value.int .i64 y_3.At)] from ⟨_, _, rfl, k231, r230⟩) g46).mono ?_
            rintro _ h235 ⟨m236, Q237, rfl⟩
            have O239 := Hold.nm (O232.retC Q237 vfs_nil)
            refine ⟨_, rfl, ?_⟩
            refine split_any_e e (fun c240 e => ?_) (fun c240 e => ?_)
            · cases e
              exact ⟨_, O239.pick [], rfl⟩
            · cases e
              exact ⟨_, O239.pick [], rfl⟩
        · refine ⟨_, ldk (k := 1) (Sub.refl _) (O.all 0 rfl) (T_box_Box.g1 e_3), _, rfl, ?_⟩
          refine ⟨Ext.refl _, ?_⟩
          refine ⟨?_, ?_⟩
          · refine (slices_Clone_22.walk (Hold.start (W := No) O.s) rfl k56 r57 g15).mono ?_
            rintro _ h243 ⟨m244, A247, n248, c249, Q245, rfl, ne250⟩
            have O252 := Hold.nm (O.ret Q245)
            subst ne250
            refine ⟨_, _, _, rfl, ?_⟩
            refine ⟨Q245.S.ext, ?_⟩
            refine ⟨cs_4, rfl, (T_api_Letter.T.len _ _ _ e_4), ?_⟩
            refine O252.new fun h253 x254 O255 => ?_
            have O257 := O255.recell 4 rfl (cs' := cs_4 ++ []) rfl
            refine ⟨x254, ?_⟩
            have O266 := O257.rowE (l := ([y_4] : List T_api_Letter)) 4 rfl T_api_Letter.T (show CsE _ _ _ _ _ from (CsE.cons (T_api_Letter.T.mono _ _ _ _ Q245.S.up e_4) (T_api_Letter.T.len _ _ _ (T_api_Letter.T.mono _ _ _ _ Q245.S.up e_4)) CsE.nil)) rfl
            refine O266.app 3 rfl rfl rfl ((O266.os 4 rfl).srcE rfl) (by decide) g32 fun A260 c261 h262 O263 => ?_
            refine ⟨_, _, _, rfl, ?_⟩
            obtain ⟨m267, u268, ⟨r269, k270⟩, O271⟩ := O263.frz 3 rfl
            replace r269 : Rd 9 T_api_Letter.E m267 A260 l31 := r269
            refine (roadref3_SameBox.walk (Hold.start (W := No) O271.s) (T_box_Box.T.mono _ _ _ _ (Q245.S.up.trans u268) e_7) (show T_box_Box.E _ (T_box_Box.mk l31 y_3.At) [(Value.slice A260 (List.length l31) c261), (Value.int .i64 y_3.At)] from ⟨_, _, rfl, k270, r269⟩) g46).mono ?_
            rintro _ h274 ⟨m275, Q276, rfl⟩
            have O278 := Hold.nm (O271.retC Q276 vfs_nil)
            refine ⟨_, rfl, ?_⟩
            refine split_any_e e (fun c279 e => ?_) (fun c279 e => ?_)
            · cases e
              exact ⟨_, O278.pick [], rfl⟩
            · cases e
              exact ⟨_, O278.pick [], rfl⟩
          · refine ⟨cs_4, rfl, (T_api_Letter.T.len _ _ _ e_4), ?_⟩
            refine O.new fun h280 x281 O282 => ?_
            have O284 := O282.recell 3 rfl (cs' := cs_4 ++ []) rfl
            refine ⟨x281, ?_⟩
            refine (slices_Clone_22.walk (Hold.start (W := No) O284.s) rfl k56 r57 g15).mono ?_
            rintro _ h287 ⟨m288, A291, n292, c293, Q289, rfl, ne294⟩
            have O296 := Hold.nm (O284.ret Q289)
            subst ne294
            refine ⟨_, _, _, rfl, ?_⟩
            refine ⟨Q289.S.ext, ?_⟩
            have O305 := O296.rowE (l := ([y_4] : List T_api_Letter)) 3 rfl T_api_Letter.T (show CsE _ _ _ _ _ from (CsE.cons (T_api_Letter.T.mono _ _ _ _ Q289.S.up e_4) (T_api_Letter.T.len _ _ _ (T_api_Letter.T.mono _ _ _ _ Q289.S.up e_4)) CsE.nil)) rfl
            refine O305.app 4 rfl rfl rfl ((O305.os 3 rfl).srcE rfl) (by decide) g32 fun A299 c300 h301 O302 => ?_
            refine ⟨_, _, _, rfl, ?_⟩
            obtain ⟨m306, u307, ⟨r308, k309⟩, O310⟩ := O302.frz 4 rfl
            replace r308 : Rd 9 T_api_Letter.E m306 A299 l31 := r308
            refine (roadref3_SameBox.walk (Hold.start (W := No) O310.s) (T_box_Box.T.mono _ _ _ _ (Q289.S.up.trans u307) e_7) (show T_box_Box.E _ (T_box_Box.mk l31 y_3.At) [(Value.slice A299 (List.length l31) c300), (Value.int .i64 y_3.At)] from ⟨_, _, rfl, k309, r308⟩) g46).mono ?_
            rintro _ h313 ⟨m314, Q315, rfl⟩
            have O317 := Hold.nm (O310.retC Q315 vfs_nil)
            refine ⟨_, rfl, ?_⟩
            refine split_any_e e (fun c318 e => ?_) (fun c318 e => ?_)
            · cases e
              exact ⟨_, O317.pick [], rfl⟩
            · cases e
              exact ⟨_, O317.pick [], rfl⟩
    · refine ⟨?_, ?_⟩
      · refine (slices_Clone_22.walk (Hold.start (W := No) O.s) rfl k56 r57 g15).mono ?_
        rintro _ h321 ⟨m322, A325, n326, c327, Q323, rfl, ne328⟩
        have O330 := Hold.nm (O.ret Q323)
        subst ne328
        refine ⟨_, _, _, rfl, ?_⟩
        refine ⟨Q323.S.ext, ?_⟩
        refine ⟨?_, ?_⟩
        · refine ⟨_, ldAn (Sub.refl _) (O330.all 2 rfl) (T_box_Box.T.len _ _ _ e_7), ?_⟩
          refine ⟨Ext.refl _, ?_⟩
          refine ⟨?_, ?_⟩
          · refine ⟨cs_4, rfl, (T_api_Letter.T.len _ _ _ e_4), ?_⟩
            refine O330.new fun h331 x332 O333 => ?_
            have O335 := O333.recell 4 rfl (cs' := cs_4 ++ []) rfl
            refine ⟨x332, ?_⟩
            refine ⟨?_, ?_⟩
            · have O344 := O335.rowE (l := ([y_4] : List T_api_Letter)) 4 rfl T_api_Letter.T (show CsE _ _ _ _ _ from (CsE.cons (T_api_Letter.T.mono _ _ _ _ Q323.S.up e_4) (T_api_Letter.T.len _ _ _ (T_api_Letter.T.mono _ _ _ _ Q323.S.up e_4)) CsE.nil)) rfl
              refine O344.app 3 rfl rfl rfl ((O344.os 4 rfl).srcE rfl) (by decide) g32 fun A338 c339 h340 O341 => ?_
              refine ⟨_, _, _, rfl, ?_⟩
              refine ⟨_, ldk (k := 1) (Sub.refl _) (O341.all 0 rfl) (T_box_Box.g1 e_3), _, rfl, ?_⟩
              refine ⟨Ext.refl _, ?_⟩
              obtain ⟨m345, u346, ⟨r347, k348⟩, O349⟩ := O341.frz 3 rfl
              replace r347 : Rd 9 T_api_Letter.E m345 A338 l31 := r347
              refine (roadref3_SameBox.walk (Hold.start (W := No) O349.s) (T_box_Box.T.mono _ _ _ _ (Q323.S.up.trans u346) e_7) (show T_box_Box.E _ (T_box_Box.mk l31 y_3.At) [(Value.slice A338 (List.length l31) c339), (Value.int .i64 y_3.At)] from ⟨_, _, rfl, k348, r347⟩) g46).mono ?_
              rintro _ h352 ⟨m353, Q354, rfl⟩
              have O356 := Hold.nm (O349.retC Q354 vfs_nil)
              refine ⟨_, rfl, ?_⟩
              refine split_any_e e (fun c357 e => ?_) (fun c357 e => ?_)
              · cases e
                exact ⟨_, O356.pick [], rfl⟩
              · cases e
                exact ⟨_, O356.pick [], rfl⟩
            · refine ⟨_, ldk (k := 1) (Sub.refl _) (O335.all 0 rfl) (T_box_Box.g1 e_3), _, rfl, ?_⟩
              refine ⟨Ext.refl _, ?_⟩
              have O366 := O335.rowE (l := ([y_4] : List T_api_Letter)) 4 rfl T_api_Letter.T (show CsE _ _ _ _ _ from (CsE.cons (T_api_Letter.T.mono _ _ _ _ Q323.S.up e_4) (T_api_Letter.T.len _ _ _ (T_api_Letter.T.mono _ _ _ _ Q323.S.up e_4)) CsE.nil)) rfl
              refine O366.app 3 rfl rfl rfl ((O366.os 4 rfl).srcE rfl) (by decide) g32 fun A360 c361 h362 O363 => ?_
              refine ⟨_, _, _, rfl, ?_⟩
              obtain ⟨m367, u368, ⟨r369, k370⟩, O371⟩ := O363.frz 3 rfl
              replace r369 : Rd 9 T_api_Letter.E m367 A360 l31 := r369
              refine (roadref3_SameBox.walk (Hold.start (W := No) O371.s) (T_box_Box.T.mono _ _ _ _ (Q323.S.up.trans u368) e_7) (show T_box_Box.E _ (T_box_Box.mk l31 y_3.At) [(Value.slice A360 (List.length l31) c361), (Value.int .i64 y_3.At)] from ⟨_, _, rfl, k370, r369⟩) g46).mono ?_
              rintro _ h374 ⟨m375, Q376, rfl⟩
              have O378 := Hold.nm (O371.retC Q376 vfs_nil)
              refine ⟨_, rfl, ?_⟩
              refine split_any_e e (fun c379 e => ?_) (fun c379 e => ?_)
              · cases e
                exact ⟨_, O378.pick [], rfl⟩
              · cases e
                exact ⟨_, O378.pick [], rfl⟩
          · refine ⟨_, ldk (k := 1) (Sub.refl _) (O330.all 0 rfl) (T_box_Box.g1 e_3), _, rfl, ?_⟩
            refine ⟨Ext.refl _, ?_⟩
            refine ⟨cs_4, rfl, (T_api_Letter.T.len _ _ _ e_4), ?_⟩
            refine O330.new fun h380 x381 O382 => ?_
            have O384 := O382.recell 4 rfl (cs' := cs_4 ++ []) rfl
            refine ⟨x381, ?_⟩
            have O393 := O384.rowE (l := ([y_4] : List T_api_Letter)) 4 rfl T_api_Letter.T (show CsE _ _ _ _ _ from (CsE.cons (T_api_Letter.T.mono _ _ _ _ Q323.S.up e_4) (T_api_Letter.T.len _ _ _ (T_api_Letter.T.mono _ _ _ _ Q323.S.up e_4)) CsE.nil)) rfl
            refine O393.app 3 rfl rfl rfl ((O393.os 4 rfl).srcE rfl) (by decide) g32 fun A387 c388 h389 O390 => ?_
            refine ⟨_, _, _, rfl, ?_⟩
            obtain ⟨m394, u395, ⟨r396, k397⟩, O398⟩ := O390.frz 3 rfl
            replace r396 : Rd 9 T_api_Letter.E m394 A387 l31 := r396
            refine (roadref3_SameBox.walk (Hold.start (W := No) O398.s) (T_box_Box.T.mono _ _ _ _ (Q323.S.up.trans u395) e_7) (show T_box_Box.E _ (T_box_Box.mk l31 y_3.At) [(Value.slice A387 (List.length l31) c388), (Value.int .i64 y_3.At)] from ⟨_, _, rfl, k397, r396⟩) g46).mono ?_
            rintro _ h401 ⟨m402, Q403, rfl⟩
            have O405 := Hold.nm (O398.retC Q403 vfs_nil)
            refine ⟨_, rfl, ?_⟩
            refine split_any_e e (fun c406 e => ?_) (fun c406 e => ?_)
            · cases e
              exact ⟨_, O405.pick [], rfl⟩
            · cases e
              exact ⟨_, O405.pick [], rfl⟩
        · refine ⟨?_, ?_⟩
          · refine ⟨cs_4, rfl, (T_api_Letter.T.len _ _ _ e_4), ?_⟩
            refine O330.new fun h407 x408 O409 => ?_
            have O411 := O409.recell 4 rfl (cs' := cs_4 ++ []) rfl
            refine ⟨x408, ?_⟩
            refine ⟨?_, ?_⟩
            · refine ⟨_, ldAn (Sub.refl _) (O411.all 2 rfl) (T_box_Box.T.len _ _ _ e_7), ?_⟩
              refine ⟨Ext.refl _, ?_⟩
              refine ⟨?_, ?_⟩
              · have O420 := O411.rowE (l := ([y_4] : List T_api_Letter)) 4 rfl T_api_Letter.T (show CsE _ _ _ _ _ from (CsE.cons (T_api_Letter.T.mono _ _ _ _ Q323.S.up e_4) (T_api_Letter.T.len _ _ _ (T_api_Letter.T.mono _ _ _ _ Q323.S.up e_4)) CsE.nil)) rfl
                refine O420.app 3 rfl rfl rfl ((O420.os 4 rfl).srcE rfl) (by decide) g32 fun A414 c415 h416 O417 => ?_
                refine ⟨_, _, _, rfl, ?_⟩
                refine ⟨_, ldk (k := 1) (Sub.refl _) (O417.all 0 rfl) (T_box_Box.g1 e_3), _, rfl, ?_⟩
                refine ⟨Ext.refl _, ?_⟩
                obtain ⟨m421, u422, ⟨r423, k424⟩, O425⟩ := O417.frz 3 rfl
                replace r423 : Rd 9 T_api_Letter.E m421 A414 l31 := r423
                refine (roadref3_SameBox.walk (Hold.start (W := No) O425.s) (T_box_Box.T.mono _ _ _ _ (Q323.S.up.trans u422) e_7) (show T_box_Box.E _ (T_box_Box.mk l31 y_3.At) [(Value.slice A414 (List.length l31) c415), (Value.int .i64 y_3.At)] from ⟨_, _, rfl, k424, r423⟩) g46).mono ?_
                rintro _ h428 ⟨m429, Q430, rfl⟩
                have O432 := Hold.nm (O425.retC Q430 vfs_nil)
                refine ⟨_, rfl, ?_⟩
                refine split_any_e e (fun c433 e => ?_) (fun c433 e => ?_)
                · cases e
                  exact ⟨_, O432.pick [], rfl⟩
                · cases e
                  exact ⟨_, O432.pick [], rfl⟩
              · refine ⟨_, ldk (k := 1) (Sub.refl _) (O411.all 0 rfl) (T_box_Box.g1 e_3), _, rfl, ?_⟩
                refine ⟨Ext.refl _, ?_⟩
                have O442 := O411.rowE (l := ([y_4] : List T_api_Letter)) 4 rfl T_api_Letter.T (show CsE _ _ _ _ _ from (CsE.cons (T_api_Letter.T.mono _ _ _ _ Q323.S.up e_4) (T_api_Letter.T.len _ _ _ (T_api_Letter.T.mono _ _ _ _ Q323.S.up e_4)) CsE.nil)) rfl
                refine O442.app 3 rfl rfl rfl ((O442.os 4 rfl).srcE rfl) (by decide) g32 fun A436 c437 h438 O439 => ?_
                refine ⟨_, _, _, rfl, ?_⟩
                obtain ⟨m443, u444, ⟨r445, k446⟩, O447⟩ := O439.frz 3 rfl
                replace r445 : Rd 9 T_api_Letter.E m443 A436 l31 := r445
                refine (roadref3_SameBox.walk (Hold.start (W := No) O447.s) (T_box_Box.T.mono _ _ _ _ (Q323.S.up.trans u444) e_7) (show T_box_Box.E _ (T_box_Box.mk l31 y_3.At) [(Value.slice A436 (List.length l31) c437), (Value.int .i64 y_3.At)] from ⟨_, _, rfl, k446, r445⟩) g46).mono ?_
                rintro _ h450 ⟨m451, Q452, rfl⟩
                have O454 := Hold.nm (O447.retC Q452 vfs_nil)
                refine ⟨_, rfl, ?_⟩
                refine split_any_e e (fun c455 e => ?_) (fun c455 e => ?_)
                · cases e
                  exact ⟨_, O454.pick [], rfl⟩
                · cases e
                  exact ⟨_, O454.pick [], rfl⟩
            · refine ⟨?_, ?_⟩
              · have O464 := O411.rowE (l := ([y_4] : List T_api_Letter)) 4 rfl T_api_Letter.T (show CsE _ _ _ _ _ from (CsE.cons (T_api_Letter.T.mono _ _ _ _ Q323.S.up e_4) (T_api_Letter.T.len _ _ _ (T_api_Letter.T.mono _ _ _ _ Q323.S.up e_4)) CsE.nil)) rfl
                refine O464.app 3 rfl rfl rfl ((O464.os 4 rfl).srcE rfl) (by decide) g32 fun A458 c459 h460 O461 => ?_
                refine ⟨_, _, _, rfl, ?_⟩
                refine ⟨?_, ?_⟩
                · refine ⟨_, ldAn (Sub.refl _) (O461.all 2 rfl) (T_box_Box.T.len _ _ _ e_7), ?_⟩
                  refine ⟨Ext.refl _, ?_⟩
                  refine ⟨_, ldk (k := 1) (Sub.refl _) (O461.all 0 rfl) (T_box_Box.g1 e_3), _, rfl, ?_⟩
                  refine ⟨Ext.refl _, ?_⟩
                  obtain ⟨m465, u466, ⟨r467, k468⟩, O469⟩ := O461.frz 3 rfl
                  replace r467 : Rd 9 T_api_Letter.E m465 A458 l31 := r467
                  refine (roadref3_SameBox.walk (Hold.start (W := No) O469.s) (T_box_Box.T.mono _ _ _ _ (Q323.S.up.trans u466) e_7) (show T_box_Box.E _ (T_box_Box.mk l31 y_3.At) [(Value.slice A458 (List.length l31) c459), (Value.int .i64 y_3.At)] from ⟨_, _, rfl, k468, r467⟩) g46).mono ?_
                  rintro _ h472 ⟨m473, Q474, rfl⟩
                  have O476 := Hold.nm (O469.retC Q474 vfs_nil)
                  refine ⟨_, rfl, ?_⟩
                  refine split_any_e e (fun c477 e => ?_) (fun c477 e => ?_)
                  · cases e
                    exact ⟨_, O476.pick [], rfl⟩
                  · cases e
                    exact ⟨_, O476.pick [], rfl⟩
                · refine ⟨_, ldk (k := 1) (Sub.refl _) (O461.all 0 rfl) (T_box_Box.g1 e_3), _, rfl, ?_⟩
                  refine ⟨Ext.refl _, ?_⟩
                  refine ⟨?_, ?_⟩
                  · refine ⟨_, ldAn (Sub.refl _) (O461.all 2 rfl) (T_box_Box.T.len _ _ _ e_7), ?_⟩
                    refine ⟨Ext.refl _, ?_⟩
                    obtain ⟨m478, u479, ⟨r480, k481⟩, O482⟩ := O461.frz 3 rfl
                    replace r480 : Rd 9 T_api_Letter.E m478 A458 l31 := r480
                    refine (roadref3_SameBox.walk (Hold.start (W := No) O482.s) (T_box_Box.T.mono _ _ _ _ (Q323.S.up.trans u479) e_7) (show T_box_Box.E _ (T_box_Box.mk l31 y_3.At) [(Value.slice A458 (List.length l31) c459), (Value.int .i64 y_3.At)] from ⟨_, _, rfl, k481, r480⟩) g46).mono ?_
                    rintro _ h485 ⟨m486, Q487, rfl⟩
                    have O489 := Hold.nm (O482.retC Q487 vfs_nil)
                    refine ⟨_, rfl, ?_⟩
                    refine split_any_e e (fun c490 e => ?_) (fun c490 e => ?_)
                    · cases e
                      exact ⟨_, O489.pick [], rfl⟩
                    · cases e
                      exact ⟨_, O489.pick [], rfl⟩
                  · refine ⟨_, ldAn (Sub.refl _) (O461.all 2 rfl) (T_box_Box.T.len _ _ _ e_7), ?_⟩
                    refine ⟨Ext.refl _, ?_⟩
                    obtain ⟨m491, u492, ⟨r493, k494⟩, O495⟩ := O461.frz 3 rfl
                    replace r493 : Rd 9 T_api_Letter.E m491 A458 l31 := r493
                    refine (roadref3_SameBox.walk (Hold.start (W := No) O495.s) (T_box_Box.T.mono _ _ _ _ (Q323.S.up.trans u492) e_7) (show T_box_Box.E _ (T_box_Box.mk l31 y_3.At) [(Value.slice A458 (List.length l31) c459), (Value.int .i64 y_3.At)] from ⟨_, _, rfl, k494, r493⟩) g46).mono ?_
                    rintro _ h498 ⟨m499, Q500, rfl⟩
                    have O502 := Hold.nm (O495.retC Q500 vfs_nil)
                    refine ⟨_, rfl, ?_⟩
                    refine split_any_e e (fun c503 e => ?_) (fun c503 e => ?_)
                    · cases e
                      exact ⟨_, O502.pick [], rfl⟩
                    · cases e
                      exact ⟨_, O502.pick [], rfl⟩
              · refine ⟨_, ldk (k := 1) (Sub.refl _) (O411.all 0 rfl) (T_box_Box.g1 e_3), _, rfl, ?_⟩
                refine ⟨Ext.refl _, ?_⟩
                refine ⟨?_, ?_⟩
                · refine ⟨_, ldAn (Sub.refl _) (O411.all 2 rfl) (T_box_Box.T.len _ _ _ e_7), ?_⟩
                  refine ⟨Ext.refl _, ?_⟩
                  have O512 := O411.rowE (l := ([y_4] : List T_api_Letter)) 4 rfl T_api_Letter.T (show CsE _ _ _ _ _ from (CsE.cons (T_api_Letter.T.mono _ _ _ _ Q323.S.up e_4) (T_api_Letter.T.len _ _ _ (T_api_Letter.T.mono _ _ _ _ Q323.S.up e_4)) CsE.nil)) rfl
                  refine O512.app 3 rfl rfl rfl ((O512.os 4 rfl).srcE rfl) (by decide) g32 fun A506 c507 h508 O509 => ?_
                  refine ⟨_, _, _, rfl, ?_⟩
                  obtain ⟨m513, u514, ⟨r515, k516⟩, O517⟩ := O509.frz 3 rfl
                  replace r515 : Rd 9 T_api_Letter.E m513 A506 l31 := r515
                  refine (roadref3_SameBox.walk (Hold.start (W := No) O517.s) (T_box_Box.T.mono _ _ _ _ (Q323.S.up.trans u514) e_7) (show T_box_Box.E _ (T_box_Box.mk l31 y_3.At) [(Value.slice A506 (List.length l31) c507), (Value.int .i64 y_3.At)] from ⟨_, _, rfl, k516, r515⟩) g46).mono ?_
                  rintro _ h520 ⟨m521, Q522, rfl⟩
                  have O524 := Hold.nm (O517.retC Q522 vfs_nil)
                  refine ⟨_, rfl, ?_⟩
                  refine split_any_e e (fun c525 e => ?_) (fun c525 e => ?_)
                  · cases e
                    exact ⟨_, O524.pick [], rfl⟩
                  · cases e
                    exact ⟨_, O524.pick [], rfl⟩
                · have O534 := O411.rowE (l := ([y_4] : List T_api_Letter)) 4 rfl T_api_Letter.T (show CsE _ _ _ _ _ from (CsE.cons (T_api_Letter.T.mono _ _ _ _ Q323.S.up e_4) (T_api_Letter.T.len _ _ _ (T_api_Letter.T.mono _ _ _ _ Q323.S.up e_4)) CsE.nil)) rfl
                  refine O534.app 3 rfl rfl rfl ((O534.os 4 rfl).srcE rfl) (by decide) g32 fun A528 c529 h530 O531 => ?_
                  refine ⟨_, _, _, rfl, ?_⟩
                  refine ⟨?_, ?_⟩
                  · refine ⟨_, ldAn (Sub.refl _) (O531.all 2 rfl) (T_box_Box.T.len _ _ _ e_7), ?_⟩
                    refine ⟨Ext.refl _, ?_⟩
                    obtain ⟨m535, u536, ⟨r537, k538⟩, O539⟩ := O531.frz 3 rfl
                    replace r537 : Rd 9 T_api_Letter.E m535 A528 l31 := r537
                    refine (roadref3_SameBox.walk (Hold.start (W := No) O539.s) (T_box_Box.T.mono _ _ _ _ (Q323.S.up.trans u536) e_7) (show T_box_Box.E _ (T_box_Box.mk l31 y_3.At) [(Value.slice A528 (List.length l31) c529), (Value.int .i64 y_3.At)] from ⟨_, _, rfl, k538, r537⟩) g46).mono ?_
                    rintro _ h542 ⟨m543, Q544, rfl⟩
                    have O546 := Hold.nm (O539.retC Q544 vfs_nil)
                    refine ⟨_, rfl, ?_⟩
                    refine split_any_e e (fun c547 e => ?_) (fun c547 e => ?_)
                    · cases e
                      exact ⟨_, O546.pick [], rfl⟩
                    · cases e
                      exact ⟨_, O546.pick [], rfl⟩
                  · refine ⟨_, ldAn (Sub.refl _) (O531.all 2 rfl) (T_box_Box.T.len _ _ _ e_7), ?_⟩
                    refine ⟨Ext.refl _, ?_⟩
                    obtain ⟨m548, u549, ⟨r550, k551⟩, O552⟩ := O531.frz 3 rfl
                    replace r550 : Rd 9 T_api_Letter.E m548 A528 l31 := r550
                    refine (roadref3_SameBox.walk (Hold.start (W := No) O552.s) (T_box_Box.T.mono _ _ _ _ (Q323.S.up.trans u549) e_7) (show T_box_Box.E _ (T_box_Box.mk l31 y_3.At) [(Value.slice A528 (List.length l31) c529), (Value.int .i64 y_3.At)] from ⟨_, _, rfl, k551, r550⟩) g46).mono ?_
                    rintro _ h555 ⟨m556, Q557, rfl⟩
                    have O559 := Hold.nm (O552.retC Q557 vfs_nil)
                    refine ⟨_, rfl, ?_⟩
                    refine split_any_e e (fun c560 e => ?_) (fun c560 e => ?_)
                    · cases e
                      exact ⟨_, O559.pick [], rfl⟩
                    · cases e
                      exact ⟨_, O559.pick [], rfl⟩
          · refine ⟨_, ldk (k := 1) (Sub.refl _) (O330.all 0 rfl) (T_box_Box.g1 e_3), _, rfl, ?_⟩
            refine ⟨Ext.refl _, ?_⟩
            refine ⟨?_, ?_⟩
            · refine ⟨_, ldAn (Sub.refl _) (O330.all 2 rfl) (T_box_Box.T.len _ _ _ e_7), ?_⟩
              refine ⟨Ext.refl _, ?_⟩
              refine ⟨cs_4, rfl, (T_api_Letter.T.len _ _ _ e_4), ?_⟩
              refine O330.new fun h561 x562 O563 => ?_
              have O565 := O563.recell 4 rfl (cs' := cs_4 ++ []) rfl
              refine ⟨x562, ?_⟩
              have O574 := O565.rowE (l := ([y_4] : List T_api_Letter)) 4 rfl T_api_Letter.T (show CsE _ _ _ _ _ from (CsE.cons (T_api_Letter.T.mono _ _ _ _ Q323.S.up e_4) (T_api_Letter.T.len _ _ _ (T_api_Letter.T.mono _ _ _ _ Q323.S.up e_4)) CsE.nil)) rfl
              refine O574.app 3 rfl rfl rfl ((O574.os 4 rfl).srcE rfl) (by decide) g32 fun A568 c569 h570 O571 => ?_
              refine ⟨_, _, _, rfl, ?_⟩
              obtain ⟨m575, u576, ⟨r577, k578⟩, O579⟩ := O571.frz 3 rfl
              replace r577 : Rd 9 T_api_Letter.E m575 A568 l31 := r577
              refine (roadref3_SameBox.walk (Hold.start (W := No) O579.s) (T_box_Box.T.mono _ _ _ _ (Q323.S.up.trans u576) e_7) (show T_box_Box.E _ (T_box_Box.mk l31 y_3.At) [(Value.slice A568 (List.length l31) c569), (Value.int .i64 y_3.At)] from ⟨_, _, rfl, k578, r577⟩) g46).mono ?_
              rintro _ h582 ⟨m583, Q584, rfl⟩
              have O586 := Hold.nm (O579.retC Q584 vfs_nil)
              refine ⟨_, rfl, ?_⟩
              refine split_any_e e (fun c587 e => ?_) (fun c587 e => ?_)
              · cases e
                exact ⟨_, O586.pick [], rfl⟩
              · cases e
                exact ⟨_, O586.pick [], rfl⟩
            · refine ⟨cs_4, rfl, (T_api_Letter.T.len _ _ _ e_4), ?_⟩
              refine O330.new fun h588 x589 O590 => ?_
              have O592 := O590.recell 4 rfl (cs' := cs_4 ++ []) rfl
              refine ⟨x589, ?_⟩
              refine ⟨?_, ?_⟩
              · refine ⟨_, ldAn (Sub.refl _) (O592.all 2 rfl) (T_box_Box.T.len _ _ _ e_7), ?_⟩
                refine ⟨Ext.refl _, ?_⟩
                have O601 := O592.rowE (l := ([y_4] : List T_api_Letter)) 4 rfl T_api_Letter.T (show CsE _ _ _ _ _ from (CsE.cons (T_api_Letter.T.mono _ _ _ _ Q323.S.up e_4) (T_api_Letter.T.len _ _ _ (T_api_Letter.T.mono _ _ _ _ Q323.S.up e_4)) CsE.nil)) rfl
                refine O601.app 3 rfl rfl rfl ((O601.os 4 rfl).srcE rfl) (by decide) g32 fun A595 c596 h597 O598 => ?_
                refine ⟨_, _, _, rfl, ?_⟩
                obtain ⟨m602, u603, ⟨r604, k605⟩, O606⟩ := O598.frz 3 rfl
                replace r604 : Rd 9 T_api_Letter.E m602 A595 l31 := r604
                refine (roadref3_SameBox.walk (Hold.start (W := No) O606.s) (T_box_Box.T.mono _ _ _ _ (Q323.S.up.trans u603) e_7) (show T_box_Box.E _ (T_box_Box.mk l31 y_3.At) [(Value.slice A595 (List.length l31) c596), (Value.int .i64 y_3.At)] from ⟨_, _, rfl, k605, r604⟩) g46).mono ?_
                rintro _ h609 ⟨m610, Q611, rfl⟩
                have O613 := Hold.nm (O606.retC Q611 vfs_nil)
                refine ⟨_, rfl, ?_⟩
                refine split_any_e e (fun c614 e => ?_) (fun c614 e => ?_)
                · cases e
                  exact ⟨_, O613.pick [], rfl⟩
                · cases e
                  exact ⟨_, O613.pick [], rfl⟩
              · have O623 := O592.rowE (l := ([y_4] : List T_api_Letter)) 4 rfl T_api_Letter.T (show CsE _ _ _ _ _ from (CsE.cons (T_api_Letter.T.mono _ _ _ _ Q323.S.up e_4) (T_api_Letter.T.len _ _ _ (T_api_Letter.T.mono _ _ _ _ Q323.S.up e_4)) CsE.nil)) rfl
                refine O623.app 3 rfl rfl rfl ((O623.os 4 rfl).srcE rfl) (by decide) g32 fun A617 c618 h619 O620 => ?_
                refine ⟨_, _, _, rfl, ?_⟩
                refine ⟨?_, ?_⟩
                · refine ⟨_, ldAn (Sub.refl _) (O620.all 2 rfl) (T_box_Box.T.len _ _ _ e_7), ?_⟩
                  refine ⟨Ext.refl _, ?_⟩
                  obtain ⟨m624, u625, ⟨r626, k627⟩, O628⟩ := O620.frz 3 rfl
                  replace r626 : Rd 9 T_api_Letter.E m624 A617 l31 := r626
                  refine (roadref3_SameBox.walk (Hold.start (W := No) O628.s) (T_box_Box.T.mono _ _ _ _ (Q323.S.up.trans u625) e_7) (show T_box_Box.E _ (T_box_Box.mk l31 y_3.At) [(Value.slice A617 (List.length l31) c618), (Value.int .i64 y_3.At)] from ⟨_, _, rfl, k627, r626⟩) g46).mono ?_
                  rintro _ h631 ⟨m632, Q633, rfl⟩
                  have O635 := Hold.nm (O628.retC Q633 vfs_nil)
                  refine ⟨_, rfl, ?_⟩
                  refine split_any_e e (fun c636 e => ?_) (fun c636 e => ?_)
                  · cases e
                    exact ⟨_, O635.pick [], rfl⟩
                  · cases e
                    exact ⟨_, O635.pick [], rfl⟩
                · refine ⟨_, ldAn (Sub.refl _) (O620.all 2 rfl) (T_box_Box.T.len _ _ _ e_7), ?_⟩
                  refine ⟨Ext.refl _, ?_⟩
                  obtain ⟨m637, u638, ⟨r639, k640⟩, O641⟩ := O620.frz 3 rfl
                  replace r639 : Rd 9 T_api_Letter.E m637 A617 l31 := r639
                  refine (roadref3_SameBox.walk (Hold.start (W := No) O641.s) (T_box_Box.T.mono _ _ _ _ (Q323.S.up.trans u638) e_7) (show T_box_Box.E _ (T_box_Box.mk l31 y_3.At) [(Value.slice A617 (List.length l31) c618), (Value.int .i64 y_3.At)] from ⟨_, _, rfl, k640, r639⟩) g46).mono ?_
                  rintro _ h644 ⟨m645, Q646, rfl⟩
                  have O648 := Hold.nm (O641.retC Q646 vfs_nil)
                  refine ⟨_, rfl, ?_⟩
                  refine split_any_e e (fun c649 e => ?_) (fun c649 e => ?_)
                  · cases e
                    exact ⟨_, O648.pick [], rfl⟩
                  · cases e
                    exact ⟨_, O648.pick [], rfl⟩
      · refine ⟨?_, ?_⟩
        · refine ⟨cs_4, rfl, (T_api_Letter.T.len _ _ _ e_4), ?_⟩
          refine O.new fun h650 x651 O652 => ?_
          have O654 := O652.recell 3 rfl (cs' := cs_4 ++ []) rfl
          refine ⟨x651, ?_⟩
          refine ⟨?_, ?_⟩
          · refine ⟨_, ldAn (Sub.refl _) (O654.all 2 rfl) (T_box_Box.T.len _ _ _ e_7), ?_⟩
            refine ⟨Ext.refl _, ?_⟩
            refine ⟨?_, ?_⟩
            · refine (slices_Clone_22.walk (Hold.start (W := No) O654.s) rfl k56 r57 g15).mono ?_
              rintro _ h657 ⟨m658, A661, n662, c663, Q659, rfl, ne664⟩
              have O666 := Hold.nm (O654.ret Q659)
              subst ne664
              refine ⟨_, _, _, rfl, ?_⟩
              refine ⟨Q659.S.ext, ?_⟩
              refine ⟨?_, ?_⟩
              · have O675 := O666.rowE (l := ([y_4] : List T_api_Letter)) 3 rfl T_api_Letter.T (show CsE _ _ _ _ _ from (CsE.cons (T_api_Letter.T.mono _ _ _ _ Q659.S.up e_4) (T_api_Letter.T.len _ _ _ (T_api_Letter.T.mono _ _ _ _ Q659.S.up e_4)) CsE.nil)) rfl
                refine O675.app 4 rfl rfl rfl ((O675.os 3 rfl).srcE rfl) (by decide) g32 fun A669 c670 h671 O672 => ?_
                refine ⟨_, _, _, rfl, ?_⟩
                refine ⟨_, ldk (k := 1) (Sub.refl _) (O672.all 0 rfl) (T_box_Box.g1 e_3), _, rfl, ?_⟩
                refine ⟨Ext.refl _, ?_⟩
                obtain ⟨m676, u677, ⟨r678, k679⟩, O680⟩ := O672.frz 4 rfl
                replace r678 : Rd 9 T_api_Letter.E m676 A669 l31 := r678
                refine (roadref3_SameBox.walk (Hold.start (W := No) O680.s) (T_box_Box.T.mono _ _ _ _ (Q659.S.up.trans u677) e_7) (show T_box_Box.E _ (T_box_Box.mk l31 y_3.At) [(Value.slice A669 (List.length l31) c670), (Value.int .i64 y_3.At)] from ⟨_, _, rfl, k679, r678⟩) g46).mono ?_
                rintro _ h683 ⟨m684, Q685, rfl⟩
                have O687 := Hold.nm (O680.retC Q685 vfs_nil)
                refine ⟨_, rfl, ?_⟩
                refine split_any_e e (fun c688 e => ?_) (fun c688 e => ?_)
                · cases e
                  exact ⟨_, O687.pick [], rfl⟩
                · cases e
                  exact ⟨_, O687.pick [], rfl⟩
              · refine ⟨_, ldk (k := 1) (Sub.refl _) (O666.all 0 rfl) (T_box_Box.g1 e_3), _, rfl, ?_⟩
                refine ⟨Ext.refl _, ?_⟩
                have O697 := O666.rowE (l := ([y_4] : List T_api_Letter)) 3 rfl T_api_Letter.T (show CsE _ _ _ _ _ from (CsE.cons (T_api_Letter.T.mono _ _ _ _ Q659.S.up e_4) (T_api_Letter.T.len _ _ _ (T_api_Letter.T.mono _ _ _ _ Q659.S.up e_4)) CsE.nil)) rfl
                refine O697.app 4 rfl rfl rfl ((O697.os 3 rfl).srcE rfl) (by decide) g32 fun A691 c692 h693 O694 => ?_
                refine ⟨_, _, _, rfl, ?_⟩
                obtain ⟨m698, u699, ⟨r700, k701⟩, O702⟩ := O694.frz 4 rfl
                replace r700 : Rd 9 T_api_Letter.E m698 A691 l31 := r700
                refine (roadref3_SameBox.walk (Hold.start (W := No) O702.s) (T_box_Box.T.mono _ _ _ _ (Q659.S.up.trans u699) e_7) (show T_box_Box.E _ (T_box_Box.mk l31 y_3.At) [(Value.slice A691 (List.length l31) c692), (Value.int .i64 y_3.At)] from ⟨_, _, rfl, k701, r700⟩) g46).mono ?_
                rintro _ h705 ⟨m706, Q707, rfl⟩
                have O709 := Hold.nm (O702.retC Q707 vfs_nil)
                refine ⟨_, rfl, ?_⟩
                refine split_any_e e (fun c710 e => ?_) (fun c710 e => ?_)
                · cases e
                  exact ⟨_, O709.pick [], rfl⟩
                · cases e
                  exact ⟨_, O709.pick [], rfl⟩
            · refine ⟨_, ldk (k := 1) (Sub.refl _) (O654.all 0 rfl) (T_box_Box.g1 e_3), _, rfl, ?_⟩
              refine ⟨Ext.refl _, ?_⟩
              refine (slices_Clone_22.walk (Hold.start (W := No) O654.s) rfl k56 r57 g15).mono ?_
              rintro _ h713 ⟨m714, A717, n718, c719, Q715, rfl, ne720⟩
              have O722 := Hold.nm (O654.ret Q715)
              subst ne720
              refine ⟨_, _, _, rfl, ?_⟩
              refine ⟨Q715.S.ext, ?_⟩
              have O731 := O722.rowE (l := ([y_4] : List T_api_Letter)) 3 rfl T_api_Letter.T (show CsE _ _ _ _ _ from (CsE.cons (T_api_Letter.T.mono _ _ _ _ Q715.S.up e_4) (T_api_Letter.T.len _ _ _ (T_api_Letter.T.mono _ _ _ _ Q715.S.up e_4)) CsE.nil)) rfl
              refine O731.app 4 rfl rfl rfl ((O731.os 3 rfl).srcE rfl) (by decide) g32 fun A725 c726 h727 O728 => ?_
              refine ⟨_, _, _, rfl, ?_⟩
              obtain ⟨m732, u733, ⟨r734, k735⟩, O736⟩ := O728.frz 4 rfl
              replace r734 : Rd 9 T_api_Letter.E m732 A725 l31 := r734
              refine (roadref3_SameBox.walk (Hold.start (W := No) O736.s) (T_box_Box.T.mono _ _ _ _ (Q715.S.up.trans u733) e_7) (show T_box_Box.E _ (T_box_Box.mk l31 y_3.At) [(Value.slice A725 (List.length l31) c726), (Value.int .i64 y_3.At)] from ⟨_, _, rfl, k735, r734⟩) g46).mono ?_
              rintro _ h739 ⟨m740, Q741, rfl⟩
              have O743 := Hold.nm (O736.retC Q741 vfs_nil)
              refine ⟨_, rfl, ?_⟩
              refine split_any_e e (fun c744 e => ?_) (fun c744 e => ?_)
              · cases e
                exact ⟨_, O743.pick [], rfl⟩
              · cases e
                exact ⟨_, O743.pick [], rfl⟩
          · refine ⟨?_, ?_⟩
            · refine (slices_Clone_22.walk (Hold.start (W := No) O654.s) rfl k56 r57 g15).mono ?_
              rintro _ h747 ⟨m748, A751, n752, c753, Q749, rfl, ne754⟩
              have O756 := Hold.nm (O654.ret Q749)
              subst ne754
              refine ⟨_, _, _, rfl, ?_⟩
              refine ⟨Q749.S.ext, ?_⟩
              refine ⟨?_, ?_⟩
              · refine ⟨_, ldAn (Sub.refl _) (O756.all 2 rfl) (T_box_Box.T.len _ _ _ e_7), ?_⟩
                refine ⟨Ext.refl _, ?_⟩
                refine ⟨?_, ?_⟩
                · have O765 := O756.rowE (l := ([y_4] : List T_api_Letter)) 3 rfl T_api_Letter.T (show CsE _ _ _ _ _ from (CsE.cons (T_api_Letter.T.mono _ _ _ _ Q749.S.up e_4) (T_api_Letter.T.len _ _ _ (T_api_Letter.T.mono _ _ _ _ Q749.S.up e_4)) CsE.nil)) rfl
                  refine O765.app 4 rfl rfl rfl ((O765.os 3 rfl).srcE rfl) (by decide) g32 fun A759 c760 h761 O762 => ?_
                  refine ⟨_, _, _, rfl, ?_⟩
                  refine ⟨_, ldk (k := 1) (Sub.refl _) (O762.all 0 rfl) (T_box_Box.g1 e_3), _, rfl, ?_⟩
                  refine ⟨Ext.refl _, ?_⟩
                  obtain ⟨m766, u767, ⟨r768, k769⟩, O770⟩ := O762.frz 4 rfl
                  replace r768 : Rd 9 T_api_Letter.E m766 A759 l31 := r768
                  refine (roadref3_SameBox.walk (Hold.start (W := No) O770.s) (T_box_Box.T.mono _ _ _ _ (Q749.S.up.trans u767) e_7) (show T_box_Box.E _ (T_box_Box.mk l31 y_3.At) [(Value.slice A759 (List.length l31) c760), (Value.int .i64 y_3.At)] from ⟨_, _, rfl, k769, r768⟩) g46).mono ?_
                  rintro _ h773 ⟨m774, Q775, rfl⟩
                  have O777 := Hold.nm (O770.retC Q775 vfs_nil)
                  refine ⟨_, rfl, ?_⟩
                  refine split_any_e e (fun c778 e => ?_) (fun c778 e => ?_)
                  · cases e
                    exact ⟨_, O777.pick [], rfl⟩
                  · cases e
                    exact ⟨_, O777.pick [], rfl⟩
                · refine ⟨_, ldk (k := 1) (Sub.refl _) (O756.all 0 rfl) (T_box_Box.g1 e_3), _, rfl, ?_⟩
                  refine ⟨Ext.refl _, ?_⟩
                  have O787 := O756.rowE (l := ([y_4] : List T_api_Letter)) 3 rfl T_api_Letter.T (show CsE _ _ _ _ _ from (CsE.cons (T_api_Letter.T.mono _ _ _ _ Q749.S.up e_4) (T_api_Letter.T.len _ _ _ (T_api_Letter.T.mono _ _ _ _ Q749.S.up e_4)) CsE.nil)) rfl
                  refine O787.app 4 rfl rfl rfl ((O787.os 3 rfl).srcE rfl) (by decide) g32 fun A781 c782 h783 O784 => ?_
                  refine ⟨_, _, _, rfl, ?_⟩
                  obtain ⟨m788, u789, ⟨r790, k791⟩, O792⟩ := O784.frz 4 rfl
                  replace r790 : Rd 9 T_api_Letter.E m788 A781 l31 := r790
                  refine (roadref3_SameBox.walk (Hold.start (W := No) O792.s) (T_box_Box.T.mono _ _ _ _ (Q749.S.up.trans u789) e_7) (show T_box_Box.E _ (T_box_Box.mk l31 y_3.At) [(Value.slice A781 (List.length l31) c782), (Value.int .i64 y_3.At)] from ⟨_, _, rfl, k791, r790⟩) g46).mono ?_
                  rintro _ h795 ⟨m796, Q797, rfl⟩
                  have O799 := Hold.nm (O792.retC Q797 vfs_nil)
                  refine ⟨_, rfl, ?_⟩
                  refine split_any_e e (fun c800 e => ?_) (fun c800 e => ?_)
                  · cases e
                    exact ⟨_, O799.pick [], rfl⟩
                  · cases e
                    exact ⟨_, O799.pick [], rfl⟩
              · refine ⟨?_, ?_⟩
                · have O809 := O756.rowE (l := ([y_4] : List T_api_Letter)) 3 rfl T_api_Letter.T (show CsE _ _ _ _ _ from (CsE.cons (T_api_Letter.T.mono _ _ _ _ Q749.S.up e_4) (T_api_Letter.T.len _ _ _ (T_api_Letter.T.mono _ _ _ _ Q749.S.up e_4)) CsE.nil)) rfl
                  refine O809.app 4 rfl rfl rfl ((O809.os 3 rfl).srcE rfl) (by decide) g32 fun A803 c804 h805 O806 => ?_
                  refine ⟨_, _, _, rfl, ?_⟩
                  refine ⟨?_, ?_⟩
                  · refine ⟨_, ldAn (Sub.refl _) (O806.all 2 rfl) (T_box_Box.T.len _ _ _ e_7), ?_⟩
                    refine ⟨Ext.refl _, ?_⟩
                    refine ⟨_, ldk (k := 1) (Sub.refl _) (O806.all 0 rfl) (T_box_Box.g1 e_3), _, rfl, ?_⟩
                    refine ⟨Ext.refl _, ?_⟩
                    obtain ⟨m810, u811, ⟨r812, k813⟩, O814⟩ := O806.frz 4 rfl
                    replace r812 : Rd 9 T_api_Letter.E m810 A803 l31 := r812
                    refine (roadref3_SameBox.walk (Hold.start (W := No) O814.s) (T_box_Box.T.mono _ _ _ _ (Q749.S.up.trans u811) e_7) (show T_box_Box.E _ (T_box_Box.mk l31 y_3.At) [(Value.slice A803 (List.length l31) c804), (Value.int .i64 y_3.At)] from ⟨_, _, rfl, k813, r812⟩) g46).mono ?_
                    rintro _ h817 ⟨m818, Q819, rfl⟩
                    have O821 := Hold.nm (O814.retC Q819 vfs_nil)
                    refine ⟨_, rfl, ?_⟩
                    refine split_any_e e (fun c822 e => ?_) (fun c822 e => ?_)
                    · cases e
                      exact ⟨_, O821.pick [], rfl⟩
                    · cases e
                      exact ⟨_, O821.pick [], rfl⟩
                  · refine ⟨_, ldk (k := 1) (Sub.refl _) (O806.all 0 rfl) (T_box_Box.g1 e_3), _, rfl, ?_⟩
                    refine ⟨Ext.refl _, ?_⟩
                    refine ⟨?_, ?_⟩
                    · refine ⟨_, ldAn (Sub.refl _) (O806.all 2 rfl) (T_box_Box.T.len _ _ _ e_7), ?_⟩
                      refine ⟨Ext.refl _, ?_⟩
                      obtain ⟨m823, u824, ⟨r825, k826⟩, O827⟩ := O806.frz 4 rfl
                      replace r825 : Rd 9 T_api_Letter.E m823 A803 l31 := r825
                      refine (roadref3_SameBox.walk (Hold.start (W := No) O827.s) (T_box_Box.T.mono _ _ _ _ (Q749.S.up.trans u824) e_7) (show T_box_Box.E _ (T_box_Box.mk l31 y_3.At) [(Value.slice A803 (List.length l31) c804), (Value.int .i64 y_3.At)] from ⟨_, _, rfl, k826, r825⟩) g46).mono ?_
                      rintro _ h830 ⟨m831, Q832, rfl⟩
                      have O834 := Hold.nm (O827.retC Q832 vfs_nil)
                      refine ⟨_, rfl, ?_⟩
                      refine split_any_e e (fun c835 e => ?_) (fun c835 e => ?_)
                      · cases e
                        exact ⟨_, O834.pick [], rfl⟩
                      · cases e
                        exact ⟨_, O834.pick [], rfl⟩
                    · refine ⟨_, ldAn (Sub.refl _) (O806.all 2 rfl) (T_box_Box.T.len _ _ _ e_7), ?_⟩
                      refine ⟨Ext.refl _, ?_⟩
                      obtain ⟨m836, u837, ⟨r838, k839⟩, O840⟩ := O806.frz 4 rfl
                      replace r838 : Rd 9 T_api_Letter.E m836 A803 l31 := r838
                      refine (roadref3_SameBox.walk (Hold.start (W := No) O840.s) (T_box_Box.T.mono _ _ _ _ (Q749.S.up.trans u837) e_7) (show T_box_Box.E _ (T_box_Box.mk l31 y_3.At) [(Value.slice A803 (List.length l31) c804), (Value.int .i64 y_3.At)] from ⟨_, _, rfl, k839, r838⟩) g46).mono ?_
                      rintro _ h843 ⟨m844, Q845, rfl⟩
                      have O847 := Hold.nm (O840.retC Q845 vfs_nil)
                      refine ⟨_, rfl, ?_⟩
                      refine split_any_e e (fun c848 e => ?_) (fun c848 e => ?_)
                      · cases e
                        exact ⟨_, O847.pick [], rfl⟩
                      · cases e
                        exact ⟨_, O847.pick [], rfl⟩
                · refine ⟨_, ldk (k := 1) (Sub.refl _) (O756.all 0 rfl) (T_box_Box.g1 e_3), _, rfl, ?_⟩
                  refine ⟨Ext.refl _, ?_⟩
                  refine ⟨?_, ?_⟩
                  · refine ⟨_, ldAn (Sub.refl _) (O756.all 2 rfl) (T_box_Box.T.len _ _ _ e_7), ?_⟩
                    refine ⟨Ext.refl _, ?_⟩
                    have O857 := O756.rowE (l := ([y_4] : List T_api_Letter)) 3 rfl T_api_Letter.T (show CsE _ _ _ _ _ from (CsE.cons (T_api_Letter.T.mono _ _ _ _ Q749.S.up e_4) (T_api_Letter.T.len _ _ _ (T_api_Letter.T.mono _ _ _ _ Q749.S.up e_4)) CsE.nil)) rfl
                    refine O857.app 4 rfl rfl rfl ((O857.os 3 rfl).srcE rfl) (by decide) g32 fun A851 c852 h853 O854 => ?_
                    refine ⟨_, _, _, rfl, ?_⟩
                    obtain ⟨m858, u859, ⟨r860, k861⟩, O862⟩ := O854.frz 4 rfl
                    replace r860 : Rd 9 T_api_Letter.E m858 A851 l31 := r860
                    refine (roadref3_SameBox.walk (Hold.start (W := No) O862.s) (T_box_Box.T.mono _ _ _ _ (Q749.S.up.trans u859) e_7) (show T_box_Box.E _ (T_box_Box.mk l31 y_3.At) [(Value.slice A851 (List.length l31) c852), (Value.int .i64 y_3.At)] from ⟨_, _, rfl, k861, r860⟩) g46).mono ?_
                    rintro _ h865 ⟨m866, Q867, rfl⟩
                    have O869 := Hold.nm (O862.retC Q867 vfs_nil)
                    refine ⟨_, rfl, ?_⟩
                    refine split_any_e e (fun c870 e => ?_) (fun c870 e => ?_)
                    · cases e
                      exact ⟨_, O869.pick [], rfl⟩
                    · cases e
                      exact ⟨_, O869.pick [], rfl⟩
                  · have O879 := O756.rowE (l := ([y_4] : List T_api_Letter)) 3 rfl T_api_Letter.T (show CsE _ _ _ _ _ from (CsE.cons (T_api_Letter.T.mono _ _ _ _ Q749.S.up e_4) (T_api_Letter.T.len _ _ _ (T_api_Letter.T.mono _ _ _ _ Q749.S.up e_4)) CsE.nil)) rfl
                    refine O879.app 4 rfl rfl rfl ((O879.os 3 rfl).srcE rfl) (by decide) g32 fun A873 c874 h875 O876 => ?_
                    refine ⟨_, _, _, rfl, ?_⟩
                    refine ⟨?_, ?_⟩
                    · refine ⟨_, ldAn (Sub.refl _) (O876.all 2 rfl) (T_box_Box.T.len _ _ _ e_7), ?_⟩
                      refine ⟨Ext.refl _, ?_⟩
                      obtain ⟨m880, u881, ⟨r882, k883⟩, O884⟩ := O876.frz 4 rfl
                      replace r882 : Rd 9 T_api_Letter.E m880 A873 l31 := r882
                      refine (roadref3_SameBox.walk (Hold.start (W := No) O884.s) (T_box_Box.T.mono _ _ _ _ (Q749.S.up.trans u881) e_7) (show T_box_Box.E _ (T_box_Box.mk l31 y_3.At) [(Value.slice A873 (List.length l31) c874), (Value.int .i64 y_3.At)] from ⟨_, _, rfl, k883, r882⟩) g46).mono ?_
                      rintro _ h887 ⟨m888, Q889, rfl⟩
                      have O891 := Hold.nm (O884.retC Q889 vfs_nil)
                      refine ⟨_, rfl, ?_⟩
                      refine split_any_e e (fun c892 e => ?_) (fun c892 e => ?_)
                      · cases e
                        exact ⟨_, O891.pick [], rfl⟩
                      · cases e
                        exact ⟨_, O891.pick [], rfl⟩
                    · refine ⟨_, ldAn (Sub.refl _) (O876.all 2 rfl) (T_box_Box.T.len _ _ _ e_7), ?_⟩
                      refine ⟨Ext.refl _, ?_⟩
                      obtain ⟨m893, u894, ⟨r895, k896⟩, O897⟩ := O876.frz 4 rfl
                      replace r895 : Rd 9 T_api_Letter.E m893 A873 l31 := r895
                      refine (roadref3_SameBox.walk (Hold.start (W := No) O897.s) (T_box_Box.T.mono _ _ _ _ (Q749.S.up.trans u894) e_7) (show T_box_Box.E _ (T_box_Box.mk l31 y_3.At) [(Value.slice A873 (List.length l31) c874), (Value.int .i64 y_3.At)] from ⟨_, _, rfl, k896, r895⟩) g46).mono ?_
                      rintro _ h900 ⟨m901, Q902, rfl⟩
                      have O904 := Hold.nm (O897.retC Q902 vfs_nil)
                      refine ⟨_, rfl, ?_⟩
                      refine split_any_e e (fun c905 e => ?_) (fun c905 e => ?_)
                      · cases e
                        exact ⟨_, O904.pick [], rfl⟩
                      · cases e
                        exact ⟨_, O904.pick [], rfl⟩
            · refine ⟨_, ldk (k := 1) (Sub.refl _) (O654.all 0 rfl) (T_box_Box.g1 e_3), _, rfl, ?_⟩
              refine ⟨Ext.refl _, ?_⟩
              refine ⟨?_, ?_⟩
              · refine ⟨_, ldAn (Sub.refl _) (O654.all 2 rfl) (T_box_Box.T.len _ _ _ e_7), ?_⟩
                refine ⟨Ext.refl _, ?_⟩
                refine (slices_Clone_22.walk (Hold.start (W := No) O654.s) rfl k56 r57 g15).mono ?_
                rintro _ h908 ⟨m909, A912, n913, c914, Q910, rfl, ne915⟩
                have O917 := Hold.nm (O654.ret Q910)
                subst ne915
                refine ⟨_, _, _, rfl, ?_⟩
                refine ⟨Q910.S.ext, ?_⟩
                have O926 := O917.rowE (l := ([y_4] : List T_api_Letter)) 3 rfl T_api_Letter.T (show CsE _ _ _ _ _ from (CsE.cons (T_api_Letter.T.mono _ _ _ _ Q910.S.up e_4) (T_api_Letter.T.len _ _ _ (T_api_Letter.T.mono _ _ _ _ Q910.S.up e_4)) CsE.nil)) rfl
                refine O926.app 4 rfl rfl rfl ((O926.os 3 rfl).srcE rfl) (by decide) g32 fun A920 c921 h922 O923 => ?_
                refine ⟨_, _, _, rfl, ?_⟩
                obtain ⟨m927, u928, ⟨r929, k930⟩, O931⟩ := O923.frz 4 rfl
                replace r929 : Rd 9 T_api_Letter.E m927 A920 l31 := r929
                refine (roadref3_SameBox.walk (Hold.start (W := No) O931.s) (T_box_Box.T.mono _ _ _ _ (Q910.S.up.trans u928) e_7) (show T_box_Box.E _ (T_box_Box.mk l31 y_3.At) [(Value.slice A920 (List.length l31) c921), (Value.int .i64 y_3.At)] from ⟨_, _, rfl, k930, r929⟩) g46).mono ?_
                rintro _ h934 ⟨m935, Q936, rfl⟩
                have O938 := Hold.nm (O931.retC Q936 vfs_nil)
                refine ⟨_, rfl, ?_⟩
                refine split_any_e e (fun c939 e => ?_) (fun c939 e => ?_)
                · cases e
                  exact ⟨_, O938.pick [], rfl⟩
                · cases e
                  exact ⟨_, O938.pick [], rfl⟩
              · refine (slices_Clone_22.walk (Hold.start (W := No) O654.s) rfl k56 r57 g15).mono ?_
                rintro _ h942 ⟨m943, A946, n947, c948, Q944, rfl, ne949⟩
                have O951 := Hold.nm (O654.ret Q944)
                subst ne949
                refine ⟨_, _, _, rfl, ?_⟩
                refine ⟨Q944.S.ext, ?_⟩
                refine ⟨?_, ?_⟩
                · refine ⟨_, ldAn (Sub.refl _) (O951.all 2 rfl) (T_box_Box.T.len _ _ _ e_7), ?_⟩
                  refine ⟨Ext.refl _, ?_⟩
                  have O960 := O951.rowE (l := ([y_4] : List T_api_Letter)) 3 rfl T_api_Letter.T (show CsE _ _ _ _ _ from (CsE.cons (T_api_Letter.T.mono _ _ _ _ Q944.S.up e_4) (T_api_Letter.T.len _ _ _ (T_api_Letter.T.mono _ _ _ _ Q944.S.up e_4)) CsE.nil)) rfl
                  refine O960.app 4 rfl rfl rfl ((O960.os 3 rfl).srcE rfl) (by decide) g32 fun A954 c955 h956 O957 => ?_
                  refine ⟨_, _, _, rfl, ?_⟩
                  obtain ⟨m961, u962, ⟨r963, k964⟩, O965⟩ := O957.frz 4 rfl
                  replace r963 : Rd 9 T_api_Letter.E m961 A954 l31 := r963
                  refine (roadref3_SameBox.walk (Hold.start (W := No) O965.s) (T_box_Box.T.mono _ _ _ _ (Q944.S.up.trans u962) e_7) (show T_box_Box.E _ (T_box_Box.mk l31 y_3.At) [(Value.slice A954 (List.length l31) c955), (Value.int .i64 y_3.At)] from ⟨_, _, rfl, k964, r963⟩) g46).mono ?_
                  rintro _ h968 ⟨m969, Q970, rfl⟩
                  have O972 := Hold.nm (O965.retC Q970 vfs_nil)
                  refine ⟨_, rfl, ?_⟩
                  refine split_any_e e (fun c973 e => ?_) (fun c973 e => ?_)
                  · cases e
                    exact ⟨_, O972.pick [], rfl⟩
                  · cases e
                    exact ⟨_, O972.pick [], rfl⟩
                · have O982 := O951.rowE (l := ([y_4] : List T_api_Letter)) 3 rfl T_api_Letter.T (show CsE _ _ _ _ _ from (CsE.cons (T_api_Letter.T.mono _ _ _ _ Q944.S.up e_4) (T_api_Letter.T.len _ _ _ (T_api_Letter.T.mono _ _ _ _ Q944.S.up e_4)) CsE.nil)) rfl
                  refine O982.app 4 rfl rfl rfl ((O982.os 3 rfl).srcE rfl) (by decide) g32 fun A976 c977 h978 O979 => ?_
                  refine ⟨_, _, _, rfl, ?_⟩
                  refine ⟨?_, ?_⟩
                  · refine ⟨_, ldAn (Sub.refl _) (O979.all 2 rfl) (T_box_Box.T.len _ _ _ e_7), ?_⟩
                    refine ⟨Ext.refl _, ?_⟩
                    obtain ⟨m983, u984, ⟨r985, k986⟩, O987⟩ := O979.frz 4 rfl
                    replace r985 : Rd 9 T_api_Letter.E m983 A976 l31 := r985
                    refine (roadref3_SameBox.walk (Hold.start (W := No) O987.s) (T_box_Box.T.mono _ _ _ _ (Q944.S.up.trans u984) e_7) (show T_box_Box.E _ (T_box_Box.mk l31 y_3.At) [(Value.slice A976 (List.length l31) c977), (Value.int .i64 y_3.At)] from ⟨_, _, rfl, k986, r985⟩) g46).mono ?_
                    rintro _ h990 ⟨m991, Q992, rfl⟩
                    have O994 := Hold.nm (O987.retC Q992 vfs_nil)
                    refine ⟨_, rfl, ?_⟩
                    refine split_any_e e (fun c995 e => ?_) (fun c995 e => ?_)
                    · cases e
                      exact ⟨_, O994.pick [], rfl⟩
                    · cases e
                      exact ⟨_, O994.pick [], rfl⟩
                  · refine ⟨_, ldAn (Sub.refl _) (O979.all 2 rfl) (T_box_Box.T.len _ _ _ e_7), ?_⟩
                    refine ⟨Ext.refl _, ?_⟩
                    obtain ⟨m996, u997, ⟨r998, k999⟩, O1000⟩ := O979.frz 4 rfl
                    replace r998 : Rd 9 T_api_Letter.E m996 A976 l31 := r998
                    refine (roadref3_SameBox.walk (Hold.start (W := No) O1000.s) (T_box_Box.T.mono _ _ _ _ (Q944.S.up.trans u997) e_7) (show T_box_Box.E _ (T_box_Box.mk l31 y_3.At) [(Value.slice A976 (List.length l31) c977), (Value.int .i64 y_3.At)] from ⟨_, _, rfl, k999, r998⟩) g46).mono ?_
                    rintro _ h1003 ⟨m1004, Q1005, rfl⟩
                    have O1007 := Hold.nm (O1000.retC Q1005 vfs_nil)
                    refine ⟨_, rfl, ?_⟩
                    refine split_any_e e (fun c1008 e => ?_) (fun c1008 e => ?_)
                    · cases e
                      exact ⟨_, O1007.pick [], rfl⟩
                    · cases e
                      exact ⟨_, O1007.pick [], rfl⟩
        · refine ⟨_, ldk (k := 1) (Sub.refl _) (O.all 0 rfl) (T_box_Box.g1 e_3), _, rfl, ?_⟩
          refine ⟨Ext.refl _, ?_⟩
          refine ⟨?_, ?_⟩
          · refine ⟨_, ldAn (Sub.refl _) (O.all 2 rfl) (T_box_Box.T.len _ _ _ e_7), ?_⟩
            refine ⟨Ext.refl _, ?_⟩
            refine ⟨?_, ?_⟩
            · refine (slices_Clone_22.walk (Hold.start (W := No) O.s) rfl k56 r57 g15).mono ?_
              rintro _ h1011 ⟨m1012, A1015, n1016, c1017, Q1013, rfl, ne1018⟩
              have O1020 := Hold.nm (O.ret Q1013)
              subst ne1018
              refine ⟨_, _, _, rfl, ?_⟩
              refine ⟨Q1013.S.ext, ?_⟩
              refine ⟨cs_4, rfl, (T_api_Letter.T.len _ _ _ e_4), ?_⟩
              refine O1020.new fun h1021 x1022 O1023 => ?_
              have O1025 := O1023.recell 4 rfl (cs' := cs_4 ++ []) rfl
              refine ⟨x1022, ?_⟩
              have O1034 := O1025.rowE (l := ([y_4] : List T_api_Letter)) 4 rfl T_api_Letter.T (show CsE _ _ _ _ _ from (CsE.cons (T_api_Letter.T.mono _ _ _ _ Q1013.S.up e_4) (T_api_Letter.T.len _ _ _ (T_api_Letter.T.mono _ _ _ _ Q1013.S.up e_4)) CsE.nil)) rfl
              refine O1034.app 3 rfl rfl rfl ((O1034.os 4 rfl).srcE rfl) (by decide) g32 fun A1028 c1029 h1030 O1031 => ?_
              refine ⟨_, _, _, rfl, ?_⟩
              obtain ⟨m1035, u1036, ⟨r1037, k1038⟩, O1039⟩ := O1031.frz 3 rfl
              replace r1037 : Rd 9 T_api_Letter.E m1035 A1028 l31 := r1037
              refine (roadref3_SameBox.walk (Hold.start (W := No) O1039.s) (T_box_Box.T.mono _ _ _ _ (Q1013.S.up.trans u1036) e_7) (show T_box_Box.E _ (T_box_Box.mk l31 y_3.At) [(Value.slice A1028 (List.length l31) c1029), (Value.int .i64 y_3.At)] from ⟨_, _, rfl, k1038, r1037⟩) g46).mono ?_
              rintro _ h1042 ⟨m1043, Q1044, rfl⟩
              have O1046 := Hold.nm (O1039.retC Q1044 vfs_nil)
              refine ⟨_, rfl, ?_⟩
              refine split_any_e e (fun c1047 e => ?_) (fun c1047 e => ?_)
              · cases e
                exact ⟨_, O1046.pick [], rfl⟩
              · cases e
                exact ⟨_, O1046.pick [], rfl⟩
            · refine ⟨cs_4, rfl, (T_api_Letter.T.len _ _ _ e_4), ?_⟩
              refine O.new fun h1048 x1049 O1050 => ?_
              have O1052 := O1050.recell 3 rfl (cs' := cs_4 ++ []) rfl
              refine ⟨x1049, ?_⟩
              refine (slices_Clone_22.walk (Hold.start (W := No) O1052.s) rfl k56 r57 g15).mono ?_
              rintro _ h1055 ⟨m1056, A1059, n1060, c1061, Q1057, rfl, ne1062⟩
              have O1064 := Hold.nm (O1052.ret Q1057)
              subst ne1062
              refine ⟨_, _, _, rfl, ?_⟩
              refine ⟨Q1057.S.ext, ?_⟩
              have O1073 := O1064.rowE (l := ([y_4] : List T_api_Letter)) 3 rfl T_api_Letter.T (show CsE _ _ _ _ _ from (CsE.cons (T_api_Letter.T.mono _ _ _ _ Q1057.S.up e_4) (T_api_Letter.T.len _ _ _ (T_api_Letter.T.mono _ _ _ _ Q1057.S.up e_4)) CsE.nil)) rfl
              refine O1073.app 4 rfl rfl rfl ((O1073.os 3 rfl).srcE rfl) (by decide) g32 fun A1067 c1068 h1069 O1070 => ?_
              refine ⟨_, _, _, rfl, ?_⟩
              obtain ⟨m1074, u1075, ⟨r1076, k1077⟩, O1078⟩ := O1070.frz 4 rfl
              replace r1076 : Rd 9 T_api_Letter.E m1074 A1067 l31 := r1076
              refine (roadref3_SameBox.walk (Hold.start (W := No) O1078.s) (T_box_Box.T.mono _ _ _ _ (Q1057.S.up.trans u1075) e_7) (show T_box_Box.E _ (T_box_Box.mk l31 y_3.At) [(Value.slice A1067 (List.length l31) c1068), (Value.int .i64 y_3.At)] from ⟨_, _, rfl, k1077, r1076⟩) g46).mono ?_
              rintro _ h1081 ⟨m1082, Q1083, rfl⟩
              have O1085 := Hold.nm (O1078.retC Q1083 vfs_nil)
              refine ⟨_, rfl, ?_⟩
              refine split_any_e e (fun c1086 e => ?_) (fun c1086 e => ?_)
              · cases e
                exact ⟨_, O1085.pick [], rfl⟩
              · cases e
                exact ⟨_, O1085.pick [], rfl⟩
          · refine ⟨?_, ?_⟩
            · refine (slices_Clone_22.walk (Hold.start (W := No) O.s) rfl k56 r57 g15).mono ?_
              rintro _ h1089 ⟨m1090, A1093, n1094, c1095, Q1091, rfl, ne1096⟩
              have O1098 := Hold.nm (O.ret Q1091)
              subst ne1096
              refine ⟨_, _, _, rfl, ?_⟩
              refine ⟨Q1091.S.ext, ?_⟩
              refine ⟨?_, ?_⟩
              · refine ⟨_, ldAn (Sub.refl _) (O1098.all 2 rfl) (T_box_Box.T.len _ _ _ e_7), ?_⟩
                refine ⟨Ext.refl _, ?_⟩
                refine ⟨cs_4, rfl, (T_api_Letter.T.len _ _ _ e_4), ?_⟩
                refine O1098.new fun h1099 x1100 O1101 => ?_
                have O1103 := O1101.recell 4 rfl (cs' := cs_4 ++ []) rfl
                refine ⟨x1100, ?_⟩
                have O1112 := O1103.rowE (l := ([y_4] : List T_api_Letter)) 4 rfl T_api_Letter.T (show CsE _ _ _ _ _ from (CsE.cons (T_api_Letter.T.mono _ _ _ _ Q1091.S.up e_4) (T_api_Letter.T.len _ _ _ (T_api_Letter.T.mono _ _ _ _ Q1091.S.up e_4)) CsE.nil)) rfl
                refine O1112.app 3 rfl rfl rfl ((O1112.os 4 rfl).srcE rfl) (by decide) g32 fun A1106 c1107 h1108 O1109 => ?_
                refine ⟨_, _, _, rfl, ?_⟩
                obtain ⟨m1113, u1114, ⟨r1115, k1116⟩, O1117⟩ := O1109.frz 3 rfl
                replace r1115 : Rd 9 T_api_Letter.E m1113 A1106 l31 := r1115
                refine (roadref3_SameBox.walk (Hold.start (W := No) O1117.s) (T_box_Box.T.mono _ _ _ _ (Q1091.S.up.trans u1114) e_7) (show T_box_Box.E _ (T_box_Box.mk l31 y_3.At) [(Value.slice A1106 (List.length l31) c1107), (Value.int .i64 y_3.At)] from ⟨_, _, rfl, k1116, r1115⟩) g46).mono ?_
                rintro _ h1120 ⟨m1121, Q1122, rfl⟩
                have O1124 := Hold.nm (O1117.retC Q1122 vfs_nil)
                refine ⟨_, rfl, ?_⟩
                refine split_any_e e (fun c1125 e => ?_) (fun c1125 e => ?_)
                · cases e
                  exact ⟨_, O1124.pick [], rfl⟩
                · cases e
                  exact ⟨_, O1124.pick [], rfl⟩
              · refine ⟨cs_4, rfl, (T_api_Letter.T.len _ _ _ e_4), ?_⟩
                refine O1098.new fun h1126 x1127 O1128 => ?_
                have O1130 := O1128.recell 4 rfl (cs' := cs_4 ++ []) rfl
                refine ⟨x1127, ?_⟩
                refine ⟨?_, ?_⟩
                · refine ⟨_, ldAn (Sub.refl _) (O1130.all 2 rfl) (T_box_Box.T.len _ _ _ e_7), ?_⟩
                  refine ⟨Ext.refl _, ?_⟩
                  have O1139 := O1130.rowE (l := ([y_4] : List T_api_Letter)) 4 rfl T_api_Letter.T (show CsE _ _ _ _ _ from (CsE.cons (T_api_Letter.T.mono _ _ _ _ Q1091.S.up e_4) (T_api_Letter.T.len _ _ _ (T_api_Letter.T.mono _ _ _ _ Q1091.S.up e_4)) CsE.nil)) rfl
                  refine O1139.app 3 rfl rfl rfl ((O1139.os 4 rfl).srcE rfl) (by decide) g32 fun A1133 c1134 h1135 O1136 => ?_
                  refine ⟨_, _, _, rfl, ?_⟩
                  obtain ⟨m1140, u1141, ⟨r1142, k1143⟩, O1144⟩ := O1136.frz 3 rfl
                  replace r1142 : Rd 9 T_api_Letter.E m1140 A1133 l31 := r1142
                  refine (roadref3_SameBox.walk (Hold.start (W := No) O1144.s) (T_box_Box.T.mono _ _ _ _ (Q1091.S.up.trans u1141) e_7) (show T_box_Box.E _ (T_box_Box.mk l31 y_3.At) [(Value.slice A1133 (List.length l31) c1134), (Value.int .i64 y_3.At)] from ⟨_, _, rfl, k1143, r1142⟩) g46).mono ?_
                  rintro _ h1147 ⟨m1148, Q1149, rfl⟩
                  have O1151 := Hold.nm (O1144.retC Q1149 vfs_nil)
                  refine ⟨_, rfl, ?_⟩
                  refine split_any_e e (fun c1152 e => ?_) (fun c1152 e => ?_)
                  · cases e
                    exact ⟨_, O1151.pick [], rfl⟩
                  · cases e
                    exact ⟨_, O1151.pick [], rfl⟩
                · have O1161 := O1130.rowE (l := ([y_4] : List T_api_Letter)) 4 rfl T_api_Letter.T (show CsE _ _ _ _ _ from (CsE.cons (T_api_Letter.T.mono _ _ _ _ Q1091.S.up e_4) (T_api_Letter.T.len _ _ _ (T_api_Letter.T.mono _ _ _ _ Q1091.S.up e_4)) CsE.nil)) rfl
                  refine O1161.app 3 rfl rfl rfl ((O1161.os 4 rfl).srcE rfl) (by decide) g32 fun A1155 c1156 h1157 O1158 => ?_
                  refine ⟨_, _, _, rfl, ?_⟩
                  refine ⟨?_, ?_⟩
                  · refine ⟨_, ldAn (Sub.refl _) (O1158.all 2 rfl) (T_box_Box.T.len _ _ _ e_7), ?_⟩
                    refine ⟨Ext.refl _, ?_⟩
                    obtain ⟨m1162, u1163, ⟨r1164, k1165⟩, O1166⟩ := O1158.frz 3 rfl
                    replace r1164 : Rd 9 T_api_Letter.E m1162 A1155 l31 := r1164
                    refine (roadref3_SameBox.walk (Hold.start (W := No) O1166.s) (T_box_Box.T.mono _ _ _ _ (Q1091.S.up.trans u1163) e_7) (show T_box_Box.E _ (T_box_Box.mk l31 y_3.At) [(Value.slice A1155 (List.length l31) c1156), (Value.int .i64 y_3.At)] from ⟨_, _, rfl, k1165, r1164⟩) g46).mono ?_
                    rintro _ h1169 ⟨m1170, Q1171, rfl⟩
                    have O1173 := Hold.nm (O1166.retC Q1171 vfs_nil)
                    refine ⟨_, rfl, ?_⟩
                    refine split_any_e e (fun c1174 e => ?_) (fun c1174 e => ?_)
                    · cases e
                      exact ⟨_, O1173.pick [], rfl⟩
                    · cases e
                      exact ⟨_, O1173.pick [], rfl⟩
                  · refine ⟨_, ldAn (Sub.refl _) (O1158.all 2 rfl) (T_box_Box.T.len _ _ _ e_7), ?_⟩
                    refine ⟨Ext.refl _, ?_⟩
                    obtain ⟨m1175, u1176, ⟨r1177, k1178⟩, O1179⟩ := O1158.frz 3 rfl
                    replace r1177 : Rd 9 T_api_Letter.E m1175 A1155 l31 := r1177
                    refine (roadref3_SameBox.walk (Hold.start (W := No) O1179.s) (T_box_Box.T.mono _ _ _ _ (Q1091.S.up.trans u1176) e_7) (show T_box_Box.E _ (T_box_Box.mk l31 y_3.At) [(Value.slice A1155 (List.length l31) c1156), (Value.int .i64 y_3.At)] from ⟨_, _, rfl, k1178, r1177⟩) g46).mono ?_
                    rintro _ h1182 ⟨m1183, Q1184, rfl⟩
                    have O1186 := Hold.nm (O1179.retC Q1184 vfs_nil)
                    refine ⟨_, rfl, ?_⟩
                    refine split_any_e e (fun c1187 e => ?_) (fun c1187 e => ?_)
                    · cases e
                      exact ⟨_, O1186.pick [], rfl⟩
                    · cases e
                      exact ⟨_, O1186.pick [], rfl⟩
            · refine ⟨cs_4, rfl, (T_api_Letter.T.len _ _ _ e_4), ?_⟩
              refine O.new fun h1188 x1189 O1190 => ?_
              have O1192 := O1190.recell 3 rfl (cs' := cs_4 ++ []) rfl
              refine ⟨x1189, ?_⟩
              refine ⟨?_, ?_⟩
              · refine ⟨_, ldAn (Sub.refl _) (O1192.all 2 rfl) (T_box_Box.T.len _ _ _ e_7), ?_⟩
                refine ⟨Ext.refl _, ?_⟩
                refine (slices_Clone_22.walk (Hold.start (W := No) O1192.s) rfl k56 r57 g15).mono ?_
                rintro _ h1195 ⟨m1196, A1199, n1200, c1201, Q1197, rfl, ne1202⟩
                have O1204 := Hold.nm (O1192.ret Q1197)
                subst ne1202
                refine ⟨_, _, _, rfl, ?_⟩
                refine ⟨Q1197.S.ext, ?_⟩
                have O1213 := O1204.rowE (l := ([y_4] : List T_api_Letter)) 3 rfl T_api_Letter.T (show CsE _ _ _ _ _ from (CsE.cons (T_api_Letter.T.mono _ _ _ _ Q1197.S.up e_4) (T_api_Letter.T.len _ _ _ (T_api_Letter.T.mono _ _ _ _ Q1197.S.up e_4)) CsE.nil)) rfl
                refine O1213.app 4 rfl rfl rfl ((O1213.os 3 rfl).srcE rfl) (by decide) g32 fun A1207 c1208 h1209 O1210 => ?_
                refine ⟨_, _, _, rfl, ?_⟩
                obtain ⟨m1214, u1215, ⟨r1216, k1217⟩, O1218⟩ := O1210.frz 4 rfl
                replace r1216 : Rd 9 T_api_Letter.E m1214 A1207 l31 := r1216
                refine (roadref3_SameBox.walk (Hold.start (W := No) O1218.s) (T_box_Box.T.mono _ _ _ _ (Q1197.S.up.trans u1215) e_7) (show T_box_Box.E _ (T_box_Box.mk l31 y_3.At) [(Value.slice A1207 (List.length l31) c1208), (Value.int .i64 y_3.At)] from ⟨_, _, rfl, k1217, r1216⟩) g46).mono ?_
                rintro _ h1221 ⟨m1222, Q1223, rfl⟩
                have O1225 := Hold.nm (O1218.retC Q1223 vfs_nil)
                refine ⟨_, rfl, ?_⟩
                refine split_any_e e (fun c1226 e => ?_) (fun c1226 e => ?_)
                · cases e
                  exact ⟨_, O1225.pick [], rfl⟩
                · cases e
                  exact ⟨_, O1225.pick [], rfl⟩
              · refine (slices_Clone_22.walk (Hold.start (W := No) O1192.s) rfl k56 r57 g15).mono ?_
                rintro _ h1229 ⟨m1230, A1233, n1234, c1235, Q1231, rfl, ne1236⟩
                have O1238 := Hold.nm (O1192.ret Q1231)
                subst ne1236
                refine ⟨_, _, _, rfl, ?_⟩
                refine ⟨Q1231.S.ext, ?_⟩
                refine ⟨?_, ?_⟩
                · refine ⟨_, ldAn (Sub.refl _) (O1238.all 2 rfl) (T_box_Box.T.len _ _ _ e_7), ?_⟩
                  refine ⟨Ext.refl _, ?_⟩
                  have O1247 := O1238.rowE (l := ([y_4] : List T_api_Letter)) 3 rfl T_api_Letter.T (show CsE _ _ _ _ _ from (CsE.cons (T_api_Letter.T.mono _ _ _ _ Q1231.S.up e_4) (T_api_Letter.T.len _ _ _ (T_api_Letter.T.mono _ _ _ _ Q1231.S.up e_4)) CsE.nil)) rfl
                  refine O1247.app 4 rfl rfl rfl ((O1247.os 3 rfl).srcE rfl) (by decide) g32 fun A1241 c1242 h1243 O1244 => ?_
                  refine ⟨_, _, _, rfl, ?_⟩
                  obtain ⟨m1248, u1249, ⟨r1250, k1251⟩, O1252⟩ := O1244.frz 4 rfl
                  replace r1250 : Rd 9 T_api_Letter.E m1248 A1241 l31 := r1250
                  refine (roadref3_SameBox.walk (Hold.start (W := No) O1252.s) (T_box_Box.T.mono _ _ _ _ (Q1231.S.up.trans u1249) e_7) (show T_box_Box.E _ (T_box_Box.mk l31 y_3.At) [(Value.slice A1241 (List.length l31) c1242), (Value.int .i64 y_3.At)] from ⟨_, _, rfl, k1251, r1250⟩) g46).mono ?_
                  rintro _ h1255 ⟨m1256, Q1257, rfl⟩
                  have O1259 := Hold.nm (O1252.retC Q1257 vfs_nil)
                  refine ⟨_, rfl, ?_⟩
                  refine split_any_e e (fun c1260 e => ?_) (fun c1260 e => ?_)
                  · cases e
                    exact ⟨_, O1259.pick [], rfl⟩
                  · cases e
                    exact ⟨_, O1259.pick [], rfl⟩
                · have O1269 := O1238.rowE (l := ([y_4] : List T_api_Letter)) 3 rfl T_api_Letter.T (show CsE _ _ _ _ _ from (CsE.cons (T_api_Letter.T.mono _ _ _ _ Q1231.S.up e_4) (T_api_Letter.T.len _ _ _ (T_api_Letter.T.mono _ _ _ _ Q1231.S.up e_4)) CsE.nil)) rfl
                  refine O1269.app 4 rfl rfl rfl ((O1269.os 3 rfl).srcE rfl) (by decide) g32 fun A1263 c1264 h1265 O1266 => ?_
                  refine ⟨_, _, _, rfl, ?_⟩
                  refine ⟨?_, ?_⟩
                  · refine ⟨_, ldAn (Sub.refl _) (O1266.all 2 rfl) (T_box_Box.T.len _ _ _ e_7), ?_⟩
                    refine ⟨Ext.refl _, ?_⟩
                    obtain ⟨m1270, u1271, ⟨r1272, k1273⟩, O1274⟩ := O1266.frz 4 rfl
                    replace r1272 : Rd 9 T_api_Letter.E m1270 A1263 l31 := r1272
                    refine (roadref3_SameBox.walk (Hold.start (W := No) O1274.s) (T_box_Box.T.mono _ _ _ _ (Q1231.S.up.trans u1271) e_7) (show T_box_Box.E _ (T_box_Box.mk l31 y_3.At) [(Value.slice A1263 (List.length l31) c1264), (Value.int .i64 y_3.At)] from ⟨_, _, rfl, k1273, r1272⟩) g46).mono ?_
                    rintro _ h1277 ⟨m1278, Q1279, rfl⟩
                    have O1281 := Hold.nm (O1274.retC Q1279 vfs_nil)
                    refine ⟨_, rfl, ?_⟩
                    refine split_any_e e (fun c1282 e => ?_) (fun c1282 e => ?_)
                    · cases e
                      exact ⟨_, O1281.pick [], rfl⟩
                    · cases e
                      exact ⟨_, O1281.pick [], rfl⟩
                  · refine ⟨_, ldAn (Sub.refl _) (O1266.all 2 rfl) (T_box_Box.T.len _ _ _ e_7), ?_⟩
                    refine ⟨Ext.refl _, ?_⟩
                    obtain ⟨m1283, u1284, ⟨r1285, k1286⟩, O1287⟩ := O1266.frz 4 rfl
                    replace r1285 : Rd 9 T_api_Letter.E m1283 A1263 l31 := r1285
                    refine (roadref3_SameBox.walk (Hold.start (W := No) O1287.s) (T_box_Box.T.mono _ _ _ _ (Q1231.S.up.trans u1284) e_7) (show T_box_Box.E _ (T_box_Box.mk l31 y_3.At) [(Value.slice A1263 (List.length l31) c1264), (Value.int .i64 y_3.At)] from ⟨_, _, rfl, k1286, r1285⟩) g46).mono ?_
                    rintro _ h1290 ⟨m1291, Q1292, rfl⟩
                    have O1294 := Hold.nm (O1287.retC Q1292 vfs_nil)
                    refine ⟨_, rfl, ?_⟩
                    refine split_any_e e (fun c1295 e => ?_) (fun c1295 e => ?_)
                    · cases e
                      exact ⟨_, O1294.pick [], rfl⟩
                    · cases e
                      exact ⟨_, O1294.pick [], rfl⟩

noncomputable def roadlaw3_BoxTells.j1 (y_3 : T_box_Box) (y_4 : T_api_Letter) (y_7 : T_box_Box) (x_8 : Int) (x_13 : Int) : Option (Bool) :=
  Option.bind (roadref3_In y_4.Kind (1 : Int) (2 : Int)) fun y1 => if y1 = true then (if (((List.length y_3.Letters) : Nat) : Int) = (60 : Int) then ((roadlaw3_BoxTells.j2 y_3 y_4 y_7 x_8 (6 : Int))) else ((roadlaw3_BoxTells.j2 y_3 y_4 y_7 x_8 x_13))) else ((roadlaw3_BoxTells.j2 y_3 y_4 y_7 x_8 (3 : Int)))
set_option maxRecDepth 100000 in
theorem roadlaw3_BoxTells.j1.walk {W : Nat → Prop} {h0 m0 h m : Heap} {bk_3 : Nat} {cs_3 : List Value} {bk_4 : Nat} {cs_4 : List Value} {bk_7 : Nat} {cs_7 : List Value} {y_3 : T_box_Box} {y_4 : T_api_Letter} {y_7 : T_box_Box} {x_8 : Int} {x_13 : Int} (O : Hold W h0 m0 h m [rV bk_3 24 cs_3, rV bk_4 29 cs_4, rV bk_7 24 cs_7]) (e_3 : T_box_Box.E m y_3 cs_3) (e_4 : T_api_Letter.E m y_4 cs_4) (e_7 : T_box_Box.E m y_7 cs_7) {r : Bool} (e : roadlaw3_BoxTells.j1 y_3 y_4 y_7 x_8 x_13 = some r) : f3.j1 (roadlaw3_BoxTells.post W h0 m0 r) (⟨bk_3, 0, none⟩ : Addr) (⟨bk_4, 0, none⟩ : Addr) (⟨bk_7, 0, none⟩ : Addr) x_8 x_13 h := by
  unfold roadlaw3_BoxTells.j1 at e
  refine f3.j1_in ?_
  unfold f3.j1T
  refine ⟨_, ld0 (Sub.refl _) (O.all 1 rfl) (T_api_Letter.g0 e_4), _, rfl, ?_⟩
  obtain ⟨y1, g2, e⟩ := bind_e e
  refine (roadref3_In.walk (Hold.start (W := No) O.s)  g2).mono ?_
  rintro _ h3 ⟨m4, Q5, rfl⟩
  have O7 := Hold.nm (O.retC Q5 vfs_nil)
  refine ⟨_, rfl, ?_⟩
  refine split_not ?_
  refine split_any_e e (fun c14 e => ?_) (fun c14 e => ?_)
  · obtain ⟨A8, c9, q10, k11, r12⟩ := T_box_Box.g0 e_3
    refine ⟨_, ld0 (Sub.refl _) (O7.all 0 rfl) q10, _, _, _, rfl, ?_⟩
    refine split_eq_e e (fun c13 e => ?_) (fun c13 e => ?_)
    · exact roadlaw3_BoxTells.j2.walk (O7.pick [0, 1, 2]).nm e_3 e_4 e_7 e
    · exact roadlaw3_BoxTells.j2.walk (O7.pick [0, 1, 2]).nm e_3 e_4 e_7 e
  · exact roadlaw3_BoxTells.j2.walk (O7.pick [0, 1, 2]).nm e_3 e_4 e_7 e

inductive roadlaw3_BoxTells.l0_k.Pt where
  | l0 (x_2 : Int) (y_3 : T_box_Box) (y_4 : T_api_Letter) (y_7 : T_box_Box) (x_8 : Int) (y_9 : T_box_Box) (x_10 : Int) (a_11 : List T_api_Letter) (x_12 : Int) (x_13 : Int) (a_14 : List T_api_Letter) (a_92 : List T_api_Letter) (x_93 : Int) (x_94 : Int)
noncomputable def roadlaw3_BoxTells.l0_k.body (go : (p : roadlaw3_BoxTells.l0_k.Pt) → Option (Bool)) : (p : roadlaw3_BoxTells.l0_k.Pt) → Option (Bool)
  | .l0 x_2 y_3 y_4 y_7 x_8 y_9 x_10 a_11 x_12 x_13 a_14 a_92 x_93 x_94 => if x_94 < x_93 then (Option.bind (gi a_92 x_94) fun y1 => if y1.From = x_2 then (Option.bind (ap 104 a_14 ([y1] : List T_api_Letter)) fun l19 => (go (.l0 x_2 y_3 y_4 y_7 x_8 y_9 x_10 a_11 x_12 x_13 l19 a_92 x_93 (IntKind.wrap .i64 (x_94 + (1 : Int)))))) else ((go (.l0 x_2 y_3 y_4 y_7 x_8 y_9 x_10 a_11 x_12 x_13 a_14 a_92 x_93 (IntKind.wrap .i64 (x_94 + (1 : Int))))))) else (Option.bind (roadref3_SameBox y_9 (T_box_Box.mk y_3.Letters (0 : Int))) fun y36 => if y36 = true then (if x_10 = (0 : Int) then (Option.bind (roadref3_SameLetters a_11 a_14) fun y43 => if y43 = true then (if x_12 = (0 : Int) then ((roadlaw3_BoxTells.j1 y_3 y_4 y_7 x_8 x_13)) else (some (false))) else (some (false))) else (some (false))) else (some (false)))
theorem roadlaw3_BoxTells.l0_k.mono : MonoF (β := fun _ => (Bool)) roadlaw3_BoxTells.l0_k.body := fun f g hfg p => match p with
  | .l0 x_2 y_3 y_4 y_7 x_8 y_9 x_10 a_11 x_12 x_13 a_14 a_92 x_93 x_94 => LeO.ite (LeO.bind (LeO.refl _) fun y1 => LeO.ite (LeO.bind (LeO.refl _) fun l19 => (hfg _)) ((hfg _))) (LeO.bind (LeO.refl _) fun y36 => LeO.ite (LeO.ite (LeO.bind (LeO.refl _) fun y43 => LeO.ite (LeO.ite ((LeO.refl _)) (LeO.refl _)) (LeO.refl _)) (LeO.refl _)) (LeO.refl _))
noncomputable def roadlaw3_BoxTells.l0_k.go (p : roadlaw3_BoxTells.l0_k.Pt) : Option (Bool) := fixF (β := fun _ => (Bool)) roadlaw3_BoxTells.l0_k.body p
noncomputable def roadlaw3_BoxTells.l0 (x_2 : Int) (y_3 : T_box_Box) (y_4 : T_api_Letter) (y_7 : T_box_Box) (x_8 : Int) (y_9 : T_box_Box) (x_10 : Int) (a_11 : List T_api_Letter) (x_12 : Int) (x_13 : Int) (a_14 : List T_api_Letter) (a_92 : List T_api_Letter) (x_93 : Int) (x_94 : Int) : Option (Bool) := roadlaw3_BoxTells.l0_k.go (.l0 x_2 y_3 y_4 y_7 x_8 y_9 x_10 a_11 x_12 x_13 a_14 a_92 x_93 x_94)
theorem roadlaw3_BoxTells.l0_eq (x_2 : Int) (y_3 : T_box_Box) (y_4 : T_api_Letter) (y_7 : T_box_Box) (x_8 : Int) (y_9 : T_box_Box) (x_10 : Int) (a_11 : List T_api_Letter) (x_12 : Int) (x_13 : Int) (a_14 : List T_api_Letter) (a_92 : List T_api_Letter) (x_93 : Int) (x_94 : Int) : roadlaw3_BoxTells.l0 x_2 y_3 y_4 y_7 x_8 y_9 x_10 a_11 x_12 x_13 a_14 a_92 x_93 x_94 = if x_94 < x_93 then (Option.bind (gi a_92 x_94) fun y1 => if y1.From = x_2 then (Option.bind (ap 104 a_14 ([y1] : List T_api_Letter)) fun l19 => (roadlaw3_BoxTells.l0 x_2 y_3 y_4 y_7 x_8 y_9 x_10 a_11 x_12 x_13 l19 a_92 x_93 (IntKind.wrap .i64 (x_94 + (1 : Int))))) else ((roadlaw3_BoxTells.l0 x_2 y_3 y_4 y_7 x_8 y_9 x_10 a_11 x_12 x_13 a_14 a_92 x_93 (IntKind.wrap .i64 (x_94 + (1 : Int)))))) else (Option.bind (roadref3_SameBox y_9 (T_box_Box.mk y_3.Letters (0 : Int))) fun y36 => if y36 = true then (if x_10 = (0 : Int) then (Option.bind (roadref3_SameLetters a_11 a_14) fun y43 => if y43 = true then (if x_12 = (0 : Int) then ((roadlaw3_BoxTells.j1 y_3 y_4 y_7 x_8 x_13)) else (some (false))) else (some (false))) else (some (false))) else (some (false))) := fixF_eq roadlaw3_BoxTells.l0_k.mono _
def roadlaw3_BoxTells.l0_k.I : (p : roadlaw3_BoxTells.l0_k.Pt) → (Bool) → Prop
  | .l0 x_2 y_3 y_4 y_7 x_8 y_9 x_10 a_11 x_12 x_13 a_14 a_92 x_93 x_94, r => ∀ (W : Nat → Prop) (h0 m0 h m : Heap) (bk_3 : Nat) (cs_3 : List Value) (bk_4 : Nat) (cs_4 : List Value) (bk_7 : Nat) (cs_7 : List Value) (bk_9 : Nat) (cs_9 : List Value) (A_11 : Option Addr) (n_11 c_11 : Nat) (A_14 : Option Addr) (n_14 c_14 : Nat) (A_92 : Option Addr) (n_92 c_92 : Nat) (O : Hold W h0 m0 h m [rV bk_3 24 cs_3, rV bk_4 29 cs_4, rV bk_7 24 cs_7, rV bk_9 24 cs_9, rR (aE T_api_Letter.T) A_14 c_14 a_14]) (e_3 : T_box_Box.E m y_3 cs_3) (e_4 : T_api_Letter.E m y_4 cs_4) (e_7 : T_box_Box.E m y_7 cs_7) (e_9 : T_box_Box.E m y_9 cs_9) (ne_11 : n_11 = List.length a_11) (k_11 : List.length a_11 ≤ c_11) (r_11 : Rd 9 T_api_Letter.E m A_11 a_11) (ne_14 : n_14 = List.length a_14) (ne_92 : n_92 = List.length a_92) (k_92 : List.length a_92 ≤ c_92) (r_92 : Rd 9 T_api_Letter.E m A_92 a_92), f3.l0 (roadlaw3_BoxTells.post W h0 m0 r) x_2 (⟨bk_3, 0, none⟩ : Addr) (⟨bk_4, 0, none⟩ : Addr) (⟨bk_7, 0, none⟩ : Addr) x_8 (⟨bk_9, 0, none⟩ : Addr) x_10 A_11 n_11 c_11 x_12 x_13 A_14 n_14 c_14 A_92 n_92 c_92 x_93 x_94 h
set_option maxHeartbeats 4000000 in
set_option maxRecDepth 100000 in
theorem roadlaw3_BoxTells.l0_k.step_l0 (go : (p : roadlaw3_BoxTells.l0_k.Pt) → Option (Bool)) (ih : ∀ p r, go p = some r → roadlaw3_BoxTells.l0_k.I p r) (x_2 : Int) (y_3 : T_box_Box) (y_4 : T_api_Letter) (y_7 : T_box_Box) (x_8 : Int) (y_9 : T_box_Box) (x_10 : Int) (a_11 : List T_api_Letter) (x_12 : Int) (x_13 : Int) (a_14 : List T_api_Letter) (a_92 : List T_api_Letter) (x_93 : Int) (x_94 : Int) (r : Bool) (e : roadlaw3_BoxTells.l0_k.body go (.l0 x_2 y_3 y_4 y_7 x_8 y_9 x_10 a_11 x_12 x_13 a_14 a_92 x_93 x_94) = some r) : roadlaw3_BoxTells.l0_k.I (.l0 x_2 y_3 y_4 y_7 x_8 y_9 x_10 a_11 x_12 x_13 a_14 a_92 x_93 x_94) r := by
  unfold roadlaw3_BoxTells.l0_k.body at e
  intro W h0 m0 h m bk_3 cs_3 bk_4 cs_4 bk_7 cs_7 bk_9 cs_9 A_11 n_11 c_11 A_14 n_14 c_14 A_92 n_92 c_92 O e_3 e_4 e_7 e_9 ne_11 k_11 r_11 ne_14 ne_92 k_92 r_92
  subst ne_11
  subst ne_14
  subst ne_92
  refine f3.l0_in ?_
  unfold f3.l0T
  refine split_dec_e e (fun c61 e => ?_) (fun c61 e => ?_)
  · obtain ⟨y1, g2, e⟩ := bind_e e
    refine r_92.addr rfl g2 fun a3 cs4 ha5 hc6 he7 => ?_
    refine ⟨_, ldAn O.s hc6 rfl, ?_⟩
    refine O.new fun h8 x9 O10 => ?_
    refine ⟨_, rfl, (T_api_Letter.T.len _ _ _ he7), ?_⟩
    refine O10.stA 5 rfl (T_api_Letter.T.len _ _ _ he7) (T_api_Letter.T.flat _ _ _ he7) fun h12 O13 => ?_
    refine ⟨_, ldk (k := 1) (Sub.refl _) (O13.all 5 rfl) (T_api_Letter.g1 he7), _, rfl, ?_⟩
    refine split_eq_e e (fun c30 e => ?_) (fun c30 e => ?_)
    · refine ⟨_, ldAn (Sub.refl _) (O13.all 5 rfl) (T_api_Letter.T.len _ _ _ he7), ?_⟩
      refine ⟨cs4, rfl, (T_api_Letter.T.len _ _ _ he7), ?_⟩
      refine O13.new fun h14 x15 O16 => ?_
      have O18 := O16.recell 6 rfl (cs' := cs4 ++ []) rfl
      obtain ⟨l19, g20, e⟩ := bind_e e
      have O27 := O18.rowE (l := ([y1] : List T_api_Letter)) 6 rfl T_api_Letter.T (show CsE _ _ _ _ _ from (CsE.cons he7 (T_api_Letter.T.len _ _ _ he7) CsE.nil)) rfl
      refine O27.app 4 rfl rfl rfl ((O27.os 6 rfl).srcE rfl) (by decide) g20 fun A21 c22 h23 O24 => ?_
      refine ⟨_, _, _, rfl, ?_⟩
      have O28 := O24.nm
      exact (ih _ _ e) _ _ _ _ _ _ _ _ _ _ _ _ _ _ _ _ _ _ _ _ _ _ (O28.pick [0, 1, 2, 3, 4]).nm e_3 e_4 e_7 e_9 rfl k_11 r_11 rfl rfl k_92 r_92
    · have O29 := O13.nm
      exact (ih _ _ e) _ _ _ _ _ _ _ _ _ _ _ _ _ _ _ _ _ _ _ _ _ _ (O29.pick [0, 1, 2, 3, 4]).nm e_3 e_4 e_7 e_9 rfl k_11 r_11 rfl rfl k_92 r_92
  · refine ⟨_, ldAn (Sub.refl _) (O.all 3 rfl) (T_box_Box.T.len _ _ _ e_9), ?_⟩
    obtain ⟨A31, c32, q33, k34, r35⟩ := T_box_Box.g0 e_3
    refine ⟨_, ld0 (Sub.refl _) (O.all 0 rfl) q33, _, _, _, rfl, ?_⟩
    obtain ⟨y36, g37, e⟩ := bind_e e
    refine (roadref3_SameBox.walk (Hold.start (W := No) O.s) e_9 (show T_box_Box.E _ (T_box_Box.mk y_3.Letters (0 : Int)) [(Value.slice A31 (List.length y_3.Letters) c32), (Value.int .i64 (0 : Int))] from ⟨_, _, rfl, k34, r35⟩) g37).mono ?_
    rintro _ h38 ⟨m39, Q40, rfl⟩
    have O42 := Hold.nm (O.retC Q40 vfs_nil)
    refine ⟨_, rfl, ?_⟩
    refine split_not ?_
    refine split_any_e e (fun c60 e => ?_) (fun c60 e => ?_)
    · refine split_ne_e e (fun c59 e => ?_) (fun c59 e => ?_)
      · cases e
        exact ⟨_, O42.pick [], rfl⟩
      · obtain ⟨y43, g44, e⟩ := bind_e e
        obtain ⟨m49, u50, s55, ⟨⟨r53, k54⟩, _⟩, B51, C52⟩ := O42.lend0 [4]
        replace r53 : Rd 9 T_api_Letter.E m49 A_14 a_14 := r53
        replace k54 : List.length a_14 ≤ c_14 := k54
        refine (roadref3_SameLetters.walk (Hold.start (W := No) s55) rfl k_11 (r_11.sub T_api_Letter.T u50) rfl k54 r53 g44).mono ?_
        rintro _ h45 ⟨m46, Q47, rfl⟩
        have O56 := Hold.nm (C52 Q47 vfs_nil)
        refine ⟨_, rfl, ?_⟩
        refine split_not ?_
        refine split_any_e e (fun c58 e => ?_) (fun c58 e => ?_)
        · refine split_ne_e e (fun c57 e => ?_) (fun c57 e => ?_)
          · cases e
            exact ⟨_, O56.pick [], rfl⟩
          · exact roadlaw3_BoxTells.j1.walk (O56.pick [0, 1, 2]).nm e_3 e_4 e_7 e
        · cases e
          exact ⟨_, O56.pick [], rfl⟩
    · cases e
      exact ⟨_, O42.pick [], rfl⟩
theorem roadlaw3_BoxTells.l0_k.all {p : roadlaw3_BoxTells.l0_k.Pt} {r : (Bool)} (e : roadlaw3_BoxTells.l0_k.go p = some r) : roadlaw3_BoxTells.l0_k.I p r := fixF_ind (β := fun _ => (Bool)) roadlaw3_BoxTells.l0_k.mono (I := roadlaw3_BoxTells.l0_k.I) (fun go ih p r e => match p with
  | .l0 x_2 y_3 y_4 y_7 x_8 y_9 x_10 a_11 x_12 x_13 a_14 a_92 x_93 x_94 => roadlaw3_BoxTells.l0_k.step_l0 go ih x_2 y_3 y_4 y_7 x_8 y_9 x_10 a_11 x_12 x_13 a_14 a_92 x_93 x_94 r e
  ) e
theorem roadlaw3_BoxTells.l0.walk {W : Nat → Prop} {h0 m0 h m : Heap} {bk_3 : Nat} {cs_3 : List Value} {bk_4 : Nat} {cs_4 : List Value} {bk_7 : Nat} {cs_7 : List Value} {bk_9 : Nat} {cs_9 : List Value} {A_11 : Option Addr} {n_11 c_11 : Nat} {A_14 : Option Addr} {n_14 c_14 : Nat} {A_92 : Option Addr} {n_92 c_92 : Nat} {x_2 : Int} {y_3 : T_box_Box} {y_4 : T_api_Letter} {y_7 : T_box_Box} {x_8 : Int} {y_9 : T_box_Box} {x_10 : Int} {a_11 : List T_api_Letter} {x_12 : Int} {x_13 : Int} {a_14 : List T_api_Letter} {a_92 : List T_api_Letter} {x_93 : Int} {x_94 : Int} (O : Hold W h0 m0 h m [rV bk_3 24 cs_3, rV bk_4 29 cs_4, rV bk_7 24 cs_7, rV bk_9 24 cs_9, rR (aE T_api_Letter.T) A_14 c_14 a_14]) (e_3 : T_box_Box.E m y_3 cs_3) (e_4 : T_api_Letter.E m y_4 cs_4) (e_7 : T_box_Box.E m y_7 cs_7) (e_9 : T_box_Box.E m y_9 cs_9) (ne_11 : n_11 = List.length a_11) (k_11 : List.length a_11 ≤ c_11) (r_11 : Rd 9 T_api_Letter.E m A_11 a_11) (ne_14 : n_14 = List.length a_14) (ne_92 : n_92 = List.length a_92) (k_92 : List.length a_92 ≤ c_92) (r_92 : Rd 9 T_api_Letter.E m A_92 a_92) {r : Bool} (e : roadlaw3_BoxTells.l0 x_2 y_3 y_4 y_7 x_8 y_9 x_10 a_11 x_12 x_13 a_14 a_92 x_93 x_94 = some r) : f3.l0 (roadlaw3_BoxTells.post W h0 m0 r) x_2 (⟨bk_3, 0, none⟩ : Addr) (⟨bk_4, 0, none⟩ : Addr) (⟨bk_7, 0, none⟩ : Addr) x_8 (⟨bk_9, 0, none⟩ : Addr) x_10 A_11 n_11 c_11 x_12 x_13 A_14 n_14 c_14 A_92 n_92 c_92 x_93 x_94 h := roadlaw3_BoxTells.l0_k.all (p := .l0 x_2 y_3 y_4 y_7 x_8 y_9 x_10 a_11 x_12 x_13 a_14 a_92 x_93 x_94) e W h0 m0 h m bk_3 cs_3 bk_4 cs_4 bk_7 cs_7 bk_9 cs_9 A_11 n_11 c_11 A_14 n_14 c_14 A_92 n_92 c_92 O e_3 e_4 e_7 e_9 ne_11 k_11 r_11 ne_14 ne_92 k_92 r_92

noncomputable def roadlaw3_BoxTells.j0 (x_2 : Int) (y_3 : T_box_Box) (y_4 : T_api_Letter) (y_7 : T_box_Box) (x_8 : Int) (y_9 : T_box_Box) (x_10 : Int) (a_11 : List T_api_Letter) (x_12 : Int) (x_13 : Int) : Option (Bool) :=
  if x_13 = (0 : Int) then ((roadlaw3_BoxTells.l0 x_2 y_3 y_4 y_7 x_8 y_9 x_10 a_11 x_12 x_13 ([] : List T_api_Letter) y_3.Letters (((List.length y_3.Letters) : Nat) : Int) (0 : Int))) else (Option.bind (roadref3_SameBox y_7 (T_box_Box.mk ([] : List T_api_Letter) (0 : Int))) fun y1 => if y1 = true then (if x_8 = x_13 then (Option.bind (roadref3_SameBox y_9 (T_box_Box.mk ([] : List T_api_Letter) (0 : Int))) fun y8 => if y8 = true then (if x_10 = x_13 then (if (((List.length a_11) : Nat) : Int) = (0 : Int) then (some ((x_12 == x_13))) else (some (false))) else (some (false))) else (some (false))) else (some (false))) else (some (false)))
set_option maxHeartbeats 4000000 in
set_option maxRecDepth 100000 in
theorem roadlaw3_BoxTells.j0.walk {W : Nat → Prop} {h0 m0 h m : Heap} {bk_3 : Nat} {cs_3 : List Value} {bk_4 : Nat} {cs_4 : List Value} {bk_7 : Nat} {cs_7 : List Value} {bk_9 : Nat} {cs_9 : List Value} {A_11 : Option Addr} {n_11 c_11 : Nat} {x_2 : Int} {y_3 : T_box_Box} {y_4 : T_api_Letter} {y_7 : T_box_Box} {x_8 : Int} {y_9 : T_box_Box} {x_10 : Int} {a_11 : List T_api_Letter} {x_12 : Int} {x_13 : Int} (O : Hold W h0 m0 h m [rV bk_3 24 cs_3, rV bk_4 29 cs_4, rV bk_7 24 cs_7, rV bk_9 24 cs_9]) (e_3 : T_box_Box.E m y_3 cs_3) (e_4 : T_api_Letter.E m y_4 cs_4) (e_7 : T_box_Box.E m y_7 cs_7) (e_9 : T_box_Box.E m y_9 cs_9) (ne_11 : n_11 = List.length a_11) (k_11 : List.length a_11 ≤ c_11) (r_11 : Rd 9 T_api_Letter.E m A_11 a_11) {r : Bool} (e : roadlaw3_BoxTells.j0 x_2 y_3 y_4 y_7 x_8 y_9 x_10 a_11 x_12 x_13 = some r) : f3.j0 (roadlaw3_BoxTells.post W h0 m0 r) x_2 (⟨bk_3, 0, none⟩ : Addr) (⟨bk_4, 0, none⟩ : Addr) (⟨bk_7, 0, none⟩ : Addr) x_8 (⟨bk_9, 0, none⟩ : Addr) x_10 A_11 n_11 c_11 x_12 x_13 h := by
  unfold roadlaw3_BoxTells.j0 at e
  subst ne_11
  refine f3.j0_in ?_
  unfold f3.j0T
  refine split_ne_e e (fun c28 e => ?_) (fun c28 e => ?_)
  · refine ⟨_, ldAn (Sub.refl _) (O.all 2 rfl) (T_box_Box.T.len _ _ _ e_7), ?_⟩
    obtain ⟨y1, g2, e⟩ := bind_e e
    refine (roadref3_SameBox.walk (Hold.start (W := No) O.s) e_7 (show T_box_Box.E _ (T_box_Box.mk ([] : List T_api_Letter) (0 : Int)) [(Value.slice none 0 0), (Value.int .i64 (0 : Int))] from ⟨_, _, rfl, (Nat.le_refl 0), Rd.nil⟩) g2).mono ?_
    rintro _ h3 ⟨m4, Q5, rfl⟩
    have O7 := Hold.nm (O.retC Q5 vfs_nil)
    refine ⟨_, rfl, ?_⟩
    refine split_any_e e (fun c19 e => ?_) (fun c19 e => ?_)
    · refine split_eq_e e (fun c18 e => ?_) (fun c18 e => ?_)
      · refine ⟨_, ldAn (Sub.refl _) (O7.all 3 rfl) (T_box_Box.T.len _ _ _ e_9), ?_⟩
        obtain ⟨y8, g9, e⟩ := bind_e e
        refine (roadref3_SameBox.walk (Hold.start (W := No) O7.s) e_9 (show T_box_Box.E _ (T_box_Box.mk ([] : List T_api_Letter) (0 : Int)) [(Value.slice none 0 0), (Value.int .i64 (0 : Int))] from ⟨_, _, rfl, (Nat.le_refl 0), Rd.nil⟩) g9).mono ?_
        rintro _ h10 ⟨m11, Q12, rfl⟩
        have O14 := Hold.nm (O7.retC Q12 vfs_nil)
        refine ⟨_, rfl, ?_⟩
        refine split_any_e e (fun c17 e => ?_) (fun c17 e => ?_)
        · refine split_eq_e e (fun c16 e => ?_) (fun c16 e => ?_)
          · refine split_eq_e e (fun c15 e => ?_) (fun c15 e => ?_)
            · cases e
              exact ⟨_, O14.pick [], rfl⟩
            · cases e
              exact ⟨_, O14.pick [], rfl⟩
          · cases e
            exact ⟨_, O14.pick [], rfl⟩
        · cases e
          exact ⟨_, O14.pick [], rfl⟩
      · cases e
        exact ⟨_, O7.pick [], rfl⟩
    · cases e
      exact ⟨_, O7.pick [], rfl⟩
  · obtain ⟨A20, c21, q22, k23, r24⟩ := T_box_Box.g0 e_3
    refine ⟨_, ld0 (Sub.refl _) (O.all 0 rfl) q22, _, _, _, rfl, ?_⟩
    have O25 := O.nil (aE T_api_Letter.T) none
    have O27 := O25.nm
    exact roadlaw3_BoxTells.l0.walk (O27.pick [0, 1, 2, 3, 4]).nm e_3 e_4 e_7 e_9 rfl k_11 r_11 rfl rfl k23 r24 e

noncomputable def roadlaw3_BoxTells (y_0 : T_box_Box) (y_1 : T_api_Letter) (x_2 : Int) : Option (Bool) :=
  Option.bind (roadlaw3_flat y_1.Value_) fun y9 => if y9 = true then (Option.bind (box_Put y_0 y_1) fun y16 => Option.bind (box_Again y_0) fun y32 => Option.bind (box_From y_0 x_2) fun y48 => Option.bind (roadref3_BoxFault y_0) fun y61 => Option.bind (box_Check y_0) fun y68 => if y68 = y61 then (Option.bind (box_Says y_1) fun y75 => Option.bind (roadref3_Message y_1) fun y85 => Option.bind (roadref3_SameValue y75 y85) fun y95 => if y95 = true then (Option.bind (box_Own y_1.Value_) fun y102 => Option.bind (roadref3_SameValue y102 y_1.Value_) fun y112 => if y112 = true then ((roadlaw3_BoxTells.j0 x_2 y_0 y_1 y16.1 y16.2 y32.1 y32.2 y48.1 y48.2 y61)) else (some (false))) else (some (false))) else (some (false))) else (some (true))
set_option maxHeartbeats 4000000 in
set_option maxRecDepth 100000 in
theorem roadlaw3_BoxTells.walk {W : Nat → Prop} {h m : Heap} {cs_0 : List Value} {cs_1 : List Value} {y_0 : T_box_Box} {y_1 : T_api_Letter} {x_2 : Int} (O : Hold W h m h m []) (e_0 : T_box_Box.E m y_0 cs_0) (e_1 : T_api_Letter.E m y_1 cs_1) {r : Bool} (e : roadlaw3_BoxTells y_0 y_1 x_2 = some r) : Run Try.prog 3 #[Value.agg cs_0.toArray, Value.agg cs_1.toArray, Value.int .i64 x_2] h (roadlaw3_BoxTells.post W h m r) := by
  unfold roadlaw3_BoxTells at e
  refine f3.run ?_
  unfold f3.runT
  refine O.new fun h1 x2 O3 => ?_
  refine O3.new fun h5 x6 O7 => ?_
  refine ⟨_, ldAkn (Sub.refl _) (O7.all 1 rfl) 5 4 (le_len (T_api_Letter.T.len _ _ _ e_1) (by decide)), ?_⟩
  obtain ⟨y9, g10, e⟩ := bind_e e
  refine (roadlaw3_flat.walk (Hold.start (W := No) O7.s) (T_api_Letter.u5_27 e_1) g10).mono ?_
  rintro _ h11 ⟨m12, Q13, rfl⟩
  have O15 := Hold.nm (O7.retC Q13 vfs_nil)
  refine ⟨_, rfl, ?_⟩
  refine split_not ?_
  refine split_any_e e (fun c122 e => ?_) (fun c122 e => ?_)
  · refine ⟨_, ldAn (Sub.refl _) (O15.all 0 rfl) (T_box_Box.T.len _ _ _ e_0), ?_⟩
    refine ⟨_, ldAn (Sub.refl _) (O15.all 1 rfl) (T_api_Letter.T.len _ _ _ e_1), ?_⟩
    obtain ⟨y16, g17, e⟩ := bind_e e
    refine (box_Put.walk (Hold.start (W := No) O15.s) e_0 e_1 g17).mono ?_
    rintro _ h18 ⟨m19, cs23, Q20, rfl, he24⟩
    have O25 := Hold.nm (O15.ret Q20)
    refine ⟨_, _, rfl, ?_⟩
    refine O25.new fun h26 x27 O28 => ?_
    refine ⟨_, rfl, (T_box_Box.T.len _ _ _ he24), ?_⟩
    refine O28.stA 2 rfl (T_box_Box.T.len _ _ _ he24) (T_box_Box.T.flat _ _ _ he24) fun h30 O31 => ?_
    refine ⟨_, ldAn (Sub.refl _) (O31.all 0 rfl) (T_box_Box.T.len _ _ _ e_0), ?_⟩
    obtain ⟨y32, g33, e⟩ := bind_e e
    refine (box_Again.walk (Hold.start (W := No) O31.s) (T_box_Box.T.mono _ _ _ _ Q20.S.up e_0) g33).mono ?_
    rintro _ h34 ⟨m35, cs39, Q36, rfl, he40⟩
    have O41 := Hold.nm (O31.ret Q36)
    refine ⟨_, _, rfl, ?_⟩
    refine O41.new fun h42 x43 O44 => ?_
    refine ⟨_, rfl, (T_box_Box.T.len _ _ _ he40), ?_⟩
    refine O44.stA 3 rfl (T_box_Box.T.len _ _ _ he40) (T_box_Box.T.flat _ _ _ he40) fun h46 O47 => ?_
    refine ⟨_, ldAn (Sub.refl _) (O47.all 0 rfl) (T_box_Box.T.len _ _ _ e_0), ?_⟩
    obtain ⟨y48, g49, e⟩ := bind_e e
    refine (box_From.walk (Hold.start (W := No) O47.s) (T_box_Box.T.mono _ _ _ _ (Q20.S.up.trans Q36.S.up) e_0) g49).mono ?_
    rintro _ h50 ⟨m51, A54, n55, c56, Q52, rfl, ne57, k58, r59⟩
    have O60 := Hold.nm (O47.ret Q52)
    subst ne57
    refine ⟨_, _, _, _, rfl, ?_⟩
    refine ⟨_, ldAn (Sub.refl _) (O60.all 0 rfl) (T_box_Box.T.len _ _ _ e_0), ?_⟩
    obtain ⟨y61, g62, e⟩ := bind_e e
    refine (roadref3_BoxFault.walk (Hold.start (W := No) O60.s) (T_box_Box.T.mono _ _ _ _ (Q20.S.up.trans (Q36.S.up.trans Q52.S.up)) e_0) g62).mono ?_
    rintro _ h63 ⟨m64, Q65, rfl⟩
    have O67 := Hold.nm (O60.retC Q65 vfs_nil)
    refine ⟨_, rfl, ?_⟩
    refine ⟨_, ldAn (Sub.refl _) (O67.all 0 rfl) (T_box_Box.T.len _ _ _ e_0), ?_⟩
    obtain ⟨y68, g69, e⟩ := bind_e e
    refine (box_Check.walk (Hold.start (W := No) O67.s) (T_box_Box.T.mono _ _ _ _ (Q20.S.up.trans (Q36.S.up.trans Q52.S.up)) e_0) g69).mono ?_
    rintro _ h70 ⟨m71, Q72, rfl⟩
    have O74 := Hold.nm (O67.retC Q72 vfs_nil)
    refine ⟨_, rfl, ?_⟩
    refine ⟨Q72.S.ext, ?_⟩
    refine split_ne_e e (fun c121 e => ?_) (fun c121 e => ?_)
    · refine ⟨Ext.refl _, ?_⟩
      refine ⟨Ext.refl _, ?_⟩
      refine ⟨Ext.refl _, ?_⟩
      refine ⟨Ext.refl _, ?_⟩
      cases e
      exact ⟨_, O74.pick [], rfl⟩
    · refine ⟨_, ldAn (Sub.refl _) (O74.all 1 rfl) (T_api_Letter.T.len _ _ _ e_1), ?_⟩
      refine ⟨_, ldAn (Sub.refl _) (O74.all 1 rfl) (T_api_Letter.T.len _ _ _ e_1), ?_⟩
      obtain ⟨y75, g76, e⟩ := bind_e e
      refine (box_Says.walk (Hold.start (W := No) O74.s) (T_api_Letter.T.mono _ _ _ _ (Q20.S.up.trans (Q36.S.up.trans Q52.S.up)) e_1) g76).mono ?_
      rintro _ h77 ⟨m78, cs82, Q79, rfl, he83⟩
      have O84 := Hold.nm (O74.ret Q79)
      refine ⟨Q79.S.ext, ?_⟩
      obtain ⟨y85, g86, e⟩ := bind_e e
      refine (roadref3_Message.walk (Hold.start (W := No) O84.s) (T_api_Letter.T.mono _ _ _ _ (Q20.S.up.trans (Q36.S.up.trans (Q52.S.up.trans Q79.S.up))) e_1) g86).mono ?_
      rintro _ h87 ⟨m88, cs92, Q89, rfl, he93⟩
      have O94 := Hold.nm (O84.ret Q89)
      refine ⟨Q89.S.ext, ?_⟩
      obtain ⟨y95, g96, e⟩ := bind_e e
      refine (roadref3_SameValue.walk (Hold.start (W := No) O94.s) (T_api_Value.T.mono _ _ _ _ Q89.S.up he83) he93 g96).mono ?_
      rintro _ h97 ⟨m98, Q99, rfl⟩
      have O101 := Hold.nm (O94.retC Q99 vfs_nil)
      refine ⟨_, rfl, ?_⟩
      refine ⟨Q99.S.ext, ?_⟩
      refine split_not ?_
      refine split_any_e e (fun c120 e => ?_) (fun c120 e => ?_)
      · refine ⟨_, ldAkn (Sub.refl _) (O101.all 1 rfl) 5 4 (le_len (T_api_Letter.T.len _ _ _ e_1) (by decide)), ?_⟩
        refine ⟨_, ldAkn (Sub.refl _) (O101.all 1 rfl) 5 4 (le_len (T_api_Letter.T.len _ _ _ e_1) (by decide)), ?_⟩
        obtain ⟨y102, g103, e⟩ := bind_e e
        refine (box_Own.walk (Hold.start (W := No) O101.s) (T_api_Value.T.mono _ _ _ _ (Q20.S.up.trans (Q36.S.up.trans (Q52.S.up.trans (Q79.S.up.trans Q89.S.up)))) (T_api_Letter.u5_27 e_1)) g103).mono ?_
        rintro _ h104 ⟨m105, cs109, Q106, rfl, he110⟩
        have O111 := Hold.nm (O101.ret Q106)
        refine ⟨Q106.S.ext, ?_⟩
        obtain ⟨y112, g113, e⟩ := bind_e e
        refine (roadref3_SameValue.walk (Hold.start (W := No) O111.s) he110 (T_api_Value.T.mono _ _ _ _ (Q20.S.up.trans (Q36.S.up.trans (Q52.S.up.trans (Q79.S.up.trans (Q89.S.up.trans Q106.S.up))))) (T_api_Letter.u5_27 e_1)) g113).mono ?_
        rintro _ h114 ⟨m115, Q116, rfl⟩
        have O118 := Hold.nm (O111.retC Q116 vfs_nil)
        refine ⟨_, rfl, ?_⟩
        refine split_not ?_
        refine split_any_e e (fun c119 e => ?_) (fun c119 e => ?_)
        · exact roadlaw3_BoxTells.j0.walk (O118.pick [0, 1, 2, 3]).nm (T_box_Box.T.mono _ _ _ _ (Q20.S.up.trans (Q36.S.up.trans (Q52.S.up.trans (Q79.S.up.trans (Q89.S.up.trans Q106.S.up))))) e_0) (T_api_Letter.T.mono _ _ _ _ (Q20.S.up.trans (Q36.S.up.trans (Q52.S.up.trans (Q79.S.up.trans (Q89.S.up.trans Q106.S.up))))) e_1) (T_box_Box.T.mono _ _ _ _ (Q36.S.up.trans (Q52.S.up.trans (Q79.S.up.trans (Q89.S.up.trans Q106.S.up)))) he24) (T_box_Box.T.mono _ _ _ _ (Q52.S.up.trans (Q79.S.up.trans (Q89.S.up.trans Q106.S.up))) he40) rfl k58 (r59.sub T_api_Letter.T (Q79.S.up.trans (Q89.S.up.trans Q106.S.up))) e
        · cases e
          exact ⟨_, O118.pick [], rfl⟩
      · refine ⟨Ext.refl _, ?_⟩
        cases e
        exact ⟨_, O101.pick [], rfl⟩
  · cases e
    exact ⟨_, O15.pick [], rfl⟩

end Go.Proofs.Ytklobcelbpjjcaa.Fw
