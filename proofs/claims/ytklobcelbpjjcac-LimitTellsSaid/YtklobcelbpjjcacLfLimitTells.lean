/- Data of the given program, and pure functions of its functions, with the walks. Printed by a program of this session. -/
import Derived.Test.YtklobcelbpjjcacFwLimitTells
import Derived.Test.YtklobcelbpjjcacHwOj
namespace Go.Proofs.Ytklobcelbpjjcac.Fw
open Go Go.Hw Go.Proofs
set_option linter.unusedVariables false
set_option synthInstance.maxHeartbeats 400000
set_option synthInstance.maxSize 1000

structure T_api_Value where
  Kind : Int
  Num : Int
  Text : ByteArray
  Args : (List T_api_Value)
def T_api_Value.E (h : Heap) : T_api_Value → List Value → Prop
  | ⟨f0, f1, f2, f3⟩, cs => ∃ A3 c3, cs = [.int .i64 f0, .int .i64 f1, .string f2, .slice A3 f3.length c3] ∧ f3.length ≤ c3 ∧ (∀ i (hi : i < f3.length), ∃ a ds, A3 = some a ∧ cellsH h (a.add (i * 4)) 0 4 = some ds ∧ T_api_Value.E h f3[i] ds)
  termination_by x => SizeOf.sizeOf x
  decreasing_by
    all_goals
      have h1 := List.sizeOf_lt_of_mem (List.getElem_mem hi)
      first
      | (simp_all; omega)
theorem T_api_Value.iff {h : Heap} {x : T_api_Value} {cs : List Value} : T_api_Value.E h x cs ↔ ∃ A3 c3, cs = [.int .i64 x.Kind, .int .i64 x.Num, .string x.Text, .slice A3 x.Args.length c3] ∧ x.Args.length ≤ c3 ∧ Rd 4 T_api_Value.E h A3 x.Args := by
  cases x
  rw [T_api_Value.E]
  exact Iff.rfl
theorem T_api_Value.mono {m h : Heap} (s : Sub m h) : ∀ (x : T_api_Value) (cs : List Value), T_api_Value.E m x cs → T_api_Value.E h x cs
  | ⟨f0, f1, f2, f3⟩, cs, e => by
    rw [T_api_Value.E] at e ⊢
    obtain ⟨A3, c3, h1, k3, r3⟩ := e
    exact ⟨A3, c3, h1, k3, fun i hi => let ⟨a, ds, h1, h2, h3⟩ := r3 i hi; ⟨a, ds, h1, s.cells _ _ h2, T_api_Value.mono s _ _ h3⟩⟩
  termination_by x => SizeOf.sizeOf x
  decreasing_by
    all_goals
      have h1 := List.sizeOf_lt_of_mem (List.getElem_mem hi)
      first
      | (simp_all; omega)
theorem T_api_Value.T : Tell 4 T_api_Value.E := ⟨fun _ _ x cs s e => T_api_Value.mono s x cs e, by intro h x cs e; obtain ⟨A3, c3, rfl, k3, r3⟩ := T_api_Value.iff.1 e; rfl, by intro h x cs e; obtain ⟨A3, c3, rfl, k3, r3⟩ := T_api_Value.iff.1 e; exact Flats.cons trivial (Flats.cons trivial (Flats.cons trivial (Flats.cons trivial Flats.nil)))⟩
def T_api_Value.Q : T_api_Value → Prop
  | ⟨f0, f1, f2, f3⟩ => (-9223372036854775808 ≤ f0 ∧ f0 ≤ 9223372036854775807) ∧ (-9223372036854775808 ≤ f1 ∧ f1 ≤ 9223372036854775807) ∧ (f2.size ≤ 140737488351232) ∧ (f3.length * 56 ≤ 140737488351232 ∧ ∀ i (hi : i < f3.length), T_api_Value.Q f3[i])
  termination_by x => SizeOf.sizeOf x
  decreasing_by
    all_goals
      have h1 := List.sizeOf_lt_of_mem (List.getElem_mem hi)
      first
      | (simp_all; omega)
theorem T_api_Value.Q_iff {x : T_api_Value} : T_api_Value.Q x ↔ (-9223372036854775808 ≤ x.Kind ∧ x.Kind ≤ 9223372036854775807) ∧ (-9223372036854775808 ≤ x.Num ∧ x.Num ≤ 9223372036854775807) ∧ (x.Text.size ≤ 140737488351232) ∧ (x.Args.length * 56 ≤ 140737488351232 ∧ ∀ a ∈ x.Args, T_api_Value.Q a) := by
  obtain ⟨f0, f1, f2, f3⟩ := x
  rw [T_api_Value.Q]
  show _ ↔ (-9223372036854775808 ≤ f0 ∧ f0 ≤ 9223372036854775807) ∧ (-9223372036854775808 ≤ f1 ∧ f1 ≤ 9223372036854775807) ∧ (f2.size ≤ 140737488351232) ∧ (f3.length * 56 ≤ 140737488351232 ∧ ∀ a ∈ f3, T_api_Value.Q a)
  rw [← forall_get (l := f3) (p := T_api_Value.Q)]
theorem T_api_Value.tells {H : Type} {enc : TypeId × Value → H} {W : World} : Tells enc Try.prog W 126 T_api_Value.E T_api_Value.Q := tells_rec fun N ih => tellsU_map (tellsU_struct (t := 126) (fs := [(3, 0), (3, 1), (9, 2), (124, 3)]) (T := 4) (by kernel_rfl) (by kernel_rfl) (tfU_cons (s := 1) (f := 3) (by kernel_rfl) (Tells.up (tells_i64 (t := 3) (by kernel_rfl))) (tfU_cons (s := 1) (f := 3) (by kernel_rfl) (Tells.up (tells_i64 (t := 3) (by kernel_rfl))) (tfU_cons (s := 1) (f := 9) (by kernel_rfl) (Tells.up (tells_strL (t := 9) (by kernel_rfl))) (tfU_cons (s := 1) (f := 124) (by kernel_rfl) (tellsU_slice (t := 124) (e := 126) (sz := 4) (B := 56) (by kernel_rfl) (by kernel_rfl) (by kernel_rfl) ih) tfU_nil))))) (by
  rintro ⟨x0, x1, x2, x3, ⟨⟩⟩ cs e q
  obtain ⟨c0, r0, rfl, e0, c1, r1, rfl, e1, c2, r2, rfl, e2, c3, r3, rfl, e3, eN⟩ := e
  obtain rfl : c0 = [.int .i64 x0] := e0
  obtain rfl : c1 = [.int .i64 x1] := e1
  obtain rfl : c2 = [.string x2] := e2
  obtain ⟨A3, k3, rfl, l3, R3⟩ := e3
  obtain rfl : r3 = [] := eN
  exact ⟨⟨x0, x1, x2, x3⟩, T_api_Value.iff.2 ⟨_, _, rfl, l3, R3⟩, T_api_Value.Q_iff.2 ⟨q.1, q.2.1, q.2.2.1, q.2.2.2.1⟩⟩)
structure T_limit_Row where
  Ref : Int
  Letters : Int
  Cells : Int
  MaxLetters : Int
  MaxCells : Int
def T_limit_Row.E (h : Heap) (x : T_limit_Row) (cs : List Value) : Prop := cs = [.int .i64 x.Ref, .int .i64 x.Letters, .int .i64 x.Cells, .int .i64 x.MaxLetters, .int .i64 x.MaxCells]
theorem T_limit_Row.T : Tell 5 T_limit_Row.E := ⟨by rintro m h x _ s rfl; exact rfl, by rintro h x _ rfl; rfl, by rintro h x _ rfl; exact Flats.cons trivial (Flats.cons trivial (Flats.cons trivial (Flats.cons trivial (Flats.cons trivial Flats.nil))))⟩
theorem T_limit_Row.keep {m h : Heap} {x : T_limit_Row} {cs : List Value} (e : T_limit_Row.E m x cs) : T_limit_Row.E h x cs := e
def T_limit_Row.Q (x : T_limit_Row) : Prop := (-9223372036854775808 ≤ x.Ref ∧ x.Ref ≤ 9223372036854775807) ∧ (-9223372036854775808 ≤ x.Letters ∧ x.Letters ≤ 9223372036854775807) ∧ (-9223372036854775808 ≤ x.Cells ∧ x.Cells ≤ 9223372036854775807) ∧ (-9223372036854775808 ≤ x.MaxLetters ∧ x.MaxLetters ≤ 9223372036854775807) ∧ (-9223372036854775808 ≤ x.MaxCells ∧ x.MaxCells ≤ 9223372036854775807)
theorem T_limit_Row.tells {H : Type} {enc : TypeId × Value → H} {W : World} : Tells enc Try.prog W 138 T_limit_Row.E T_limit_Row.Q := tells_map (tells_struct (t := 138) (fs := [(3, 0), (3, 1), (3, 2), (3, 3), (3, 4)]) (T := 5) (by kernel_rfl) (by kernel_rfl) (tf_cons (s := 1) (f := 3) (by kernel_rfl) (tells_i64 (t := 3) (by kernel_rfl)) (tf_cons (s := 1) (f := 3) (by kernel_rfl) (tells_i64 (t := 3) (by kernel_rfl)) (tf_cons (s := 1) (f := 3) (by kernel_rfl) (tells_i64 (t := 3) (by kernel_rfl)) (tf_cons (s := 1) (f := 3) (by kernel_rfl) (tells_i64 (t := 3) (by kernel_rfl)) (tf_cons (s := 1) (f := 3) (by kernel_rfl) (tells_i64 (t := 3) (by kernel_rfl)) tf_nil)))))) (by
  rintro ⟨x0, x1, x2, x3, x4, ⟨⟩⟩ cs e q
  obtain ⟨c0, r0, rfl, e0, c1, r1, rfl, e1, c2, r2, rfl, e2, c3, r3, rfl, e3, c4, r4, rfl, e4, eN⟩ := e
  obtain rfl : c0 = [.int .i64 x0] := e0
  obtain rfl : c1 = [.int .i64 x1] := e1
  obtain rfl : c2 = [.int .i64 x2] := e2
  obtain rfl : c3 = [.int .i64 x3] := e3
  obtain rfl : c4 = [.int .i64 x4] := e4
  obtain rfl : r4 = [] := eN
  exact ⟨⟨x0, x1, x2, x3, x4⟩, rfl, q.1, q.2.1, q.2.2.1, q.2.2.2.1, q.2.2.2.2.1⟩)
theorem T_api_Value.g3 {m : Heap} {x : T_api_Value} {cs : List Value} (e : T_api_Value.E m x cs) : ∃ A c, cs[3]? = some (.slice A (List.length x.Args) c) ∧ List.length x.Args ≤ c ∧ Rd 4 T_api_Value.E m A x.Args := by
  obtain ⟨A3, c3, rfl, k3, r3⟩ := T_api_Value.iff.1 e
  exact ⟨_, _, rfl, k3, r3⟩
theorem T_limit_Row.g1 {m : Heap} {x : T_limit_Row} {cs : List Value} (e : T_limit_Row.E m x cs) : cs[1]? = some (Value.int .i64 x.Letters) := by
  obtain rfl := e
  exact rfl
theorem T_limit_Row.g2 {m : Heap} {x : T_limit_Row} {cs : List Value} (e : T_limit_Row.E m x cs) : cs[2]? = some (Value.int .i64 x.Cells) := by
  obtain rfl := e
  exact rfl
theorem T_limit_Row.g3 {m : Heap} {x : T_limit_Row} {cs : List Value} (e : T_limit_Row.E m x cs) : cs[3]? = some (Value.int .i64 x.MaxLetters) := by
  obtain rfl := e
  exact rfl
theorem T_limit_Row.g4 {m : Heap} {x : T_limit_Row} {cs : List Value} (e : T_limit_Row.E m x cs) : cs[4]? = some (Value.int .i64 x.MaxCells) := by
  obtain rfl := e
  exact rfl
theorem T_limit_Row.g0 {m : Heap} {x : T_limit_Row} {cs : List Value} (e : T_limit_Row.E m x cs) : cs[0]? = some (Value.int .i64 x.Ref) := by
  obtain rfl := e
  exact rfl
theorem T_limit_Row.s1 {m : Heap} {x : T_limit_Row} {cs : List Value} (e : T_limit_Row.E m x cs) (v : Int) : T_limit_Row.E m { x with Letters := v } (cs.set 1 (Value.int .i64 v)) := by
  obtain rfl := e
  exact rfl
theorem T_limit_Row.s2 {m : Heap} {x : T_limit_Row} {cs : List Value} (e : T_limit_Row.E m x cs) (v : Int) : T_limit_Row.E m { x with Cells := v } (cs.set 2 (Value.int .i64 v)) := by
  obtain rfl := e
  exact rfl
theorem T_limit_Row.s3 {m : Heap} {x : T_limit_Row} {cs : List Value} (e : T_limit_Row.E m x cs) (v : Int) : T_limit_Row.E m { x with MaxLetters := v } (cs.set 3 (Value.int .i64 v)) := by
  obtain rfl := e
  exact rfl
theorem T_limit_Row.s4 {m : Heap} {x : T_limit_Row} {cs : List Value} (e : T_limit_Row.E m x cs) (v : Int) : T_limit_Row.E m { x with MaxCells := v } (cs.set 4 (Value.int .i64 v)) := by
  obtain rfl := e
  exact rfl

/-! ### 37 roadstead/roadref3.In -/
def roadref3_In.post (W : Nat → Prop) (h0 m0 : Heap) (r : Bool) (v : Value) (h : Heap) : Prop := ∃ m , Hold W h0 m0 h m [] ∧ v = .bool r
noncomputable def roadref3_In (x_0 : Int) (x_1 : Int) (x_2 : Int) : Option (Bool) :=
  if x_0 ≥ x_1 then (some ((decide (x_0 ≤ x_2)))) else (some (false))
set_option maxRecDepth 100000 in
theorem roadref3_In.walk {W : Nat → Prop} {h m : Heap} {x_0 : Int} {x_1 : Int} {x_2 : Int} (O : Hold W h m h m []) {r : Bool} (e : roadref3_In x_0 x_1 x_2 = some r) : Run Try.prog 37 #[Value.int .i64 x_0, Value.int .i64 x_1, Value.int .i64 x_2] h (roadref3_In.post W h m r) := by
  unfold roadref3_In at e
  refine f37.run ?_
  unfold f37.runT
  refine split_dec_e e (fun c1 e => ?_) (fun c1 e => ?_)
  · cases e
    exact ⟨_, O.pick [], rfl⟩
  · cases e
    exact ⟨_, O.pick [], rfl⟩

/-! ### 54 roadstead/roadref3.Deep -/
def roadref3_Deep.post (W : Nat → Prop) (h0 m0 : Heap) (r : Int × Int) (v : Value) (h : Heap) : Prop := ∃ m , Hold W h0 m0 h m [] ∧ v = .tuple #[.int .i64 r.1, .int .i64 r.2]
inductive roadref3_Deep_k.Pt where
  | f (y_0 : T_api_Value)
  | l0 (x_4 : Int) (x_5 : Int) (a_11 : List T_api_Value) (x_12 : Int) (x_13 : Int)
noncomputable def roadref3_Deep_k.body (go : (p : roadref3_Deep_k.Pt) → Option (Int × Int)) : (p : roadref3_Deep_k.Pt) → Option (Int × Int)
  | .f y_0 => (go (.l0 (0 : Int) (1 : Int) y_0.Args (((List.length y_0.Args) : Nat) : Int) (0 : Int)))
  | .l0 x_4 x_5 a_11 x_12 x_13 => if x_13 < x_12 then (Option.bind (gi a_11 x_13) fun y1 => Option.bind ((go (.f y1))) fun y14 => (go (.l0 (if y14.1 > x_4 then y14.1 else x_4) (IntKind.wrap .i64 (x_5 + y14.2)) a_11 x_12 (IntKind.wrap .i64 (x_13 + (1 : Int)))))) else (some ((IntKind.wrap .i64 (x_4 + (1 : Int))), x_5))
theorem roadref3_Deep_k.mono : MonoF (β := fun _ => (Int × Int)) roadref3_Deep_k.body := fun f g hfg p => match p with
  | .f y_0 => (hfg _)
  | .l0 x_4 x_5 a_11 x_12 x_13 => LeO.ite (LeO.bind (LeO.refl _) fun y1 => LeO.bind ((hfg _)) fun y14 => (hfg _)) (LeO.refl _)
noncomputable def roadref3_Deep_k.go (p : roadref3_Deep_k.Pt) : Option (Int × Int) := fixF (β := fun _ => (Int × Int)) roadref3_Deep_k.body p
noncomputable def roadref3_Deep (y_0 : T_api_Value) : Option (Int × Int) := roadref3_Deep_k.go (.f y_0)
noncomputable def roadref3_Deep.l0 (x_4 : Int) (x_5 : Int) (a_11 : List T_api_Value) (x_12 : Int) (x_13 : Int) : Option (Int × Int) := roadref3_Deep_k.go (.l0 x_4 x_5 a_11 x_12 x_13)
theorem roadref3_Deep_eq (y_0 : T_api_Value) : roadref3_Deep y_0 = (roadref3_Deep.l0 (0 : Int) (1 : Int) y_0.Args (((List.length y_0.Args) : Nat) : Int) (0 : Int)) := fixF_eq roadref3_Deep_k.mono _
theorem roadref3_Deep.l0_eq (x_4 : Int) (x_5 : Int) (a_11 : List T_api_Value) (x_12 : Int) (x_13 : Int) : roadref3_Deep.l0 x_4 x_5 a_11 x_12 x_13 = if x_13 < x_12 then (Option.bind (gi a_11 x_13) fun y1 => Option.bind ((roadref3_Deep y1)) fun y14 => (roadref3_Deep.l0 (if y14.1 > x_4 then y14.1 else x_4) (IntKind.wrap .i64 (x_5 + y14.2)) a_11 x_12 (IntKind.wrap .i64 (x_13 + (1 : Int))))) else (some ((IntKind.wrap .i64 (x_4 + (1 : Int))), x_5)) := fixF_eq roadref3_Deep_k.mono _
def roadref3_Deep_k.I : (p : roadref3_Deep_k.Pt) → (Int × Int) → Prop
  | .f y_0, r => ∀ (W : Nat → Prop) (h m : Heap) (cs_0 : List Value) (O : Hold W h m h m []) (e_0 : T_api_Value.E m y_0 cs_0), Run Try.prog 54 #[Value.agg cs_0.toArray] h (roadref3_Deep.post W h m r)
  | .l0 x_4 x_5 a_11 x_12 x_13, r => ∀ (W : Nat → Prop) (h0 m0 h m : Heap) (A_11 : Option Addr) (n_11 c_11 : Nat) (O : Hold W h0 m0 h m []) (ne_11 : n_11 = List.length a_11) (k_11 : List.length a_11 ≤ c_11) (r_11 : Rd 4 T_api_Value.E m A_11 a_11), f54.l0 (roadref3_Deep.post W h0 m0 r) x_4 x_5 A_11 n_11 c_11 x_12 x_13 h
set_option maxRecDepth 100000 in
theorem roadref3_Deep_k.step_f (go : (p : roadref3_Deep_k.Pt) → Option (Int × Int)) (ih : ∀ p r, go p = some r → roadref3_Deep_k.I p r) (y_0 : T_api_Value) (r : Int × Int) (e : roadref3_Deep_k.body go (.f y_0) = some r) : roadref3_Deep_k.I (.f y_0) r := by
  unfold roadref3_Deep_k.body at e
  intro W h m cs_0 O e_0
  refine f54.run ?_
  unfold f54.runT
  refine O.new fun h1 x2 O3 => ?_
  obtain ⟨A5, c6, q7, k8, r9⟩ := T_api_Value.g3 e_0
  refine ⟨_, ldk (k := 3) (Sub.refl _) (O3.all 0 rfl) q7, _, _, _, rfl, ?_⟩
  have O10 := O3.nm
  exact (ih _ _ e) _ _ _ _ _ _ _ _ (O10.pick []).nm rfl k8 r9
set_option maxRecDepth 100000 in
theorem roadref3_Deep_k.step_l0 (go : (p : roadref3_Deep_k.Pt) → Option (Int × Int)) (ih : ∀ p r, go p = some r → roadref3_Deep_k.I p r) (x_4 : Int) (x_5 : Int) (a_11 : List T_api_Value) (x_12 : Int) (x_13 : Int) (r : Int × Int) (e : roadref3_Deep_k.body go (.l0 x_4 x_5 a_11 x_12 x_13) = some r) : roadref3_Deep_k.I (.l0 x_4 x_5 a_11 x_12 x_13) r := by
  unfold roadref3_Deep_k.body at e
  intro W h0 m0 h m A_11 n_11 c_11 O ne_11 k_11 r_11
  subst ne_11
  refine f54.l0_in ?_
  unfold f54.l0T
  refine split_dec_e e (fun c21 e => ?_) (fun c21 e => ?_)
  · obtain ⟨y1, g2, e⟩ := bind_e e
    refine r_11.addr rfl g2 fun a3 cs4 ha5 hc6 he7 => ?_
    refine ⟨_, ldAn O.s hc6 rfl, ?_⟩
    refine O.new fun h8 x9 O10 => ?_
    refine ⟨_, rfl, (T_api_Value.T.len _ _ _ he7), ?_⟩
    refine O10.stA 0 rfl (T_api_Value.T.len _ _ _ he7) (T_api_Value.T.flat _ _ _ he7) fun h12 O13 => ?_
    refine ⟨_, ldAn (Sub.refl _) (O13.all 0 rfl) (T_api_Value.T.len _ _ _ he7), ?_⟩
    obtain ⟨y14, g15, e⟩ := bind_e e
    refine ((ih _ _ g15) _ _ _ _ (Hold.start (W := No) O13.s) he7).mono ?_
    rintro _ h16 ⟨m17, Q18, rfl⟩
    have O20 := Hold.nm (O13.retC Q18 vfs_nil)
    refine ⟨_, _, rfl, ?_⟩
    exact (ih _ _ e) _ _ _ _ _ _ _ _ (O20.pick []).nm rfl k_11 r_11
  · cases e
    exact ⟨_, O.pick [], rfl⟩
theorem roadref3_Deep_k.all {p : roadref3_Deep_k.Pt} {r : (Int × Int)} (e : roadref3_Deep_k.go p = some r) : roadref3_Deep_k.I p r := fixF_ind (β := fun _ => (Int × Int)) roadref3_Deep_k.mono (I := roadref3_Deep_k.I) (fun go ih p r e => match p with
  | .f y_0 => roadref3_Deep_k.step_f go ih y_0 r e
  | .l0 x_4 x_5 a_11 x_12 x_13 => roadref3_Deep_k.step_l0 go ih x_4 x_5 a_11 x_12 x_13 r e
  ) e
theorem roadref3_Deep.walk {W : Nat → Prop} {h m : Heap} {cs_0 : List Value} {y_0 : T_api_Value} (O : Hold W h m h m []) (e_0 : T_api_Value.E m y_0 cs_0) {r : Int × Int} (e : roadref3_Deep y_0 = some r) : Run Try.prog 54 #[Value.agg cs_0.toArray] h (roadref3_Deep.post W h m r) := roadref3_Deep_k.all (p := .f y_0) e W h m cs_0 O e_0
theorem roadref3_Deep.l0.walk {W : Nat → Prop} {h0 m0 h m : Heap} {A_11 : Option Addr} {n_11 c_11 : Nat} {x_4 : Int} {x_5 : Int} {a_11 : List T_api_Value} {x_12 : Int} {x_13 : Int} (O : Hold W h0 m0 h m []) (ne_11 : n_11 = List.length a_11) (k_11 : List.length a_11 ≤ c_11) (r_11 : Rd 4 T_api_Value.E m A_11 a_11) {r : Int × Int} (e : roadref3_Deep.l0 x_4 x_5 a_11 x_12 x_13 = some r) : f54.l0 (roadref3_Deep.post W h0 m0 r) x_4 x_5 A_11 n_11 c_11 x_12 x_13 h := roadref3_Deep_k.all (p := .l0 x_4 x_5 a_11 x_12 x_13) e W h0 m0 h m A_11 n_11 c_11 O ne_11 k_11 r_11

/-! ### 53 roadstead/roadlaw3.flat -/
def roadlaw3_flat.post (W : Nat → Prop) (h0 m0 : Heap) (r : Bool) (v : Value) (h : Heap) : Prop := ∃ m , Hold W h0 m0 h m [] ∧ v = .bool r
noncomputable def roadlaw3_flat (y_0 : T_api_Value) : Option (Bool) :=
  Option.bind (roadref3_Deep y_0) fun y5 => if y5.1 ≤ (60 : Int) then (some ((decide (y5.2 ≤ (500 : Int))))) else (some (false))
set_option maxRecDepth 100000 in
theorem roadlaw3_flat.walk {W : Nat → Prop} {h m : Heap} {cs_0 : List Value} {y_0 : T_api_Value} (O : Hold W h m h m []) (e_0 : T_api_Value.E m y_0 cs_0) {r : Bool} (e : roadlaw3_flat y_0 = some r) : Run Try.prog 53 #[Value.agg cs_0.toArray] h (roadlaw3_flat.post W h m r) := by
  unfold roadlaw3_flat at e
  refine f53.run ?_
  unfold f53.runT
  refine O.new fun h1 x2 O3 => ?_
  refine ⟨_, ldAn (Sub.refl _) (O3.all 0 rfl) (T_api_Value.T.len _ _ _ e_0), ?_⟩
  obtain ⟨y5, g6, e⟩ := bind_e e
  refine (roadref3_Deep.walk (Hold.start (W := No) O3.s) e_0 g6).mono ?_
  rintro _ h7 ⟨m8, Q9, rfl⟩
  have O11 := Hold.nm (O3.retC Q9 vfs_nil)
  refine ⟨_, _, rfl, ?_⟩
  refine split_dec_e e (fun c12 e => ?_) (fun c12 e => ?_)
  · cases e
    exact ⟨_, O11.pick [], rfl⟩
  · cases e
    exact ⟨_, O11.pick [], rfl⟩

/-! ### 55 roadstead/limit.Cells -/
def limit_Cells.post (W : Nat → Prop) (h0 m0 : Heap) (r : Int) (v : Value) (h : Heap) : Prop := ∃ m , Hold W h0 m0 h m [] ∧ v = .int .i64 r
inductive limit_Cells_k.Pt where
  | f (y_0 : T_api_Value)
  | l0 (x_3 : Int) (a_7 : List T_api_Value) (x_8 : Int) (x_9 : Int)
noncomputable def limit_Cells_k.body (go : (p : limit_Cells_k.Pt) → Option (Int)) : (p : limit_Cells_k.Pt) → Option (Int)
  | .f y_0 => (go (.l0 (1 : Int) y_0.Args (((List.length y_0.Args) : Nat) : Int) (0 : Int)))
  | .l0 x_3 a_7 x_8 x_9 => if x_9 < x_8 then (Option.bind (gi a_7 x_9) fun y1 => Option.bind ((go (.f y1))) fun y14 => (go (.l0 (IntKind.wrap .i64 (x_3 + y14)) a_7 x_8 (IntKind.wrap .i64 (x_9 + (1 : Int)))))) else (some (x_3))
theorem limit_Cells_k.mono : MonoF (β := fun _ => (Int)) limit_Cells_k.body := fun f g hfg p => match p with
  | .f y_0 => (hfg _)
  | .l0 x_3 a_7 x_8 x_9 => LeO.ite (LeO.bind (LeO.refl _) fun y1 => LeO.bind ((hfg _)) fun y14 => (hfg _)) (LeO.refl _)
noncomputable def limit_Cells_k.go (p : limit_Cells_k.Pt) : Option (Int) := fixF (β := fun _ => (Int)) limit_Cells_k.body p
noncomputable def limit_Cells (y_0 : T_api_Value) : Option (Int) := limit_Cells_k.go (.f y_0)
noncomputable def limit_Cells.l0 (x_3 : Int) (a_7 : List T_api_Value) (x_8 : Int) (x_9 : Int) : Option (Int) := limit_Cells_k.go (.l0 x_3 a_7 x_8 x_9)
theorem limit_Cells_eq (y_0 : T_api_Value) : limit_Cells y_0 = (limit_Cells.l0 (1 : Int) y_0.Args (((List.length y_0.Args) : Nat) : Int) (0 : Int)) := fixF_eq limit_Cells_k.mono _
theorem limit_Cells.l0_eq (x_3 : Int) (a_7 : List T_api_Value) (x_8 : Int) (x_9 : Int) : limit_Cells.l0 x_3 a_7 x_8 x_9 = if x_9 < x_8 then (Option.bind (gi a_7 x_9) fun y1 => Option.bind ((limit_Cells y1)) fun y14 => (limit_Cells.l0 (IntKind.wrap .i64 (x_3 + y14)) a_7 x_8 (IntKind.wrap .i64 (x_9 + (1 : Int))))) else (some (x_3)) := fixF_eq limit_Cells_k.mono _
def limit_Cells_k.I : (p : limit_Cells_k.Pt) → (Int) → Prop
  | .f y_0, r => ∀ (W : Nat → Prop) (h m : Heap) (cs_0 : List Value) (O : Hold W h m h m []) (e_0 : T_api_Value.E m y_0 cs_0), Run Try.prog 55 #[Value.agg cs_0.toArray] h (limit_Cells.post W h m r)
  | .l0 x_3 a_7 x_8 x_9, r => ∀ (W : Nat → Prop) (h0 m0 h m : Heap) (A_7 : Option Addr) (n_7 c_7 : Nat) (O : Hold W h0 m0 h m []) (ne_7 : n_7 = List.length a_7) (k_7 : List.length a_7 ≤ c_7) (r_7 : Rd 4 T_api_Value.E m A_7 a_7), f55.l0 (limit_Cells.post W h0 m0 r) x_3 A_7 n_7 c_7 x_8 x_9 h
set_option maxRecDepth 100000 in
theorem limit_Cells_k.step_f (go : (p : limit_Cells_k.Pt) → Option (Int)) (ih : ∀ p r, go p = some r → limit_Cells_k.I p r) (y_0 : T_api_Value) (r : Int) (e : limit_Cells_k.body go (.f y_0) = some r) : limit_Cells_k.I (.f y_0) r := by
  unfold limit_Cells_k.body at e
  intro W h m cs_0 O e_0
  refine f55.run ?_
  unfold f55.runT
  refine O.new fun h1 x2 O3 => ?_
  obtain ⟨A5, c6, q7, k8, r9⟩ := T_api_Value.g3 e_0
  refine ⟨_, ldk (k := 3) (Sub.refl _) (O3.all 0 rfl) q7, _, _, _, rfl, ?_⟩
  have O10 := O3.nm
  exact (ih _ _ e) _ _ _ _ _ _ _ _ (O10.pick []).nm rfl k8 r9
set_option maxRecDepth 100000 in
theorem limit_Cells_k.step_l0 (go : (p : limit_Cells_k.Pt) → Option (Int)) (ih : ∀ p r, go p = some r → limit_Cells_k.I p r) (x_3 : Int) (a_7 : List T_api_Value) (x_8 : Int) (x_9 : Int) (r : Int) (e : limit_Cells_k.body go (.l0 x_3 a_7 x_8 x_9) = some r) : limit_Cells_k.I (.l0 x_3 a_7 x_8 x_9) r := by
  unfold limit_Cells_k.body at e
  intro W h0 m0 h m A_7 n_7 c_7 O ne_7 k_7 r_7
  subst ne_7
  refine f55.l0_in ?_
  unfold f55.l0T
  refine split_dec_e e (fun c21 e => ?_) (fun c21 e => ?_)
  · obtain ⟨y1, g2, e⟩ := bind_e e
    refine r_7.addr rfl g2 fun a3 cs4 ha5 hc6 he7 => ?_
    refine ⟨_, ldAn O.s hc6 rfl, ?_⟩
    refine O.new fun h8 x9 O10 => ?_
    refine ⟨_, rfl, (T_api_Value.T.len _ _ _ he7), ?_⟩
    refine O10.stA 0 rfl (T_api_Value.T.len _ _ _ he7) (T_api_Value.T.flat _ _ _ he7) fun h12 O13 => ?_
    refine ⟨_, ldAn (Sub.refl _) (O13.all 0 rfl) (T_api_Value.T.len _ _ _ he7), ?_⟩
    obtain ⟨y14, g15, e⟩ := bind_e e
    refine ((ih _ _ g15) _ _ _ _ (Hold.start (W := No) O13.s) he7).mono ?_
    rintro _ h16 ⟨m17, Q18, rfl⟩
    have O20 := Hold.nm (O13.retC Q18 vfs_nil)
    refine ⟨_, rfl, ?_⟩
    exact (ih _ _ e) _ _ _ _ _ _ _ _ (O20.pick []).nm rfl k_7 r_7
  · cases e
    exact ⟨_, O.pick [], rfl⟩
theorem limit_Cells_k.all {p : limit_Cells_k.Pt} {r : (Int)} (e : limit_Cells_k.go p = some r) : limit_Cells_k.I p r := fixF_ind (β := fun _ => (Int)) limit_Cells_k.mono (I := limit_Cells_k.I) (fun go ih p r e => match p with
  | .f y_0 => limit_Cells_k.step_f go ih y_0 r e
  | .l0 x_3 a_7 x_8 x_9 => limit_Cells_k.step_l0 go ih x_3 a_7 x_8 x_9 r e
  ) e
theorem limit_Cells.walk {W : Nat → Prop} {h m : Heap} {cs_0 : List Value} {y_0 : T_api_Value} (O : Hold W h m h m []) (e_0 : T_api_Value.E m y_0 cs_0) {r : Int} (e : limit_Cells y_0 = some r) : Run Try.prog 55 #[Value.agg cs_0.toArray] h (limit_Cells.post W h m r) := limit_Cells_k.all (p := .f y_0) e W h m cs_0 O e_0
theorem limit_Cells.l0.walk {W : Nat → Prop} {h0 m0 h m : Heap} {A_7 : Option Addr} {n_7 c_7 : Nat} {x_3 : Int} {a_7 : List T_api_Value} {x_8 : Int} {x_9 : Int} (O : Hold W h0 m0 h m []) (ne_7 : n_7 = List.length a_7) (k_7 : List.length a_7 ≤ c_7) (r_7 : Rd 4 T_api_Value.E m A_7 a_7) {r : Int} (e : limit_Cells.l0 x_3 a_7 x_8 x_9 = some r) : f55.l0 (limit_Cells.post W h0 m0 r) x_3 A_7 n_7 c_7 x_8 x_9 h := limit_Cells_k.all (p := .l0 x_3 a_7 x_8 x_9) e W h0 m0 h m A_7 n_7 c_7 O ne_7 k_7 r_7

/-! ### 61 roadstead/limit.Check -/
def limit_Check.post (W : Nat → Prop) (h0 m0 : Heap) (r : Int) (v : Value) (h : Heap) : Prop := ∃ m , Hold W h0 m0 h m [] ∧ v = .int .i64 r
inductive limit_Check.l0_k.Pt where
  | l0 (a_0 : List T_limit_Row) (a_8 : List T_limit_Row) (x_9 : Int) (x_10 : Int)
  | j0 (a_0 : List T_limit_Row) (x_3 : Int) (y_4 : T_limit_Row) (a_8 : List T_limit_Row) (x_9 : Int) (x_10 : Int) (b_15 : Bool)
noncomputable def limit_Check.l0_k.body (go : (p : limit_Check.l0_k.Pt) → Option (Int)) : (p : limit_Check.l0_k.Pt) → Option (Int)
  | .l0 a_0 a_8 x_9 x_10 => if x_10 < x_9 then (Option.bind (gi a_8 x_10) fun y1 => if (if y1.MaxCells < (if y1.MaxLetters < (if y1.Cells < y1.Letters then y1.Cells else y1.Letters) then y1.MaxLetters else (if y1.Cells < y1.Letters then y1.Cells else y1.Letters)) then y1.MaxCells else (if y1.MaxLetters < (if y1.Cells < y1.Letters then y1.Cells else y1.Letters) then y1.MaxLetters else (if y1.Cells < y1.Letters then y1.Cells else y1.Letters))) < (0 : Int) then ((go (.j0 a_0 x_10 y1 a_8 x_9 x_10 true))) else (if (if y1.MaxCells > y1.MaxLetters then y1.MaxCells else y1.MaxLetters) > (1073741824 : Int) then ((go (.j0 a_0 x_10 y1 a_8 x_9 x_10 true))) else (if y1.Letters > y1.MaxLetters then ((go (.j0 a_0 x_10 y1 a_8 x_9 x_10 true))) else ((go (.j0 a_0 x_10 y1 a_8 x_9 x_10 (decide (y1.Cells > y1.MaxCells)))))))) else (some ((0 : Int)))
  | .j0 a_0 x_3 y_4 a_8 x_9 x_10 b_15 => if b_15 = true then (some ((1 : Int))) else (if x_3 > (0 : Int) then (Option.bind (gi a_0 (IntKind.wrap .i64 (x_3 - (1 : Int)))) fun y1 => if y1.Ref ≥ y_4.Ref then (some ((21 : Int))) else ((go (.l0 a_0 a_8 x_9 (IntKind.wrap .i64 (x_10 + (1 : Int))))))) else ((go (.l0 a_0 a_8 x_9 (IntKind.wrap .i64 (x_10 + (1 : Int)))))))
theorem limit_Check.l0_k.mono : MonoF (β := fun _ => (Int)) limit_Check.l0_k.body := fun f g hfg p => match p with
  | .l0 a_0 a_8 x_9 x_10 => LeO.ite (LeO.bind (LeO.refl _) fun y1 => LeO.ite ((hfg _)) (LeO.ite ((hfg _)) (LeO.ite ((hfg _)) ((hfg _))))) (LeO.refl _)
  | .j0 a_0 x_3 y_4 a_8 x_9 x_10 b_15 => LeO.ite (LeO.refl _) (LeO.ite (LeO.bind (LeO.refl _) fun y1 => LeO.ite (LeO.refl _) ((hfg _))) ((hfg _)))
noncomputable def limit_Check.l0_k.go (p : limit_Check.l0_k.Pt) : Option (Int) := fixF (β := fun _ => (Int)) limit_Check.l0_k.body p
noncomputable def limit_Check.l0 (a_0 : List T_limit_Row) (a_8 : List T_limit_Row) (x_9 : Int) (x_10 : Int) : Option (Int) := limit_Check.l0_k.go (.l0 a_0 a_8 x_9 x_10)
noncomputable def limit_Check.j0 (a_0 : List T_limit_Row) (x_3 : Int) (y_4 : T_limit_Row) (a_8 : List T_limit_Row) (x_9 : Int) (x_10 : Int) (b_15 : Bool) : Option (Int) := limit_Check.l0_k.go (.j0 a_0 x_3 y_4 a_8 x_9 x_10 b_15)
theorem limit_Check.l0_eq (a_0 : List T_limit_Row) (a_8 : List T_limit_Row) (x_9 : Int) (x_10 : Int) : limit_Check.l0 a_0 a_8 x_9 x_10 = if x_10 < x_9 then (Option.bind (gi a_8 x_10) fun y1 => if (if y1.MaxCells < (if y1.MaxLetters < (if y1.Cells < y1.Letters then y1.Cells else y1.Letters) then y1.MaxLetters else (if y1.Cells < y1.Letters then y1.Cells else y1.Letters)) then y1.MaxCells else (if y1.MaxLetters < (if y1.Cells < y1.Letters then y1.Cells else y1.Letters) then y1.MaxLetters else (if y1.Cells < y1.Letters then y1.Cells else y1.Letters))) < (0 : Int) then ((limit_Check.j0 a_0 x_10 y1 a_8 x_9 x_10 true)) else (if (if y1.MaxCells > y1.MaxLetters then y1.MaxCells else y1.MaxLetters) > (1073741824 : Int) then ((limit_Check.j0 a_0 x_10 y1 a_8 x_9 x_10 true)) else (if y1.Letters > y1.MaxLetters then ((limit_Check.j0 a_0 x_10 y1 a_8 x_9 x_10 true)) else ((limit_Check.j0 a_0 x_10 y1 a_8 x_9 x_10 (decide (y1.Cells > y1.MaxCells))))))) else (some ((0 : Int))) := fixF_eq limit_Check.l0_k.mono _
theorem limit_Check.j0_eq (a_0 : List T_limit_Row) (x_3 : Int) (y_4 : T_limit_Row) (a_8 : List T_limit_Row) (x_9 : Int) (x_10 : Int) (b_15 : Bool) : limit_Check.j0 a_0 x_3 y_4 a_8 x_9 x_10 b_15 = if b_15 = true then (some ((1 : Int))) else (if x_3 > (0 : Int) then (Option.bind (gi a_0 (IntKind.wrap .i64 (x_3 - (1 : Int)))) fun y1 => if y1.Ref ≥ y_4.Ref then (some ((21 : Int))) else ((limit_Check.l0 a_0 a_8 x_9 (IntKind.wrap .i64 (x_10 + (1 : Int)))))) else ((limit_Check.l0 a_0 a_8 x_9 (IntKind.wrap .i64 (x_10 + (1 : Int)))))) := fixF_eq limit_Check.l0_k.mono _
def limit_Check.l0_k.I : (p : limit_Check.l0_k.Pt) → (Int) → Prop
  | .l0 a_0 a_8 x_9 x_10, r => ∀ (W : Nat → Prop) (h0 m0 h m : Heap) (A_0 : Option Addr) (n_0 c_0 : Nat) (A_8 : Option Addr) (n_8 c_8 : Nat) (O : Hold W h0 m0 h m []) (ne_0 : n_0 = List.length a_0) (k_0 : List.length a_0 ≤ c_0) (r_0 : Rd 5 T_limit_Row.E m A_0 a_0) (ne_8 : n_8 = List.length a_8) (k_8 : List.length a_8 ≤ c_8) (r_8 : Rd 5 T_limit_Row.E m A_8 a_8), f61.l0 (limit_Check.post W h0 m0 r) A_0 n_0 c_0 A_8 n_8 c_8 x_9 x_10 h
  | .j0 a_0 x_3 y_4 a_8 x_9 x_10 b_15, r => ∀ (W : Nat → Prop) (h0 m0 h m : Heap) (A_0 : Option Addr) (n_0 c_0 : Nat) (bk_4 : Nat) (cs_4 : List Value) (A_8 : Option Addr) (n_8 c_8 : Nat) (O : Hold W h0 m0 h m [rV bk_4 138 cs_4]) (ne_0 : n_0 = List.length a_0) (k_0 : List.length a_0 ≤ c_0) (r_0 : Rd 5 T_limit_Row.E m A_0 a_0) (e_4 : T_limit_Row.E m y_4 cs_4) (ne_8 : n_8 = List.length a_8) (k_8 : List.length a_8 ≤ c_8) (r_8 : Rd 5 T_limit_Row.E m A_8 a_8), f61.j0 (limit_Check.post W h0 m0 r) A_0 n_0 c_0 x_3 (⟨bk_4, 0, none⟩ : Addr) A_8 n_8 c_8 x_9 x_10 b_15 h
set_option maxRecDepth 100000 in
theorem limit_Check.l0_k.step_l0 (go : (p : limit_Check.l0_k.Pt) → Option (Int)) (ih : ∀ p r, go p = some r → limit_Check.l0_k.I p r) (a_0 : List T_limit_Row) (a_8 : List T_limit_Row) (x_9 : Int) (x_10 : Int) (r : Int) (e : limit_Check.l0_k.body go (.l0 a_0 a_8 x_9 x_10) = some r) : limit_Check.l0_k.I (.l0 a_0 a_8 x_9 x_10) r := by
  unfold limit_Check.l0_k.body at e
  intro W h0 m0 h m A_0 n_0 c_0 A_8 n_8 c_8 O ne_0 k_0 r_0 ne_8 k_8 r_8
  subst ne_0
  subst ne_8
  refine f61.l0_in ?_
  unfold f61.l0T
  refine split_dec_e e (fun c21 e => ?_) (fun c21 e => ?_)
  · obtain ⟨y1, g2, e⟩ := bind_e e
    refine r_8.addr rfl g2 fun a3 cs4 ha5 hc6 he7 => ?_
    refine ⟨_, ldAn O.s hc6 rfl, ?_⟩
    refine O.new fun h8 x9 O10 => ?_
    refine ⟨_, rfl, (T_limit_Row.T.len _ _ _ he7), ?_⟩
    refine O10.stA 0 rfl (T_limit_Row.T.len _ _ _ he7) (T_limit_Row.T.flat _ _ _ he7) fun h12 O13 => ?_
    refine ⟨_, ldk (k := 1) (Sub.refl _) (O13.all 0 rfl) (T_limit_Row.g1 he7), _, rfl, ?_⟩
    refine ⟨_, ldk (k := 2) (Sub.refl _) (O13.all 0 rfl) (T_limit_Row.g2 he7), _, rfl, ?_⟩
    refine ⟨_, ldk (k := 3) (Sub.refl _) (O13.all 0 rfl) (T_limit_Row.g3 he7), _, rfl, ?_⟩
    refine ⟨_, ldk (k := 4) (Sub.refl _) (O13.all 0 rfl) (T_limit_Row.g4 he7), _, rfl, ?_⟩
    refine split_dec_e e (fun c20 e => ?_) (fun c20 e => ?_)
    · have O14 := O13.nm
      exact (ih _ _ e) _ _ _ _ _ _ _ _ _ _ _ _ _ (O14.pick [0]).nm rfl k_0 r_0 he7 rfl k_8 r_8
    · refine ⟨_, ldk (k := 3) (Sub.refl _) (O13.all 0 rfl) (T_limit_Row.g3 he7), _, rfl, ?_⟩
      refine ⟨_, ldk (k := 4) (Sub.refl _) (O13.all 0 rfl) (T_limit_Row.g4 he7), _, rfl, ?_⟩
      refine split_dec_e e (fun c19 e => ?_) (fun c19 e => ?_)
      · have O15 := O13.nm
        exact (ih _ _ e) _ _ _ _ _ _ _ _ _ _ _ _ _ (O15.pick [0]).nm rfl k_0 r_0 he7 rfl k_8 r_8
      · refine ⟨_, ldk (k := 1) (Sub.refl _) (O13.all 0 rfl) (T_limit_Row.g1 he7), _, rfl, ?_⟩
        refine ⟨_, ldk (k := 3) (Sub.refl _) (O13.all 0 rfl) (T_limit_Row.g3 he7), _, rfl, ?_⟩
        refine split_dec_e e (fun c18 e => ?_) (fun c18 e => ?_)
        · have O16 := O13.nm
          exact (ih _ _ e) _ _ _ _ _ _ _ _ _ _ _ _ _ (O16.pick [0]).nm rfl k_0 r_0 he7 rfl k_8 r_8
        · refine ⟨_, ldk (k := 2) (Sub.refl _) (O13.all 0 rfl) (T_limit_Row.g2 he7), _, rfl, ?_⟩
          refine ⟨_, ldk (k := 4) (Sub.refl _) (O13.all 0 rfl) (T_limit_Row.g4 he7), _, rfl, ?_⟩
          have O17 := O13.nm
          exact (ih _ _ e) _ _ _ _ _ _ _ _ _ _ _ _ _ (O17.pick [0]).nm rfl k_0 r_0 he7 rfl k_8 r_8
  · cases e
    exact ⟨_, O.pick [], rfl⟩
set_option maxRecDepth 100000 in
theorem limit_Check.l0_k.step_j0 (go : (p : limit_Check.l0_k.Pt) → Option (Int)) (ih : ∀ p r, go p = some r → limit_Check.l0_k.I p r) (a_0 : List T_limit_Row) (x_3 : Int) (y_4 : T_limit_Row) (a_8 : List T_limit_Row) (x_9 : Int) (x_10 : Int) (b_15 : Bool) (r : Int) (e : limit_Check.l0_k.body go (.j0 a_0 x_3 y_4 a_8 x_9 x_10 b_15) = some r) : limit_Check.l0_k.I (.j0 a_0 x_3 y_4 a_8 x_9 x_10 b_15) r := by
  unfold limit_Check.l0_k.body at e
  intro W h0 m0 h m A_0 n_0 c_0 bk_4 cs_4 A_8 n_8 c_8 O ne_0 k_0 r_0 e_4 ne_8 k_8 r_8
  subst ne_0
  subst ne_8
  refine f61.j0_in ?_
  unfold f61.j0T
  refine split_any_e e (fun c10 e => ?_) (fun c10 e => ?_)
  · cases e
    exact ⟨_, O.pick [], rfl⟩
  · refine split_dec_e e (fun c9 e => ?_) (fun c9 e => ?_)
    · obtain ⟨y1, g2, e⟩ := bind_e e
      refine r_0.addr rfl g2 fun a3 cs4 ha5 hc6 he7 => ?_
      refine ⟨_, ld0 O.s hc6 (T_limit_Row.g0 he7), _, rfl, ?_⟩
      refine ⟨_, ld0 (Sub.refl _) (O.all 0 rfl) (T_limit_Row.g0 e_4), _, rfl, ?_⟩
      refine split_dec_e e (fun c8 e => ?_) (fun c8 e => ?_)
      · cases e
        exact ⟨_, O.pick [], rfl⟩
      · exact (ih _ _ e) _ _ _ _ _ _ _ _ _ _ _ (O.pick []).nm rfl k_0 r_0 rfl k_8 r_8
    · exact (ih _ _ e) _ _ _ _ _ _ _ _ _ _ _ (O.pick []).nm rfl k_0 r_0 rfl k_8 r_8
theorem limit_Check.l0_k.all {p : limit_Check.l0_k.Pt} {r : (Int)} (e : limit_Check.l0_k.go p = some r) : limit_Check.l0_k.I p r := fixF_ind (β := fun _ => (Int)) limit_Check.l0_k.mono (I := limit_Check.l0_k.I) (fun go ih p r e => match p with
  | .l0 a_0 a_8 x_9 x_10 => limit_Check.l0_k.step_l0 go ih a_0 a_8 x_9 x_10 r e
  | .j0 a_0 x_3 y_4 a_8 x_9 x_10 b_15 => limit_Check.l0_k.step_j0 go ih a_0 x_3 y_4 a_8 x_9 x_10 b_15 r e
  ) e
theorem limit_Check.l0.walk {W : Nat → Prop} {h0 m0 h m : Heap} {A_0 : Option Addr} {n_0 c_0 : Nat} {A_8 : Option Addr} {n_8 c_8 : Nat} {a_0 : List T_limit_Row} {a_8 : List T_limit_Row} {x_9 : Int} {x_10 : Int} (O : Hold W h0 m0 h m []) (ne_0 : n_0 = List.length a_0) (k_0 : List.length a_0 ≤ c_0) (r_0 : Rd 5 T_limit_Row.E m A_0 a_0) (ne_8 : n_8 = List.length a_8) (k_8 : List.length a_8 ≤ c_8) (r_8 : Rd 5 T_limit_Row.E m A_8 a_8) {r : Int} (e : limit_Check.l0 a_0 a_8 x_9 x_10 = some r) : f61.l0 (limit_Check.post W h0 m0 r) A_0 n_0 c_0 A_8 n_8 c_8 x_9 x_10 h := limit_Check.l0_k.all (p := .l0 a_0 a_8 x_9 x_10) e W h0 m0 h m A_0 n_0 c_0 A_8 n_8 c_8 O ne_0 k_0 r_0 ne_8 k_8 r_8
theorem limit_Check.j0.walk {W : Nat → Prop} {h0 m0 h m : Heap} {A_0 : Option Addr} {n_0 c_0 : Nat} {bk_4 : Nat} {cs_4 : List Value} {A_8 : Option Addr} {n_8 c_8 : Nat} {a_0 : List T_limit_Row} {x_3 : Int} {y_4 : T_limit_Row} {a_8 : List T_limit_Row} {x_9 : Int} {x_10 : Int} {b_15 : Bool} (O : Hold W h0 m0 h m [rV bk_4 138 cs_4]) (ne_0 : n_0 = List.length a_0) (k_0 : List.length a_0 ≤ c_0) (r_0 : Rd 5 T_limit_Row.E m A_0 a_0) (e_4 : T_limit_Row.E m y_4 cs_4) (ne_8 : n_8 = List.length a_8) (k_8 : List.length a_8 ≤ c_8) (r_8 : Rd 5 T_limit_Row.E m A_8 a_8) {r : Int} (e : limit_Check.j0 a_0 x_3 y_4 a_8 x_9 x_10 b_15 = some r) : f61.j0 (limit_Check.post W h0 m0 r) A_0 n_0 c_0 x_3 (⟨bk_4, 0, none⟩ : Addr) A_8 n_8 c_8 x_9 x_10 b_15 h := limit_Check.l0_k.all (p := .j0 a_0 x_3 y_4 a_8 x_9 x_10 b_15) e W h0 m0 h m A_0 n_0 c_0 bk_4 cs_4 A_8 n_8 c_8 O ne_0 k_0 r_0 e_4 ne_8 k_8 r_8

noncomputable def limit_Check (a_0 : List T_limit_Row) : Option (Int) :=
  if (((List.length a_0) : Nat) : Int) > (100 : Int) then (some ((2 : Int))) else ((limit_Check.l0 a_0 a_0 (((List.length a_0) : Nat) : Int) (0 : Int)))
set_option maxRecDepth 100000 in
theorem limit_Check.walk {W : Nat → Prop} {h m : Heap} {A_0 : Option Addr} {n_0 c_0 : Nat} {a_0 : List T_limit_Row} (O : Hold W h m h m []) (ne_0 : n_0 = List.length a_0) (k_0 : List.length a_0 ≤ c_0) (r_0 : Rd 5 T_limit_Row.E m A_0 a_0) {r : Int} (e : limit_Check a_0 = some r) : Run Try.prog 61 #[Value.slice A_0 n_0 c_0] h (limit_Check.post W h m r) := by
  unfold limit_Check at e
  subst ne_0
  refine f61.run ?_
  unfold f61.runT
  refine split_dec_e e (fun c1 e => ?_) (fun c1 e => ?_)
  · cases e
    exact ⟨_, O.pick [], rfl⟩
  · exact limit_Check.l0.walk (O.pick []).nm rfl k_0 r_0 rfl k_0 r_0 e

/-! ### 144 slices.BinarySearchFunc[[]roadstead/limit.Row,roadstead/limit.Row,int] -/
def slices_BinarySearchFunc_144.post (W : Nat → Prop) (h0 m0 : Heap) (r : Int × Bool) (v : Value) (h : Heap) : Prop := ∃ m , Hold W h0 m0 h m [] ∧ v = .tuple #[.int .i64 r.1, .bool r.2]
inductive slices_BinarySearchFunc_144.l0_k.Pt where
  | l0 (a_0 : List T_limit_Row) (x_1 : Int) (p_2 : T_limit_Row → Int → Option Int) (x_8 : Int) (x_9 : Int) (x_10 : Int)
noncomputable def slices_BinarySearchFunc_144.l0_k.body (go : (p : slices_BinarySearchFunc_144.l0_k.Pt) → Option (Int × Bool)) : (p : slices_BinarySearchFunc_144.l0_k.Pt) → Option (Int × Bool)
  | .l0 a_0 x_1 p_2 x_8 x_9 x_10 => if x_9 < x_10 then (Option.bind (gi a_0 (IntKind.wrap .i64 (shrI .u64 (IntKind.wrap .u64 (IntKind.wrap .i64 (x_9 + x_10))) (1 : Int)))) fun y1 => Option.bind (p_2 y1 x_1) fun y8 => if y8 < (0 : Int) then ((go (.l0 a_0 x_1 p_2 x_8 (IntKind.wrap .i64 ((IntKind.wrap .i64 (shrI .u64 (IntKind.wrap .u64 (IntKind.wrap .i64 (x_9 + x_10))) (1 : Int))) + (1 : Int))) x_10))) else ((go (.l0 a_0 x_1 p_2 x_8 x_9 (IntKind.wrap .i64 (shrI .u64 (IntKind.wrap .u64 (IntKind.wrap .i64 (x_9 + x_10))) (1 : Int))))))) else (if x_9 < x_8 then (Option.bind (gi a_0 x_9) fun y14 => Option.bind (p_2 y14 x_1) fun y21 => some (x_9, (y21 == (0 : Int)))) else (some (x_9, false)))
theorem slices_BinarySearchFunc_144.l0_k.mono : MonoF (β := fun _ => (Int × Bool)) slices_BinarySearchFunc_144.l0_k.body := fun f g hfg p => match p with
  | .l0 a_0 x_1 p_2 x_8 x_9 x_10 => LeO.ite (LeO.bind (LeO.refl _) fun y1 => LeO.bind (LeO.refl _) fun y8 => LeO.ite ((hfg _)) ((hfg _))) (LeO.ite (LeO.bind (LeO.refl _) fun y14 => LeO.bind (LeO.refl _) fun y21 => LeO.refl _) (LeO.refl _))
noncomputable def slices_BinarySearchFunc_144.l0_k.go (p : slices_BinarySearchFunc_144.l0_k.Pt) : Option (Int × Bool) := fixF (β := fun _ => (Int × Bool)) slices_BinarySearchFunc_144.l0_k.body p
noncomputable def slices_BinarySearchFunc_144.l0 (a_0 : List T_limit_Row) (x_1 : Int) (p_2 : T_limit_Row → Int → Option Int) (x_8 : Int) (x_9 : Int) (x_10 : Int) : Option (Int × Bool) := slices_BinarySearchFunc_144.l0_k.go (.l0 a_0 x_1 p_2 x_8 x_9 x_10)
theorem slices_BinarySearchFunc_144.l0_eq (a_0 : List T_limit_Row) (x_1 : Int) (p_2 : T_limit_Row → Int → Option Int) (x_8 : Int) (x_9 : Int) (x_10 : Int) : slices_BinarySearchFunc_144.l0 a_0 x_1 p_2 x_8 x_9 x_10 = if x_9 < x_10 then (Option.bind (gi a_0 (IntKind.wrap .i64 (shrI .u64 (IntKind.wrap .u64 (IntKind.wrap .i64 (x_9 + x_10))) (1 : Int)))) fun y1 => Option.bind (p_2 y1 x_1) fun y8 => if y8 < (0 : Int) then ((slices_BinarySearchFunc_144.l0 a_0 x_1 p_2 x_8 (IntKind.wrap .i64 ((IntKind.wrap .i64 (shrI .u64 (IntKind.wrap .u64 (IntKind.wrap .i64 (x_9 + x_10))) (1 : Int))) + (1 : Int))) x_10)) else ((slices_BinarySearchFunc_144.l0 a_0 x_1 p_2 x_8 x_9 (IntKind.wrap .i64 (shrI .u64 (IntKind.wrap .u64 (IntKind.wrap .i64 (x_9 + x_10))) (1 : Int)))))) else (if x_9 < x_8 then (Option.bind (gi a_0 x_9) fun y14 => Option.bind (p_2 y14 x_1) fun y21 => some (x_9, (y21 == (0 : Int)))) else (some (x_9, false))) := fixF_eq slices_BinarySearchFunc_144.l0_k.mono _
def slices_BinarySearchFunc_144.l0_k.I : (p : slices_BinarySearchFunc_144.l0_k.Pt) → (Int × Bool) → Prop
  | .l0 a_0 x_1 p_2 x_8 x_9 x_10, r => ∀ (W : Nat → Prop) (h0 m0 h m : Heap) (A_0 : Option Addr) (n_0 c_0 : Nat) (fv_2 : Value) (O : Hold W h0 m0 h m []) (ne_0 : n_0 = List.length a_0) (k_0 : List.length a_0 ≤ c_0) (r_0 : Rd 5 T_limit_Row.E m A_0 a_0) (f_2 : ∀ h' m', Sub m0 m' → Sub m' h' → ∀ (y0 : T_limit_Row) (cs0 : List Value) (_ : T_limit_Row.E m' y0 cs0) (x1 : Int) (r : Int), p_2 y0 x1 = some r → CallF Try.prog fv_2 [.agg cs0.toArray, .int .i64 x1] h' (fun v h'' => v = .int .i64 r ∧ Ext h' h'')), f144.l0 (slices_BinarySearchFunc_144.post W h0 m0 r) A_0 n_0 c_0 x_1 fv_2 x_8 x_9 x_10 h
set_option maxRecDepth 100000 in
theorem slices_BinarySearchFunc_144.l0_k.step_l0 (go : (p : slices_BinarySearchFunc_144.l0_k.Pt) → Option (Int × Bool)) (ih : ∀ p r, go p = some r → slices_BinarySearchFunc_144.l0_k.I p r) (a_0 : List T_limit_Row) (x_1 : Int) (p_2 : T_limit_Row → Int → Option Int) (x_8 : Int) (x_9 : Int) (x_10 : Int) (r : Int × Bool) (e : slices_BinarySearchFunc_144.l0_k.body go (.l0 a_0 x_1 p_2 x_8 x_9 x_10) = some r) : slices_BinarySearchFunc_144.l0_k.I (.l0 a_0 x_1 p_2 x_8 x_9 x_10) r := by
  unfold slices_BinarySearchFunc_144.l0_k.body at e
  intro W h0 m0 h m A_0 n_0 c_0 fv_2 O ne_0 k_0 r_0 f_2
  subst ne_0
  refine f144.l0_in ?_
  unfold f144.l0T
  refine split_dec_e e (fun c27 e => ?_) (fun c27 e => ?_)
  · refine ⟨by decide, ?_⟩
    obtain ⟨y1, g2, e⟩ := bind_e e
    refine r_0.addr rfl g2 fun a3 cs4 ha5 hc6 he7 => ?_
    refine ⟨_, ldAn O.s hc6 rfl, ?_⟩
    obtain ⟨y8, g9, e⟩ := bind_e e
    refine CallF.mono (f_2 _ _ O.up O.s _ _ he7 _ _ g9) ?_
    rintro _ h10 ⟨rfl, x11⟩
    have O12 := O.ext x11
    refine ⟨_, rfl, ?_⟩
    refine split_dec_e e (fun c13 e => ?_) (fun c13 e => ?_)
    · exact (ih _ _ e) _ _ _ _ _ _ _ _ _ (O12.pick []).nm rfl k_0 r_0 f_2
    · exact (ih _ _ e) _ _ _ _ _ _ _ _ _ (O12.pick []).nm rfl k_0 r_0 f_2
  · refine split_dec_e e (fun c26 e => ?_) (fun c26 e => ?_)
    · obtain ⟨y14, g15, e⟩ := bind_e e
      refine r_0.addr rfl g15 fun a16 cs17 ha18 hc19 he20 => ?_
      refine ⟨_, ldAn O.s hc19 rfl, ?_⟩
      obtain ⟨y21, g22, e⟩ := bind_e e
      refine CallF.mono (f_2 _ _ O.up O.s _ _ he20 _ _ g22) ?_
      rintro _ h23 ⟨rfl, x24⟩
      have O25 := O.ext x24
      refine ⟨_, rfl, ?_⟩
      cases e
      exact ⟨_, O25.pick [], rfl⟩
    · cases e
      exact ⟨_, O.pick [], rfl⟩
theorem slices_BinarySearchFunc_144.l0_k.all {p : slices_BinarySearchFunc_144.l0_k.Pt} {r : (Int × Bool)} (e : slices_BinarySearchFunc_144.l0_k.go p = some r) : slices_BinarySearchFunc_144.l0_k.I p r := fixF_ind (β := fun _ => (Int × Bool)) slices_BinarySearchFunc_144.l0_k.mono (I := slices_BinarySearchFunc_144.l0_k.I) (fun go ih p r e => match p with
  | .l0 a_0 x_1 p_2 x_8 x_9 x_10 => slices_BinarySearchFunc_144.l0_k.step_l0 go ih a_0 x_1 p_2 x_8 x_9 x_10 r e
  ) e
theorem slices_BinarySearchFunc_144.l0.walk {W : Nat → Prop} {h0 m0 h m : Heap} {A_0 : Option Addr} {n_0 c_0 : Nat} {fv_2 : Value} {a_0 : List T_limit_Row} {x_1 : Int} {p_2 : T_limit_Row → Int → Option Int} {x_8 : Int} {x_9 : Int} {x_10 : Int} (O : Hold W h0 m0 h m []) (ne_0 : n_0 = List.length a_0) (k_0 : List.length a_0 ≤ c_0) (r_0 : Rd 5 T_limit_Row.E m A_0 a_0) (f_2 : ∀ h' m', Sub m0 m' → Sub m' h' → ∀ (y0 : T_limit_Row) (cs0 : List Value) (_ : T_limit_Row.E m' y0 cs0) (x1 : Int) (r : Int), p_2 y0 x1 = some r → CallF Try.prog fv_2 [.agg cs0.toArray, .int .i64 x1] h' (fun v h'' => v = .int .i64 r ∧ Ext h' h'')) {r : Int × Bool} (e : slices_BinarySearchFunc_144.l0 a_0 x_1 p_2 x_8 x_9 x_10 = some r) : f144.l0 (slices_BinarySearchFunc_144.post W h0 m0 r) A_0 n_0 c_0 x_1 fv_2 x_8 x_9 x_10 h := slices_BinarySearchFunc_144.l0_k.all (p := .l0 a_0 x_1 p_2 x_8 x_9 x_10) e W h0 m0 h m A_0 n_0 c_0 fv_2 O ne_0 k_0 r_0 f_2

noncomputable def slices_BinarySearchFunc_144 (a_0 : List T_limit_Row) (x_1 : Int) (p_2 : T_limit_Row → Int → Option Int) : Option (Int × Bool) :=
  (slices_BinarySearchFunc_144.l0 a_0 x_1 p_2 (((List.length a_0) : Nat) : Int) (0 : Int) (((List.length a_0) : Nat) : Int))
set_option maxRecDepth 100000 in
theorem slices_BinarySearchFunc_144.walk {W : Nat → Prop} {h m : Heap} {A_0 : Option Addr} {n_0 c_0 : Nat} {fv_2 : Value} {a_0 : List T_limit_Row} {x_1 : Int} {p_2 : T_limit_Row → Int → Option Int} (O : Hold W h m h m []) (ne_0 : n_0 = List.length a_0) (k_0 : List.length a_0 ≤ c_0) (r_0 : Rd 5 T_limit_Row.E m A_0 a_0) (f_2 : ∀ h' m', Sub m m' → Sub m' h' → ∀ (y0 : T_limit_Row) (cs0 : List Value) (_ : T_limit_Row.E m' y0 cs0) (x1 : Int) (r : Int), p_2 y0 x1 = some r → CallF Try.prog fv_2 [.agg cs0.toArray, .int .i64 x1] h' (fun v h'' => v = .int .i64 r ∧ Ext h' h'')) {r : Int × Bool} (e : slices_BinarySearchFunc_144 a_0 x_1 p_2 = some r) : Run Try.prog 144 #[Value.slice A_0 n_0 c_0, Value.int .i64 x_1, fv_2] h (slices_BinarySearchFunc_144.post W h m r) := by
  unfold slices_BinarySearchFunc_144 at e
  subst ne_0
  refine f144.run ?_
  unfold f144.runT
  exact slices_BinarySearchFunc_144.l0.walk (O.pick []).nm rfl k_0 r_0 f_2 e

/-! ### 162 cmp.isNaN[int] -/
def cmp_isNaN_162.post (W : Nat → Prop) (h0 m0 : Heap) (r : Bool) (v : Value) (h : Heap) : Prop := ∃ m , Hold W h0 m0 h m [] ∧ v = .bool r
noncomputable def cmp_isNaN_162 (x_0 : Int) : Option (Bool) :=
  some ((x_0 != x_0))
set_option maxRecDepth 100000 in
theorem cmp_isNaN_162.walk {W : Nat → Prop} {h m : Heap} {x_0 : Int} (O : Hold W h m h m []) {r : Bool} (e : cmp_isNaN_162 x_0 = some r) : Run Try.prog 162 #[Value.int .i64 x_0] h (cmp_isNaN_162.post W h m r) := by
  unfold cmp_isNaN_162 at e
  refine f162.run ?_
  unfold f162.runT
  cases e
  exact ⟨_, O.pick [], rfl⟩

/-! ### 139 cmp.Compare[int] -/
def cmp_Compare_139.post (W : Nat → Prop) (h0 m0 : Heap) (r : Int) (v : Value) (h : Heap) : Prop := ∃ m , Hold W h0 m0 h m [] ∧ v = .int .i64 r
noncomputable def cmp_Compare_139 (x_0 : Int) (x_1 : Int) : Option (Int) :=
  Option.bind (cmp_isNaN_162 x_0) fun y1 => Option.bind (cmp_isNaN_162 x_1) fun y8 => if y1 = true then (if y8 = true then (some ((0 : Int))) else (some ((-1 : Int)))) else (if y8 = true then (some ((1 : Int))) else (if x_0 < x_1 then (some ((-1 : Int))) else (if x_0 > x_1 then (some ((1 : Int))) else (some ((0 : Int))))))
set_option maxRecDepth 100000 in
theorem cmp_Compare_139.walk {W : Nat → Prop} {h m : Heap} {x_0 : Int} {x_1 : Int} (O : Hold W h m h m []) {r : Int} (e : cmp_Compare_139 x_0 x_1 = some r) : Run Try.prog 139 #[Value.int .i64 x_0, Value.int .i64 x_1] h (cmp_Compare_139.post W h m r) := by
  unfold cmp_Compare_139 at e
  refine f139.run ?_
  unfold f139.runT
  obtain ⟨y1, g2, e⟩ := bind_e e
  refine (cmp_isNaN_162.walk (Hold.start (W := No) O.s)  g2).mono ?_
  rintro _ h3 ⟨m4, Q5, rfl⟩
  have O7 := Hold.nm (O.retC Q5 vfs_nil)
  refine ⟨_, rfl, ?_⟩
  obtain ⟨y8, g9, e⟩ := bind_e e
  refine (cmp_isNaN_162.walk (Hold.start (W := No) O7.s)  g9).mono ?_
  rintro _ h10 ⟨m11, Q12, rfl⟩
  have O14 := Hold.nm (O7.retC Q12 vfs_nil)
  refine ⟨_, rfl, ?_⟩
  refine split_any_e e (fun c19 e => ?_) (fun c19 e => ?_)
  · refine split_any_e e (fun c15 e => ?_) (fun c15 e => ?_)
    · cases e
      exact ⟨_, O14.pick [], rfl⟩
    · cases e
      exact ⟨_, O14.pick [], rfl⟩
  · refine split_any_e e (fun c18 e => ?_) (fun c18 e => ?_)
    · cases e
      exact ⟨_, O14.pick [], rfl⟩
    · refine split_dec_e e (fun c17 e => ?_) (fun c17 e => ?_)
      · cases e
        exact ⟨_, O14.pick [], rfl⟩
      · refine split_dec_e e (fun c16 e => ?_) (fun c16 e => ?_)
        · cases e
          exact ⟨_, O14.pick [], rfl⟩
        · cases e
          exact ⟨_, O14.pick [], rfl⟩

/-! ### 145 roadstead/limit.at$1 -/
def limit_at_1.post (W : Nat → Prop) (h0 m0 : Heap) (r : Int) (v : Value) (h : Heap) : Prop := ∃ m , Hold W h0 m0 h m [] ∧ v = .int .i64 r
noncomputable def limit_at_1 (y_0 : T_limit_Row) (x_1 : Int) : Option (Int) :=
  Option.bind (cmp_Compare_139 y_0.Ref x_1) fun y5 => some (y5)
set_option maxRecDepth 100000 in
theorem limit_at_1.walk {W : Nat → Prop} {h m : Heap} {cs_0 : List Value} {y_0 : T_limit_Row} {x_1 : Int} (O : Hold W h m h m []) (e_0 : T_limit_Row.E m y_0 cs_0) {r : Int} (e : limit_at_1 y_0 x_1 = some r) : Run Try.prog 145 #[Value.agg cs_0.toArray, Value.int .i64 x_1] h (limit_at_1.post W h m r) := by
  unfold limit_at_1 at e
  refine f145.run ?_
  unfold f145.runT
  refine O.new fun h1 x2 O3 => ?_
  refine ⟨_, ld0 (Sub.refl _) (O3.all 0 rfl) (T_limit_Row.g0 e_0), _, rfl, ?_⟩
  obtain ⟨y5, g6, e⟩ := bind_e e
  refine (cmp_Compare_139.walk (Hold.start (W := No) O3.s)  g6).mono ?_
  rintro _ h7 ⟨m8, Q9, rfl⟩
  have O11 := Hold.nm (O3.retC Q9 vfs_nil)
  refine ⟨_, rfl, ?_⟩
  cases e
  exact ⟨_, O11.pick [], rfl⟩

/-! ### 112 roadstead/limit.at -/
def limit_at.post (W : Nat → Prop) (h0 m0 : Heap) (r : Int × Int) (v : Value) (h : Heap) : Prop := ∃ m , Hold W h0 m0 h m [] ∧ v = .tuple #[.int .i64 r.1, .int .i64 r.2]
noncomputable def limit_at (a_0 : List T_limit_Row) (x_1 : Int) : Option (Int × Int) :=
  Option.bind (limit_Check a_0) fun y1 => if y1 = (0 : Int) then (Option.bind (slices_BinarySearchFunc_144 a_0 x_1 (fun z14 z15 => limit_at_1 z14 z15)) fun y8 => if y8.2 = true then (some (y8.1, (0 : Int))) else (some ((0 : Int), (4 : Int)))) else (some ((0 : Int), y1))
set_option maxRecDepth 100000 in
theorem limit_at.walk {W : Nat → Prop} {h m : Heap} {A_0 : Option Addr} {n_0 c_0 : Nat} {a_0 : List T_limit_Row} {x_1 : Int} (O : Hold W h m h m []) (ne_0 : n_0 = List.length a_0) (k_0 : List.length a_0 ≤ c_0) (r_0 : Rd 5 T_limit_Row.E m A_0 a_0) {r : Int × Int} (e : limit_at a_0 x_1 = some r) : Run Try.prog 112 #[Value.slice A_0 n_0 c_0, Value.int .i64 x_1] h (limit_at.post W h m r) := by
  unfold limit_at at e
  subst ne_0
  refine f112.run ?_
  unfold f112.runT
  obtain ⟨y1, g2, e⟩ := bind_e e
  refine (limit_Check.walk (Hold.start (W := No) O.s) rfl k_0 r_0 g2).mono ?_
  rintro _ h3 ⟨m4, Q5, rfl⟩
  have O7 := Hold.nm (O.retC Q5 vfs_nil)
  refine ⟨_, rfl, ?_⟩
  refine split_ne_e e (fun c26 e => ?_) (fun c26 e => ?_)
  · cases e
    exact ⟨_, O7.pick [], rfl⟩
  · obtain ⟨y8, g9, e⟩ := bind_e e
    refine (slices_BinarySearchFunc_144.walk (Hold.start (W := No) O7.s) rfl k_0 r_0 (fun h16 m17 u18 s19 y22 cs22 he22 x23 r20 e21 => CallF.of [Value.agg cs22.toArray, Value.int .i64 x23] f145.ok rfl ((limit_at_1.walk (Hold.start (W := No) s19) he22 e21).mono (fun _ _ h => let ⟨_, t, e⟩ := h; ⟨e, t.S.ext⟩))) g9).mono ?_
    rintro _ h10 ⟨m11, Q12, rfl⟩
    have O24 := Hold.nm (O7.retC Q12 vfs_nil)
    refine ⟨_, _, rfl, ?_⟩
    refine split_not ?_
    refine split_any_e e (fun c25 e => ?_) (fun c25 e => ?_)
    · cases e
      exact ⟨_, O24.pick [], rfl⟩
    · cases e
      exact ⟨_, O24.pick [], rfl⟩

/-! ### 113 roadstead/limit.amount -/
def limit_amount.post (W : Nat → Prop) (h0 m0 : Heap) (r : Bool) (v : Value) (h : Heap) : Prop := ∃ m , Hold W h0 m0 h m [] ∧ v = .bool r
noncomputable def limit_amount (x_0 : Int) : Option (Bool) :=
  if x_0 ≥ (0 : Int) then (some ((decide (x_0 ≤ (1073741824 : Int))))) else (some (false))
set_option maxRecDepth 100000 in
theorem limit_amount.walk {W : Nat → Prop} {h m : Heap} {x_0 : Int} (O : Hold W h m h m []) {r : Bool} (e : limit_amount x_0 = some r) : Run Try.prog 113 #[Value.int .i64 x_0] h (limit_amount.post W h m r) := by
  unfold limit_amount at e
  refine f113.run ?_
  unfold f113.runT
  refine split_dec_e e (fun c1 e => ?_) (fun c1 e => ?_)
  · cases e
    exact ⟨_, O.pick [], rfl⟩
  · cases e
    exact ⟨_, O.pick [], rfl⟩

/-! ### 114 slices.Clone[[]roadstead/limit.Row,roadstead/limit.Row] -/
def slices_Clone_114.post (W : Nat → Prop) (h0 m0 : Heap) (r : (List T_limit_Row)) (v : Value) (h : Heap) : Prop := ∃ m A0 n0 c0, Hold W h0 m0 h m [rR (aE T_limit_Row.T) A0 c0 r] ∧ v = .slice A0 n0 c0 ∧ n0 = List.length r
noncomputable def slices_Clone_114 (a0 : List T_limit_Row) : Option (List T_limit_Row) := ap 40 ([] : List T_limit_Row) a0
set_option maxRecDepth 100000 in
theorem slices_Clone_114.walk {W : Nat → Prop} {h m : Heap} {A0 : Option Addr} {n0 c0 : Nat} {a0 : List T_limit_Row} (O : Hold W h m h m []) (ne0 : n0 = List.length a0) (k0 : List.length a0 ≤ c0) (r0 : Rd 5 T_limit_Row.E m A0 a0) {r : List T_limit_Row} (e : slices_Clone_114 a0 = some r) : Run Try.prog 114 #[Value.slice A0 n0 c0] h (slices_Clone_114.post W h m r) := by
  unfold slices_Clone_114 at e
  subst ne0
  refine f114.run ?_
  unfold f114.runT
  cases A0 with
  | none =>
    refine split_t ?_
    obtain rfl := Rd.void r0
    obtain rfl : [] = r := by have := (ap_e e).2; simpa using this
    exact ⟨m, none, 0, 0, O.nil (aE T_limit_Row.T) none, rfl, rfl⟩
  | some a =>
    refine split_f ?_
    refine O.new fun h1 x1 O1 => ?_
    refine O1.appE0 T_limit_Row.T rfl rfl (r0.srcE T_limit_Row.T O1.s rfl) (by decide) e fun A4 c4 h4 x4 O4 => ?_
    refine ⟨_, _, _, rfl, ?_⟩
    exact ⟨m, _, _, _, O4.pick [1], rfl, rfl⟩
theorem slices_Clone_114.val (l : List T_limit_Row) (h : l.length * 40 ≤ 140737488355328) : slices_Clone_114 l = some l := ap_nil h

/-! ### 56 roadstead/limit.Take -/
def limit_Take.post (W : Nat → Prop) (h0 m0 : Heap) (r : (List T_limit_Row) × Int) (v : Value) (h : Heap) : Prop := ∃ m A0 n0 c0, Hold W h0 m0 h m [rR (aE T_limit_Row.T) A0 c0 r.1] ∧ v = .tuple #[.slice A0 n0 c0, .int .i64 r.2] ∧ n0 = List.length r.1
noncomputable def limit_Take.j0 (a_0 : List T_limit_Row) (x_2 : Int) (x_3 : Int) (x_10 : Int) : Option ((List T_limit_Row) × Int) :=
  Option.bind (slices_Clone_114 a_0) fun y1 => Option.bind (gi y1 x_10) fun y13 => Option.bind (gi y1 x_10) fun y20 => Option.bind (some (List.set y1 (Int.toNat x_10) ({ y20 with Letters := (IntKind.wrap .i64 (y13.Letters + x_2)) }))) fun l29 => Option.bind (gi l29 x_10) fun y31 => Option.bind (gi l29 x_10) fun y38 => Option.bind (some (List.set l29 (Int.toNat x_10) ({ y38 with Cells := (IntKind.wrap .i64 (y31.Cells + x_3)) }))) fun l47 => some (l47, (0 : Int))
set_option maxRecDepth 100000 in
theorem limit_Take.j0.walk {W : Nat → Prop} {h0 m0 h m : Heap} {A_0 : Option Addr} {n_0 c_0 : Nat} {a_0 : List T_limit_Row} {x_2 : Int} {x_3 : Int} {x_10 : Int} (O : Hold W h0 m0 h m []) (ne_0 : n_0 = List.length a_0) (k_0 : List.length a_0 ≤ c_0) (r_0 : Rd 5 T_limit_Row.E m A_0 a_0) {r : (List T_limit_Row) × Int} (e : limit_Take.j0 a_0 x_2 x_3 x_10 = some r) : f56.j0 (limit_Take.post W h0 m0 r) A_0 n_0 c_0 x_2 x_3 x_10 h := by
  unfold limit_Take.j0 at e
  subst ne_0
  refine f56.j0_in ?_
  unfold f56.j0T
  obtain ⟨y1, g2, e⟩ := bind_e e
  refine (slices_Clone_114.walk (Hold.start (W := No) O.s) rfl k_0 r_0 g2).mono ?_
  rintro _ h3 ⟨m4, A7, n8, c9, Q5, rfl, ne10⟩
  have O12 := Hold.nm (O.retC Q5 (vfs_cons (rR_vf (aE_vf (fun _ _ _ _ h => T_limit_Row.keep h))) vfs_nil))
  subst ne10
  refine ⟨_, _, _, rfl, ?_⟩
  obtain ⟨y13, g14, e⟩ := bind_e e
  refine (O12.os 0 rfl).addr rfl g14 fun a15 cs16 ha17 hc18 he19 => ?_
  refine ⟨_, ldk (k := 1) (Sub.refl _) hc18 (T_limit_Row.g1 he19), _, rfl, ?_⟩
  obtain ⟨y20, g21, e⟩ := bind_e e
  refine (O12.os 0 rfl).addr rfl g21 fun a22 cs23 ha24 hc25 he26 => ?_
  obtain ⟨l29, g30, e⟩ := bind_e e
  replace g30 := Option.some.inj g30
  refine O12.elst 0 rfl g21 ha24 hc25 1 (by decide) (y' := ({ y20 with Letters := (IntKind.wrap .i64 (y13.Letters + x_2)) })) (T_limit_Row.s1 he26 (IntKind.wrap .i64 (y13.Letters + x_2))) trivial g30 fun h27 O28 => ?_
  obtain ⟨y31, g32, e⟩ := bind_e e
  refine (O28.os 0 rfl).addr (lset' g30) g32 fun a33 cs34 ha35 hc36 he37 => ?_
  refine ⟨_, ldk (k := 2) (Sub.refl _) hc36 (T_limit_Row.g2 he37), _, rfl, ?_⟩
  obtain ⟨y38, g39, e⟩ := bind_e e
  refine (O28.os 0 rfl).addr (lset' g30) g39 fun a40 cs41 ha42 hc43 he44 => ?_
  obtain ⟨l47, g48, e⟩ := bind_e e
  replace g48 := Option.some.inj g48
  refine O28.elst 0 rfl g39 ha42 hc43 2 (by decide) (y' := ({ y38 with Cells := (IntKind.wrap .i64 (y31.Cells + x_3)) })) (T_limit_Row.s2 he44 (IntKind.wrap .i64 (y31.Cells + x_3))) trivial g48 fun h45 O46 => ?_
  have O49 := O46.nm
  cases e
  exact ⟨_, _, _, _, O49.pick [0], rfl, ((lset' g30).trans (lset' g48))⟩

noncomputable def limit_Take.j1 (a_0 : List T_limit_Row) (x_2 : Int) (x_3 : Int) (x_10 : Int) (b_23 : Bool) : Option ((List T_limit_Row) × Int) :=
  if b_23 = true then (some (([] : List T_limit_Row), (1 : Int))) else (Option.bind (gi a_0 x_10) fun y4 => Option.bind (gi a_0 x_10) fun y11 => if x_2 > (IntKind.wrap .i64 (y4.MaxLetters - y11.Letters)) then (some (([] : List T_limit_Row), (6 : Int))) else (Option.bind (gi a_0 x_10) fun y21 => Option.bind (gi a_0 x_10) fun y28 => if x_3 > (IntKind.wrap .i64 (y21.MaxCells - y28.Cells)) then (some (([] : List T_limit_Row), (2 : Int))) else ((limit_Take.j0 a_0 x_2 x_3 x_10))))
set_option maxRecDepth 100000 in
theorem limit_Take.j1.walk {W : Nat → Prop} {h0 m0 h m : Heap} {A_0 : Option Addr} {n_0 c_0 : Nat} {a_0 : List T_limit_Row} {x_2 : Int} {x_3 : Int} {x_10 : Int} {b_23 : Bool} (O : Hold W h0 m0 h m []) (ne_0 : n_0 = List.length a_0) (k_0 : List.length a_0 ≤ c_0) (r_0 : Rd 5 T_limit_Row.E m A_0 a_0) {r : (List T_limit_Row) × Int} (e : limit_Take.j1 a_0 x_2 x_3 x_10 b_23 = some r) : f56.j1 (limit_Take.post W h0 m0 r) A_0 n_0 c_0 x_2 x_3 x_10 b_23 h := by
  unfold limit_Take.j1 at e
  subst ne_0
  refine f56.j1_in ?_
  unfold f56.j1T
  refine split_any_e e (fun c40 e => ?_) (fun c40 e => ?_)
  · have O1 := O.nil (aE T_limit_Row.T) none
    have O3 := O1.nm
    cases e
    exact ⟨_, _, _, _, O3.pick [0], rfl, rfl⟩
  · obtain ⟨y4, g5, e⟩ := bind_e e
    refine r_0.addr rfl g5 fun a6 cs7 ha8 hc9 he10 => ?_
    obtain ⟨y11, g12, e⟩ := bind_e e
    refine r_0.addr rfl g12 fun a13 cs14 ha15 hc16 he17 => ?_
    refine ⟨_, ldk (k := 3) O.s hc9 (T_limit_Row.g3 he10), _, rfl, ?_⟩
    refine ⟨_, ldk (k := 1) O.s hc16 (T_limit_Row.g1 he17), _, rfl, ?_⟩
    refine split_dec_e e (fun c39 e => ?_) (fun c39 e => ?_)
    · have O18 := O.nil (aE T_limit_Row.T) none
      have O20 := O18.nm
      cases e
      exact ⟨_, _, _, _, O20.pick [0], rfl, rfl⟩
    · obtain ⟨y21, g22, e⟩ := bind_e e
      refine r_0.addr rfl g22 fun a23 cs24 ha25 hc26 he27 => ?_
      obtain ⟨y28, g29, e⟩ := bind_e e
      refine r_0.addr rfl g29 fun a30 cs31 ha32 hc33 he34 => ?_
      refine ⟨_, ldk (k := 4) O.s hc26 (T_limit_Row.g4 he27), _, rfl, ?_⟩
      refine ⟨_, ldk (k := 2) O.s hc33 (T_limit_Row.g2 he34), _, rfl, ?_⟩
      refine split_dec_e e (fun c38 e => ?_) (fun c38 e => ?_)
      · have O35 := O.nil (aE T_limit_Row.T) none
        have O37 := O35.nm
        cases e
        exact ⟨_, _, _, _, O37.pick [0], rfl, rfl⟩
      · exact limit_Take.j0.walk (O.pick []).nm rfl k_0 r_0 e

noncomputable def limit_Take (a_0 : List T_limit_Row) (x_1 : Int) (x_2 : Int) (x_3 : Int) : Option ((List T_limit_Row) × Int) :=
  Option.bind (limit_at a_0 x_1) fun y1 => if y1.2 = (0 : Int) then (Option.bind (limit_amount x_2) fun y11 => if y11 = true then (Option.bind (limit_amount x_3) fun y18 => (limit_Take.j1 a_0 x_2 x_3 y1.1 (!y18))) else ((limit_Take.j1 a_0 x_2 x_3 y1.1 true))) else (some (([] : List T_limit_Row), y1.2))
set_option maxRecDepth 100000 in
theorem limit_Take.walk {W : Nat → Prop} {h m : Heap} {A_0 : Option Addr} {n_0 c_0 : Nat} {a_0 : List T_limit_Row} {x_1 : Int} {x_2 : Int} {x_3 : Int} (O : Hold W h m h m []) (ne_0 : n_0 = List.length a_0) (k_0 : List.length a_0 ≤ c_0) (r_0 : Rd 5 T_limit_Row.E m A_0 a_0) {r : (List T_limit_Row) × Int} (e : limit_Take a_0 x_1 x_2 x_3 = some r) : Run Try.prog 56 #[Value.slice A_0 n_0 c_0, Value.int .i64 x_1, Value.int .i64 x_2, Value.int .i64 x_3] h (limit_Take.post W h m r) := by
  unfold limit_Take at e
  subst ne_0
  refine f56.run ?_
  unfold f56.runT
  obtain ⟨y1, g2, e⟩ := bind_e e
  refine (limit_at.walk (Hold.start (W := No) O.s) rfl k_0 r_0 g2).mono ?_
  rintro _ h3 ⟨m4, Q5, rfl⟩
  have O7 := Hold.nm (O.retC Q5 vfs_nil)
  refine ⟨_, _, rfl, ?_⟩
  refine split_ne_e e (fun c26 e => ?_) (fun c26 e => ?_)
  · have O8 := O7.nil (aE T_limit_Row.T) none
    have O10 := O8.nm
    cases e
    exact ⟨_, _, _, _, O10.pick [0], rfl, rfl⟩
  · obtain ⟨y11, g12, e⟩ := bind_e e
    refine (limit_amount.walk (Hold.start (W := No) O7.s)  g12).mono ?_
    rintro _ h13 ⟨m14, Q15, rfl⟩
    have O17 := Hold.nm (O7.retC Q15 vfs_nil)
    refine ⟨_, rfl, ?_⟩
    refine split_not ?_
    refine split_any_e e (fun c25 e => ?_) (fun c25 e => ?_)
    · obtain ⟨y18, g19, e⟩ := bind_e e
      refine (limit_amount.walk (Hold.start (W := No) O17.s)  g19).mono ?_
      rintro _ h20 ⟨m21, Q22, rfl⟩
      have O24 := Hold.nm (O17.retC Q22 vfs_nil)
      refine ⟨_, rfl, ?_⟩
      exact limit_Take.j1.walk (O24.pick []).nm rfl k_0 r_0 e
    · exact limit_Take.j1.walk (O17.pick []).nm rfl k_0 r_0 e

/-! ### 57 roadstead/limit.Give -/
def limit_Give.post (W : Nat → Prop) (h0 m0 : Heap) (r : (List T_limit_Row) × Int) (v : Value) (h : Heap) : Prop := ∃ m A0 n0 c0, Hold W h0 m0 h m [rR (aE T_limit_Row.T) A0 c0 r.1] ∧ v = .tuple #[.slice A0 n0 c0, .int .i64 r.2] ∧ n0 = List.length r.1
noncomputable def limit_Give.j0 (a_0 : List T_limit_Row) (x_2 : Int) (x_3 : Int) (x_10 : Int) : Option ((List T_limit_Row) × Int) :=
  Option.bind (slices_Clone_114 a_0) fun y1 => Option.bind (gi y1 x_10) fun y13 => Option.bind (gi y1 x_10) fun y20 => Option.bind (some (List.set y1 (Int.toNat x_10) ({ y20 with Letters := (IntKind.wrap .i64 (y13.Letters - x_2)) }))) fun l29 => Option.bind (gi l29 x_10) fun y31 => Option.bind (gi l29 x_10) fun y38 => Option.bind (some (List.set l29 (Int.toNat x_10) ({ y38 with Cells := (IntKind.wrap .i64 (y31.Cells - x_3)) }))) fun l47 => some (l47, (0 : Int))
set_option maxRecDepth 100000 in
theorem limit_Give.j0.walk {W : Nat → Prop} {h0 m0 h m : Heap} {A_0 : Option Addr} {n_0 c_0 : Nat} {a_0 : List T_limit_Row} {x_2 : Int} {x_3 : Int} {x_10 : Int} (O : Hold W h0 m0 h m []) (ne_0 : n_0 = List.length a_0) (k_0 : List.length a_0 ≤ c_0) (r_0 : Rd 5 T_limit_Row.E m A_0 a_0) {r : (List T_limit_Row) × Int} (e : limit_Give.j0 a_0 x_2 x_3 x_10 = some r) : f57.j0 (limit_Give.post W h0 m0 r) A_0 n_0 c_0 x_2 x_3 x_10 h := by
  unfold limit_Give.j0 at e
  subst ne_0
  refine f57.j0_in ?_
  unfold f57.j0T
  obtain ⟨y1, g2, e⟩ := bind_e e
  refine (slices_Clone_114.walk (Hold.start (W := No) O.s) rfl k_0 r_0 g2).mono ?_
  rintro _ h3 ⟨m4, A7, n8, c9, Q5, rfl, ne10⟩
  have O12 := Hold.nm (O.retC Q5 (vfs_cons (rR_vf (aE_vf (fun _ _ _ _ h => T_limit_Row.keep h))) vfs_nil))
  subst ne10
  refine ⟨_, _, _, rfl, ?_⟩
  obtain ⟨y13, g14, e⟩ := bind_e e
  refine (O12.os 0 rfl).addr rfl g14 fun a15 cs16 ha17 hc18 he19 => ?_
  refine ⟨_, ldk (k := 1) (Sub.refl _) hc18 (T_limit_Row.g1 he19), _, rfl, ?_⟩
  obtain ⟨y20, g21, e⟩ := bind_e e
  refine (O12.os 0 rfl).addr rfl g21 fun a22 cs23 ha24 hc25 he26 => ?_
  obtain ⟨l29, g30, e⟩ := bind_e e
  replace g30 := Option.some.inj g30
  refine O12.elst 0 rfl g21 ha24 hc25 1 (by decide) (y' := ({ y20 with Letters := (IntKind.wrap .i64 (y13.Letters - x_2)) })) (T_limit_Row.s1 he26 (IntKind.wrap .i64 (y13.Letters - x_2))) trivial g30 fun h27 O28 => ?_
  obtain ⟨y31, g32, e⟩ := bind_e e
  refine (O28.os 0 rfl).addr (lset' g30) g32 fun a33 cs34 ha35 hc36 he37 => ?_
  refine ⟨_, ldk (k := 2) (Sub.refl _) hc36 (T_limit_Row.g2 he37), _, rfl, ?_⟩
  obtain ⟨y38, g39, e⟩ := bind_e e
  refine (O28.os 0 rfl).addr (lset' g30) g39 fun a40 cs41 ha42 hc43 he44 => ?_
  obtain ⟨l47, g48, e⟩ := bind_e e
  replace g48 := Option.some.inj g48
  refine O28.elst 0 rfl g39 ha42 hc43 2 (by decide) (y' := ({ y38 with Cells := (IntKind.wrap .i64 (y31.Cells - x_3)) })) (T_limit_Row.s2 he44 (IntKind.wrap .i64 (y31.Cells - x_3))) trivial g48 fun h45 O46 => ?_
  have O49 := O46.nm
  cases e
  exact ⟨_, _, _, _, O49.pick [0], rfl, ((lset' g30).trans (lset' g48))⟩

noncomputable def limit_Give.j1 (a_0 : List T_limit_Row) (x_2 : Int) (x_3 : Int) (x_10 : Int) (b_23 : Bool) : Option ((List T_limit_Row) × Int) :=
  if b_23 = true then (some (([] : List T_limit_Row), (1 : Int))) else ((limit_Give.j0 a_0 x_2 x_3 x_10))
set_option maxRecDepth 100000 in
theorem limit_Give.j1.walk {W : Nat → Prop} {h0 m0 h m : Heap} {A_0 : Option Addr} {n_0 c_0 : Nat} {a_0 : List T_limit_Row} {x_2 : Int} {x_3 : Int} {x_10 : Int} {b_23 : Bool} (O : Hold W h0 m0 h m []) (ne_0 : n_0 = List.length a_0) (k_0 : List.length a_0 ≤ c_0) (r_0 : Rd 5 T_limit_Row.E m A_0 a_0) {r : (List T_limit_Row) × Int} (e : limit_Give.j1 a_0 x_2 x_3 x_10 b_23 = some r) : f57.j1 (limit_Give.post W h0 m0 r) A_0 n_0 c_0 x_2 x_3 x_10 b_23 h := by
  unfold limit_Give.j1 at e
  subst ne_0
  refine f57.j1_in ?_
  unfold f57.j1T
  refine split_any_e e (fun c4 e => ?_) (fun c4 e => ?_)
  · have O1 := O.nil (aE T_limit_Row.T) none
    have O3 := O1.nm
    cases e
    exact ⟨_, _, _, _, O3.pick [0], rfl, rfl⟩
  · exact limit_Give.j0.walk (O.pick []).nm rfl k_0 r_0 e

noncomputable def limit_Give (a_0 : List T_limit_Row) (x_1 : Int) (x_2 : Int) (x_3 : Int) : Option ((List T_limit_Row) × Int) :=
  Option.bind (limit_at a_0 x_1) fun y1 => if y1.2 = (0 : Int) then (Option.bind (limit_amount x_2) fun y11 => if y11 = true then (Option.bind (limit_amount x_3) fun y18 => if y18 = true then (Option.bind (gi a_0 y1.1) fun y25 => if x_2 > y25.Letters then ((limit_Give.j1 a_0 x_2 x_3 y1.1 true)) else (Option.bind (gi a_0 y1.1) fun y32 => (limit_Give.j1 a_0 x_2 x_3 y1.1 (decide (x_3 > y32.Cells))))) else ((limit_Give.j1 a_0 x_2 x_3 y1.1 true))) else ((limit_Give.j1 a_0 x_2 x_3 y1.1 true))) else (some (([] : List T_limit_Row), y1.2))
set_option maxHeartbeats 4000000 in
set_option maxRecDepth 100000 in
theorem limit_Give.walk {W : Nat → Prop} {h m : Heap} {A_0 : Option Addr} {n_0 c_0 : Nat} {a_0 : List T_limit_Row} {x_1 : Int} {x_2 : Int} {x_3 : Int} (O : Hold W h m h m []) (ne_0 : n_0 = List.length a_0) (k_0 : List.length a_0 ≤ c_0) (r_0 : Rd 5 T_limit_Row.E m A_0 a_0) {r : (List T_limit_Row) × Int} (e : limit_Give a_0 x_1 x_2 x_3 = some r) : Run Try.prog 57 #[Value.slice A_0 n_0 c_0, Value.int .i64 x_1, Value.int .i64 x_2, Value.int .i64 x_3] h (limit_Give.post W h m r) := by
  unfold limit_Give at e
  subst ne_0
  refine f57.run ?_
  unfold f57.runT
  obtain ⟨y1, g2, e⟩ := bind_e e
  refine (limit_at.walk (Hold.start (W := No) O.s) rfl k_0 r_0 g2).mono ?_
  rintro _ h3 ⟨m4, Q5, rfl⟩
  have O7 := Hold.nm (O.retC Q5 vfs_nil)
  refine ⟨_, _, rfl, ?_⟩
  refine split_ne_e e (fun c42 e => ?_) (fun c42 e => ?_)
  · have O8 := O7.nil (aE T_limit_Row.T) none
    have O10 := O8.nm
    cases e
    exact ⟨_, _, _, _, O10.pick [0], rfl, rfl⟩
  · obtain ⟨y11, g12, e⟩ := bind_e e
    refine (limit_amount.walk (Hold.start (W := No) O7.s)  g12).mono ?_
    rintro _ h13 ⟨m14, Q15, rfl⟩
    have O17 := Hold.nm (O7.retC Q15 vfs_nil)
    refine ⟨_, rfl, ?_⟩
    refine split_not ?_
    refine split_any_e e (fun c41 e => ?_) (fun c41 e => ?_)
    · obtain ⟨y18, g19, e⟩ := bind_e e
      refine (limit_amount.walk (Hold.start (W := No) O17.s)  g19).mono ?_
      rintro _ h20 ⟨m21, Q22, rfl⟩
      have O24 := Hold.nm (O17.retC Q22 vfs_nil)
      refine ⟨_, rfl, ?_⟩
      refine split_not ?_
      refine split_any_e e (fun c40 e => ?_) (fun c40 e => ?_)
      · obtain ⟨y25, g26, e⟩ := bind_e e
        refine r_0.addr rfl g26 fun a27 cs28 ha29 hc30 he31 => ?_
        refine ⟨_, ldk (k := 1) O24.s hc30 (T_limit_Row.g1 he31), _, rfl, ?_⟩
        refine split_dec_e e (fun c39 e => ?_) (fun c39 e => ?_)
        · exact limit_Give.j1.walk (O24.pick []).nm rfl k_0 r_0 e
        · obtain ⟨y32, g33, e⟩ := bind_e e
          refine r_0.addr rfl g33 fun a34 cs35 ha36 hc37 he38 => ?_
          refine ⟨_, ldk (k := 2) O24.s hc37 (T_limit_Row.g2 he38), _, rfl, ?_⟩
          exact limit_Give.j1.walk (O24.pick []).nm rfl k_0 r_0 e
      · exact limit_Give.j1.walk (O24.pick []).nm rfl k_0 r_0 e
    · exact limit_Give.j1.walk (O17.pick []).nm rfl k_0 r_0 e

/-! ### 115 slices.Insert[[]roadstead/limit.Row,roadstead/limit.Row] -/
def slices_Insert_115.post (W : Nat → Prop) (h0 m0 : Heap) (r : (List T_limit_Row)) (v : Value) (h : Heap) : Prop := ∃ m A0 n0 c0, Hold W h0 m0 h m [rR (aE T_limit_Row.T) A0 c0 r] ∧ v = .slice A0 n0 c0 ∧ n0 = List.length r
noncomputable def slices_Insert_115 (a0 : List T_limit_Row) (x1 : Int) (a2 : List T_limit_Row) : Option (List T_limit_Row) := if (0 ≤ x1 ∧ x1 ≤ ((List.length a0 : Nat) : Int)) ∧ (List.length a0 + List.length a2) * 40 ≤ 140737488355328 then some (List.take (Int.toNat x1) a0 ++ a2 ++ List.drop (Int.toNat x1) a0) else none
set_option maxRecDepth 100000 in
theorem slices_Insert_115.walk {W : Nat → Prop} {h m : Heap} {A0 : Option Addr} {n0 c0 : Nat} {a0 : List T_limit_Row} {x1 : Int} {A2 : Option Addr} {n2 c2 : Nat} {a2 : List T_limit_Row} (O : Hold W h m h m [rR (aE T_limit_Row.T) A0 c0 a0]) (ne0 : n0 = List.length a0) (ne2 : n2 = List.length a2) (k2 : List.length a2 ≤ c2) (r2 : Rd 5 T_limit_Row.E m A2 a2) {r : List T_limit_Row} (e : slices_Insert_115 a0 x1 a2 = some r) : Run Try.prog 115 #[Value.slice A0 n0 c0, Value.int .i64 x1, Value.slice A2 n2 c2] h (slices_Insert_115.post W h m r) := by
  unfold slices_Insert_115 at e
  subst ne0
  subst ne2
  obtain ⟨⟨g, gb⟩, e⟩ := guard_e e
  cases e
  refine f115.run ?_
  unfold f115.runT
  exact insert_ok (e := 138) (rs := _) O r2 (by decide) (by kernel_rfl) (by kernel_rfl) rfl (by decide) Try.func146 (by kernel_rfl) (by kernel_rfl) (by kernel_rfl) (show Extern.find Try.f146 = some (Extern.SlicesOverlaps.overlaps #[123, 123] #[]) by kernel_rfl) g gb (by omega) fun A' c' h' O' => ⟨m, _, _, _, O', rfl, by rw [List.length_append, List.length_append, List.length_take, List.length_drop]; omega⟩

/-! ### 58 roadstead/limit.Fork -/
def limit_Fork.post (W : Nat → Prop) (h0 m0 : Heap) (r : (List T_limit_Row) × Int) (v : Value) (h : Heap) : Prop := ∃ m A0 n0 c0, Hold W h0 m0 h m [rR (aE T_limit_Row.T) A0 c0 r.1] ∧ v = .tuple #[.slice A0 n0 c0, .int .i64 r.2] ∧ n0 = List.length r.1
noncomputable def limit_Fork.j2 (x_2 : Int) (x_3 : Int) (x_4 : Int) (a_17 : List T_limit_Row) (x_18 : Int) : Option ((List T_limit_Row) × Int) :=
  Option.bind (slices_Insert_115 a_17 x_18 ([(T_limit_Row.mk x_2 (0 : Int) (0 : Int) x_3 x_4)] : List T_limit_Row)) fun y6 => some (y6, (0 : Int))
set_option maxRecDepth 100000 in
theorem limit_Fork.j2.walk {W : Nat → Prop} {h0 m0 h m : Heap} {A_17 : Option Addr} {n_17 c_17 : Nat} {x_2 : Int} {x_3 : Int} {x_4 : Int} {a_17 : List T_limit_Row} {x_18 : Int} (O : Hold W h0 m0 h m [rR (aE T_limit_Row.T) A_17 c_17 a_17]) (ne_17 : n_17 = List.length a_17) {r : (List T_limit_Row) × Int} (e : limit_Fork.j2 x_2 x_3 x_4 a_17 x_18 = some r) : f58.j2 (limit_Fork.post W h0 m0 r) x_2 x_3 x_4 A_17 n_17 c_17 x_18 h := by
  unfold limit_Fork.j2 at e
  subst ne_17
  refine f58.j2_in ?_
  unfold f58.j2T
  refine ⟨[(Value.int .i64 x_2), (Value.int .i64 (0 : Int)), (Value.int .i64 (0 : Int)), (Value.int .i64 x_3), (Value.int .i64 x_4)], rfl, rfl, ?_⟩
  refine O.new fun h1 x2 O3 => ?_
  obtain ⟨y6, g7, e⟩ := bind_e e
  have O5 := O3.rowE (l := ([(T_limit_Row.mk x_2 (0 : Int) (0 : Int) x_3 x_4)] : List T_limit_Row)) 1 rfl T_limit_Row.T (show CsE _ _ _ _ _ from (CsE.cons (c1 := [(Value.int .i64 x_2), (Value.int .i64 (0 : Int)), (Value.int .i64 (0 : Int)), (Value.int .i64 x_3), (Value.int .i64 x_4)]) (show T_limit_Row.E _ (T_limit_Row.mk x_2 (0 : Int) (0 : Int) x_3 x_4) [(Value.int .i64 x_2), (Value.int .i64 (0 : Int)), (Value.int .i64 (0 : Int)), (Value.int .i64 x_3), (Value.int .i64 x_4)] from rfl) rfl CsE.nil)) rfl
  have O12 := O5.nm
  obtain ⟨m13, W19, u14, P20, ⟨⟨r17, k18⟩, _⟩, B15, C16⟩ := O12.lend [0] [1]
  replace r17 : Rd 5 T_limit_Row.E m13 (some ⟨(Array.size h), 0, none⟩) ([(T_limit_Row.mk x_2 (0 : Int) (0 : Int) x_3 x_4)] : List T_limit_Row) := r17
  replace k18 : List.length ([(T_limit_Row.mk x_2 (0 : Int) (0 : Int) x_3 x_4)] : List T_limit_Row) ≤ 1 := k18
  refine (slices_Insert_115.walk P20 rfl rfl k18 r17 g7).mono ?_
  rintro _ h8 ⟨m9, A21, n22, c23, Q10, rfl, ne24⟩
  have O26 := Hold.nm (C16 Q10 (vfs_cons (rR_vf (aE_vf (fun _ _ _ _ h => T_limit_Row.keep h))) vfs_nil))
  subst ne24
  refine ⟨_, _, _, rfl, ?_⟩
  cases e
  exact ⟨_, _, _, _, O26.pick [2], rfl, rfl⟩

inductive limit_Fork.l0_k.Pt where
  | l0 (x_2 : Int) (x_3 : Int) (x_4 : Int) (a_17 : List T_limit_Row) (x_18 : Int)
  | j3 (x_2 : Int) (x_3 : Int) (x_4 : Int) (a_17 : List T_limit_Row) (x_18 : Int)
noncomputable def limit_Fork.l0_k.body (go : (p : limit_Fork.l0_k.Pt) → Option ((List T_limit_Row) × Int)) : (p : limit_Fork.l0_k.Pt) → Option ((List T_limit_Row) × Int)
  | .l0 x_2 x_3 x_4 a_17 x_18 => if x_18 < (((List.length a_17) : Nat) : Int) then (Option.bind (gi a_17 x_18) fun y1 => if y1.Ref < x_2 then ((go (.j3 x_2 x_3 x_4 a_17 x_18))) else ((limit_Fork.j2 x_2 x_3 x_4 a_17 x_18))) else ((limit_Fork.j2 x_2 x_3 x_4 a_17 x_18))
  | .j3 x_2 x_3 x_4 a_17 x_18 => (go (.l0 x_2 x_3 x_4 a_17 (IntKind.wrap .i64 (x_18 + (1 : Int)))))
theorem limit_Fork.l0_k.mono : MonoF (β := fun _ => ((List T_limit_Row) × Int)) limit_Fork.l0_k.body := fun f g hfg p => match p with
  | .l0 x_2 x_3 x_4 a_17 x_18 => LeO.ite (LeO.bind (LeO.refl _) fun y1 => LeO.ite ((hfg _)) ((LeO.refl _))) ((LeO.refl _))
  | .j3 x_2 x_3 x_4 a_17 x_18 => (hfg _)
noncomputable def limit_Fork.l0_k.go (p : limit_Fork.l0_k.Pt) : Option ((List T_limit_Row) × Int) := fixF (β := fun _ => ((List T_limit_Row) × Int)) limit_Fork.l0_k.body p
noncomputable def limit_Fork.l0 (x_2 : Int) (x_3 : Int) (x_4 : Int) (a_17 : List T_limit_Row) (x_18 : Int) : Option ((List T_limit_Row) × Int) := limit_Fork.l0_k.go (.l0 x_2 x_3 x_4 a_17 x_18)
noncomputable def limit_Fork.j3 (x_2 : Int) (x_3 : Int) (x_4 : Int) (a_17 : List T_limit_Row) (x_18 : Int) : Option ((List T_limit_Row) × Int) := limit_Fork.l0_k.go (.j3 x_2 x_3 x_4 a_17 x_18)
theorem limit_Fork.l0_eq (x_2 : Int) (x_3 : Int) (x_4 : Int) (a_17 : List T_limit_Row) (x_18 : Int) : limit_Fork.l0 x_2 x_3 x_4 a_17 x_18 = if x_18 < (((List.length a_17) : Nat) : Int) then (Option.bind (gi a_17 x_18) fun y1 => if y1.Ref < x_2 then ((limit_Fork.j3 x_2 x_3 x_4 a_17 x_18)) else ((limit_Fork.j2 x_2 x_3 x_4 a_17 x_18))) else ((limit_Fork.j2 x_2 x_3 x_4 a_17 x_18)) := fixF_eq limit_Fork.l0_k.mono _
theorem limit_Fork.j3_eq (x_2 : Int) (x_3 : Int) (x_4 : Int) (a_17 : List T_limit_Row) (x_18 : Int) : limit_Fork.j3 x_2 x_3 x_4 a_17 x_18 = (limit_Fork.l0 x_2 x_3 x_4 a_17 (IntKind.wrap .i64 (x_18 + (1 : Int)))) := fixF_eq limit_Fork.l0_k.mono _
def limit_Fork.l0_k.I : (p : limit_Fork.l0_k.Pt) → ((List T_limit_Row) × Int) → Prop
  | .l0 x_2 x_3 x_4 a_17 x_18, r => ∀ (W : Nat → Prop) (h0 m0 h m : Heap) (A_17 : Option Addr) (n_17 c_17 : Nat) (O : Hold W h0 m0 h m [rR (aE T_limit_Row.T) A_17 c_17 a_17]) (ne_17 : n_17 = List.length a_17), f58.l0 (limit_Fork.post W h0 m0 r) x_2 x_3 x_4 A_17 n_17 c_17 x_18 h
  | .j3 x_2 x_3 x_4 a_17 x_18, r => ∀ (W : Nat → Prop) (h0 m0 h m : Heap) (A_17 : Option Addr) (n_17 c_17 : Nat) (O : Hold W h0 m0 h m [rR (aE T_limit_Row.T) A_17 c_17 a_17]) (ne_17 : n_17 = List.length a_17), f58.j3 (limit_Fork.post W h0 m0 r) x_2 x_3 x_4 A_17 n_17 c_17 x_18 h
set_option maxRecDepth 100000 in
theorem limit_Fork.l0_k.step_l0 (go : (p : limit_Fork.l0_k.Pt) → Option ((List T_limit_Row) × Int)) (ih : ∀ p r, go p = some r → limit_Fork.l0_k.I p r) (x_2 : Int) (x_3 : Int) (x_4 : Int) (a_17 : List T_limit_Row) (x_18 : Int) (r : (List T_limit_Row) × Int) (e : limit_Fork.l0_k.body go (.l0 x_2 x_3 x_4 a_17 x_18) = some r) : limit_Fork.l0_k.I (.l0 x_2 x_3 x_4 a_17 x_18) r := by
  unfold limit_Fork.l0_k.body at e
  intro W h0 m0 h m A_17 n_17 c_17 O ne_17
  subst ne_17
  refine f58.l0_in ?_
  unfold f58.l0T
  refine split_dec_e e (fun c9 e => ?_) (fun c9 e => ?_)
  · obtain ⟨y1, g2, e⟩ := bind_e e
    refine (O.os 0 rfl).addr rfl g2 fun a3 cs4 ha5 hc6 he7 => ?_
    refine ⟨_, ld0 (Sub.refl _) hc6 (T_limit_Row.g0 he7), _, rfl, ?_⟩
    refine split_dec_e e (fun c8 e => ?_) (fun c8 e => ?_)
    · exact (ih _ _ e) _ _ _ _ _ _ _ _ (O.pick [0]).nm rfl
    · exact limit_Fork.j2.walk (O.pick [0]).nm rfl e
  · exact limit_Fork.j2.walk (O.pick [0]).nm rfl e
set_option maxRecDepth 100000 in
theorem limit_Fork.l0_k.step_j3 (go : (p : limit_Fork.l0_k.Pt) → Option ((List T_limit_Row) × Int)) (ih : ∀ p r, go p = some r → limit_Fork.l0_k.I p r) (x_2 : Int) (x_3 : Int) (x_4 : Int) (a_17 : List T_limit_Row) (x_18 : Int) (r : (List T_limit_Row) × Int) (e : limit_Fork.l0_k.body go (.j3 x_2 x_3 x_4 a_17 x_18) = some r) : limit_Fork.l0_k.I (.j3 x_2 x_3 x_4 a_17 x_18) r := by
  unfold limit_Fork.l0_k.body at e
  intro W h0 m0 h m A_17 n_17 c_17 O ne_17
  subst ne_17
  refine f58.j3_in ?_
  unfold f58.j3T
  exact (ih _ _ e) _ _ _ _ _ _ _ _ (O.pick [0]).nm rfl
theorem limit_Fork.l0_k.all {p : limit_Fork.l0_k.Pt} {r : ((List T_limit_Row) × Int)} (e : limit_Fork.l0_k.go p = some r) : limit_Fork.l0_k.I p r := fixF_ind (β := fun _ => ((List T_limit_Row) × Int)) limit_Fork.l0_k.mono (I := limit_Fork.l0_k.I) (fun go ih p r e => match p with
  | .l0 x_2 x_3 x_4 a_17 x_18 => limit_Fork.l0_k.step_l0 go ih x_2 x_3 x_4 a_17 x_18 r e
  | .j3 x_2 x_3 x_4 a_17 x_18 => limit_Fork.l0_k.step_j3 go ih x_2 x_3 x_4 a_17 x_18 r e
  ) e
theorem limit_Fork.l0.walk {W : Nat → Prop} {h0 m0 h m : Heap} {A_17 : Option Addr} {n_17 c_17 : Nat} {x_2 : Int} {x_3 : Int} {x_4 : Int} {a_17 : List T_limit_Row} {x_18 : Int} (O : Hold W h0 m0 h m [rR (aE T_limit_Row.T) A_17 c_17 a_17]) (ne_17 : n_17 = List.length a_17) {r : (List T_limit_Row) × Int} (e : limit_Fork.l0 x_2 x_3 x_4 a_17 x_18 = some r) : f58.l0 (limit_Fork.post W h0 m0 r) x_2 x_3 x_4 A_17 n_17 c_17 x_18 h := limit_Fork.l0_k.all (p := .l0 x_2 x_3 x_4 a_17 x_18) e W h0 m0 h m A_17 n_17 c_17 O ne_17
theorem limit_Fork.j3.walk {W : Nat → Prop} {h0 m0 h m : Heap} {A_17 : Option Addr} {n_17 c_17 : Nat} {x_2 : Int} {x_3 : Int} {x_4 : Int} {a_17 : List T_limit_Row} {x_18 : Int} (O : Hold W h0 m0 h m [rR (aE T_limit_Row.T) A_17 c_17 a_17]) (ne_17 : n_17 = List.length a_17) {r : (List T_limit_Row) × Int} (e : limit_Fork.j3 x_2 x_3 x_4 a_17 x_18 = some r) : f58.j3 (limit_Fork.post W h0 m0 r) x_2 x_3 x_4 A_17 n_17 c_17 x_18 h := limit_Fork.l0_k.all (p := .j3 x_2 x_3 x_4 a_17 x_18) e W h0 m0 h m A_17 n_17 c_17 O ne_17

noncomputable def limit_Fork.j0 (a_0 : List T_limit_Row) (x_2 : Int) (x_3 : Int) (x_4 : Int) (x_12 : Int) : Option ((List T_limit_Row) × Int) :=
  Option.bind (slices_Clone_114 a_0) fun y1 => Option.bind (gi y1 x_12) fun y13 => Option.bind (gi y1 x_12) fun y20 => Option.bind (some (List.set y1 (Int.toNat x_12) ({ y20 with MaxLetters := (IntKind.wrap .i64 (y13.MaxLetters - x_3)) }))) fun l29 => Option.bind (gi l29 x_12) fun y31 => Option.bind (gi l29 x_12) fun y38 => Option.bind (some (List.set l29 (Int.toNat x_12) ({ y38 with MaxCells := (IntKind.wrap .i64 (y31.MaxCells - x_4)) }))) fun l47 => (limit_Fork.l0 x_2 x_3 x_4 l47 (0 : Int))
set_option maxRecDepth 100000 in
theorem limit_Fork.j0.walk {W : Nat → Prop} {h0 m0 h m : Heap} {A_0 : Option Addr} {n_0 c_0 : Nat} {a_0 : List T_limit_Row} {x_2 : Int} {x_3 : Int} {x_4 : Int} {x_12 : Int} (O : Hold W h0 m0 h m []) (ne_0 : n_0 = List.length a_0) (k_0 : List.length a_0 ≤ c_0) (r_0 : Rd 5 T_limit_Row.E m A_0 a_0) {r : (List T_limit_Row) × Int} (e : limit_Fork.j0 a_0 x_2 x_3 x_4 x_12 = some r) : f58.j0 (limit_Fork.post W h0 m0 r) A_0 n_0 c_0 x_2 x_3 x_4 x_12 h := by
  unfold limit_Fork.j0 at e
  subst ne_0
  refine f58.j0_in ?_
  unfold f58.j0T
  obtain ⟨y1, g2, e⟩ := bind_e e
  refine (slices_Clone_114.walk (Hold.start (W := No) O.s) rfl k_0 r_0 g2).mono ?_
  rintro _ h3 ⟨m4, A7, n8, c9, Q5, rfl, ne10⟩
  have O12 := Hold.nm (O.retC Q5 (vfs_cons (rR_vf (aE_vf (fun _ _ _ _ h => T_limit_Row.keep h))) vfs_nil))
  subst ne10
  refine ⟨_, _, _, rfl, ?_⟩
  obtain ⟨y13, g14, e⟩ := bind_e e
  refine (O12.os 0 rfl).addr rfl g14 fun a15 cs16 ha17 hc18 he19 => ?_
  refine ⟨_, ldk (k := 3) (Sub.refl _) hc18 (T_limit_Row.g3 he19), _, rfl, ?_⟩
  obtain ⟨y20, g21, e⟩ := bind_e e
  refine (O12.os 0 rfl).addr rfl g21 fun a22 cs23 ha24 hc25 he26 => ?_
  obtain ⟨l29, g30, e⟩ := bind_e e
  replace g30 := Option.some.inj g30
  refine O12.elst 0 rfl g21 ha24 hc25 3 (by decide) (y' := ({ y20 with MaxLetters := (IntKind.wrap .i64 (y13.MaxLetters - x_3)) })) (T_limit_Row.s3 he26 (IntKind.wrap .i64 (y13.MaxLetters - x_3))) trivial g30 fun h27 O28 => ?_
  obtain ⟨y31, g32, e⟩ := bind_e e
  refine (O28.os 0 rfl).addr (lset' g30) g32 fun a33 cs34 ha35 hc36 he37 => ?_
  refine ⟨_, ldk (k := 4) (Sub.refl _) hc36 (T_limit_Row.g4 he37), _, rfl, ?_⟩
  obtain ⟨y38, g39, e⟩ := bind_e e
  refine (O28.os 0 rfl).addr (lset' g30) g39 fun a40 cs41 ha42 hc43 he44 => ?_
  obtain ⟨l47, g48, e⟩ := bind_e e
  replace g48 := Option.some.inj g48
  refine O28.elst 0 rfl g39 ha42 hc43 4 (by decide) (y' := ({ y38 with MaxCells := (IntKind.wrap .i64 (y31.MaxCells - x_4)) })) (T_limit_Row.s4 he44 (IntKind.wrap .i64 (y31.MaxCells - x_4))) trivial g48 fun h45 O46 => ?_
  have O49 := O46.nm
  exact limit_Fork.l0.walk (O49.pick [0]).nm ((lset' g30).trans (lset' g48)) e

noncomputable def limit_Fork.j1 (a_0 : List T_limit_Row) (x_2 : Int) (x_3 : Int) (x_4 : Int) (x_12 : Int) (y_16 : T_limit_Row) (b_41 : Bool) : Option ((List T_limit_Row) × Int) :=
  if b_41 = true then (some (([] : List T_limit_Row), (1 : Int))) else (if x_3 > (IntKind.wrap .i64 (y_16.MaxLetters - y_16.Letters)) then (some (([] : List T_limit_Row), (6 : Int))) else (if x_4 > (IntKind.wrap .i64 (y_16.MaxCells - y_16.Cells)) then (some (([] : List T_limit_Row), (2 : Int))) else (if (((List.length a_0) : Nat) : Int) = (100 : Int) then (some (([] : List T_limit_Row), (6 : Int))) else ((limit_Fork.j0 a_0 x_2 x_3 x_4 x_12)))))
set_option maxRecDepth 100000 in
theorem limit_Fork.j1.walk {W : Nat → Prop} {h0 m0 h m : Heap} {A_0 : Option Addr} {n_0 c_0 : Nat} {bk_16 : Nat} {cs_16 : List Value} {a_0 : List T_limit_Row} {x_2 : Int} {x_3 : Int} {x_4 : Int} {x_12 : Int} {y_16 : T_limit_Row} {b_41 : Bool} (O : Hold W h0 m0 h m [rV bk_16 138 cs_16]) (ne_0 : n_0 = List.length a_0) (k_0 : List.length a_0 ≤ c_0) (r_0 : Rd 5 T_limit_Row.E m A_0 a_0) (e_16 : T_limit_Row.E m y_16 cs_16) {r : (List T_limit_Row) × Int} (e : limit_Fork.j1 a_0 x_2 x_3 x_4 x_12 y_16 b_41 = some r) : f58.j1 (limit_Fork.post W h0 m0 r) A_0 n_0 c_0 x_2 x_3 x_4 x_12 (⟨bk_16, 0, none⟩ : Addr) b_41 h := by
  unfold limit_Fork.j1 at e
  subst ne_0
  refine f58.j1_in ?_
  unfold f58.j1T
  refine split_any_e e (fun c16 e => ?_) (fun c16 e => ?_)
  · have O1 := O.nil (aE T_limit_Row.T) none
    have O3 := O1.nm
    cases e
    exact ⟨_, _, _, _, O3.pick [1], rfl, rfl⟩
  · refine ⟨_, ldk (k := 3) (Sub.refl _) (O.all 0 rfl) (T_limit_Row.g3 e_16), _, rfl, ?_⟩
    refine ⟨_, ldk (k := 1) (Sub.refl _) (O.all 0 rfl) (T_limit_Row.g1 e_16), _, rfl, ?_⟩
    refine split_dec_e e (fun c15 e => ?_) (fun c15 e => ?_)
    · have O4 := O.nil (aE T_limit_Row.T) none
      have O6 := O4.nm
      cases e
      exact ⟨_, _, _, _, O6.pick [1], rfl, rfl⟩
    · refine ⟨_, ldk (k := 4) (Sub.refl _) (O.all 0 rfl) (T_limit_Row.g4 e_16), _, rfl, ?_⟩
      refine ⟨_, ldk (k := 2) (Sub.refl _) (O.all 0 rfl) (T_limit_Row.g2 e_16), _, rfl, ?_⟩
      refine split_dec_e e (fun c14 e => ?_) (fun c14 e => ?_)
      · have O7 := O.nil (aE T_limit_Row.T) none
        have O9 := O7.nm
        cases e
        exact ⟨_, _, _, _, O9.pick [1], rfl, rfl⟩
      · refine split_eq_e e (fun c13 e => ?_) (fun c13 e => ?_)
        · have O10 := O.nil (aE T_limit_Row.T) none
          have O12 := O10.nm
          cases e
          exact ⟨_, _, _, _, O12.pick [1], rfl, rfl⟩
        · exact limit_Fork.j0.walk (O.pick []).nm rfl k_0 r_0 e

noncomputable def limit_Fork (a_0 : List T_limit_Row) (x_1 : Int) (x_2 : Int) (x_3 : Int) (x_4 : Int) : Option ((List T_limit_Row) × Int) :=
  Option.bind (limit_at a_0 x_1) fun y1 => if y1.2 = (0 : Int) then (Option.bind (limit_at a_0 x_2) fun y11 => Option.bind (gi a_0 y1.1) fun y18 => if y11.2 = (0 : Int) then (some (([] : List T_limit_Row), (5 : Int))) else (Option.bind (limit_amount x_3) fun y34 => if y34 = true then (Option.bind (limit_amount x_4) fun y41 => (limit_Fork.j1 a_0 x_2 x_3 x_4 y1.1 y18 (!y41))) else ((limit_Fork.j1 a_0 x_2 x_3 x_4 y1.1 y18 true)))) else (some (([] : List T_limit_Row), y1.2))
set_option maxHeartbeats 4000000 in
set_option maxRecDepth 100000 in
theorem limit_Fork.walk {W : Nat → Prop} {h m : Heap} {A_0 : Option Addr} {n_0 c_0 : Nat} {a_0 : List T_limit_Row} {x_1 : Int} {x_2 : Int} {x_3 : Int} {x_4 : Int} (O : Hold W h m h m []) (ne_0 : n_0 = List.length a_0) (k_0 : List.length a_0 ≤ c_0) (r_0 : Rd 5 T_limit_Row.E m A_0 a_0) {r : (List T_limit_Row) × Int} (e : limit_Fork a_0 x_1 x_2 x_3 x_4 = some r) : Run Try.prog 58 #[Value.slice A_0 n_0 c_0, Value.int .i64 x_1, Value.int .i64 x_2, Value.int .i64 x_3, Value.int .i64 x_4] h (limit_Fork.post W h m r) := by
  unfold limit_Fork at e
  subst ne_0
  refine f58.run ?_
  unfold f58.runT
  obtain ⟨y1, g2, e⟩ := bind_e e
  refine (limit_at.walk (Hold.start (W := No) O.s) rfl k_0 r_0 g2).mono ?_
  rintro _ h3 ⟨m4, Q5, rfl⟩
  have O7 := Hold.nm (O.retC Q5 vfs_nil)
  refine ⟨_, _, rfl, ?_⟩
  refine split_ne_e e (fun c50 e => ?_) (fun c50 e => ?_)
  · have O8 := O7.nil (aE T_limit_Row.T) none
    have O10 := O8.nm
    cases e
    exact ⟨_, _, _, _, O10.pick [0], rfl, rfl⟩
  · obtain ⟨y11, g12, e⟩ := bind_e e
    refine (limit_at.walk (Hold.start (W := No) O7.s) rfl k_0 r_0 g12).mono ?_
    rintro _ h13 ⟨m14, Q15, rfl⟩
    have O17 := Hold.nm (O7.retC Q15 vfs_nil)
    refine ⟨_, _, rfl, ?_⟩
    obtain ⟨y18, g19, e⟩ := bind_e e
    refine r_0.addr rfl g19 fun a20 cs21 ha22 hc23 he24 => ?_
    refine ⟨_, ldAn O17.s hc23 rfl, ?_⟩
    refine O17.new fun h25 x26 O27 => ?_
    refine ⟨_, rfl, (T_limit_Row.T.len _ _ _ he24), ?_⟩
    refine O27.stA 0 rfl (T_limit_Row.T.len _ _ _ he24) (T_limit_Row.T.flat _ _ _ he24) fun h29 O30 => ?_
    refine split_eq_e e (fun c49 e => ?_) (fun c49 e => ?_)
    · have O31 := O30.nil (aE T_limit_Row.T) none
      have O33 := O31.nm
      cases e
      exact ⟨_, _, _, _, O33.pick [1], rfl, rfl⟩
    · obtain ⟨y34, g35, e⟩ := bind_e e
      refine (limit_amount.walk (Hold.start (W := No) O30.s)  g35).mono ?_
      rintro _ h36 ⟨m37, Q38, rfl⟩
      have O40 := Hold.nm (O30.retC Q38 vfs_nil)
      refine ⟨_, rfl, ?_⟩
      refine split_not ?_
      refine split_any_e e (fun c48 e => ?_) (fun c48 e => ?_)
      · obtain ⟨y41, g42, e⟩ := bind_e e
        refine (limit_amount.walk (Hold.start (W := No) O40.s)  g42).mono ?_
        rintro _ h43 ⟨m44, Q45, rfl⟩
        have O47 := Hold.nm (O40.retC Q45 vfs_nil)
        refine ⟨_, rfl, ?_⟩
        exact limit_Fork.j1.walk (O47.pick [0]).nm rfl k_0 r_0 he24 e
      · exact limit_Fork.j1.walk (O40.pick [0]).nm rfl k_0 r_0 he24 e

/-! ### 116 slices.Delete[[]roadstead/limit.Row,roadstead/limit.Row] -/
def slices_Delete_116.post (W : Nat → Prop) (h0 m0 : Heap) (r : (List T_limit_Row)) (v : Value) (h : Heap) : Prop := ∃ m A0 n0 c0, Hold W h0 m0 h m [rR (aE T_limit_Row.T) A0 c0 r] ∧ v = .slice A0 n0 c0 ∧ n0 = List.length r
noncomputable def slices_Delete_116 (a0 : List T_limit_Row) (x1 x2 : Int) : Option (List T_limit_Row) := if 0 ≤ x1 ∧ x1 ≤ x2 ∧ x2 ≤ ((List.length a0 : Nat) : Int) then some (List.take (Int.toNat x1) a0 ++ List.drop (Int.toNat x2) a0) else none
set_option maxRecDepth 100000 in
theorem slices_Delete_116.walk {W : Nat → Prop} {h m : Heap} {A0 : Option Addr} {n0 c0 : Nat} {a0 : List T_limit_Row} {x1 x2 : Int} (O : Hold W h m h m [rR (aE T_limit_Row.T) A0 c0 a0]) (ne0 : n0 = List.length a0) {r : List T_limit_Row} (e : slices_Delete_116 a0 x1 x2 = some r) : Run Try.prog 116 #[Value.slice A0 n0 c0, Value.int .i64 x1, Value.int .i64 x2] h (slices_Delete_116.post W h m r) := by
  unfold slices_Delete_116 at e
  subst ne0
  obtain ⟨g, e⟩ := guard_e e
  cases e
  refine f116.run ?_
  unfold f116.runT
  exact delete_ok (e := 138) (zv := (Value.agg #[(Value.int .i64 (0 : Int)), (Value.int .i64 (0 : Int)), (Value.int .i64 (0 : Int)), (Value.int .i64 (0 : Int)), (Value.int .i64 (0 : Int))])) (zp := (T_limit_Row.mk (0 : Int) (0 : Int) (0 : Int) (0 : Int) (0 : Int))) O 0 rfl (by kernel_rfl) (by kernel_rfl) (show T_limit_Row.E m (T_limit_Row.mk (0 : Int) (0 : Int) (0 : Int) (0 : Int) (0 : Int)) [(Value.int .i64 (0 : Int)), (Value.int .i64 (0 : Int)), (Value.int .i64 (0 : Int)), (Value.int .i64 (0 : Int)), (Value.int .i64 (0 : Int))] from (show T_limit_Row.E _ (T_limit_Row.mk (0 : Int) (0 : Int) (0 : Int) (0 : Int) (0 : Int)) [(Value.int .i64 (0 : Int)), (Value.int .i64 (0 : Int)), (Value.int .i64 (0 : Int)), (Value.int .i64 (0 : Int)), (Value.int .i64 (0 : Int))] from rfl)) g fun h' O' => ⟨m, _, _, _, O'.pick [0], rfl, rfl⟩

/-! ### 59 roadstead/limit.Join -/
def limit_Join.post (W : Nat → Prop) (h0 m0 : Heap) (r : (List T_limit_Row) × Int) (v : Value) (h : Heap) : Prop := ∃ m A0 n0 c0, Hold W h0 m0 h m [rR (aE T_limit_Row.T) A0 c0 r.1] ∧ v = .tuple #[.slice A0 n0 c0, .int .i64 r.2] ∧ n0 = List.length r.1
noncomputable def limit_Join.j0 (a_0 : List T_limit_Row) (x_8 : Int) (x_10 : Int) : Option ((List T_limit_Row) × Int) :=
  Option.bind (slices_Clone_114 a_0) fun y1 => Option.bind (gi y1 x_10) fun y13 => Option.bind (gi y1 x_8) fun y20 => Option.bind (gi y1 x_10) fun y27 => Option.bind (some (List.set y1 (Int.toNat x_10) ({ y27 with MaxLetters := (IntKind.wrap .i64 (y13.MaxLetters + y20.MaxLetters)) }))) fun l36 => Option.bind (gi l36 x_10) fun y38 => Option.bind (gi l36 x_8) fun y45 => Option.bind (gi l36 x_10) fun y52 => Option.bind (some (List.set l36 (Int.toNat x_10) ({ y52 with MaxCells := (IntKind.wrap .i64 (y38.MaxCells + y45.MaxCells)) }))) fun l61 => Option.bind (slices_Delete_116 l61 x_8 (IntKind.wrap .i64 (x_8 + (1 : Int)))) fun y63 => some (y63, (0 : Int))
set_option maxHeartbeats 4000000 in
set_option maxRecDepth 100000 in
theorem limit_Join.j0.walk {W : Nat → Prop} {h0 m0 h m : Heap} {A_0 : Option Addr} {n_0 c_0 : Nat} {a_0 : List T_limit_Row} {x_8 : Int} {x_10 : Int} (O : Hold W h0 m0 h m []) (ne_0 : n_0 = List.length a_0) (k_0 : List.length a_0 ≤ c_0) (r_0 : Rd 5 T_limit_Row.E m A_0 a_0) {r : (List T_limit_Row) × Int} (e : limit_Join.j0 a_0 x_8 x_10 = some r) : f59.j0 (limit_Join.post W h0 m0 r) A_0 n_0 c_0 x_8 x_10 h := by
  unfold limit_Join.j0 at e
  subst ne_0
  refine f59.j0_in ?_
  unfold f59.j0T
  obtain ⟨y1, g2, e⟩ := bind_e e
  refine (slices_Clone_114.walk (Hold.start (W := No) O.s) rfl k_0 r_0 g2).mono ?_
  rintro _ h3 ⟨m4, A7, n8, c9, Q5, rfl, ne10⟩
  have O12 := Hold.nm (O.retC Q5 (vfs_cons (rR_vf (aE_vf (fun _ _ _ _ h => T_limit_Row.keep h))) vfs_nil))
  subst ne10
  refine ⟨_, _, _, rfl, ?_⟩
  obtain ⟨y13, g14, e⟩ := bind_e e
  refine (O12.os 0 rfl).addr rfl g14 fun a15 cs16 ha17 hc18 he19 => ?_
  obtain ⟨y20, g21, e⟩ := bind_e e
  refine (O12.os 0 rfl).addr rfl g21 fun a22 cs23 ha24 hc25 he26 => ?_
  refine ⟨_, ldk (k := 3) (Sub.refl _) hc18 (T_limit_Row.g3 he19), _, rfl, ?_⟩
  refine ⟨_, ldk (k := 3) (Sub.refl _) hc25 (T_limit_Row.g3 he26), _, rfl, ?_⟩
  obtain ⟨y27, g28, e⟩ := bind_e e
  refine (O12.os 0 rfl).addr rfl g28 fun a29 cs30 ha31 hc32 he33 => ?_
  obtain ⟨l36, g37, e⟩ := bind_e e
  replace g37 := Option.some.inj g37
  refine O12.elst 0 rfl g28 ha31 hc32 3 (by decide) (y' := ({ y27 with MaxLetters := (IntKind.wrap .i64 (y13.MaxLetters + y20.MaxLetters)) })) (T_limit_Row.s3 he33 (IntKind.wrap .i64 (y13.MaxLetters + y20.MaxLetters))) trivial g37 fun h34 O35 => ?_
  obtain ⟨y38, g39, e⟩ := bind_e e
  refine (O35.os 0 rfl).addr (lset' g37) g39 fun a40 cs41 ha42 hc43 he44 => ?_
  obtain ⟨y45, g46, e⟩ := bind_e e
  refine (O35.os 0 rfl).addr (lset' g37) g46 fun a47 cs48 ha49 hc50 he51 => ?_
  refine ⟨_, ldk (k := 4) (Sub.refl _) hc43 (T_limit_Row.g4 he44), _, rfl, ?_⟩
  refine ⟨_, ldk (k := 4) (Sub.refl _) hc50 (T_limit_Row.g4 he51), _, rfl, ?_⟩
  obtain ⟨y52, g53, e⟩ := bind_e e
  refine (O35.os 0 rfl).addr (lset' g37) g53 fun a54 cs55 ha56 hc57 he58 => ?_
  obtain ⟨l61, g62, e⟩ := bind_e e
  replace g62 := Option.some.inj g62
  refine O35.elst 0 rfl g53 ha56 hc57 4 (by decide) (y' := ({ y52 with MaxCells := (IntKind.wrap .i64 (y38.MaxCells + y45.MaxCells)) })) (T_limit_Row.s4 he58 (IntKind.wrap .i64 (y38.MaxCells + y45.MaxCells))) trivial g62 fun h59 O60 => ?_
  obtain ⟨y63, g64, e⟩ := bind_e e
  have O69 := O60.nm
  obtain ⟨W70, P71, B72, C73⟩ := O69.callC [0]
  refine (slices_Delete_116.walk P71 ((lset' g37).trans (lset' g62)) g64).mono ?_
  rintro _ h65 ⟨m66, A74, n75, c76, Q67, rfl, ne77⟩
  have O79 := Hold.nm (C73 Q67 (vfs_cons (rR_vf (aE_vf (fun _ _ _ _ h => T_limit_Row.keep h))) vfs_nil))
  subst ne77
  refine ⟨_, _, _, rfl, ?_⟩
  cases e
  exact ⟨_, _, _, _, O79.pick [1], rfl, rfl⟩

noncomputable def limit_Join.j1 (a_0 : List T_limit_Row) (x_8 : Int) (x_10 : Int) (b_35 : Bool) : Option ((List T_limit_Row) × Int) :=
  if b_35 = true then (some (([] : List T_limit_Row), (2 : Int))) else ((limit_Join.j0 a_0 x_8 x_10))
set_option maxRecDepth 100000 in
theorem limit_Join.j1.walk {W : Nat → Prop} {h0 m0 h m : Heap} {A_0 : Option Addr} {n_0 c_0 : Nat} {a_0 : List T_limit_Row} {x_8 : Int} {x_10 : Int} {b_35 : Bool} (O : Hold W h0 m0 h m []) (ne_0 : n_0 = List.length a_0) (k_0 : List.length a_0 ≤ c_0) (r_0 : Rd 5 T_limit_Row.E m A_0 a_0) {r : (List T_limit_Row) × Int} (e : limit_Join.j1 a_0 x_8 x_10 b_35 = some r) : f59.j1 (limit_Join.post W h0 m0 r) A_0 n_0 c_0 x_8 x_10 b_35 h := by
  unfold limit_Join.j1 at e
  subst ne_0
  refine f59.j1_in ?_
  unfold f59.j1T
  refine split_any_e e (fun c4 e => ?_) (fun c4 e => ?_)
  · have O1 := O.nil (aE T_limit_Row.T) none
    have O3 := O1.nm
    cases e
    exact ⟨_, _, _, _, O3.pick [0], rfl, rfl⟩
  · exact limit_Join.j0.walk (O.pick []).nm rfl k_0 r_0 e

noncomputable def limit_Join (a_0 : List T_limit_Row) (x_1 : Int) (x_2 : Int) : Option ((List T_limit_Row) × Int) :=
  Option.bind (limit_at a_0 x_1) fun y1 => if y1.2 = (0 : Int) then (Option.bind (limit_at a_0 x_2) fun y11 => if y11.2 = (0 : Int) then (if y1.1 = y11.1 then (some (([] : List T_limit_Row), (18 : Int))) else (Option.bind (gi a_0 y1.1) fun y24 => Option.bind (gi a_0 y11.1) fun y31 => if y24.MaxLetters > (IntKind.wrap .i64 ((1073741824 : Int) - y31.MaxLetters)) then ((limit_Join.j1 a_0 y1.1 y11.1 true)) else (Option.bind (gi a_0 y1.1) fun y38 => Option.bind (gi a_0 y11.1) fun y45 => (limit_Join.j1 a_0 y1.1 y11.1 (decide (y38.MaxCells > (IntKind.wrap .i64 ((1073741824 : Int) - y45.MaxCells)))))))) else (some (([] : List T_limit_Row), y11.2))) else (some (([] : List T_limit_Row), y1.2))
set_option maxHeartbeats 4000000 in
set_option maxRecDepth 100000 in
theorem limit_Join.walk {W : Nat → Prop} {h m : Heap} {A_0 : Option Addr} {n_0 c_0 : Nat} {a_0 : List T_limit_Row} {x_1 : Int} {x_2 : Int} (O : Hold W h m h m []) (ne_0 : n_0 = List.length a_0) (k_0 : List.length a_0 ≤ c_0) (r_0 : Rd 5 T_limit_Row.E m A_0 a_0) {r : (List T_limit_Row) × Int} (e : limit_Join a_0 x_1 x_2 = some r) : Run Try.prog 59 #[Value.slice A_0 n_0 c_0, Value.int .i64 x_1, Value.int .i64 x_2] h (limit_Join.post W h m r) := by
  unfold limit_Join at e
  subst ne_0
  refine f59.run ?_
  unfold f59.runT
  obtain ⟨y1, g2, e⟩ := bind_e e
  refine (limit_at.walk (Hold.start (W := No) O.s) rfl k_0 r_0 g2).mono ?_
  rintro _ h3 ⟨m4, Q5, rfl⟩
  have O7 := Hold.nm (O.retC Q5 vfs_nil)
  refine ⟨_, _, rfl, ?_⟩
  refine split_ne_e e (fun c55 e => ?_) (fun c55 e => ?_)
  · have O8 := O7.nil (aE T_limit_Row.T) none
    have O10 := O8.nm
    cases e
    exact ⟨_, _, _, _, O10.pick [0], rfl, rfl⟩
  · obtain ⟨y11, g12, e⟩ := bind_e e
    refine (limit_at.walk (Hold.start (W := No) O7.s) rfl k_0 r_0 g12).mono ?_
    rintro _ h13 ⟨m14, Q15, rfl⟩
    have O17 := Hold.nm (O7.retC Q15 vfs_nil)
    refine ⟨_, _, rfl, ?_⟩
    refine split_ne_e e (fun c54 e => ?_) (fun c54 e => ?_)
    · have O18 := O17.nil (aE T_limit_Row.T) none
      have O20 := O18.nm
      cases e
      exact ⟨_, _, _, _, O20.pick [0], rfl, rfl⟩
    · refine split_eq_e e (fun c53 e => ?_) (fun c53 e => ?_)
      · have O21 := O17.nil (aE T_limit_Row.T) none
        have O23 := O21.nm
        cases e
        exact ⟨_, _, _, _, O23.pick [0], rfl, rfl⟩
      · obtain ⟨y24, g25, e⟩ := bind_e e
        refine r_0.addr rfl g25 fun a26 cs27 ha28 hc29 he30 => ?_
        obtain ⟨y31, g32, e⟩ := bind_e e
        refine r_0.addr rfl g32 fun a33 cs34 ha35 hc36 he37 => ?_
        refine ⟨_, ldk (k := 3) O17.s hc29 (T_limit_Row.g3 he30), _, rfl, ?_⟩
        refine ⟨_, ldk (k := 3) O17.s hc36 (T_limit_Row.g3 he37), _, rfl, ?_⟩
        refine split_dec_e e (fun c52 e => ?_) (fun c52 e => ?_)
        · exact limit_Join.j1.walk (O17.pick []).nm rfl k_0 r_0 e
        · obtain ⟨y38, g39, e⟩ := bind_e e
          refine r_0.addr rfl g39 fun a40 cs41 ha42 hc43 he44 => ?_
          obtain ⟨y45, g46, e⟩ := bind_e e
          refine r_0.addr rfl g46 fun a47 cs48 ha49 hc50 he51 => ?_
          refine ⟨_, ldk (k := 4) O17.s hc43 (T_limit_Row.g4 he44), _, rfl, ?_⟩
          refine ⟨_, ldk (k := 4) O17.s hc50 (T_limit_Row.g4 he51), _, rfl, ?_⟩
          exact limit_Join.j1.walk (O17.pick []).nm rfl k_0 r_0 e

/-! ### 60 roadstead/roadref3.LimitFault -/
def roadref3_LimitFault.post (W : Nat → Prop) (h0 m0 : Heap) (r : Int) (v : Value) (h : Heap) : Prop := ∃ m , Hold W h0 m0 h m [] ∧ v = .int .i64 r
inductive roadref3_LimitFault.l0_k.Pt where
  | l0 (a_0 : List T_limit_Row) (a_8 : List T_limit_Row) (x_9 : Int) (x_10 : Int)
  | j0 (a_0 : List T_limit_Row) (x_3 : Int) (y_4 : T_limit_Row) (a_8 : List T_limit_Row) (x_9 : Int) (x_10 : Int)
noncomputable def roadref3_LimitFault.l0_k.body (go : (p : roadref3_LimitFault.l0_k.Pt) → Option (Int)) : (p : roadref3_LimitFault.l0_k.Pt) → Option (Int)
  | .l0 a_0 a_8 x_9 x_10 => if x_10 < x_9 then (Option.bind (gi a_8 x_10) fun y1 => Option.bind (roadref3_In y1.MaxLetters (0 : Int) (1073741824 : Int)) fun y14 => if y14 = true then (Option.bind (roadref3_In y1.MaxCells (0 : Int) (1073741824 : Int)) fun y21 => if y21 = true then (Option.bind (roadref3_In y1.Letters (0 : Int) y1.MaxLetters) fun y28 => if y28 = true then (Option.bind (roadref3_In y1.Cells (0 : Int) y1.MaxCells) fun y35 => if y35 = true then ((go (.j0 a_0 x_10 y1 a_8 x_9 x_10))) else (some ((1 : Int)))) else (some ((1 : Int)))) else (some ((1 : Int)))) else (some ((1 : Int)))) else (some ((0 : Int)))
  | .j0 a_0 x_3 y_4 a_8 x_9 x_10 => if x_3 > (0 : Int) then (Option.bind (gi a_0 (IntKind.wrap .i64 (x_3 - (1 : Int)))) fun y1 => if y1.Ref ≥ y_4.Ref then (some ((21 : Int))) else ((go (.l0 a_0 a_8 x_9 (IntKind.wrap .i64 (x_10 + (1 : Int))))))) else ((go (.l0 a_0 a_8 x_9 (IntKind.wrap .i64 (x_10 + (1 : Int))))))
theorem roadref3_LimitFault.l0_k.mono : MonoF (β := fun _ => (Int)) roadref3_LimitFault.l0_k.body := fun f g hfg p => match p with
  | .l0 a_0 a_8 x_9 x_10 => LeO.ite (LeO.bind (LeO.refl _) fun y1 => LeO.bind (LeO.refl _) fun y14 => LeO.ite (LeO.bind (LeO.refl _) fun y21 => LeO.ite (LeO.bind (LeO.refl _) fun y28 => LeO.ite (LeO.bind (LeO.refl _) fun y35 => LeO.ite ((hfg _)) (LeO.refl _)) (LeO.refl _)) (LeO.refl _)) (LeO.refl _)) (LeO.refl _)
  | .j0 a_0 x_3 y_4 a_8 x_9 x_10 => LeO.ite (LeO.bind (LeO.refl _) fun y1 => LeO.ite (LeO.refl _) ((hfg _))) ((hfg _))
noncomputable def roadref3_LimitFault.l0_k.go (p : roadref3_LimitFault.l0_k.Pt) : Option (Int) := fixF (β := fun _ => (Int)) roadref3_LimitFault.l0_k.body p
noncomputable def roadref3_LimitFault.l0 (a_0 : List T_limit_Row) (a_8 : List T_limit_Row) (x_9 : Int) (x_10 : Int) : Option (Int) := roadref3_LimitFault.l0_k.go (.l0 a_0 a_8 x_9 x_10)
noncomputable def roadref3_LimitFault.j0 (a_0 : List T_limit_Row) (x_3 : Int) (y_4 : T_limit_Row) (a_8 : List T_limit_Row) (x_9 : Int) (x_10 : Int) : Option (Int) := roadref3_LimitFault.l0_k.go (.j0 a_0 x_3 y_4 a_8 x_9 x_10)
theorem roadref3_LimitFault.l0_eq (a_0 : List T_limit_Row) (a_8 : List T_limit_Row) (x_9 : Int) (x_10 : Int) : roadref3_LimitFault.l0 a_0 a_8 x_9 x_10 = if x_10 < x_9 then (Option.bind (gi a_8 x_10) fun y1 => Option.bind (roadref3_In y1.MaxLetters (0 : Int) (1073741824 : Int)) fun y14 => if y14 = true then (Option.bind (roadref3_In y1.MaxCells (0 : Int) (1073741824 : Int)) fun y21 => if y21 = true then (Option.bind (roadref3_In y1.Letters (0 : Int) y1.MaxLetters) fun y28 => if y28 = true then (Option.bind (roadref3_In y1.Cells (0 : Int) y1.MaxCells) fun y35 => if y35 = true then ((roadref3_LimitFault.j0 a_0 x_10 y1 a_8 x_9 x_10)) else (some ((1 : Int)))) else (some ((1 : Int)))) else (some ((1 : Int)))) else (some ((1 : Int)))) else (some ((0 : Int))) := fixF_eq roadref3_LimitFault.l0_k.mono _
theorem roadref3_LimitFault.j0_eq (a_0 : List T_limit_Row) (x_3 : Int) (y_4 : T_limit_Row) (a_8 : List T_limit_Row) (x_9 : Int) (x_10 : Int) : roadref3_LimitFault.j0 a_0 x_3 y_4 a_8 x_9 x_10 = if x_3 > (0 : Int) then (Option.bind (gi a_0 (IntKind.wrap .i64 (x_3 - (1 : Int)))) fun y1 => if y1.Ref ≥ y_4.Ref then (some ((21 : Int))) else ((roadref3_LimitFault.l0 a_0 a_8 x_9 (IntKind.wrap .i64 (x_10 + (1 : Int)))))) else ((roadref3_LimitFault.l0 a_0 a_8 x_9 (IntKind.wrap .i64 (x_10 + (1 : Int))))) := fixF_eq roadref3_LimitFault.l0_k.mono _
def roadref3_LimitFault.l0_k.I : (p : roadref3_LimitFault.l0_k.Pt) → (Int) → Prop
  | .l0 a_0 a_8 x_9 x_10, r => ∀ (W : Nat → Prop) (h0 m0 h m : Heap) (A_0 : Option Addr) (n_0 c_0 : Nat) (A_8 : Option Addr) (n_8 c_8 : Nat) (O : Hold W h0 m0 h m []) (ne_0 : n_0 = List.length a_0) (k_0 : List.length a_0 ≤ c_0) (r_0 : Rd 5 T_limit_Row.E m A_0 a_0) (ne_8 : n_8 = List.length a_8) (k_8 : List.length a_8 ≤ c_8) (r_8 : Rd 5 T_limit_Row.E m A_8 a_8), f60.l0 (roadref3_LimitFault.post W h0 m0 r) A_0 n_0 c_0 A_8 n_8 c_8 x_9 x_10 h
  | .j0 a_0 x_3 y_4 a_8 x_9 x_10, r => ∀ (W : Nat → Prop) (h0 m0 h m : Heap) (A_0 : Option Addr) (n_0 c_0 : Nat) (bk_4 : Nat) (cs_4 : List Value) (A_8 : Option Addr) (n_8 c_8 : Nat) (O : Hold W h0 m0 h m [rV bk_4 138 cs_4]) (ne_0 : n_0 = List.length a_0) (k_0 : List.length a_0 ≤ c_0) (r_0 : Rd 5 T_limit_Row.E m A_0 a_0) (e_4 : T_limit_Row.E m y_4 cs_4) (ne_8 : n_8 = List.length a_8) (k_8 : List.length a_8 ≤ c_8) (r_8 : Rd 5 T_limit_Row.E m A_8 a_8), f60.j0 (roadref3_LimitFault.post W h0 m0 r) A_0 n_0 c_0 x_3 (⟨bk_4, 0, none⟩ : Addr) A_8 n_8 c_8 x_9 x_10 h
set_option maxHeartbeats 4000000 in
set_option maxRecDepth 100000 in
theorem roadref3_LimitFault.l0_k.step_l0 (go : (p : roadref3_LimitFault.l0_k.Pt) → Option (Int)) (ih : ∀ p r, go p = some r → roadref3_LimitFault.l0_k.I p r) (a_0 : List T_limit_Row) (a_8 : List T_limit_Row) (x_9 : Int) (x_10 : Int) (r : Int) (e : roadref3_LimitFault.l0_k.body go (.l0 a_0 a_8 x_9 x_10) = some r) : roadref3_LimitFault.l0_k.I (.l0 a_0 a_8 x_9 x_10) r := by
  unfold roadref3_LimitFault.l0_k.body at e
  intro W h0 m0 h m A_0 n_0 c_0 A_8 n_8 c_8 O ne_0 k_0 r_0 ne_8 k_8 r_8
  subst ne_0
  subst ne_8
  refine f60.l0_in ?_
  unfold f60.l0T
  refine split_dec_e e (fun c46 e => ?_) (fun c46 e => ?_)
  · obtain ⟨y1, g2, e⟩ := bind_e e
    refine r_8.addr rfl g2 fun a3 cs4 ha5 hc6 he7 => ?_
    refine ⟨_, ldAn O.s hc6 rfl, ?_⟩
    refine O.new fun h8 x9 O10 => ?_
    refine ⟨_, rfl, (T_limit_Row.T.len _ _ _ he7), ?_⟩
    refine O10.stA 0 rfl (T_limit_Row.T.len _ _ _ he7) (T_limit_Row.T.flat _ _ _ he7) fun h12 O13 => ?_
    refine ⟨_, ldk (k := 3) (Sub.refl _) (O13.all 0 rfl) (T_limit_Row.g3 he7), _, rfl, ?_⟩
    obtain ⟨y14, g15, e⟩ := bind_e e
    refine (roadref3_In.walk (Hold.start (W := No) O13.s)  g15).mono ?_
    rintro _ h16 ⟨m17, Q18, rfl⟩
    have O20 := Hold.nm (O13.retC Q18 vfs_nil)
    refine ⟨_, rfl, ?_⟩
    refine split_not ?_
    refine split_any_e e (fun c45 e => ?_) (fun c45 e => ?_)
    · refine ⟨_, ldk (k := 4) (Sub.refl _) (O20.all 0 rfl) (T_limit_Row.g4 he7), _, rfl, ?_⟩
      obtain ⟨y21, g22, e⟩ := bind_e e
      refine (roadref3_In.walk (Hold.start (W := No) O20.s)  g22).mono ?_
      rintro _ h23 ⟨m24, Q25, rfl⟩
      have O27 := Hold.nm (O20.retC Q25 vfs_nil)
      refine ⟨_, rfl, ?_⟩
      refine split_not ?_
      refine split_any_e e (fun c44 e => ?_) (fun c44 e => ?_)
      · refine ⟨_, ldk (k := 1) (Sub.refl _) (O27.all 0 rfl) (T_limit_Row.g1 he7), _, rfl, ?_⟩
        refine ⟨_, ldk (k := 3) (Sub.refl _) (O27.all 0 rfl) (T_limit_Row.g3 he7), _, rfl, ?_⟩
        obtain ⟨y28, g29, e⟩ := bind_e e
        refine (roadref3_In.walk (Hold.start (W := No) O27.s)  g29).mono ?_
        rintro _ h30 ⟨m31, Q32, rfl⟩
        have O34 := Hold.nm (O27.retC Q32 vfs_nil)
        refine ⟨_, rfl, ?_⟩
        refine split_not ?_
        refine split_any_e e (fun c43 e => ?_) (fun c43 e => ?_)
        · refine ⟨_, ldk (k := 2) (Sub.refl _) (O34.all 0 rfl) (T_limit_Row.g2 he7), _, rfl, ?_⟩
          refine ⟨_, ldk (k := 4) (Sub.refl _) (O34.all 0 rfl) (T_limit_Row.g4 he7), _, rfl, ?_⟩
          obtain ⟨y35, g36, e⟩ := bind_e e
          refine (roadref3_In.walk (Hold.start (W := No) O34.s)  g36).mono ?_
          rintro _ h37 ⟨m38, Q39, rfl⟩
          have O41 := Hold.nm (O34.retC Q39 vfs_nil)
          refine ⟨_, rfl, ?_⟩
          refine split_not ?_
          refine split_any_e e (fun c42 e => ?_) (fun c42 e => ?_)
          · exact (ih _ _ e) _ _ _ _ _ _ _ _ _ _ _ _ _ (O41.pick [0]).nm rfl k_0 r_0 he7 rfl k_8 r_8
          · cases e
            exact ⟨_, O41.pick [], rfl⟩
        · cases e
          exact ⟨_, O34.pick [], rfl⟩
      · cases e
        exact ⟨_, O27.pick [], rfl⟩
    · cases e
      exact ⟨_, O20.pick [], rfl⟩
  · cases e
    exact ⟨_, O.pick [], rfl⟩
set_option maxRecDepth 100000 in
theorem roadref3_LimitFault.l0_k.step_j0 (go : (p : roadref3_LimitFault.l0_k.Pt) → Option (Int)) (ih : ∀ p r, go p = some r → roadref3_LimitFault.l0_k.I p r) (a_0 : List T_limit_Row) (x_3 : Int) (y_4 : T_limit_Row) (a_8 : List T_limit_Row) (x_9 : Int) (x_10 : Int) (r : Int) (e : roadref3_LimitFault.l0_k.body go (.j0 a_0 x_3 y_4 a_8 x_9 x_10) = some r) : roadref3_LimitFault.l0_k.I (.j0 a_0 x_3 y_4 a_8 x_9 x_10) r := by
  unfold roadref3_LimitFault.l0_k.body at e
  intro W h0 m0 h m A_0 n_0 c_0 bk_4 cs_4 A_8 n_8 c_8 O ne_0 k_0 r_0 e_4 ne_8 k_8 r_8
  subst ne_0
  subst ne_8
  refine f60.j0_in ?_
  unfold f60.j0T
  refine split_dec_e e (fun c9 e => ?_) (fun c9 e => ?_)
  · obtain ⟨y1, g2, e⟩ := bind_e e
    refine r_0.addr rfl g2 fun a3 cs4 ha5 hc6 he7 => ?_
    refine ⟨_, ld0 O.s hc6 (T_limit_Row.g0 he7), _, rfl, ?_⟩
    refine ⟨_, ld0 (Sub.refl _) (O.all 0 rfl) (T_limit_Row.g0 e_4), _, rfl, ?_⟩
    refine split_dec_e e (fun c8 e => ?_) (fun c8 e => ?_)
    · cases e
      exact ⟨_, O.pick [], rfl⟩
    · exact (ih _ _ e) _ _ _ _ _ _ _ _ _ _ _ (O.pick []).nm rfl k_0 r_0 rfl k_8 r_8
  · exact (ih _ _ e) _ _ _ _ _ _ _ _ _ _ _ (O.pick []).nm rfl k_0 r_0 rfl k_8 r_8
theorem roadref3_LimitFault.l0_k.all {p : roadref3_LimitFault.l0_k.Pt} {r : (Int)} (e : roadref3_LimitFault.l0_k.go p = some r) : roadref3_LimitFault.l0_k.I p r := fixF_ind (β := fun _ => (Int)) roadref3_LimitFault.l0_k.mono (I := roadref3_LimitFault.l0_k.I) (fun go ih p r e => match p with
  | .l0 a_0 a_8 x_9 x_10 => roadref3_LimitFault.l0_k.step_l0 go ih a_0 a_8 x_9 x_10 r e
  | .j0 a_0 x_3 y_4 a_8 x_9 x_10 => roadref3_LimitFault.l0_k.step_j0 go ih a_0 x_3 y_4 a_8 x_9 x_10 r e
  ) e
theorem roadref3_LimitFault.l0.walk {W : Nat → Prop} {h0 m0 h m : Heap} {A_0 : Option Addr} {n_0 c_0 : Nat} {A_8 : Option Addr} {n_8 c_8 : Nat} {a_0 : List T_limit_Row} {a_8 : List T_limit_Row} {x_9 : Int} {x_10 : Int} (O : Hold W h0 m0 h m []) (ne_0 : n_0 = List.length a_0) (k_0 : List.length a_0 ≤ c_0) (r_0 : Rd 5 T_limit_Row.E m A_0 a_0) (ne_8 : n_8 = List.length a_8) (k_8 : List.length a_8 ≤ c_8) (r_8 : Rd 5 T_limit_Row.E m A_8 a_8) {r : Int} (e : roadref3_LimitFault.l0 a_0 a_8 x_9 x_10 = some r) : f60.l0 (roadref3_LimitFault.post W h0 m0 r) A_0 n_0 c_0 A_8 n_8 c_8 x_9 x_10 h := roadref3_LimitFault.l0_k.all (p := .l0 a_0 a_8 x_9 x_10) e W h0 m0 h m A_0 n_0 c_0 A_8 n_8 c_8 O ne_0 k_0 r_0 ne_8 k_8 r_8
theorem roadref3_LimitFault.j0.walk {W : Nat → Prop} {h0 m0 h m : Heap} {A_0 : Option Addr} {n_0 c_0 : Nat} {bk_4 : Nat} {cs_4 : List Value} {A_8 : Option Addr} {n_8 c_8 : Nat} {a_0 : List T_limit_Row} {x_3 : Int} {y_4 : T_limit_Row} {a_8 : List T_limit_Row} {x_9 : Int} {x_10 : Int} (O : Hold W h0 m0 h m [rV bk_4 138 cs_4]) (ne_0 : n_0 = List.length a_0) (k_0 : List.length a_0 ≤ c_0) (r_0 : Rd 5 T_limit_Row.E m A_0 a_0) (e_4 : T_limit_Row.E m y_4 cs_4) (ne_8 : n_8 = List.length a_8) (k_8 : List.length a_8 ≤ c_8) (r_8 : Rd 5 T_limit_Row.E m A_8 a_8) {r : Int} (e : roadref3_LimitFault.j0 a_0 x_3 y_4 a_8 x_9 x_10 = some r) : f60.j0 (roadref3_LimitFault.post W h0 m0 r) A_0 n_0 c_0 x_3 (⟨bk_4, 0, none⟩ : Addr) A_8 n_8 c_8 x_9 x_10 h := roadref3_LimitFault.l0_k.all (p := .j0 a_0 x_3 y_4 a_8 x_9 x_10) e W h0 m0 h m A_0 n_0 c_0 bk_4 cs_4 A_8 n_8 c_8 O ne_0 k_0 r_0 e_4 ne_8 k_8 r_8

noncomputable def roadref3_LimitFault (a_0 : List T_limit_Row) : Option (Int) :=
  if (((List.length a_0) : Nat) : Int) > (100 : Int) then (some ((2 : Int))) else ((roadref3_LimitFault.l0 a_0 a_0 (((List.length a_0) : Nat) : Int) (0 : Int)))
set_option maxRecDepth 100000 in
theorem roadref3_LimitFault.walk {W : Nat → Prop} {h m : Heap} {A_0 : Option Addr} {n_0 c_0 : Nat} {a_0 : List T_limit_Row} (O : Hold W h m h m []) (ne_0 : n_0 = List.length a_0) (k_0 : List.length a_0 ≤ c_0) (r_0 : Rd 5 T_limit_Row.E m A_0 a_0) {r : Int} (e : roadref3_LimitFault a_0 = some r) : Run Try.prog 60 #[Value.slice A_0 n_0 c_0] h (roadref3_LimitFault.post W h m r) := by
  unfold roadref3_LimitFault at e
  subst ne_0
  refine f60.run ?_
  unfold f60.runT
  refine split_dec_e e (fun c1 e => ?_) (fun c1 e => ?_)
  · cases e
    exact ⟨_, O.pick [], rfl⟩
  · exact roadref3_LimitFault.l0.walk (O.pick []).nm rfl k_0 r_0 rfl k_0 r_0 e

/-! ### 62 roadstead/roadref3.LimitAt -/
def roadref3_LimitAt.post (W : Nat → Prop) (h0 m0 : Heap) (r : Int) (v : Value) (h : Heap) : Prop := ∃ m , Hold W h0 m0 h m [] ∧ v = .int .i64 r
inductive roadref3_LimitAt.l0_k.Pt where
  | l0 (x_1 : Int) (a_7 : List T_limit_Row) (x_8 : Int) (x_9 : Int)
noncomputable def roadref3_LimitAt.l0_k.body (go : (p : roadref3_LimitAt.l0_k.Pt) → Option (Int)) : (p : roadref3_LimitAt.l0_k.Pt) → Option (Int)
  | .l0 x_1 a_7 x_8 x_9 => if x_9 < x_8 then (Option.bind (gi a_7 x_9) fun y1 => if y1.Ref = x_1 then (some (x_9)) else ((go (.l0 x_1 a_7 x_8 (IntKind.wrap .i64 (x_9 + (1 : Int))))))) else (some ((-1 : Int)))
theorem roadref3_LimitAt.l0_k.mono : MonoF (β := fun _ => (Int)) roadref3_LimitAt.l0_k.body := fun f g hfg p => match p with
  | .l0 x_1 a_7 x_8 x_9 => LeO.ite (LeO.bind (LeO.refl _) fun y1 => LeO.ite (LeO.refl _) ((hfg _))) (LeO.refl _)
noncomputable def roadref3_LimitAt.l0_k.go (p : roadref3_LimitAt.l0_k.Pt) : Option (Int) := fixF (β := fun _ => (Int)) roadref3_LimitAt.l0_k.body p
noncomputable def roadref3_LimitAt.l0 (x_1 : Int) (a_7 : List T_limit_Row) (x_8 : Int) (x_9 : Int) : Option (Int) := roadref3_LimitAt.l0_k.go (.l0 x_1 a_7 x_8 x_9)
theorem roadref3_LimitAt.l0_eq (x_1 : Int) (a_7 : List T_limit_Row) (x_8 : Int) (x_9 : Int) : roadref3_LimitAt.l0 x_1 a_7 x_8 x_9 = if x_9 < x_8 then (Option.bind (gi a_7 x_9) fun y1 => if y1.Ref = x_1 then (some (x_9)) else ((roadref3_LimitAt.l0 x_1 a_7 x_8 (IntKind.wrap .i64 (x_9 + (1 : Int)))))) else (some ((-1 : Int))) := fixF_eq roadref3_LimitAt.l0_k.mono _
def roadref3_LimitAt.l0_k.I : (p : roadref3_LimitAt.l0_k.Pt) → (Int) → Prop
  | .l0 x_1 a_7 x_8 x_9, r => ∀ (W : Nat → Prop) (h0 m0 h m : Heap) (A_7 : Option Addr) (n_7 c_7 : Nat) (O : Hold W h0 m0 h m []) (ne_7 : n_7 = List.length a_7) (k_7 : List.length a_7 ≤ c_7) (r_7 : Rd 5 T_limit_Row.E m A_7 a_7), f62.l0 (roadref3_LimitAt.post W h0 m0 r) x_1 A_7 n_7 c_7 x_8 x_9 h
set_option maxRecDepth 100000 in
theorem roadref3_LimitAt.l0_k.step_l0 (go : (p : roadref3_LimitAt.l0_k.Pt) → Option (Int)) (ih : ∀ p r, go p = some r → roadref3_LimitAt.l0_k.I p r) (x_1 : Int) (a_7 : List T_limit_Row) (x_8 : Int) (x_9 : Int) (r : Int) (e : roadref3_LimitAt.l0_k.body go (.l0 x_1 a_7 x_8 x_9) = some r) : roadref3_LimitAt.l0_k.I (.l0 x_1 a_7 x_8 x_9) r := by
  unfold roadref3_LimitAt.l0_k.body at e
  intro W h0 m0 h m A_7 n_7 c_7 O ne_7 k_7 r_7
  subst ne_7
  refine f62.l0_in ?_
  unfold f62.l0T
  refine split_dec_e e (fun c17 e => ?_) (fun c17 e => ?_)
  · obtain ⟨y1, g2, e⟩ := bind_e e
    refine r_7.addr rfl g2 fun a3 cs4 ha5 hc6 he7 => ?_
    refine ⟨_, ldAn O.s hc6 rfl, ?_⟩
    refine O.new fun h8 x9 O10 => ?_
    refine ⟨_, rfl, (T_limit_Row.T.len _ _ _ he7), ?_⟩
    refine O10.stA 0 rfl (T_limit_Row.T.len _ _ _ he7) (T_limit_Row.T.flat _ _ _ he7) fun h12 O13 => ?_
    refine ⟨_, ld0 (Sub.refl _) (O13.all 0 rfl) (T_limit_Row.g0 he7), _, rfl, ?_⟩
    refine split_eq_e e (fun c16 e => ?_) (fun c16 e => ?_)
    · have O14 := O13.nm
      cases e
      exact ⟨_, O14.pick [], rfl⟩
    · have O15 := O13.nm
      exact (ih _ _ e) _ _ _ _ _ _ _ _ (O15.pick []).nm rfl k_7 r_7
  · cases e
    exact ⟨_, O.pick [], rfl⟩
theorem roadref3_LimitAt.l0_k.all {p : roadref3_LimitAt.l0_k.Pt} {r : (Int)} (e : roadref3_LimitAt.l0_k.go p = some r) : roadref3_LimitAt.l0_k.I p r := fixF_ind (β := fun _ => (Int)) roadref3_LimitAt.l0_k.mono (I := roadref3_LimitAt.l0_k.I) (fun go ih p r e => match p with
  | .l0 x_1 a_7 x_8 x_9 => roadref3_LimitAt.l0_k.step_l0 go ih x_1 a_7 x_8 x_9 r e
  ) e
theorem roadref3_LimitAt.l0.walk {W : Nat → Prop} {h0 m0 h m : Heap} {A_7 : Option Addr} {n_7 c_7 : Nat} {x_1 : Int} {a_7 : List T_limit_Row} {x_8 : Int} {x_9 : Int} (O : Hold W h0 m0 h m []) (ne_7 : n_7 = List.length a_7) (k_7 : List.length a_7 ≤ c_7) (r_7 : Rd 5 T_limit_Row.E m A_7 a_7) {r : Int} (e : roadref3_LimitAt.l0 x_1 a_7 x_8 x_9 = some r) : f62.l0 (roadref3_LimitAt.post W h0 m0 r) x_1 A_7 n_7 c_7 x_8 x_9 h := roadref3_LimitAt.l0_k.all (p := .l0 x_1 a_7 x_8 x_9) e W h0 m0 h m A_7 n_7 c_7 O ne_7 k_7 r_7

noncomputable def roadref3_LimitAt (a_0 : List T_limit_Row) (x_1 : Int) : Option (Int) :=
  (roadref3_LimitAt.l0 x_1 a_0 (((List.length a_0) : Nat) : Int) (0 : Int))
set_option maxRecDepth 100000 in
theorem roadref3_LimitAt.walk {W : Nat → Prop} {h m : Heap} {A_0 : Option Addr} {n_0 c_0 : Nat} {a_0 : List T_limit_Row} {x_1 : Int} (O : Hold W h m h m []) (ne_0 : n_0 = List.length a_0) (k_0 : List.length a_0 ≤ c_0) (r_0 : Rd 5 T_limit_Row.E m A_0 a_0) {r : Int} (e : roadref3_LimitAt a_0 x_1 = some r) : Run Try.prog 62 #[Value.slice A_0 n_0 c_0, Value.int .i64 x_1] h (roadref3_LimitAt.post W h m r) := by
  unfold roadref3_LimitAt at e
  subst ne_0
  refine f62.run ?_
  unfold f62.runT
  exact roadref3_LimitAt.l0.walk (O.pick []).nm rfl k_0 r_0 e

/-! ### 63 roadstead/roadref3.SameLimits -/
def roadref3_SameLimits.post (W : Nat → Prop) (h0 m0 : Heap) (r : Bool) (v : Value) (h : Heap) : Prop := ∃ m , Hold W h0 m0 h m [] ∧ v = .bool r
inductive roadref3_SameLimits.l0_k.Pt where
  | l0 (a_0 : List T_limit_Row) (a_1 : List T_limit_Row) (x_12 : Int) (x_13 : Int)
noncomputable def roadref3_SameLimits.l0_k.body (go : (p : roadref3_SameLimits.l0_k.Pt) → Option (Bool)) : (p : roadref3_SameLimits.l0_k.Pt) → Option (Bool)
  | .l0 a_0 a_1 x_12 x_13 => if x_13 < x_12 then (Option.bind (gi a_0 x_13) fun y1 => Option.bind (gi a_1 x_13) fun y8 => if ((y1.Ref == y8.Ref) && ((y1.Letters == y8.Letters) && ((y1.Cells == y8.Cells) && ((y1.MaxLetters == y8.MaxLetters) && ((y1.MaxCells == y8.MaxCells) && true))))) = true then ((go (.l0 a_0 a_1 x_12 (IntKind.wrap .i64 (x_13 + (1 : Int)))))) else (some (false))) else (some (true))
theorem roadref3_SameLimits.l0_k.mono : MonoF (β := fun _ => (Bool)) roadref3_SameLimits.l0_k.body := fun f g hfg p => match p with
  | .l0 a_0 a_1 x_12 x_13 => LeO.ite (LeO.bind (LeO.refl _) fun y1 => LeO.bind (LeO.refl _) fun y8 => LeO.ite ((hfg _)) (LeO.refl _)) (LeO.refl _)
noncomputable def roadref3_SameLimits.l0_k.go (p : roadref3_SameLimits.l0_k.Pt) : Option (Bool) := fixF (β := fun _ => (Bool)) roadref3_SameLimits.l0_k.body p
noncomputable def roadref3_SameLimits.l0 (a_0 : List T_limit_Row) (a_1 : List T_limit_Row) (x_12 : Int) (x_13 : Int) : Option (Bool) := roadref3_SameLimits.l0_k.go (.l0 a_0 a_1 x_12 x_13)
theorem roadref3_SameLimits.l0_eq (a_0 : List T_limit_Row) (a_1 : List T_limit_Row) (x_12 : Int) (x_13 : Int) : roadref3_SameLimits.l0 a_0 a_1 x_12 x_13 = if x_13 < x_12 then (Option.bind (gi a_0 x_13) fun y1 => Option.bind (gi a_1 x_13) fun y8 => if ((y1.Ref == y8.Ref) && ((y1.Letters == y8.Letters) && ((y1.Cells == y8.Cells) && ((y1.MaxLetters == y8.MaxLetters) && ((y1.MaxCells == y8.MaxCells) && true))))) = true then ((roadref3_SameLimits.l0 a_0 a_1 x_12 (IntKind.wrap .i64 (x_13 + (1 : Int))))) else (some (false))) else (some (true)) := fixF_eq roadref3_SameLimits.l0_k.mono _
def roadref3_SameLimits.l0_k.I : (p : roadref3_SameLimits.l0_k.Pt) → (Bool) → Prop
  | .l0 a_0 a_1 x_12 x_13, r => ∀ (W : Nat → Prop) (h0 m0 h m : Heap) (A_0 : Option Addr) (n_0 c_0 : Nat) (A_1 : Option Addr) (n_1 c_1 : Nat) (O : Hold W h0 m0 h m []) (ne_0 : n_0 = List.length a_0) (k_0 : List.length a_0 ≤ c_0) (r_0 : Rd 5 T_limit_Row.E m A_0 a_0) (ne_1 : n_1 = List.length a_1) (k_1 : List.length a_1 ≤ c_1) (r_1 : Rd 5 T_limit_Row.E m A_1 a_1), f63.l0 (roadref3_SameLimits.post W h0 m0 r) A_0 n_0 c_0 A_1 n_1 c_1 x_12 x_13 h
set_option maxRecDepth 100000 in
theorem roadref3_SameLimits.l0_k.step_l0 (go : (p : roadref3_SameLimits.l0_k.Pt) → Option (Bool)) (ih : ∀ p r, go p = some r → roadref3_SameLimits.l0_k.I p r) (a_0 : List T_limit_Row) (a_1 : List T_limit_Row) (x_12 : Int) (x_13 : Int) (r : Bool) (e : roadref3_SameLimits.l0_k.body go (.l0 a_0 a_1 x_12 x_13) = some r) : roadref3_SameLimits.l0_k.I (.l0 a_0 a_1 x_12 x_13) r := by
  unfold roadref3_SameLimits.l0_k.body at e
  intro W h0 m0 h m A_0 n_0 c_0 A_1 n_1 c_1 O ne_0 k_0 r_0 ne_1 k_1 r_1
  subst ne_0
  subst ne_1
  refine f63.l0_in ?_
  unfold f63.l0T
  refine split_dec_e e (fun c18 e => ?_) (fun c18 e => ?_)
  · obtain ⟨y1, g2, e⟩ := bind_e e
    refine r_0.addr rfl g2 fun a3 cs4 ha5 hc6 he7 => ?_
    obtain ⟨y8, g9, e⟩ := bind_e e
    refine r_1.addr rfl g9 fun a10 cs11 ha12 hc13 he14 => ?_
    refine ⟨_, ldAn O.s hc6 rfl, ?_⟩
    refine ⟨_, ldAn O.s hc13 rfl, ?_⟩
    obtain rfl : cs4 = [(Value.int .i64 y1.Ref), (Value.int .i64 y1.Letters), (Value.int .i64 y1.Cells), (Value.int .i64 y1.MaxLetters), (Value.int .i64 y1.MaxCells)] := he7
    obtain rfl : cs11 = [(Value.int .i64 y8.Ref), (Value.int .i64 y8.Letters), (Value.int .i64 y8.Cells), (Value.int .i64 y8.MaxLetters), (Value.int .i64 y8.MaxCells)] := he14
    refine gen_neq (b := ((y1.Ref == y8.Ref) && ((y1.Letters == y8.Letters) && ((y1.Cells == y8.Cells) && ((y1.MaxLetters == y8.MaxLetters) && ((y1.MaxCells == y8.MaxCells) && true)))))) (by kernel_rfl) ?_
    refine ⟨_, rfl, ?_⟩
    refine split_not ?_
    refine split_any_e e (fun c17 e => ?_) (fun c17 e => ?_)
    · exact (ih _ _ e) _ _ _ _ _ _ _ _ _ _ _ (O.pick []).nm rfl k_0 r_0 rfl k_1 r_1
    · cases e
      exact ⟨_, O.pick [], rfl⟩
  · cases e
    exact ⟨_, O.pick [], rfl⟩
theorem roadref3_SameLimits.l0_k.all {p : roadref3_SameLimits.l0_k.Pt} {r : (Bool)} (e : roadref3_SameLimits.l0_k.go p = some r) : roadref3_SameLimits.l0_k.I p r := fixF_ind (β := fun _ => (Bool)) roadref3_SameLimits.l0_k.mono (I := roadref3_SameLimits.l0_k.I) (fun go ih p r e => match p with
  | .l0 a_0 a_1 x_12 x_13 => roadref3_SameLimits.l0_k.step_l0 go ih a_0 a_1 x_12 x_13 r e
  ) e
theorem roadref3_SameLimits.l0.walk {W : Nat → Prop} {h0 m0 h m : Heap} {A_0 : Option Addr} {n_0 c_0 : Nat} {A_1 : Option Addr} {n_1 c_1 : Nat} {a_0 : List T_limit_Row} {a_1 : List T_limit_Row} {x_12 : Int} {x_13 : Int} (O : Hold W h0 m0 h m []) (ne_0 : n_0 = List.length a_0) (k_0 : List.length a_0 ≤ c_0) (r_0 : Rd 5 T_limit_Row.E m A_0 a_0) (ne_1 : n_1 = List.length a_1) (k_1 : List.length a_1 ≤ c_1) (r_1 : Rd 5 T_limit_Row.E m A_1 a_1) {r : Bool} (e : roadref3_SameLimits.l0 a_0 a_1 x_12 x_13 = some r) : f63.l0 (roadref3_SameLimits.post W h0 m0 r) A_0 n_0 c_0 A_1 n_1 c_1 x_12 x_13 h := roadref3_SameLimits.l0_k.all (p := .l0 a_0 a_1 x_12 x_13) e W h0 m0 h m A_0 n_0 c_0 A_1 n_1 c_1 O ne_0 k_0 r_0 ne_1 k_1 r_1

noncomputable def roadref3_SameLimits (a_0 : List T_limit_Row) (a_1 : List T_limit_Row) : Option (Bool) :=
  if (((List.length a_0) : Nat) : Int) = (((List.length a_1) : Nat) : Int) then ((roadref3_SameLimits.l0 a_0 a_1 (((List.length a_0) : Nat) : Int) (0 : Int))) else (some (false))
set_option maxRecDepth 100000 in
theorem roadref3_SameLimits.walk {W : Nat → Prop} {h m : Heap} {A_0 : Option Addr} {n_0 c_0 : Nat} {A_1 : Option Addr} {n_1 c_1 : Nat} {a_0 : List T_limit_Row} {a_1 : List T_limit_Row} (O : Hold W h m h m []) (ne_0 : n_0 = List.length a_0) (k_0 : List.length a_0 ≤ c_0) (r_0 : Rd 5 T_limit_Row.E m A_0 a_0) (ne_1 : n_1 = List.length a_1) (k_1 : List.length a_1 ≤ c_1) (r_1 : Rd 5 T_limit_Row.E m A_1 a_1) {r : Bool} (e : roadref3_SameLimits a_0 a_1 = some r) : Run Try.prog 63 #[Value.slice A_0 n_0 c_0, Value.slice A_1 n_1 c_1] h (roadref3_SameLimits.post W h m r) := by
  unfold roadref3_SameLimits at e
  subst ne_0
  subst ne_1
  refine f63.run ?_
  unfold f63.runT
  refine split_ne_e e (fun c1 e => ?_) (fun c1 e => ?_)
  · cases e
    exact ⟨_, O.pick [], rfl⟩
  · exact roadref3_SameLimits.l0.walk (O.pick []).nm rfl k_0 r_0 rfl k_1 r_1 e

/-! ### 64 roadstead/roadlaw3.limited -/
def roadlaw3_limited.post (W : Nat → Prop) (h0 m0 : Heap) (r : (List T_limit_Row)) (v : Value) (h : Heap) : Prop := ∃ m A0 n0 c0, Hold W h0 m0 h m [rR (aE T_limit_Row.T) A0 c0 r] ∧ v = .slice A0 n0 c0 ∧ n0 = List.length r
noncomputable def roadlaw3_limited (a_0 : List T_limit_Row) (x_1 : Int) (y_2 : T_limit_Row) : Option ((List T_limit_Row)) :=
  Option.bind (slices_Clone_114 a_0) fun y5 => Option.bind (gi y5 x_1) fun y17 => Option.bind (some (List.set y5 (Int.toNat x_1) y_2)) fun l26 => some (l26)
set_option maxRecDepth 100000 in
theorem roadlaw3_limited.walk {W : Nat → Prop} {h m : Heap} {A_0 : Option Addr} {n_0 c_0 : Nat} {cs_2 : List Value} {a_0 : List T_limit_Row} {x_1 : Int} {y_2 : T_limit_Row} (O : Hold W h m h m []) (ne_0 : n_0 = List.length a_0) (k_0 : List.length a_0 ≤ c_0) (r_0 : Rd 5 T_limit_Row.E m A_0 a_0) (e_2 : T_limit_Row.E m y_2 cs_2) {r : (List T_limit_Row)} (e : roadlaw3_limited a_0 x_1 y_2 = some r) : Run Try.prog 64 #[Value.slice A_0 n_0 c_0, Value.int .i64 x_1, Value.agg cs_2.toArray] h (roadlaw3_limited.post W h m r) := by
  unfold roadlaw3_limited at e
  subst ne_0
  refine f64.run ?_
  unfold f64.runT
  refine O.new fun h1 x2 O3 => ?_
  obtain ⟨y5, g6, e⟩ := bind_e e
  refine (slices_Clone_114.walk (Hold.start (W := No) O3.s) rfl k_0 r_0 g6).mono ?_
  rintro _ h7 ⟨m8, A11, n12, c13, Q9, rfl, ne14⟩
  have O16 := Hold.nm (O3.retC Q9 (vfs_cons (rR_vf (aE_vf (fun _ _ _ _ h => T_limit_Row.keep h))) vfs_nil))
  subst ne14
  refine ⟨_, _, _, rfl, ?_⟩
  refine ⟨_, ldAn (Sub.refl _) (O16.all 0 rfl) (T_limit_Row.T.len _ _ _ e_2), ?_⟩
  obtain ⟨y17, g18, e⟩ := bind_e e
  refine (O16.os 1 rfl).addr rfl g18 fun a19 cs20 ha21 hc22 he23 => ?_
  obtain ⟨l26, g27, e⟩ := bind_e e
  replace g27 := Option.some.inj g27
  refine ⟨_, rfl, (T_limit_Row.T.len _ _ _ e_2), ?_⟩
  refine O16.elstA 1 rfl g18 ha21 hc22 (y' := y_2) e_2 (T_limit_Row.T.flat _ _ _ e_2) g27 fun h24 O25 => ?_
  have O28 := O25.nm
  cases e
  exact ⟨_, _, _, _, O28.pick [1], rfl, (lset' g27)⟩

/-! ### 65 roadstead/roadlaw3.forked -/
def roadlaw3_forked.post (W : Nat → Prop) (h0 m0 : Heap) (r : (List T_limit_Row)) (v : Value) (h : Heap) : Prop := ∃ m A0 n0 c0, Hold W h0 m0 h m [rR (aE T_limit_Row.T) A0 c0 r] ∧ v = .slice A0 n0 c0 ∧ n0 = List.length r
inductive roadlaw3_forked.l0_k.Pt where
  | l0 (a_12 : List T_limit_Row) (x_13 : Int)
  | j0 (a_12 : List T_limit_Row) (x_13 : Int)
noncomputable def roadlaw3_forked.l0_k.body (go : (p : roadlaw3_forked.l0_k.Pt) → Option ((List T_limit_Row))) : (p : roadlaw3_forked.l0_k.Pt) → Option ((List T_limit_Row))
  | .l0 a_12 x_13 => if x_13 > (0 : Int) then (Option.bind (gi a_12 (IntKind.wrap .i64 (x_13 - (1 : Int)))) fun y1 => Option.bind (gi a_12 x_13) fun y8 => if y1.Ref > y8.Ref then ((go (.j0 a_12 x_13))) else (some (a_12))) else (some (a_12))
  | .j0 a_12 x_13 => Option.bind (gi a_12 x_13) fun y1 => Option.bind (gi a_12 (IntKind.wrap .i64 (x_13 - (1 : Int)))) fun y8 => Option.bind (gi a_12 (IntKind.wrap .i64 (x_13 - (1 : Int)))) fun y15 => Option.bind (some (List.set a_12 (Int.toNat (IntKind.wrap .i64 (x_13 - (1 : Int)))) y1)) fun l24 => Option.bind (gi l24 x_13) fun y26 => Option.bind (some (List.set l24 (Int.toNat x_13) y8)) fun l35 => (go (.l0 l35 (IntKind.wrap .i64 (x_13 - (1 : Int)))))
theorem roadlaw3_forked.l0_k.mono : MonoF (β := fun _ => ((List T_limit_Row))) roadlaw3_forked.l0_k.body := fun f g hfg p => match p with
  | .l0 a_12 x_13 => LeO.ite (LeO.bind (LeO.refl _) fun y1 => LeO.bind (LeO.refl _) fun y8 => LeO.ite ((hfg _)) (LeO.refl _)) (LeO.refl _)
  | .j0 a_12 x_13 => LeO.bind (LeO.refl _) fun y1 => LeO.bind (LeO.refl _) fun y8 => LeO.bind (LeO.refl _) fun y15 => LeO.bind (LeO.refl _) fun l24 => LeO.bind (LeO.refl _) fun y26 => LeO.bind (LeO.refl _) fun l35 => (hfg _)
noncomputable def roadlaw3_forked.l0_k.go (p : roadlaw3_forked.l0_k.Pt) : Option ((List T_limit_Row)) := fixF (β := fun _ => ((List T_limit_Row))) roadlaw3_forked.l0_k.body p
noncomputable def roadlaw3_forked.l0 (a_12 : List T_limit_Row) (x_13 : Int) : Option ((List T_limit_Row)) := roadlaw3_forked.l0_k.go (.l0 a_12 x_13)
noncomputable def roadlaw3_forked.j0 (a_12 : List T_limit_Row) (x_13 : Int) : Option ((List T_limit_Row)) := roadlaw3_forked.l0_k.go (.j0 a_12 x_13)
theorem roadlaw3_forked.l0_eq (a_12 : List T_limit_Row) (x_13 : Int) : roadlaw3_forked.l0 a_12 x_13 = if x_13 > (0 : Int) then (Option.bind (gi a_12 (IntKind.wrap .i64 (x_13 - (1 : Int)))) fun y1 => Option.bind (gi a_12 x_13) fun y8 => if y1.Ref > y8.Ref then ((roadlaw3_forked.j0 a_12 x_13)) else (some (a_12))) else (some (a_12)) := fixF_eq roadlaw3_forked.l0_k.mono _
theorem roadlaw3_forked.j0_eq (a_12 : List T_limit_Row) (x_13 : Int) : roadlaw3_forked.j0 a_12 x_13 = Option.bind (gi a_12 x_13) fun y1 => Option.bind (gi a_12 (IntKind.wrap .i64 (x_13 - (1 : Int)))) fun y8 => Option.bind (gi a_12 (IntKind.wrap .i64 (x_13 - (1 : Int)))) fun y15 => Option.bind (some (List.set a_12 (Int.toNat (IntKind.wrap .i64 (x_13 - (1 : Int)))) y1)) fun l24 => Option.bind (gi l24 x_13) fun y26 => Option.bind (some (List.set l24 (Int.toNat x_13) y8)) fun l35 => (roadlaw3_forked.l0 l35 (IntKind.wrap .i64 (x_13 - (1 : Int)))) := fixF_eq roadlaw3_forked.l0_k.mono _
def roadlaw3_forked.l0_k.I : (p : roadlaw3_forked.l0_k.Pt) → ((List T_limit_Row)) → Prop
  | .l0 a_12 x_13, r => ∀ (W : Nat → Prop) (h0 m0 h m : Heap) (A_12 : Option Addr) (n_12 c_12 : Nat) (O : Hold W h0 m0 h m [rR (aE T_limit_Row.T) A_12 c_12 a_12]) (ne_12 : n_12 = List.length a_12), f65.l0 (roadlaw3_forked.post W h0 m0 r) A_12 n_12 c_12 x_13 h
  | .j0 a_12 x_13, r => ∀ (W : Nat → Prop) (h0 m0 h m : Heap) (A_12 : Option Addr) (n_12 c_12 : Nat) (O : Hold W h0 m0 h m [rR (aE T_limit_Row.T) A_12 c_12 a_12]) (ne_12 : n_12 = List.length a_12), f65.j0 (roadlaw3_forked.post W h0 m0 r) A_12 n_12 c_12 x_13 h
set_option maxRecDepth 100000 in
theorem roadlaw3_forked.l0_k.step_l0 (go : (p : roadlaw3_forked.l0_k.Pt) → Option ((List T_limit_Row))) (ih : ∀ p r, go p = some r → roadlaw3_forked.l0_k.I p r) (a_12 : List T_limit_Row) (x_13 : Int) (r : (List T_limit_Row)) (e : roadlaw3_forked.l0_k.body go (.l0 a_12 x_13) = some r) : roadlaw3_forked.l0_k.I (.l0 a_12 x_13) r := by
  unfold roadlaw3_forked.l0_k.body at e
  intro W h0 m0 h m A_12 n_12 c_12 O ne_12
  subst ne_12
  refine f65.l0_in ?_
  unfold f65.l0T
  refine split_dec_e e (fun c16 e => ?_) (fun c16 e => ?_)
  · obtain ⟨y1, g2, e⟩ := bind_e e
    refine (O.os 0 rfl).addr rfl g2 fun a3 cs4 ha5 hc6 he7 => ?_
    obtain ⟨y8, g9, e⟩ := bind_e e
    refine (O.os 0 rfl).addr rfl g9 fun a10 cs11 ha12 hc13 he14 => ?_
    refine ⟨_, ld0 (Sub.refl _) hc6 (T_limit_Row.g0 he7), _, rfl, ?_⟩
    refine ⟨_, ld0 (Sub.refl _) hc13 (T_limit_Row.g0 he14), _, rfl, ?_⟩
    refine split_dec_e e (fun c15 e => ?_) (fun c15 e => ?_)
    · exact (ih _ _ e) _ _ _ _ _ _ _ _ (O.pick [0]).nm rfl
    · cases e
      exact ⟨_, _, _, _, O.pick [0], rfl, rfl⟩
  · cases e
    exact ⟨_, _, _, _, O.pick [0], rfl, rfl⟩
set_option maxRecDepth 100000 in
theorem roadlaw3_forked.l0_k.step_j0 (go : (p : roadlaw3_forked.l0_k.Pt) → Option ((List T_limit_Row))) (ih : ∀ p r, go p = some r → roadlaw3_forked.l0_k.I p r) (a_12 : List T_limit_Row) (x_13 : Int) (r : (List T_limit_Row)) (e : roadlaw3_forked.l0_k.body go (.j0 a_12 x_13) = some r) : roadlaw3_forked.l0_k.I (.j0 a_12 x_13) r := by
  unfold roadlaw3_forked.l0_k.body at e
  intro W h0 m0 h m A_12 n_12 c_12 O ne_12
  subst ne_12
  refine f65.j0_in ?_
  unfold f65.j0T
  obtain ⟨y1, g2, e⟩ := bind_e e
  refine (O.os 0 rfl).addr rfl g2 fun a3 cs4 ha5 hc6 he7 => ?_
  obtain ⟨y8, g9, e⟩ := bind_e e
  refine (O.os 0 rfl).addr rfl g9 fun a10 cs11 ha12 hc13 he14 => ?_
  refine ⟨_, ldAn (Sub.refl _) hc6 rfl, ?_⟩
  refine ⟨_, ldAn (Sub.refl _) hc13 rfl, ?_⟩
  obtain ⟨y15, g16, e⟩ := bind_e e
  refine (O.os 0 rfl).addr rfl g16 fun a17 cs18 ha19 hc20 he21 => ?_
  obtain ⟨l24, g25, e⟩ := bind_e e
  replace g25 := Option.some.inj g25
  refine ⟨_, rfl, (T_limit_Row.T.len _ _ _ he7), ?_⟩
  refine O.elstA 0 rfl g16 ha19 hc20 (y' := y1) he7 (T_limit_Row.T.flat _ _ _ he7) g25 fun h22 O23 => ?_
  obtain ⟨y26, g27, e⟩ := bind_e e
  refine (O23.os 0 rfl).addr (lset' g25) g27 fun a28 cs29 ha30 hc31 he32 => ?_
  obtain ⟨l35, g36, e⟩ := bind_e e
  replace g36 := Option.some.inj g36
  refine ⟨_, rfl, (T_limit_Row.T.len _ _ _ he14), ?_⟩
  refine O23.elstA 0 rfl g27 ha30 hc31 (y' := y8) he14 (T_limit_Row.T.flat _ _ _ he14) g36 fun h33 O34 => ?_
  have O37 := O34.nm
  exact (ih _ _ e) _ _ _ _ _ _ _ _ (O37.pick [0]).nm ((lset' g25).trans (lset' g36))
theorem roadlaw3_forked.l0_k.all {p : roadlaw3_forked.l0_k.Pt} {r : ((List T_limit_Row))} (e : roadlaw3_forked.l0_k.go p = some r) : roadlaw3_forked.l0_k.I p r := fixF_ind (β := fun _ => ((List T_limit_Row))) roadlaw3_forked.l0_k.mono (I := roadlaw3_forked.l0_k.I) (fun go ih p r e => match p with
  | .l0 a_12 x_13 => roadlaw3_forked.l0_k.step_l0 go ih a_12 x_13 r e
  | .j0 a_12 x_13 => roadlaw3_forked.l0_k.step_j0 go ih a_12 x_13 r e
  ) e
theorem roadlaw3_forked.l0.walk {W : Nat → Prop} {h0 m0 h m : Heap} {A_12 : Option Addr} {n_12 c_12 : Nat} {a_12 : List T_limit_Row} {x_13 : Int} (O : Hold W h0 m0 h m [rR (aE T_limit_Row.T) A_12 c_12 a_12]) (ne_12 : n_12 = List.length a_12) {r : (List T_limit_Row)} (e : roadlaw3_forked.l0 a_12 x_13 = some r) : f65.l0 (roadlaw3_forked.post W h0 m0 r) A_12 n_12 c_12 x_13 h := roadlaw3_forked.l0_k.all (p := .l0 a_12 x_13) e W h0 m0 h m A_12 n_12 c_12 O ne_12
theorem roadlaw3_forked.j0.walk {W : Nat → Prop} {h0 m0 h m : Heap} {A_12 : Option Addr} {n_12 c_12 : Nat} {a_12 : List T_limit_Row} {x_13 : Int} (O : Hold W h0 m0 h m [rR (aE T_limit_Row.T) A_12 c_12 a_12]) (ne_12 : n_12 = List.length a_12) {r : (List T_limit_Row)} (e : roadlaw3_forked.j0 a_12 x_13 = some r) : f65.j0 (roadlaw3_forked.post W h0 m0 r) A_12 n_12 c_12 x_13 h := roadlaw3_forked.l0_k.all (p := .j0 a_12 x_13) e W h0 m0 h m A_12 n_12 c_12 O ne_12

noncomputable def roadlaw3_forked (a_0 : List T_limit_Row) (x_1 : Int) (x_2 : Int) (x_3 : Int) (x_4 : Int) : Option ((List T_limit_Row)) :=
  Option.bind (gi a_0 x_1) fun y1 => Option.bind (roadlaw3_limited a_0 x_1 ({ ({ y1 with MaxLetters := (IntKind.wrap .i64 (y1.MaxLetters - x_3)) }) with MaxCells := (IntKind.wrap .i64 (y1.MaxCells - x_4)) })) fun y22 => Option.bind (ap 40 y22 ([(T_limit_Row.mk x_2 (0 : Int) (0 : Int) x_3 x_4)] : List T_limit_Row)) fun l38 => (roadlaw3_forked.l0 l38 (IntKind.wrap .i64 ((((List.length l38) : Nat) : Int) - (1 : Int))))
set_option maxRecDepth 100000 in
theorem roadlaw3_forked.walk {W : Nat → Prop} {h m : Heap} {A_0 : Option Addr} {n_0 c_0 : Nat} {a_0 : List T_limit_Row} {x_1 : Int} {x_2 : Int} {x_3 : Int} {x_4 : Int} (O : Hold W h m h m []) (ne_0 : n_0 = List.length a_0) (k_0 : List.length a_0 ≤ c_0) (r_0 : Rd 5 T_limit_Row.E m A_0 a_0) {r : (List T_limit_Row)} (e : roadlaw3_forked a_0 x_1 x_2 x_3 x_4 = some r) : Run Try.prog 65 #[Value.slice A_0 n_0 c_0, Value.int .i64 x_1, Value.int .i64 x_2, Value.int .i64 x_3, Value.int .i64 x_4] h (roadlaw3_forked.post W h m r) := by
  unfold roadlaw3_forked at e
  subst ne_0
  refine f65.run ?_
  unfold f65.runT
  obtain ⟨y1, g2, e⟩ := bind_e e
  refine r_0.addr rfl g2 fun a3 cs4 ha5 hc6 he7 => ?_
  refine ⟨_, ldAn O.s hc6 rfl, ?_⟩
  refine O.new fun h8 x9 O10 => ?_
  refine ⟨_, rfl, (T_limit_Row.T.len _ _ _ he7), ?_⟩
  refine O10.stA 0 rfl (T_limit_Row.T.len _ _ _ he7) (T_limit_Row.T.flat _ _ _ he7) fun h12 O13 => ?_
  refine ⟨_, ldk (k := 3) (Sub.refl _) (O13.all 0 rfl) (T_limit_Row.g3 he7), _, rfl, ?_⟩
  refine ⟨_, ldk (k := 4) (Sub.refl _) (O13.all 0 rfl) (T_limit_Row.g4 he7), _, rfl, ?_⟩
  refine O13.stE 0 rfl 3 (lt_len (T_limit_Row.T.len _ _ _ he7) (by decide)) trivial (T_limit_Row.s3 he7 (IntKind.wrap .i64 (y1.MaxLetters - x_3))) fun h14 cs16 e17 O15 => ?_
  refine O15.stE 0 rfl 4 (lt_len (T_limit_Row.T.len _ _ _ e17) (by decide)) trivial (T_limit_Row.s4 e17 (IntKind.wrap .i64 (y1.MaxCells - x_4))) fun h18 cs20 e21 O19 => ?_
  refine ⟨_, ldAn (Sub.refl _) (O19.all 0 rfl) (T_limit_Row.T.len _ _ _ e21), ?_⟩
  obtain ⟨y22, g23, e⟩ := bind_e e
  refine (roadlaw3_limited.walk (Hold.start (W := No) O19.s) rfl k_0 r_0 e21 g23).mono ?_
  rintro _ h24 ⟨m25, A28, n29, c30, Q26, rfl, ne31⟩
  have O33 := Hold.nm (O19.retC Q26 (vfs_cons (rR_vf (aE_vf (fun _ _ _ _ h => T_limit_Row.keep h))) vfs_nil))
  subst ne31
  refine ⟨_, _, _, rfl, ?_⟩
  refine ⟨[(Value.int .i64 x_2), (Value.int .i64 (0 : Int)), (Value.int .i64 (0 : Int)), (Value.int .i64 x_3), (Value.int .i64 x_4)], rfl, rfl, ?_⟩
  refine O33.new fun h34 x35 O36 => ?_
  obtain ⟨l38, g39, e⟩ := bind_e e
  have O46 := O36.rowE (l := ([(T_limit_Row.mk x_2 (0 : Int) (0 : Int) x_3 x_4)] : List T_limit_Row)) 2 rfl T_limit_Row.T (show CsE _ _ _ _ _ from (CsE.cons (c1 := [(Value.int .i64 x_2), (Value.int .i64 (0 : Int)), (Value.int .i64 (0 : Int)), (Value.int .i64 x_3), (Value.int .i64 x_4)]) (show T_limit_Row.E _ (T_limit_Row.mk x_2 (0 : Int) (0 : Int) x_3 x_4) [(Value.int .i64 x_2), (Value.int .i64 (0 : Int)), (Value.int .i64 (0 : Int)), (Value.int .i64 x_3), (Value.int .i64 x_4)] from rfl) rfl CsE.nil)) rfl
  refine O46.app 1 rfl rfl rfl ((O46.os 2 rfl).srcE rfl) (by decide) g39 fun A40 c41 h42 O43 => ?_
  refine ⟨_, _, _, rfl, ?_⟩
  have O47 := O43.nm
  exact roadlaw3_forked.l0.walk (O47.pick [1]).nm rfl e

/-! ### 66 roadstead/roadlaw3.joined -/
def roadlaw3_joined.post (W : Nat → Prop) (h0 m0 : Heap) (r : (List T_limit_Row)) (v : Value) (h : Heap) : Prop := ∃ m A0 n0 c0, Hold W h0 m0 h m [rR (aE T_limit_Row.T) A0 c0 r] ∧ v = .slice A0 n0 c0 ∧ n0 = List.length r
noncomputable def roadlaw3_joined (a_0 : List T_limit_Row) (x_1 : Int) (x_2 : Int) : Option ((List T_limit_Row)) :=
  Option.bind (gi a_0 x_2) fun y1 => Option.bind (gi a_0 x_1) fun y14 => Option.bind (gi a_0 x_1) fun y21 => Option.bind (roadlaw3_limited a_0 x_2 ({ ({ y1 with MaxLetters := (IntKind.wrap .i64 (y1.MaxLetters + y14.MaxLetters)) }) with MaxCells := (IntKind.wrap .i64 (y1.MaxCells + y21.MaxCells)) })) fun y36 => Option.bind (slices_Delete_116 y36 x_1 (IntKind.wrap .i64 (x_1 + (1 : Int)))) fun y48 => some (y48)
set_option maxHeartbeats 4000000 in
set_option maxRecDepth 100000 in
theorem roadlaw3_joined.walk {W : Nat → Prop} {h m : Heap} {A_0 : Option Addr} {n_0 c_0 : Nat} {a_0 : List T_limit_Row} {x_1 : Int} {x_2 : Int} (O : Hold W h m h m []) (ne_0 : n_0 = List.length a_0) (k_0 : List.length a_0 ≤ c_0) (r_0 : Rd 5 T_limit_Row.E m A_0 a_0) {r : (List T_limit_Row)} (e : roadlaw3_joined a_0 x_1 x_2 = some r) : Run Try.prog 66 #[Value.slice A_0 n_0 c_0, Value.int .i64 x_1, Value.int .i64 x_2] h (roadlaw3_joined.post W h m r) := by
  unfold roadlaw3_joined at e
  subst ne_0
  refine f66.run ?_
  unfold f66.runT
  obtain ⟨y1, g2, e⟩ := bind_e e
  refine r_0.addr rfl g2 fun a3 cs4 ha5 hc6 he7 => ?_
  refine ⟨_, ldAn O.s hc6 rfl, ?_⟩
  refine O.new fun h8 x9 O10 => ?_
  refine ⟨_, rfl, (T_limit_Row.T.len _ _ _ he7), ?_⟩
  refine O10.stA 0 rfl (T_limit_Row.T.len _ _ _ he7) (T_limit_Row.T.flat _ _ _ he7) fun h12 O13 => ?_
  obtain ⟨y14, g15, e⟩ := bind_e e
  obtain ⟨y21, g22, e⟩ := bind_e e
  refine r_0.addr rfl g15 fun a66 cs67 ha68 hc69 he70 => ?_
  refine r_0.addr rfl g22 fun a73 cs74 ha75 hc76 he77 => ?_
  refine ⟨_, ldk (k := 3) (Sub.refl _) (O13.all 0 rfl) (T_limit_Row.g3 he7), _, rfl, ?_⟩
  refine ⟨_, ldk (k := 3) O13.s hc69 (T_limit_Row.g3 he70), _, rfl, ?_⟩
  refine ⟨_, ldk (k := 4) (Sub.refl _) (O13.all 0 rfl) (T_limit_Row.g4 he7), _, rfl, ?_⟩
  refine ⟨?_, ?_⟩
  · refine ⟨_, ldk (k := 4) O13.s hc76 (T_limit_Row.g4 he77), _, rfl, ?_⟩
    refine ⟨Ext.refl _, ?_⟩
    refine O13.stE 0 rfl 3 (lt_len (T_limit_Row.T.len _ _ _ he7) (by decide)) trivial (T_limit_Row.s3 he7 (IntKind.wrap .i64 (y1.MaxLetters + y14.MaxLetters))) fun h78 cs80 e81 O79 => ?_
    refine O79.stE 0 rfl 4 (lt_len (T_limit_Row.T.len _ _ _ e81) (by decide)) trivial (T_limit_Row.s4 e81 (IntKind.wrap .i64 (y1.MaxCells + y21.MaxCells))) fun h82 cs84 e85 O83 => ?_
    refine ⟨_, ldAn (Sub.refl _) (O83.all 0 rfl) (T_limit_Row.T.len _ _ _ e85), ?_⟩
    obtain ⟨y86, g87, e⟩ := bind_e e
    refine (roadlaw3_limited.walk (Hold.start (W := No) O83.s) rfl k_0 r_0 e85 g87).mono ?_
    rintro _ h88 ⟨m89, A92, n93, c94, Q90, rfl, ne95⟩
    have O97 := Hold.nm (O83.retC Q90 (vfs_cons (rR_vf (aE_vf (fun _ _ _ _ h => T_limit_Row.keep h))) vfs_nil))
    subst ne95
    refine ⟨_, _, _, rfl, ?_⟩
    obtain ⟨y98, g99, e⟩ := bind_e e
    obtain ⟨W104, P105, B106, C107⟩ := O97.callC [1]
    refine (slices_Delete_116.walk P105 rfl g99).mono ?_
    rintro _ h100 ⟨m101, A108, n109, c110, Q102, rfl, ne111⟩
    have O113 := Hold.nm (C107 Q102 (vfs_cons (rR_vf (aE_vf (fun _ _ _ _ h => T_limit_Row.keep h))) vfs_nil))
    subst ne111
    refine ⟨_, _, _, rfl, ?_⟩
    cases e
    exact ⟨_, _, _, _, O113.pick [2], rfl, rfl⟩
  · refine O13.stE 0 rfl 3 (lt_len (T_limit_Row.T.len _ _ _ he7) (by decide)) trivial (T_limit_Row.s3 he7 (IntKind.wrap .i64 (y1.MaxLetters + y14.MaxLetters))) fun h114 cs116 e117 O115 => ?_
    refine ⟨_, ldk (k := 4) O115.s hc76 (T_limit_Row.g4 he77), _, rfl, ?_⟩
    refine ⟨Ext.refl _, ?_⟩
    refine O115.stE 0 rfl 4 (lt_len (T_limit_Row.T.len _ _ _ e117) (by decide)) trivial (T_limit_Row.s4 e117 (IntKind.wrap .i64 (y1.MaxCells + y21.MaxCells))) fun h118 cs120 e121 O119 => ?_
    refine ⟨_, ldAn (Sub.refl _) (O119.all 0 rfl) (T_limit_Row.T.len _ _ _ e121), ?_⟩
    obtain ⟨y122, g123, e⟩ := bind_e e
    refine (roadlaw3_limited.walk (Hold.start (W := No) O119.s) rfl k_0 r_0 e121 g123).mono ?_
    rintro _ h124 ⟨m125, A128, n129, c130, Q126, rfl, ne131⟩
    have O133 := Hold.nm (O119.retC Q126 (vfs_cons (rR_vf (aE_vf (fun _ _ _ _ h => T_limit_Row.keep h))) vfs_nil))
    subst ne131
    refine ⟨_, _, _, rfl, ?_⟩
    obtain ⟨y134, g135, e⟩ := bind_e e
    obtain ⟨W140, P141, B142, C143⟩ := O133.callC [1]
    refine (slices_Delete_116.walk P141 rfl g135).mono ?_
    rintro _ h136 ⟨m137, A144, n145, c146, Q138, rfl, ne147⟩
    have O149 := Hold.nm (C143 Q138 (vfs_cons (rR_vf (aE_vf (fun _ _ _ _ h => T_limit_Row.keep h))) vfs_nil))
    subst ne147
    refine ⟨_, _, _, rfl, ?_⟩
    cases e
    exact ⟨_, _, _, _, O149.pick [2], rfl, rfl⟩

/-! ### 7 roadstead/roadlaw3.LimitTells -/
def roadlaw3_LimitTells.post (W : Nat → Prop) (h0 m0 : Heap) (r : Bool) (v : Value) (h : Heap) : Prop := ∃ m , Hold W h0 m0 h m [] ∧ v = .bool r
noncomputable def roadlaw3_LimitTells.j7 (a_0 : List T_limit_Row) (x_1 : Int) (x_2 : Int) (x_3 : Int) (x_4 : Int) (a_15 : List T_limit_Row) (a_17 : List T_limit_Row) (a_19 : List T_limit_Row) (a_21 : List T_limit_Row) (x_24 : Int) (x_25 : Int) (y_26 : T_limit_Row) (x_28 : Int) (x_29 : Int) (x_30 : Int) (x_31 : Int) : Option (Bool) :=
  if x_28 = (0 : Int) then (Option.bind (roadlaw3_limited a_0 x_24 (T_limit_Row.mk x_1 (IntKind.wrap .i64 (y_26.Letters + x_3)) (IntKind.wrap .i64 (y_26.Cells + x_4)) y_26.MaxLetters y_26.MaxCells)) fun y207 => Option.bind (roadref3_SameLimits a_15 y207) fun y219 => if y219 = true then (if x_29 = (0 : Int) then (Option.bind (roadlaw3_limited a_0 x_24 (T_limit_Row.mk x_1 (IntKind.wrap .i64 (y_26.Letters - x_3)) (IntKind.wrap .i64 (y_26.Cells - x_4)) y_26.MaxLetters y_26.MaxCells)) fun y323 => Option.bind (roadref3_SameLimits a_17 y323) fun y335 => if y335 = true then (if x_30 = (0 : Int) then (Option.bind (roadlaw3_forked a_0 x_24 x_2 x_3 x_4) fun y380 => Option.bind (roadref3_SameLimits a_19 y380) fun y392 => if y392 = true then (if x_31 = (0 : Int) then (Option.bind (roadlaw3_joined a_0 x_24 x_25) fun y408 => Option.bind (roadref3_SameLimits a_21 y408) fun y420 => some (y420)) else (some (true))) else (some (false))) else (if x_31 = (0 : Int) then (Option.bind (roadlaw3_joined a_0 x_24 x_25) fun y351 => Option.bind (roadref3_SameLimits a_21 y351) fun y363 => some (y363)) else (some (true)))) else (some (false))) else (if x_30 = (0 : Int) then (Option.bind (roadlaw3_forked a_0 x_24 x_2 x_3 x_4) fun y264 => Option.bind (roadref3_SameLimits a_19 y264) fun y276 => if y276 = true then (if x_31 = (0 : Int) then (Option.bind (roadlaw3_joined a_0 x_24 x_25) fun y292 => Option.bind (roadref3_SameLimits a_21 y292) fun y304 => some (y304)) else (some (true))) else (some (false))) else (if x_31 = (0 : Int) then (Option.bind (roadlaw3_joined a_0 x_24 x_25) fun y235 => Option.bind (roadref3_SameLimits a_21 y235) fun y247 => some (y247)) else (some (true))))) else (some (false))) else (if x_29 = (0 : Int) then (Option.bind (roadlaw3_limited a_0 x_24 (T_limit_Row.mk x_1 (IntKind.wrap .i64 (y_26.Letters - x_3)) (IntKind.wrap .i64 (y_26.Cells - x_4)) y_26.MaxLetters y_26.MaxCells)) fun y89 => Option.bind (roadref3_SameLimits a_17 y89) fun y101 => if y101 = true then (if x_30 = (0 : Int) then (Option.bind (roadlaw3_forked a_0 x_24 x_2 x_3 x_4) fun y146 => Option.bind (roadref3_SameLimits a_19 y146) fun y158 => if y158 = true then (if x_31 = (0 : Int) then (Option.bind (roadlaw3_joined a_0 x_24 x_25) fun y174 => Option.bind (roadref3_SameLimits a_21 y174) fun y186 => some (y186)) else (some (true))) else (some (false))) else (if x_31 = (0 : Int) then (Option.bind (roadlaw3_joined a_0 x_24 x_25) fun y117 => Option.bind (roadref3_SameLimits a_21 y117) fun y129 => some (y129)) else (some (true)))) else (some (false))) else (if x_30 = (0 : Int) then (Option.bind (roadlaw3_forked a_0 x_24 x_2 x_3 x_4) fun y30 => Option.bind (roadref3_SameLimits a_19 y30) fun y42 => if y42 = true then (if x_31 = (0 : Int) then (Option.bind (roadlaw3_joined a_0 x_24 x_25) fun y58 => Option.bind (roadref3_SameLimits a_21 y58) fun y70 => some (y70)) else (some (true))) else (some (false))) else (if x_31 = (0 : Int) then (Option.bind (roadlaw3_joined a_0 x_24 x_25) fun y1 => Option.bind (roadref3_SameLimits a_21 y1) fun y13 => some (y13)) else (some (true)))))
set_option maxHeartbeats 4000000 in
set_option maxRecDepth 100000 in
theorem roadlaw3_LimitTells.j7.walk {W : Nat → Prop} {h0 m0 h m : Heap} {A_0 : Option Addr} {n_0 c_0 : Nat} {A_15 : Option Addr} {n_15 c_15 : Nat} {A_17 : Option Addr} {n_17 c_17 : Nat} {A_19 : Option Addr} {n_19 c_19 : Nat} {A_21 : Option Addr} {n_21 c_21 : Nat} {bk_26 : Nat} {cs_26 : List Value} {a_0 : List T_limit_Row} {x_1 : Int} {x_2 : Int} {x_3 : Int} {x_4 : Int} {a_15 : List T_limit_Row} {a_17 : List T_limit_Row} {a_19 : List T_limit_Row} {a_21 : List T_limit_Row} {x_24 : Int} {x_25 : Int} {y_26 : T_limit_Row} {x_28 : Int} {x_29 : Int} {x_30 : Int} {x_31 : Int} (O : Hold W h0 m0 h m [rR (aE T_limit_Row.T) A_15 c_15 a_15, rR (aE T_limit_Row.T) A_17 c_17 a_17, rR (aE T_limit_Row.T) A_19 c_19 a_19, rR (aE T_limit_Row.T) A_21 c_21 a_21, rV bk_26 138 cs_26]) (ne_0 : n_0 = List.length a_0) (k_0 : List.length a_0 ≤ c_0) (r_0 : Rd 5 T_limit_Row.E m A_0 a_0) (ne_15 : n_15 = List.length a_15) (ne_17 : n_17 = List.length a_17) (ne_19 : n_19 = List.length a_19) (ne_21 : n_21 = List.length a_21) (e_26 : T_limit_Row.E m y_26 cs_26) {r : Bool} (e : roadlaw3_LimitTells.j7 a_0 x_1 x_2 x_3 x_4 a_15 a_17 a_19 a_21 x_24 x_25 y_26 x_28 x_29 x_30 x_31 = some r) : f7.j7 (roadlaw3_LimitTells.post W h0 m0 r) A_0 n_0 c_0 x_1 x_2 x_3 x_4 A_15 n_15 c_15 A_17 n_17 c_17 A_19 n_19 c_19 A_21 n_21 c_21 x_24 x_25 (⟨bk_26, 0, none⟩ : Addr) x_28 x_29 x_30 x_31 h := by
  unfold roadlaw3_LimitTells.j7 at e
  subst ne_0
  subst ne_15
  subst ne_17
  subst ne_19
  subst ne_21
  refine f7.j7_in ?_
  unfold f7.j7T
  refine split_ne_e e (fun c442 e => ?_) (fun c442 e => ?_)
  · refine split_ne_e e (fun c206 e => ?_) (fun c206 e => ?_)
    · refine split_ne_e e (fun c88 e => ?_) (fun c88 e => ?_)
      · refine split_ne_e e (fun c29 e => ?_) (fun c29 e => ?_)
        · cases e
          exact ⟨_, O.pick [], rfl⟩
        · obtain ⟨y1, g2, e⟩ := bind_e e
          refine (roadlaw3_joined.walk (Hold.start (W := No) O.s) rfl k_0 r_0 g2).mono ?_
          rintro _ h3 ⟨m4, A7, n8, c9, Q5, rfl, ne10⟩
          have O12 := Hold.nm (O.retC Q5 (vfs_cons (rR_vf (aE_vf (fun _ _ _ _ h => T_limit_Row.keep h))) vfs_nil))
          subst ne10
          refine ⟨_, _, _, rfl, ?_⟩
          obtain ⟨y13, g14, e⟩ := bind_e e
          obtain ⟨m19, u20, s27, ⟨⟨r23, k24⟩, ⟨r25, k26⟩, _⟩, B21, C22⟩ := O12.lend0 [3, 5]
          replace r23 : Rd 5 T_limit_Row.E m19 A_21 a_21 := r23
          replace k24 : List.length a_21 ≤ c_21 := k24
          replace r25 : Rd 5 T_limit_Row.E m19 A7 y1 := r25
          replace k26 : List.length y1 ≤ c9 := k26
          refine (roadref3_SameLimits.walk (Hold.start (W := No) s27) rfl k24 r23 rfl k26 r25 g14).mono ?_
          rintro _ h15 ⟨m16, Q17, rfl⟩
          have O28 := Hold.nm (C22 Q17 vfs_nil)
          refine ⟨_, rfl, ?_⟩
          cases e
          exact ⟨_, O28.pick [], rfl⟩
      · obtain ⟨y30, g31, e⟩ := bind_e e
        refine (roadlaw3_forked.walk (Hold.start (W := No) O.s) rfl k_0 r_0 g31).mono ?_
        rintro _ h32 ⟨m33, A36, n37, c38, Q34, rfl, ne39⟩
        have O41 := Hold.nm (O.retC Q34 (vfs_cons (rR_vf (aE_vf (fun _ _ _ _ h => T_limit_Row.keep h))) vfs_nil))
        subst ne39
        refine ⟨_, _, _, rfl, ?_⟩
        obtain ⟨y42, g43, e⟩ := bind_e e
        obtain ⟨m48, u49, s56, ⟨⟨r52, k53⟩, ⟨r54, k55⟩, _⟩, B50, C51⟩ := O41.lend0 [2, 5]
        replace r52 : Rd 5 T_limit_Row.E m48 A_19 a_19 := r52
        replace k53 : List.length a_19 ≤ c_19 := k53
        replace r54 : Rd 5 T_limit_Row.E m48 A36 y30 := r54
        replace k55 : List.length y30 ≤ c38 := k55
        refine (roadref3_SameLimits.walk (Hold.start (W := No) s56) rfl k53 r52 rfl k55 r54 g43).mono ?_
        rintro _ h44 ⟨m45, Q46, rfl⟩
        have O57 := Hold.nm (C51 Q46 vfs_nil)
        refine ⟨_, rfl, ?_⟩
        refine split_any_e e (fun c87 e => ?_) (fun c87 e => ?_)
        · refine split_ne_e e (fun c86 e => ?_) (fun c86 e => ?_)
          · cases e
            exact ⟨_, O57.pick [], rfl⟩
          · obtain ⟨y58, g59, e⟩ := bind_e e
            refine (roadlaw3_joined.walk (Hold.start (W := No) O57.s) rfl k_0 r_0 g59).mono ?_
            rintro _ h60 ⟨m61, A64, n65, c66, Q62, rfl, ne67⟩
            have O69 := Hold.nm (O57.retC Q62 (vfs_cons (rR_vf (aE_vf (fun _ _ _ _ h => T_limit_Row.keep h))) vfs_nil))
            subst ne67
            refine ⟨_, _, _, rfl, ?_⟩
            obtain ⟨y70, g71, e⟩ := bind_e e
            obtain ⟨m76, u77, s84, ⟨⟨r80, k81⟩, ⟨r82, k83⟩, _⟩, B78, C79⟩ := O69.lend0 [3, 6]
            replace r80 : Rd 5 T_limit_Row.E m76 A_21 a_21 := r80
            replace k81 : List.length a_21 ≤ c_21 := k81
            replace r82 : Rd 5 T_limit_Row.E m76 A64 y58 := r82
            replace k83 : List.length y58 ≤ c66 := k83
            refine (roadref3_SameLimits.walk (Hold.start (W := No) s84) rfl k81 r80 rfl k83 r82 g71).mono ?_
            rintro _ h72 ⟨m73, Q74, rfl⟩
            have O85 := Hold.nm (C79 Q74 vfs_nil)
            refine ⟨_, rfl, ?_⟩
            cases e
            exact ⟨_, O85.pick [], rfl⟩
        · cases e
          exact ⟨_, O57.pick [], rfl⟩
    · refine ⟨_, ldk (k := 1) (Sub.refl _) (O.all 4 rfl) (T_limit_Row.g1 e_26), _, rfl, ?_⟩
      refine ⟨_, ldk (k := 2) (Sub.refl _) (O.all 4 rfl) (T_limit_Row.g2 e_26), _, rfl, ?_⟩
      refine ⟨_, ldk (k := 3) (Sub.refl _) (O.all 4 rfl) (T_limit_Row.g3 e_26), _, rfl, ?_⟩
      refine ⟨_, ldk (k := 4) (Sub.refl _) (O.all 4 rfl) (T_limit_Row.g4 e_26), _, rfl, ?_⟩
      obtain ⟨y89, g90, e⟩ := bind_e e
      refine (roadlaw3_limited.walk (Hold.start (W := No) O.s) rfl k_0 r_0 (show T_limit_Row.E _ (T_limit_Row.mk x_1 (IntKind.wrap .i64 (y_26.Letters - x_3)) (IntKind.wrap .i64 (y_26.Cells - x_4)) y_26.MaxLetters y_26.MaxCells) [(Value.int .i64 x_1), (Value.int .i64 (IntKind.wrap .i64 (y_26.Letters - x_3))), (Value.int .i64 (IntKind.wrap .i64 (y_26.Cells - x_4))), (Value.int .i64 y_26.MaxLetters), (Value.int .i64 y_26.MaxCells)] from rfl) g90).mono ?_
      rintro _ h91 ⟨m92, A95, n96, c97, Q93, rfl, ne98⟩
      have O100 := Hold.nm (O.retC Q93 (vfs_cons (rR_vf (aE_vf (fun _ _ _ _ h => T_limit_Row.keep h))) vfs_nil))
      subst ne98
      refine ⟨_, _, _, rfl, ?_⟩
      obtain ⟨y101, g102, e⟩ := bind_e e
      obtain ⟨m107, u108, s115, ⟨⟨r111, k112⟩, ⟨r113, k114⟩, _⟩, B109, C110⟩ := O100.lend0 [1, 5]
      replace r111 : Rd 5 T_limit_Row.E m107 A_17 a_17 := r111
      replace k112 : List.length a_17 ≤ c_17 := k112
      replace r113 : Rd 5 T_limit_Row.E m107 A95 y89 := r113
      replace k114 : List.length y89 ≤ c97 := k114
      refine (roadref3_SameLimits.walk (Hold.start (W := No) s115) rfl k112 r111 rfl k114 r113 g102).mono ?_
      rintro _ h103 ⟨m104, Q105, rfl⟩
      have O116 := Hold.nm (C110 Q105 vfs_nil)
      refine ⟨_, rfl, ?_⟩
      refine split_any_e e (fun c205 e => ?_) (fun c205 e => ?_)
      · refine split_ne_e e (fun c204 e => ?_) (fun c204 e => ?_)
        · refine split_ne_e e (fun c145 e => ?_) (fun c145 e => ?_)
          · cases e
            exact ⟨_, O116.pick [], rfl⟩
          · obtain ⟨y117, g118, e⟩ := bind_e e
            refine (roadlaw3_joined.walk (Hold.start (W := No) O116.s) rfl k_0 r_0 g118).mono ?_
            rintro _ h119 ⟨m120, A123, n124, c125, Q121, rfl, ne126⟩
            have O128 := Hold.nm (O116.retC Q121 (vfs_cons (rR_vf (aE_vf (fun _ _ _ _ h => T_limit_Row.keep h))) vfs_nil))
            subst ne126
            refine ⟨_, _, _, rfl, ?_⟩
            obtain ⟨y129, g130, e⟩ := bind_e e
            obtain ⟨m135, u136, s143, ⟨⟨r139, k140⟩, ⟨r141, k142⟩, _⟩, B137, C138⟩ := O128.lend0 [3, 6]
            replace r139 : Rd 5 T_limit_Row.E m135 A_21 a_21 := r139
            replace k140 : List.length a_21 ≤ c_21 := k140
            replace r141 : Rd 5 T_limit_Row.E m135 A123 y117 := r141
            replace k142 : List.length y117 ≤ c125 := k142
            refine (roadref3_SameLimits.walk (Hold.start (W := No) s143) rfl k140 r139 rfl k142 r141 g130).mono ?_
            rintro _ h131 ⟨m132, Q133, rfl⟩
            have O144 := Hold.nm (C138 Q133 vfs_nil)
            refine ⟨_, rfl, ?_⟩
            cases e
            exact ⟨_, O144.pick [], rfl⟩
        · obtain ⟨y146, g147, e⟩ := bind_e e
          refine (roadlaw3_forked.walk (Hold.start (W := No) O116.s) rfl k_0 r_0 g147).mono ?_
          rintro _ h148 ⟨m149, A152, n153, c154, Q150, rfl, ne155⟩
          have O157 := Hold.nm (O116.retC Q150 (vfs_cons (rR_vf (aE_vf (fun _ _ _ _ h => T_limit_Row.keep h))) vfs_nil))
          subst ne155
          refine ⟨_, _, _, rfl, ?_⟩
          obtain ⟨y158, g159, e⟩ := bind_e e
          obtain ⟨m164, u165, s172, ⟨⟨r168, k169⟩, ⟨r170, k171⟩, _⟩, B166, C167⟩ := O157.lend0 [2, 6]
          replace r168 : Rd 5 T_limit_Row.E m164 A_19 a_19 := r168
          replace k169 : List.length a_19 ≤ c_19 := k169
          replace r170 : Rd 5 T_limit_Row.E m164 A152 y146 := r170
          replace k171 : List.length y146 ≤ c154 := k171
          refine (roadref3_SameLimits.walk (Hold.start (W := No) s172) rfl k169 r168 rfl k171 r170 g159).mono ?_
          rintro _ h160 ⟨m161, Q162, rfl⟩
          have O173 := Hold.nm (C167 Q162 vfs_nil)
          refine ⟨_, rfl, ?_⟩
          refine split_any_e e (fun c203 e => ?_) (fun c203 e => ?_)
          · refine split_ne_e e (fun c202 e => ?_) (fun c202 e => ?_)
            · cases e
              exact ⟨_, O173.pick [], rfl⟩
            · obtain ⟨y174, g175, e⟩ := bind_e e
              refine (roadlaw3_joined.walk (Hold.start (W := No) O173.s) rfl k_0 r_0 g175).mono ?_
              rintro _ h176 ⟨m177, A180, n181, c182, Q178, rfl, ne183⟩
              have O185 := Hold.nm (O173.retC Q178 (vfs_cons (rR_vf (aE_vf (fun _ _ _ _ h => T_limit_Row.keep h))) vfs_nil))
              subst ne183
              refine ⟨_, _, _, rfl, ?_⟩
              obtain ⟨y186, g187, e⟩ := bind_e e
              obtain ⟨m192, u193, s200, ⟨⟨r196, k197⟩, ⟨r198, k199⟩, _⟩, B194, C195⟩ := O185.lend0 [3, 7]
              replace r196 : Rd 5 T_limit_Row.E m192 A_21 a_21 := r196
              replace k197 : List.length a_21 ≤ c_21 := k197
              replace r198 : Rd 5 T_limit_Row.E m192 A180 y174 := r198
              replace k199 : List.length y174 ≤ c182 := k199
              refine (roadref3_SameLimits.walk (Hold.start (W := No) s200) rfl k197 r196 rfl k199 r198 g187).mono ?_
              rintro _ h188 ⟨m189, Q190, rfl⟩
              have O201 := Hold.nm (C195 Q190 vfs_nil)
              refine ⟨_, rfl, ?_⟩
              cases e
              exact ⟨_, O201.pick [], rfl⟩
          · cases e
            exact ⟨_, O173.pick [], rfl⟩
      · cases e
        exact ⟨_, O116.pick [], rfl⟩
  · refine ⟨_, ldk (k := 1) (Sub.refl _) (O.all 4 rfl) (T_limit_Row.g1 e_26), _, rfl, ?_⟩
    refine ⟨_, ldk (k := 2) (Sub.refl _) (O.all 4 rfl) (T_limit_Row.g2 e_26), _, rfl, ?_⟩
    refine ⟨_, ldk (k := 3) (Sub.refl _) (O.all 4 rfl) (T_limit_Row.g3 e_26), _, rfl, ?_⟩
    refine ⟨_, ldk (k := 4) (Sub.refl _) (O.all 4 rfl) (T_limit_Row.g4 e_26), _, rfl, ?_⟩
    obtain ⟨y207, g208, e⟩ := bind_e e
    refine (roadlaw3_limited.walk (Hold.start (W := No) O.s) rfl k_0 r_0 (show T_limit_Row.E _ (T_limit_Row.mk x_1 (IntKind.wrap .i64 (y_26.Letters + x_3)) (IntKind.wrap .i64 (y_26.Cells + x_4)) y_26.MaxLetters y_26.MaxCells) [(Value.int .i64 x_1), (Value.int .i64 (IntKind.wrap .i64 (y_26.Letters + x_3))), (Value.int .i64 (IntKind.wrap .i64 (y_26.Cells + x_4))), (Value.int .i64 y_26.MaxLetters), (Value.int .i64 y_26.MaxCells)] from rfl) g208).mono ?_
    rintro _ h209 ⟨m210, A213, n214, c215, Q211, rfl, ne216⟩
    have O218 := Hold.nm (O.retC Q211 (vfs_cons (rR_vf (aE_vf (fun _ _ _ _ h => T_limit_Row.keep h))) vfs_nil))
    subst ne216
    refine ⟨_, _, _, rfl, ?_⟩
    obtain ⟨y219, g220, e⟩ := bind_e e
    obtain ⟨m225, u226, s233, ⟨⟨r229, k230⟩, ⟨r231, k232⟩, _⟩, B227, C228⟩ := O218.lend0 [0, 5]
    replace r229 : Rd 5 T_limit_Row.E m225 A_15 a_15 := r229
    replace k230 : List.length a_15 ≤ c_15 := k230
    replace r231 : Rd 5 T_limit_Row.E m225 A213 y207 := r231
    replace k232 : List.length y207 ≤ c215 := k232
    refine (roadref3_SameLimits.walk (Hold.start (W := No) s233) rfl k230 r229 rfl k232 r231 g220).mono ?_
    rintro _ h221 ⟨m222, Q223, rfl⟩
    have O234 := Hold.nm (C228 Q223 vfs_nil)
    refine ⟨_, rfl, ?_⟩
    refine split_any_e e (fun c441 e => ?_) (fun c441 e => ?_)
    · refine split_ne_e e (fun c440 e => ?_) (fun c440 e => ?_)
      · refine split_ne_e e (fun c322 e => ?_) (fun c322 e => ?_)
        · refine split_ne_e e (fun c263 e => ?_) (fun c263 e => ?_)
          · cases e
            exact ⟨_, O234.pick [], rfl⟩
          · obtain ⟨y235, g236, e⟩ := bind_e e
            refine (roadlaw3_joined.walk (Hold.start (W := No) O234.s) rfl k_0 r_0 g236).mono ?_
            rintro _ h237 ⟨m238, A241, n242, c243, Q239, rfl, ne244⟩
            have O246 := Hold.nm (O234.retC Q239 (vfs_cons (rR_vf (aE_vf (fun _ _ _ _ h => T_limit_Row.keep h))) vfs_nil))
            subst ne244
            refine ⟨_, _, _, rfl, ?_⟩
            obtain ⟨y247, g248, e⟩ := bind_e e
            obtain ⟨m253, u254, s261, ⟨⟨r257, k258⟩, ⟨r259, k260⟩, _⟩, B255, C256⟩ := O246.lend0 [3, 6]
            replace r257 : Rd 5 T_limit_Row.E m253 A_21 a_21 := r257
            replace k258 : List.length a_21 ≤ c_21 := k258
            replace r259 : Rd 5 T_limit_Row.E m253 A241 y235 := r259
            replace k260 : List.length y235 ≤ c243 := k260
            refine (roadref3_SameLimits.walk (Hold.start (W := No) s261) rfl k258 r257 rfl k260 r259 g248).mono ?_
            rintro _ h249 ⟨m250, Q251, rfl⟩
            have O262 := Hold.nm (C256 Q251 vfs_nil)
            refine ⟨_, rfl, ?_⟩
            cases e
            exact ⟨_, O262.pick [], rfl⟩
        · obtain ⟨y264, g265, e⟩ := bind_e e
          refine (roadlaw3_forked.walk (Hold.start (W := No) O234.s) rfl k_0 r_0 g265).mono ?_
          rintro _ h266 ⟨m267, A270, n271, c272, Q268, rfl, ne273⟩
          have O275 := Hold.nm (O234.retC Q268 (vfs_cons (rR_vf (aE_vf (fun _ _ _ _ h => T_limit_Row.keep h))) vfs_nil))
          subst ne273
          refine ⟨_, _, _, rfl, ?_⟩
          obtain ⟨y276, g277, e⟩ := bind_e e
          obtain ⟨m282, u283, s290, ⟨⟨r286, k287⟩, ⟨r288, k289⟩, _⟩, B284, C285⟩ := O275.lend0 [2, 6]
          replace r286 : Rd 5 T_limit_Row.E m282 A_19 a_19 := r286
          replace k287 : List.length a_19 ≤ c_19 := k287
          replace r288 : Rd 5 T_limit_Row.E m282 A270 y264 := r288
          replace k289 : List.length y264 ≤ c272 := k289
          refine (roadref3_SameLimits.walk (Hold.start (W := No) s290) rfl k287 r286 rfl k289 r288 g277).mono ?_
          rintro _ h278 ⟨m279, Q280, rfl⟩
          have O291 := Hold.nm (C285 Q280 vfs_nil)
          refine ⟨_, rfl, ?_⟩
          refine split_any_e e (fun c321 e => ?_) (fun c321 e => ?_)
          · refine split_ne_e e (fun c320 e => ?_) (fun c320 e => ?_)
            · cases e
              exact ⟨_, O291.pick [], rfl⟩
            · obtain ⟨y292, g293, e⟩ := bind_e e
              refine (roadlaw3_joined.walk (Hold.start (W := No) O291.s) rfl k_0 r_0 g293).mono ?_
              rintro _ h294 ⟨m295, A298, n299, c300, Q296, rfl, ne301⟩
              have O303 := Hold.nm (O291.retC Q296 (vfs_cons (rR_vf (aE_vf (fun _ _ _ _ h => T_limit_Row.keep h))) vfs_nil))
              subst ne301
              refine ⟨_, _, _, rfl, ?_⟩
              obtain ⟨y304, g305, e⟩ := bind_e e
              obtain ⟨m310, u311, s318, ⟨⟨r314, k315⟩, ⟨r316, k317⟩, _⟩, B312, C313⟩ := O303.lend0 [3, 7]
              replace r314 : Rd 5 T_limit_Row.E m310 A_21 a_21 := r314
              replace k315 : List.length a_21 ≤ c_21 := k315
              replace r316 : Rd 5 T_limit_Row.E m310 A298 y292 := r316
              replace k317 : List.length y292 ≤ c300 := k317
              refine (roadref3_SameLimits.walk (Hold.start (W := No) s318) rfl k315 r314 rfl k317 r316 g305).mono ?_
              rintro _ h306 ⟨m307, Q308, rfl⟩
              have O319 := Hold.nm (C313 Q308 vfs_nil)
              refine ⟨_, rfl, ?_⟩
              cases e
              exact ⟨_, O319.pick [], rfl⟩
          · cases e
            exact ⟨_, O291.pick [], rfl⟩
      · refine ⟨_, ldk (k := 1) (Sub.refl _) (O234.all 4 rfl) (T_limit_Row.g1 e_26), _, rfl, ?_⟩
        refine ⟨_, ldk (k := 2) (Sub.refl _) (O234.all 4 rfl) (T_limit_Row.g2 e_26), _, rfl, ?_⟩
        refine ⟨_, ldk (k := 3) (Sub.refl _) (O234.all 4 rfl) (T_limit_Row.g3 e_26), _, rfl, ?_⟩
        refine ⟨_, ldk (k := 4) (Sub.refl _) (O234.all 4 rfl) (T_limit_Row.g4 e_26), _, rfl, ?_⟩
        obtain ⟨y323, g324, e⟩ := bind_e e
        refine (roadlaw3_limited.walk (Hold.start (W := No) O234.s) rfl k_0 r_0 (show T_limit_Row.E _ (T_limit_Row.mk x_1 (IntKind.wrap .i64 (y_26.Letters - x_3)) (IntKind.wrap .i64 (y_26.Cells - x_4)) y_26.MaxLetters y_26.MaxCells) [(Value.int .i64 x_1), (Value.int .i64 (IntKind.wrap .i64 (y_26.Letters - x_3))), (Value.int .i64 (IntKind.wrap .i64 (y_26.Cells - x_4))), (Value.int .i64 y_26.MaxLetters), (Value.int .i64 y_26.MaxCells)] from rfl) g324).mono ?_
        rintro _ h325 ⟨m326, A329, n330, c331, Q327, rfl, ne332⟩
        have O334 := Hold.nm (O234.retC Q327 (vfs_cons (rR_vf (aE_vf (fun _ _ _ _ h => T_limit_Row.keep h))) vfs_nil))
        subst ne332
        refine ⟨_, _, _, rfl, ?_⟩
        obtain ⟨y335, g336, e⟩ := bind_e e
        obtain ⟨m341, u342, s349, ⟨⟨r345, k346⟩, ⟨r347, k348⟩, _⟩, B343, C344⟩ := O334.lend0 [1, 6]
        replace r345 : Rd 5 T_limit_Row.E m341 A_17 a_17 := r345
        replace k346 : List.length a_17 ≤ c_17 := k346
        replace r347 : Rd 5 T_limit_Row.E m341 A329 y323 := r347
        replace k348 : List.length y323 ≤ c331 := k348
        refine (roadref3_SameLimits.walk (Hold.start (W := No) s349) rfl k346 r345 rfl k348 r347 g336).mono ?_
        rintro _ h337 ⟨m338, Q339, rfl⟩
        have O350 := Hold.nm (C344 Q339 vfs_nil)
        refine ⟨_, rfl, ?_⟩
        refine split_any_e e (fun c439 e => ?_) (fun c439 e => ?_)
        · refine split_ne_e e (fun c438 e => ?_) (fun c438 e => ?_)
          · refine split_ne_e e (fun c379 e => ?_) (fun c379 e => ?_)
            · cases e
              exact ⟨_, O350.pick [], rfl⟩
            · obtain ⟨y351, g352, e⟩ := bind_e e
              refine (roadlaw3_joined.walk (Hold.start (W := No) O350.s) rfl k_0 r_0 g352).mono ?_
              rintro _ h353 ⟨m354, A357, n358, c359, Q355, rfl, ne360⟩
              have O362 := Hold.nm (O350.retC Q355 (vfs_cons (rR_vf (aE_vf (fun _ _ _ _ h => T_limit_Row.keep h))) vfs_nil))
              subst ne360
              refine ⟨_, _, _, rfl, ?_⟩
              obtain ⟨y363, g364, e⟩ := bind_e e
              obtain ⟨m369, u370, s377, ⟨⟨r373, k374⟩, ⟨r375, k376⟩, _⟩, B371, C372⟩ := O362.lend0 [3, 7]
              replace r373 : Rd 5 T_limit_Row.E m369 A_21 a_21 := r373
              replace k374 : List.length a_21 ≤ c_21 := k374
              replace r375 : Rd 5 T_limit_Row.E m369 A357 y351 := r375
              replace k376 : List.length y351 ≤ c359 := k376
              refine (roadref3_SameLimits.walk (Hold.start (W := No) s377) rfl k374 r373 rfl k376 r375 g364).mono ?_
              rintro _ h365 ⟨m366, Q367, rfl⟩
              have O378 := Hold.nm (C372 Q367 vfs_nil)
              refine ⟨_, rfl, ?_⟩
              cases e
              exact ⟨_, O378.pick [], rfl⟩
          · obtain ⟨y380, g381, e⟩ := bind_e e
            refine (roadlaw3_forked.walk (Hold.start (W := No) O350.s) rfl k_0 r_0 g381).mono ?_
            rintro _ h382 ⟨m383, A386, n387, c388, Q384, rfl, ne389⟩
            have O391 := Hold.nm (O350.retC Q384 (vfs_cons (rR_vf (aE_vf (fun _ _ _ _ h => T_limit_Row.keep h))) vfs_nil))
            subst ne389
            refine ⟨_, _, _, rfl, ?_⟩
            obtain ⟨y392, g393, e⟩ := bind_e e
            obtain ⟨m398, u399, s406, ⟨⟨r402, k403⟩, ⟨r404, k405⟩, _⟩, B400, C401⟩ := O391.lend0 [2, 7]
            replace r402 : Rd 5 T_limit_Row.E m398 A_19 a_19 := r402
            replace k403 : List.length a_19 ≤ c_19 := k403
            replace r404 : Rd 5 T_limit_Row.E m398 A386 y380 := r404
            replace k405 : List.length y380 ≤ c388 := k405
            refine (roadref3_SameLimits.walk (Hold.start (W := No) s406) rfl k403 r402 rfl k405 r404 g393).mono ?_
            rintro _ h394 ⟨m395, Q396, rfl⟩
            have O407 := Hold.nm (C401 Q396 vfs_nil)
            refine ⟨_, rfl, ?_⟩
            refine split_any_e e (fun c437 e => ?_) (fun c437 e => ?_)
            · refine split_ne_e e (fun c436 e => ?_) (fun c436 e => ?_)
              · cases e
                exact ⟨_, O407.pick [], rfl⟩
              · obtain ⟨y408, g409, e⟩ := bind_e e
                refine (roadlaw3_joined.walk (Hold.start (W := No) O407.s) rfl k_0 r_0 g409).mono ?_
                rintro _ h410 ⟨m411, A414, n415, c416, Q412, rfl, ne417⟩
                have O419 := Hold.nm (O407.retC Q412 (vfs_cons (rR_vf (aE_vf (fun _ _ _ _ h => T_limit_Row.keep h))) vfs_nil))
                subst ne417
                refine ⟨_, _, _, rfl, ?_⟩
                obtain ⟨y420, g421, e⟩ := bind_e e
                obtain ⟨m426, u427, s434, ⟨⟨r430, k431⟩, ⟨r432, k433⟩, _⟩, B428, C429⟩ := O419.lend0 [3, 8]
                replace r430 : Rd 5 T_limit_Row.E m426 A_21 a_21 := r430
                replace k431 : List.length a_21 ≤ c_21 := k431
                replace r432 : Rd 5 T_limit_Row.E m426 A414 y408 := r432
                replace k433 : List.length y408 ≤ c416 := k433
                refine (roadref3_SameLimits.walk (Hold.start (W := No) s434) rfl k431 r430 rfl k433 r432 g421).mono ?_
                rintro _ h422 ⟨m423, Q424, rfl⟩
                have O435 := Hold.nm (C429 Q424 vfs_nil)
                refine ⟨_, rfl, ?_⟩
                cases e
                exact ⟨_, O435.pick [], rfl⟩
            · cases e
              exact ⟨_, O407.pick [], rfl⟩
        · cases e
          exact ⟨_, O350.pick [], rfl⟩
    · cases e
      exact ⟨_, O234.pick [], rfl⟩

noncomputable def roadlaw3_LimitTells.j6 (a_0 : List T_limit_Row) (x_1 : Int) (x_2 : Int) (x_3 : Int) (x_4 : Int) (a_15 : List T_limit_Row) (x_16 : Int) (a_17 : List T_limit_Row) (x_18 : Int) (a_19 : List T_limit_Row) (x_20 : Int) (a_21 : List T_limit_Row) (x_22 : Int) (x_24 : Int) (x_25 : Int) (y_26 : T_limit_Row) (x_28 : Int) (x_29 : Int) (x_30 : Int) (x_31 : Int) : Option (Bool) :=
  if x_16 = x_28 then (if x_18 = x_29 then (if x_20 = x_30 then (if x_22 = x_31 then (if x_28 = (0 : Int) then (if x_29 = (0 : Int) then (if x_30 = (0 : Int) then (if x_31 = (0 : Int) then ((roadlaw3_LimitTells.j7 a_0 x_1 x_2 x_3 x_4 a_15 a_17 a_19 a_21 x_24 x_25 y_26 x_28 x_29 x_30 x_31)) else (if (((List.length a_21) : Nat) : Int) > (0 : Int) then (some (false)) else ((roadlaw3_LimitTells.j7 a_0 x_1 x_2 x_3 x_4 a_15 a_17 a_19 a_21 x_24 x_25 y_26 x_28 x_29 x_30 x_31)))) else (if (((List.length a_19) : Nat) : Int) > (0 : Int) then (some (false)) else (if x_31 = (0 : Int) then ((roadlaw3_LimitTells.j7 a_0 x_1 x_2 x_3 x_4 a_15 a_17 a_19 a_21 x_24 x_25 y_26 x_28 x_29 x_30 x_31)) else (if (((List.length a_21) : Nat) : Int) > (0 : Int) then (some (false)) else ((roadlaw3_LimitTells.j7 a_0 x_1 x_2 x_3 x_4 a_15 a_17 a_19 a_21 x_24 x_25 y_26 x_28 x_29 x_30 x_31)))))) else (if (((List.length a_17) : Nat) : Int) > (0 : Int) then (some (false)) else (if x_30 = (0 : Int) then (if x_31 = (0 : Int) then ((roadlaw3_LimitTells.j7 a_0 x_1 x_2 x_3 x_4 a_15 a_17 a_19 a_21 x_24 x_25 y_26 x_28 x_29 x_30 x_31)) else (if (((List.length a_21) : Nat) : Int) > (0 : Int) then (some (false)) else ((roadlaw3_LimitTells.j7 a_0 x_1 x_2 x_3 x_4 a_15 a_17 a_19 a_21 x_24 x_25 y_26 x_28 x_29 x_30 x_31)))) else (if (((List.length a_19) : Nat) : Int) > (0 : Int) then (some (false)) else (if x_31 = (0 : Int) then ((roadlaw3_LimitTells.j7 a_0 x_1 x_2 x_3 x_4 a_15 a_17 a_19 a_21 x_24 x_25 y_26 x_28 x_29 x_30 x_31)) else (if (((List.length a_21) : Nat) : Int) > (0 : Int) then (some (false)) else ((roadlaw3_LimitTells.j7 a_0 x_1 x_2 x_3 x_4 a_15 a_17 a_19 a_21 x_24 x_25 y_26 x_28 x_29 x_30 x_31)))))))) else (if (((List.length a_15) : Nat) : Int) > (0 : Int) then (some (false)) else (if x_29 = (0 : Int) then (if x_30 = (0 : Int) then (if x_31 = (0 : Int) then ((roadlaw3_LimitTells.j7 a_0 x_1 x_2 x_3 x_4 a_15 a_17 a_19 a_21 x_24 x_25 y_26 x_28 x_29 x_30 x_31)) else (if (((List.length a_21) : Nat) : Int) > (0 : Int) then (some (false)) else ((roadlaw3_LimitTells.j7 a_0 x_1 x_2 x_3 x_4 a_15 a_17 a_19 a_21 x_24 x_25 y_26 x_28 x_29 x_30 x_31)))) else (if (((List.length a_19) : Nat) : Int) > (0 : Int) then (some (false)) else (if x_31 = (0 : Int) then ((roadlaw3_LimitTells.j7 a_0 x_1 x_2 x_3 x_4 a_15 a_17 a_19 a_21 x_24 x_25 y_26 x_28 x_29 x_30 x_31)) else (if (((List.length a_21) : Nat) : Int) > (0 : Int) then (some (false)) else ((roadlaw3_LimitTells.j7 a_0 x_1 x_2 x_3 x_4 a_15 a_17 a_19 a_21 x_24 x_25 y_26 x_28 x_29 x_30 x_31)))))) else (if (((List.length a_17) : Nat) : Int) > (0 : Int) then (some (false)) else (if x_30 = (0 : Int) then (if x_31 = (0 : Int) then ((roadlaw3_LimitTells.j7 a_0 x_1 x_2 x_3 x_4 a_15 a_17 a_19 a_21 x_24 x_25 y_26 x_28 x_29 x_30 x_31)) else (if (((List.length a_21) : Nat) : Int) > (0 : Int) then (some (false)) else ((roadlaw3_LimitTells.j7 a_0 x_1 x_2 x_3 x_4 a_15 a_17 a_19 a_21 x_24 x_25 y_26 x_28 x_29 x_30 x_31)))) else (if (((List.length a_19) : Nat) : Int) > (0 : Int) then (some (false)) else (if x_31 = (0 : Int) then ((roadlaw3_LimitTells.j7 a_0 x_1 x_2 x_3 x_4 a_15 a_17 a_19 a_21 x_24 x_25 y_26 x_28 x_29 x_30 x_31)) else (if (((List.length a_21) : Nat) : Int) > (0 : Int) then (some (false)) else ((roadlaw3_LimitTells.j7 a_0 x_1 x_2 x_3 x_4 a_15 a_17 a_19 a_21 x_24 x_25 y_26 x_28 x_29 x_30 x_31)))))))))) else (some (false))) else (some (false))) else (some (false))) else (some (false))
set_option maxHeartbeats 4000000 in
set_option maxRecDepth 100000 in
theorem roadlaw3_LimitTells.j6.walk {W : Nat → Prop} {h0 m0 h m : Heap} {A_0 : Option Addr} {n_0 c_0 : Nat} {A_15 : Option Addr} {n_15 c_15 : Nat} {A_17 : Option Addr} {n_17 c_17 : Nat} {A_19 : Option Addr} {n_19 c_19 : Nat} {A_21 : Option Addr} {n_21 c_21 : Nat} {bk_26 : Nat} {cs_26 : List Value} {a_0 : List T_limit_Row} {x_1 : Int} {x_2 : Int} {x_3 : Int} {x_4 : Int} {a_15 : List T_limit_Row} {x_16 : Int} {a_17 : List T_limit_Row} {x_18 : Int} {a_19 : List T_limit_Row} {x_20 : Int} {a_21 : List T_limit_Row} {x_22 : Int} {x_24 : Int} {x_25 : Int} {y_26 : T_limit_Row} {x_28 : Int} {x_29 : Int} {x_30 : Int} {x_31 : Int} (O : Hold W h0 m0 h m [rR (aE T_limit_Row.T) A_15 c_15 a_15, rR (aE T_limit_Row.T) A_17 c_17 a_17, rR (aE T_limit_Row.T) A_19 c_19 a_19, rR (aE T_limit_Row.T) A_21 c_21 a_21, rV bk_26 138 cs_26]) (ne_0 : n_0 = List.length a_0) (k_0 : List.length a_0 ≤ c_0) (r_0 : Rd 5 T_limit_Row.E m A_0 a_0) (ne_15 : n_15 = List.length a_15) (ne_17 : n_17 = List.length a_17) (ne_19 : n_19 = List.length a_19) (ne_21 : n_21 = List.length a_21) (e_26 : T_limit_Row.E m y_26 cs_26) {r : Bool} (e : roadlaw3_LimitTells.j6 a_0 x_1 x_2 x_3 x_4 a_15 x_16 a_17 x_18 a_19 x_20 a_21 x_22 x_24 x_25 y_26 x_28 x_29 x_30 x_31 = some r) : f7.j6 (roadlaw3_LimitTells.post W h0 m0 r) A_0 n_0 c_0 x_1 x_2 x_3 x_4 A_15 n_15 c_15 x_16 A_17 n_17 c_17 x_18 A_19 n_19 c_19 x_20 A_21 n_21 c_21 x_22 x_24 x_25 (⟨bk_26, 0, none⟩ : Addr) x_28 x_29 x_30 x_31 h := by
  unfold roadlaw3_LimitTells.j6 at e
  subst ne_0
  subst ne_15
  subst ne_17
  subst ne_19
  subst ne_21
  refine f7.j6_in ?_
  unfold f7.j6T
  refine split_ne_e e (fun c34 e => ?_) (fun c34 e => ?_)
  · cases e
    exact ⟨_, O.pick [], rfl⟩
  · refine split_ne_e e (fun c33 e => ?_) (fun c33 e => ?_)
    · cases e
      exact ⟨_, O.pick [], rfl⟩
    · refine split_ne_e e (fun c32 e => ?_) (fun c32 e => ?_)
      · cases e
        exact ⟨_, O.pick [], rfl⟩
      · refine split_ne_e e (fun c31 e => ?_) (fun c31 e => ?_)
        · cases e
          exact ⟨_, O.pick [], rfl⟩
        · refine split_ne_e e (fun c30 e => ?_) (fun c30 e => ?_)
          · refine split_dec_e e (fun c15 e => ?_) (fun c15 e => ?_)
            · cases e
              exact ⟨_, O.pick [], rfl⟩
            · refine split_ne_e e (fun c14 e => ?_) (fun c14 e => ?_)
              · refine split_dec_e e (fun c7 e => ?_) (fun c7 e => ?_)
                · cases e
                  exact ⟨_, O.pick [], rfl⟩
                · refine split_ne_e e (fun c6 e => ?_) (fun c6 e => ?_)
                  · refine split_dec_e e (fun c3 e => ?_) (fun c3 e => ?_)
                    · cases e
                      exact ⟨_, O.pick [], rfl⟩
                    · refine split_ne_e e (fun c2 e => ?_) (fun c2 e => ?_)
                      · refine split_dec_e e (fun c1 e => ?_) (fun c1 e => ?_)
                        · cases e
                          exact ⟨_, O.pick [], rfl⟩
                        · exact roadlaw3_LimitTells.j7.walk (O.pick [0, 1, 2, 3, 4]).nm rfl k_0 r_0 rfl rfl rfl rfl e_26 e
                      · exact roadlaw3_LimitTells.j7.walk (O.pick [0, 1, 2, 3, 4]).nm rfl k_0 r_0 rfl rfl rfl rfl e_26 e
                  · refine split_ne_e e (fun c5 e => ?_) (fun c5 e => ?_)
                    · refine split_dec_e e (fun c4 e => ?_) (fun c4 e => ?_)
                      · cases e
                        exact ⟨_, O.pick [], rfl⟩
                      · exact roadlaw3_LimitTells.j7.walk (O.pick [0, 1, 2, 3, 4]).nm rfl k_0 r_0 rfl rfl rfl rfl e_26 e
                    · exact roadlaw3_LimitTells.j7.walk (O.pick [0, 1, 2, 3, 4]).nm rfl k_0 r_0 rfl rfl rfl rfl e_26 e
              · refine split_ne_e e (fun c13 e => ?_) (fun c13 e => ?_)
                · refine split_dec_e e (fun c10 e => ?_) (fun c10 e => ?_)
                  · cases e
                    exact ⟨_, O.pick [], rfl⟩
                  · refine split_ne_e e (fun c9 e => ?_) (fun c9 e => ?_)
                    · refine split_dec_e e (fun c8 e => ?_) (fun c8 e => ?_)
                      · cases e
                        exact ⟨_, O.pick [], rfl⟩
                      · exact roadlaw3_LimitTells.j7.walk (O.pick [0, 1, 2, 3, 4]).nm rfl k_0 r_0 rfl rfl rfl rfl e_26 e
                    · exact roadlaw3_LimitTells.j7.walk (O.pick [0, 1, 2, 3, 4]).nm rfl k_0 r_0 rfl rfl rfl rfl e_26 e
                · refine split_ne_e e (fun c12 e => ?_) (fun c12 e => ?_)
                  · refine split_dec_e e (fun c11 e => ?_) (fun c11 e => ?_)
                    · cases e
                      exact ⟨_, O.pick [], rfl⟩
                    · exact roadlaw3_LimitTells.j7.walk (O.pick [0, 1, 2, 3, 4]).nm rfl k_0 r_0 rfl rfl rfl rfl e_26 e
                  · exact roadlaw3_LimitTells.j7.walk (O.pick [0, 1, 2, 3, 4]).nm rfl k_0 r_0 rfl rfl rfl rfl e_26 e
          · refine split_ne_e e (fun c29 e => ?_) (fun c29 e => ?_)
            · refine split_dec_e e (fun c22 e => ?_) (fun c22 e => ?_)
              · cases e
                exact ⟨_, O.pick [], rfl⟩
              · refine split_ne_e e (fun c21 e => ?_) (fun c21 e => ?_)
                · refine split_dec_e e (fun c18 e => ?_) (fun c18 e => ?_)
                  · cases e
                    exact ⟨_, O.pick [], rfl⟩
                  · refine split_ne_e e (fun c17 e => ?_) (fun c17 e => ?_)
                    · refine split_dec_e e (fun c16 e => ?_) (fun c16 e => ?_)
                      · cases e
                        exact ⟨_, O.pick [], rfl⟩
                      · exact roadlaw3_LimitTells.j7.walk (O.pick [0, 1, 2, 3, 4]).nm rfl k_0 r_0 rfl rfl rfl rfl e_26 e
                    · exact roadlaw3_LimitTells.j7.walk (O.pick [0, 1, 2, 3, 4]).nm rfl k_0 r_0 rfl rfl rfl rfl e_26 e
                · refine split_ne_e e (fun c20 e => ?_) (fun c20 e => ?_)
                  · refine split_dec_e e (fun c19 e => ?_) (fun c19 e => ?_)
                    · cases e
                      exact ⟨_, O.pick [], rfl⟩
                    · exact roadlaw3_LimitTells.j7.walk (O.pick [0, 1, 2, 3, 4]).nm rfl k_0 r_0 rfl rfl rfl rfl e_26 e
                  · exact roadlaw3_LimitTells.j7.walk (O.pick [0, 1, 2, 3, 4]).nm rfl k_0 r_0 rfl rfl rfl rfl e_26 e
            · refine split_ne_e e (fun c28 e => ?_) (fun c28 e => ?_)
              · refine split_dec_e e (fun c25 e => ?_) (fun c25 e => ?_)
                · cases e
                  exact ⟨_, O.pick [], rfl⟩
                · refine split_ne_e e (fun c24 e => ?_) (fun c24 e => ?_)
                  · refine split_dec_e e (fun c23 e => ?_) (fun c23 e => ?_)
                    · cases e
                      exact ⟨_, O.pick [], rfl⟩
                    · exact roadlaw3_LimitTells.j7.walk (O.pick [0, 1, 2, 3, 4]).nm rfl k_0 r_0 rfl rfl rfl rfl e_26 e
                  · exact roadlaw3_LimitTells.j7.walk (O.pick [0, 1, 2, 3, 4]).nm rfl k_0 r_0 rfl rfl rfl rfl e_26 e
              · refine split_ne_e e (fun c27 e => ?_) (fun c27 e => ?_)
                · refine split_dec_e e (fun c26 e => ?_) (fun c26 e => ?_)
                  · cases e
                    exact ⟨_, O.pick [], rfl⟩
                  · exact roadlaw3_LimitTells.j7.walk (O.pick [0, 1, 2, 3, 4]).nm rfl k_0 r_0 rfl rfl rfl rfl e_26 e
                · exact roadlaw3_LimitTells.j7.walk (O.pick [0, 1, 2, 3, 4]).nm rfl k_0 r_0 rfl rfl rfl rfl e_26 e

noncomputable def roadlaw3_LimitTells.j5 (a_0 : List T_limit_Row) (x_1 : Int) (x_2 : Int) (x_3 : Int) (x_4 : Int) (a_15 : List T_limit_Row) (x_16 : Int) (a_17 : List T_limit_Row) (x_18 : Int) (a_19 : List T_limit_Row) (x_20 : Int) (a_21 : List T_limit_Row) (x_22 : Int) (x_24 : Int) (x_25 : Int) (y_26 : T_limit_Row) (x_28 : Int) (x_29 : Int) (x_30 : Int) (x_31 : Int) : Option (Bool) :=
  if x_25 < (0 : Int) then ((roadlaw3_LimitTells.j6 a_0 x_1 x_2 x_3 x_4 a_15 x_16 a_17 x_18 a_19 x_20 a_21 x_22 x_24 x_25 y_26 x_28 x_29 x_30 (4 : Int))) else (if x_25 = x_24 then ((roadlaw3_LimitTells.j6 a_0 x_1 x_2 x_3 x_4 a_15 x_16 a_17 x_18 a_19 x_20 a_21 x_22 x_24 x_25 y_26 x_28 x_29 x_30 (18 : Int))) else (Option.bind (gi a_0 x_25) fun y1 => if (IntKind.wrap .i64 (y_26.MaxLetters + y1.MaxLetters)) > (1073741824 : Int) then ((roadlaw3_LimitTells.j6 a_0 x_1 x_2 x_3 x_4 a_15 x_16 a_17 x_18 a_19 x_20 a_21 x_22 x_24 x_25 y_26 x_28 x_29 x_30 (2 : Int))) else (Option.bind (gi a_0 x_25) fun y8 => if (IntKind.wrap .i64 (y_26.MaxCells + y8.MaxCells)) > (1073741824 : Int) then ((roadlaw3_LimitTells.j6 a_0 x_1 x_2 x_3 x_4 a_15 x_16 a_17 x_18 a_19 x_20 a_21 x_22 x_24 x_25 y_26 x_28 x_29 x_30 (2 : Int))) else ((roadlaw3_LimitTells.j6 a_0 x_1 x_2 x_3 x_4 a_15 x_16 a_17 x_18 a_19 x_20 a_21 x_22 x_24 x_25 y_26 x_28 x_29 x_30 x_31)))))
set_option maxRecDepth 100000 in
theorem roadlaw3_LimitTells.j5.walk {W : Nat → Prop} {h0 m0 h m : Heap} {A_0 : Option Addr} {n_0 c_0 : Nat} {A_15 : Option Addr} {n_15 c_15 : Nat} {A_17 : Option Addr} {n_17 c_17 : Nat} {A_19 : Option Addr} {n_19 c_19 : Nat} {A_21 : Option Addr} {n_21 c_21 : Nat} {bk_26 : Nat} {cs_26 : List Value} {a_0 : List T_limit_Row} {x_1 : Int} {x_2 : Int} {x_3 : Int} {x_4 : Int} {a_15 : List T_limit_Row} {x_16 : Int} {a_17 : List T_limit_Row} {x_18 : Int} {a_19 : List T_limit_Row} {x_20 : Int} {a_21 : List T_limit_Row} {x_22 : Int} {x_24 : Int} {x_25 : Int} {y_26 : T_limit_Row} {x_28 : Int} {x_29 : Int} {x_30 : Int} {x_31 : Int} (O : Hold W h0 m0 h m [rR (aE T_limit_Row.T) A_15 c_15 a_15, rR (aE T_limit_Row.T) A_17 c_17 a_17, rR (aE T_limit_Row.T) A_19 c_19 a_19, rR (aE T_limit_Row.T) A_21 c_21 a_21, rV bk_26 138 cs_26]) (ne_0 : n_0 = List.length a_0) (k_0 : List.length a_0 ≤ c_0) (r_0 : Rd 5 T_limit_Row.E m A_0 a_0) (ne_15 : n_15 = List.length a_15) (ne_17 : n_17 = List.length a_17) (ne_19 : n_19 = List.length a_19) (ne_21 : n_21 = List.length a_21) (e_26 : T_limit_Row.E m y_26 cs_26) {r : Bool} (e : roadlaw3_LimitTells.j5 a_0 x_1 x_2 x_3 x_4 a_15 x_16 a_17 x_18 a_19 x_20 a_21 x_22 x_24 x_25 y_26 x_28 x_29 x_30 x_31 = some r) : f7.j5 (roadlaw3_LimitTells.post W h0 m0 r) A_0 n_0 c_0 x_1 x_2 x_3 x_4 A_15 n_15 c_15 x_16 A_17 n_17 c_17 x_18 A_19 n_19 c_19 x_20 A_21 n_21 c_21 x_22 x_24 x_25 (⟨bk_26, 0, none⟩ : Addr) x_28 x_29 x_30 x_31 h := by
  unfold roadlaw3_LimitTells.j5 at e
  subst ne_0
  subst ne_15
  subst ne_17
  subst ne_19
  subst ne_21
  refine f7.j5_in ?_
  unfold f7.j5T
  refine split_dec_e e (fun c18 e => ?_) (fun c18 e => ?_)
  · exact roadlaw3_LimitTells.j6.walk (O.pick [0, 1, 2, 3, 4]).nm rfl k_0 r_0 rfl rfl rfl rfl e_26 e
  · refine split_eq_e e (fun c17 e => ?_) (fun c17 e => ?_)
    · exact roadlaw3_LimitTells.j6.walk (O.pick [0, 1, 2, 3, 4]).nm rfl k_0 r_0 rfl rfl rfl rfl e_26 e
    · obtain ⟨y1, g2, e⟩ := bind_e e
      refine r_0.addr rfl g2 fun a3 cs4 ha5 hc6 he7 => ?_
      refine ⟨_, ldk (k := 3) (Sub.refl _) (O.all 4 rfl) (T_limit_Row.g3 e_26), _, rfl, ?_⟩
      refine ⟨_, ldk (k := 3) O.s hc6 (T_limit_Row.g3 he7), _, rfl, ?_⟩
      refine split_dec_e e (fun c16 e => ?_) (fun c16 e => ?_)
      · exact roadlaw3_LimitTells.j6.walk (O.pick [0, 1, 2, 3, 4]).nm rfl k_0 r_0 rfl rfl rfl rfl e_26 e
      · obtain ⟨y8, g9, e⟩ := bind_e e
        refine r_0.addr rfl g9 fun a10 cs11 ha12 hc13 he14 => ?_
        refine ⟨_, ldk (k := 4) (Sub.refl _) (O.all 4 rfl) (T_limit_Row.g4 e_26), _, rfl, ?_⟩
        refine ⟨_, ldk (k := 4) O.s hc13 (T_limit_Row.g4 he14), _, rfl, ?_⟩
        refine split_dec_e e (fun c15 e => ?_) (fun c15 e => ?_)
        · exact roadlaw3_LimitTells.j6.walk (O.pick [0, 1, 2, 3, 4]).nm rfl k_0 r_0 rfl rfl rfl rfl e_26 e
        · exact roadlaw3_LimitTells.j6.walk (O.pick [0, 1, 2, 3, 4]).nm rfl k_0 r_0 rfl rfl rfl rfl e_26 e

noncomputable def roadlaw3_LimitTells.j4 (a_0 : List T_limit_Row) (x_1 : Int) (x_2 : Int) (x_3 : Int) (x_4 : Int) (a_15 : List T_limit_Row) (x_16 : Int) (a_17 : List T_limit_Row) (x_18 : Int) (a_19 : List T_limit_Row) (x_20 : Int) (a_21 : List T_limit_Row) (x_22 : Int) (x_24 : Int) (x_25 : Int) (y_26 : T_limit_Row) (x_28 : Int) (x_29 : Int) (x_30 : Int) (x_31 : Int) : Option (Bool) :=
  if x_25 ≥ (0 : Int) then ((roadlaw3_LimitTells.j5 a_0 x_1 x_2 x_3 x_4 a_15 x_16 a_17 x_18 a_19 x_20 a_21 x_22 x_24 x_25 y_26 x_28 x_29 (5 : Int) x_31)) else (if x_28 = (0 : Int) then (if (((List.length a_0) : Nat) : Int) = (100 : Int) then ((roadlaw3_LimitTells.j5 a_0 x_1 x_2 x_3 x_4 a_15 x_16 a_17 x_18 a_19 x_20 a_21 x_22 x_24 x_25 y_26 x_28 x_29 (6 : Int) x_31)) else ((roadlaw3_LimitTells.j5 a_0 x_1 x_2 x_3 x_4 a_15 x_16 a_17 x_18 a_19 x_20 a_21 x_22 x_24 x_25 y_26 x_28 x_29 x_30 x_31))) else ((roadlaw3_LimitTells.j5 a_0 x_1 x_2 x_3 x_4 a_15 x_16 a_17 x_18 a_19 x_20 a_21 x_22 x_24 x_25 y_26 x_28 x_29 x_28 x_31)))
set_option maxRecDepth 100000 in
theorem roadlaw3_LimitTells.j4.walk {W : Nat → Prop} {h0 m0 h m : Heap} {A_0 : Option Addr} {n_0 c_0 : Nat} {A_15 : Option Addr} {n_15 c_15 : Nat} {A_17 : Option Addr} {n_17 c_17 : Nat} {A_19 : Option Addr} {n_19 c_19 : Nat} {A_21 : Option Addr} {n_21 c_21 : Nat} {bk_26 : Nat} {cs_26 : List Value} {a_0 : List T_limit_Row} {x_1 : Int} {x_2 : Int} {x_3 : Int} {x_4 : Int} {a_15 : List T_limit_Row} {x_16 : Int} {a_17 : List T_limit_Row} {x_18 : Int} {a_19 : List T_limit_Row} {x_20 : Int} {a_21 : List T_limit_Row} {x_22 : Int} {x_24 : Int} {x_25 : Int} {y_26 : T_limit_Row} {x_28 : Int} {x_29 : Int} {x_30 : Int} {x_31 : Int} (O : Hold W h0 m0 h m [rR (aE T_limit_Row.T) A_15 c_15 a_15, rR (aE T_limit_Row.T) A_17 c_17 a_17, rR (aE T_limit_Row.T) A_19 c_19 a_19, rR (aE T_limit_Row.T) A_21 c_21 a_21, rV bk_26 138 cs_26]) (ne_0 : n_0 = List.length a_0) (k_0 : List.length a_0 ≤ c_0) (r_0 : Rd 5 T_limit_Row.E m A_0 a_0) (ne_15 : n_15 = List.length a_15) (ne_17 : n_17 = List.length a_17) (ne_19 : n_19 = List.length a_19) (ne_21 : n_21 = List.length a_21) (e_26 : T_limit_Row.E m y_26 cs_26) {r : Bool} (e : roadlaw3_LimitTells.j4 a_0 x_1 x_2 x_3 x_4 a_15 x_16 a_17 x_18 a_19 x_20 a_21 x_22 x_24 x_25 y_26 x_28 x_29 x_30 x_31 = some r) : f7.j4 (roadlaw3_LimitTells.post W h0 m0 r) A_0 n_0 c_0 x_1 x_2 x_3 x_4 A_15 n_15 c_15 x_16 A_17 n_17 c_17 x_18 A_19 n_19 c_19 x_20 A_21 n_21 c_21 x_22 x_24 x_25 (⟨bk_26, 0, none⟩ : Addr) x_28 x_29 x_30 x_31 h := by
  unfold roadlaw3_LimitTells.j4 at e
  subst ne_0
  subst ne_15
  subst ne_17
  subst ne_19
  subst ne_21
  refine f7.j4_in ?_
  unfold f7.j4T
  refine split_dec_e e (fun c3 e => ?_) (fun c3 e => ?_)
  · exact roadlaw3_LimitTells.j5.walk (O.pick [0, 1, 2, 3, 4]).nm rfl k_0 r_0 rfl rfl rfl rfl e_26 e
  · refine split_ne_e e (fun c2 e => ?_) (fun c2 e => ?_)
    · exact roadlaw3_LimitTells.j5.walk (O.pick [0, 1, 2, 3, 4]).nm rfl k_0 r_0 rfl rfl rfl rfl e_26 e
    · refine split_eq_e e (fun c1 e => ?_) (fun c1 e => ?_)
      · exact roadlaw3_LimitTells.j5.walk (O.pick [0, 1, 2, 3, 4]).nm rfl k_0 r_0 rfl rfl rfl rfl e_26 e
      · exact roadlaw3_LimitTells.j5.walk (O.pick [0, 1, 2, 3, 4]).nm rfl k_0 r_0 rfl rfl rfl rfl e_26 e

noncomputable def roadlaw3_LimitTells.j3 (a_0 : List T_limit_Row) (x_1 : Int) (x_2 : Int) (x_3 : Int) (x_4 : Int) (a_15 : List T_limit_Row) (x_16 : Int) (a_17 : List T_limit_Row) (x_18 : Int) (a_19 : List T_limit_Row) (x_20 : Int) (a_21 : List T_limit_Row) (x_22 : Int) (x_24 : Int) (x_25 : Int) (y_26 : T_limit_Row) (b_27 : Bool) (x_28 : Int) (x_29 : Int) (x_30 : Int) (x_31 : Int) : Option (Bool) :=
  if b_27 = true then (if x_3 > y_26.Letters then ((roadlaw3_LimitTells.j4 a_0 x_1 x_2 x_3 x_4 a_15 x_16 a_17 x_18 a_19 x_20 a_21 x_22 x_24 x_25 y_26 x_28 (1 : Int) x_30 x_31)) else (if x_4 > y_26.Cells then ((roadlaw3_LimitTells.j4 a_0 x_1 x_2 x_3 x_4 a_15 x_16 a_17 x_18 a_19 x_20 a_21 x_22 x_24 x_25 y_26 x_28 (1 : Int) x_30 x_31)) else ((roadlaw3_LimitTells.j4 a_0 x_1 x_2 x_3 x_4 a_15 x_16 a_17 x_18 a_19 x_20 a_21 x_22 x_24 x_25 y_26 x_28 x_29 x_30 x_31)))) else ((roadlaw3_LimitTells.j4 a_0 x_1 x_2 x_3 x_4 a_15 x_16 a_17 x_18 a_19 x_20 a_21 x_22 x_24 x_25 y_26 x_28 (1 : Int) x_30 x_31))
set_option maxRecDepth 100000 in
theorem roadlaw3_LimitTells.j3.walk {W : Nat → Prop} {h0 m0 h m : Heap} {A_0 : Option Addr} {n_0 c_0 : Nat} {A_15 : Option Addr} {n_15 c_15 : Nat} {A_17 : Option Addr} {n_17 c_17 : Nat} {A_19 : Option Addr} {n_19 c_19 : Nat} {A_21 : Option Addr} {n_21 c_21 : Nat} {bk_26 : Nat} {cs_26 : List Value} {a_0 : List T_limit_Row} {x_1 : Int} {x_2 : Int} {x_3 : Int} {x_4 : Int} {a_15 : List T_limit_Row} {x_16 : Int} {a_17 : List T_limit_Row} {x_18 : Int} {a_19 : List T_limit_Row} {x_20 : Int} {a_21 : List T_limit_Row} {x_22 : Int} {x_24 : Int} {x_25 : Int} {y_26 : T_limit_Row} {b_27 : Bool} {x_28 : Int} {x_29 : Int} {x_30 : Int} {x_31 : Int} (O : Hold W h0 m0 h m [rR (aE T_limit_Row.T) A_15 c_15 a_15, rR (aE T_limit_Row.T) A_17 c_17 a_17, rR (aE T_limit_Row.T) A_19 c_19 a_19, rR (aE T_limit_Row.T) A_21 c_21 a_21, rV bk_26 138 cs_26]) (ne_0 : n_0 = List.length a_0) (k_0 : List.length a_0 ≤ c_0) (r_0 : Rd 5 T_limit_Row.E m A_0 a_0) (ne_15 : n_15 = List.length a_15) (ne_17 : n_17 = List.length a_17) (ne_19 : n_19 = List.length a_19) (ne_21 : n_21 = List.length a_21) (e_26 : T_limit_Row.E m y_26 cs_26) {r : Bool} (e : roadlaw3_LimitTells.j3 a_0 x_1 x_2 x_3 x_4 a_15 x_16 a_17 x_18 a_19 x_20 a_21 x_22 x_24 x_25 y_26 b_27 x_28 x_29 x_30 x_31 = some r) : f7.j3 (roadlaw3_LimitTells.post W h0 m0 r) A_0 n_0 c_0 x_1 x_2 x_3 x_4 A_15 n_15 c_15 x_16 A_17 n_17 c_17 x_18 A_19 n_19 c_19 x_20 A_21 n_21 c_21 x_22 x_24 x_25 (⟨bk_26, 0, none⟩ : Addr) b_27 x_28 x_29 x_30 x_31 h := by
  unfold roadlaw3_LimitTells.j3 at e
  subst ne_0
  subst ne_15
  subst ne_17
  subst ne_19
  subst ne_21
  refine f7.j3_in ?_
  unfold f7.j3T
  refine split_not ?_
  refine split_any_e e (fun c3 e => ?_) (fun c3 e => ?_)
  · refine ⟨_, ldk (k := 1) (Sub.refl _) (O.all 4 rfl) (T_limit_Row.g1 e_26), _, rfl, ?_⟩
    refine split_dec_e e (fun c2 e => ?_) (fun c2 e => ?_)
    · exact roadlaw3_LimitTells.j4.walk (O.pick [0, 1, 2, 3, 4]).nm rfl k_0 r_0 rfl rfl rfl rfl e_26 e
    · refine ⟨_, ldk (k := 2) (Sub.refl _) (O.all 4 rfl) (T_limit_Row.g2 e_26), _, rfl, ?_⟩
      refine split_dec_e e (fun c1 e => ?_) (fun c1 e => ?_)
      · exact roadlaw3_LimitTells.j4.walk (O.pick [0, 1, 2, 3, 4]).nm rfl k_0 r_0 rfl rfl rfl rfl e_26 e
      · exact roadlaw3_LimitTells.j4.walk (O.pick [0, 1, 2, 3, 4]).nm rfl k_0 r_0 rfl rfl rfl rfl e_26 e
  · exact roadlaw3_LimitTells.j4.walk (O.pick [0, 1, 2, 3, 4]).nm rfl k_0 r_0 rfl rfl rfl rfl e_26 e

noncomputable def roadlaw3_LimitTells.j2 (a_0 : List T_limit_Row) (x_1 : Int) (x_2 : Int) (x_3 : Int) (x_4 : Int) (a_15 : List T_limit_Row) (x_16 : Int) (a_17 : List T_limit_Row) (x_18 : Int) (a_19 : List T_limit_Row) (x_20 : Int) (a_21 : List T_limit_Row) (x_22 : Int) (x_24 : Int) (x_25 : Int) (y_26 : T_limit_Row) (b_27 : Bool) : Option (Bool) :=
  if b_27 = true then (if (IntKind.wrap .i64 (y_26.Letters + x_3)) > y_26.MaxLetters then ((roadlaw3_LimitTells.j3 a_0 x_1 x_2 x_3 x_4 a_15 x_16 a_17 x_18 a_19 x_20 a_21 x_22 x_24 x_25 y_26 b_27 (6 : Int) (0 : Int) (0 : Int) (0 : Int))) else (if (IntKind.wrap .i64 (y_26.Cells + x_4)) > y_26.MaxCells then ((roadlaw3_LimitTells.j3 a_0 x_1 x_2 x_3 x_4 a_15 x_16 a_17 x_18 a_19 x_20 a_21 x_22 x_24 x_25 y_26 b_27 (2 : Int) (0 : Int) (0 : Int) (0 : Int))) else ((roadlaw3_LimitTells.j3 a_0 x_1 x_2 x_3 x_4 a_15 x_16 a_17 x_18 a_19 x_20 a_21 x_22 x_24 x_25 y_26 b_27 (0 : Int) (0 : Int) (0 : Int) (0 : Int))))) else ((roadlaw3_LimitTells.j3 a_0 x_1 x_2 x_3 x_4 a_15 x_16 a_17 x_18 a_19 x_20 a_21 x_22 x_24 x_25 y_26 b_27 (1 : Int) (0 : Int) (0 : Int) (0 : Int)))
set_option maxRecDepth 100000 in
theorem roadlaw3_LimitTells.j2.walk {W : Nat → Prop} {h0 m0 h m : Heap} {A_0 : Option Addr} {n_0 c_0 : Nat} {A_15 : Option Addr} {n_15 c_15 : Nat} {A_17 : Option Addr} {n_17 c_17 : Nat} {A_19 : Option Addr} {n_19 c_19 : Nat} {A_21 : Option Addr} {n_21 c_21 : Nat} {bk_26 : Nat} {cs_26 : List Value} {a_0 : List T_limit_Row} {x_1 : Int} {x_2 : Int} {x_3 : Int} {x_4 : Int} {a_15 : List T_limit_Row} {x_16 : Int} {a_17 : List T_limit_Row} {x_18 : Int} {a_19 : List T_limit_Row} {x_20 : Int} {a_21 : List T_limit_Row} {x_22 : Int} {x_24 : Int} {x_25 : Int} {y_26 : T_limit_Row} {b_27 : Bool} (O : Hold W h0 m0 h m [rR (aE T_limit_Row.T) A_15 c_15 a_15, rR (aE T_limit_Row.T) A_17 c_17 a_17, rR (aE T_limit_Row.T) A_19 c_19 a_19, rR (aE T_limit_Row.T) A_21 c_21 a_21, rV bk_26 138 cs_26]) (ne_0 : n_0 = List.length a_0) (k_0 : List.length a_0 ≤ c_0) (r_0 : Rd 5 T_limit_Row.E m A_0 a_0) (ne_15 : n_15 = List.length a_15) (ne_17 : n_17 = List.length a_17) (ne_19 : n_19 = List.length a_19) (ne_21 : n_21 = List.length a_21) (e_26 : T_limit_Row.E m y_26 cs_26) {r : Bool} (e : roadlaw3_LimitTells.j2 a_0 x_1 x_2 x_3 x_4 a_15 x_16 a_17 x_18 a_19 x_20 a_21 x_22 x_24 x_25 y_26 b_27 = some r) : f7.j2 (roadlaw3_LimitTells.post W h0 m0 r) A_0 n_0 c_0 x_1 x_2 x_3 x_4 A_15 n_15 c_15 x_16 A_17 n_17 c_17 x_18 A_19 n_19 c_19 x_20 A_21 n_21 c_21 x_22 x_24 x_25 (⟨bk_26, 0, none⟩ : Addr) b_27 h := by
  unfold roadlaw3_LimitTells.j2 at e
  subst ne_0
  subst ne_15
  subst ne_17
  subst ne_19
  subst ne_21
  refine f7.j2_in ?_
  unfold f7.j2T
  refine split_not ?_
  refine split_any_e e (fun c3 e => ?_) (fun c3 e => ?_)
  · refine ⟨_, ldk (k := 1) (Sub.refl _) (O.all 4 rfl) (T_limit_Row.g1 e_26), _, rfl, ?_⟩
    refine ⟨_, ldk (k := 3) (Sub.refl _) (O.all 4 rfl) (T_limit_Row.g3 e_26), _, rfl, ?_⟩
    refine split_dec_e e (fun c2 e => ?_) (fun c2 e => ?_)
    · exact roadlaw3_LimitTells.j3.walk (O.pick [0, 1, 2, 3, 4]).nm rfl k_0 r_0 rfl rfl rfl rfl e_26 e
    · refine ⟨_, ldk (k := 2) (Sub.refl _) (O.all 4 rfl) (T_limit_Row.g2 e_26), _, rfl, ?_⟩
      refine ⟨_, ldk (k := 4) (Sub.refl _) (O.all 4 rfl) (T_limit_Row.g4 e_26), _, rfl, ?_⟩
      refine split_dec_e e (fun c1 e => ?_) (fun c1 e => ?_)
      · exact roadlaw3_LimitTells.j3.walk (O.pick [0, 1, 2, 3, 4]).nm rfl k_0 r_0 rfl rfl rfl rfl e_26 e
      · exact roadlaw3_LimitTells.j3.walk (O.pick [0, 1, 2, 3, 4]).nm rfl k_0 r_0 rfl rfl rfl rfl e_26 e
  · exact roadlaw3_LimitTells.j3.walk (O.pick [0, 1, 2, 3, 4]).nm rfl k_0 r_0 rfl rfl rfl rfl e_26 e

noncomputable def roadlaw3_LimitTells.j1 (a_0 : List T_limit_Row) (x_1 : Int) (x_2 : Int) (x_3 : Int) (x_4 : Int) (a_15 : List T_limit_Row) (x_16 : Int) (a_17 : List T_limit_Row) (x_18 : Int) (a_19 : List T_limit_Row) (x_20 : Int) (a_21 : List T_limit_Row) (x_22 : Int) (x_23 : Int) (x_24 : Int) (x_25 : Int) : Option (Bool) :=
  if x_23 = (0 : Int) then (Option.bind (gi a_0 x_24) fun y5 => Option.bind (roadref3_In x_3 (0 : Int) (1073741824 : Int)) fun y18 => if y18 = true then (Option.bind (roadref3_In x_4 (0 : Int) (1073741824 : Int)) fun y25 => (roadlaw3_LimitTells.j2 a_0 x_1 x_2 x_3 x_4 a_15 x_16 a_17 x_18 a_19 x_20 a_21 x_22 x_24 x_25 y5 y25)) else ((roadlaw3_LimitTells.j2 a_0 x_1 x_2 x_3 x_4 a_15 x_16 a_17 x_18 a_19 x_20 a_21 x_22 x_24 x_25 y5 false))) else (if (IntKind.wrap .i64 ((IntKind.wrap .i64 ((IntKind.wrap .i64 ((((List.length a_15) : Nat) : Int) + (((List.length a_17) : Nat) : Int))) + (((List.length a_19) : Nat) : Int))) + (((List.length a_21) : Nat) : Int))) = (0 : Int) then (if x_16 = x_23 then (if x_18 = x_23 then (if x_20 = x_23 then (some ((x_22 == x_23))) else (some (false))) else (some (false))) else (some (false))) else (some (false)))
set_option maxHeartbeats 4000000 in
set_option maxRecDepth 100000 in
theorem roadlaw3_LimitTells.j1.walk {W : Nat → Prop} {h0 m0 h m : Heap} {A_0 : Option Addr} {n_0 c_0 : Nat} {A_15 : Option Addr} {n_15 c_15 : Nat} {A_17 : Option Addr} {n_17 c_17 : Nat} {A_19 : Option Addr} {n_19 c_19 : Nat} {A_21 : Option Addr} {n_21 c_21 : Nat} {a_0 : List T_limit_Row} {x_1 : Int} {x_2 : Int} {x_3 : Int} {x_4 : Int} {a_15 : List T_limit_Row} {x_16 : Int} {a_17 : List T_limit_Row} {x_18 : Int} {a_19 : List T_limit_Row} {x_20 : Int} {a_21 : List T_limit_Row} {x_22 : Int} {x_23 : Int} {x_24 : Int} {x_25 : Int} (O : Hold W h0 m0 h m [rR (aE T_limit_Row.T) A_15 c_15 a_15, rR (aE T_limit_Row.T) A_17 c_17 a_17, rR (aE T_limit_Row.T) A_19 c_19 a_19, rR (aE T_limit_Row.T) A_21 c_21 a_21]) (ne_0 : n_0 = List.length a_0) (k_0 : List.length a_0 ≤ c_0) (r_0 : Rd 5 T_limit_Row.E m A_0 a_0) (ne_15 : n_15 = List.length a_15) (ne_17 : n_17 = List.length a_17) (ne_19 : n_19 = List.length a_19) (ne_21 : n_21 = List.length a_21) {r : Bool} (e : roadlaw3_LimitTells.j1 a_0 x_1 x_2 x_3 x_4 a_15 x_16 a_17 x_18 a_19 x_20 a_21 x_22 x_23 x_24 x_25 = some r) : f7.j1 (roadlaw3_LimitTells.post W h0 m0 r) A_0 n_0 c_0 x_1 x_2 x_3 x_4 A_15 n_15 c_15 x_16 A_17 n_17 c_17 x_18 A_19 n_19 c_19 x_20 A_21 n_21 c_21 x_22 x_23 x_24 x_25 h := by
  unfold roadlaw3_LimitTells.j1 at e
  subst ne_0
  subst ne_15
  subst ne_17
  subst ne_19
  subst ne_21
  refine f7.j1_in ?_
  unfold f7.j1T
  refine split_ne_e e (fun c33 e => ?_) (fun c33 e => ?_)
  · refine split_eq_e e (fun c4 e => ?_) (fun c4 e => ?_)
    · refine split_eq_e e (fun c3 e => ?_) (fun c3 e => ?_)
      · refine split_eq_e e (fun c2 e => ?_) (fun c2 e => ?_)
        · refine split_eq_e e (fun c1 e => ?_) (fun c1 e => ?_)
          · cases e
            exact ⟨_, O.pick [], rfl⟩
          · cases e
            exact ⟨_, O.pick [], rfl⟩
        · cases e
          exact ⟨_, O.pick [], rfl⟩
      · cases e
        exact ⟨_, O.pick [], rfl⟩
    · cases e
      exact ⟨_, O.pick [], rfl⟩
  · obtain ⟨y5, g6, e⟩ := bind_e e
    refine r_0.addr rfl g6 fun a7 cs8 ha9 hc10 he11 => ?_
    refine ⟨_, ldAn O.s hc10 rfl, ?_⟩
    refine O.new fun h12 x13 O14 => ?_
    refine ⟨_, rfl, (T_limit_Row.T.len _ _ _ he11), ?_⟩
    refine O14.stA 4 rfl (T_limit_Row.T.len _ _ _ he11) (T_limit_Row.T.flat _ _ _ he11) fun h16 O17 => ?_
    obtain ⟨y18, g19, e⟩ := bind_e e
    refine (roadref3_In.walk (Hold.start (W := No) O17.s)  g19).mono ?_
    rintro _ h20 ⟨m21, Q22, rfl⟩
    have O24 := Hold.nm (O17.retC Q22 vfs_nil)
    refine ⟨_, rfl, ?_⟩
    refine split_any_e e (fun c32 e => ?_) (fun c32 e => ?_)
    · obtain ⟨y25, g26, e⟩ := bind_e e
      refine (roadref3_In.walk (Hold.start (W := No) O24.s)  g26).mono ?_
      rintro _ h27 ⟨m28, Q29, rfl⟩
      have O31 := Hold.nm (O24.retC Q29 vfs_nil)
      refine ⟨_, rfl, ?_⟩
      exact roadlaw3_LimitTells.j2.walk (O31.pick [0, 1, 2, 3, 4]).nm rfl k_0 r_0 rfl rfl rfl rfl he11 e
    · exact roadlaw3_LimitTells.j2.walk (O24.pick [0, 1, 2, 3, 4]).nm rfl k_0 r_0 rfl rfl rfl rfl he11 e

noncomputable def roadlaw3_LimitTells.j0 (a_0 : List T_limit_Row) (x_1 : Int) (x_2 : Int) (x_3 : Int) (x_4 : Int) : Option (Bool) :=
  Option.bind (limit_Take a_0 x_1 x_3 x_4) fun y1 => Option.bind (limit_Give a_0 x_1 x_3 x_4) fun y13 => Option.bind (limit_Fork a_0 x_1 x_2 x_3 x_4) fun y25 => Option.bind (limit_Join a_0 x_1 x_2) fun y37 => Option.bind (roadref3_LimitFault a_0) fun y49 => Option.bind (limit_Check a_0) fun y56 => if y56 = y49 then (Option.bind (roadref3_LimitAt a_0 x_1) fun y63 => Option.bind (roadref3_LimitAt a_0 x_2) fun y70 => if y49 = (0 : Int) then (if y63 < (0 : Int) then ((roadlaw3_LimitTells.j1 a_0 x_1 x_2 x_3 x_4 y1.1 y1.2 y13.1 y13.2 y25.1 y25.2 y37.1 y37.2 (4 : Int) y63 y70)) else ((roadlaw3_LimitTells.j1 a_0 x_1 x_2 x_3 x_4 y1.1 y1.2 y13.1 y13.2 y25.1 y25.2 y37.1 y37.2 y49 y63 y70))) else ((roadlaw3_LimitTells.j1 a_0 x_1 x_2 x_3 x_4 y1.1 y1.2 y13.1 y13.2 y25.1 y25.2 y37.1 y37.2 y49 y63 y70))) else (some (false))
set_option maxHeartbeats 4000000 in
set_option maxRecDepth 100000 in
theorem roadlaw3_LimitTells.j0.walk {W : Nat → Prop} {h0 m0 h m : Heap} {A_0 : Option Addr} {n_0 c_0 : Nat} {a_0 : List T_limit_Row} {x_1 : Int} {x_2 : Int} {x_3 : Int} {x_4 : Int} (O : Hold W h0 m0 h m []) (ne_0 : n_0 = List.length a_0) (k_0 : List.length a_0 ≤ c_0) (r_0 : Rd 5 T_limit_Row.E m A_0 a_0) {r : Bool} (e : roadlaw3_LimitTells.j0 a_0 x_1 x_2 x_3 x_4 = some r) : f7.j0 (roadlaw3_LimitTells.post W h0 m0 r) A_0 n_0 c_0 x_1 x_2 x_3 x_4 h := by
  unfold roadlaw3_LimitTells.j0 at e
  subst ne_0
  refine f7.j0_in ?_
  unfold f7.j0T
  obtain ⟨y1, g2, e⟩ := bind_e e
  refine (limit_Take.walk (Hold.start (W := No) O.s) rfl k_0 r_0 g2).mono ?_
  rintro _ h3 ⟨m4, A7, n8, c9, Q5, rfl, ne10⟩
  have O12 := Hold.nm (O.retC Q5 (vfs_cons (rR_vf (aE_vf (fun _ _ _ _ h => T_limit_Row.keep h))) vfs_nil))
  subst ne10
  refine ⟨_, _, _, _, rfl, ?_⟩
  obtain ⟨y13, g14, e⟩ := bind_e e
  refine (limit_Give.walk (Hold.start (W := No) O12.s) rfl k_0 r_0 g14).mono ?_
  rintro _ h15 ⟨m16, A19, n20, c21, Q17, rfl, ne22⟩
  have O24 := Hold.nm (O12.retC Q17 (vfs_cons (rR_vf (aE_vf (fun _ _ _ _ h => T_limit_Row.keep h))) vfs_nil))
  subst ne22
  refine ⟨_, _, _, _, rfl, ?_⟩
  obtain ⟨y25, g26, e⟩ := bind_e e
  refine (limit_Fork.walk (Hold.start (W := No) O24.s) rfl k_0 r_0 g26).mono ?_
  rintro _ h27 ⟨m28, A31, n32, c33, Q29, rfl, ne34⟩
  have O36 := Hold.nm (O24.retC Q29 (vfs_cons (rR_vf (aE_vf (fun _ _ _ _ h => T_limit_Row.keep h))) vfs_nil))
  subst ne34
  refine ⟨_, _, _, _, rfl, ?_⟩
  obtain ⟨y37, g38, e⟩ := bind_e e
  refine (limit_Join.walk (Hold.start (W := No) O36.s) rfl k_0 r_0 g38).mono ?_
  rintro _ h39 ⟨m40, A43, n44, c45, Q41, rfl, ne46⟩
  have O48 := Hold.nm (O36.retC Q41 (vfs_cons (rR_vf (aE_vf (fun _ _ _ _ h => T_limit_Row.keep h))) vfs_nil))
  subst ne46
  refine ⟨_, _, _, _, rfl, ?_⟩
  obtain ⟨y49, g50, e⟩ := bind_e e
  refine (roadref3_LimitFault.walk (Hold.start (W := No) O48.s) rfl k_0 r_0 g50).mono ?_
  rintro _ h51 ⟨m52, Q53, rfl⟩
  have O55 := Hold.nm (O48.retC Q53 vfs_nil)
  refine ⟨_, rfl, ?_⟩
  obtain ⟨y56, g57, e⟩ := bind_e e
  refine (limit_Check.walk (Hold.start (W := No) O55.s) rfl k_0 r_0 g57).mono ?_
  rintro _ h58 ⟨m59, Q60, rfl⟩
  have O62 := Hold.nm (O55.retC Q60 vfs_nil)
  refine ⟨_, rfl, ?_⟩
  refine split_ne_e e (fun c79 e => ?_) (fun c79 e => ?_)
  · cases e
    exact ⟨_, O62.pick [], rfl⟩
  · obtain ⟨y63, g64, e⟩ := bind_e e
    refine (roadref3_LimitAt.walk (Hold.start (W := No) O62.s) rfl k_0 r_0 g64).mono ?_
    rintro _ h65 ⟨m66, Q67, rfl⟩
    have O69 := Hold.nm (O62.retC Q67 vfs_nil)
    refine ⟨_, rfl, ?_⟩
    obtain ⟨y70, g71, e⟩ := bind_e e
    refine (roadref3_LimitAt.walk (Hold.start (W := No) O69.s) rfl k_0 r_0 g71).mono ?_
    rintro _ h72 ⟨m73, Q74, rfl⟩
    have O76 := Hold.nm (O69.retC Q74 vfs_nil)
    refine ⟨_, rfl, ?_⟩
    refine split_eq_e e (fun c78 e => ?_) (fun c78 e => ?_)
    · refine split_dec_e e (fun c77 e => ?_) (fun c77 e => ?_)
      · exact roadlaw3_LimitTells.j1.walk (O76.pick [0, 1, 2, 3]).nm rfl k_0 r_0 rfl rfl rfl rfl e
      · exact roadlaw3_LimitTells.j1.walk (O76.pick [0, 1, 2, 3]).nm rfl k_0 r_0 rfl rfl rfl rfl e
    · exact roadlaw3_LimitTells.j1.walk (O76.pick [0, 1, 2, 3]).nm rfl k_0 r_0 rfl rfl rfl rfl e

noncomputable def roadlaw3_LimitTells (a_0 : List T_limit_Row) (x_1 : Int) (x_2 : Int) (x_3 : Int) (x_4 : Int) (y_5 : T_api_Value) : Option (Bool) :=
  Option.bind (roadlaw3_flat y_5) fun y5 => if y5 = true then (Option.bind (roadref3_Deep y_5) fun y12 => Option.bind (limit_Cells y_5) fun y19 => if y19 = y12.2 then ((roadlaw3_LimitTells.j0 a_0 x_1 x_2 x_3 x_4)) else (some (false))) else ((roadlaw3_LimitTells.j0 a_0 x_1 x_2 x_3 x_4))
set_option maxRecDepth 100000 in
theorem roadlaw3_LimitTells.walk {W : Nat → Prop} {h m : Heap} {A_0 : Option Addr} {n_0 c_0 : Nat} {cs_5 : List Value} {a_0 : List T_limit_Row} {x_1 : Int} {x_2 : Int} {x_3 : Int} {x_4 : Int} {y_5 : T_api_Value} (O : Hold W h m h m []) (ne_0 : n_0 = List.length a_0) (k_0 : List.length a_0 ≤ c_0) (r_0 : Rd 5 T_limit_Row.E m A_0 a_0) (e_5 : T_api_Value.E m y_5 cs_5) {r : Bool} (e : roadlaw3_LimitTells a_0 x_1 x_2 x_3 x_4 y_5 = some r) : Run Try.prog 7 #[Value.slice A_0 n_0 c_0, Value.int .i64 x_1, Value.int .i64 x_2, Value.int .i64 x_3, Value.int .i64 x_4, Value.agg cs_5.toArray] h (roadlaw3_LimitTells.post W h m r) := by
  unfold roadlaw3_LimitTells at e
  subst ne_0
  refine f7.run ?_
  unfold f7.runT
  refine O.new fun h1 x2 O3 => ?_
  refine ⟨_, ldAn (Sub.refl _) (O3.all 0 rfl) (T_api_Value.T.len _ _ _ e_5), ?_⟩
  obtain ⟨y5, g6, e⟩ := bind_e e
  refine (roadlaw3_flat.walk (Hold.start (W := No) O3.s) e_5 g6).mono ?_
  rintro _ h7 ⟨m8, Q9, rfl⟩
  have O11 := Hold.nm (O3.retC Q9 vfs_nil)
  refine ⟨_, rfl, ?_⟩
  refine split_any_e e (fun c27 e => ?_) (fun c27 e => ?_)
  · refine ⟨_, ldAn (Sub.refl _) (O11.all 0 rfl) (T_api_Value.T.len _ _ _ e_5), ?_⟩
    obtain ⟨y12, g13, e⟩ := bind_e e
    refine (roadref3_Deep.walk (Hold.start (W := No) O11.s) e_5 g13).mono ?_
    rintro _ h14 ⟨m15, Q16, rfl⟩
    have O18 := Hold.nm (O11.retC Q16 vfs_nil)
    refine ⟨_, _, rfl, ?_⟩
    refine ⟨_, ldAn (Sub.refl _) (O18.all 0 rfl) (T_api_Value.T.len _ _ _ e_5), ?_⟩
    obtain ⟨y19, g20, e⟩ := bind_e e
    refine (limit_Cells.walk (Hold.start (W := No) O18.s) e_5 g20).mono ?_
    rintro _ h21 ⟨m22, Q23, rfl⟩
    have O25 := Hold.nm (O18.retC Q23 vfs_nil)
    refine ⟨_, rfl, ?_⟩
    refine split_ne_e e (fun c26 e => ?_) (fun c26 e => ?_)
    · cases e
      exact ⟨_, O25.pick [], rfl⟩
    · exact roadlaw3_LimitTells.j0.walk (O25.pick []).nm rfl k_0 r_0 e
  · exact roadlaw3_LimitTells.j0.walk (O11.pick []).nm rfl k_0 r_0 e

end Go.Proofs.Ytklobcelbpjjcac.Fw
