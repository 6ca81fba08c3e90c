/- Part 4: what the law TraitSays needs, put together out of texts of this session. -/
import Derived.Test.YtkbhpagogmmgnaaDoorZTraitSaysc
section
namespace Go.Proofs.YtkbhpagogmmgnaaDoor.Fw
open Go Go.Hw Go.Proofs
set_option linter.unusedVariables false
set_option maxRecDepth 100000
set_option synthInstance.maxHeartbeats 400000
set_option synthInstance.maxSize 1000
abbrev TB (m : Heap) : Prop := TBb 3 0 m
theorem TB.sub {m h : Heap} (t : TB m) (s : Sub m h) : TB h := TBb.sub t s
structure T_api_Type where
  Kind : Int
  Name : ByteArray
  Args : (List T_api_Type)
def T_api_Type.E (h : Heap) : T_api_Type → List Value → Prop
  | ⟨f0, f1, f2⟩, cs => ∃ A2 c2, cs = [.int .i64 f0, .string f1, .slice A2 f2.length c2] ∧ f2.length ≤ c2 ∧ (∀ i (hi : i < f2.length), ∃ a ds, A2 = some a ∧ cellsH h (a.add (i * 3)) 0 3 = some ds ∧ T_api_Type.E h f2[i] ds)
  termination_by x => SizeOf.sizeOf x
  decreasing_by
    all_goals
      have h1 := List.sizeOf_lt_of_mem (List.getElem_mem hi)
      first
      | (simp_all; omega)
theorem T_api_Type.iff {h : Heap} {x : T_api_Type} {cs : List Value} : T_api_Type.E h x cs ↔ ∃ A2 c2, cs = [.int .i64 x.Kind, .string x.Name, .slice A2 x.Args.length c2] ∧ x.Args.length ≤ c2 ∧ Rd 3 T_api_Type.E h A2 x.Args := by
  cases x
  rw [T_api_Type.E]
  exact Iff.rfl
theorem T_api_Type.mono {m h : Heap} (s : Sub m h) : ∀ (x : T_api_Type) (cs : List Value), T_api_Type.E m x cs → T_api_Type.E h x cs
  | ⟨f0, f1, f2⟩, cs, e => by
    rw [T_api_Type.E] at e ⊢
    obtain ⟨A2, c2, h1, k2, r2⟩ := e
    exact ⟨A2, c2, h1, k2, fun i hi => let ⟨a, ds, h1, h2, h3⟩ := r2 i hi; ⟨a, ds, h1, s.cells _ _ h2, T_api_Type.mono s _ _ h3⟩⟩
  termination_by x => SizeOf.sizeOf x
  decreasing_by
    all_goals
      have h1 := List.sizeOf_lt_of_mem (List.getElem_mem hi)
      first
      | (simp_all; omega)
theorem T_api_Type.T : Tell 3 T_api_Type.E := ⟨fun _ _ x cs s e => T_api_Type.mono s x cs e, by intro h x cs e; obtain ⟨A2, c2, rfl, k2, r2⟩ := T_api_Type.iff.1 e; rfl, by intro h x cs e; obtain ⟨A2, c2, rfl, k2, r2⟩ := T_api_Type.iff.1 e; exact Flats.cons trivial (Flats.cons trivial (Flats.cons trivial Flats.nil))⟩
def T_api_Type.Q : T_api_Type → Prop
  | ⟨f0, f1, f2⟩ => (-9223372036854775808 ≤ f0 ∧ f0 ≤ 9223372036854775807) ∧ (f1.size ≤ 140737488351232) ∧ (f2.length * 48 ≤ 140737488351232 ∧ ∀ i (hi : i < f2.length), T_api_Type.Q f2[i])
  termination_by x => SizeOf.sizeOf x
  decreasing_by
    all_goals
      have h1 := List.sizeOf_lt_of_mem (List.getElem_mem hi)
      first
      | (simp_all; omega)
theorem T_api_Type.Q_iff {x : T_api_Type} : T_api_Type.Q x ↔ (-9223372036854775808 ≤ x.Kind ∧ x.Kind ≤ 9223372036854775807) ∧ (x.Name.size ≤ 140737488351232) ∧ (x.Args.length * 48 ≤ 140737488351232 ∧ ∀ a ∈ x.Args, T_api_Type.Q a) := by
  obtain ⟨f0, f1, f2⟩ := x
  rw [T_api_Type.Q]
  show _ ↔ (-9223372036854775808 ≤ f0 ∧ f0 ≤ 9223372036854775807) ∧ (f1.size ≤ 140737488351232) ∧ (f2.length * 48 ≤ 140737488351232 ∧ ∀ a ∈ f2, T_api_Type.Q a)
  rw [← forall_get (l := f2) (p := T_api_Type.Q)]
theorem T_api_Type.tells {H : Type} {enc : TypeId × Value → H} {W : World} : Tells enc Tryd.prog W 32 T_api_Type.E T_api_Type.Q := tells_rec fun N ih => tellsU_map (tellsU_struct (t := 32) (fs := [(3, 0), (9, 1), (30, 2)]) (T := 3) (by kernel_rfl) (by kernel_rfl) (tfU_cons (s := 1) (f := 3) (by kernel_rfl) (Tells.up (tells_i64 (t := 3) (by kernel_rfl))) (tfU_cons (s := 1) (f := 9) (by kernel_rfl) (Tells.up (tells_strL (t := 9) (by kernel_rfl))) (tfU_cons (s := 1) (f := 30) (by kernel_rfl) (tellsU_slice (t := 30) (e := 32) (sz := 3) (B := 48) (by kernel_rfl) (by kernel_rfl) (by kernel_rfl) ih) tfU_nil)))) (by
  rintro ⟨x0, x1, x2, ⟨⟩⟩ cs e q
  obtain ⟨c0, r0, rfl, e0, c1, r1, rfl, e1, c2, r2, rfl, e2, eN⟩ := e
  obtain rfl : c0 = [.int .i64 x0] := e0
  obtain rfl : c1 = [.string x1] := e1
  obtain ⟨A2, k2, rfl, l2, R2⟩ := e2
  obtain rfl : r2 = [] := eN
  exact ⟨⟨x0, x1, x2⟩, T_api_Type.iff.2 ⟨_, _, rfl, l2, R2⟩, T_api_Type.Q_iff.2 ⟨q.1, q.2.1, q.2.2.1⟩⟩)
def T_api_Type.bulk : T_api_Type → Nat
  | ⟨f0, f1, f2⟩ => (1 + ((f1.size + 1) + (((f2.attach.map fun y => T_api_Type.bulk y.1).sum + 1) + (0)))) + 1
  termination_by x => SizeOf.sizeOf x
  decreasing_by
    all_goals
      have h1 := List.sizeOf_lt_of_mem y.2
      first
      | (simp_all; omega)
theorem T_api_Type.bulk_eq (x : T_api_Type) : T_api_Type.bulk x = (1 + ((x.Name.size + 1) + (((List.map T_api_Type.bulk x.Args).sum + 1) + (0)))) + 1 := by
  obtain ⟨f0, f1, f2⟩ := x
  rw [T_api_Type.bulk]
  rw [(List.attach_map_val : (f2.attach.map fun i => T_api_Type.bulk i.1) = f2.map T_api_Type.bulk)]
theorem T_api_Type.kt {H : Type} {bk : DataW H → Nat} {enc : TypeId × Value → H} {W : World} {N : Nat} (M : Measure bk) : KT N bk enc Tryd.prog W 32 T_api_Type.E T_api_Type.bulk := kt_rec (fun N ih => kt_map (kt_struct M (t := 32) (fs := [(3, 0), (9, 1), (30, 2)]) (T := 3) (by kernel_rfl) (by kernel_rfl) (ktf_cons (s := 1) (f := 3) (by kernel_rfl) (tell_int .i64) (kt_one M) (ktf_cons (s := 1) (f := 9) (by kernel_rfl) tell_str (kt_str (t := 9) M (by kernel_rfl)) (ktf_cons (s := 1) (f := 30) (by kernel_rfl) (tell_row T_api_Type.T) (kt_slice M (t := 30) (e := 32) (sz := 3) (by kernel_rfl) (by kernel_rfl) ih) ktf_nil)))) (fun x cs e => by
  obtain ⟨A2, c2, rfl, k2, r2⟩ := T_api_Type.iff.1 e
  exact ⟨(x.Kind, x.Name, x.Args, ()), ⟨[.int .i64 x.Kind], _, rfl, rfl, ⟨[.string x.Name], _, rfl, rfl, ⟨[.slice A2 x.Args.length c2], _, rfl, ⟨_, _, rfl, k2, r2⟩, rfl⟩⟩⟩, by rw [T_api_Type.bulk_eq]; exact Nat.le_refl _⟩)) N
structure T_api_Pat where
  Kind : Int
  Num : Int
  Text : ByteArray
  Args : (List T_api_Pat)
def T_api_Pat.E (h : Heap) : T_api_Pat → List Value → Prop
  | ⟨f0, f1, f2, f3⟩, cs => ∃ A3 c3, cs = [.int .i64 f0, .int .i64 f1, .string f2, .slice A3 f3.length c3] ∧ f3.length ≤ c3 ∧ (∀ i (hi : i < f3.length), ∃ a ds, A3 = some a ∧ cellsH h (a.add (i * 4)) 0 4 = some ds ∧ T_api_Pat.E h f3[i] ds)
  termination_by x => SizeOf.sizeOf x
  decreasing_by
    all_goals
      have h1 := List.sizeOf_lt_of_mem (List.getElem_mem hi)
      first
      | (simp_all; omega)
theorem T_api_Pat.iff {h : Heap} {x : T_api_Pat} {cs : List Value} : T_api_Pat.E h x cs ↔ ∃ A3 c3, cs = [.int .i64 x.Kind, .int .i64 x.Num, .string x.Text, .slice A3 x.Args.length c3] ∧ x.Args.length ≤ c3 ∧ Rd 4 T_api_Pat.E h A3 x.Args := by
  cases x
  rw [T_api_Pat.E]
  exact Iff.rfl
theorem T_api_Pat.mono {m h : Heap} (s : Sub m h) : ∀ (x : T_api_Pat) (cs : List Value), T_api_Pat.E m x cs → T_api_Pat.E h x cs
  | ⟨f0, f1, f2, f3⟩, cs, e => by
    rw [T_api_Pat.E] at e ⊢
    obtain ⟨A3, c3, h1, k3, r3⟩ := e
    exact ⟨A3, c3, h1, k3, fun i hi => let ⟨a, ds, h1, h2, h3⟩ := r3 i hi; ⟨a, ds, h1, s.cells _ _ h2, T_api_Pat.mono s _ _ h3⟩⟩
  termination_by x => SizeOf.sizeOf x
  decreasing_by
    all_goals
      have h1 := List.sizeOf_lt_of_mem (List.getElem_mem hi)
      first
      | (simp_all; omega)
theorem T_api_Pat.T : Tell 4 T_api_Pat.E := ⟨fun _ _ x cs s e => T_api_Pat.mono s x cs e, by intro h x cs e; obtain ⟨A3, c3, rfl, k3, r3⟩ := T_api_Pat.iff.1 e; rfl, by intro h x cs e; obtain ⟨A3, c3, rfl, k3, r3⟩ := T_api_Pat.iff.1 e; exact Flats.cons trivial (Flats.cons trivial (Flats.cons trivial (Flats.cons trivial Flats.nil)))⟩
def T_api_Pat.Q : T_api_Pat → Prop
  | ⟨f0, f1, f2, f3⟩ => (-9223372036854775808 ≤ f0 ∧ f0 ≤ 9223372036854775807) ∧ (-9223372036854775808 ≤ f1 ∧ f1 ≤ 9223372036854775807) ∧ (f2.size ≤ 140737488351232) ∧ (f3.length * 56 ≤ 140737488351232 ∧ ∀ i (hi : i < f3.length), T_api_Pat.Q f3[i])
  termination_by x => SizeOf.sizeOf x
  decreasing_by
    all_goals
      have h1 := List.sizeOf_lt_of_mem (List.getElem_mem hi)
      first
      | (simp_all; omega)
theorem T_api_Pat.Q_iff {x : T_api_Pat} : T_api_Pat.Q x ↔ (-9223372036854775808 ≤ x.Kind ∧ x.Kind ≤ 9223372036854775807) ∧ (-9223372036854775808 ≤ x.Num ∧ x.Num ≤ 9223372036854775807) ∧ (x.Text.size ≤ 140737488351232) ∧ (x.Args.length * 56 ≤ 140737488351232 ∧ ∀ a ∈ x.Args, T_api_Pat.Q a) := by
  obtain ⟨f0, f1, f2, f3⟩ := x
  rw [T_api_Pat.Q]
  show _ ↔ (-9223372036854775808 ≤ f0 ∧ f0 ≤ 9223372036854775807) ∧ (-9223372036854775808 ≤ f1 ∧ f1 ≤ 9223372036854775807) ∧ (f2.size ≤ 140737488351232) ∧ (f3.length * 56 ≤ 140737488351232 ∧ ∀ a ∈ f3, T_api_Pat.Q a)
  rw [← forall_get (l := f3) (p := T_api_Pat.Q)]
theorem T_api_Pat.tells {H : Type} {enc : TypeId × Value → H} {W : World} : Tells enc Tryd.prog W 238 T_api_Pat.E T_api_Pat.Q := tells_rec fun N ih => tellsU_map (tellsU_struct (t := 238) (fs := [(3, 0), (3, 1), (9, 2), (236, 3)]) (T := 4) (by kernel_rfl) (by kernel_rfl) (tfU_cons (s := 1) (f := 3) (by kernel_rfl) (Tells.up (tells_i64 (t := 3) (by kernel_rfl))) (tfU_cons (s := 1) (f := 3) (by kernel_rfl) (Tells.up (tells_i64 (t := 3) (by kernel_rfl))) (tfU_cons (s := 1) (f := 9) (by kernel_rfl) (Tells.up (tells_strL (t := 9) (by kernel_rfl))) (tfU_cons (s := 1) (f := 236) (by kernel_rfl) (tellsU_slice (t := 236) (e := 238) (sz := 4) (B := 56) (by kernel_rfl) (by kernel_rfl) (by kernel_rfl) ih) tfU_nil))))) (by
  rintro ⟨x0, x1, x2, x3, ⟨⟩⟩ cs e q
  obtain ⟨c0, r0, rfl, e0, c1, r1, rfl, e1, c2, r2, rfl, e2, c3, r3, rfl, e3, eN⟩ := e
  obtain rfl : c0 = [.int .i64 x0] := e0
  obtain rfl : c1 = [.int .i64 x1] := e1
  obtain rfl : c2 = [.string x2] := e2
  obtain ⟨A3, k3, rfl, l3, R3⟩ := e3
  obtain rfl : r3 = [] := eN
  exact ⟨⟨x0, x1, x2, x3⟩, T_api_Pat.iff.2 ⟨_, _, rfl, l3, R3⟩, T_api_Pat.Q_iff.2 ⟨q.1, q.2.1, q.2.2.1, q.2.2.2.1⟩⟩)
def T_api_Pat.bulk : T_api_Pat → Nat
  | ⟨f0, f1, f2, f3⟩ => (1 + (1 + ((f2.size + 1) + (((f3.attach.map fun y => T_api_Pat.bulk y.1).sum + 1) + (0))))) + 1
  termination_by x => SizeOf.sizeOf x
  decreasing_by
    all_goals
      have h1 := List.sizeOf_lt_of_mem y.2
      first
      | (simp_all; omega)
theorem T_api_Pat.bulk_eq (x : T_api_Pat) : T_api_Pat.bulk x = (1 + (1 + ((x.Text.size + 1) + (((List.map T_api_Pat.bulk x.Args).sum + 1) + (0))))) + 1 := by
  obtain ⟨f0, f1, f2, f3⟩ := x
  rw [T_api_Pat.bulk]
  rw [(List.attach_map_val : (f3.attach.map fun i => T_api_Pat.bulk i.1) = f3.map T_api_Pat.bulk)]
theorem T_api_Pat.kt {H : Type} {bk : DataW H → Nat} {enc : TypeId × Value → H} {W : World} {N : Nat} (M : Measure bk) : KT N bk enc Tryd.prog W 238 T_api_Pat.E T_api_Pat.bulk := kt_rec (fun N ih => kt_map (kt_struct M (t := 238) (fs := [(3, 0), (3, 1), (9, 2), (236, 3)]) (T := 4) (by kernel_rfl) (by kernel_rfl) (ktf_cons (s := 1) (f := 3) (by kernel_rfl) (tell_int .i64) (kt_one M) (ktf_cons (s := 1) (f := 3) (by kernel_rfl) (tell_int .i64) (kt_one M) (ktf_cons (s := 1) (f := 9) (by kernel_rfl) tell_str (kt_str (t := 9) M (by kernel_rfl)) (ktf_cons (s := 1) (f := 236) (by kernel_rfl) (tell_row T_api_Pat.T) (kt_slice M (t := 236) (e := 238) (sz := 4) (by kernel_rfl) (by kernel_rfl) ih) ktf_nil))))) (fun x cs e => by
  obtain ⟨A3, c3, rfl, k3, r3⟩ := T_api_Pat.iff.1 e
  exact ⟨(x.Kind, x.Num, x.Text, x.Args, ()), ⟨[.int .i64 x.Kind], _, rfl, rfl, ⟨[.int .i64 x.Num], _, rfl, rfl, ⟨[.string x.Text], _, rfl, rfl, ⟨[.slice A3 x.Args.length c3], _, rfl, ⟨_, _, rfl, k3, r3⟩, rfl⟩⟩⟩⟩, by rw [T_api_Pat.bulk_eq]; exact Nat.le_refl _⟩)) N
mutual
structure T_api_Expr where
  Kind : Int
  Num : Int
  Text : ByteArray
  Names : (List ByteArray)
  Types : (List T_api_Type)
  Args : (List T_api_Expr)
  Arms : (List T_api_Arm)
  At : Int
structure T_api_Arm where
  Pat : T_api_Pat
  Body : T_api_Expr
end
theorem T_api_Arm.lt_Body (x : T_api_Arm) : SizeOf.sizeOf x.Body < SizeOf.sizeOf x := by cases x; simp; omega
def T_api_Expr.E (h : Heap) : T_api_Expr → List Value → Prop
  | ⟨f0, f1, f2, f3, f4, f5, f6, f7⟩, cs => ∃ A3 c3 A4 c4 A5 c5 A6 c6, cs = [.int .i64 f0, .int .i64 f1, .string f2, .slice A3 f3.length c3, .slice A4 f4.length c4, .slice A5 f5.length c5, .slice A6 f6.length c6, .int .i64 f7] ∧ f3.length ≤ c3 ∧ Rd 1 eStr h A3 f3 ∧ f4.length ≤ c4 ∧ Rd 3 T_api_Type.E h A4 f4 ∧ f5.length ≤ c5 ∧ (∀ i (hi : i < f5.length), ∃ a ds, A5 = some a ∧ cellsH h (a.add (i * 8)) 0 8 = some ds ∧ T_api_Expr.E h f5[i] ds) ∧ f6.length ≤ c6 ∧ (∀ i (hi : i < f6.length), ∃ a ds, A6 = some a ∧ cellsH h (a.add (i * 12)) 0 12 = some ds ∧ ∃ d0 d1, ds = d0 ++ d1 ∧ T_api_Pat.E h f6[i].Pat d0 ∧ T_api_Expr.E h f6[i].Body d1)
  termination_by x => SizeOf.sizeOf x
  decreasing_by
    all_goals
      have h1 := List.sizeOf_lt_of_mem (List.getElem_mem hi)
      first
      | (simp_all; omega)
      | (have h2 := T_api_Arm.lt_Body (f6[i]'hi); simp_all; omega)
def T_api_Arm.E (h : Heap) (x : T_api_Arm) (cs : List Value) : Prop := ∃ d0 d1, cs = d0 ++ d1 ∧ T_api_Pat.E h x.Pat d0 ∧ T_api_Expr.E h x.Body d1
theorem T_api_Expr.iff {h : Heap} {x : T_api_Expr} {cs : List Value} : T_api_Expr.E h x cs ↔ ∃ A3 c3 A4 c4 A5 c5 A6 c6, cs = [.int .i64 x.Kind, .int .i64 x.Num, .string x.Text, .slice A3 x.Names.length c3, .slice A4 x.Types.length c4, .slice A5 x.Args.length c5, .slice A6 x.Arms.length c6, .int .i64 x.At] ∧ x.Names.length ≤ c3 ∧ Rd 1 eStr h A3 x.Names ∧ x.Types.length ≤ c4 ∧ Rd 3 T_api_Type.E h A4 x.Types ∧ x.Args.length ≤ c5 ∧ Rd 8 T_api_Expr.E h A5 x.Args ∧ x.Arms.length ≤ c6 ∧ Rd 12 T_api_Arm.E h A6 x.Arms := by
  cases x
  rw [T_api_Expr.E]
  exact Iff.rfl
theorem T_api_Expr.mono {m h : Heap} (s : Sub m h) : ∀ (x : T_api_Expr) (cs : List Value), T_api_Expr.E m x cs → T_api_Expr.E h x cs
  | ⟨f0, f1, f2, f3, f4, f5, f6, f7⟩, cs, e => by
    rw [T_api_Expr.E] at e ⊢
    obtain ⟨A3, c3, A4, c4, A5, c5, A6, c6, h1, k3, r3, k4, r4, k5, r5, k6, r6⟩ := e
    exact ⟨A3, c3, A4, c4, A5, c5, A6, c6, h1, k3, r3.sub tell_str s, k4, r4.sub T_api_Type.T s, k5, fun i hi => let ⟨a, ds, h1, h2, h3⟩ := r5 i hi; ⟨a, ds, h1, s.cells _ _ h2, T_api_Expr.mono s _ _ h3⟩, k6, fun i hi => let ⟨a, ds, h1, h2, d0, d1, h4, e0, e1⟩ := r6 i hi; ⟨a, ds, h1, s.cells _ _ h2, d0, d1, h4, T_api_Pat.T.mono _ _ _ _ s e0, T_api_Expr.mono s _ _ e1⟩⟩
  termination_by x => SizeOf.sizeOf x
  decreasing_by
    all_goals
      have h1 := List.sizeOf_lt_of_mem (List.getElem_mem hi)
      first
      | (simp_all; omega)
      | (have h2 := T_api_Arm.lt_Body (f6[i]'hi); simp_all; omega)
theorem T_api_Expr.T : Tell 8 T_api_Expr.E := ⟨fun _ _ x cs s e => T_api_Expr.mono s x cs e, by intro h x cs e; obtain ⟨A3, c3, A4, c4, A5, c5, A6, c6, rfl, k3, r3, k4, r4, k5, r5, k6, r6⟩ := T_api_Expr.iff.1 e; rfl, by intro h x cs e; obtain ⟨A3, c3, A4, c4, A5, c5, A6, c6, rfl, k3, r3, k4, r4, k5, r5, k6, r6⟩ := T_api_Expr.iff.1 e; exact Flats.cons trivial (Flats.cons trivial (Flats.cons trivial (Flats.cons trivial (Flats.cons trivial (Flats.cons trivial (Flats.cons trivial (Flats.cons trivial Flats.nil)))))))⟩
theorem T_api_Arm.iff {h : Heap} {x : T_api_Arm} {cs : List Value} : T_api_Arm.E h x cs ↔ ∃ A3 c3 A7 c7 A8 c8 A9 c9 A10 c10, cs = [.int .i64 x.Pat.Kind, .int .i64 x.Pat.Num, .string x.Pat.Text, .slice A3 x.Pat.Args.length c3, .int .i64 x.Body.Kind, .int .i64 x.Body.Num, .string x.Body.Text, .slice A7 x.Body.Names.length c7, .slice A8 x.Body.Types.length c8, .slice A9 x.Body.Args.length c9, .slice A10 x.Body.Arms.length c10, .int .i64 x.Body.At] ∧ x.Pat.Args.length ≤ c3 ∧ Rd 4 T_api_Pat.E h A3 x.Pat.Args ∧ x.Body.Names.length ≤ c7 ∧ Rd 1 eStr h A7 x.Body.Names ∧ x.Body.Types.length ≤ c8 ∧ Rd 3 T_api_Type.E h A8 x.Body.Types ∧ x.Body.Args.length ≤ c9 ∧ Rd 8 T_api_Expr.E h A9 x.Body.Args ∧ x.Body.Arms.length ≤ c10 ∧ Rd 12 T_api_Arm.E h A10 x.Body.Arms := by
  constructor
  · rintro ⟨d0, d1, rfl, e0, e1⟩
    obtain ⟨A3, c3, rfl, k3, r3⟩ := T_api_Pat.iff.1 e0
    obtain ⟨A7, c7, A8, c8, A9, c9, A10, c10, rfl, k7, r7, k8, r8, k9, r9, k10, r10⟩ := T_api_Expr.iff.1 e1
    exact ⟨A3, c3, A7, c7, A8, c8, A9, c9, A10, c10, rfl, k3, r3, k7, r7, k8, r8, k9, r9, k10, r10⟩
  · rintro ⟨A3, c3, A7, c7, A8, c8, A9, c9, A10, c10, rfl, k3, r3, k7, r7, k8, r8, k9, r9, k10, r10⟩
    exact ⟨[.int .i64 x.Pat.Kind, .int .i64 x.Pat.Num, .string x.Pat.Text, .slice A3 x.Pat.Args.length c3], [.int .i64 x.Body.Kind, .int .i64 x.Body.Num, .string x.Body.Text, .slice A7 x.Body.Names.length c7, .slice A8 x.Body.Types.length c8, .slice A9 x.Body.Args.length c9, .slice A10 x.Body.Arms.length c10, .int .i64 x.Body.At], rfl, T_api_Pat.iff.2 ⟨A3, c3, rfl, k3, r3⟩, T_api_Expr.iff.2 ⟨A7, c7, A8, c8, A9, c9, A10, c10, rfl, k7, r7, k8, r8, k9, r9, k10, r10⟩⟩
theorem T_api_Arm.T : Tell 12 T_api_Arm.E := ⟨by rintro m h x _ s ⟨d0, d1, rfl, e0, e1⟩; exact ⟨d0, d1, rfl, T_api_Pat.T.mono _ _ _ _ s e0, T_api_Expr.T.mono _ _ _ _ s e1⟩, by intro h x cs e; obtain ⟨A3, c3, A7, c7, A8, c8, A9, c9, A10, c10, rfl, k3, r3, k7, r7, k8, r8, k9, r9, k10, r10⟩ := T_api_Arm.iff.1 e; rfl, by intro h x cs e; obtain ⟨A3, c3, A7, c7, A8, c8, A9, c9, A10, c10, rfl, k3, r3, k7, r7, k8, r8, k9, r9, k10, r10⟩ := T_api_Arm.iff.1 e; exact Flats.cons trivial (Flats.cons trivial (Flats.cons trivial (Flats.cons trivial (Flats.cons trivial (Flats.cons trivial (Flats.cons trivial (Flats.cons trivial (Flats.cons trivial (Flats.cons trivial (Flats.cons trivial (Flats.cons trivial Flats.nil)))))))))))⟩
def T_api_Expr.Q : T_api_Expr → Prop
  | ⟨f0, f1, f2, f3, f4, f5, f6, f7⟩ => (-9223372036854775808 ≤ f0 ∧ f0 ≤ 9223372036854775807) ∧ (-9223372036854775808 ≤ f1 ∧ f1 ≤ 9223372036854775807) ∧ (f2.size ≤ 140737488351232) ∧ (f3.length * 16 ≤ 140737488351232 ∧ ∀ a ∈ f3, (a.size ≤ 140737488351232)) ∧ (f4.length * 48 ≤ 140737488351232 ∧ ∀ a ∈ f4, (T_api_Type.Q a)) ∧ (f5.length * 136 ≤ 140737488351232 ∧ ∀ i (hi : i < f5.length), T_api_Expr.Q f5[i]) ∧ (f6.length * 192 ≤ 140737488351232 ∧ ∀ i (hi : i < f6.length), (T_api_Pat.Q f6[i].Pat) ∧ (T_api_Expr.Q f6[i].Body)) ∧ (-9223372036854775808 ≤ f7 ∧ f7 ≤ 9223372036854775807)
  termination_by x => SizeOf.sizeOf x
  decreasing_by
    all_goals
      have h1 := List.sizeOf_lt_of_mem (List.getElem_mem hi)
      first
      | (simp_all; omega)
      | (have h2 := T_api_Arm.lt_Body (f6[i]'hi); simp_all; omega)
def T_api_Arm.Q (x : T_api_Arm) : Prop := (T_api_Pat.Q x.Pat) ∧ (T_api_Expr.Q x.Body)
theorem T_api_Expr.Q_iff {x : T_api_Expr} : T_api_Expr.Q x ↔ (-9223372036854775808 ≤ x.Kind ∧ x.Kind ≤ 9223372036854775807) ∧ (-9223372036854775808 ≤ x.Num ∧ x.Num ≤ 9223372036854775807) ∧ (x.Text.size ≤ 140737488351232) ∧ (x.Names.length * 16 ≤ 140737488351232 ∧ ∀ a ∈ x.Names, (a.size ≤ 140737488351232)) ∧ (x.Types.length * 48 ≤ 140737488351232 ∧ ∀ a ∈ x.Types, (T_api_Type.Q a)) ∧ (x.Args.length * 136 ≤ 140737488351232 ∧ ∀ a ∈ x.Args, T_api_Expr.Q a) ∧ (x.Arms.length * 192 ≤ 140737488351232 ∧ ∀ a ∈ x.Arms, T_api_Arm.Q a) ∧ (-9223372036854775808 ≤ x.At ∧ x.At ≤ 9223372036854775807) := by
  obtain ⟨f0, f1, f2, f3, f4, f5, f6, f7⟩ := x
  rw [T_api_Expr.Q]
  show _ ↔ (-9223372036854775808 ≤ f0 ∧ f0 ≤ 9223372036854775807) ∧ (-9223372036854775808 ≤ f1 ∧ f1 ≤ 9223372036854775807) ∧ (f2.size ≤ 140737488351232) ∧ (f3.length * 16 ≤ 140737488351232 ∧ ∀ a ∈ f3, (a.size ≤ 140737488351232)) ∧ (f4.length * 48 ≤ 140737488351232 ∧ ∀ a ∈ f4, (T_api_Type.Q a)) ∧ (f5.length * 136 ≤ 140737488351232 ∧ ∀ a ∈ f5, T_api_Expr.Q a) ∧ (f6.length * 192 ≤ 140737488351232 ∧ ∀ a ∈ f6, T_api_Arm.Q a) ∧ (-9223372036854775808 ≤ f7 ∧ f7 ≤ 9223372036854775807)
  rw [← forall_get (l := f5) (p := T_api_Expr.Q), ← forall_get (l := f6) (p := T_api_Arm.Q)]
  exact Iff.rfl
theorem T_api_Arm.tellsU {H : Type} {enc : TypeId × Value → H} {W : World} {N : Nat} (ih : TellsU N enc Tryd.prog W 54 T_api_Expr.E T_api_Expr.Q) : TellsU (N + 1) enc Tryd.prog W 240 T_api_Arm.E T_api_Arm.Q := tellsU_map (tellsU_struct (t := 240) (fs := [(238, 0), (54, 4)]) (T := 12) (by kernel_rfl) (by kernel_rfl) (tfU_cons (s := 4) (f := 238) (by kernel_rfl) (Tells.up T_api_Pat.tells) (tfU_cons (s := 8) (f := 54) (by kernel_rfl) ih tfU_nil))) (by
  rintro ⟨x0, x1, ⟨⟩⟩ cs e q
  obtain ⟨c0, r0, rfl, e0, c1, r1, rfl, e1, eN⟩ := e
  obtain rfl : r1 = [] := eN
  exact ⟨⟨x0, x1⟩, ⟨_, _, by simp, e0, e1⟩, q.1, q.2.1⟩)
theorem T_api_Expr.tells {H : Type} {enc : TypeId × Value → H} {W : World} : Tells enc Tryd.prog W 54 T_api_Expr.E T_api_Expr.Q := tells_rec fun N ih => tellsU_map (tellsU_struct (t := 54) (fs := [(3, 0), (3, 1), (9, 2), (50, 3), (30, 4), (51, 5), (52, 6), (3, 7)]) (T := 8) (by kernel_rfl) (by kernel_rfl) (tfU_cons (s := 1) (f := 3) (by kernel_rfl) (Tells.up (tells_i64 (t := 3) (by kernel_rfl))) (tfU_cons (s := 1) (f := 3) (by kernel_rfl) (Tells.up (tells_i64 (t := 3) (by kernel_rfl))) (tfU_cons (s := 1) (f := 9) (by kernel_rfl) (Tells.up (tells_strL (t := 9) (by kernel_rfl))) (tfU_cons (s := 1) (f := 50) (by kernel_rfl) (Tells.up (tells_sliceL (t := 50) (e := 9) (sz := 1) (B := 16) (by kernel_rfl) (by kernel_rfl) (by kernel_rfl) (tells_strL (t := 9) (by kernel_rfl)))) (tfU_cons (s := 1) (f := 30) (by kernel_rfl) (Tells.up (tells_sliceL (t := 30) (e := 32) (sz := 3) (B := 48) (by kernel_rfl) (by kernel_rfl) (by kernel_rfl) T_api_Type.tells)) (tfU_cons (s := 1) (f := 51) (by kernel_rfl) (tellsU_slice (t := 51) (e := 54) (sz := 8) (B := 136) (by kernel_rfl) (by kernel_rfl) (by kernel_rfl) ih) (tfU_cons (s := 1) (f := 52) (by kernel_rfl) (tellsU_slice (t := 52) (e := 240) (sz := 12) (B := 192) (by kernel_rfl) (by kernel_rfl) (by kernel_rfl) (tellsU_down (T_api_Arm.tellsU ih))) (tfU_cons (s := 1) (f := 3) (by kernel_rfl) (Tells.up (tells_i64 (t := 3) (by kernel_rfl))) tfU_nil))))))))) (by
  rintro ⟨x0, x1, x2, x3, x4, x5, x6, x7, ⟨⟩⟩ cs e q
  obtain ⟨c0, r0, rfl, e0, c1, r1, rfl, e1, c2, r2, rfl, e2, c3, r3, rfl, e3, c4, r4, rfl, e4, c5, r5, rfl, e5, c6, r6, rfl, e6, c7, r7, rfl, e7, eN⟩ := e
  obtain rfl : c0 = [.int .i64 x0] := e0
  obtain rfl : c1 = [.int .i64 x1] := e1
  obtain rfl : c2 = [.string x2] := e2
  obtain ⟨A3, k3, rfl, l3, R3⟩ := e3
  obtain ⟨A4, k4, rfl, l4, R4⟩ := e4
  obtain ⟨A5, k5, rfl, l5, R5⟩ := e5
  obtain ⟨A6, k6, rfl, l6, R6⟩ := e6
  obtain rfl : c7 = [.int .i64 x7] := e7
  obtain rfl : r7 = [] := eN
  exact ⟨⟨x0, x1, x2, x3, x4, x5, x6, x7⟩, T_api_Expr.iff.2 ⟨_, _, _, _, _, _, _, _, rfl, l3, R3, l4, R4, l5, R5, l6, R6⟩, T_api_Expr.Q_iff.2 ⟨q.1, q.2.1, q.2.2.1, q.2.2.2.1, q.2.2.2.2.1, q.2.2.2.2.2.1, q.2.2.2.2.2.2.1, q.2.2.2.2.2.2.2.1⟩⟩)
def T_api_Expr.bulk : T_api_Expr → Nat
  | ⟨f0, f1, f2, f3, f4, f5, f6, f7⟩ => (1 + (1 + ((f2.size + 1) + (((List.map (fun s : ByteArray => s.size + 1) f3).sum + 1) + (((List.map T_api_Type.bulk f4).sum + 1) + (((f5.attach.map fun y => T_api_Expr.bulk y.1).sum + 1) + (((f6.attach.map fun y => ((T_api_Pat.bulk y.1.Pat) + ((T_api_Expr.bulk y.1.Body) + (0))) + 1).sum + 1) + (1 + (0))))))))) + 1
  termination_by x => SizeOf.sizeOf x
  decreasing_by
    all_goals
      have h1 := List.sizeOf_lt_of_mem y.2
      first
      | (simp_all; omega)
      | (have h2 := T_api_Arm.lt_Body y.1; simp_all; omega)
def T_api_Arm.bulk (x : T_api_Arm) : Nat := ((T_api_Pat.bulk x.Pat) + ((T_api_Expr.bulk x.Body) + (0))) + 1
theorem T_api_Expr.bulk_eq (x : T_api_Expr) : T_api_Expr.bulk x = (1 + (1 + ((x.Text.size + 1) + (((List.map (fun s : ByteArray => s.size + 1) x.Names).sum + 1) + (((List.map T_api_Type.bulk x.Types).sum + 1) + (((List.map T_api_Expr.bulk x.Args).sum + 1) + (((List.map T_api_Arm.bulk x.Arms).sum + 1) + (1 + (0))))))))) + 1 := by
  obtain ⟨f0, f1, f2, f3, f4, f5, f6, f7⟩ := x
  rw [T_api_Expr.bulk]
  rw [(List.attach_map_val : (f5.attach.map fun i => T_api_Expr.bulk i.1) = f5.map T_api_Expr.bulk)]
  rw [show (f6.attach.map fun y => ((T_api_Pat.bulk y.1.Pat) + ((T_api_Expr.bulk y.1.Body) + (0))) + 1) = (f6.attach.map fun y => T_api_Arm.bulk y.1) from rfl, (List.attach_map_val : (f6.attach.map fun i => T_api_Arm.bulk i.1) = f6.map T_api_Arm.bulk)]
theorem T_api_Arm.ktU {H : Type} {bk : DataW H → Nat} {enc : TypeId × Value → H} {W : World} {N : Nat} (M : Measure bk) (ih : KT N bk enc Tryd.prog W 54 T_api_Expr.E T_api_Expr.bulk) : KT (N + 1) bk enc Tryd.prog W 240 T_api_Arm.E T_api_Arm.bulk := kt_map (kt_struct M (t := 240) (fs := [(238, 0), (54, 4)]) (T := 12) (by kernel_rfl) (by kernel_rfl) (ktf_cons (s := 4) (f := 238) (by kernel_rfl) T_api_Pat.T (T_api_Pat.kt M) (ktf_cons (s := 8) (f := 54) (by kernel_rfl) T_api_Expr.T ih ktf_nil))) (fun x cs e => by
  obtain ⟨d0, d1, rfl, e0, e1⟩ := e
  exact ⟨(x.Pat, x.Body, ()), ⟨d0, _, rfl, e0, ⟨d1, _, (List.append_nil _).symm, e1, rfl⟩⟩, Nat.le_refl _⟩)
theorem T_api_Expr.kt {H : Type} {bk : DataW H → Nat} {enc : TypeId × Value → H} {W : World} {N : Nat} (M : Measure bk) : KT N bk enc Tryd.prog W 54 T_api_Expr.E T_api_Expr.bulk := kt_rec (fun N ih => kt_map (kt_struct M (t := 54) (fs := [(3, 0), (3, 1), (9, 2), (50, 3), (30, 4), (51, 5), (52, 6), (3, 7)]) (T := 8) (by kernel_rfl) (by kernel_rfl) (ktf_cons (s := 1) (f := 3) (by kernel_rfl) (tell_int .i64) (kt_one M) (ktf_cons (s := 1) (f := 3) (by kernel_rfl) (tell_int .i64) (kt_one M) (ktf_cons (s := 1) (f := 9) (by kernel_rfl) tell_str (kt_str (t := 9) M (by kernel_rfl)) (ktf_cons (s := 1) (f := 50) (by kernel_rfl) (tell_row tell_str) (kt_slice M (t := 50) (e := 9) (sz := 1) (by kernel_rfl) (by kernel_rfl) (kt_str (t := 9) M (by kernel_rfl))) (ktf_cons (s := 1) (f := 30) (by kernel_rfl) (tell_row T_api_Type.T) (kt_slice M (t := 30) (e := 32) (sz := 3) (by kernel_rfl) (by kernel_rfl) (T_api_Type.kt M)) (ktf_cons (s := 1) (f := 51) (by kernel_rfl) (tell_row T_api_Expr.T) (kt_slice M (t := 51) (e := 54) (sz := 8) (by kernel_rfl) (by kernel_rfl) ih) (ktf_cons (s := 1) (f := 52) (by kernel_rfl) (tell_row T_api_Arm.T) (kt_slice M (t := 52) (e := 240) (sz := 12) (by kernel_rfl) (by kernel_rfl) (kt_down (T_api_Arm.ktU M ih))) (ktf_cons (s := 1) (f := 3) (by kernel_rfl) (tell_int .i64) (kt_one M) ktf_nil))))))))) (fun x cs e => by
  obtain ⟨A3, c3, A4, c4, A5, c5, A6, c6, rfl, k3, r3, k4, r4, k5, r5, k6, r6⟩ := T_api_Expr.iff.1 e
  exact ⟨(x.Kind, x.Num, x.Text, x.Names, x.Types, x.Args, x.Arms, x.At, ()), ⟨[.int .i64 x.Kind], _, rfl, rfl, ⟨[.int .i64 x.Num], _, rfl, rfl, ⟨[.string x.Text], _, rfl, rfl, ⟨[.slice A3 x.Names.length c3], _, rfl, ⟨_, _, rfl, k3, r3⟩, ⟨[.slice A4 x.Types.length c4], _, rfl, ⟨_, _, rfl, k4, r4⟩, ⟨[.slice A5 x.Args.length c5], _, rfl, ⟨_, _, rfl, k5, r5⟩, ⟨[.slice A6 x.Arms.length c6], _, rfl, ⟨_, _, rfl, k6, r6⟩, ⟨[.int .i64 x.At], _, rfl, rfl, rfl⟩⟩⟩⟩⟩⟩⟩⟩, by rw [T_api_Expr.bulk_eq]; exact Nat.le_refl _⟩)) N
structure T_api_Func where
  Name : ByteArray
  Params : (List ByteArray)
  Names : (List ByteArray)
  Types : (List T_api_Type)
  Out : T_api_Type
  Body : T_api_Expr
def T_api_Func.E (h : Heap) (x : T_api_Func) (cs : List Value) : Prop := ∃ A1 c1 A2 c2 A3 c3 A6 c6 A10 c10 A11 c11 A12 c12 A13 c13, cs = [.string x.Name, .slice A1 x.Params.length c1, .slice A2 x.Names.length c2, .slice A3 x.Types.length c3, .int .i64 x.Out.Kind, .string x.Out.Name, .slice A6 x.Out.Args.length c6, .int .i64 x.Body.Kind, .int .i64 x.Body.Num, .string x.Body.Text, .slice A10 x.Body.Names.length c10, .slice A11 x.Body.Types.length c11, .slice A12 x.Body.Args.length c12, .slice A13 x.Body.Arms.length c13, .int .i64 x.Body.At] ∧ x.Params.length ≤ c1 ∧ Rd 1 eStr h A1 x.Params ∧ x.Names.length ≤ c2 ∧ Rd 1 eStr h A2 x.Names ∧ x.Types.length ≤ c3 ∧ Rd 3 T_api_Type.E h A3 x.Types ∧ x.Out.Args.length ≤ c6 ∧ Rd 3 T_api_Type.E h A6 x.Out.Args ∧ x.Body.Names.length ≤ c10 ∧ Rd 1 eStr h A10 x.Body.Names ∧ x.Body.Types.length ≤ c11 ∧ Rd 3 T_api_Type.E h A11 x.Body.Types ∧ x.Body.Args.length ≤ c12 ∧ Rd 8 T_api_Expr.E h A12 x.Body.Args ∧ x.Body.Arms.length ≤ c13 ∧ Rd 12 T_api_Arm.E h A13 x.Body.Arms
theorem T_api_Func.T : Tell 15 T_api_Func.E := ⟨by rintro m h x _ s ⟨A1, c1, A2, c2, A3, c3, A6, c6, A10, c10, A11, c11, A12, c12, A13, c13, rfl, k1, r1, k2, r2, k3, r3, k6, r6, k10, r10, k11, r11, k12, r12, k13, r13⟩; exact ⟨_, _, _, _, _, _, _, _, _, _, _, _, _, _, _, _, rfl, k1, r1.sub tell_str s, k2, r2.sub tell_str s, k3, r3.sub T_api_Type.T s, k6, r6.sub T_api_Type.T s, k10, r10.sub tell_str s, k11, r11.sub T_api_Type.T s, k12, r12.sub T_api_Expr.T s, k13, r13.sub T_api_Arm.T s⟩, by rintro h x _ ⟨A1, c1, A2, c2, A3, c3, A6, c6, A10, c10, A11, c11, A12, c12, A13, c13, rfl, k1, r1, k2, r2, k3, r3, k6, r6, k10, r10, k11, r11, k12, r12, k13, r13⟩; rfl, by rintro h x _ ⟨A1, c1, A2, c2, A3, c3, A6, c6, A10, c10, A11, c11, A12, c12, A13, c13, rfl, k1, r1, k2, r2, k3, r3, k6, r6, k10, r10, k11, r11, k12, r12, k13, r13⟩; exact Flats.cons trivial (Flats.cons trivial (Flats.cons trivial (Flats.cons trivial (Flats.cons trivial (Flats.cons trivial (Flats.cons trivial (Flats.cons trivial (Flats.cons trivial (Flats.cons trivial (Flats.cons trivial (Flats.cons trivial (Flats.cons trivial (Flats.cons trivial (Flats.cons trivial Flats.nil))))))))))))))⟩
def T_api_Func.Q (x : T_api_Func) : Prop := (x.Name.size ≤ 140737488351232) ∧ (x.Params.length * 16 ≤ 140737488351232 ∧ ∀ a ∈ x.Params, (a.size ≤ 140737488351232)) ∧ (x.Names.length * 16 ≤ 140737488351232 ∧ ∀ a ∈ x.Names, (a.size ≤ 140737488351232)) ∧ (x.Types.length * 48 ≤ 140737488351232 ∧ ∀ a ∈ x.Types, (T_api_Type.Q a)) ∧ (T_api_Type.Q x.Out) ∧ (T_api_Expr.Q x.Body)
theorem T_api_Func.tells {H : Type} {enc : TypeId × Value → H} {W : World} : Tells enc Tryd.prog W 56 T_api_Func.E T_api_Func.Q := tells_map (tells_struct (t := 56) (fs := [(9, 0), (50, 1), (50, 2), (30, 3), (32, 4), (54, 7)]) (T := 15) (by kernel_rfl) (by kernel_rfl) (tf_cons (s := 1) (f := 9) (by kernel_rfl) (tells_strL (t := 9) (by kernel_rfl)) (tf_cons (s := 1) (f := 50) (by kernel_rfl) (tells_sliceL (t := 50) (e := 9) (sz := 1) (B := 16) (by kernel_rfl) (by kernel_rfl) (by kernel_rfl) (tells_strL (t := 9) (by kernel_rfl))) (tf_cons (s := 1) (f := 50) (by kernel_rfl) (tells_sliceL (t := 50) (e := 9) (sz := 1) (B := 16) (by kernel_rfl) (by kernel_rfl) (by kernel_rfl) (tells_strL (t := 9) (by kernel_rfl))) (tf_cons (s := 1) (f := 30) (by kernel_rfl) (tells_sliceL (t := 30) (e := 32) (sz := 3) (B := 48) (by kernel_rfl) (by kernel_rfl) (by kernel_rfl) T_api_Type.tells) (tf_cons (s := 3) (f := 32) (by kernel_rfl) T_api_Type.tells (tf_cons (s := 8) (f := 54) (by kernel_rfl) T_api_Expr.tells tf_nil))))))) (by
  rintro ⟨x0, x1, x2, x3, x4, x5, ⟨⟩⟩ cs e q
  obtain ⟨c0, r0, rfl, e0, c1, r1, rfl, e1, c2, r2, rfl, e2, c3, r3, rfl, e3, c4, r4, rfl, e4, c5, r5, rfl, e5, eN⟩ := e
  obtain rfl : c0 = [.string x0] := e0
  obtain ⟨A1, k1, rfl, l1, R1⟩ := e1
  obtain ⟨A2, k2, rfl, l2, R2⟩ := e2
  obtain ⟨A3, k3, rfl, l3, R3⟩ := e3
  obtain ⟨A4_2, k4_2, rfl, l4_2, R4_2⟩ := T_api_Type.iff.1 e4
  obtain ⟨A5_3, k5_3, A5_4, k5_4, A5_5, k5_5, A5_6, k5_6, rfl, l5_3, R5_3, l5_4, R5_4, l5_5, R5_5, l5_6, R5_6⟩ := T_api_Expr.iff.1 e5
  obtain rfl : r5 = [] := eN
  exact ⟨⟨x0, x1, x2, x3, x4, x5⟩, ⟨_, _, _, _, _, _, _, _, _, _, _, _, _, _, _, _, rfl, l1, R1, l2, R2, l3, R3, l4_2, R4_2, l5_3, R5_3, l5_4, R5_4, l5_5, R5_5, l5_6, R5_6⟩, q.1, q.2.1, q.2.2.1, q.2.2.2.1, q.2.2.2.2.1, q.2.2.2.2.2.1⟩)
def T_api_Func.bulk (x : T_api_Func) : Nat := ((x.Name.size + 1) + (((List.map (fun s : ByteArray => s.size + 1) x.Params).sum + 1) + (((List.map (fun s : ByteArray => s.size + 1) x.Names).sum + 1) + (((List.map T_api_Type.bulk x.Types).sum + 1) + ((T_api_Type.bulk x.Out) + ((T_api_Expr.bulk x.Body) + (0))))))) + 1
theorem T_api_Func.kt {H : Type} {bk : DataW H → Nat} {enc : TypeId × Value → H} {W : World} {N : Nat} (M : Measure bk) : KT N bk enc Tryd.prog W 56 T_api_Func.E T_api_Func.bulk := kt_down (kt_map (kt_struct M (t := 56) (fs := [(9, 0), (50, 1), (50, 2), (30, 3), (32, 4), (54, 7)]) (T := 15) (by kernel_rfl) (by kernel_rfl) (ktf_cons (s := 1) (f := 9) (by kernel_rfl) tell_str (kt_str (t := 9) M (by kernel_rfl)) (ktf_cons (s := 1) (f := 50) (by kernel_rfl) (tell_row tell_str) (kt_slice M (t := 50) (e := 9) (sz := 1) (by kernel_rfl) (by kernel_rfl) (kt_str (t := 9) M (by kernel_rfl))) (ktf_cons (s := 1) (f := 50) (by kernel_rfl) (tell_row tell_str) (kt_slice M (t := 50) (e := 9) (sz := 1) (by kernel_rfl) (by kernel_rfl) (kt_str (t := 9) M (by kernel_rfl))) (ktf_cons (s := 1) (f := 30) (by kernel_rfl) (tell_row T_api_Type.T) (kt_slice M (t := 30) (e := 32) (sz := 3) (by kernel_rfl) (by kernel_rfl) (T_api_Type.kt M)) (ktf_cons (s := 3) (f := 32) (by kernel_rfl) T_api_Type.T (T_api_Type.kt M) (ktf_cons (s := 8) (f := 54) (by kernel_rfl) T_api_Expr.T (T_api_Expr.kt M) ktf_nil))))))) (fun x cs e => by
  obtain ⟨A1, c1, A2, c2, A3, c3, A4_2, c4_2, A5_3, c5_3, A5_4, c5_4, A5_5, c5_5, A5_6, c5_6, rfl, k1, r1, k2, r2, k3, r3, k4_2, r4_2, k5_3, r5_3, k5_4, r5_4, k5_5, r5_5, k5_6, r5_6⟩ := e
  exact ⟨(x.Name, x.Params, x.Names, x.Types, x.Out, x.Body, ()), ⟨[.string x.Name], _, rfl, rfl, ⟨[.slice A1 x.Params.length c1], _, rfl, ⟨_, _, rfl, k1, r1⟩, ⟨[.slice A2 x.Names.length c2], _, rfl, ⟨_, _, rfl, k2, r2⟩, ⟨[.slice A3 x.Types.length c3], _, rfl, ⟨_, _, rfl, k3, r3⟩, ⟨[.int .i64 x.Out.Kind, .string x.Out.Name, .slice A4_2 x.Out.Args.length c4_2], _, rfl, T_api_Type.iff.2 ⟨_, _, rfl, k4_2, r4_2⟩, ⟨[.int .i64 x.Body.Kind, .int .i64 x.Body.Num, .string x.Body.Text, .slice A5_3 x.Body.Names.length c5_3, .slice A5_4 x.Body.Types.length c5_4, .slice A5_5 x.Body.Args.length c5_5, .slice A5_6 x.Body.Arms.length c5_6, .int .i64 x.Body.At], _, rfl, T_api_Expr.iff.2 ⟨_, _, _, _, _, _, _, _, rfl, k5_3, r5_3, k5_4, r5_4, k5_5, r5_5, k5_6, r5_6⟩, rfl⟩⟩⟩⟩⟩⟩, Nat.le_refl _⟩))
structure T_api_Trait where
  Name : ByteArray
  Funcs : (List T_api_Func)
def T_api_Trait.E (h : Heap) (x : T_api_Trait) (cs : List Value) : Prop := ∃ A1 c1, cs = [.string x.Name, .slice A1 x.Funcs.length c1] ∧ x.Funcs.length ≤ c1 ∧ Rd 15 T_api_Func.E h A1 x.Funcs
theorem T_api_Trait.T : Tell 2 T_api_Trait.E := ⟨by rintro m h x _ s ⟨A1, c1, rfl, k1, r1⟩; exact ⟨_, _, rfl, k1, r1.sub T_api_Func.T s⟩, by rintro h x _ ⟨A1, c1, rfl, k1, r1⟩; rfl, by rintro h x _ ⟨A1, c1, rfl, k1, r1⟩; exact Flats.cons trivial (Flats.cons trivial Flats.nil)⟩
def T_api_Trait.Q (x : T_api_Trait) : Prop := (x.Name.size ≤ 140737488351232) ∧ (x.Funcs.length * 272 ≤ 140737488351232 ∧ ∀ a ∈ x.Funcs, (T_api_Func.Q a))
theorem T_api_Trait.tells {H : Type} {enc : TypeId × Value → H} {W : World} : Tells enc Tryd.prog W 37 T_api_Trait.E T_api_Trait.Q := tells_map (tells_struct (t := 37) (fs := [(9, 0), (26, 1)]) (T := 2) (by kernel_rfl) (by kernel_rfl) (tf_cons (s := 1) (f := 9) (by kernel_rfl) (tells_strL (t := 9) (by kernel_rfl)) (tf_cons (s := 1) (f := 26) (by kernel_rfl) (tells_sliceL (t := 26) (e := 56) (sz := 15) (B := 272) (by kernel_rfl) (by kernel_rfl) (by kernel_rfl) T_api_Func.tells) tf_nil))) (by
  rintro ⟨x0, x1, ⟨⟩⟩ cs e q
  obtain ⟨c0, r0, rfl, e0, c1, r1, rfl, e1, eN⟩ := e
  obtain rfl : c0 = [.string x0] := e0
  obtain ⟨A1, k1, rfl, l1, R1⟩ := e1
  obtain rfl : r1 = [] := eN
  exact ⟨⟨x0, x1⟩, ⟨_, _, rfl, l1, R1⟩, q.1, q.2.1⟩)
def T_api_Trait.bulk (x : T_api_Trait) : Nat := ((x.Name.size + 1) + (((List.map T_api_Func.bulk x.Funcs).sum + 1) + (0))) + 1
theorem T_api_Trait.kt {H : Type} {bk : DataW H → Nat} {enc : TypeId × Value → H} {W : World} {N : Nat} (M : Measure bk) : KT N bk enc Tryd.prog W 37 T_api_Trait.E T_api_Trait.bulk := kt_down (kt_map (kt_struct M (t := 37) (fs := [(9, 0), (26, 1)]) (T := 2) (by kernel_rfl) (by kernel_rfl) (ktf_cons (s := 1) (f := 9) (by kernel_rfl) tell_str (kt_str (t := 9) M (by kernel_rfl)) (ktf_cons (s := 1) (f := 26) (by kernel_rfl) (tell_row T_api_Func.T) (kt_slice M (t := 26) (e := 56) (sz := 15) (by kernel_rfl) (by kernel_rfl) (T_api_Func.kt M)) ktf_nil))) (fun x cs e => by
  obtain ⟨A1, c1, rfl, k1, r1⟩ := e
  exact ⟨(x.Name, x.Funcs, ()), ⟨[.string x.Name], _, rfl, rfl, ⟨[.slice A1 x.Funcs.length c1], _, rfl, ⟨_, _, rfl, k1, r1⟩, rfl⟩⟩, Nat.le_refl _⟩))
structure T_api_Impl where
  Trait : ByteArray
  For : ByteArray
  Funcs : (List T_api_Func)
def T_api_Impl.E (h : Heap) (x : T_api_Impl) (cs : List Value) : Prop := ∃ A2 c2, cs = [.string x.Trait, .string x.For, .slice A2 x.Funcs.length c2] ∧ x.Funcs.length ≤ c2 ∧ Rd 15 T_api_Func.E h A2 x.Funcs
theorem T_api_Impl.T : Tell 3 T_api_Impl.E := ⟨by rintro m h x _ s ⟨A2, c2, rfl, k2, r2⟩; exact ⟨_, _, rfl, k2, r2.sub T_api_Func.T s⟩, by rintro h x _ ⟨A2, c2, rfl, k2, r2⟩; rfl, by rintro h x _ ⟨A2, c2, rfl, k2, r2⟩; exact Flats.cons trivial (Flats.cons trivial (Flats.cons trivial Flats.nil))⟩
def T_api_Impl.Q (x : T_api_Impl) : Prop := (x.Trait.size ≤ 140737488351232) ∧ (x.For.size ≤ 140737488351232) ∧ (x.Funcs.length * 272 ≤ 140737488351232 ∧ ∀ a ∈ x.Funcs, (T_api_Func.Q a))
theorem T_api_Impl.tells {H : Type} {enc : TypeId × Value → H} {W : World} : Tells enc Tryd.prog W 45 T_api_Impl.E T_api_Impl.Q := tells_map (tells_struct (t := 45) (fs := [(9, 0), (9, 1), (26, 2)]) (T := 3) (by kernel_rfl) (by kernel_rfl) (tf_cons (s := 1) (f := 9) (by kernel_rfl) (tells_strL (t := 9) (by kernel_rfl)) (tf_cons (s := 1) (f := 9) (by kernel_rfl) (tells_strL (t := 9) (by kernel_rfl)) (tf_cons (s := 1) (f := 26) (by kernel_rfl) (tells_sliceL (t := 26) (e := 56) (sz := 15) (B := 272) (by kernel_rfl) (by kernel_rfl) (by kernel_rfl) T_api_Func.tells) tf_nil)))) (by
  rintro ⟨x0, x1, x2, ⟨⟩⟩ cs e q
  obtain ⟨c0, r0, rfl, e0, c1, r1, rfl, e1, c2, r2, rfl, e2, eN⟩ := e
  obtain rfl : c0 = [.string x0] := e0
  obtain rfl : c1 = [.string x1] := e1
  obtain ⟨A2, k2, rfl, l2, R2⟩ := e2
  obtain rfl : r2 = [] := eN
  exact ⟨⟨x0, x1, x2⟩, ⟨_, _, rfl, l2, R2⟩, q.1, q.2.1, q.2.2.1⟩)
def T_api_Impl.bulk (x : T_api_Impl) : Nat := ((x.Trait.size + 1) + ((x.For.size + 1) + (((List.map T_api_Func.bulk x.Funcs).sum + 1) + (0)))) + 1
theorem T_api_Impl.kt {H : Type} {bk : DataW H → Nat} {enc : TypeId × Value → H} {W : World} {N : Nat} (M : Measure bk) : KT N bk enc Tryd.prog W 45 T_api_Impl.E T_api_Impl.bulk := kt_down (kt_map (kt_struct M (t := 45) (fs := [(9, 0), (9, 1), (26, 2)]) (T := 3) (by kernel_rfl) (by kernel_rfl) (ktf_cons (s := 1) (f := 9) (by kernel_rfl) tell_str (kt_str (t := 9) M (by kernel_rfl)) (ktf_cons (s := 1) (f := 9) (by kernel_rfl) tell_str (kt_str (t := 9) M (by kernel_rfl)) (ktf_cons (s := 1) (f := 26) (by kernel_rfl) (tell_row T_api_Func.T) (kt_slice M (t := 26) (e := 56) (sz := 15) (by kernel_rfl) (by kernel_rfl) (T_api_Func.kt M)) ktf_nil)))) (fun x cs e => by
  obtain ⟨A2, c2, rfl, k2, r2⟩ := e
  exact ⟨(x.Trait, x.For, x.Funcs, ()), ⟨[.string x.Trait], _, rfl, rfl, ⟨[.string x.For], _, rfl, rfl, ⟨[.slice A2 x.Funcs.length c2], _, rfl, ⟨_, _, rfl, k2, r2⟩, rfl⟩⟩⟩, Nat.le_refl _⟩))
structure T_api_Use where
  Name : ByteArray
  Low : Int
  High : Int
def T_api_Use.E (h : Heap) (x : T_api_Use) (cs : List Value) : Prop := cs = [.string x.Name, .int .i64 x.Low, .int .i64 x.High]
theorem T_api_Use.T : Tell 3 T_api_Use.E := ⟨by rintro m h x _ s rfl; exact rfl, by rintro h x _ rfl; rfl, by rintro h x _ rfl; exact Flats.cons trivial (Flats.cons trivial (Flats.cons trivial Flats.nil))⟩
def T_api_Use.Q (x : T_api_Use) : Prop := (x.Name.size ≤ 140737488351232) ∧ (-9223372036854775808 ≤ x.Low ∧ x.Low ≤ 9223372036854775807) ∧ (-9223372036854775808 ≤ x.High ∧ x.High ≤ 9223372036854775807)
theorem T_api_Use.tells {H : Type} {enc : TypeId × Value → H} {W : World} : Tells enc Tryd.prog W 233 T_api_Use.E T_api_Use.Q := tells_map (tells_struct (t := 233) (fs := [(9, 0), (3, 1), (3, 2)]) (T := 3) (by kernel_rfl) (by kernel_rfl) (tf_cons (s := 1) (f := 9) (by kernel_rfl) (tells_strL (t := 9) (by kernel_rfl)) (tf_cons (s := 1) (f := 3) (by kernel_rfl) (tells_i64 (t := 3) (by kernel_rfl)) (tf_cons (s := 1) (f := 3) (by kernel_rfl) (tells_i64 (t := 3) (by kernel_rfl)) tf_nil)))) (by
  rintro ⟨x0, x1, x2, ⟨⟩⟩ cs e q
  obtain ⟨c0, r0, rfl, e0, c1, r1, rfl, e1, c2, r2, rfl, e2, eN⟩ := e
  obtain rfl : c0 = [.string x0] := e0
  obtain rfl : c1 = [.int .i64 x1] := e1
  obtain rfl : c2 = [.int .i64 x2] := e2
  obtain rfl : r2 = [] := eN
  exact ⟨⟨x0, x1, x2⟩, rfl, q.1, q.2.1, q.2.2.1⟩)
def T_api_Use.bulk (x : T_api_Use) : Nat := ((x.Name.size + 1) + (1 + (1 + (0)))) + 1
theorem T_api_Use.kt {H : Type} {bk : DataW H → Nat} {enc : TypeId × Value → H} {W : World} {N : Nat} (M : Measure bk) : KT N bk enc Tryd.prog W 233 T_api_Use.E T_api_Use.bulk := kt_down (kt_map (kt_struct M (t := 233) (fs := [(9, 0), (3, 1), (3, 2)]) (T := 3) (by kernel_rfl) (by kernel_rfl) (ktf_cons (s := 1) (f := 9) (by kernel_rfl) tell_str (kt_str (t := 9) M (by kernel_rfl)) (ktf_cons (s := 1) (f := 3) (by kernel_rfl) (tell_int .i64) (kt_one M) (ktf_cons (s := 1) (f := 3) (by kernel_rfl) (tell_int .i64) (kt_one M) ktf_nil)))) (fun x cs e => by
  obtain rfl := e
  exact ⟨(x.Name, x.Low, x.High, ()), ⟨[.string x.Name], _, rfl, rfl, ⟨[.int .i64 x.Low], _, rfl, rfl, ⟨[.int .i64 x.High], _, rfl, rfl, rfl⟩⟩⟩, Nat.le_refl _⟩))
structure T_api_Make where
  Name : ByteArray
  Args : (List T_api_Type)
def T_api_Make.E (h : Heap) (x : T_api_Make) (cs : List Value) : Prop := ∃ A1 c1, cs = [.string x.Name, .slice A1 x.Args.length c1] ∧ x.Args.length ≤ c1 ∧ Rd 3 T_api_Type.E h A1 x.Args
theorem T_api_Make.T : Tell 2 T_api_Make.E := ⟨by rintro m h x _ s ⟨A1, c1, rfl, k1, r1⟩; exact ⟨_, _, rfl, k1, r1.sub T_api_Type.T s⟩, by rintro h x _ ⟨A1, c1, rfl, k1, r1⟩; rfl, by rintro h x _ ⟨A1, c1, rfl, k1, r1⟩; exact Flats.cons trivial (Flats.cons trivial Flats.nil)⟩
def T_api_Make.Q (x : T_api_Make) : Prop := (x.Name.size ≤ 140737488351232) ∧ (x.Args.length * 48 ≤ 140737488351232 ∧ ∀ a ∈ x.Args, (T_api_Type.Q a))
theorem T_api_Make.tells {H : Type} {enc : TypeId × Value → H} {W : World} : Tells enc Tryd.prog W 242 T_api_Make.E T_api_Make.Q := tells_map (tells_struct (t := 242) (fs := [(9, 0), (30, 1)]) (T := 2) (by kernel_rfl) (by kernel_rfl) (tf_cons (s := 1) (f := 9) (by kernel_rfl) (tells_strL (t := 9) (by kernel_rfl)) (tf_cons (s := 1) (f := 30) (by kernel_rfl) (tells_sliceL (t := 30) (e := 32) (sz := 3) (B := 48) (by kernel_rfl) (by kernel_rfl) (by kernel_rfl) T_api_Type.tells) tf_nil))) (by
  rintro ⟨x0, x1, ⟨⟩⟩ cs e q
  obtain ⟨c0, r0, rfl, e0, c1, r1, rfl, e1, eN⟩ := e
  obtain rfl : c0 = [.string x0] := e0
  obtain ⟨A1, k1, rfl, l1, R1⟩ := e1
  obtain rfl : r1 = [] := eN
  exact ⟨⟨x0, x1⟩, ⟨_, _, rfl, l1, R1⟩, q.1, q.2.1⟩)
def T_api_Make.bulk (x : T_api_Make) : Nat := ((x.Name.size + 1) + (((List.map T_api_Type.bulk x.Args).sum + 1) + (0))) + 1
theorem T_api_Make.kt {H : Type} {bk : DataW H → Nat} {enc : TypeId × Value → H} {W : World} {N : Nat} (M : Measure bk) : KT N bk enc Tryd.prog W 242 T_api_Make.E T_api_Make.bulk := kt_down (kt_map (kt_struct M (t := 242) (fs := [(9, 0), (30, 1)]) (T := 2) (by kernel_rfl) (by kernel_rfl) (ktf_cons (s := 1) (f := 9) (by kernel_rfl) tell_str (kt_str (t := 9) M (by kernel_rfl)) (ktf_cons (s := 1) (f := 30) (by kernel_rfl) (tell_row T_api_Type.T) (kt_slice M (t := 30) (e := 32) (sz := 3) (by kernel_rfl) (by kernel_rfl) (T_api_Type.kt M)) ktf_nil))) (fun x cs e => by
  obtain ⟨A1, c1, rfl, k1, r1⟩ := e
  exact ⟨(x.Name, x.Args, ()), ⟨[.string x.Name], _, rfl, rfl, ⟨[.slice A1 x.Args.length c1], _, rfl, ⟨_, _, rfl, k1, r1⟩, rfl⟩⟩, Nat.le_refl _⟩))
structure T_api_Data where
  Name : ByteArray
  Params : (List ByteArray)
  Makes : (List T_api_Make)
def T_api_Data.E (h : Heap) (x : T_api_Data) (cs : List Value) : Prop := ∃ A1 c1 A2 c2, cs = [.string x.Name, .slice A1 x.Params.length c1, .slice A2 x.Makes.length c2] ∧ x.Params.length ≤ c1 ∧ Rd 1 eStr h A1 x.Params ∧ x.Makes.length ≤ c2 ∧ Rd 2 T_api_Make.E h A2 x.Makes
theorem T_api_Data.T : Tell 3 T_api_Data.E := ⟨by rintro m h x _ s ⟨A1, c1, A2, c2, rfl, k1, r1, k2, r2⟩; exact ⟨_, _, _, _, rfl, k1, r1.sub tell_str s, k2, r2.sub T_api_Make.T s⟩, by rintro h x _ ⟨A1, c1, A2, c2, rfl, k1, r1, k2, r2⟩; rfl, by rintro h x _ ⟨A1, c1, A2, c2, rfl, k1, r1, k2, r2⟩; exact Flats.cons trivial (Flats.cons trivial (Flats.cons trivial Flats.nil))⟩
def T_api_Data.Q (x : T_api_Data) : Prop := (x.Name.size ≤ 140737488351232) ∧ (x.Params.length * 16 ≤ 140737488351232 ∧ ∀ a ∈ x.Params, (a.size ≤ 140737488351232)) ∧ (x.Makes.length * 40 ≤ 140737488351232 ∧ ∀ a ∈ x.Makes, (T_api_Make.Q a))
theorem T_api_Data.tells {H : Type} {enc : TypeId × Value → H} {W : World} : Tells enc Tryd.prog W 104 T_api_Data.E T_api_Data.Q := tells_map (tells_struct (t := 104) (fs := [(9, 0), (50, 1), (102, 2)]) (T := 3) (by kernel_rfl) (by kernel_rfl) (tf_cons (s := 1) (f := 9) (by kernel_rfl) (tells_strL (t := 9) (by kernel_rfl)) (tf_cons (s := 1) (f := 50) (by kernel_rfl) (tells_sliceL (t := 50) (e := 9) (sz := 1) (B := 16) (by kernel_rfl) (by kernel_rfl) (by kernel_rfl) (tells_strL (t := 9) (by kernel_rfl))) (tf_cons (s := 1) (f := 102) (by kernel_rfl) (tells_sliceL (t := 102) (e := 242) (sz := 2) (B := 40) (by kernel_rfl) (by kernel_rfl) (by kernel_rfl) T_api_Make.tells) tf_nil)))) (by
  rintro ⟨x0, x1, x2, ⟨⟩⟩ cs e q
  obtain ⟨c0, r0, rfl, e0, c1, r1, rfl, e1, c2, r2, rfl, e2, eN⟩ := e
  obtain rfl : c0 = [.string x0] := e0
  obtain ⟨A1, k1, rfl, l1, R1⟩ := e1
  obtain ⟨A2, k2, rfl, l2, R2⟩ := e2
  obtain rfl : r2 = [] := eN
  exact ⟨⟨x0, x1, x2⟩, ⟨_, _, _, _, rfl, l1, R1, l2, R2⟩, q.1, q.2.1, q.2.2.1⟩)
def T_api_Data.bulk (x : T_api_Data) : Nat := ((x.Name.size + 1) + (((List.map (fun s : ByteArray => s.size + 1) x.Params).sum + 1) + (((List.map T_api_Make.bulk x.Makes).sum + 1) + (0)))) + 1
theorem T_api_Data.kt {H : Type} {bk : DataW H → Nat} {enc : TypeId × Value → H} {W : World} {N : Nat} (M : Measure bk) : KT N bk enc Tryd.prog W 104 T_api_Data.E T_api_Data.bulk := kt_down (kt_map (kt_struct M (t := 104) (fs := [(9, 0), (50, 1), (102, 2)]) (T := 3) (by kernel_rfl) (by kernel_rfl) (ktf_cons (s := 1) (f := 9) (by kernel_rfl) tell_str (kt_str (t := 9) M (by kernel_rfl)) (ktf_cons (s := 1) (f := 50) (by kernel_rfl) (tell_row tell_str) (kt_slice M (t := 50) (e := 9) (sz := 1) (by kernel_rfl) (by kernel_rfl) (kt_str (t := 9) M (by kernel_rfl))) (ktf_cons (s := 1) (f := 102) (by kernel_rfl) (tell_row T_api_Make.T) (kt_slice M (t := 102) (e := 242) (sz := 2) (by kernel_rfl) (by kernel_rfl) (T_api_Make.kt M)) ktf_nil)))) (fun x cs e => by
  obtain ⟨A1, c1, A2, c2, rfl, k1, r1, k2, r2⟩ := e
  exact ⟨(x.Name, x.Params, x.Makes, ()), ⟨[.string x.Name], _, rfl, rfl, ⟨[.slice A1 x.Params.length c1], _, rfl, ⟨_, _, rfl, k1, r1⟩, ⟨[.slice A2 x.Makes.length c2], _, rfl, ⟨_, _, rfl, k2, r2⟩, rfl⟩⟩⟩, Nat.le_refl _⟩))
structure T_api_Actor where
  Name : ByteArray
  Names : (List ByteArray)
  Types : (List T_api_Type)
  Msg : T_api_Type
  Body : T_api_Expr
def T_api_Actor.E (h : Heap) (x : T_api_Actor) (cs : List Value) : Prop := ∃ A1 c1 A2 c2 A5 c5 A9 c9 A10 c10 A11 c11 A12 c12, cs = [.string x.Name, .slice A1 x.Names.length c1, .slice A2 x.Types.length c2, .int .i64 x.Msg.Kind, .string x.Msg.Name, .slice A5 x.Msg.Args.length c5, .int .i64 x.Body.Kind, .int .i64 x.Body.Num, .string x.Body.Text, .slice A9 x.Body.Names.length c9, .slice A10 x.Body.Types.length c10, .slice A11 x.Body.Args.length c11, .slice A12 x.Body.Arms.length c12, .int .i64 x.Body.At] ∧ x.Names.length ≤ c1 ∧ Rd 1 eStr h A1 x.Names ∧ x.Types.length ≤ c2 ∧ Rd 3 T_api_Type.E h A2 x.Types ∧ x.Msg.Args.length ≤ c5 ∧ Rd 3 T_api_Type.E h A5 x.Msg.Args ∧ x.Body.Names.length ≤ c9 ∧ Rd 1 eStr h A9 x.Body.Names ∧ x.Body.Types.length ≤ c10 ∧ Rd 3 T_api_Type.E h A10 x.Body.Types ∧ x.Body.Args.length ≤ c11 ∧ Rd 8 T_api_Expr.E h A11 x.Body.Args ∧ x.Body.Arms.length ≤ c12 ∧ Rd 12 T_api_Arm.E h A12 x.Body.Arms
theorem T_api_Actor.T : Tell 14 T_api_Actor.E := ⟨by rintro m h x _ s ⟨A1, c1, A2, c2, A5, c5, A9, c9, A10, c10, A11, c11, A12, c12, rfl, k1, r1, k2, r2, k5, r5, k9, r9, k10, r10, k11, r11, k12, r12⟩; exact ⟨_, _, _, _, _, _, _, _, _, _, _, _, _, _, rfl, k1, r1.sub tell_str s, k2, r2.sub T_api_Type.T s, k5, r5.sub T_api_Type.T s, k9, r9.sub tell_str s, k10, r10.sub T_api_Type.T s, k11, r11.sub T_api_Expr.T s, k12, r12.sub T_api_Arm.T s⟩, by rintro h x _ ⟨A1, c1, A2, c2, A5, c5, A9, c9, A10, c10, A11, c11, A12, c12, rfl, k1, r1, k2, r2, k5, r5, k9, r9, k10, r10, k11, r11, k12, r12⟩; rfl, by rintro h x _ ⟨A1, c1, A2, c2, A5, c5, A9, c9, A10, c10, A11, c11, A12, c12, rfl, k1, r1, k2, r2, k5, r5, k9, r9, k10, r10, k11, r11, k12, r12⟩; exact Flats.cons trivial (Flats.cons trivial (Flats.cons trivial (Flats.cons trivial (Flats.cons trivial (Flats.cons trivial (Flats.cons trivial (Flats.cons trivial (Flats.cons trivial (Flats.cons trivial (Flats.cons trivial (Flats.cons trivial (Flats.cons trivial (Flats.cons trivial Flats.nil)))))))))))))⟩
def T_api_Actor.Q (x : T_api_Actor) : Prop := (x.Name.size ≤ 140737488351232) ∧ (x.Names.length * 16 ≤ 140737488351232 ∧ ∀ a ∈ x.Names, (a.size ≤ 140737488351232)) ∧ (x.Types.length * 48 ≤ 140737488351232 ∧ ∀ a ∈ x.Types, (T_api_Type.Q a)) ∧ (T_api_Type.Q x.Msg) ∧ (T_api_Expr.Q x.Body)
theorem T_api_Actor.tells {H : Type} {enc : TypeId × Value → H} {W : World} : Tells enc Tryd.prog W 235 T_api_Actor.E T_api_Actor.Q := tells_map (tells_struct (t := 235) (fs := [(9, 0), (50, 1), (30, 2), (32, 3), (54, 6)]) (T := 14) (by kernel_rfl) (by kernel_rfl) (tf_cons (s := 1) (f := 9) (by kernel_rfl) (tells_strL (t := 9) (by kernel_rfl)) (tf_cons (s := 1) (f := 50) (by kernel_rfl) (tells_sliceL (t := 50) (e := 9) (sz := 1) (B := 16) (by kernel_rfl) (by kernel_rfl) (by kernel_rfl) (tells_strL (t := 9) (by kernel_rfl))) (tf_cons (s := 1) (f := 30) (by kernel_rfl) (tells_sliceL (t := 30) (e := 32) (sz := 3) (B := 48) (by kernel_rfl) (by kernel_rfl) (by kernel_rfl) T_api_Type.tells) (tf_cons (s := 3) (f := 32) (by kernel_rfl) T_api_Type.tells (tf_cons (s := 8) (f := 54) (by kernel_rfl) T_api_Expr.tells tf_nil)))))) (by
  rintro ⟨x0, x1, x2, x3, x4, ⟨⟩⟩ cs e q
  obtain ⟨c0, r0, rfl, e0, c1, r1, rfl, e1, c2, r2, rfl, e2, c3, r3, rfl, e3, c4, r4, rfl, e4, eN⟩ := e
  obtain rfl : c0 = [.string x0] := e0
  obtain ⟨A1, k1, rfl, l1, R1⟩ := e1
  obtain ⟨A2, k2, rfl, l2, R2⟩ := e2
  obtain ⟨A3_2, k3_2, rfl, l3_2, R3_2⟩ := T_api_Type.iff.1 e3
  obtain ⟨A4_3, k4_3, A4_4, k4_4, A4_5, k4_5, A4_6, k4_6, rfl, l4_3, R4_3, l4_4, R4_4, l4_5, R4_5, l4_6, R4_6⟩ := T_api_Expr.iff.1 e4
  obtain rfl : r4 = [] := eN
  exact ⟨⟨x0, x1, x2, x3, x4⟩, ⟨_, _, _, _, _, _, _, _, _, _, _, _, _, _, rfl, l1, R1, l2, R2, l3_2, R3_2, l4_3, R4_3, l4_4, R4_4, l4_5, R4_5, l4_6, R4_6⟩, q.1, q.2.1, q.2.2.1, q.2.2.2.1, q.2.2.2.2.1⟩)
def T_api_Actor.bulk (x : T_api_Actor) : Nat := ((x.Name.size + 1) + (((List.map (fun s : ByteArray => s.size + 1) x.Names).sum + 1) + (((List.map T_api_Type.bulk x.Types).sum + 1) + ((T_api_Type.bulk x.Msg) + ((T_api_Expr.bulk x.Body) + (0)))))) + 1
theorem T_api_Actor.kt {H : Type} {bk : DataW H → Nat} {enc : TypeId × Value → H} {W : World} {N : Nat} (M : Measure bk) : KT N bk enc Tryd.prog W 235 T_api_Actor.E T_api_Actor.bulk := kt_down (kt_map (kt_struct M (t := 235) (fs := [(9, 0), (50, 1), (30, 2), (32, 3), (54, 6)]) (T := 14) (by kernel_rfl) (by kernel_rfl) (ktf_cons (s := 1) (f := 9) (by kernel_rfl) tell_str (kt_str (t := 9) M (by kernel_rfl)) (ktf_cons (s := 1) (f := 50) (by kernel_rfl) (tell_row tell_str) (kt_slice M (t := 50) (e := 9) (sz := 1) (by kernel_rfl) (by kernel_rfl) (kt_str (t := 9) M (by kernel_rfl))) (ktf_cons (s := 1) (f := 30) (by kernel_rfl) (tell_row T_api_Type.T) (kt_slice M (t := 30) (e := 32) (sz := 3) (by kernel_rfl) (by kernel_rfl) (T_api_Type.kt M)) (ktf_cons (s := 3) (f := 32) (by kernel_rfl) T_api_Type.T (T_api_Type.kt M) (ktf_cons (s := 8) (f := 54) (by kernel_rfl) T_api_Expr.T (T_api_Expr.kt M) ktf_nil)))))) (fun x cs e => by
  obtain ⟨A1, c1, A2, c2, A3_2, c3_2, A4_3, c4_3, A4_4, c4_4, A4_5, c4_5, A4_6, c4_6, rfl, k1, r1, k2, r2, k3_2, r3_2, k4_3, r4_3, k4_4, r4_4, k4_5, r4_5, k4_6, r4_6⟩ := e
  exact ⟨(x.Name, x.Names, x.Types, x.Msg, x.Body, ()), ⟨[.string x.Name], _, rfl, rfl, ⟨[.slice A1 x.Names.length c1], _, rfl, ⟨_, _, rfl, k1, r1⟩, ⟨[.slice A2 x.Types.length c2], _, rfl, ⟨_, _, rfl, k2, r2⟩, ⟨[.int .i64 x.Msg.Kind, .string x.Msg.Name, .slice A3_2 x.Msg.Args.length c3_2], _, rfl, T_api_Type.iff.2 ⟨_, _, rfl, k3_2, r3_2⟩, ⟨[.int .i64 x.Body.Kind, .int .i64 x.Body.Num, .string x.Body.Text, .slice A4_3 x.Body.Names.length c4_3, .slice A4_4 x.Body.Types.length c4_4, .slice A4_5 x.Body.Args.length c4_5, .slice A4_6 x.Body.Arms.length c4_6, .int .i64 x.Body.At], _, rfl, T_api_Expr.iff.2 ⟨_, _, _, _, _, _, _, _, rfl, k4_3, r4_3, k4_4, r4_4, k4_5, r4_5, k4_6, r4_6⟩, rfl⟩⟩⟩⟩⟩, Nat.le_refl _⟩))
structure T_api_Program where
  Name : ByteArray
  Version : Int
  Uses : (List T_api_Use)
  Datas : (List T_api_Data)
  Traits : (List T_api_Trait)
  Impls : (List T_api_Impl)
  Funcs : (List T_api_Func)
  Actors : (List T_api_Actor)
def T_api_Program.E (h : Heap) (x : T_api_Program) (cs : List Value) : Prop := ∃ A2 c2 A3 c3 A4 c4 A5 c5 A6 c6 A7 c7, cs = [.string x.Name, .int .i64 x.Version, .slice A2 x.Uses.length c2, .slice A3 x.Datas.length c3, .slice A4 x.Traits.length c4, .slice A5 x.Impls.length c5, .slice A6 x.Funcs.length c6, .slice A7 x.Actors.length c7] ∧ x.Uses.length ≤ c2 ∧ Rd 3 T_api_Use.E h A2 x.Uses ∧ x.Datas.length ≤ c3 ∧ Rd 3 T_api_Data.E h A3 x.Datas ∧ x.Traits.length ≤ c4 ∧ Rd 2 T_api_Trait.E h A4 x.Traits ∧ x.Impls.length ≤ c5 ∧ Rd 3 T_api_Impl.E h A5 x.Impls ∧ x.Funcs.length ≤ c6 ∧ Rd 15 T_api_Func.E h A6 x.Funcs ∧ x.Actors.length ≤ c7 ∧ Rd 14 T_api_Actor.E h A7 x.Actors
theorem T_api_Program.T : Tell 8 T_api_Program.E := ⟨by rintro m h x _ s ⟨A2, c2, A3, c3, A4, c4, A5, c5, A6, c6, A7, c7, rfl, k2, r2, k3, r3, k4, r4, k5, r5, k6, r6, k7, r7⟩; exact ⟨_, _, _, _, _, _, _, _, _, _, _, _, rfl, k2, r2.sub T_api_Use.T s, k3, r3.sub T_api_Data.T s, k4, r4.sub T_api_Trait.T s, k5, r5.sub T_api_Impl.T s, k6, r6.sub T_api_Func.T s, k7, r7.sub T_api_Actor.T s⟩, by rintro h x _ ⟨A2, c2, A3, c3, A4, c4, A5, c5, A6, c6, A7, c7, rfl, k2, r2, k3, r3, k4, r4, k5, r5, k6, r6, k7, r7⟩; rfl, by rintro h x _ ⟨A2, c2, A3, c3, A4, c4, A5, c5, A6, c6, A7, c7, rfl, k2, r2, k3, r3, k4, r4, k5, r5, k6, r6, k7, r7⟩; exact Flats.cons trivial (Flats.cons trivial (Flats.cons trivial (Flats.cons trivial (Flats.cons trivial (Flats.cons trivial (Flats.cons trivial (Flats.cons trivial Flats.nil)))))))⟩
def T_api_Program.Q (x : T_api_Program) : Prop := (x.Name.size ≤ 140737488351232) ∧ (-9223372036854775808 ≤ x.Version ∧ x.Version ≤ 9223372036854775807) ∧ (x.Uses.length * 32 ≤ 140737488351232 ∧ ∀ a ∈ x.Uses, (T_api_Use.Q a)) ∧ (x.Datas.length * 64 ≤ 140737488351232 ∧ ∀ a ∈ x.Datas, (T_api_Data.Q a)) ∧ (x.Traits.length * 40 ≤ 140737488351232 ∧ ∀ a ∈ x.Traits, (T_api_Trait.Q a)) ∧ (x.Impls.length * 56 ≤ 140737488351232 ∧ ∀ a ∈ x.Impls, (T_api_Impl.Q a)) ∧ (x.Funcs.length * 272 ≤ 140737488351232 ∧ ∀ a ∈ x.Funcs, (T_api_Func.Q a)) ∧ (x.Actors.length * 248 ≤ 140737488351232 ∧ ∀ a ∈ x.Actors, (T_api_Actor.Q a))
theorem T_api_Program.tells {H : Type} {enc : TypeId × Value → H} {W : World} : Tells enc Tryd.prog W 29 T_api_Program.E T_api_Program.Q := tells_map (tells_struct (t := 29) (fs := [(9, 0), (3, 1), (22, 2), (23, 3), (24, 4), (25, 5), (26, 6), (27, 7)]) (T := 8) (by kernel_rfl) (by kernel_rfl) (tf_cons (s := 1) (f := 9) (by kernel_rfl) (tells_strL (t := 9) (by kernel_rfl)) (tf_cons (s := 1) (f := 3) (by kernel_rfl) (tells_i64 (t := 3) (by kernel_rfl)) (tf_cons (s := 1) (f := 22) (by kernel_rfl) (tells_sliceL (t := 22) (e := 233) (sz := 3) (B := 32) (by kernel_rfl) (by kernel_rfl) (by kernel_rfl) T_api_Use.tells) (tf_cons (s := 1) (f := 23) (by kernel_rfl) (tells_sliceL (t := 23) (e := 104) (sz := 3) (B := 64) (by kernel_rfl) (by kernel_rfl) (by kernel_rfl) T_api_Data.tells) (tf_cons (s := 1) (f := 24) (by kernel_rfl) (tells_sliceL (t := 24) (e := 37) (sz := 2) (B := 40) (by kernel_rfl) (by kernel_rfl) (by kernel_rfl) T_api_Trait.tells) (tf_cons (s := 1) (f := 25) (by kernel_rfl) (tells_sliceL (t := 25) (e := 45) (sz := 3) (B := 56) (by kernel_rfl) (by kernel_rfl) (by kernel_rfl) T_api_Impl.tells) (tf_cons (s := 1) (f := 26) (by kernel_rfl) (tells_sliceL (t := 26) (e := 56) (sz := 15) (B := 272) (by kernel_rfl) (by kernel_rfl) (by kernel_rfl) T_api_Func.tells) (tf_cons (s := 1) (f := 27) (by kernel_rfl) (tells_sliceL (t := 27) (e := 235) (sz := 14) (B := 248) (by kernel_rfl) (by kernel_rfl) (by kernel_rfl) T_api_Actor.tells) tf_nil))))))))) (by
  rintro ⟨x0, x1, x2, x3, x4, x5, x6, x7, ⟨⟩⟩ cs e q
  obtain ⟨c0, r0, rfl, e0, c1, r1, rfl, e1, c2, r2, rfl, e2, c3, r3, rfl, e3, c4, r4, rfl, e4, c5, r5, rfl, e5, c6, r6, rfl, e6, c7, r7, rfl, e7, eN⟩ := e
  obtain rfl : c0 = [.string x0] := e0
  obtain rfl : c1 = [.int .i64 x1] := e1
  obtain ⟨A2, k2, rfl, l2, R2⟩ := e2
  obtain ⟨A3, k3, rfl, l3, R3⟩ := e3
  obtain ⟨A4, k4, rfl, l4, R4⟩ := e4
  obtain ⟨A5, k5, rfl, l5, R5⟩ := e5
  obtain ⟨A6, k6, rfl, l6, R6⟩ := e6
  obtain ⟨A7, k7, rfl, l7, R7⟩ := e7
  obtain rfl : r7 = [] := eN
  exact ⟨⟨x0, x1, x2, x3, x4, x5, x6, x7⟩, ⟨_, _, _, _, _, _, _, _, _, _, _, _, rfl, l2, R2, l3, R3, l4, R4, l5, R5, l6, R6, l7, R7⟩, q.1, q.2.1, q.2.2.1, q.2.2.2.1, q.2.2.2.2.1, q.2.2.2.2.2.1, q.2.2.2.2.2.2.1, q.2.2.2.2.2.2.2.1⟩)
def T_api_Program.bulk (x : T_api_Program) : Nat := ((x.Name.size + 1) + (1 + (((List.map T_api_Use.bulk x.Uses).sum + 1) + (((List.map T_api_Data.bulk x.Datas).sum + 1) + (((List.map T_api_Trait.bulk x.Traits).sum + 1) + (((List.map T_api_Impl.bulk x.Impls).sum + 1) + (((List.map T_api_Func.bulk x.Funcs).sum + 1) + (((List.map T_api_Actor.bulk x.Actors).sum + 1) + (0))))))))) + 1
theorem T_api_Program.kt {H : Type} {bk : DataW H → Nat} {enc : TypeId × Value → H} {W : World} {N : Nat} (M : Measure bk) : KT N bk enc Tryd.prog W 29 T_api_Program.E T_api_Program.bulk := kt_down (kt_map (kt_struct M (t := 29) (fs := [(9, 0), (3, 1), (22, 2), (23, 3), (24, 4), (25, 5), (26, 6), (27, 7)]) (T := 8) (by kernel_rfl) (by kernel_rfl) (ktf_cons (s := 1) (f := 9) (by kernel_rfl) tell_str (kt_str (t := 9) M (by kernel_rfl)) (ktf_cons (s := 1) (f := 3) (by kernel_rfl) (tell_int .i64) (kt_one M) (ktf_cons (s := 1) (f := 22) (by kernel_rfl) (tell_row T_api_Use.T) (kt_slice M (t := 22) (e := 233) (sz := 3) (by kernel_rfl) (by kernel_rfl) (T_api_Use.kt M)) (ktf_cons (s := 1) (f := 23) (by kernel_rfl) (tell_row T_api_Data.T) (kt_slice M (t := 23) (e := 104) (sz := 3) (by kernel_rfl) (by kernel_rfl) (T_api_Data.kt M)) (ktf_cons (s := 1) (f := 24) (by kernel_rfl) (tell_row T_api_Trait.T) (kt_slice M (t := 24) (e := 37) (sz := 2) (by kernel_rfl) (by kernel_rfl) (T_api_Trait.kt M)) (ktf_cons (s := 1) (f := 25) (by kernel_rfl) (tell_row T_api_Impl.T) (kt_slice M (t := 25) (e := 45) (sz := 3) (by kernel_rfl) (by kernel_rfl) (T_api_Impl.kt M)) (ktf_cons (s := 1) (f := 26) (by kernel_rfl) (tell_row T_api_Func.T) (kt_slice M (t := 26) (e := 56) (sz := 15) (by kernel_rfl) (by kernel_rfl) (T_api_Func.kt M)) (ktf_cons (s := 1) (f := 27) (by kernel_rfl) (tell_row T_api_Actor.T) (kt_slice M (t := 27) (e := 235) (sz := 14) (by kernel_rfl) (by kernel_rfl) (T_api_Actor.kt M)) ktf_nil))))))))) (fun x cs e => by
  obtain ⟨A2, c2, A3, c3, A4, c4, A5, c5, A6, c6, A7, c7, rfl, k2, r2, k3, r3, k4, r4, k5, r5, k6, r6, k7, r7⟩ := e
  exact ⟨(x.Name, x.Version, x.Uses, x.Datas, x.Traits, x.Impls, x.Funcs, x.Actors, ()), ⟨[.string x.Name], _, rfl, rfl, ⟨[.int .i64 x.Version], _, rfl, rfl, ⟨[.slice A2 x.Uses.length c2], _, rfl, ⟨_, _, rfl, k2, r2⟩, ⟨[.slice A3 x.Datas.length c3], _, rfl, ⟨_, _, rfl, k3, r3⟩, ⟨[.slice A4 x.Traits.length c4], _, rfl, ⟨_, _, rfl, k4, r4⟩, ⟨[.slice A5 x.Impls.length c5], _, rfl, ⟨_, _, rfl, k5, r5⟩, ⟨[.slice A6 x.Funcs.length c6], _, rfl, ⟨_, _, rfl, k6, r6⟩, ⟨[.slice A7 x.Actors.length c7], _, rfl, ⟨_, _, rfl, k7, r7⟩, rfl⟩⟩⟩⟩⟩⟩⟩⟩, Nat.le_refl _⟩))
theorem T_api_Type.g0 {m : Heap} {x : T_api_Type} {cs : List Value} (e : T_api_Type.E m x cs) : cs[0]? = some (Value.int .i64 x.Kind) := by
  obtain ⟨A2, c2, rfl, k2, r2⟩ := T_api_Type.iff.1 e
  exact rfl
theorem T_api_Type.g1 {m : Heap} {x : T_api_Type} {cs : List Value} (e : T_api_Type.E m x cs) : cs[1]? = some (Value.string x.Name) := by
  obtain ⟨A2, c2, rfl, k2, r2⟩ := T_api_Type.iff.1 e
  exact rfl
theorem T_api_Type.g2 {m : Heap} {x : T_api_Type} {cs : List Value} (e : T_api_Type.E m x cs) : ∃ A c, cs[2]? = some (.slice A (List.length x.Args) c) ∧ List.length x.Args ≤ c ∧ Rd 3 T_api_Type.E m A x.Args := by
  obtain ⟨A2, c2, rfl, k2, r2⟩ := T_api_Type.iff.1 e
  exact ⟨_, _, rfl, k2, r2⟩
theorem T_api_Trait.g1 {m : Heap} {x : T_api_Trait} {cs : List Value} (e : T_api_Trait.E m x cs) : ∃ A c, cs[1]? = some (.slice A (List.length x.Funcs) c) ∧ List.length x.Funcs ≤ c ∧ Rd 15 T_api_Func.E m A x.Funcs := by
  obtain ⟨A1, c1, rfl, k1, r1⟩ := e
  exact ⟨_, _, rfl, k1, r1⟩
theorem T_api_Func.g0 {m : Heap} {x : T_api_Func} {cs : List Value} (e : T_api_Func.E m x cs) : cs[0]? = some (Value.string x.Name) := by
  obtain ⟨A1, c1, A2, c2, A3, c3, A6, c6, A10, c10, A11, c11, A12, c12, A13, c13, rfl, k1, r1, k2, r2, k3, r3, k6, r6, k10, r10, k11, r11, k12, r12, k13, r13⟩ := e
  exact rfl
theorem T_api_Func.g3 {m : Heap} {x : T_api_Func} {cs : List Value} (e : T_api_Func.E m x cs) : ∃ A c, cs[3]? = some (.slice A (List.length x.Types) c) ∧ List.length x.Types ≤ c ∧ Rd 3 T_api_Type.E m A x.Types := by
  obtain ⟨A1, c1, A2, c2, A3, c3, A6, c6, A10, c10, A11, c11, A12, c12, A13, c13, rfl, k1, r1, k2, r2, k3, r3, k6, r6, k10, r10, k11, r11, k12, r12, k13, r13⟩ := e
  exact ⟨_, _, rfl, k3, r3⟩
theorem T_api_Impl.g0 {m : Heap} {x : T_api_Impl} {cs : List Value} (e : T_api_Impl.E m x cs) : cs[0]? = some (Value.string x.Trait) := by
  obtain ⟨A2, c2, rfl, k2, r2⟩ := e
  exact rfl
theorem T_api_Impl.g1 {m : Heap} {x : T_api_Impl} {cs : List Value} (e : T_api_Impl.E m x cs) : cs[1]? = some (Value.string x.For) := by
  obtain ⟨A2, c2, rfl, k2, r2⟩ := e
  exact rfl
theorem T_api_Program.g4 {m : Heap} {x : T_api_Program} {cs : List Value} (e : T_api_Program.E m x cs) : ∃ A c, cs[4]? = some (.slice A (List.length x.Traits) c) ∧ List.length x.Traits ≤ c ∧ Rd 2 T_api_Trait.E m A x.Traits := by
  obtain ⟨A2, c2, A3, c3, A4, c4, A5, c5, A6, c6, A7, c7, rfl, k2, r2, k3, r3, k4, r4, k5, r5, k6, r6, k7, r7⟩ := e
  exact ⟨_, _, rfl, k4, r4⟩
theorem T_api_Trait.g0 {m : Heap} {x : T_api_Trait} {cs : List Value} (e : T_api_Trait.E m x cs) : cs[0]? = some (Value.string x.Name) := by
  obtain ⟨A1, c1, rfl, k1, r1⟩ := e
  exact rfl
theorem T_api_Func.g1 {m : Heap} {x : T_api_Func} {cs : List Value} (e : T_api_Func.E m x cs) : ∃ A c, cs[1]? = some (.slice A (List.length x.Params) c) ∧ List.length x.Params ≤ c ∧ Rd 1 eStr m A x.Params := by
  obtain ⟨A1, c1, A2, c2, A3, c3, A6, c6, A10, c10, A11, c11, A12, c12, A13, c13, rfl, k1, r1, k2, r2, k3, r3, k6, r6, k10, r10, k11, r11, k12, r12, k13, r13⟩ := e
  exact ⟨_, _, rfl, k1, r1⟩
theorem T_api_Func.u4_32 {m : Heap} {x : T_api_Func} {cs : List Value} (e : T_api_Func.E m x cs) : T_api_Type.E m x.Out (List.take 3 (List.drop 4 cs)) := by
  obtain ⟨A1, c1, A2, c2, A3, c3, A6, c6, A10, c10, A11, c11, A12, c12, A13, c13, rfl, k1, r1, k2, r2, k3, r3, k6, r6, k10, r10, k11, r11, k12, r12, k13, r13⟩ := e
  exact (T_api_Type.iff.2 ⟨_, _, rfl, k6, r6⟩)
theorem T_api_Program.g3 {m : Heap} {x : T_api_Program} {cs : List Value} (e : T_api_Program.E m x cs) : ∃ A c, cs[3]? = some (.slice A (List.length x.Datas) c) ∧ List.length x.Datas ≤ c ∧ Rd 3 T_api_Data.E m A x.Datas := by
  obtain ⟨A2, c2, A3, c3, A4, c4, A5, c5, A6, c6, A7, c7, rfl, k2, r2, k3, r3, k4, r4, k5, r5, k6, r6, k7, r7⟩ := e
  exact ⟨_, _, rfl, k3, r3⟩
theorem T_api_Data.g0 {m : Heap} {x : T_api_Data} {cs : List Value} (e : T_api_Data.E m x cs) : cs[0]? = some (Value.string x.Name) := by
  obtain ⟨A1, c1, A2, c2, rfl, k1, r1, k2, r2⟩ := e
  exact rfl
theorem T_api_Impl.g2 {m : Heap} {x : T_api_Impl} {cs : List Value} (e : T_api_Impl.E m x cs) : ∃ A c, cs[2]? = some (.slice A (List.length x.Funcs) c) ∧ List.length x.Funcs ≤ c ∧ Rd 15 T_api_Func.E m A x.Funcs := by
  obtain ⟨A2, c2, rfl, k2, r2⟩ := e
  exact ⟨_, _, rfl, k2, r2⟩
theorem T_api_Program.g5 {m : Heap} {x : T_api_Program} {cs : List Value} (e : T_api_Program.E m x cs) : ∃ A c, cs[5]? = some (.slice A (List.length x.Impls) c) ∧ List.length x.Impls ≤ c ∧ Rd 3 T_api_Impl.E m A x.Impls := by
  obtain ⟨A2, c2, A3, c3, A4, c4, A5, c5, A6, c6, A7, c7, rfl, k2, r2, k3, r3, k4, r4, k5, r5, k6, r6, k7, r7⟩ := e
  exact ⟨_, _, rfl, k5, r5⟩
def slices_EqualFunc_68_s1.post (W : Nat → Prop) (h0 m0 : Heap) (r : Bool) (v : Value) (h : Heap) : Prop := ∃ m , Hold W h0 m0 h m [] ∧ v = .bool r
def tree_SameType.post (W : Nat → Prop) (h0 m0 : Heap) (r : Bool) (v : Value) (h : Heap) : Prop := ∃ m , Hold W h0 m0 h m [] ∧ v = .bool r
inductive tree_SameType_k.Pt where
  | f_41 (y_0 : T_api_Type) (y_1 : T_api_Type)
  | f_1000000 (a_0 : List T_api_Type) (a_1 : List T_api_Type)
  | l0_1000000 (a_1 : List T_api_Type) (a_15 : List T_api_Type) (x_16 : Int) (x_17 : Int)
noncomputable def tree_SameType_k.body (go : (p : tree_SameType_k.Pt) → Option (Bool)) : (p : tree_SameType_k.Pt) → Option (Bool)
  | .f_41 y_0 y_1 => if y_0.Kind = y_1.Kind then (if y_0.Name = y_1.Name then (Option.bind ((go (.f_1000000 y_0.Args y_1.Args))) fun y19 => some (y19)) else (some (false))) else (some (false))
  | .f_1000000 a_0 a_1 => if (((List.length a_0) : Nat) : Int) = (((List.length a_1) : Nat) : Int) then ((go (.l0_1000000 a_1 a_0 (((List.length a_0) : Nat) : Int) (0 : Int)))) else (some (false))
  | .l0_1000000 a_1 a_15 x_16 x_17 => if x_17 < x_16 then (Option.bind (gi a_15 x_17) fun y1 => Option.bind (gi a_1 x_17) fun y14 => Option.bind ((go (.f_41 y1 y14))) fun y27 => if y27 = true then ((go (.l0_1000000 a_1 a_15 x_16 (IntKind.wrap .i64 (x_17 + (1 : Int)))))) else (some (false))) else (some (true))
theorem tree_SameType_k.mono : MonoF (β := fun _ => (Bool)) tree_SameType_k.body := fun f g hfg p => match p with
  | .f_41 y_0 y_1 => LeO.ite (LeO.ite (LeO.bind ((hfg _)) fun y19 => LeO.refl _) (LeO.refl _)) (LeO.refl _)
  | .f_1000000 a_0 a_1 => LeO.ite ((hfg _)) (LeO.refl _)
  | .l0_1000000 a_1 a_15 x_16 x_17 => LeO.ite (LeO.bind (LeO.refl _) fun y1 => LeO.bind (LeO.refl _) fun y14 => LeO.bind ((hfg _)) fun y27 => LeO.ite ((hfg _)) (LeO.refl _)) (LeO.refl _)
noncomputable def tree_SameType_k.go (p : tree_SameType_k.Pt) : Option (Bool) := fixF (β := fun _ => (Bool)) tree_SameType_k.body p
noncomputable def tree_SameType (y_0 y_1) := tree_SameType_k.go (.f_41 y_0 y_1)
noncomputable def slices_EqualFunc_68_s1 (a_0 a_1) := tree_SameType_k.go (.f_1000000 a_0 a_1)
noncomputable def slices_EqualFunc_68_s1.l0 (a_1 a_15 x_16 x_17) := tree_SameType_k.go (.l0_1000000 a_1 a_15 x_16 x_17)
theorem tree_SameType_eq (y_0 y_1) : tree_SameType y_0 y_1 = if y_0.Kind = y_1.Kind then (if y_0.Name = y_1.Name then (Option.bind ((slices_EqualFunc_68_s1 y_0.Args y_1.Args)) fun y19 => some (y19)) else (some (false))) else (some (false)) := fixF_eq tree_SameType_k.mono _
theorem slices_EqualFunc_68_s1_eq (a_0 a_1) : slices_EqualFunc_68_s1 a_0 a_1 = if (((List.length a_0) : Nat) : Int) = (((List.length a_1) : Nat) : Int) then ((slices_EqualFunc_68_s1.l0 a_1 a_0 (((List.length a_0) : Nat) : Int) (0 : Int))) else (some (false)) := fixF_eq tree_SameType_k.mono _
theorem slices_EqualFunc_68_s1.l0_eq (a_1 a_15 x_16 x_17) : slices_EqualFunc_68_s1.l0 a_1 a_15 x_16 x_17 = if x_17 < x_16 then (Option.bind (gi a_15 x_17) fun y1 => Option.bind (gi a_1 x_17) fun y14 => Option.bind ((tree_SameType y1 y14)) fun y27 => if y27 = true then ((slices_EqualFunc_68_s1.l0 a_1 a_15 x_16 (IntKind.wrap .i64 (x_17 + (1 : Int))))) else (some (false))) else (some (true)) := fixF_eq tree_SameType_k.mono _
def tree_SameType_k.I : (p : tree_SameType_k.Pt) → (Bool) → Prop
  | .f_41 y_0 y_1, r => ∀ {W h m cs_0 cs_1} (O : Hold W h m h m []) (e_0 : T_api_Type.E m y_0 cs_0) (e_1 : T_api_Type.E m y_1 cs_1), Run Tryd.prog 41 #[Value.agg cs_0.toArray, Value.agg cs_1.toArray] h (tree_SameType.post W h m r)
  | .f_1000000 a_0 a_1, r => ∀ {W h m A_0 n_0 c_0 A_1 n_1 c_1} (O : Hold W h m h m []) (ne_0 : n_0 = List.length a_0) (k_0 : List.length a_0 ≤ c_0) (r_0 : Rd 3 T_api_Type.E m A_0 a_0) (ne_1 : n_1 = List.length a_1) (k_1 : List.length a_1 ≤ c_1) (r_1 : Rd 3 T_api_Type.E m A_1 a_1), Run Tryd.prog 68 #[Value.slice A_0 n_0 c_0, Value.slice A_1 n_1 c_1, (Value.func (.func 41) #[] #[])] h (slices_EqualFunc_68_s1.post W h m r)
  | .l0_1000000 a_1 a_15 x_16 x_17, r => ∀ {W h0 m0 h m A_1 n_1 c_1 A_15 n_15 c_15} (O : Hold W h0 m0 h m []) (ne_1 : n_1 = List.length a_1) (k_1 : List.length a_1 ≤ c_1) (r_1 : Rd 3 T_api_Type.E m A_1 a_1) (ne_15 : n_15 = List.length a_15) (k_15 : List.length a_15 ≤ c_15) (r_15 : Rd 3 T_api_Type.E m A_15 a_15), f68.l0 (slices_EqualFunc_68_s1.post W h0 m0 r) A_1 n_1 c_1 (Value.func (.func 41) #[] #[]) A_15 n_15 c_15 x_16 x_17 h
theorem tree_SameType_k.step_f_41 (go : (p : tree_SameType_k.Pt) → Option (Bool)) (ih : ∀ p r, go p = some r → tree_SameType_k.I p r) (y_0 y_1) (r) (e : tree_SameType_k.body go (.f_41 y_0 y_1) = some r) : tree_SameType_k.I (.f_41 y_0 y_1) r := by
  unfold tree_SameType_k.body at e
  intro W h m cs_0 cs_1 O e_0 e_1
  refine f41.run ?_
  unfold f41.runT
  refine O.new fun h1 x2 O3 => ?_
  refine O3.new fun h5 x6 O7 => ?_
  refine ⟨_, ld0 (Sub.refl _) (O7.all 0 rfl) (T_api_Type.g0 e_0), _, rfl, ?_⟩
  refine ⟨_, ld0 (Sub.refl _) (O7.all 1 rfl) (T_api_Type.g0 e_1), _, rfl, ?_⟩
  refine split_eq_e e (fun c29 e => ?_) (fun c29 e => ?_)
  · refine ⟨_, ldk (k := 1) (Sub.refl _) (O7.all 0 rfl) (T_api_Type.g1 e_0), _, rfl, ?_⟩
    refine ⟨_, ldk (k := 1) (Sub.refl _) (O7.all 1 rfl) (T_api_Type.g1 e_1), _, rfl, ?_⟩
    try rw [ba_list y_0.Name y_1.Name]
    refine split_dec_e e (fun c27 e => ?_) (fun c27 e => ?_)
    · obtain ⟨A9, c10, q11, k12, r13⟩ := T_api_Type.g2 e_0
      refine ⟨_, ldk (k := 2) (Sub.refl _) (O7.all 0 rfl) q11, _, _, _, rfl, ?_⟩
      obtain ⟨A14, c15, q16, k17, r18⟩ := T_api_Type.g2 e_1
      refine ⟨_, ldk (k := 2) (Sub.refl _) (O7.all 1 rfl) q16, _, _, _, rfl, ?_⟩
      obtain ⟨y19, g20, e⟩ := bind_e e
      refine ((ih _ _ g20) (Hold.start (W := No) O7.s) rfl k12 r13 rfl k17 r18).mono ?_
      rintro _ h21 ⟨m22, Q23, rfl⟩
      have O25 := Hold.nm (O7.retC Q23 vfs_nil)
      refine ⟨_, rfl, ?_⟩
      cases e
      exact ⟨_, O25.pick [], rfl⟩
    · have O26 := O7.nm
      cases e
      exact ⟨_, O26.pick [], rfl⟩
  · have O28 := O7.nm
    cases e
    exact ⟨_, O28.pick [], rfl⟩
theorem tree_SameType_k.step_f_1000000 (go : (p : tree_SameType_k.Pt) → Option (Bool)) (ih : ∀ p r, go p = some r → tree_SameType_k.I p r) (a_0 a_1) (r) (e : tree_SameType_k.body go (.f_1000000 a_0 a_1) = some r) : tree_SameType_k.I (.f_1000000 a_0 a_1) r := by
  unfold tree_SameType_k.body at e
  intro W h m A_0 n_0 c_0 A_1 n_1 c_1 O ne_0 k_0 r_0 ne_1 k_1 r_1
  subst ne_0
  subst ne_1
  refine f68.run ?_
  unfold f68.runT
  refine split_ne_e e (fun c1 e => ?_) (fun c1 e => ?_)
  · cases e
    exact ⟨_, O.pick [], rfl⟩
  · exact (ih _ _ e) (O.pick []).nm rfl k_1 r_1 rfl k_0 r_0
theorem tree_SameType_k.step_l0_1000000 (go : (p : tree_SameType_k.Pt) → Option (Bool)) (ih : ∀ p r, go p = some r → tree_SameType_k.I p r) (a_1 a_15 x_16 x_17) (r) (e : tree_SameType_k.body go (.l0_1000000 a_1 a_15 x_16 x_17) = some r) : tree_SameType_k.I (.l0_1000000 a_1 a_15 x_16 x_17) r := by
  unfold tree_SameType_k.body at e
  intro W h0 m0 h m A_1 n_1 c_1 A_15 n_15 c_15 O ne_1 k_1 r_1 ne_15 k_15 r_15
  subst ne_1
  subst ne_15
  refine f68.l0_in ?_
  unfold f68.l0T
  refine split_dec_e e (fun c35 e => ?_) (fun c35 e => ?_)
  · obtain ⟨y1, g2, e⟩ := bind_e e
    refine r_15.addr rfl g2 fun a3 cs4 ha5 hc6 he7 => ?_
    refine ⟨_, ldAn O.s hc6 rfl, ?_⟩
    refine O.new fun h8 x9 O10 => ?_
    refine ⟨_, rfl, (T_api_Type.T.len _ _ _ he7), ?_⟩
    refine O10.stA 0 rfl (T_api_Type.T.len _ _ _ he7) (T_api_Type.T.flat _ _ _ he7) fun h12 O13 => ?_
    obtain ⟨y14, g15, e⟩ := bind_e e
    refine r_1.addr rfl g15 fun a16 cs17 ha18 hc19 he20 => ?_
    refine ⟨_, ldAn O13.s hc19 rfl, ?_⟩
    refine O13.new fun h21 x22 O23 => ?_
    refine ⟨_, rfl, (T_api_Type.T.len _ _ _ he20), ?_⟩
    refine O23.stA 1 rfl (T_api_Type.T.len _ _ _ he20) (T_api_Type.T.flat _ _ _ he20) fun h25 O26 => ?_
    refine ⟨_, ldAn (Sub.refl _) (O26.all 0 rfl) (T_api_Type.T.len _ _ _ he7), ?_⟩
    refine ⟨_, ldAn (Sub.refl _) (O26.all 1 rfl) (T_api_Type.T.len _ _ _ he20), ?_⟩
    obtain ⟨y27, g28, e⟩ := bind_e e
    refine CallF.of [(Value.agg (List.toArray cs4)), (Value.agg (List.toArray cs17))] f41.ok rfl ?_
    refine ((ih _ _ g28) (Hold.start (W := No) O26.s) he7 he20).mono ?_
    rintro _ h29 ⟨m30, Q31, rfl⟩
    have O33 := Hold.nm (O26.retC Q31 vfs_nil)
    refine ⟨_, rfl, ?_⟩
    refine split_not ?_
    refine split_any_e e (fun c34 e => ?_) (fun c34 e => ?_)
    · exact (ih _ _ e) (O33.pick []).nm rfl k_1 r_1 rfl k_15 r_15
    · cases e
      exact ⟨_, O33.pick [], rfl⟩
  · cases e
    exact ⟨_, O.pick [], rfl⟩
theorem tree_SameType_k.all {p : tree_SameType_k.Pt} {r : (Bool)} (e : tree_SameType_k.go p = some r) : tree_SameType_k.I p r := fixF_ind (β := fun _ => (Bool)) tree_SameType_k.mono (I := tree_SameType_k.I) (fun go ih p r e => match p with
  | .f_41 y_0 y_1 => tree_SameType_k.step_f_41 go ih y_0 y_1 r e
  | .f_1000000 a_0 a_1 => tree_SameType_k.step_f_1000000 go ih a_0 a_1 r e
  | .l0_1000000 a_1 a_15 x_16 x_17 => tree_SameType_k.step_l0_1000000 go ih a_1 a_15 x_16 x_17 r e
  ) e
theorem tree_SameType.walk {W h m cs_0 cs_1 y_0 y_1} (O : Hold W h m h m []) (e_0 : T_api_Type.E m y_0 cs_0) (e_1 : T_api_Type.E m y_1 cs_1) {r} (e : tree_SameType y_0 y_1 = some r) : Run Tryd.prog 41 #[Value.agg cs_0.toArray, Value.agg cs_1.toArray] h (tree_SameType.post W h m r) := tree_SameType_k.all (p := .f_41 y_0 y_1) e O e_0 e_1
def slices_Index_53.post (W : Nat → Prop) (h0 m0 : Heap) (r : Int) (v : Value) (h : Heap) : Prop := ∃ m , Hold W h0 m0 h m [] ∧ v = .int .i64 r
inductive slices_Index_53.l0_k.Pt where
  | l0 (a_0 : List ByteArray) (s_1 : ByteArray) (x_7 : Int) (x_8 : Int)
noncomputable def slices_Index_53.l0_k.body (go : (p : slices_Index_53.l0_k.Pt) → Option (Int)) : (p : slices_Index_53.l0_k.Pt) → Option (Int)
  | .l0 a_0 s_1 x_7 x_8 => if x_8 < x_7 then (Option.bind (gi a_0 x_8) fun y1 => if s_1 = y1 then (some (x_8)) else ((go (.l0 a_0 s_1 x_7 (IntKind.wrap .i64 (x_8 + (1 : Int))))))) else (some ((-1 : Int)))
theorem slices_Index_53.l0_k.mono : MonoF (β := fun _ => (Int)) slices_Index_53.l0_k.body := fun f g hfg p => match p with
  | .l0 a_0 s_1 x_7 x_8 => LeO.ite (LeO.bind (LeO.refl _) fun y1 => LeO.ite (LeO.refl _) ((hfg _))) (LeO.refl _)
noncomputable def slices_Index_53.l0_k.go (p : slices_Index_53.l0_k.Pt) : Option (Int) := fixF (β := fun _ => (Int)) slices_Index_53.l0_k.body p
noncomputable def slices_Index_53.l0 (a_0 s_1 x_7 x_8) := slices_Index_53.l0_k.go (.l0 a_0 s_1 x_7 x_8)
theorem slices_Index_53.l0_eq (a_0 s_1 x_7 x_8) : slices_Index_53.l0 a_0 s_1 x_7 x_8 = if x_8 < x_7 then (Option.bind (gi a_0 x_8) fun y1 => if s_1 = y1 then (some (x_8)) else ((slices_Index_53.l0 a_0 s_1 x_7 (IntKind.wrap .i64 (x_8 + (1 : Int)))))) else (some ((-1 : Int))) := fixF_eq slices_Index_53.l0_k.mono _
def slices_Index_53.l0_k.I : (p : slices_Index_53.l0_k.Pt) → (Int) → Prop
  | .l0 a_0 s_1 x_7 x_8, r => ∀ {W h0 m0 h m A_0 n_0 c_0} (O : Hold W h0 m0 h m []) (ne_0 : n_0 = List.length a_0) (k_0 : List.length a_0 ≤ c_0) (r_0 : Rd 1 eStr m A_0 a_0), f53.l0 (slices_Index_53.post W h0 m0 r) A_0 n_0 c_0 s_1 x_7 x_8 h
theorem slices_Index_53.l0_k.step_l0 (go : (p : slices_Index_53.l0_k.Pt) → Option (Int)) (ih : ∀ p r, go p = some r → slices_Index_53.l0_k.I p r) (a_0 s_1 x_7 x_8) (r) (e : slices_Index_53.l0_k.body go (.l0 a_0 s_1 x_7 x_8) = some r) : slices_Index_53.l0_k.I (.l0 a_0 s_1 x_7 x_8) r := by
  unfold slices_Index_53.l0_k.body at e
  intro W h0 m0 h m A_0 n_0 c_0 O ne_0 k_0 r_0
  subst ne_0
  refine f53.l0_in ?_
  unfold f53.l0T
  refine split_dec_e e (fun c9 e => ?_) (fun c9 e => ?_)
  · obtain ⟨y1, g2, e⟩ := bind_e e
    refine r_0.addr rfl g2 fun a3 cs4 ha5 hc6 he7 => ?_
    obtain rfl : cs4 = [(Value.string y1)] := he7
    refine ⟨_, ld0 O.s hc6 rfl, _, rfl, ?_⟩
    try rw [ba_list s_1 y1]
    refine split_dec_e e (fun c8 e => ?_) (fun c8 e => ?_)
    · cases e
      exact ⟨_, O.pick [], rfl⟩
    · exact (ih _ _ e) (O.pick []).nm rfl k_0 r_0
  · cases e
    exact ⟨_, O.pick [], rfl⟩
theorem slices_Index_53.l0_k.all {p : slices_Index_53.l0_k.Pt} {r : (Int)} (e : slices_Index_53.l0_k.go p = some r) : slices_Index_53.l0_k.I p r := fixF_ind (β := fun _ => (Int)) slices_Index_53.l0_k.mono (I := slices_Index_53.l0_k.I) (fun go ih p r e => match p with
  | .l0 a_0 s_1 x_7 x_8 => slices_Index_53.l0_k.step_l0 go ih a_0 s_1 x_7 x_8 r e
  ) e
noncomputable def slices_Index_53 (a_0 : List ByteArray) (s_1 : ByteArray) : Option (Int) :=
  (slices_Index_53.l0 a_0 s_1 (((List.length a_0) : Nat) : Int) (0 : Int))
theorem slices_Index_53.walk {W h m A_0 n_0 c_0 a_0 s_1} (O : Hold W h m h m []) (ne_0 : n_0 = List.length a_0) (k_0 : List.length a_0 ≤ c_0) (r_0 : Rd 1 eStr m A_0 a_0) {r} (e : slices_Index_53 a_0 s_1 = some r) : Run Tryd.prog 53 #[Value.slice A_0 n_0 c_0, Value.string s_1] h (slices_Index_53.post W h m r) := by
  unfold slices_Index_53 at e
  subst ne_0
  refine f53.run ?_
  unfold f53.runT
  exact (slices_Index_53.l0_k.all e) (O.pick []).nm rfl k_0 r_0
theorem slices_Index_53.val {l : List ByteArray} (v : ByteArray) (hl : l.length ≤ 4611686018427387904) : slices_Index_53 l v = some (idxOf (fun y => decide (v = y)) l) := index_val (fun a p n i => slices_Index_53.l0_eq a p n i) v hl
def slices_Contains_22.post (W : Nat → Prop) (h0 m0 : Heap) (r : Bool) (v : Value) (h : Heap) : Prop := ∃ m , Hold W h0 m0 h m [] ∧ v = .bool r
noncomputable def slices_Contains_22 (a_0 : List ByteArray) (s_1 : ByteArray) : Option (Bool) :=
  Option.bind (slices_Index_53 a_0 s_1) fun y1 => some ((decide (y1 ≥ (0 : Int))))
theorem slices_Contains_22.walk {W h m A_0 n_0 c_0 a_0 s_1} (O : Hold W h m h m []) (ne_0 : n_0 = List.length a_0) (k_0 : List.length a_0 ≤ c_0) (r_0 : Rd 1 eStr m A_0 a_0) {r} (e : slices_Contains_22 a_0 s_1 = some r) : Run Tryd.prog 22 #[Value.slice A_0 n_0 c_0, Value.string s_1] h (slices_Contains_22.post W h m r) := by
  unfold slices_Contains_22 at e
  subst ne_0
  refine f22.run ?_
  unfold f22.runT
  obtain ⟨y1, g2, e⟩ := bind_e e
  refine (slices_Index_53.walk (Hold.start (W := No) O.s) rfl k_0 r_0 g2).mono ?_
  rintro _ h3 ⟨m4, Q5, rfl⟩
  have O7 := Hold.nm (O.retC Q5 vfs_nil)
  refine ⟨_, rfl, ?_⟩
  cases e
  exact ⟨_, O7.pick [], rfl⟩
theorem slices_Contains_22.val {l : List ByteArray} (v : ByteArray) (hl : l.length ≤ 4611686018427387904) : slices_Contains_22 l v = some (l.any fun y => decide (v = y)) := contains_any (fun a p n i => slices_Index_53.l0_eq a p n i) (fun _ _ => rfl) (fun _ _ => rfl) v hl
def scope_Twice.post (W : Nat → Prop) (h0 m0 : Heap) (r : Bool) (v : Value) (h : Heap) : Prop := ∃ m , Hold W h0 m0 h m [] ∧ v = .bool r
inductive scope_Twice.l0_k.Pt where
  | l0 (a_0 : List ByteArray) (a_5 : List ByteArray) (x_6 : Int) (x_7 : Int)
noncomputable def scope_Twice.l0_k.body (go : (p : scope_Twice.l0_k.Pt) → Option (Bool)) : (p : scope_Twice.l0_k.Pt) → Option (Bool)
  | .l0 a_0 a_5 x_6 x_7 => if x_7 < x_6 then (Option.bind (gi a_5 x_7) fun y1 => Option.bind (sls a_0 (0 : Int) x_7) fun l8 => Option.bind (slices_Contains_22 l8 y1) fun y13 => if y13 = true then (some (true)) else ((go (.l0 a_0 a_5 x_6 (IntKind.wrap .i64 (x_7 + (1 : Int))))))) else (some (false))
theorem scope_Twice.l0_k.mono : MonoF (β := fun _ => (Bool)) scope_Twice.l0_k.body := fun f g hfg p => match p with
  | .l0 a_0 a_5 x_6 x_7 => LeO.ite (LeO.bind (LeO.refl _) fun y1 => LeO.bind (LeO.refl _) fun l8 => LeO.bind (LeO.refl _) fun y13 => LeO.ite (LeO.refl _) ((hfg _))) (LeO.refl _)
noncomputable def scope_Twice.l0_k.go (p : scope_Twice.l0_k.Pt) : Option (Bool) := fixF (β := fun _ => (Bool)) scope_Twice.l0_k.body p
noncomputable def scope_Twice.l0 (a_0 a_5 x_6 x_7) := scope_Twice.l0_k.go (.l0 a_0 a_5 x_6 x_7)
theorem scope_Twice.l0_eq (a_0 a_5 x_6 x_7) : scope_Twice.l0 a_0 a_5 x_6 x_7 = if x_7 < x_6 then (Option.bind (gi a_5 x_7) fun y1 => Option.bind (sls a_0 (0 : Int) x_7) fun l8 => Option.bind (slices_Contains_22 l8 y1) fun y13 => if y13 = true then (some (true)) else ((scope_Twice.l0 a_0 a_5 x_6 (IntKind.wrap .i64 (x_7 + (1 : Int)))))) else (some (false)) := fixF_eq scope_Twice.l0_k.mono _
def scope_Twice.l0_k.I : (p : scope_Twice.l0_k.Pt) → (Bool) → Prop
  | .l0 a_0 a_5 x_6 x_7, r => ∀ {W h0 m0 h m A_0 n_0 c_0 A_5 n_5 c_5} (O : Hold W h0 m0 h m []) (ne_0 : n_0 = List.length a_0) (k_0 : List.length a_0 ≤ c_0) (r_0 : Rd 1 eStr m A_0 a_0) (ne_5 : n_5 = List.length a_5) (k_5 : List.length a_5 ≤ c_5) (r_5 : Rd 1 eStr m A_5 a_5), f42.l0 (scope_Twice.post W h0 m0 r) A_0 n_0 c_0 A_5 n_5 c_5 x_6 x_7 h
theorem scope_Twice.l0_k.step_l0 (go : (p : scope_Twice.l0_k.Pt) → Option (Bool)) (ih : ∀ p r, go p = some r → scope_Twice.l0_k.I p r) (a_0 a_5 x_6 x_7) (r) (e : scope_Twice.l0_k.body go (.l0 a_0 a_5 x_6 x_7) = some r) : scope_Twice.l0_k.I (.l0 a_0 a_5 x_6 x_7) r := by
  unfold scope_Twice.l0_k.body at e
  intro W h0 m0 h m A_0 n_0 c_0 A_5 n_5 c_5 O ne_0 k_0 r_0 ne_5 k_5 r_5
  subst ne_0
  subst ne_5
  refine f42.l0_in ?_
  unfold f42.l0T
  refine split_dec_e e (fun c21 e => ?_) (fun c21 e => ?_)
  · obtain ⟨y1, g2, e⟩ := bind_e e
    refine r_5.addr rfl g2 fun a3 cs4 ha5 hc6 he7 => ?_
    obtain rfl : cs4 = [(Value.string y1)] := he7
    refine ⟨_, ld0 O.s hc6 rfl, _, rfl, ?_⟩
    obtain ⟨l8, g9, e⟩ := bind_e e
    have q10 := sls_e g9
    refine ⟨q10.1, q10.2.1, cap_in q10.2.2.1 k_0, ?_⟩
    try rw [q10.2.2.2.1]
    have k11 : List.length l8 ≤ (c_0 - Int.toNat (0 : Int)) := sls_cap g9 k_0
    have r12 := r_0.sls g9 (le_mx q10.2.2.1 k_0)
    obtain ⟨y13, g14, e⟩ := bind_e e
    refine (slices_Contains_22.walk (Hold.start (W := No) O.s) rfl k11 r12 g14).mono ?_
    rintro _ h15 ⟨m16, Q17, rfl⟩
    have O19 := Hold.nm (O.retC Q17 vfs_nil)
    refine ⟨_, rfl, ?_⟩
    refine split_any_e e (fun c20 e => ?_) (fun c20 e => ?_)
    · cases e
      exact ⟨_, O19.pick [], rfl⟩
    · exact (ih _ _ e) (O19.pick []).nm rfl k_0 r_0 rfl k_5 r_5
  · cases e
    exact ⟨_, O.pick [], rfl⟩
theorem scope_Twice.l0_k.all {p : scope_Twice.l0_k.Pt} {r : (Bool)} (e : scope_Twice.l0_k.go p = some r) : scope_Twice.l0_k.I p r := fixF_ind (β := fun _ => (Bool)) scope_Twice.l0_k.mono (I := scope_Twice.l0_k.I) (fun go ih p r e => match p with
  | .l0 a_0 a_5 x_6 x_7 => scope_Twice.l0_k.step_l0 go ih a_0 a_5 x_6 x_7 r e
  ) e
noncomputable def scope_Twice (a_0 : List ByteArray) : Option (Bool) :=
  (scope_Twice.l0 a_0 a_0 (((List.length a_0) : Nat) : Int) (0 : Int))
theorem scope_Twice.walk {W h m A_0 n_0 c_0 a_0} (O : Hold W h m h m []) (ne_0 : n_0 = List.length a_0) (k_0 : List.length a_0 ≤ c_0) (r_0 : Rd 1 eStr m A_0 a_0) {r} (e : scope_Twice a_0 = some r) : Run Tryd.prog 42 #[Value.slice A_0 n_0 c_0] h (scope_Twice.post W h m r) := by
  unfold scope_Twice at e
  subst ne_0
  refine f42.run ?_
  unfold f42.runT
  exact (scope_Twice.l0_k.all e) (O.pick []).nm rfl k_0 r_0 rfl k_0 r_0
def trait_Trait.post (W : Nat → Prop) (h0 m0 : Heap) (r : Int) (v : Value) (h : Heap) : Prop := ∃ m , Hold W h0 m0 h m [] ∧ v = .int .i64 r
inductive trait_Trait.l0_k.Pt where
  | l0 (a_3 : List ByteArray) (a_7 : List T_api_Func) (x_8 : Int) (x_9 : Int)
noncomputable def trait_Trait.l0_k.body (go : (p : trait_Trait.l0_k.Pt) → Option (Int)) : (p : trait_Trait.l0_k.Pt) → Option (Int)
  | .l0 a_3 a_7 x_8 x_9 => if x_9 < x_8 then (Option.bind (gi a_7 x_9) fun y1 => Option.bind (ap 16 a_3 ([y1.Name] : List ByteArray)) fun l18 => if (((List.length y1.Types) : Nat) : Int) = (0 : Int) then (some ((12 : Int))) else (Option.bind (gi y1.Types (0 : Int)) fun y38 => Option.bind (tree_SameType y38 (T_api_Type.mk (5 : Int) (ByteArray.mk #[115, 101, 108, 102]) ([] : List T_api_Type))) fun y45 => if y45 = true then ((go (.l0 l18 a_7 x_8 (IntKind.wrap .i64 (x_9 + (1 : Int)))))) else (some ((12 : Int))))) else (Option.bind (scope_Twice a_3) fun y54 => if y54 = true then (some ((11 : Int))) else (some ((0 : Int))))
theorem trait_Trait.l0_k.mono : MonoF (β := fun _ => (Int)) trait_Trait.l0_k.body := fun f g hfg p => match p with
  | .l0 a_3 a_7 x_8 x_9 => LeO.ite (LeO.bind (LeO.refl _) fun y1 => LeO.bind (LeO.refl _) fun l18 => LeO.ite (LeO.refl _) (LeO.bind (LeO.refl _) fun y38 => LeO.bind (LeO.refl _) fun y45 => LeO.ite ((hfg _)) (LeO.refl _))) (LeO.bind (LeO.refl _) fun y54 => LeO.ite (LeO.refl _) (LeO.refl _))
noncomputable def trait_Trait.l0_k.go (p : trait_Trait.l0_k.Pt) : Option (Int) := fixF (β := fun _ => (Int)) trait_Trait.l0_k.body p
noncomputable def trait_Trait.l0 (a_3 a_7 x_8 x_9) := trait_Trait.l0_k.go (.l0 a_3 a_7 x_8 x_9)
theorem trait_Trait.l0_eq (a_3 a_7 x_8 x_9) : trait_Trait.l0 a_3 a_7 x_8 x_9 = if x_9 < x_8 then (Option.bind (gi a_7 x_9) fun y1 => Option.bind (ap 16 a_3 ([y1.Name] : List ByteArray)) fun l18 => if (((List.length y1.Types) : Nat) : Int) = (0 : Int) then (some ((12 : Int))) else (Option.bind (gi y1.Types (0 : Int)) fun y38 => Option.bind (tree_SameType y38 (T_api_Type.mk (5 : Int) (ByteArray.mk #[115, 101, 108, 102]) ([] : List T_api_Type))) fun y45 => if y45 = true then ((trait_Trait.l0 l18 a_7 x_8 (IntKind.wrap .i64 (x_9 + (1 : Int))))) else (some ((12 : Int))))) else (Option.bind (scope_Twice a_3) fun y54 => if y54 = true then (some ((11 : Int))) else (some ((0 : Int)))) := fixF_eq trait_Trait.l0_k.mono _
def trait_Trait.l0_k.I : (p : trait_Trait.l0_k.Pt) → (Int) → Prop
  | .l0 a_3 a_7 x_8 x_9, r => ∀ {W h0 m0 h m A_3 n_3 c_3 A_7 n_7 c_7} (O : Hold W h0 m0 h m [rR (aE tell_str) A_3 c_3 a_3]) (ne_3 : n_3 = List.length a_3) (ne_7 : n_7 = List.length a_7) (k_7 : List.length a_7 ≤ c_7) (r_7 : Rd 15 T_api_Func.E m A_7 a_7), f15.l0 (trait_Trait.post W h0 m0 r) A_3 n_3 c_3 A_7 n_7 c_7 x_8 x_9 h
set_option maxHeartbeats 4000000 in
theorem trait_Trait.l0_k.step_l0 (go : (p : trait_Trait.l0_k.Pt) → Option (Int)) (ih : ∀ p r, go p = some r → trait_Trait.l0_k.I p r) (a_3 a_7 x_8 x_9) (r) (e : trait_Trait.l0_k.body go (.l0 a_3 a_7 x_8 x_9) = some r) : trait_Trait.l0_k.I (.l0 a_3 a_7 x_8 x_9) r := by
  unfold trait_Trait.l0_k.body at e
  intro W h0 m0 h m A_3 n_3 c_3 A_7 n_7 c_7 O ne_3 ne_7 k_7 r_7
  subst ne_3
  subst ne_7
  refine f15.l0_in ?_
  unfold f15.l0T
  refine split_dec_e e (fun c69 e => ?_) (fun c69 e => ?_)
  · obtain ⟨y1, g2, e⟩ := bind_e e
    refine r_7.addr rfl g2 fun a3 cs4 ha5 hc6 he7 => ?_
    refine ⟨_, ldAn O.s hc6 rfl, ?_⟩
    refine O.new fun h8 x9 O10 => ?_
    refine ⟨_, rfl, (T_api_Func.T.len _ _ _ he7), ?_⟩
    refine O10.stA 1 rfl (T_api_Func.T.len _ _ _ he7) (T_api_Func.T.flat _ _ _ he7) fun h12 O13 => ?_
    refine ⟨_, ld0 (Sub.refl _) (O13.all 1 rfl) (T_api_Func.g0 he7), _, rfl, ?_⟩
    refine O13.new fun h14 x15 O16 => ?_
    obtain ⟨l18, g19, e⟩ := bind_e e
    have O26 := O16.rowE (l := ([y1.Name] : List ByteArray)) 2 rfl tell_str (show CsE _ _ _ _ _ from (CsE.cons (c1 := [(Value.string y1.Name)]) rfl rfl CsE.nil)) rfl
    refine O26.app 0 rfl rfl rfl ((O26.os 2 rfl).srcE rfl) (by decide) g19 fun A20 c21 h22 O23 => ?_
    refine ⟨_, _, _, rfl, ?_⟩
    have O27 := O23.nm
    obtain ⟨A28, c29, q30, k31, r32⟩ := T_api_Func.g3 he7
    refine ⟨_, ldk (k := 3) (Sub.refl _) (O27.all 1 rfl) q30, _, _, _, rfl, ?_⟩
    refine split_eq_e e (fun c53 e => ?_) (fun c53 e => ?_)
    · cases e
      exact ⟨_, O27.pick [], rfl⟩
    · obtain ⟨A33, c34, q35, k36, r37⟩ := T_api_Func.g3 he7
      refine ⟨_, ldk (k := 3) (Sub.refl _) (O27.all 1 rfl) q35, _, _, _, rfl, ?_⟩
      obtain ⟨y38, g39, e⟩ := bind_e e
      refine r37.addr rfl g39 fun a40 cs41 ha42 hc43 he44 => ?_
      refine ⟨_, ldAn O27.s hc43 rfl, ?_⟩
      obtain ⟨y45, g46, e⟩ := bind_e e
      refine (tree_SameType.walk (Hold.start (W := No) O27.s) he44 (T_api_Type.iff.2 ⟨_, _, rfl, (by exact Nat.le_refl 0), Rd.nil⟩) g46).mono ?_
      rintro _ h47 ⟨m48, Q49, rfl⟩
      have O51 := Hold.nm (O27.retC Q49 vfs_nil)
      refine ⟨_, rfl, ?_⟩
      refine split_not ?_
      refine split_any_e e (fun c52 e => ?_) (fun c52 e => ?_)
      · exact (ih _ _ e) (O51.pick [0]).nm rfl rfl k_7 r_7
      · cases e
        exact ⟨_, O51.pick [], rfl⟩
  · obtain ⟨y54, g55, e⟩ := bind_e e
    obtain ⟨m60, u61, s66, ⟨⟨r64, k65⟩, _⟩, B62, C63⟩ := O.lend0 [0]
    replace r64 : Rd 1 eStr m60 A_3 a_3 := r64
    replace k65 : List.length a_3 ≤ c_3 := k65
    refine (scope_Twice.walk (Hold.start (W := No) s66) rfl k65 r64 g55).mono ?_
    rintro _ h56 ⟨m57, Q58, rfl⟩
    have O67 := Hold.nm (C63 Q58 vfs_nil)
    refine ⟨_, rfl, ?_⟩
    refine split_any_e e (fun c68 e => ?_) (fun c68 e => ?_)
    · cases e
      exact ⟨_, O67.pick [], rfl⟩
    · cases e
      exact ⟨_, O67.pick [], rfl⟩
theorem trait_Trait.l0_k.all {p : trait_Trait.l0_k.Pt} {r : (Int)} (e : trait_Trait.l0_k.go p = some r) : trait_Trait.l0_k.I p r := fixF_ind (β := fun _ => (Int)) trait_Trait.l0_k.mono (I := trait_Trait.l0_k.I) (fun go ih p r e => match p with
  | .l0 a_3 a_7 x_8 x_9 => trait_Trait.l0_k.step_l0 go ih a_3 a_7 x_8 x_9 r e
  ) e
noncomputable def trait_Trait (y_0 : T_api_Trait) : Option (Int) :=
  (trait_Trait.l0 ([] : List ByteArray) y_0.Funcs (((List.length y_0.Funcs) : Nat) : Int) (0 : Int))
theorem trait_Trait.walk {W h m cs_0 y_0} (O : Hold W h m h m []) (e_0 : T_api_Trait.E m y_0 cs_0) {r} (e : trait_Trait y_0 = some r) : Run Tryd.prog 15 #[Value.agg cs_0.toArray] h (trait_Trait.post W h m r) := by
  unfold trait_Trait at e
  refine f15.run ?_
  unfold f15.runT
  refine O.new fun h1 x2 O3 => ?_
  obtain ⟨A5, c6, q7, k8, r9⟩ := T_api_Trait.g1 e_0
  refine ⟨_, ldk (k := 1) (Sub.refl _) (O3.all 0 rfl) q7, _, _, _, rfl, ?_⟩
  have O10 := O3.nil (aE tell_str) none
  have O12 := O10.nm
  exact (trait_Trait.l0_k.all e) (O12.pick [1]).nm rfl rfl k8 r9
def slices_IndexFunc_12.post (W : Nat → Prop) (h0 m0 : Heap) (r : Int) (v : Value) (h : Heap) : Prop := ∃ m , Hold W h0 m0 h m [] ∧ v = .int .i64 r
inductive slices_IndexFunc_12.l0_k.Pt where
  | l0 (a_0 : List T_api_Impl) (p_1 : T_api_Impl → Option Bool) (x_7 : Int) (x_8 : Int)
noncomputable def slices_IndexFunc_12.l0_k.body (go : (p : slices_IndexFunc_12.l0_k.Pt) → Option (Int)) : (p : slices_IndexFunc_12.l0_k.Pt) → Option (Int)
  | .l0 a_0 p_1 x_7 x_8 => if x_8 < x_7 then (Option.bind (gi a_0 x_8) fun y1 => Option.bind (p_1 y1) fun y8 => if y8 = true then (some (x_8)) else ((go (.l0 a_0 p_1 x_7 (IntKind.wrap .i64 (x_8 + (1 : Int))))))) else (some ((-1 : Int)))
theorem slices_IndexFunc_12.l0_k.mono : MonoF (β := fun _ => (Int)) slices_IndexFunc_12.l0_k.body := fun f g hfg p => match p with
  | .l0 a_0 p_1 x_7 x_8 => LeO.ite (LeO.bind (LeO.refl _) fun y1 => LeO.bind (LeO.refl _) fun y8 => LeO.ite (LeO.refl _) ((hfg _))) (LeO.refl _)
noncomputable def slices_IndexFunc_12.l0_k.go (p : slices_IndexFunc_12.l0_k.Pt) : Option (Int) := fixF (β := fun _ => (Int)) slices_IndexFunc_12.l0_k.body p
noncomputable def slices_IndexFunc_12.l0 (a_0 p_1 x_7 x_8) := slices_IndexFunc_12.l0_k.go (.l0 a_0 p_1 x_7 x_8)
theorem slices_IndexFunc_12.l0_eq (a_0 p_1 x_7 x_8) : slices_IndexFunc_12.l0 a_0 p_1 x_7 x_8 = if x_8 < x_7 then (Option.bind (gi a_0 x_8) fun y1 => Option.bind (p_1 y1) fun y8 => if y8 = true then (some (x_8)) else ((slices_IndexFunc_12.l0 a_0 p_1 x_7 (IntKind.wrap .i64 (x_8 + (1 : Int)))))) else (some ((-1 : Int))) := fixF_eq slices_IndexFunc_12.l0_k.mono _
def slices_IndexFunc_12.l0_k.I : (p : slices_IndexFunc_12.l0_k.Pt) → (Int) → Prop
  | .l0 a_0 p_1 x_7 x_8, r => ∀ {W h0 m0 h m A_0 n_0 c_0 fv_1} (O : Hold W h0 m0 h m []) (ne_0 : n_0 = List.length a_0) (k_0 : List.length a_0 ≤ c_0) (r_0 : Rd 3 T_api_Impl.E m A_0 a_0) (f_1 : ∀ h' m', Sub m0 m' → Sub m' h' → ∀ (y0 : T_api_Impl) (cs0 : List Value) (_ : T_api_Impl.E m' y0 cs0) (r : Bool), p_1 y0 = some r → CallF Tryd.prog fv_1 [.agg cs0.toArray] h' (fun v h'' => v = .bool r ∧ Ext h' h'')), f12.l0 (slices_IndexFunc_12.post W h0 m0 r) A_0 n_0 c_0 fv_1 x_7 x_8 h
theorem slices_IndexFunc_12.l0_k.step_l0 (go : (p : slices_IndexFunc_12.l0_k.Pt) → Option (Int)) (ih : ∀ p r, go p = some r → slices_IndexFunc_12.l0_k.I p r) (a_0 p_1 x_7 x_8) (r) (e : slices_IndexFunc_12.l0_k.body go (.l0 a_0 p_1 x_7 x_8) = some r) : slices_IndexFunc_12.l0_k.I (.l0 a_0 p_1 x_7 x_8) r := by
  unfold slices_IndexFunc_12.l0_k.body at e
  intro W h0 m0 h m A_0 n_0 c_0 fv_1 O ne_0 k_0 r_0 f_1
  subst ne_0
  refine f12.l0_in ?_
  unfold f12.l0T
  refine split_dec_e e (fun c14 e => ?_) (fun c14 e => ?_)
  · obtain ⟨y1, g2, e⟩ := bind_e e
    refine r_0.addr rfl g2 fun a3 cs4 ha5 hc6 he7 => ?_
    refine ⟨_, ldAn O.s hc6 rfl, ?_⟩
    obtain ⟨y8, g9, e⟩ := bind_e e
    refine CallF.mono (f_1 _ _ O.up O.s _ _ he7 _ g9) ?_
    rintro _ h10 ⟨rfl, x11⟩
    have O12 := O.ext x11
    refine ⟨_, rfl, ?_⟩
    refine split_any_e e (fun c13 e => ?_) (fun c13 e => ?_)
    · cases e
      exact ⟨_, O12.pick [], rfl⟩
    · exact (ih _ _ e) (O12.pick []).nm rfl k_0 r_0 f_1
  · cases e
    exact ⟨_, O.pick [], rfl⟩
theorem slices_IndexFunc_12.l0_k.all {p : slices_IndexFunc_12.l0_k.Pt} {r : (Int)} (e : slices_IndexFunc_12.l0_k.go p = some r) : slices_IndexFunc_12.l0_k.I p r := fixF_ind (β := fun _ => (Int)) slices_IndexFunc_12.l0_k.mono (I := slices_IndexFunc_12.l0_k.I) (fun go ih p r e => match p with
  | .l0 a_0 p_1 x_7 x_8 => slices_IndexFunc_12.l0_k.step_l0 go ih a_0 p_1 x_7 x_8 r e
  ) e
noncomputable def slices_IndexFunc_12 (a_0 : List T_api_Impl) (p_1 : T_api_Impl → Option Bool) : Option (Int) :=
  (slices_IndexFunc_12.l0 a_0 p_1 (((List.length a_0) : Nat) : Int) (0 : Int))
theorem slices_IndexFunc_12.walk {p_1 : T_api_Impl → Option Bool} {W h m A_0 n_0 c_0 fv_1 a_0} (O : Hold W h m h m []) (ne_0 : n_0 = List.length a_0) (k_0 : List.length a_0 ≤ c_0) (r_0 : Rd 3 T_api_Impl.E m A_0 a_0) (f_1 : ∀ h' m', Sub m m' → Sub m' h' → ∀ (y0 : T_api_Impl) (cs0 : List Value) (_ : T_api_Impl.E m' y0 cs0) (r : Bool), p_1 y0 = some r → CallF Tryd.prog fv_1 [.agg cs0.toArray] h' (fun v h'' => v = .bool r ∧ Ext h' h'')) {r} (e : slices_IndexFunc_12 a_0 p_1 = some r) : Run Tryd.prog 12 #[Value.slice A_0 n_0 c_0, fv_1] h (slices_IndexFunc_12.post W h m r) := by
  unfold slices_IndexFunc_12 at e
  subst ne_0
  refine f12.run ?_
  unfold f12.runT
  exact (slices_IndexFunc_12.l0_k.all e) (O.pick []).nm rfl k_0 r_0 f_1
def slices_ContainsFunc_33.post (W : Nat → Prop) (h0 m0 : Heap) (r : Bool) (v : Value) (h : Heap) : Prop := ∃ m , Hold W h0 m0 h m [] ∧ v = .bool r
noncomputable def slices_ContainsFunc_33 (a_0 : List T_api_Impl) (p_1 : T_api_Impl → Option Bool) : Option (Bool) :=
  Option.bind (slices_IndexFunc_12 a_0 p_1) fun y1 => some ((decide (y1 ≥ (0 : Int))))
theorem slices_ContainsFunc_33.walk {p_1 : T_api_Impl → Option Bool} {W h m A_0 n_0 c_0 fv_1 a_0} (O : Hold W h m h m []) (ne_0 : n_0 = List.length a_0) (k_0 : List.length a_0 ≤ c_0) (r_0 : Rd 3 T_api_Impl.E m A_0 a_0) (f_1 : ∀ h' m', Sub m m' → Sub m' h' → ∀ (y0 : T_api_Impl) (cs0 : List Value) (_ : T_api_Impl.E m' y0 cs0) (r : Bool), p_1 y0 = some r → CallF Tryd.prog fv_1 [.agg cs0.toArray] h' (fun v h'' => v = .bool r ∧ Ext h' h'')) {r} (e : slices_ContainsFunc_33 a_0 p_1 = some r) : Run Tryd.prog 33 #[Value.slice A_0 n_0 c_0, fv_1] h (slices_ContainsFunc_33.post W h m r) := by
  unfold slices_ContainsFunc_33 at e
  subst ne_0
  refine f33.run ?_
  unfold f33.runT
  obtain ⟨y1, g2, e⟩ := bind_e e
  refine (slices_IndexFunc_12.walk (Hold.start (W := No) O.s) rfl k_0 r_0 f_1 g2).mono ?_
  rintro _ h3 ⟨m4, Q5, rfl⟩
  have O7 := Hold.nm (O.retC Q5 vfs_nil)
  refine ⟨_, rfl, ?_⟩
  cases e
  exact ⟨_, O7.pick [], rfl⟩
theorem slices_ContainsFunc_33.val {l : List T_api_Impl} {p : T_api_Impl → Option Bool} (q : T_api_Impl → Bool) (hp : ∀ x ∈ l, p x = some (q x)) (hl : l.length ≤ 4611686018427387904) : slices_ContainsFunc_33 l p = some (l.any q) := findB_val (fun a p n i => slices_IndexFunc_12.l0_eq a p n i) (fun _ _ => rfl) (fun _ _ => rfl) q hp hl
def trait_Program_1.post (W : Nat → Prop) (h0 m0 : Heap) (r : Bool) (v : Value) (h : Heap) : Prop := ∃ m , Hold W h0 m0 h m [] ∧ v = .bool r
noncomputable def trait_Program_1 (y_0 : T_api_Impl) (y_1 : T_api_Impl) : Option (Bool) :=
  if y_0.Trait = y_1.Trait then (some ((decide (y_0.For = y_1.For)))) else (some (false))
theorem trait_Program_1.walk {W h m cs_0 bk_1 y_0 y_1} (O : Hold W h m h m []) (e_0 : T_api_Impl.E m y_0 cs_0) (v_1 : VB T_api_Impl.E m bk_1 y_1) {r} (e : trait_Program_1 y_0 y_1 = some r) : Run Tryd.prog 34 #[Value.agg cs_0.toArray, Value.pointer (some ⟨bk_1, 0, none⟩)] h (trait_Program_1.post W h m r) := by
  unfold trait_Program_1 at e
  obtain ⟨cs_1, t_1, hb_1, nn_1, e_1⟩ := id v_1
  refine f34.run ?_
  unfold f34.runT
  refine O.new fun h1 x2 O3 => ?_
  refine ⟨_, ld0 (Sub.refl _) (O3.all 0 rfl) (T_api_Impl.g0 e_0), _, rfl, ?_⟩
  refine ⟨_, ld0 O3.s (Blk.all' hb_1) (T_api_Impl.g0 e_1), _, rfl, ?_⟩
  try rw [ba_list y_0.Trait y_1.Trait]
  refine split_dec_e e (fun c7 e => ?_) (fun c7 e => ?_)
  · refine ⟨_, ldk (k := 1) (Sub.refl _) (O3.all 0 rfl) (T_api_Impl.g1 e_0), _, rfl, ?_⟩
    refine ⟨_, ldk (k := 1) O3.s (Blk.all' hb_1) (T_api_Impl.g1 e_1), _, rfl, ?_⟩
    try rw [ba_list y_0.For y_1.For]
    have O5 := O3.nm
    cases e
    exact ⟨_, O5.pick [], rfl⟩
  · have O6 := O3.nm
    cases e
    exact ⟨_, O6.pick [], rfl⟩
def trait_Find.post (W : Nat → Prop) (h0 m0 : Heap) (r : T_api_Trait × Int) (v : Value) (h : Heap) : Prop := ∃ m cs0, Hold W h0 m0 h m [] ∧ v = .tuple #[.agg cs0.toArray, .int .i64 r.2] ∧ T_api_Trait.E m r.1 cs0
inductive trait_Find.l0_k.Pt where
  | l0 (s_1 : ByteArray) (y_4 : T_api_Trait) (a_9 : List T_api_Trait) (x_10 : Int) (x_11 : Int)
noncomputable def trait_Find.l0_k.body (go : (p : trait_Find.l0_k.Pt) → Option (T_api_Trait × Int)) : (p : trait_Find.l0_k.Pt) → Option (T_api_Trait × Int)
  | .l0 s_1 y_4 a_9 x_10 x_11 => if x_11 < x_10 then (Option.bind (gi a_9 x_11) fun y1 => if y1.Name = s_1 then (some (y1, (0 : Int))) else ((go (.l0 s_1 y_4 a_9 x_10 (IntKind.wrap .i64 (x_11 + (1 : Int))))))) else (some ((T_api_Trait.mk (ByteArray.mk #[]) ([] : List T_api_Func)), (11 : Int)))
theorem trait_Find.l0_k.mono : MonoF (β := fun _ => (T_api_Trait × Int)) trait_Find.l0_k.body := fun f g hfg p => match p with
  | .l0 s_1 y_4 a_9 x_10 x_11 => LeO.ite (LeO.bind (LeO.refl _) fun y1 => LeO.ite (LeO.refl _) ((hfg _))) (LeO.refl _)
noncomputable def trait_Find.l0_k.go (p : trait_Find.l0_k.Pt) : Option (T_api_Trait × Int) := fixF (β := fun _ => (T_api_Trait × Int)) trait_Find.l0_k.body p
noncomputable def trait_Find.l0 (s_1 y_4 a_9 x_10 x_11) := trait_Find.l0_k.go (.l0 s_1 y_4 a_9 x_10 x_11)
theorem trait_Find.l0_eq (s_1 y_4 a_9 x_10 x_11) : trait_Find.l0 s_1 y_4 a_9 x_10 x_11 = if x_11 < x_10 then (Option.bind (gi a_9 x_11) fun y1 => if y1.Name = s_1 then (some (y1, (0 : Int))) else ((trait_Find.l0 s_1 y_4 a_9 x_10 (IntKind.wrap .i64 (x_11 + (1 : Int)))))) else (some ((T_api_Trait.mk (ByteArray.mk #[]) ([] : List T_api_Func)), (11 : Int))) := fixF_eq trait_Find.l0_k.mono _
def trait_Find.l0_k.I : (p : trait_Find.l0_k.Pt) → (T_api_Trait × Int) → Prop
  | .l0 s_1 y_4 a_9 x_10 x_11, r => ∀ {W h0 m0 h m bk_4 cs_4 A_9 n_9 c_9} (O : Hold W h0 m0 h m [rV bk_4 37 cs_4]) (e_4 : T_api_Trait.E m y_4 cs_4) (ne_9 : n_9 = List.length a_9) (k_9 : List.length a_9 ≤ c_9) (r_9 : Rd 2 T_api_Trait.E m A_9 a_9), f10.l0 (trait_Find.post W h0 m0 r) s_1 (⟨bk_4, 0, none⟩ : Addr) A_9 n_9 c_9 x_10 x_11 h
theorem trait_Find.l0_k.step_l0 (go : (p : trait_Find.l0_k.Pt) → Option (T_api_Trait × Int)) (ih : ∀ p r, go p = some r → trait_Find.l0_k.I p r) (s_1 y_4 a_9 x_10 x_11) (r) (e : trait_Find.l0_k.body go (.l0 s_1 y_4 a_9 x_10 x_11) = some r) : trait_Find.l0_k.I (.l0 s_1 y_4 a_9 x_10 x_11) r := by
  unfold trait_Find.l0_k.body at e
  intro W h0 m0 h m bk_4 cs_4 A_9 n_9 c_9 O e_4 ne_9 k_9 r_9
  subst ne_9
  refine f10.l0_in ?_
  unfold f10.l0T
  refine split_dec_e e (fun c22 e => ?_) (fun c22 e => ?_)
  · obtain ⟨y1, g2, e⟩ := bind_e e
    refine r_9.addr rfl g2 fun a3 cs4 ha5 hc6 he7 => ?_
    refine ⟨_, ldAn O.s hc6 rfl, ?_⟩
    refine O.new fun h8 x9 O10 => ?_
    refine ⟨_, rfl, (T_api_Trait.T.len _ _ _ he7), ?_⟩
    refine O10.stA 1 rfl (T_api_Trait.T.len _ _ _ he7) (T_api_Trait.T.flat _ _ _ he7) fun h12 O13 => ?_
    refine ⟨_, ld0 (Sub.refl _) (O13.all 1 rfl) (T_api_Trait.g0 he7), _, rfl, ?_⟩
    try rw [ba_list y1.Name s_1]
    refine split_dec_e e (fun c18 e => ?_) (fun c18 e => ?_)
    · refine ⟨_, ldAn (Sub.refl _) (O13.all 1 rfl) (T_api_Trait.T.len _ _ _ he7), ?_⟩
      refine ⟨_, rfl, (T_api_Trait.T.len _ _ _ he7), ?_⟩
      refine O13.stA 0 rfl ((T_api_Trait.T.len _ _ _ he7).trans ((T_api_Trait.T.len _ _ _ e_4)).symm) (T_api_Trait.T.flat _ _ _ he7) fun h14 O15 => ?_
      refine ⟨_, ldAn (Sub.refl _) (O15.all 0 rfl) (T_api_Trait.T.len _ _ _ he7), ?_⟩
      have O16 := O15.nm
      cases e
      exact ⟨_, _, O16.pick [], rfl, he7⟩
    · have O17 := O13.nm
      exact (ih _ _ e) (O17.pick [0]).nm e_4 rfl k_9 r_9
  · refine ⟨_, rfl, rfl, ?_⟩
    refine O.stA 0 rfl ((T_api_Trait.T.len _ _ _ e_4)).symm (Flats.cons trivial (Flats.cons trivial Flats.nil)) fun h19 O20 => ?_
    refine ⟨_, ldAn (Sub.refl _) (O20.all 0 rfl) rfl, ?_⟩
    have O21 := O20.nm
    cases e
    exact ⟨_, _, O21.pick [], rfl, (show T_api_Trait.E _ (T_api_Trait.mk (ByteArray.mk #[]) ([] : List T_api_Func)) [(Value.string (ByteArray.mk #[])), (Value.slice none 0 0)] from ⟨_, _, rfl, (by exact Nat.le_refl 0), Rd.nil⟩)⟩
theorem trait_Find.l0_k.all {p : trait_Find.l0_k.Pt} {r : (T_api_Trait × Int)} (e : trait_Find.l0_k.go p = some r) : trait_Find.l0_k.I p r := fixF_ind (β := fun _ => (T_api_Trait × Int)) trait_Find.l0_k.mono (I := trait_Find.l0_k.I) (fun go ih p r e => match p with
  | .l0 s_1 y_4 a_9 x_10 x_11 => trait_Find.l0_k.step_l0 go ih s_1 y_4 a_9 x_10 x_11 r e
  ) e
noncomputable def trait_Find (y_0 : T_api_Program) (s_1 : ByteArray) : Option (T_api_Trait × Int) :=
  (trait_Find.l0 s_1 (T_api_Trait.mk (ByteArray.mk #[]) ([] : List T_api_Func)) y_0.Traits (((List.length y_0.Traits) : Nat) : Int) (0 : Int))
theorem trait_Find.walk {W h m cs_0 y_0 s_1} (O : Hold W h m h m []) (e_0 : T_api_Program.E m y_0 cs_0) {r} (e : trait_Find y_0 s_1 = some r) : Run Tryd.prog 10 #[Value.agg cs_0.toArray, Value.string s_1] h (trait_Find.post W h m r) := by
  unfold trait_Find at e
  refine f10.run ?_
  unfold f10.runT
  refine O.new fun h1 x2 O3 => ?_
  refine O3.new fun h5 x6 O7 => ?_
  obtain ⟨A9, c10, q11, k12, r13⟩ := T_api_Program.g4 e_0
  refine ⟨_, ldk (k := 4) (Sub.refl _) (O7.all 0 rfl) q11, _, _, _, rfl, ?_⟩
  have O14 := O7.nm
  exact (trait_Find.l0_k.all e) (O14.pick [1]).nm (show T_api_Trait.E _ (T_api_Trait.mk (ByteArray.mk #[]) ([] : List T_api_Func)) [(Value.string (ByteArray.mk #[])), (Value.slice none 0 0)] from ⟨_, _, rfl, (by exact Nat.le_refl 0), Rd.nil⟩) rfl k12 r13
def slices_Equal_32.post (W : Nat → Prop) (h0 m0 : Heap) (r : Bool) (v : Value) (h : Heap) : Prop := ∃ m , Hold W h0 m0 h m [] ∧ v = .bool r
inductive slices_Equal_32.l0_k.Pt where
  | l0 (a_0 : List ByteArray) (a_1 : List ByteArray) (x_12 : Int) (x_13 : Int)
noncomputable def slices_Equal_32.l0_k.body (go : (p : slices_Equal_32.l0_k.Pt) → Option (Bool)) : (p : slices_Equal_32.l0_k.Pt) → Option (Bool)
  | .l0 a_0 a_1 x_12 x_13 => if x_13 < x_12 then (Option.bind (gi a_0 x_13) fun y1 => Option.bind (gi a_1 x_13) fun y8 => if y1 = y8 then ((go (.l0 a_0 a_1 x_12 (IntKind.wrap .i64 (x_13 + (1 : Int)))))) else (some (false))) else (some (true))
theorem slices_Equal_32.l0_k.mono : MonoF (β := fun _ => (Bool)) slices_Equal_32.l0_k.body := fun f g hfg p => match p with
  | .l0 a_0 a_1 x_12 x_13 => LeO.ite (LeO.bind (LeO.refl _) fun y1 => LeO.bind (LeO.refl _) fun y8 => LeO.ite ((hfg _)) (LeO.refl _)) (LeO.refl _)
noncomputable def slices_Equal_32.l0_k.go (p : slices_Equal_32.l0_k.Pt) : Option (Bool) := fixF (β := fun _ => (Bool)) slices_Equal_32.l0_k.body p
noncomputable def slices_Equal_32.l0 (a_0 a_1 x_12 x_13) := slices_Equal_32.l0_k.go (.l0 a_0 a_1 x_12 x_13)
theorem slices_Equal_32.l0_eq (a_0 a_1 x_12 x_13) : slices_Equal_32.l0 a_0 a_1 x_12 x_13 = if x_13 < x_12 then (Option.bind (gi a_0 x_13) fun y1 => Option.bind (gi a_1 x_13) fun y8 => if y1 = y8 then ((slices_Equal_32.l0 a_0 a_1 x_12 (IntKind.wrap .i64 (x_13 + (1 : Int))))) else (some (false))) else (some (true)) := fixF_eq slices_Equal_32.l0_k.mono _
def slices_Equal_32.l0_k.I : (p : slices_Equal_32.l0_k.Pt) → (Bool) → Prop
  | .l0 a_0 a_1 x_12 x_13, r => ∀ {W h0 m0 h m A_0 n_0 c_0 A_1 n_1 c_1} (O : Hold W h0 m0 h m []) (ne_0 : n_0 = List.length a_0) (k_0 : List.length a_0 ≤ c_0) (r_0 : Rd 1 eStr m A_0 a_0) (ne_1 : n_1 = List.length a_1) (k_1 : List.length a_1 ≤ c_1) (r_1 : Rd 1 eStr m A_1 a_1), f32.l0 (slices_Equal_32.post W h0 m0 r) A_0 n_0 c_0 A_1 n_1 c_1 x_12 x_13 h
theorem slices_Equal_32.l0_k.step_l0 (go : (p : slices_Equal_32.l0_k.Pt) → Option (Bool)) (ih : ∀ p r, go p = some r → slices_Equal_32.l0_k.I p r) (a_0 a_1 x_12 x_13) (r) (e : slices_Equal_32.l0_k.body go (.l0 a_0 a_1 x_12 x_13) = some r) : slices_Equal_32.l0_k.I (.l0 a_0 a_1 x_12 x_13) r := by
  unfold slices_Equal_32.l0_k.body at e
  intro W h0 m0 h m A_0 n_0 c_0 A_1 n_1 c_1 O ne_0 k_0 r_0 ne_1 k_1 r_1
  subst ne_0
  subst ne_1
  refine f32.l0_in ?_
  unfold f32.l0T
  refine split_dec_e e (fun c16 e => ?_) (fun c16 e => ?_)
  · obtain ⟨y1, g2, e⟩ := bind_e e
    refine r_0.addr rfl g2 fun a3 cs4 ha5 hc6 he7 => ?_
    obtain rfl : cs4 = [(Value.string y1)] := he7
    obtain ⟨y8, g9, e⟩ := bind_e e
    refine r_1.addr rfl g9 fun a10 cs11 ha12 hc13 he14 => ?_
    obtain rfl : cs11 = [(Value.string y8)] := he14
    refine ⟨_, ld0 O.s hc6 rfl, _, rfl, ?_⟩
    refine ⟨_, ld0 O.s hc13 rfl, _, rfl, ?_⟩
    try rw [ba_list y1 y8]
    refine split_not ?_
    refine split_dec_e e (fun c15 e => ?_) (fun c15 e => ?_)
    · exact (ih _ _ e) (O.pick []).nm rfl k_0 r_0 rfl k_1 r_1
    · cases e
      exact ⟨_, O.pick [], rfl⟩
  · cases e
    exact ⟨_, O.pick [], rfl⟩
theorem slices_Equal_32.l0_k.all {p : slices_Equal_32.l0_k.Pt} {r : (Bool)} (e : slices_Equal_32.l0_k.go p = some r) : slices_Equal_32.l0_k.I p r := fixF_ind (β := fun _ => (Bool)) slices_Equal_32.l0_k.mono (I := slices_Equal_32.l0_k.I) (fun go ih p r e => match p with
  | .l0 a_0 a_1 x_12 x_13 => slices_Equal_32.l0_k.step_l0 go ih a_0 a_1 x_12 x_13 r e
  ) e
noncomputable def slices_Equal_32 (a_0 : List ByteArray) (a_1 : List ByteArray) : Option (Bool) :=
  if (((List.length a_0) : Nat) : Int) = (((List.length a_1) : Nat) : Int) then ((slices_Equal_32.l0 a_0 a_1 (((List.length a_0) : Nat) : Int) (0 : Int))) else (some (false))
theorem slices_Equal_32.walk {W h m A_0 n_0 c_0 A_1 n_1 c_1 a_0 a_1} (O : Hold W h m h m []) (ne_0 : n_0 = List.length a_0) (k_0 : List.length a_0 ≤ c_0) (r_0 : Rd 1 eStr m A_0 a_0) (ne_1 : n_1 = List.length a_1) (k_1 : List.length a_1 ≤ c_1) (r_1 : Rd 1 eStr m A_1 a_1) {r} (e : slices_Equal_32 a_0 a_1 = some r) : Run Tryd.prog 32 #[Value.slice A_0 n_0 c_0, Value.slice A_1 n_1 c_1] h (slices_Equal_32.post W h m r) := by
  unfold slices_Equal_32 at e
  subst ne_0
  subst ne_1
  refine f32.run ?_
  unfold f32.runT
  refine split_ne_e e (fun c1 e => ?_) (fun c1 e => ?_)
  · cases e
    exact ⟨_, O.pick [], rfl⟩
  · exact (slices_Equal_32.l0_k.all e) (O.pick []).nm rfl k_0 r_0 rfl k_1 r_1
def infer_Head.post (W : Nat → Prop) (h0 m0 : Heap) (r : ByteArray) (v : Value) (h : Heap) : Prop := ∃ m , Hold W h0 m0 h m [] ∧ v = .string r
noncomputable def infer_Head (y_0 : T_api_Type) : Option (ByteArray) :=
  if y_0.Kind = (1 : Int) then (some ((ByteArray.mk #[105, 110, 116]))) else (if y_0.Kind = (2 : Int) then (some ((ByteArray.mk #[98, 111, 111, 108]))) else (if y_0.Kind = (3 : Int) then (some ((ByteArray.mk #[116, 101, 120, 116]))) else (if y_0.Kind = (4 : Int) then (some ((ByteArray.mk #[117, 110, 105, 116]))) else (if y_0.Kind = (6 : Int) then (some (y_0.Name)) else (some ((ByteArray.mk #[])))))))
theorem infer_Head.walk {W h m cs_0 y_0} (O : Hold W h m h m []) (e_0 : T_api_Type.E m y_0 cs_0) {r} (e : infer_Head y_0 = some r) : Run Tryd.prog 39 #[Value.agg cs_0.toArray] h (infer_Head.post W h m r) := by
  unfold infer_Head at e
  refine f39.run ?_
  unfold f39.runT
  refine O.new fun h1 x2 O3 => ?_
  refine ⟨_, ld0 (Sub.refl _) (O3.all 0 rfl) (T_api_Type.g0 e_0), _, rfl, ?_⟩
  refine split_eq_e e (fun c15 e => ?_) (fun c15 e => ?_)
  · have O5 := O3.nm
    cases e
    exact ⟨_, O5.pick [], rfl⟩
  · refine split_eq_e e (fun c14 e => ?_) (fun c14 e => ?_)
    · have O6 := O3.nm
      cases e
      exact ⟨_, O6.pick [], rfl⟩
    · refine split_eq_e e (fun c13 e => ?_) (fun c13 e => ?_)
      · have O7 := O3.nm
        cases e
        exact ⟨_, O7.pick [], rfl⟩
      · refine split_eq_e e (fun c12 e => ?_) (fun c12 e => ?_)
        · have O8 := O3.nm
          cases e
          exact ⟨_, O8.pick [], rfl⟩
        · refine split_eq_e e (fun c11 e => ?_) (fun c11 e => ?_)
          · refine ⟨_, ldk (k := 1) (Sub.refl _) (O3.all 0 rfl) (T_api_Type.g1 e_0), _, rfl, ?_⟩
            have O9 := O3.nm
            cases e
            exact ⟨_, O9.pick [], rfl⟩
          · have O10 := O3.nm
            cases e
            exact ⟨_, O10.pick [], rfl⟩
def trait_vars.post (W : Nat → Prop) (h0 m0 : Heap) (r : (List ByteArray) × Bool) (v : Value) (h : Heap) : Prop := ∃ m A0 n0 c0, Hold W h0 m0 h m [rR (aE tell_str) A0 c0 r.1] ∧ v = .tuple #[.slice A0 n0 c0, .bool r.2] ∧ n0 = List.length r.1
inductive trait_vars.l0_k.Pt where
  | l0 (s_1 : ByteArray) (y_2 : T_api_Type) (a_6 : List ByteArray) (a_10 : List T_api_Type) (x_11 : Int) (x_12 : Int)
noncomputable def trait_vars.l0_k.body (go : (p : trait_vars.l0_k.Pt) → Option ((List ByteArray) × Bool)) : (p : trait_vars.l0_k.Pt) → Option ((List ByteArray) × Bool)
  | .l0 s_1 y_2 a_6 a_10 x_11 x_12 => if x_12 < x_11 then (Option.bind (gi a_10 x_12) fun y1 => if y1.Kind = (5 : Int) then (Option.bind (ap 16 a_6 ([y1.Name] : List ByteArray)) fun l21 => (go (.l0 s_1 y_2 l21 a_10 x_11 (IntKind.wrap .i64 (x_12 + (1 : Int)))))) else (some (([] : List ByteArray), false))) else (Option.bind (infer_Head y_2) fun y32 => if y32 = s_1 then (Option.bind (scope_Twice a_6) fun y39 => some (a_6, (!y39))) else (some (a_6, false)))
theorem trait_vars.l0_k.mono : MonoF (β := fun _ => ((List ByteArray) × Bool)) trait_vars.l0_k.body := fun f g hfg p => match p with
  | .l0 s_1 y_2 a_6 a_10 x_11 x_12 => LeO.ite (LeO.bind (LeO.refl _) fun y1 => LeO.ite (LeO.bind (LeO.refl _) fun l21 => (hfg _)) (LeO.refl _)) (LeO.bind (LeO.refl _) fun y32 => LeO.ite (LeO.bind (LeO.refl _) fun y39 => LeO.refl _) (LeO.refl _))
noncomputable def trait_vars.l0_k.go (p : trait_vars.l0_k.Pt) : Option ((List ByteArray) × Bool) := fixF (β := fun _ => ((List ByteArray) × Bool)) trait_vars.l0_k.body p
noncomputable def trait_vars.l0 (s_1 y_2 a_6 a_10 x_11 x_12) := trait_vars.l0_k.go (.l0 s_1 y_2 a_6 a_10 x_11 x_12)
theorem trait_vars.l0_eq (s_1 y_2 a_6 a_10 x_11 x_12) : trait_vars.l0 s_1 y_2 a_6 a_10 x_11 x_12 = if x_12 < x_11 then (Option.bind (gi a_10 x_12) fun y1 => if y1.Kind = (5 : Int) then (Option.bind (ap 16 a_6 ([y1.Name] : List ByteArray)) fun l21 => (trait_vars.l0 s_1 y_2 l21 a_10 x_11 (IntKind.wrap .i64 (x_12 + (1 : Int))))) else (some (([] : List ByteArray), false))) else (Option.bind (infer_Head y_2) fun y32 => if y32 = s_1 then (Option.bind (scope_Twice a_6) fun y39 => some (a_6, (!y39))) else (some (a_6, false))) := fixF_eq trait_vars.l0_k.mono _
def trait_vars.l0_k.I : (p : trait_vars.l0_k.Pt) → ((List ByteArray) × Bool) → Prop
  | .l0 s_1 y_2 a_6 a_10 x_11 x_12, r => ∀ {W h0 m0 h m bk_2 cs_2 A_6 n_6 c_6 A_10 n_10 c_10} (O : Hold W h0 m0 h m [rV bk_2 32 cs_2, rR (aE tell_str) A_6 c_6 a_6]) (e_2 : T_api_Type.E m y_2 cs_2) (ne_6 : n_6 = List.length a_6) (ne_10 : n_10 = List.length a_10) (k_10 : List.length a_10 ≤ c_10) (r_10 : Rd 3 T_api_Type.E m A_10 a_10), f44.l0 (trait_vars.post W h0 m0 r) s_1 (⟨bk_2, 0, none⟩ : Addr) A_6 n_6 c_6 A_10 n_10 c_10 x_11 x_12 h
set_option maxHeartbeats 4000000 in
theorem trait_vars.l0_k.step_l0 (go : (p : trait_vars.l0_k.Pt) → Option ((List ByteArray) × Bool)) (ih : ∀ p r, go p = some r → trait_vars.l0_k.I p r) (s_1 y_2 a_6 a_10 x_11 x_12) (r) (e : trait_vars.l0_k.body go (.l0 s_1 y_2 a_6 a_10 x_11 x_12) = some r) : trait_vars.l0_k.I (.l0 s_1 y_2 a_6 a_10 x_11 x_12) r := by
  unfold trait_vars.l0_k.body at e
  intro W h0 m0 h m bk_2 cs_2 A_6 n_6 c_6 A_10 n_10 c_10 O e_2 ne_6 ne_10 k_10 r_10
  subst ne_6
  subst ne_10
  refine f44.l0_in ?_
  unfold f44.l0T
  refine split_dec_e e (fun c54 e => ?_) (fun c54 e => ?_)
  · obtain ⟨y1, g2, e⟩ := bind_e e
    refine r_10.addr rfl g2 fun a3 cs4 ha5 hc6 he7 => ?_
    refine ⟨_, ldAn O.s hc6 rfl, ?_⟩
    refine O.new fun h8 x9 O10 => ?_
    refine ⟨_, rfl, (T_api_Type.T.len _ _ _ he7), ?_⟩
    refine O10.stA 2 rfl (T_api_Type.T.len _ _ _ he7) (T_api_Type.T.flat _ _ _ he7) fun h12 O13 => ?_
    refine ⟨_, ld0 (Sub.refl _) (O13.all 2 rfl) (T_api_Type.g0 he7), _, rfl, ?_⟩
    refine split_ne_e e (fun c31 e => ?_) (fun c31 e => ?_)
    · have O14 := O13.nil (aE tell_str) none
      have O16 := O14.nm
      cases e
      exact ⟨_, _, _, _, O16.pick [3], rfl, rfl⟩
    · refine ⟨_, ldk (k := 1) (Sub.refl _) (O13.all 2 rfl) (T_api_Type.g1 he7), _, rfl, ?_⟩
      refine O13.new fun h17 x18 O19 => ?_
      obtain ⟨l21, g22, e⟩ := bind_e e
      have O29 := O19.rowE (l := ([y1.Name] : List ByteArray)) 3 rfl tell_str (show CsE _ _ _ _ _ from (CsE.cons (c1 := [(Value.string y1.Name)]) rfl rfl CsE.nil)) rfl
      refine O29.app 1 rfl rfl rfl ((O29.os 3 rfl).srcE rfl) (by decide) g22 fun A23 c24 h25 O26 => ?_
      refine ⟨_, _, _, rfl, ?_⟩
      have O30 := O26.nm
      exact (ih _ _ e) (O30.pick [0, 1]).nm e_2 rfl rfl k_10 r_10
  · refine ⟨_, ldAn (Sub.refl _) (O.all 0 rfl) (T_api_Type.T.len _ _ _ e_2), ?_⟩
    obtain ⟨y32, g33, e⟩ := bind_e e
    refine (infer_Head.walk (Hold.start (W := No) O.s) e_2 g33).mono ?_
    rintro _ h34 ⟨m35, Q36, rfl⟩
    have O38 := Hold.nm (O.retC Q36 vfs_nil)
    refine ⟨_, rfl, ?_⟩
    try rw [ba_list y32 s_1]
    refine split_dec_e e (fun c53 e => ?_) (fun c53 e => ?_)
    · obtain ⟨y39, g40, e⟩ := bind_e e
      obtain ⟨m45, u46, s51, ⟨⟨r49, k50⟩, _⟩, B47, C48⟩ := O38.lend0 [1]
      replace r49 : Rd 1 eStr m45 A_6 a_6 := r49
      replace k50 : List.length a_6 ≤ c_6 := k50
      refine (scope_Twice.walk (Hold.start (W := No) s51) rfl k50 r49 g40).mono ?_
      rintro _ h41 ⟨m42, Q43, rfl⟩
      have O52 := Hold.nm (C48 Q43 vfs_nil)
      refine ⟨_, rfl, ?_⟩
      cases e
      exact ⟨_, _, _, _, O52.pick [1], rfl, rfl⟩
    · cases e
      exact ⟨_, _, _, _, O38.pick [1], rfl, rfl⟩
theorem trait_vars.l0_k.all {p : trait_vars.l0_k.Pt} {r : ((List ByteArray) × Bool)} (e : trait_vars.l0_k.go p = some r) : trait_vars.l0_k.I p r := fixF_ind (β := fun _ => ((List ByteArray) × Bool)) trait_vars.l0_k.mono (I := trait_vars.l0_k.I) (fun go ih p r e => match p with
  | .l0 s_1 y_2 a_6 a_10 x_11 x_12 => trait_vars.l0_k.step_l0 go ih s_1 y_2 a_6 a_10 x_11 x_12 r e
  ) e
noncomputable def trait_vars (y_0 : T_api_Type) (s_1 : ByteArray) : Option ((List ByteArray) × Bool) :=
  (trait_vars.l0 s_1 y_0 ([] : List ByteArray) y_0.Args (((List.length y_0.Args) : Nat) : Int) (0 : Int))
theorem trait_vars.walk {W h m cs_0 y_0 s_1} (O : Hold W h m h m []) (e_0 : T_api_Type.E m y_0 cs_0) {r} (e : trait_vars y_0 s_1 = some r) : Run Tryd.prog 44 #[Value.agg cs_0.toArray, Value.string s_1] h (trait_vars.post W h m r) := by
  unfold trait_vars at e
  refine f44.run ?_
  unfold f44.runT
  refine O.new fun h1 x2 O3 => ?_
  obtain ⟨A5, c6, q7, k8, r9⟩ := T_api_Type.g2 e_0
  refine ⟨_, ldk (k := 2) (Sub.refl _) (O3.all 0 rfl) q7, _, _, _, rfl, ?_⟩
  have O10 := O3.nil (aE tell_str) none
  have O12 := O10.nm
  exact (trait_vars.l0_k.all e) (O12.pick [0, 1]).nm e_0 rfl rfl k8 r9
def slices_Clone_73.post (W : Nat → Prop) (h0 m0 : Heap) (r : (List T_api_Type)) (v : Value) (h : Heap) : Prop := ∃ m A0 n0 c0, Hold W h0 m0 h m [rR (aE T_api_Type.T) A0 c0 r] ∧ v = .slice A0 n0 c0 ∧ n0 = List.length r
noncomputable def slices_Clone_73 (a0 : List T_api_Type) : Option (List T_api_Type) := ap 48 ([] : List T_api_Type) a0
theorem slices_Clone_73.walk {W : Nat → Prop} {h m : Heap} {A0 : Option Addr} {n0 c0 : Nat} {a0 : List T_api_Type} (O : Hold W h m h m []) (ne0 : n0 = List.length a0) (k0 : List.length a0 ≤ c0) (r0 : Rd 3 T_api_Type.E m A0 a0) {r : List T_api_Type} (e : slices_Clone_73 a0 = some r) : Run Tryd.prog 73 #[Value.slice A0 n0 c0] h (slices_Clone_73.post W h m r) := by
  unfold slices_Clone_73 at e
  subst ne0
  refine f73.run ?_
  unfold f73.runT
  cases A0 with
  | none =>
    refine split_t ?_
    obtain rfl := Rd.void r0
    obtain rfl : [] = r := by have := (ap_e e).2; simpa using this
    exact ⟨m, none, 0, 0, O.nil (aE T_api_Type.T) none, rfl, rfl⟩
  | some a =>
    refine split_f ?_
    refine O.new fun h1 x1 O1 => ?_
    refine O1.appE0 T_api_Type.T rfl rfl (r0.srcE T_api_Type.T O1.s rfl) (by decide) e fun A4 c4 h4 x4 O4 => ?_
    refine ⟨_, _, _, rfl, ?_⟩
    exact ⟨m, _, _, _, O4.pick [1], rfl, rfl⟩
theorem slices_Clone_73.val (l : List T_api_Type) (h : l.length * 48 ≤ 140737488355328) : slices_Clone_73 l = some l := ap_nil h
def kind_Copy.post (W : Nat → Prop) (h0 m0 : Heap) (r : T_api_Type) (v : Value) (h : Heap) : Prop := ∃ m cs0, Hold W h0 m0 h m [] ∧ v = .agg cs0.toArray ∧ T_api_Type.E m r cs0
def kind_Put.post (W : Nat → Prop) (h0 m0 : Heap) (r : T_api_Type) (v : Value) (h : Heap) : Prop := ∃ m cs0, Hold W h0 m0 h m [] ∧ v = .agg cs0.toArray ∧ T_api_Type.E m r cs0
inductive kind_Put_k.Pt where
  | f_45 (y_0 : T_api_Type) (a_1 : List ByteArray) (a_2 : List T_api_Type)
  | j1_45 (a_1 : List ByteArray) (a_2 : List T_api_Type) (y_3 : T_api_Type) (y_6 : T_api_Type) (x_7 : Int) (b_24 : Bool)
  | j0_45 (a_1 : List ByteArray) (a_2 : List T_api_Type) (y_3 : T_api_Type) (y_6 : T_api_Type)
  | l0_45 (a_1 : List ByteArray) (a_2 : List T_api_Type) (x_3_0 : Int) (s_3_1 : ByteArray) (a_3_2 : (List T_api_Type)) (y_6 : T_api_Type) (x_40 : Int) (x_41 : Int)
  | f_72 (y_0 : T_api_Type)
noncomputable def kind_Put_k.body (go : (p : kind_Put_k.Pt) → Option (T_api_Type)) : (p : kind_Put_k.Pt) → Option (T_api_Type)
  | .f_45 y_0 a_1 a_2 => if y_0.Kind = (5 : Int) then (Option.bind (slices_Index_53 a_1 y_0.Name) fun y9 => if y9 ≥ (0 : Int) then ((go (.j1_45 a_1 a_2 y_0 (T_api_Type.mk (0 : Int) (ByteArray.mk #[]) ([] : List T_api_Type)) y9 (decide (y9 < (((List.length a_2) : Nat) : Int)))))) else ((go (.j1_45 a_1 a_2 y_0 (T_api_Type.mk (0 : Int) (ByteArray.mk #[]) ([] : List T_api_Type)) y9 false)))) else ((go (.j0_45 a_1 a_2 y_0 (T_api_Type.mk (0 : Int) (ByteArray.mk #[]) ([] : List T_api_Type)))))
  | .j1_45 a_1 a_2 y_3 y_6 x_7 b_24 => if b_24 = true then (Option.bind (gi a_2 x_7) fun y1 => Option.bind ((go (.f_72 y1))) fun y8 => some (y8)) else ((go (.j0_45 a_1 a_2 y_3 y_6)))
  | .j0_45 a_1 a_2 y_3 y_6 => Option.bind (slices_Clone_73 y_3.Args) fun y6 => (go (.l0_45 a_1 a_2 y_3.Kind y_3.Name y6 y_6 (((List.length y6) : Nat) : Int) (0 : Int)))
  | .l0_45 a_1 a_2 x_3_0 s_3_1 a_3_2 y_6 x_40 x_41 => if x_41 < x_40 then (Option.bind (gi a_3_2 x_41) fun y1 => Option.bind ((go (.f_45 y1 a_1 a_2))) fun y14 => Option.bind (gi a_3_2 x_41) fun y24 => Option.bind (some (List.set a_3_2 (Int.toNat x_41) y14)) fun l33 => (go (.l0_45 a_1 a_2 x_3_0 s_3_1 l33 y_6 x_40 (IntKind.wrap .i64 (x_41 + (1 : Int)))))) else (some ((T_api_Type.mk x_3_0 s_3_1 a_3_2)))
  | .f_72 y_0 => Option.bind ((go (.f_45 y_0 ([] : List ByteArray) ([] : List T_api_Type)))) fun y9 => some (y9)
theorem kind_Put_k.mono : MonoF (β := fun _ => (T_api_Type)) kind_Put_k.body := fun f g hfg p => match p with
  | .f_45 y_0 a_1 a_2 => LeO.ite (LeO.bind (LeO.refl _) fun y9 => LeO.ite ((hfg _)) ((hfg _))) ((hfg _))
  | .j1_45 a_1 a_2 y_3 y_6 x_7 b_24 => LeO.ite (LeO.bind (LeO.refl _) fun y1 => LeO.bind ((hfg _)) fun y8 => LeO.refl _) ((hfg _))
  | .j0_45 a_1 a_2 y_3 y_6 => LeO.bind (LeO.refl _) fun y6 => (hfg _)
  | .l0_45 a_1 a_2 x_3_0 s_3_1 a_3_2 y_6 x_40 x_41 => LeO.ite (LeO.bind (LeO.refl _) fun y1 => LeO.bind ((hfg _)) fun y14 => LeO.bind (LeO.refl _) fun y24 => LeO.bind (LeO.refl _) fun l33 => (hfg _)) (LeO.refl _)
  | .f_72 y_0 => LeO.bind ((hfg _)) fun y9 => LeO.refl _
noncomputable def kind_Put_k.go (p : kind_Put_k.Pt) : Option (T_api_Type) := fixF (β := fun _ => (T_api_Type)) kind_Put_k.body p
noncomputable def kind_Put (y_0 a_1 a_2) := kind_Put_k.go (.f_45 y_0 a_1 a_2)
noncomputable def kind_Put.j1 (a_1 a_2 y_3 y_6 x_7 b_24) := kind_Put_k.go (.j1_45 a_1 a_2 y_3 y_6 x_7 b_24)
noncomputable def kind_Put.j0 (a_1 a_2 y_3 y_6) := kind_Put_k.go (.j0_45 a_1 a_2 y_3 y_6)
noncomputable def kind_Put.l0 (a_1 a_2 x_3_0 s_3_1 a_3_2 y_6 x_40 x_41) := kind_Put_k.go (.l0_45 a_1 a_2 x_3_0 s_3_1 a_3_2 y_6 x_40 x_41)
noncomputable def kind_Copy (y_0) := kind_Put_k.go (.f_72 y_0)
theorem kind_Put_eq (y_0 a_1 a_2) : kind_Put y_0 a_1 a_2 = if y_0.Kind = (5 : Int) then (Option.bind (slices_Index_53 a_1 y_0.Name) fun y9 => if y9 ≥ (0 : Int) then ((kind_Put.j1 a_1 a_2 y_0 (T_api_Type.mk (0 : Int) (ByteArray.mk #[]) ([] : List T_api_Type)) y9 (decide (y9 < (((List.length a_2) : Nat) : Int))))) else ((kind_Put.j1 a_1 a_2 y_0 (T_api_Type.mk (0 : Int) (ByteArray.mk #[]) ([] : List T_api_Type)) y9 false))) else ((kind_Put.j0 a_1 a_2 y_0 (T_api_Type.mk (0 : Int) (ByteArray.mk #[]) ([] : List T_api_Type)))) := fixF_eq kind_Put_k.mono _
theorem kind_Put.j1_eq (a_1 a_2 y_3 y_6 x_7 b_24) : kind_Put.j1 a_1 a_2 y_3 y_6 x_7 b_24 = if b_24 = true then (Option.bind (gi a_2 x_7) fun y1 => Option.bind ((kind_Copy y1)) fun y8 => some (y8)) else ((kind_Put.j0 a_1 a_2 y_3 y_6)) := fixF_eq kind_Put_k.mono _
theorem kind_Put.j0_eq (a_1 a_2 y_3 y_6) : kind_Put.j0 a_1 a_2 y_3 y_6 = Option.bind (slices_Clone_73 y_3.Args) fun y6 => (kind_Put.l0 a_1 a_2 y_3.Kind y_3.Name y6 y_6 (((List.length y6) : Nat) : Int) (0 : Int)) := fixF_eq kind_Put_k.mono _
theorem kind_Put.l0_eq (a_1 a_2 x_3_0 s_3_1 a_3_2 y_6 x_40 x_41) : kind_Put.l0 a_1 a_2 x_3_0 s_3_1 a_3_2 y_6 x_40 x_41 = if x_41 < x_40 then (Option.bind (gi a_3_2 x_41) fun y1 => Option.bind ((kind_Put y1 a_1 a_2)) fun y14 => Option.bind (gi a_3_2 x_41) fun y24 => Option.bind (some (List.set a_3_2 (Int.toNat x_41) y14)) fun l33 => (kind_Put.l0 a_1 a_2 x_3_0 s_3_1 l33 y_6 x_40 (IntKind.wrap .i64 (x_41 + (1 : Int))))) else (some ((T_api_Type.mk x_3_0 s_3_1 a_3_2))) := fixF_eq kind_Put_k.mono _
theorem kind_Copy_eq (y_0) : kind_Copy y_0 = Option.bind ((kind_Put y_0 ([] : List ByteArray) ([] : List T_api_Type))) fun y9 => some (y9) := fixF_eq kind_Put_k.mono _
def kind_Put_k.I : (p : kind_Put_k.Pt) → (T_api_Type) → Prop
  | .f_45 y_0 a_1 a_2, r => ∀ {W h m cs_0 A_1 n_1 c_1 A_2 n_2 c_2} (O : Hold W h m h m []) (e_0 : T_api_Type.E m y_0 cs_0) (ne_1 : n_1 = List.length a_1) (k_1 : List.length a_1 ≤ c_1) (r_1 : Rd 1 eStr m A_1 a_1) (ne_2 : n_2 = List.length a_2) (k_2 : List.length a_2 ≤ c_2) (r_2 : Rd 3 T_api_Type.E m A_2 a_2), Run Tryd.prog 45 #[Value.agg cs_0.toArray, Value.slice A_1 n_1 c_1, Value.slice A_2 n_2 c_2] h (kind_Put.post W h m r)
  | .j1_45 a_1 a_2 y_3 y_6 x_7 b_24, r => ∀ {W h0 m0 h m A_1 n_1 c_1 A_2 n_2 c_2 bk_3 cs_3 bk_6 cs_6} (O : Hold W h0 m0 h m [rV bk_3 32 cs_3, rV bk_6 32 cs_6]) (ne_1 : n_1 = List.length a_1) (k_1 : List.length a_1 ≤ c_1) (r_1 : Rd 1 eStr m A_1 a_1) (ne_2 : n_2 = List.length a_2) (k_2 : List.length a_2 ≤ c_2) (r_2 : Rd 3 T_api_Type.E m A_2 a_2) (e_3 : T_api_Type.E m y_3 cs_3) (e_6 : T_api_Type.E m y_6 cs_6), f45.j1 (kind_Put.post W h0 m0 r) A_1 n_1 c_1 A_2 n_2 c_2 (⟨bk_3, 0, none⟩ : Addr) (⟨bk_6, 0, none⟩ : Addr) x_7 b_24 h
  | .j0_45 a_1 a_2 y_3 y_6, r => ∀ {W h0 m0 h m A_1 n_1 c_1 A_2 n_2 c_2 bk_3 cs_3 bk_6 cs_6} (O : Hold W h0 m0 h m [rV bk_3 32 cs_3, rV bk_6 32 cs_6]) (ne_1 : n_1 = List.length a_1) (k_1 : List.length a_1 ≤ c_1) (r_1 : Rd 1 eStr m A_1 a_1) (ne_2 : n_2 = List.length a_2) (k_2 : List.length a_2 ≤ c_2) (r_2 : Rd 3 T_api_Type.E m A_2 a_2) (e_3 : T_api_Type.E m y_3 cs_3) (e_6 : T_api_Type.E m y_6 cs_6), f45.j0 (kind_Put.post W h0 m0 r) A_1 n_1 c_1 A_2 n_2 c_2 (⟨bk_3, 0, none⟩ : Addr) (⟨bk_6, 0, none⟩ : Addr) h
  | .l0_45 a_1 a_2 x_3_0 s_3_1 a_3_2 y_6 x_40 x_41, r => ∀ {W h0 m0 h m A_1 n_1 c_1 A_2 n_2 c_2 bk_3 A_3_2_0 n_3_2_0 c_3_2_0 bk_6 cs_6} (O : Hold W h0 m0 h m [rV bk_3 32 [(Value.int .i64 x_3_0), (Value.string s_3_1), (Value.slice A_3_2_0 n_3_2_0 c_3_2_0)], rR (aE T_api_Type.T) A_3_2_0 c_3_2_0 a_3_2, rV bk_6 32 cs_6]) (ne_1 : n_1 = List.length a_1) (k_1 : List.length a_1 ≤ c_1) (r_1 : Rd 1 eStr m A_1 a_1) (ne_2 : n_2 = List.length a_2) (k_2 : List.length a_2 ≤ c_2) (r_2 : Rd 3 T_api_Type.E m A_2 a_2) (ne_3_2_0 : n_3_2_0 = List.length a_3_2) (e_6 : T_api_Type.E m y_6 cs_6), f45.l0 (kind_Put.post W h0 m0 r) A_1 n_1 c_1 A_2 n_2 c_2 (⟨bk_3, 0, none⟩ : Addr) (⟨bk_6, 0, none⟩ : Addr) A_3_2_0 n_3_2_0 c_3_2_0 x_40 x_41 h
  | .f_72 y_0, r => ∀ {W h m cs_0} (O : Hold W h m h m []) (e_0 : T_api_Type.E m y_0 cs_0), Run Tryd.prog 72 #[Value.agg cs_0.toArray] h (kind_Copy.post W h m r)
theorem kind_Put_k.step_f_45 (go : (p : kind_Put_k.Pt) → Option (T_api_Type)) (ih : ∀ p r, go p = some r → kind_Put_k.I p r) (y_0 a_1 a_2) (r) (e : kind_Put_k.body go (.f_45 y_0 a_1 a_2) = some r) : kind_Put_k.I (.f_45 y_0 a_1 a_2) r := by
  unfold kind_Put_k.body at e
  intro W h m cs_0 A_1 n_1 c_1 A_2 n_2 c_2 O e_0 ne_1 k_1 r_1 ne_2 k_2 r_2
  subst ne_1
  subst ne_2
  refine f45.run ?_
  unfold f45.runT
  refine O.new fun h1 x2 O3 => ?_
  refine O3.new fun h5 x6 O7 => ?_
  refine ⟨_, ld0 (Sub.refl _) (O7.all 0 rfl) (T_api_Type.g0 e_0), _, rfl, ?_⟩
  refine split_eq_e e (fun c18 e => ?_) (fun c18 e => ?_)
  · refine ⟨_, ldk (k := 1) (Sub.refl _) (O7.all 0 rfl) (T_api_Type.g1 e_0), _, rfl, ?_⟩
    obtain ⟨y9, g10, e⟩ := bind_e e
    refine (slices_Index_53.walk (Hold.start (W := No) O7.s) rfl k_1 r_1 g10).mono ?_
    rintro _ h11 ⟨m12, Q13, rfl⟩
    have O15 := Hold.nm (O7.retC Q13 vfs_nil)
    refine ⟨_, rfl, ?_⟩
    refine split_dec_e e (fun c16 e => ?_) (fun c16 e => ?_)
    · exact (ih _ _ e) (O15.pick [0, 1]).nm rfl k_1 r_1 rfl k_2 r_2 e_0 (T_api_Type.iff.2 ⟨_, _, rfl, (by exact Nat.le_refl 0), Rd.nil⟩)
    · exact (ih _ _ e) (O15.pick [0, 1]).nm rfl k_1 r_1 rfl k_2 r_2 e_0 (T_api_Type.iff.2 ⟨_, _, rfl, (by exact Nat.le_refl 0), Rd.nil⟩)
  · have O17 := O7.nm
    exact (ih _ _ e) (O17.pick [0, 1]).nm rfl k_1 r_1 rfl k_2 r_2 e_0 (T_api_Type.iff.2 ⟨_, _, rfl, (by exact Nat.le_refl 0), Rd.nil⟩)
theorem kind_Put_k.step_j1_45 (go : (p : kind_Put_k.Pt) → Option (T_api_Type)) (ih : ∀ p r, go p = some r → kind_Put_k.I p r) (a_1 a_2 y_3 y_6 x_7 b_24) (r) (e : kind_Put_k.body go (.j1_45 a_1 a_2 y_3 y_6 x_7 b_24) = some r) : kind_Put_k.I (.j1_45 a_1 a_2 y_3 y_6 x_7 b_24) r := by
  unfold kind_Put_k.body at e
  intro W h0 m0 h m A_1 n_1 c_1 A_2 n_2 c_2 bk_3 cs_3 bk_6 cs_6 O ne_1 k_1 r_1 ne_2 k_2 r_2 e_3 e_6
  subst ne_1
  subst ne_2
  refine f45.j1_in ?_
  unfold f45.j1T
  refine split_any_e e (fun c21 e => ?_) (fun c21 e => ?_)
  · obtain ⟨y1, g2, e⟩ := bind_e e
    refine r_2.addr rfl g2 fun a3 cs4 ha5 hc6 he7 => ?_
    refine ⟨_, ldAn O.s hc6 rfl, ?_⟩
    obtain ⟨y8, g9, e⟩ := bind_e e
    refine ((ih _ _ g9) (Hold.start (W := No) O.s) he7).mono ?_
    rintro _ h10 ⟨m11, cs15, Q12, rfl, he16⟩
    have O17 := Hold.nm (O.ret Q12)
    refine ⟨_, rfl, (T_api_Type.T.len _ _ _ he16), ?_⟩
    refine O17.stA 1 rfl ((T_api_Type.T.len _ _ _ he16).trans ((T_api_Type.T.len _ _ _ e_6)).symm) (T_api_Type.T.flat _ _ _ he16) fun h18 O19 => ?_
    refine ⟨_, ldAn (Sub.refl _) (O19.all 1 rfl) (T_api_Type.T.len _ _ _ he16), ?_⟩
    have O20 := O19.nm
    cases e
    exact ⟨_, _, O20.pick [], rfl, he16⟩
  · exact (ih _ _ e) (O.pick [0, 1]).nm rfl k_1 r_1 rfl k_2 r_2 e_3 e_6
theorem kind_Put_k.step_j0_45 (go : (p : kind_Put_k.Pt) → Option (T_api_Type)) (ih : ∀ p r, go p = some r → kind_Put_k.I p r) (a_1 a_2 y_3 y_6) (r) (e : kind_Put_k.body go (.j0_45 a_1 a_2 y_3 y_6) = some r) : kind_Put_k.I (.j0_45 a_1 a_2 y_3 y_6) r := by
  unfold kind_Put_k.body at e
  intro W h0 m0 h m A_1 n_1 c_1 A_2 n_2 c_2 bk_3 cs_3 bk_6 cs_6 O ne_1 k_1 r_1 ne_2 k_2 r_2 e_3 e_6
  subst ne_1
  subst ne_2
  refine f45.j0_in ?_
  unfold f45.j0T
  refine ⟨_, ld0 (Sub.refl _) (O.all 0 rfl) (T_api_Type.g0 e_3), _, rfl, ?_⟩
  refine ⟨_, ldk (k := 1) (Sub.refl _) (O.all 0 rfl) (T_api_Type.g1 e_3), _, rfl, ?_⟩
  obtain ⟨A1, c2, q3, k4, r5⟩ := T_api_Type.g2 e_3
  refine ⟨_, ldk (k := 2) (Sub.refl _) (O.all 0 rfl) q3, _, _, _, rfl, ?_⟩
  obtain ⟨y6, g7, e⟩ := bind_e e
  refine (slices_Clone_73.walk (Hold.start (W := No) O.s) rfl k4 r5 g7).mono ?_
  rintro _ h8 ⟨m9, A12, n13, c14, Q10, rfl, ne15⟩
  have O17 := Hold.nm (O.ret Q10)
  subst ne15
  refine ⟨_, _, _, rfl, ?_⟩
  refine ⟨Q10.S.ext, ?_⟩
  refine ⟨_, rfl, rfl, ?_⟩
  refine O17.stA 0 rfl ((T_api_Type.T.len _ _ _ e_3)).symm (Flats.cons trivial (Flats.cons trivial (Flats.cons trivial Flats.nil))) fun h18 O19 => ?_
  refine ⟨_, ldk (k := 2) (Sub.refl _) (O19.all 0 rfl) rfl, _, _, _, rfl, ?_⟩
  have O20 := O19.nm
  exact (ih _ _ e) (O20.pick [0, 2, 1]).nm rfl k_1 (r_1.sub tell_str Q10.S.up) rfl k_2 (r_2.sub T_api_Type.T Q10.S.up) rfl (T_api_Type.T.mono _ _ _ _ Q10.S.up e_6)
set_option maxHeartbeats 4000000 in
theorem kind_Put_k.step_l0_45 (go : (p : kind_Put_k.Pt) → Option (T_api_Type)) (ih : ∀ p r, go p = some r → kind_Put_k.I p r) (a_1 a_2 x_3_0 s_3_1 a_3_2 y_6 x_40 x_41) (r) (e : kind_Put_k.body go (.l0_45 a_1 a_2 x_3_0 s_3_1 a_3_2 y_6 x_40 x_41) = some r) : kind_Put_k.I (.l0_45 a_1 a_2 x_3_0 s_3_1 a_3_2 y_6 x_40 x_41) r := by
  unfold kind_Put_k.body at e
  intro W h0 m0 h m A_1 n_1 c_1 A_2 n_2 c_2 bk_3 A_3_2_0 n_3_2_0 c_3_2_0 bk_6 cs_6 O ne_1 k_1 r_1 ne_2 k_2 r_2 ne_3_2_0 e_6
  subst ne_1
  subst ne_2
  subst ne_3_2_0
  refine f45.l0_in ?_
  unfold f45.l0T
  refine split_dec_e e (fun c44 e => ?_) (fun c44 e => ?_)
  · obtain ⟨y1, g2, e⟩ := bind_e e
    refine (O.os 1 rfl).addr rfl g2 fun a3 cs4 ha5 hc6 he7 => ?_
    refine ⟨_, ldAn (Sub.refl _) hc6 rfl, ?_⟩
    refine O.new fun h8 x9 O10 => ?_
    refine ⟨_, rfl, (T_api_Type.T.len _ _ _ he7), ?_⟩
    refine O10.stA 3 rfl (T_api_Type.T.len _ _ _ he7) (T_api_Type.T.flat _ _ _ he7) fun h12 O13 => ?_
    refine ⟨_, ldAn (Sub.refl _) (O13.all 3 rfl) (T_api_Type.T.len _ _ _ he7), ?_⟩
    refine ⟨_, ldk (k := 2) (Sub.refl _) (O13.all 0 rfl) rfl, _, _, _, rfl, ?_⟩
    obtain ⟨y14, g15, e⟩ := bind_e e
    refine ((ih _ _ g15) (Hold.start (W := No) O13.s) he7 rfl k_1 r_1 rfl k_2 r_2).mono ?_
    rintro _ h16 ⟨m17, cs21, Q18, rfl, he22⟩
    have O23 := Hold.nm (O13.ret Q18)
    refine ⟨ldk (k := 2) (Sub.refl _) (O23.all 0 rfl) rfl, ?_⟩
    obtain ⟨y24, g25, e⟩ := bind_e e
    refine (O23.os 1 rfl).addr rfl g25 fun a26 cs27 ha28 hc29 he30 => ?_
    obtain ⟨l33, g34, e⟩ := bind_e e
    replace g34 := Option.some.inj g34
    refine ⟨_, rfl, (T_api_Type.T.len _ _ _ he22), ?_⟩
    refine O23.elstA 1 rfl g25 ha28 hc29 (y' := y14) he22 (T_api_Type.T.flat _ _ _ he22) g34 fun h31 O32 => ?_
    have O35 := O32.nm
    exact (ih _ _ e) (O35.pick [0, 1, 2]).nm rfl k_1 (r_1.sub tell_str Q18.S.up) rfl k_2 (r_2.sub T_api_Type.T Q18.S.up) (lset' g34) (T_api_Type.T.mono _ _ _ _ Q18.S.up e_6)
  · refine ⟨_, ldAn (Sub.refl _) (O.all 0 rfl) rfl, ?_⟩
    refine ⟨_, rfl, rfl, ?_⟩
    refine O.stA 2 rfl ((T_api_Type.T.len _ _ _ e_6)).symm (Flats.cons trivial (Flats.cons trivial (Flats.cons trivial Flats.nil))) fun h36 O37 => ?_
    refine ⟨_, ldAn (Sub.refl _) (O37.all 2 rfl) rfl, ?_⟩
    obtain ⟨m38, u39, ⟨r40, k41⟩, O42⟩ := O37.frz 1 rfl
    replace r40 : Rd 3 T_api_Type.E m38 A_3_2_0 a_3_2 := r40
    have O43 := O42.nm
    cases e
    exact ⟨_, _, O43.pick [], rfl, (T_api_Type.iff.2 ⟨_, _, rfl, k41, r40⟩)⟩
theorem kind_Put_k.step_f_72 (go : (p : kind_Put_k.Pt) → Option (T_api_Type)) (ih : ∀ p r, go p = some r → kind_Put_k.I p r) (y_0) (r) (e : kind_Put_k.body go (.f_72 y_0) = some r) : kind_Put_k.I (.f_72 y_0) r := by
  unfold kind_Put_k.body at e
  intro W h m cs_0 O e_0
  refine f72.run ?_
  unfold f72.runT
  refine O.new fun h1 x2 O3 => ?_
  refine O3.new fun h5 x6 O7 => ?_
  refine ⟨_, ldAn (Sub.refl _) (O7.all 0 rfl) (T_api_Type.T.len _ _ _ e_0), ?_⟩
  obtain ⟨y9, g10, e⟩ := bind_e e
  refine ((ih _ _ g10) (Hold.start (W := No) O7.s) e_0 rfl (by exact Nat.le_refl 0) Rd.nil rfl (by exact Nat.le_refl 0) Rd.nil).mono ?_
  rintro _ h11 ⟨m12, cs16, Q13, rfl, he17⟩
  have O18 := Hold.nm (O7.ret Q13)
  refine ⟨_, rfl, (T_api_Type.T.len _ _ _ he17), ?_⟩
  refine O18.stA 1 rfl (T_api_Type.T.len _ _ _ he17) (T_api_Type.T.flat _ _ _ he17) fun h19 O20 => ?_
  refine ⟨_, ldAn (Sub.refl _) (O20.all 1 rfl) (T_api_Type.T.len _ _ _ he17), ?_⟩
  have O21 := O20.nm
  cases e
  exact ⟨_, _, O21.pick [], rfl, he17⟩
theorem kind_Put_k.all {p : kind_Put_k.Pt} {r : (T_api_Type)} (e : kind_Put_k.go p = some r) : kind_Put_k.I p r := fixF_ind (β := fun _ => (T_api_Type)) kind_Put_k.mono (I := kind_Put_k.I) (fun go ih p r e => match p with
  | .f_45 y_0 a_1 a_2 => kind_Put_k.step_f_45 go ih y_0 a_1 a_2 r e
  | .j1_45 a_1 a_2 y_3 y_6 x_7 b_24 => kind_Put_k.step_j1_45 go ih a_1 a_2 y_3 y_6 x_7 b_24 r e
  | .j0_45 a_1 a_2 y_3 y_6 => kind_Put_k.step_j0_45 go ih a_1 a_2 y_3 y_6 r e
  | .l0_45 a_1 a_2 x_3_0 s_3_1 a_3_2 y_6 x_40 x_41 => kind_Put_k.step_l0_45 go ih a_1 a_2 x_3_0 s_3_1 a_3_2 y_6 x_40 x_41 r e
  | .f_72 y_0 => kind_Put_k.step_f_72 go ih y_0 r e
  ) e
theorem kind_Put.walk {W h m cs_0 A_1 n_1 c_1 A_2 n_2 c_2 y_0 a_1 a_2} (O : Hold W h m h m []) (e_0 : T_api_Type.E m y_0 cs_0) (ne_1 : n_1 = List.length a_1) (k_1 : List.length a_1 ≤ c_1) (r_1 : Rd 1 eStr m A_1 a_1) (ne_2 : n_2 = List.length a_2) (k_2 : List.length a_2 ≤ c_2) (r_2 : Rd 3 T_api_Type.E m A_2 a_2) {r} (e : kind_Put y_0 a_1 a_2 = some r) : Run Tryd.prog 45 #[Value.agg cs_0.toArray, Value.slice A_1 n_1 c_1, Value.slice A_2 n_2 c_2] h (kind_Put.post W h m r) := kind_Put_k.all (p := .f_45 y_0 a_1 a_2) e O e_0 ne_1 k_1 r_1 ne_2 k_2 r_2
def trait_Fits.post (W : Nat → Prop) (h0 m0 : Heap) (r : Int) (v : Value) (h : Heap) : Prop := ∃ m , Hold W h0 m0 h m [] ∧ v = .int .i64 r
inductive trait_Fits.l0_k.Pt where
  | l0 (y_4 : T_api_Func) (y_5 : T_api_Func) (a_9 : List ByteArray) (a_10 : List T_api_Type) (a_60 : List T_api_Type) (x_61 : Int) (x_62 : Int)
noncomputable def trait_Fits.l0_k.body (go : (p : trait_Fits.l0_k.Pt) → Option (Int)) : (p : trait_Fits.l0_k.Pt) → Option (Int)
  | .l0 y_4 y_5 a_9 a_10 a_60 x_61 x_62 => if x_62 < x_61 then (Option.bind (gi a_60 x_62) fun y1 => Option.bind (gi y_4.Types x_62) fun y19 => Option.bind (kind_Put y1 a_9 a_10) fun y26 => Option.bind (tree_SameType y19 y26) fun y36 => if y36 = true then ((go (.l0 y_4 y_5 a_9 a_10 a_60 x_61 (IntKind.wrap .i64 (x_62 + (1 : Int)))))) else (some ((12 : Int)))) else (Option.bind (kind_Put y_5.Out a_9 a_10) fun y44 => Option.bind (tree_SameType y_4.Out y44) fun y54 => if y54 = true then (some ((0 : Int))) else (some ((12 : Int))))
theorem trait_Fits.l0_k.mono : MonoF (β := fun _ => (Int)) trait_Fits.l0_k.body := fun f g hfg p => match p with
  | .l0 y_4 y_5 a_9 a_10 a_60 x_61 x_62 => LeO.ite (LeO.bind (LeO.refl _) fun y1 => LeO.bind (LeO.refl _) fun y19 => LeO.bind (LeO.refl _) fun y26 => LeO.bind (LeO.refl _) fun y36 => LeO.ite ((hfg _)) (LeO.refl _)) (LeO.bind (LeO.refl _) fun y44 => LeO.bind (LeO.refl _) fun y54 => LeO.ite (LeO.refl _) (LeO.refl _))
noncomputable def trait_Fits.l0_k.go (p : trait_Fits.l0_k.Pt) : Option (Int) := fixF (β := fun _ => (Int)) trait_Fits.l0_k.body p
noncomputable def trait_Fits.l0 (y_4 y_5 a_9 a_10 a_60 x_61 x_62) := trait_Fits.l0_k.go (.l0 y_4 y_5 a_9 a_10 a_60 x_61 x_62)
theorem trait_Fits.l0_eq (y_4 y_5 a_9 a_10 a_60 x_61 x_62) : trait_Fits.l0 y_4 y_5 a_9 a_10 a_60 x_61 x_62 = if x_62 < x_61 then (Option.bind (gi a_60 x_62) fun y1 => Option.bind (gi y_4.Types x_62) fun y19 => Option.bind (kind_Put y1 a_9 a_10) fun y26 => Option.bind (tree_SameType y19 y26) fun y36 => if y36 = true then ((trait_Fits.l0 y_4 y_5 a_9 a_10 a_60 x_61 (IntKind.wrap .i64 (x_62 + (1 : Int))))) else (some ((12 : Int)))) else (Option.bind (kind_Put y_5.Out a_9 a_10) fun y44 => Option.bind (tree_SameType y_4.Out y44) fun y54 => if y54 = true then (some ((0 : Int))) else (some ((12 : Int)))) := fixF_eq trait_Fits.l0_k.mono _
def trait_Fits.l0_k.I : (p : trait_Fits.l0_k.Pt) → (Int) → Prop
  | .l0 y_4 y_5 a_9 a_10 a_60 x_61 x_62, r => ∀ {W h0 m0 h m bk_4 cs_4 bk_5 cs_5 A_9 n_9 c_9 A_10 n_10 c_10 A_60 n_60 c_60} (O : Hold W h0 m0 h m [rV bk_4 56 cs_4, rV bk_5 56 cs_5]) (e_4 : T_api_Func.E m y_4 cs_4) (e_5 : T_api_Func.E m y_5 cs_5) (ne_9 : n_9 = List.length a_9) (k_9 : List.length a_9 ≤ c_9) (r_9 : Rd 1 eStr m A_9 a_9) (ne_10 : n_10 = List.length a_10) (k_10 : List.length a_10 ≤ c_10) (r_10 : Rd 3 T_api_Type.E m A_10 a_10) (ne_60 : n_60 = List.length a_60) (k_60 : List.length a_60 ≤ c_60) (r_60 : Rd 3 T_api_Type.E m A_60 a_60), f17.l0 (trait_Fits.post W h0 m0 r) (⟨bk_4, 0, none⟩ : Addr) (⟨bk_5, 0, none⟩ : Addr) A_9 n_9 c_9 A_10 n_10 c_10 A_60 n_60 c_60 x_61 x_62 h
set_option maxHeartbeats 4000000 in
theorem trait_Fits.l0_k.step_l0 (go : (p : trait_Fits.l0_k.Pt) → Option (Int)) (ih : ∀ p r, go p = some r → trait_Fits.l0_k.I p r) (y_4 y_5 a_9 a_10 a_60 x_61 x_62) (r) (e : trait_Fits.l0_k.body go (.l0 y_4 y_5 a_9 a_10 a_60 x_61 x_62) = some r) : trait_Fits.l0_k.I (.l0 y_4 y_5 a_9 a_10 a_60 x_61 x_62) r := by
  unfold trait_Fits.l0_k.body at e
  intro W h0 m0 h m bk_4 cs_4 bk_5 cs_5 A_9 n_9 c_9 A_10 n_10 c_10 A_60 n_60 c_60 O e_4 e_5 ne_9 k_9 r_9 ne_10 k_10 r_10 ne_60 k_60 r_60
  subst ne_9
  subst ne_10
  subst ne_60
  refine f17.l0_in ?_
  unfold f17.l0T
  refine split_dec_e e (fun c62 e => ?_) (fun c62 e => ?_)
  · obtain ⟨y1, g2, e⟩ := bind_e e
    refine r_60.addr rfl g2 fun a3 cs4 ha5 hc6 he7 => ?_
    refine ⟨_, ldAn O.s hc6 rfl, ?_⟩
    refine O.new fun h8 x9 O10 => ?_
    refine ⟨_, rfl, (T_api_Type.T.len _ _ _ he7), ?_⟩
    refine O10.stA 2 rfl (T_api_Type.T.len _ _ _ he7) (T_api_Type.T.flat _ _ _ he7) fun h12 O13 => ?_
    refine ⟨_, ldAn (Sub.refl _) (O13.all 2 rfl) (T_api_Type.T.len _ _ _ he7), ?_⟩
    obtain ⟨A14, c15, q16, k17, r18⟩ := T_api_Func.g3 e_4
    refine ⟨_, ldk (k := 3) (Sub.refl _) (O13.all 0 rfl) q16, _, _, _, rfl, ?_⟩
    obtain ⟨y19, g20, e⟩ := bind_e e
    refine r18.addr rfl g20 fun a21 cs22 ha23 hc24 he25 => ?_
    refine ⟨_, ldAn O13.s hc24 rfl, ?_⟩
    obtain ⟨y26, g27, e⟩ := bind_e e
    refine (kind_Put.walk (Hold.start (W := No) O13.s) he7 rfl k_9 r_9 rfl k_10 r_10 g27).mono ?_
    rintro _ h28 ⟨m29, cs33, Q30, rfl, he34⟩
    have O35 := Hold.nm (O13.ret Q30)
    refine ⟨ldk (k := 3) (Sub.refl _) (O35.all 0 rfl) q16, ?_⟩
    refine ⟨ldAn (Q30.S.up.trans O35.s) hc24 rfl, ?_⟩
    obtain ⟨y36, g37, e⟩ := bind_e e
    refine (tree_SameType.walk (Hold.start (W := No) O35.s) (T_api_Type.T.mono _ _ _ _ Q30.S.up he25) he34 g37).mono ?_
    rintro _ h38 ⟨m39, Q40, rfl⟩
    have O42 := Hold.nm (O35.retC Q40 vfs_nil)
    refine ⟨_, rfl, ?_⟩
    refine split_not ?_
    refine split_any_e e (fun c43 e => ?_) (fun c43 e => ?_)
    · exact (ih _ _ e) (O42.pick [0, 1]).nm (T_api_Func.T.mono _ _ _ _ Q30.S.up e_4) (T_api_Func.T.mono _ _ _ _ Q30.S.up e_5) rfl k_9 (r_9.sub tell_str Q30.S.up) rfl k_10 (r_10.sub T_api_Type.T Q30.S.up) rfl k_60 (r_60.sub T_api_Type.T Q30.S.up)
    · cases e
      exact ⟨_, O42.pick [], rfl⟩
  · refine ⟨_, ldAkn (Sub.refl _) (O.all 1 rfl) 4 3 (le_len (T_api_Func.T.len _ _ _ e_5) (by decide)), ?_⟩
    refine ⟨_, ldAkn (Sub.refl _) (O.all 0 rfl) 4 3 (le_len (T_api_Func.T.len _ _ _ e_4) (by decide)), ?_⟩
    obtain ⟨y44, g45, e⟩ := bind_e e
    refine (kind_Put.walk (Hold.start (W := No) O.s) (T_api_Func.u4_32 e_5) rfl k_9 r_9 rfl k_10 r_10 g45).mono ?_
    rintro _ h46 ⟨m47, cs51, Q48, rfl, he52⟩
    have O53 := Hold.nm (O.ret Q48)
    refine ⟨ldAkn (Sub.refl _) (O53.all 0 rfl) 4 3 (le_len (T_api_Func.T.len _ _ _ e_4) (by decide)), ?_⟩
    obtain ⟨y54, g55, e⟩ := bind_e e
    refine (tree_SameType.walk (Hold.start (W := No) O53.s) (T_api_Type.T.mono _ _ _ _ Q48.S.up (T_api_Func.u4_32 e_4)) he52 g55).mono ?_
    rintro _ h56 ⟨m57, Q58, rfl⟩
    have O60 := Hold.nm (O53.retC Q58 vfs_nil)
    refine ⟨_, rfl, ?_⟩
    refine split_not ?_
    refine split_any_e e (fun c61 e => ?_) (fun c61 e => ?_)
    · cases e
      exact ⟨_, O60.pick [], rfl⟩
    · cases e
      exact ⟨_, O60.pick [], rfl⟩
theorem trait_Fits.l0_k.all {p : trait_Fits.l0_k.Pt} {r : (Int)} (e : trait_Fits.l0_k.go p = some r) : trait_Fits.l0_k.I p r := fixF_ind (β := fun _ => (Int)) trait_Fits.l0_k.mono (I := trait_Fits.l0_k.I) (fun go ih p r e => match p with
  | .l0 y_4 y_5 a_9 a_10 a_60 x_61 x_62 => trait_Fits.l0_k.step_l0 go ih y_4 y_5 a_9 a_10 a_60 x_61 x_62 r e
  ) e
noncomputable def trait_Fits.j2 (y_4 : T_api_Func) (y_5 : T_api_Func) (a_9 : List ByteArray) (a_10 : List T_api_Type) : Option (Int) :=
  (trait_Fits.l0 y_4 y_5 a_9 a_10 y_5.Types (((List.length y_5.Types) : Nat) : Int) (0 : Int))
theorem trait_Fits.j2.walk {W h0 m0 h m bk_4 cs_4 bk_5 cs_5 A_9 n_9 c_9 A_10 n_10 c_10 y_4 y_5 a_9 a_10} (O : Hold W h0 m0 h m [rV bk_4 56 cs_4, rV bk_5 56 cs_5, rR (aE tell_str) A_9 c_9 a_9, rR (aE T_api_Type.T) A_10 c_10 a_10]) (e_4 : T_api_Func.E m y_4 cs_4) (e_5 : T_api_Func.E m y_5 cs_5) (ne_9 : n_9 = List.length a_9) (ne_10 : n_10 = List.length a_10) {r} (e : trait_Fits.j2 y_4 y_5 a_9 a_10 = some r) : f17.j2 (trait_Fits.post W h0 m0 r) (⟨bk_4, 0, none⟩ : Addr) (⟨bk_5, 0, none⟩ : Addr) A_9 n_9 c_9 A_10 n_10 c_10 h := by
  unfold trait_Fits.j2 at e
  subst ne_9
  subst ne_10
  refine f17.j2_in ?_
  unfold f17.j2T
  obtain ⟨A1, c2, q3, k4, r5⟩ := T_api_Func.g3 e_5
  refine ⟨_, ldk (k := 3) (Sub.refl _) (O.all 1 rfl) q3, _, _, _, rfl, ?_⟩
  obtain ⟨m6, u7, ⟨r8, k9⟩, O10⟩ := O.frz 2 rfl
  replace r8 : Rd 1 eStr m6 A_9 a_9 := r8
  obtain ⟨m11, u12, ⟨r13, k14⟩, O15⟩ := O10.frz 3 rfl
  replace r13 : Rd 3 T_api_Type.E m11 A_10 a_10 := r13
  have O16 := O15.nm
  exact (trait_Fits.l0_k.all e) (O16.pick [0, 1]).nm (T_api_Func.T.mono _ _ _ _ (u7.trans u12) e_4) (T_api_Func.T.mono _ _ _ _ (u7.trans u12) e_5) rfl k9 (r8.sub tell_str u12) rfl k14 r13 rfl k4 (r5.sub T_api_Type.T (u7.trans u12))
noncomputable def trait_Fits.j1 (y_4 : T_api_Func) (y_5 : T_api_Func) : Option (Int) :=
  Option.bind (gi y_4.Types (0 : Int)) fun y6 => (trait_Fits.j2 y_4 y_5 ([(ByteArray.mk #[115, 101, 108, 102])] : List ByteArray) ([y6] : List T_api_Type))
theorem trait_Fits.j1.walk {W h0 m0 h m bk_4 cs_4 bk_5 cs_5 y_4 y_5} (O : Hold W h0 m0 h m [rV bk_4 56 cs_4, rV bk_5 56 cs_5]) (e_4 : T_api_Func.E m y_4 cs_4) (e_5 : T_api_Func.E m y_5 cs_5) {r} (e : trait_Fits.j1 y_4 y_5 = some r) : f17.j1 (trait_Fits.post W h0 m0 r) (⟨bk_4, 0, none⟩ : Addr) (⟨bk_5, 0, none⟩ : Addr) h := by
  unfold trait_Fits.j1 at e
  refine f17.j1_in ?_
  unfold f17.j1T
  obtain ⟨A1, c2, q3, k4, r5⟩ := T_api_Func.g3 e_4
  refine ⟨_, ldk (k := 3) (Sub.refl _) (O.all 0 rfl) q3, _, _, _, rfl, ?_⟩
  obtain ⟨y6, g7, e⟩ := bind_e e
  refine r5.addr rfl g7 fun a8 cs9 ha10 hc11 he12 => ?_
  refine ⟨_, ldAn O.s hc11 rfl, ?_⟩
  refine ⟨?_, ?_⟩
  · refine O.new fun h25 x26 O27 => ?_
    refine ⟨x26, ?_⟩
    refine ⟨cs9, rfl, (T_api_Type.T.len _ _ _ he12), ?_⟩
    refine O27.new fun h29 x30 O31 => ?_
    have O33 := O31.recell 3 rfl (cs' := cs9 ++ []) rfl
    have O34 := O33.rowE (l := ([(ByteArray.mk #[115, 101, 108, 102])] : List ByteArray)) 2 rfl tell_str (show CsE _ _ _ _ _ from (CsE.cons (c1 := [(Value.string (ByteArray.mk #[115, 101, 108, 102]))]) rfl rfl CsE.nil)) rfl
    have O35 := O34.rowE (l := ([y6] : List T_api_Type)) 3 rfl T_api_Type.T (show CsE _ _ _ _ _ from (CsE.cons he12 (T_api_Type.T.len _ _ _ he12) CsE.nil)) rfl
    have O36 := O35.nm
    exact trait_Fits.j2.walk (O36.pick [0, 1, 2, 3]).nm e_4 e_5 rfl rfl e
  · refine ⟨cs9, rfl, (T_api_Type.T.len _ _ _ he12), ?_⟩
    refine O.new fun h37 x38 O39 => ?_
    have O41 := O39.recell 2 rfl (cs' := cs9 ++ []) rfl
    refine O41.new fun h42 x43 O44 => ?_
    refine ⟨(x38.trans x43), ?_⟩
    have O46 := O44.rowE (l := ([(ByteArray.mk #[115, 101, 108, 102])] : List ByteArray)) 3 rfl tell_str (show CsE _ _ _ _ _ from (CsE.cons (c1 := [(Value.string (ByteArray.mk #[115, 101, 108, 102]))]) rfl rfl CsE.nil)) rfl
    have O47 := O46.rowE (l := ([y6] : List T_api_Type)) 2 rfl T_api_Type.T (show CsE _ _ _ _ _ from (CsE.cons he12 (T_api_Type.T.len _ _ _ he12) CsE.nil)) rfl
    have O48 := O47.nm
    exact trait_Fits.j2.walk (O48.pick [0, 1, 3, 2]).nm e_4 e_5 rfl rfl e
noncomputable def trait_Fits.j0 (y_3 : T_api_Impl) (y_4 : T_api_Func) (y_5 : T_api_Func) : Option (Int) :=
  Option.bind (gi y_4.Types (0 : Int)) fun y6 => Option.bind (trait_vars y6 y_3.For) fun y13 => if y13.2 = true then (Option.bind (ap 16 y13.1 y_5.Params) fun l35 => Option.bind (slices_Equal_32 y_4.Params l35) fun y43 => if y43 = true then (Option.bind (scope_Twice y_4.Params) fun y63 => if y63 = true then (some ((12 : Int))) else ((trait_Fits.j1 y_4 y_5))) else (some ((12 : Int)))) else (some ((12 : Int)))
set_option maxHeartbeats 4000000 in
theorem trait_Fits.j0.walk {W h0 m0 h m bk_3 cs_3 bk_4 cs_4 bk_5 cs_5 y_3 y_4 y_5} (O : Hold W h0 m0 h m [rV bk_3 45 cs_3, rV bk_4 56 cs_4, rV bk_5 56 cs_5]) (e_3 : T_api_Impl.E m y_3 cs_3) (e_4 : T_api_Func.E m y_4 cs_4) (e_5 : T_api_Func.E m y_5 cs_5) {r} (e : trait_Fits.j0 y_3 y_4 y_5 = some r) : f17.j0 (trait_Fits.post W h0 m0 r) (⟨bk_3, 0, none⟩ : Addr) (⟨bk_4, 0, none⟩ : Addr) (⟨bk_5, 0, none⟩ : Addr) h := by
  unfold trait_Fits.j0 at e
  refine f17.j0_in ?_
  unfold f17.j0T
  obtain ⟨A1, c2, q3, k4, r5⟩ := T_api_Func.g3 e_4
  refine ⟨_, ldk (k := 3) (Sub.refl _) (O.all 1 rfl) q3, _, _, _, rfl, ?_⟩
  obtain ⟨y6, g7, e⟩ := bind_e e
  refine r5.addr rfl g7 fun a8 cs9 ha10 hc11 he12 => ?_
  refine ⟨_, ldAn O.s hc11 rfl, ?_⟩
  refine ⟨_, ldk (k := 1) (Sub.refl _) (O.all 0 rfl) (T_api_Impl.g1 e_3), _, rfl, ?_⟩
  obtain ⟨y13, g14, e⟩ := bind_e e
  refine (trait_vars.walk (Hold.start (W := No) O.s) he12 g14).mono ?_
  rintro _ h15 ⟨m16, A19, n20, c21, Q17, rfl, ne22⟩
  have O24 := Hold.nm (O.retC Q17 (vfs_cons (rR_vf (aE_vf (fun _ _ _ _ h => h))) vfs_nil))
  subst ne22
  refine ⟨_, _, _, _, rfl, ?_⟩
  refine split_not ?_
  refine split_any_e e (fun c72 e => ?_) (fun c72 e => ?_)
  · obtain ⟨A25, c26, q27, k28, r29⟩ := T_api_Func.g1 e_5
    refine ⟨_, ldk (k := 1) (Sub.refl _) (O24.all 2 rfl) q27, _, _, _, rfl, ?_⟩
    obtain ⟨A30, c31, q32, k33, r34⟩ := T_api_Func.g1 e_4
    refine ⟨_, ldk (k := 1) (Sub.refl _) (O24.all 1 rfl) q32, _, _, _, rfl, ?_⟩
    obtain ⟨l35, g36, e⟩ := bind_e e
    refine O24.app 3 rfl rfl rfl (Rd.srcE r29 tell_str O24.s rfl) (by decide) g36 fun A37 c38 h39 O40 => ?_
    refine ⟨_, _, _, rfl, ?_⟩
    refine ⟨ldk (k := 1) (Sub.refl _) (O40.all 1 rfl) q32, ?_⟩
    obtain ⟨y43, g44, e⟩ := bind_e e
    have O49 := O40.nm
    obtain ⟨m50, u51, s56, ⟨⟨r54, k55⟩, _⟩, B52, C53⟩ := O49.lend0 [3]
    replace r54 : Rd 1 eStr m50 A37 l35 := r54
    replace k55 : List.length l35 ≤ c38 := k55
    refine (slices_Equal_32.walk (Hold.start (W := No) s56) rfl k33 (r34.sub tell_str u51) rfl k55 r54 g44).mono ?_
    rintro _ h45 ⟨m46, Q47, rfl⟩
    have O57 := Hold.nm (C53 Q47 vfs_nil)
    refine ⟨_, rfl, ?_⟩
    refine split_not ?_
    refine split_any_e e (fun c71 e => ?_) (fun c71 e => ?_)
    · obtain ⟨A58, c59, q60, k61, r62⟩ := T_api_Func.g1 e_4
      refine ⟨_, ldk (k := 1) (Sub.refl _) (O57.all 1 rfl) q60, _, _, _, rfl, ?_⟩
      obtain ⟨y63, g64, e⟩ := bind_e e
      refine (scope_Twice.walk (Hold.start (W := No) O57.s) rfl k61 r62 g64).mono ?_
      rintro _ h65 ⟨m66, Q67, rfl⟩
      have O69 := Hold.nm (O57.retC Q67 vfs_nil)
      refine ⟨_, rfl, ?_⟩
      refine split_any_e e (fun c70 e => ?_) (fun c70 e => ?_)
      · cases e
        exact ⟨_, O69.pick [], rfl⟩
      · exact trait_Fits.j1.walk (O69.pick [1, 2]).nm e_4 e_5 e
    · cases e
      exact ⟨_, O57.pick [], rfl⟩
  · refine ⟨trivial, ?_⟩
    cases e
    exact ⟨_, O24.pick [], rfl⟩
noncomputable def trait_Fits (y_0 : T_api_Impl) (y_1 : T_api_Func) (y_2 : T_api_Func) : Option (Int) :=
  if (((List.length y_1.Types) : Nat) : Int) = (((List.length y_2.Types) : Nat) : Int) then (if (((List.length y_1.Types) : Nat) : Int) = (0 : Int) then (some ((12 : Int))) else ((trait_Fits.j0 y_0 y_1 y_2))) else (some ((12 : Int)))
theorem trait_Fits.walk {W h m cs_0 cs_1 cs_2 y_0 y_1 y_2} (O : Hold W h m h m []) (e_0 : T_api_Impl.E m y_0 cs_0) (e_1 : T_api_Func.E m y_1 cs_1) (e_2 : T_api_Func.E m y_2 cs_2) {r} (e : trait_Fits y_0 y_1 y_2 = some r) : Run Tryd.prog 17 #[Value.agg cs_0.toArray, Value.agg cs_1.toArray, Value.agg cs_2.toArray] h (trait_Fits.post W h m r) := by
  unfold trait_Fits at e
  refine f17.run ?_
  unfold f17.runT
  refine O.new fun h1 x2 O3 => ?_
  refine O3.new fun h5 x6 O7 => ?_
  refine O7.new fun h9 x10 O11 => ?_
  obtain ⟨A13, c14, q15, k16, r17⟩ := T_api_Func.g3 e_1
  refine ⟨_, ldk (k := 3) (Sub.refl _) (O11.all 1 rfl) q15, _, _, _, rfl, ?_⟩
  obtain ⟨A18, c19, q20, k21, r22⟩ := T_api_Func.g3 e_2
  refine ⟨_, ldk (k := 3) (Sub.refl _) (O11.all 2 rfl) q20, _, _, _, rfl, ?_⟩
  refine split_ne_e e (fun c32 e => ?_) (fun c32 e => ?_)
  · have O23 := O11.nm
    cases e
    exact ⟨_, O23.pick [], rfl⟩
  · obtain ⟨A24, c25, q26, k27, r28⟩ := T_api_Func.g3 e_1
    refine ⟨_, ldk (k := 3) (Sub.refl _) (O11.all 1 rfl) q26, _, _, _, rfl, ?_⟩
    refine split_eq_e e (fun c31 e => ?_) (fun c31 e => ?_)
    · have O29 := O11.nm
      cases e
      exact ⟨_, O29.pick [], rfl⟩
    · have O30 := O11.nm
      exact trait_Fits.j0.walk (O30.pick [0, 1, 2]).nm e_0 e_1 e_2 e
def kind_Data.post (W : Nat → Prop) (h0 m0 : Heap) (r : T_api_Data × Int) (v : Value) (h : Heap) : Prop := ∃ m cs0, Hold W h0 m0 h m [] ∧ v = .tuple #[.agg cs0.toArray, .int .i64 r.2] ∧ T_api_Data.E m r.1 cs0
inductive kind_Data.l0_k.Pt where
  | l0 (s_1 : ByteArray) (y_4 : T_api_Data) (a_9 : List T_api_Data) (x_10 : Int) (x_11 : Int)
noncomputable def kind_Data.l0_k.body (go : (p : kind_Data.l0_k.Pt) → Option (T_api_Data × Int)) : (p : kind_Data.l0_k.Pt) → Option (T_api_Data × Int)
  | .l0 s_1 y_4 a_9 x_10 x_11 => if x_11 < x_10 then (Option.bind (gi a_9 x_11) fun y1 => if y1.Name = s_1 then (some (y1, (0 : Int))) else ((go (.l0 s_1 y_4 a_9 x_10 (IntKind.wrap .i64 (x_11 + (1 : Int))))))) else (some ((T_api_Data.mk (ByteArray.mk #[]) ([] : List ByteArray) ([] : List T_api_Make)), (11 : Int)))
theorem kind_Data.l0_k.mono : MonoF (β := fun _ => (T_api_Data × Int)) kind_Data.l0_k.body := fun f g hfg p => match p with
  | .l0 s_1 y_4 a_9 x_10 x_11 => LeO.ite (LeO.bind (LeO.refl _) fun y1 => LeO.ite (LeO.refl _) ((hfg _))) (LeO.refl _)
noncomputable def kind_Data.l0_k.go (p : kind_Data.l0_k.Pt) : Option (T_api_Data × Int) := fixF (β := fun _ => (T_api_Data × Int)) kind_Data.l0_k.body p
noncomputable def kind_Data.l0 (s_1 y_4 a_9 x_10 x_11) := kind_Data.l0_k.go (.l0 s_1 y_4 a_9 x_10 x_11)
theorem kind_Data.l0_eq (s_1 y_4 a_9 x_10 x_11) : kind_Data.l0 s_1 y_4 a_9 x_10 x_11 = if x_11 < x_10 then (Option.bind (gi a_9 x_11) fun y1 => if y1.Name = s_1 then (some (y1, (0 : Int))) else ((kind_Data.l0 s_1 y_4 a_9 x_10 (IntKind.wrap .i64 (x_11 + (1 : Int)))))) else (some ((T_api_Data.mk (ByteArray.mk #[]) ([] : List ByteArray) ([] : List T_api_Make)), (11 : Int))) := fixF_eq kind_Data.l0_k.mono _
def kind_Data.l0_k.I : (p : kind_Data.l0_k.Pt) → (T_api_Data × Int) → Prop
  | .l0 s_1 y_4 a_9 x_10 x_11, r => ∀ {W h0 m0 h m bk_4 cs_4 A_9 n_9 c_9} (O : Hold W h0 m0 h m [rV bk_4 104 cs_4]) (e_4 : T_api_Data.E m y_4 cs_4) (ne_9 : n_9 = List.length a_9) (k_9 : List.length a_9 ≤ c_9) (r_9 : Rd 3 T_api_Data.E m A_9 a_9), f63.l0 (kind_Data.post W h0 m0 r) s_1 (⟨bk_4, 0, none⟩ : Addr) A_9 n_9 c_9 x_10 x_11 h
theorem kind_Data.l0_k.step_l0 (go : (p : kind_Data.l0_k.Pt) → Option (T_api_Data × Int)) (ih : ∀ p r, go p = some r → kind_Data.l0_k.I p r) (s_1 y_4 a_9 x_10 x_11) (r) (e : kind_Data.l0_k.body go (.l0 s_1 y_4 a_9 x_10 x_11) = some r) : kind_Data.l0_k.I (.l0 s_1 y_4 a_9 x_10 x_11) r := by
  unfold kind_Data.l0_k.body at e
  intro W h0 m0 h m bk_4 cs_4 A_9 n_9 c_9 O e_4 ne_9 k_9 r_9
  subst ne_9
  refine f63.l0_in ?_
  unfold f63.l0T
  refine split_dec_e e (fun c22 e => ?_) (fun c22 e => ?_)
  · obtain ⟨y1, g2, e⟩ := bind_e e
    refine r_9.addr rfl g2 fun a3 cs4 ha5 hc6 he7 => ?_
    refine ⟨_, ldAn O.s hc6 rfl, ?_⟩
    refine O.new fun h8 x9 O10 => ?_
    refine ⟨_, rfl, (T_api_Data.T.len _ _ _ he7), ?_⟩
    refine O10.stA 1 rfl (T_api_Data.T.len _ _ _ he7) (T_api_Data.T.flat _ _ _ he7) fun h12 O13 => ?_
    refine ⟨_, ld0 (Sub.refl _) (O13.all 1 rfl) (T_api_Data.g0 he7), _, rfl, ?_⟩
    try rw [ba_list y1.Name s_1]
    refine split_dec_e e (fun c18 e => ?_) (fun c18 e => ?_)
    · refine ⟨_, ldAn (Sub.refl _) (O13.all 1 rfl) (T_api_Data.T.len _ _ _ he7), ?_⟩
      refine ⟨_, rfl, (T_api_Data.T.len _ _ _ he7), ?_⟩
      refine O13.stA 0 rfl ((T_api_Data.T.len _ _ _ he7).trans ((T_api_Data.T.len _ _ _ e_4)).symm) (T_api_Data.T.flat _ _ _ he7) fun h14 O15 => ?_
      refine ⟨_, ldAn (Sub.refl _) (O15.all 0 rfl) (T_api_Data.T.len _ _ _ he7), ?_⟩
      have O16 := O15.nm
      cases e
      exact ⟨_, _, O16.pick [], rfl, he7⟩
    · have O17 := O13.nm
      exact (ih _ _ e) (O17.pick [0]).nm e_4 rfl k_9 r_9
  · refine ⟨_, rfl, rfl, ?_⟩
    refine O.stA 0 rfl ((T_api_Data.T.len _ _ _ e_4)).symm (Flats.cons trivial (Flats.cons trivial (Flats.cons trivial Flats.nil))) fun h19 O20 => ?_
    refine ⟨_, ldAn (Sub.refl _) (O20.all 0 rfl) rfl, ?_⟩
    have O21 := O20.nm
    cases e
    exact ⟨_, _, O21.pick [], rfl, (show T_api_Data.E _ (T_api_Data.mk (ByteArray.mk #[]) ([] : List ByteArray) ([] : List T_api_Make)) [(Value.string (ByteArray.mk #[])), (Value.slice none 0 0), (Value.slice none 0 0)] from ⟨_, _, _, _, rfl, (by exact Nat.le_refl 0), Rd.nil, (by exact Nat.le_refl 0), Rd.nil⟩)⟩
theorem kind_Data.l0_k.all {p : kind_Data.l0_k.Pt} {r : (T_api_Data × Int)} (e : kind_Data.l0_k.go p = some r) : kind_Data.l0_k.I p r := fixF_ind (β := fun _ => (T_api_Data × Int)) kind_Data.l0_k.mono (I := kind_Data.l0_k.I) (fun go ih p r e => match p with
  | .l0 s_1 y_4 a_9 x_10 x_11 => kind_Data.l0_k.step_l0 go ih s_1 y_4 a_9 x_10 x_11 r e
  ) e
noncomputable def kind_Data (y_0 : T_api_Program) (s_1 : ByteArray) : Option (T_api_Data × Int) :=
  (kind_Data.l0 s_1 (T_api_Data.mk (ByteArray.mk #[]) ([] : List ByteArray) ([] : List T_api_Make)) y_0.Datas (((List.length y_0.Datas) : Nat) : Int) (0 : Int))
theorem kind_Data.walk {W h m cs_0 y_0 s_1} (O : Hold W h m h m []) (e_0 : T_api_Program.E m y_0 cs_0) {r} (e : kind_Data y_0 s_1 = some r) : Run Tryd.prog 63 #[Value.agg cs_0.toArray, Value.string s_1] h (kind_Data.post W h m r) := by
  unfold kind_Data at e
  refine f63.run ?_
  unfold f63.runT
  refine O.new fun h1 x2 O3 => ?_
  refine O3.new fun h5 x6 O7 => ?_
  obtain ⟨A9, c10, q11, k12, r13⟩ := T_api_Program.g3 e_0
  refine ⟨_, ldk (k := 3) (Sub.refl _) (O7.all 0 rfl) q11, _, _, _, rfl, ?_⟩
  have O14 := O7.nm
  exact (kind_Data.l0_k.all e) (O14.pick [1]).nm (show T_api_Data.E _ (T_api_Data.mk (ByteArray.mk #[]) ([] : List ByteArray) ([] : List T_api_Make)) [(Value.string (ByteArray.mk #[])), (Value.slice none 0 0), (Value.slice none 0 0)] from ⟨_, _, _, _, rfl, (by exact Nat.le_refl 0), Rd.nil, (by exact Nat.le_refl 0), Rd.nil⟩) rfl k12 r13
def trait_impl.post (W : Nat → Prop) (h0 m0 : Heap) (r : Int) (v : Value) (h : Heap) : Prop := ∃ m , Hold W h0 m0 h m [] ∧ v = .int .i64 r
inductive trait_impl.l0_k.Pt where
  | l0 (y_3 : T_api_Impl) (y_5 : T_api_Trait) (a_47 : List T_api_Func) (x_48 : Int) (x_49 : Int)
noncomputable def trait_impl.l0_k.body (go : (p : trait_impl.l0_k.Pt) → Option (Int)) : (p : trait_impl.l0_k.Pt) → Option (Int)
  | .l0 y_3 y_5 a_47 x_48 x_49 => if x_49 < x_48 then (Option.bind (gi a_47 x_49) fun y1 => Option.bind (gi y_5.Funcs x_49) fun y19 => if y1.Name = y19.Name then (Option.bind (gi y_5.Funcs x_49) fun y31 => Option.bind (trait_Fits y_3 y1 y31) fun y38 => if y38 = (0 : Int) then ((go (.l0 y_3 y_5 a_47 x_48 (IntKind.wrap .i64 (x_49 + (1 : Int)))))) else (some (y38))) else (some ((16 : Int)))) else (some ((0 : Int)))
theorem trait_impl.l0_k.mono : MonoF (β := fun _ => (Int)) trait_impl.l0_k.body := fun f g hfg p => match p with
  | .l0 y_3 y_5 a_47 x_48 x_49 => LeO.ite (LeO.bind (LeO.refl _) fun y1 => LeO.bind (LeO.refl _) fun y19 => LeO.ite (LeO.bind (LeO.refl _) fun y31 => LeO.bind (LeO.refl _) fun y38 => LeO.ite ((hfg _)) (LeO.refl _)) (LeO.refl _)) (LeO.refl _)
noncomputable def trait_impl.l0_k.go (p : trait_impl.l0_k.Pt) : Option (Int) := fixF (β := fun _ => (Int)) trait_impl.l0_k.body p
noncomputable def trait_impl.l0 (y_3 y_5 a_47 x_48 x_49) := trait_impl.l0_k.go (.l0 y_3 y_5 a_47 x_48 x_49)
theorem trait_impl.l0_eq (y_3 y_5 a_47 x_48 x_49) : trait_impl.l0 y_3 y_5 a_47 x_48 x_49 = if x_49 < x_48 then (Option.bind (gi a_47 x_49) fun y1 => Option.bind (gi y_5.Funcs x_49) fun y19 => if y1.Name = y19.Name then (Option.bind (gi y_5.Funcs x_49) fun y31 => Option.bind (trait_Fits y_3 y1 y31) fun y38 => if y38 = (0 : Int) then ((trait_impl.l0 y_3 y_5 a_47 x_48 (IntKind.wrap .i64 (x_49 + (1 : Int))))) else (some (y38))) else (some ((16 : Int)))) else (some ((0 : Int))) := fixF_eq trait_impl.l0_k.mono _
def trait_impl.l0_k.I : (p : trait_impl.l0_k.Pt) → (Int) → Prop
  | .l0 y_3 y_5 a_47 x_48 x_49, r => ∀ {W h0 m0 h m bk_3 cs_3 bk_5 cs_5 A_47 n_47 c_47} (O : Hold W h0 m0 h m [rV bk_3 45 cs_3, rV bk_5 37 cs_5]) (e_3 : T_api_Impl.E m y_3 cs_3) (e_5 : T_api_Trait.E m y_5 cs_5) (ne_47 : n_47 = List.length a_47) (k_47 : List.length a_47 ≤ c_47) (r_47 : Rd 15 T_api_Func.E m A_47 a_47), f35.l0 (trait_impl.post W h0 m0 r) (⟨bk_3, 0, none⟩ : Addr) (⟨bk_5, 0, none⟩ : Addr) A_47 n_47 c_47 x_48 x_49 h
set_option maxHeartbeats 4000000 in
theorem trait_impl.l0_k.step_l0 (go : (p : trait_impl.l0_k.Pt) → Option (Int)) (ih : ∀ p r, go p = some r → trait_impl.l0_k.I p r) (y_3 y_5 a_47 x_48 x_49) (r) (e : trait_impl.l0_k.body go (.l0 y_3 y_5 a_47 x_48 x_49) = some r) : trait_impl.l0_k.I (.l0 y_3 y_5 a_47 x_48 x_49) r := by
  unfold trait_impl.l0_k.body at e
  intro W h0 m0 h m bk_3 cs_3 bk_5 cs_5 A_47 n_47 c_47 O e_3 e_5 ne_47 k_47 r_47
  subst ne_47
  refine f35.l0_in ?_
  unfold f35.l0T
  refine split_dec_e e (fun c48 e => ?_) (fun c48 e => ?_)
  · obtain ⟨y1, g2, e⟩ := bind_e e
    refine r_47.addr rfl g2 fun a3 cs4 ha5 hc6 he7 => ?_
    refine ⟨_, ldAn O.s hc6 rfl, ?_⟩
    refine O.new fun h8 x9 O10 => ?_
    refine ⟨_, rfl, (T_api_Func.T.len _ _ _ he7), ?_⟩
    refine O10.stA 2 rfl (T_api_Func.T.len _ _ _ he7) (T_api_Func.T.flat _ _ _ he7) fun h12 O13 => ?_
    refine ⟨_, ld0 (Sub.refl _) (O13.all 2 rfl) (T_api_Func.g0 he7), _, rfl, ?_⟩
    obtain ⟨A14, c15, q16, k17, r18⟩ := T_api_Trait.g1 e_5
    refine ⟨_, ldk (k := 1) (Sub.refl _) (O13.all 1 rfl) q16, _, _, _, rfl, ?_⟩
    obtain ⟨y19, g20, e⟩ := bind_e e
    refine r18.addr rfl g20 fun a21 cs22 ha23 hc24 he25 => ?_
    refine ⟨_, ld0 O13.s hc24 (T_api_Func.g0 he25), _, rfl, ?_⟩
    try rw [ba_list y1.Name y19.Name]
    refine split_not ?_
    refine split_dec_e e (fun c47 e => ?_) (fun c47 e => ?_)
    · refine ⟨_, ldAn (Sub.refl _) (O13.all 0 rfl) (T_api_Impl.T.len _ _ _ e_3), ?_⟩
      refine ⟨_, ldAn (Sub.refl _) (O13.all 2 rfl) (T_api_Func.T.len _ _ _ he7), ?_⟩
      obtain ⟨A26, c27, q28, k29, r30⟩ := T_api_Trait.g1 e_5
      refine ⟨_, ldk (k := 1) (Sub.refl _) (O13.all 1 rfl) q28, _, _, _, rfl, ?_⟩
      obtain ⟨y31, g32, e⟩ := bind_e e
      refine r30.addr rfl g32 fun a33 cs34 ha35 hc36 he37 => ?_
      refine ⟨_, ldAn O13.s hc36 rfl, ?_⟩
      obtain ⟨y38, g39, e⟩ := bind_e e
      refine (trait_Fits.walk (Hold.start (W := No) O13.s) e_3 he7 he37 g39).mono ?_
      rintro _ h40 ⟨m41, Q42, rfl⟩
      have O44 := Hold.nm (O13.retC Q42 vfs_nil)
      refine ⟨_, rfl, ?_⟩
      refine split_ne_e e (fun c45 e => ?_) (fun c45 e => ?_)
      · cases e
        exact ⟨_, O44.pick [], rfl⟩
      · exact (ih _ _ e) (O44.pick [0, 1]).nm e_3 e_5 rfl k_47 r_47
    · have O46 := O13.nm
      cases e
      exact ⟨_, O46.pick [], rfl⟩
  · cases e
    exact ⟨_, O.pick [], rfl⟩
theorem trait_impl.l0_k.all {p : trait_impl.l0_k.Pt} {r : (Int)} (e : trait_impl.l0_k.go p = some r) : trait_impl.l0_k.I p r := fixF_ind (β := fun _ => (Int)) trait_impl.l0_k.mono (I := trait_impl.l0_k.I) (fun go ih p r e => match p with
  | .l0 y_3 y_5 a_47 x_48 x_49 => trait_impl.l0_k.step_l0 go ih y_3 y_5 a_47 x_48 x_49 r e
  ) e
noncomputable def trait_impl.j0 (y_3 : T_api_Impl) (y_5 : T_api_Trait) : Option (Int) :=
  if (((List.length y_3.Funcs) : Nat) : Int) = (((List.length y_5.Funcs) : Nat) : Int) then ((trait_impl.l0 y_3 y_5 y_3.Funcs (((List.length y_3.Funcs) : Nat) : Int) (0 : Int))) else (some ((16 : Int)))
theorem trait_impl.j0.walk {W h0 m0 h m bk_3 cs_3 bk_5 cs_5 y_3 y_5} (O : Hold W h0 m0 h m [rV bk_3 45 cs_3, rV bk_5 37 cs_5]) (e_3 : T_api_Impl.E m y_3 cs_3) (e_5 : T_api_Trait.E m y_5 cs_5) {r} (e : trait_impl.j0 y_3 y_5 = some r) : f35.j0 (trait_impl.post W h0 m0 r) (⟨bk_3, 0, none⟩ : Addr) (⟨bk_5, 0, none⟩ : Addr) h := by
  unfold trait_impl.j0 at e
  refine f35.j0_in ?_
  unfold f35.j0T
  obtain ⟨A1, c2, q3, k4, r5⟩ := T_api_Impl.g2 e_3
  refine ⟨_, ldk (k := 2) (Sub.refl _) (O.all 0 rfl) q3, _, _, _, rfl, ?_⟩
  obtain ⟨A6, c7, q8, k9, r10⟩ := T_api_Trait.g1 e_5
  refine ⟨_, ldk (k := 1) (Sub.refl _) (O.all 1 rfl) q8, _, _, _, rfl, ?_⟩
  refine split_ne_e e (fun c16 e => ?_) (fun c16 e => ?_)
  · cases e
    exact ⟨_, O.pick [], rfl⟩
  · obtain ⟨A11, c12, q13, k14, r15⟩ := T_api_Impl.g2 e_3
    refine ⟨_, ldk (k := 2) (Sub.refl _) (O.all 0 rfl) q13, _, _, _, rfl, ?_⟩
    exact (trait_impl.l0_k.all e) (O.pick [0, 1]).nm e_3 e_5 rfl k14 r15
noncomputable def trait_impl.j1 (y_3 : T_api_Impl) (y_5 : T_api_Trait) (x_8 : Int) (b_37 : Bool) : Option (Int) :=
  if b_37 = true then (some (x_8)) else ((trait_impl.j0 y_3 y_5))
theorem trait_impl.j1.walk {W h0 m0 h m bk_3 cs_3 bk_5 cs_5 y_3 y_5 x_8 b_37} (O : Hold W h0 m0 h m [rV bk_3 45 cs_3, rV bk_5 37 cs_5]) (e_3 : T_api_Impl.E m y_3 cs_3) (e_5 : T_api_Trait.E m y_5 cs_5) {r} (e : trait_impl.j1 y_3 y_5 x_8 b_37 = some r) : f35.j1 (trait_impl.post W h0 m0 r) (⟨bk_3, 0, none⟩ : Addr) (⟨bk_5, 0, none⟩ : Addr) x_8 b_37 h := by
  unfold trait_impl.j1 at e
  refine f35.j1_in ?_
  unfold f35.j1T
  refine split_any_e e (fun c1 e => ?_) (fun c1 e => ?_)
  · cases e
    exact ⟨_, O.pick [], rfl⟩
  · exact trait_impl.j0.walk (O.pick [0, 1]).nm e_3 e_5 e
noncomputable def trait_impl (y_0 : T_api_Program) (y_1 : T_api_Impl) : Option (Int) :=
  Option.bind (trait_Find y_0 y_1.Trait) fun y9 => if y9.2 = (0 : Int) then (Option.bind (kind_Data y_0 y_1.For) fun y26 => if y26.2 = (0 : Int) then ((trait_impl.j1 y_1 y9.1 y26.2 false)) else (Option.bind (slices_Contains_22 ([(ByteArray.mk #[105, 110, 116]), (ByteArray.mk #[98, 111, 111, 108]), (ByteArray.mk #[116, 101, 120, 116]), (ByteArray.mk #[117, 110, 105, 116])] : List ByteArray) y_1.For) fun y47 => (trait_impl.j1 y_1 y9.1 y26.2 (!y47)))) else (some (y9.2))
set_option maxHeartbeats 4000000 in
theorem trait_impl.walk {W h m cs_0 cs_1 y_0 y_1} (O : Hold W h m h m []) (e_0 : T_api_Program.E m y_0 cs_0) (e_1 : T_api_Impl.E m y_1 cs_1) {r} (e : trait_impl y_0 y_1 = some r) : Run Tryd.prog 35 #[Value.agg cs_0.toArray, Value.agg cs_1.toArray] h (trait_impl.post W h m r) := by
  unfold trait_impl at e
  refine f35.run ?_
  unfold f35.runT
  refine O.new fun h1 x2 O3 => ?_
  refine O3.new fun h5 x6 O7 => ?_
  refine ⟨_, ldAn (Sub.refl _) (O7.all 0 rfl) (T_api_Program.T.len _ _ _ e_0), ?_⟩
  refine ⟨_, ld0 (Sub.refl _) (O7.all 1 rfl) (T_api_Impl.g0 e_1), _, rfl, ?_⟩
  obtain ⟨y9, g10, e⟩ := bind_e e
  refine (trait_Find.walk (Hold.start (W := No) O7.s) e_0 g10).mono ?_
  rintro _ h11 ⟨m12, cs16, Q13, rfl, he17⟩
  have O18 := Hold.nm (O7.ret Q13)
  refine ⟨_, _, rfl, ?_⟩
  refine O18.new fun h19 x20 O21 => ?_
  refine ⟨_, rfl, (T_api_Trait.T.len _ _ _ he17), ?_⟩
  refine O21.stA 2 rfl (T_api_Trait.T.len _ _ _ he17) (T_api_Trait.T.flat _ _ _ he17) fun h23 O24 => ?_
  refine split_ne_e e (fun c64 e => ?_) (fun c64 e => ?_)
  · have O25 := O24.nm
    cases e
    exact ⟨_, O25.pick [], rfl⟩
  · refine ⟨_, ldAn (Sub.refl _) (O24.all 0 rfl) (T_api_Program.T.len _ _ _ e_0), ?_⟩
    refine ⟨_, ldk (k := 1) (Sub.refl _) (O24.all 1 rfl) (T_api_Impl.g1 e_1), _, rfl, ?_⟩
    obtain ⟨y26, g27, e⟩ := bind_e e
    refine (kind_Data.walk (Hold.start (W := No) O24.s) (T_api_Program.T.mono _ _ _ _ Q13.S.up e_0) g27).mono ?_
    rintro _ h28 ⟨m29, cs33, Q30, rfl, he34⟩
    have O35 := Hold.nm (O24.ret Q30)
    refine ⟨_, _, rfl, ?_⟩
    refine O35.new fun h36 x37 O38 => ?_
    refine ⟨_, rfl, (T_api_Data.T.len _ _ _ he34), ?_⟩
    refine O38.stA 3 rfl (T_api_Data.T.len _ _ _ he34) (T_api_Data.T.flat _ _ _ he34) fun h40 O41 => ?_
    refine split_ne_e e (fun c63 e => ?_) (fun c63 e => ?_)
    · refine O41.new fun h42 x43 O44 => ?_
      refine ⟨_, ldk (k := 1) (Sub.refl _) (O44.all 1 rfl) (T_api_Impl.g1 e_1), _, rfl, ?_⟩
      obtain ⟨y47, g48, e⟩ := bind_e e
      have O46 := O44.rowE (l := ([(ByteArray.mk #[105, 110, 116]), (ByteArray.mk #[98, 111, 111, 108]), (ByteArray.mk #[116, 101, 120, 116]), (ByteArray.mk #[117, 110, 105, 116])] : List ByteArray)) 4 rfl tell_str (show CsE _ _ _ _ _ from (CsE.cons (c1 := [(Value.string (ByteArray.mk #[105, 110, 116]))]) rfl rfl (CsE.cons (c1 := [(Value.string (ByteArray.mk #[98, 111, 111, 108]))]) rfl rfl (CsE.cons (c1 := [(Value.string (ByteArray.mk #[116, 101, 120, 116]))]) rfl rfl (CsE.cons (c1 := [(Value.string (ByteArray.mk #[117, 110, 105, 116]))]) rfl rfl CsE.nil))))) rfl
      have O53 := O46.nm
      obtain ⟨m54, u55, s60, ⟨⟨r58, k59⟩, _⟩, B56, C57⟩ := O53.lend0 [4]
      replace r58 : Rd 1 eStr m54 (some ⟨(Array.size h40), 0, none⟩) ([(ByteArray.mk #[105, 110, 116]), (ByteArray.mk #[98, 111, 111, 108]), (ByteArray.mk #[116, 101, 120, 116]), (ByteArray.mk #[117, 110, 105, 116])] : List ByteArray) := r58
      replace k59 : List.length ([(ByteArray.mk #[105, 110, 116]), (ByteArray.mk #[98, 111, 111, 108]), (ByteArray.mk #[116, 101, 120, 116]), (ByteArray.mk #[117, 110, 105, 116])] : List ByteArray) ≤ 4 := k59
      refine (slices_Contains_22.walk (Hold.start (W := No) s60) rfl k59 r58 g48).mono ?_
      rintro _ h49 ⟨m50, Q51, rfl⟩
      have O61 := Hold.nm (C57 Q51 vfs_nil)
      refine ⟨_, rfl, ?_⟩
      exact trait_impl.j1.walk (O61.pick [1, 2]).nm (T_api_Impl.T.mono _ _ _ _ (Q13.S.up.trans Q30.S.up) e_1) (T_api_Trait.T.mono _ _ _ _ Q30.S.up he17) e
    · have O62 := O41.nm
      exact trait_impl.j1.walk (O62.pick [1, 2]).nm (T_api_Impl.T.mono _ _ _ _ (Q13.S.up.trans Q30.S.up) e_1) (T_api_Trait.T.mono _ _ _ _ Q30.S.up he17) e
def trait_Program.post (W : Nat → Prop) (h0 m0 : Heap) (r : Int) (v : Value) (h : Heap) : Prop := ∃ m , Hold W h0 m0 h m [] ∧ v = .int .i64 r
inductive trait_Program.l1_k.Pt where
  | l1 (y_1 : T_api_Program) (a_23 : List T_api_Impl) (x_24 : Int) (x_25 : Int)
noncomputable def trait_Program.l1_k.body (go : (p : trait_Program.l1_k.Pt) → Option (Int)) : (p : trait_Program.l1_k.Pt) → Option (Int)
  | .l1 y_1 a_23 x_24 x_25 => if x_25 < x_24 then (Option.bind (gi a_23 x_25) fun y1 => Option.bind (sls y_1.Impls (0 : Int) x_25) fun l19 => Option.bind (slices_ContainsFunc_33 l19 (fun z37 => trait_Program_1 z37 y1)) fun y24 => if y24 = true then (some ((5 : Int))) else (Option.bind (trait_impl y_1 y1) fun y46 => if y46 = (0 : Int) then ((go (.l1 y_1 a_23 x_24 (IntKind.wrap .i64 (x_25 + (1 : Int)))))) else (some (y46)))) else (some ((0 : Int)))
theorem trait_Program.l1_k.mono : MonoF (β := fun _ => (Int)) trait_Program.l1_k.body := fun f g hfg p => match p with
  | .l1 y_1 a_23 x_24 x_25 => LeO.ite (LeO.bind (LeO.refl _) fun y1 => LeO.bind (LeO.refl _) fun l19 => LeO.bind (LeO.refl _) fun y24 => LeO.ite (LeO.refl _) (LeO.bind (LeO.refl _) fun y46 => LeO.ite ((hfg _)) (LeO.refl _))) (LeO.refl _)
noncomputable def trait_Program.l1_k.go (p : trait_Program.l1_k.Pt) : Option (Int) := fixF (β := fun _ => (Int)) trait_Program.l1_k.body p
noncomputable def trait_Program.l1 (y_1 a_23 x_24 x_25) := trait_Program.l1_k.go (.l1 y_1 a_23 x_24 x_25)
theorem trait_Program.l1_eq (y_1 a_23 x_24 x_25) : trait_Program.l1 y_1 a_23 x_24 x_25 = if x_25 < x_24 then (Option.bind (gi a_23 x_25) fun y1 => Option.bind (sls y_1.Impls (0 : Int) x_25) fun l19 => Option.bind (slices_ContainsFunc_33 l19 (fun z37 => trait_Program_1 z37 y1)) fun y24 => if y24 = true then (some ((5 : Int))) else (Option.bind (trait_impl y_1 y1) fun y46 => if y46 = (0 : Int) then ((trait_Program.l1 y_1 a_23 x_24 (IntKind.wrap .i64 (x_25 + (1 : Int))))) else (some (y46)))) else (some ((0 : Int))) := fixF_eq trait_Program.l1_k.mono _
def trait_Program.l1_k.I : (p : trait_Program.l1_k.Pt) → (Int) → Prop
  | .l1 y_1 a_23 x_24 x_25, r => ∀ {W h0 m0 h m bk_1 cs_1 A_23 n_23 c_23} (O : Hold W h0 m0 h m [rV bk_1 29 cs_1]) (e_1 : T_api_Program.E m y_1 cs_1) (ne_23 : n_23 = List.length a_23) (k_23 : List.length a_23 ≤ c_23) (r_23 : Rd 3 T_api_Impl.E m A_23 a_23), f6.l1 (trait_Program.post W h0 m0 r) (⟨bk_1, 0, none⟩ : Addr) A_23 n_23 c_23 x_24 x_25 h
set_option maxHeartbeats 4000000 in
theorem trait_Program.l1_k.step_l1 (go : (p : trait_Program.l1_k.Pt) → Option (Int)) (ih : ∀ p r, go p = some r → trait_Program.l1_k.I p r) (y_1 a_23 x_24 x_25) (r) (e : trait_Program.l1_k.body go (.l1 y_1 a_23 x_24 x_25) = some r) : trait_Program.l1_k.I (.l1 y_1 a_23 x_24 x_25) r := by
  unfold trait_Program.l1_k.body at e
  intro W h0 m0 h m bk_1 cs_1 A_23 n_23 c_23 O e_1 ne_23 k_23 r_23
  subst ne_23
  refine f6.l1_in ?_
  unfold f6.l1T
  refine split_dec_e e (fun c55 e => ?_) (fun c55 e => ?_)
  · obtain ⟨y1, g2, e⟩ := bind_e e
    refine r_23.addr rfl g2 fun a3 cs4 ha5 hc6 he7 => ?_
    refine ⟨_, ldAn O.s hc6 rfl, ?_⟩
    refine O.new fun h8 x9 O10 => ?_
    refine ⟨_, rfl, (T_api_Impl.T.len _ _ _ he7), ?_⟩
    refine O10.stA 1 rfl (T_api_Impl.T.len _ _ _ he7) (T_api_Impl.T.flat _ _ _ he7) fun h12 O13 => ?_
    obtain ⟨A14, c15, q16, k17, r18⟩ := T_api_Program.g5 e_1
    refine ⟨_, ldk (k := 5) (Sub.refl _) (O13.all 0 rfl) q16, _, _, _, rfl, ?_⟩
    obtain ⟨l19, g20, e⟩ := bind_e e
    have q21 := sls_e g20
    refine ⟨q21.1, q21.2.1, cap_in q21.2.2.1 k17, ?_⟩
    try rw [q21.2.2.2.1]
    have k22 : List.length l19 ≤ (c15 - Int.toNat (0 : Int)) := sls_cap g20 k17
    have r23 := r18.sls g20 (le_mx q21.2.2.1 k17)
    obtain ⟨y24, g25, e⟩ := bind_e e
    have O30 := O13.nm
    obtain ⟨m31, u32, s36, ⟨hb35, _⟩, B33, C34⟩ := O30.lend0 [1]
    refine (slices_ContainsFunc_33.walk (Hold.start (W := No) s36) rfl k22 (r23.sub T_api_Impl.T u32) (fun h38 m39 u40 s41 y44 cs44 he44 r42 e43 => CallF.of [Value.agg cs44.toArray, Value.pointer (some ⟨(Array.size h), 0, none⟩)] f34.ok rfl ((trait_Program_1.walk (Hold.start (W := No) s41) he44 (VB.sub (show VB T_api_Impl.E _ _ _ from ⟨_, _, hb35, nn_len (T_api_Impl.T.len _ _ _ he7), (T_api_Impl.T.mono _ _ _ _ u32 he7)⟩) T_api_Impl.T u40) e43).mono (fun _ _ h => let ⟨_, t, e⟩ := h; ⟨e, t.S.ext⟩))) g25).mono ?_
    rintro _ h26 ⟨m27, Q28, rfl⟩
    have O45 := Hold.nm (C34 Q28 vfs_nil)
    refine ⟨_, rfl, ?_⟩
    refine split_any_e e (fun c54 e => ?_) (fun c54 e => ?_)
    · cases e
      exact ⟨_, O45.pick [], rfl⟩
    · refine ⟨_, ldAn (Sub.refl _) (O45.all 0 rfl) (T_api_Program.T.len _ _ _ e_1), ?_⟩
      refine ⟨_, ldAn (Sub.refl _) (O45.all 1 rfl) (T_api_Impl.T.len _ _ _ he7), ?_⟩
      obtain ⟨y46, g47, e⟩ := bind_e e
      refine (trait_impl.walk (Hold.start (W := No) O45.s) e_1 he7 g47).mono ?_
      rintro _ h48 ⟨m49, Q50, rfl⟩
      have O52 := Hold.nm (O45.retC Q50 vfs_nil)
      refine ⟨_, rfl, ?_⟩
      refine split_ne_e e (fun c53 e => ?_) (fun c53 e => ?_)
      · cases e
        exact ⟨_, O52.pick [], rfl⟩
      · exact (ih _ _ e) (O52.pick [0]).nm e_1 rfl k_23 r_23
  · cases e
    exact ⟨_, O.pick [], rfl⟩
theorem trait_Program.l1_k.all {p : trait_Program.l1_k.Pt} {r : (Int)} (e : trait_Program.l1_k.go p = some r) : trait_Program.l1_k.I p r := fixF_ind (β := fun _ => (Int)) trait_Program.l1_k.mono (I := trait_Program.l1_k.I) (fun go ih p r e => match p with
  | .l1 y_1 a_23 x_24 x_25 => trait_Program.l1_k.step_l1 go ih y_1 a_23 x_24 x_25 r e
  ) e
inductive trait_Program.l0_k.Pt where
  | l0 (y_1 : T_api_Program) (a_10 : List T_api_Trait) (x_11 : Int) (x_12 : Int)
noncomputable def trait_Program.l0_k.body (go : (p : trait_Program.l0_k.Pt) → Option (Int)) : (p : trait_Program.l0_k.Pt) → Option (Int)
  | .l0 y_1 a_10 x_11 x_12 => if x_12 < x_11 then (Option.bind (gi a_10 x_12) fun y1 => Option.bind (trait_Trait y1) fun y14 => if y14 = (0 : Int) then ((go (.l0 y_1 a_10 x_11 (IntKind.wrap .i64 (x_12 + (1 : Int)))))) else (some (y14))) else ((trait_Program.l1 y_1 y_1.Impls (((List.length y_1.Impls) : Nat) : Int) (0 : Int)))
theorem trait_Program.l0_k.mono : MonoF (β := fun _ => (Int)) trait_Program.l0_k.body := fun f g hfg p => match p with
  | .l0 y_1 a_10 x_11 x_12 => LeO.ite (LeO.bind (LeO.refl _) fun y1 => LeO.bind (LeO.refl _) fun y14 => LeO.ite ((hfg _)) (LeO.refl _)) ((LeO.refl _))
noncomputable def trait_Program.l0_k.go (p : trait_Program.l0_k.Pt) : Option (Int) := fixF (β := fun _ => (Int)) trait_Program.l0_k.body p
noncomputable def trait_Program.l0 (y_1 a_10 x_11 x_12) := trait_Program.l0_k.go (.l0 y_1 a_10 x_11 x_12)
theorem trait_Program.l0_eq (y_1 a_10 x_11 x_12) : trait_Program.l0 y_1 a_10 x_11 x_12 = if x_12 < x_11 then (Option.bind (gi a_10 x_12) fun y1 => Option.bind (trait_Trait y1) fun y14 => if y14 = (0 : Int) then ((trait_Program.l0 y_1 a_10 x_11 (IntKind.wrap .i64 (x_12 + (1 : Int))))) else (some (y14))) else ((trait_Program.l1 y_1 y_1.Impls (((List.length y_1.Impls) : Nat) : Int) (0 : Int))) := fixF_eq trait_Program.l0_k.mono _
def trait_Program.l0_k.I : (p : trait_Program.l0_k.Pt) → (Int) → Prop
  | .l0 y_1 a_10 x_11 x_12, r => ∀ {W h0 m0 h m bk_1 cs_1 A_10 n_10 c_10} (O : Hold W h0 m0 h m [rV bk_1 29 cs_1]) (e_1 : T_api_Program.E m y_1 cs_1) (ne_10 : n_10 = List.length a_10) (k_10 : List.length a_10 ≤ c_10) (r_10 : Rd 2 T_api_Trait.E m A_10 a_10), f6.l0 (trait_Program.post W h0 m0 r) (⟨bk_1, 0, none⟩ : Addr) A_10 n_10 c_10 x_11 x_12 h
theorem trait_Program.l0_k.step_l0 (go : (p : trait_Program.l0_k.Pt) → Option (Int)) (ih : ∀ p r, go p = some r → trait_Program.l0_k.I p r) (y_1 a_10 x_11 x_12) (r) (e : trait_Program.l0_k.body go (.l0 y_1 a_10 x_11 x_12) = some r) : trait_Program.l0_k.I (.l0 y_1 a_10 x_11 x_12) r := by
  unfold trait_Program.l0_k.body at e
  intro W h0 m0 h m bk_1 cs_1 A_10 n_10 c_10 O e_1 ne_10 k_10 r_10
  subst ne_10
  refine f6.l0_in ?_
  unfold f6.l0T
  refine split_dec_e e (fun c27 e => ?_) (fun c27 e => ?_)
  · obtain ⟨y1, g2, e⟩ := bind_e e
    refine r_10.addr rfl g2 fun a3 cs4 ha5 hc6 he7 => ?_
    refine ⟨_, ldAn O.s hc6 rfl, ?_⟩
    refine O.new fun h8 x9 O10 => ?_
    refine ⟨_, rfl, (T_api_Trait.T.len _ _ _ he7), ?_⟩
    refine O10.stA 1 rfl (T_api_Trait.T.len _ _ _ he7) (T_api_Trait.T.flat _ _ _ he7) fun h12 O13 => ?_
    refine ⟨_, ldAn (Sub.refl _) (O13.all 1 rfl) (T_api_Trait.T.len _ _ _ he7), ?_⟩
    obtain ⟨y14, g15, e⟩ := bind_e e
    refine (trait_Trait.walk (Hold.start (W := No) O13.s) he7 g15).mono ?_
    rintro _ h16 ⟨m17, Q18, rfl⟩
    have O20 := Hold.nm (O13.retC Q18 vfs_nil)
    refine ⟨_, rfl, ?_⟩
    refine split_ne_e e (fun c21 e => ?_) (fun c21 e => ?_)
    · cases e
      exact ⟨_, O20.pick [], rfl⟩
    · exact (ih _ _ e) (O20.pick [0]).nm e_1 rfl k_10 r_10
  · obtain ⟨A22, c23, q24, k25, r26⟩ := T_api_Program.g5 e_1
    refine ⟨_, ldk (k := 5) (Sub.refl _) (O.all 0 rfl) q24, _, _, _, rfl, ?_⟩
    exact (trait_Program.l1_k.all e) (O.pick [0]).nm e_1 rfl k25 r26
theorem trait_Program.l0_k.all {p : trait_Program.l0_k.Pt} {r : (Int)} (e : trait_Program.l0_k.go p = some r) : trait_Program.l0_k.I p r := fixF_ind (β := fun _ => (Int)) trait_Program.l0_k.mono (I := trait_Program.l0_k.I) (fun go ih p r e => match p with
  | .l0 y_1 a_10 x_11 x_12 => trait_Program.l0_k.step_l0 go ih y_1 a_10 x_11 x_12 r e
  ) e
noncomputable def trait_Program (y_0 : T_api_Program) : Option (Int) :=
  (trait_Program.l0 y_0 y_0.Traits (((List.length y_0.Traits) : Nat) : Int) (0 : Int))
theorem trait_Program.walk {W h m cs_0 y_0} (O : Hold W h m h m []) (e_0 : T_api_Program.E m y_0 cs_0) {r} (e : trait_Program y_0 = some r) : Run Tryd.prog 6 #[Value.agg cs_0.toArray] h (trait_Program.post W h m r) := by
  unfold trait_Program at e
  refine f6.run ?_
  unfold f6.runT
  refine O.new fun h1 x2 O3 => ?_
  obtain ⟨A5, c6, q7, k8, r9⟩ := T_api_Program.g4 e_0
  refine ⟨_, ldk (k := 4) (Sub.refl _) (O3.all 0 rfl) q7, _, _, _, rfl, ?_⟩
  have O10 := O3.nm
  exact (trait_Program.l0_k.all e) (O10.pick [0]).nm e_0 rfl k8 r9
def slices_IndexFunc_8.post (W : Nat → Prop) (h0 m0 : Heap) (r : Int) (v : Value) (h : Heap) : Prop := ∃ m , Hold W h0 m0 h m [] ∧ v = .int .i64 r
inductive slices_IndexFunc_8.l0_k.Pt where
  | l0 (a_0 : List T_api_Trait) (p_1 : T_api_Trait → Option Bool) (x_7 : Int) (x_8 : Int)
noncomputable def slices_IndexFunc_8.l0_k.body (go : (p : slices_IndexFunc_8.l0_k.Pt) → Option (Int)) : (p : slices_IndexFunc_8.l0_k.Pt) → Option (Int)
  | .l0 a_0 p_1 x_7 x_8 => if x_8 < x_7 then (Option.bind (gi a_0 x_8) fun y1 => Option.bind (p_1 y1) fun y8 => if y8 = true then (some (x_8)) else ((go (.l0 a_0 p_1 x_7 (IntKind.wrap .i64 (x_8 + (1 : Int))))))) else (some ((-1 : Int)))
theorem slices_IndexFunc_8.l0_k.mono : MonoF (β := fun _ => (Int)) slices_IndexFunc_8.l0_k.body := fun f g hfg p => match p with
  | .l0 a_0 p_1 x_7 x_8 => LeO.ite (LeO.bind (LeO.refl _) fun y1 => LeO.bind (LeO.refl _) fun y8 => LeO.ite (LeO.refl _) ((hfg _))) (LeO.refl _)
noncomputable def slices_IndexFunc_8.l0_k.go (p : slices_IndexFunc_8.l0_k.Pt) : Option (Int) := fixF (β := fun _ => (Int)) slices_IndexFunc_8.l0_k.body p
noncomputable def slices_IndexFunc_8.l0 (a_0 p_1 x_7 x_8) := slices_IndexFunc_8.l0_k.go (.l0 a_0 p_1 x_7 x_8)
theorem slices_IndexFunc_8.l0_eq (a_0 p_1 x_7 x_8) : slices_IndexFunc_8.l0 a_0 p_1 x_7 x_8 = if x_8 < x_7 then (Option.bind (gi a_0 x_8) fun y1 => Option.bind (p_1 y1) fun y8 => if y8 = true then (some (x_8)) else ((slices_IndexFunc_8.l0 a_0 p_1 x_7 (IntKind.wrap .i64 (x_8 + (1 : Int)))))) else (some ((-1 : Int))) := fixF_eq slices_IndexFunc_8.l0_k.mono _
def slices_IndexFunc_8.l0_k.I : (p : slices_IndexFunc_8.l0_k.Pt) → (Int) → Prop
  | .l0 a_0 p_1 x_7 x_8, r => ∀ {W h0 m0 h m A_0 n_0 c_0 fv_1} (O : Hold W h0 m0 h m []) (ne_0 : n_0 = List.length a_0) (k_0 : List.length a_0 ≤ c_0) (r_0 : Rd 2 T_api_Trait.E m A_0 a_0) (f_1 : ∀ h' m', Sub m0 m' → Sub m' h' → ∀ (y0 : T_api_Trait) (cs0 : List Value) (_ : T_api_Trait.E m' y0 cs0) (r : Bool), p_1 y0 = some r → CallF Tryd.prog fv_1 [.agg cs0.toArray] h' (fun v h'' => v = .bool r ∧ Ext h' h'')), f8.l0 (slices_IndexFunc_8.post W h0 m0 r) A_0 n_0 c_0 fv_1 x_7 x_8 h
theorem slices_IndexFunc_8.l0_k.step_l0 (go : (p : slices_IndexFunc_8.l0_k.Pt) → Option (Int)) (ih : ∀ p r, go p = some r → slices_IndexFunc_8.l0_k.I p r) (a_0 p_1 x_7 x_8) (r) (e : slices_IndexFunc_8.l0_k.body go (.l0 a_0 p_1 x_7 x_8) = some r) : slices_IndexFunc_8.l0_k.I (.l0 a_0 p_1 x_7 x_8) r := by
  unfold slices_IndexFunc_8.l0_k.body at e
  intro W h0 m0 h m A_0 n_0 c_0 fv_1 O ne_0 k_0 r_0 f_1
  subst ne_0
  refine f8.l0_in ?_
  unfold f8.l0T
  refine split_dec_e e (fun c14 e => ?_) (fun c14 e => ?_)
  · obtain ⟨y1, g2, e⟩ := bind_e e
    refine r_0.addr rfl g2 fun a3 cs4 ha5 hc6 he7 => ?_
    refine ⟨_, ldAn O.s hc6 rfl, ?_⟩
    obtain ⟨y8, g9, e⟩ := bind_e e
    refine CallF.mono (f_1 _ _ O.up O.s _ _ he7 _ g9) ?_
    rintro _ h10 ⟨rfl, x11⟩
    have O12 := O.ext x11
    refine ⟨_, rfl, ?_⟩
    refine split_any_e e (fun c13 e => ?_) (fun c13 e => ?_)
    · cases e
      exact ⟨_, O12.pick [], rfl⟩
    · exact (ih _ _ e) (O12.pick []).nm rfl k_0 r_0 f_1
  · cases e
    exact ⟨_, O.pick [], rfl⟩
theorem slices_IndexFunc_8.l0_k.all {p : slices_IndexFunc_8.l0_k.Pt} {r : (Int)} (e : slices_IndexFunc_8.l0_k.go p = some r) : slices_IndexFunc_8.l0_k.I p r := fixF_ind (β := fun _ => (Int)) slices_IndexFunc_8.l0_k.mono (I := slices_IndexFunc_8.l0_k.I) (fun go ih p r e => match p with
  | .l0 a_0 p_1 x_7 x_8 => slices_IndexFunc_8.l0_k.step_l0 go ih a_0 p_1 x_7 x_8 r e
  ) e
noncomputable def slices_IndexFunc_8 (a_0 : List T_api_Trait) (p_1 : T_api_Trait → Option Bool) : Option (Int) :=
  (slices_IndexFunc_8.l0 a_0 p_1 (((List.length a_0) : Nat) : Int) (0 : Int))
theorem slices_IndexFunc_8.walk {p_1 : T_api_Trait → Option Bool} {W h m A_0 n_0 c_0 fv_1 a_0} (O : Hold W h m h m []) (ne_0 : n_0 = List.length a_0) (k_0 : List.length a_0 ≤ c_0) (r_0 : Rd 2 T_api_Trait.E m A_0 a_0) (f_1 : ∀ h' m', Sub m m' → Sub m' h' → ∀ (y0 : T_api_Trait) (cs0 : List Value) (_ : T_api_Trait.E m' y0 cs0) (r : Bool), p_1 y0 = some r → CallF Tryd.prog fv_1 [.agg cs0.toArray] h' (fun v h'' => v = .bool r ∧ Ext h' h'')) {r} (e : slices_IndexFunc_8 a_0 p_1 = some r) : Run Tryd.prog 8 #[Value.slice A_0 n_0 c_0, fv_1] h (slices_IndexFunc_8.post W h m r) := by
  unfold slices_IndexFunc_8 at e
  subst ne_0
  refine f8.run ?_
  unfold f8.runT
  exact (slices_IndexFunc_8.l0_k.all e) (O.pick []).nm rfl k_0 r_0 f_1
def slices_Clone_69.post (W : Nat → Prop) (h0 m0 : Heap) (r : (List ByteArray)) (v : Value) (h : Heap) : Prop := ∃ m A0 n0 c0, Hold W h0 m0 h m [rR (aE tell_str) A0 c0 r] ∧ v = .slice A0 n0 c0 ∧ n0 = List.length r
noncomputable def slices_Clone_69 (a0 : List ByteArray) : Option (List ByteArray) := ap 16 ([] : List ByteArray) a0
theorem slices_Clone_69.walk {W : Nat → Prop} {h m : Heap} {A0 : Option Addr} {n0 c0 : Nat} {a0 : List ByteArray} (O : Hold W h m h m []) (ne0 : n0 = List.length a0) (k0 : List.length a0 ≤ c0) (r0 : Rd 1 eStr m A0 a0) {r : List ByteArray} (e : slices_Clone_69 a0 = some r) : Run Tryd.prog 69 #[Value.slice A0 n0 c0] h (slices_Clone_69.post W h m r) := by
  unfold slices_Clone_69 at e
  subst ne0
  refine f69.run ?_
  unfold f69.runT
  cases A0 with
  | none =>
    refine split_t ?_
    obtain rfl := Rd.void r0
    obtain rfl : [] = r := by have := (ap_e e).2; simpa using this
    exact ⟨m, none, 0, 0, O.nil (aE tell_str) none, rfl, rfl⟩
  | some a =>
    refine split_f ?_
    refine O.new fun h1 x1 O1 => ?_
    refine O1.appE0 tell_str rfl rfl (r0.srcE tell_str O1.s rfl) (by decide) e fun A4 c4 h4 x4 O4 => ?_
    refine ⟨_, _, _, rfl, ?_⟩
    exact ⟨m, _, _, _, O4.pick [1], rfl, rfl⟩
theorem slices_Clone_69.val (l : List ByteArray) (h : l.length * 16 ≤ 140737488355328) : slices_Clone_69 l = some l := ap_nil h
def cmp_isNaN_131.post (W : Nat → Prop) (h0 m0 : Heap) (r : Bool) (v : Value) (h : Heap) : Prop := ∃ m , Hold W h0 m0 h m [] ∧ v = .bool r
noncomputable def cmp_isNaN_131 (s_0 : ByteArray) : Option (Bool) :=
  some ((!(decide (s_0 = s_0))))
theorem cmp_isNaN_131.walk {W h m s_0} (O : Hold W h m h m []) {r} (e : cmp_isNaN_131 s_0 = some r) : Run Tryd.prog 131 #[Value.string s_0] h (cmp_isNaN_131.post W h m r) := by
  unfold cmp_isNaN_131 at e
  refine f131.run ?_
  unfold f131.runT
  try rw [ba_list s_0 s_0]
  cases e
  exact ⟨_, O.pick [], rfl⟩
def cmp_Less_110.post (W : Nat → Prop) (h0 m0 : Heap) (r : Bool) (v : Value) (h : Heap) : Prop := ∃ m , Hold W h0 m0 h m [] ∧ v = .bool r
noncomputable def cmp_Less_110 (s_0 : ByteArray) (s_1 : ByteArray) : Option (Bool) :=
  Option.bind (cmp_isNaN_131 s_0) fun y1 => if y1 = true then (Option.bind (cmp_isNaN_131 s_1) fun y8 => if y8 = true then (some ((Op.bytesLess (ByteArray.toList s_0) (ByteArray.toList s_1)))) else (some (true))) else (some ((Op.bytesLess (ByteArray.toList s_0) (ByteArray.toList s_1))))
theorem cmp_Less_110.walk {W h m s_0 s_1} (O : Hold W h m h m []) {r} (e : cmp_Less_110 s_0 s_1 = some r) : Run Tryd.prog 110 #[Value.string s_0, Value.string s_1] h (cmp_Less_110.post W h m r) := by
  unfold cmp_Less_110 at e
  refine f110.run ?_
  unfold f110.runT
  obtain ⟨y1, g2, e⟩ := bind_e e
  refine (cmp_isNaN_131.walk (Hold.start (W := No) O.s)  g2).mono ?_
  rintro _ h3 ⟨m4, Q5, rfl⟩
  have O7 := Hold.nm (O.retC Q5 vfs_nil)
  refine ⟨_, rfl, ?_⟩
  refine split_any_e e (fun c16 e => ?_) (fun c16 e => ?_)
  · obtain ⟨y8, g9, e⟩ := bind_e e
    refine (cmp_isNaN_131.walk (Hold.start (W := No) O7.s)  g9).mono ?_
    rintro _ h10 ⟨m11, Q12, rfl⟩
    have O14 := Hold.nm (O7.retC Q12 vfs_nil)
    refine ⟨_, rfl, ?_⟩
    refine split_not ?_
    refine split_any_e e (fun c15 e => ?_) (fun c15 e => ?_)
    · cases e
      exact ⟨_, O14.pick [], rfl⟩
    · cases e
      exact ⟨_, O14.pick [], rfl⟩
  · cases e
    exact ⟨_, O7.pick [], rfl⟩
def sq104.post (W : Nat → Prop) (Asl0 : Option Addr) (nsl0 csl0 : Nat) (h0 m0 : Heap) (r : (List ByteArray)) (v : Value) (h : Heap) : Prop := ∃ m , Hold W h0 m0 h m [rR (aE tell_str) Asl0 csl0 r] ∧ v = .tuple #[] ∧ nsl0 = List.length r
inductive sq104.l0_k.Pt where
  | l0 (a_0 : List ByteArray) (x_1 : Int) (x_2 : Int) (x_6 : Int)
  | l1 (a_0 : List ByteArray) (x_1 : Int) (x_2 : Int) (x_6 : Int) (x_7 : Int)
  | j1 (a_0 : List ByteArray) (x_1 : Int) (x_2 : Int) (x_6 : Int) (x_7 : Int)
  | j0 (a_0 : List ByteArray) (x_1 : Int) (x_2 : Int) (x_6 : Int)
noncomputable def sq104.l0_k.body (go : (p : sq104.l0_k.Pt) → Option ((List ByteArray))) : (p : sq104.l0_k.Pt) → Option ((List ByteArray))
  | .l0 a_0 x_1 x_2 x_6 => if x_6 < x_2 then ((go (.l1 a_0 x_1 x_2 x_6 x_6))) else (some (a_0))
  | .l1 a_0 x_1 x_2 x_6 x_7 => if x_7 > x_1 then (Option.bind (gi a_0 x_7) fun y1 => Option.bind (gi a_0 (IntKind.wrap .i64 (x_7 - (1 : Int)))) fun y8 => Option.bind (cmp_Less_110 y1 y8) fun y15 => if y15 = true then ((go (.j1 a_0 x_1 x_2 x_6 x_7))) else ((go (.j0 a_0 x_1 x_2 x_6)))) else ((go (.j0 a_0 x_1 x_2 x_6)))
  | .j1 a_0 x_1 x_2 x_6 x_7 => Option.bind (gi a_0 (IntKind.wrap .i64 (x_7 - (1 : Int)))) fun y1 => Option.bind (gi a_0 x_7) fun y8 => Option.bind (gi a_0 x_7) fun y15 => Option.bind (some (List.set a_0 (Int.toNat x_7) y1)) fun l24 => Option.bind (gi l24 (IntKind.wrap .i64 (x_7 - (1 : Int)))) fun y26 => Option.bind (some (List.set l24 (Int.toNat (IntKind.wrap .i64 (x_7 - (1 : Int)))) y8)) fun l35 => (go (.l1 l35 x_1 x_2 x_6 (IntKind.wrap .i64 (x_7 - (1 : Int)))))
  | .j0 a_0 x_1 x_2 x_6 => (go (.l0 a_0 x_1 x_2 (IntKind.wrap .i64 (x_6 + (1 : Int)))))
attribute [local irreducible] cmp_Less_110 in
theorem sq104.l0_k.mono : MonoF (β := fun _ => ((List ByteArray))) sq104.l0_k.body := fun f g hfg p => match p with
  | .l0 a_0 x_1 x_2 x_6 => LeO.ite ((hfg _)) (LeO.refl _)
  | .l1 a_0 x_1 x_2 x_6 x_7 => LeO.ite (LeO.bind (LeO.refl _) fun y1 => LeO.bind (LeO.refl _) fun y8 => LeO.bind (LeO.refl _) fun y15 => LeO.ite ((hfg _)) ((hfg _))) ((hfg _))
  | .j1 a_0 x_1 x_2 x_6 x_7 => LeO.bind (LeO.refl _) fun y1 => LeO.bind (LeO.refl _) fun y8 => LeO.bind (LeO.refl _) fun y15 => LeO.bind (LeO.refl _) fun l24 => LeO.bind (LeO.refl _) fun y26 => LeO.bind (LeO.refl _) fun l35 => (hfg _)
  | .j0 a_0 x_1 x_2 x_6 => (hfg _)
noncomputable def sq104.l0_k.go (p : sq104.l0_k.Pt) : Option ((List ByteArray)) := fixF (β := fun _ => ((List ByteArray))) sq104.l0_k.body p
noncomputable def sq104.l0 (a_0 x_1 x_2 x_6) := sq104.l0_k.go (.l0 a_0 x_1 x_2 x_6)
noncomputable def sq104.l1 (a_0 x_1 x_2 x_6 x_7) := sq104.l0_k.go (.l1 a_0 x_1 x_2 x_6 x_7)
noncomputable def sq104.j1 (a_0 x_1 x_2 x_6 x_7) := sq104.l0_k.go (.j1 a_0 x_1 x_2 x_6 x_7)
noncomputable def sq104.j0 (a_0 x_1 x_2 x_6) := sq104.l0_k.go (.j0 a_0 x_1 x_2 x_6)
theorem sq104.l0_eq (a_0 x_1 x_2 x_6) : sq104.l0 a_0 x_1 x_2 x_6 = if x_6 < x_2 then ((sq104.l1 a_0 x_1 x_2 x_6 x_6)) else (some (a_0)) := fixF_eq sq104.l0_k.mono _
theorem sq104.l1_eq (a_0 x_1 x_2 x_6 x_7) : sq104.l1 a_0 x_1 x_2 x_6 x_7 = if x_7 > x_1 then (Option.bind (gi a_0 x_7) fun y1 => Option.bind (gi a_0 (IntKind.wrap .i64 (x_7 - (1 : Int)))) fun y8 => Option.bind (cmp_Less_110 y1 y8) fun y15 => if y15 = true then ((sq104.j1 a_0 x_1 x_2 x_6 x_7)) else ((sq104.j0 a_0 x_1 x_2 x_6))) else ((sq104.j0 a_0 x_1 x_2 x_6)) := fixF_eq sq104.l0_k.mono _
theorem sq104.j1_eq (a_0 x_1 x_2 x_6 x_7) : sq104.j1 a_0 x_1 x_2 x_6 x_7 = Option.bind (gi a_0 (IntKind.wrap .i64 (x_7 - (1 : Int)))) fun y1 => Option.bind (gi a_0 x_7) fun y8 => Option.bind (gi a_0 x_7) fun y15 => Option.bind (some (List.set a_0 (Int.toNat x_7) y1)) fun l24 => Option.bind (gi l24 (IntKind.wrap .i64 (x_7 - (1 : Int)))) fun y26 => Option.bind (some (List.set l24 (Int.toNat (IntKind.wrap .i64 (x_7 - (1 : Int)))) y8)) fun l35 => (sq104.l1 l35 x_1 x_2 x_6 (IntKind.wrap .i64 (x_7 - (1 : Int)))) := fixF_eq sq104.l0_k.mono _
theorem sq104.j0_eq (a_0 x_1 x_2 x_6) : sq104.j0 a_0 x_1 x_2 x_6 = (sq104.l0 a_0 x_1 x_2 (IntKind.wrap .i64 (x_6 + (1 : Int)))) := fixF_eq sq104.l0_k.mono _
def sq104.l0_k.I : (p : sq104.l0_k.Pt) → ((List ByteArray)) → Prop
  | .l0 a_0 x_1 x_2 x_6, r => ∀ {W h0 m0 h m A_0 n_0 c_0} (O : Hold W h0 m0 h m [rR (aE tell_str) A_0 c_0 a_0]) (ne_0 : n_0 = List.length a_0), f104.l0 (sq104.post W A_0 n_0 c_0 h0 m0 r) A_0 n_0 c_0 x_1 x_2 x_6 h
  | .l1 a_0 x_1 x_2 x_6 x_7, r => ∀ {W h0 m0 h m A_0 n_0 c_0} (O : Hold W h0 m0 h m [rR (aE tell_str) A_0 c_0 a_0]) (ne_0 : n_0 = List.length a_0), f104.l1 (sq104.post W A_0 n_0 c_0 h0 m0 r) A_0 n_0 c_0 x_1 x_2 x_6 x_7 h
  | .j1 a_0 x_1 x_2 x_6 x_7, r => ∀ {W h0 m0 h m A_0 n_0 c_0} (O : Hold W h0 m0 h m [rR (aE tell_str) A_0 c_0 a_0]) (ne_0 : n_0 = List.length a_0), f104.j1 (sq104.post W A_0 n_0 c_0 h0 m0 r) A_0 n_0 c_0 x_1 x_2 x_6 x_7 h
  | .j0 a_0 x_1 x_2 x_6, r => ∀ {W h0 m0 h m A_0 n_0 c_0} (O : Hold W h0 m0 h m [rR (aE tell_str) A_0 c_0 a_0]) (ne_0 : n_0 = List.length a_0), f104.j0 (sq104.post W A_0 n_0 c_0 h0 m0 r) A_0 n_0 c_0 x_1 x_2 x_6 h
theorem sq104.l0_k.step_l0 (go : (p : sq104.l0_k.Pt) → Option ((List ByteArray))) (ih : ∀ p r, go p = some r → sq104.l0_k.I p r) (a_0 x_1 x_2 x_6) (r) (e : sq104.l0_k.body go (.l0 a_0 x_1 x_2 x_6) = some r) : sq104.l0_k.I (.l0 a_0 x_1 x_2 x_6) r := by
  unfold sq104.l0_k.body at e
  intro W h0 m0 h m A_0 n_0 c_0 O ne_0
  subst ne_0
  refine f104.l0_in ?_
  unfold f104.l0T
  refine split_dec_e e (fun c1 e => ?_) (fun c1 e => ?_)
  · exact (ih _ _ e) (O.pick [0]).nm rfl
  · cases e
    exact ⟨_, O.pick [0], rfl, rfl⟩
theorem sq104.l0_k.step_l1 (go : (p : sq104.l0_k.Pt) → Option ((List ByteArray))) (ih : ∀ p r, go p = some r → sq104.l0_k.I p r) (a_0 x_1 x_2 x_6 x_7) (r) (e : sq104.l0_k.body go (.l1 a_0 x_1 x_2 x_6 x_7) = some r) : sq104.l0_k.I (.l1 a_0 x_1 x_2 x_6 x_7) r := by
  unfold sq104.l0_k.body at e
  intro W h0 m0 h m A_0 n_0 c_0 O ne_0
  subst ne_0
  refine f104.l1_in ?_
  unfold f104.l1T
  refine split_dec_e e (fun c23 e => ?_) (fun c23 e => ?_)
  · obtain ⟨y1, g2, e⟩ := bind_e e
    refine (O.os 0 rfl).addr rfl g2 fun a3 cs4 ha5 hc6 he7 => ?_
    obtain rfl : cs4 = [(Value.string y1)] := he7
    obtain ⟨y8, g9, e⟩ := bind_e e
    refine (O.os 0 rfl).addr rfl g9 fun a10 cs11 ha12 hc13 he14 => ?_
    obtain rfl : cs11 = [(Value.string y8)] := he14
    refine ⟨_, ld0 (Sub.refl _) hc6 rfl, _, rfl, ?_⟩
    refine ⟨_, ld0 (Sub.refl _) hc13 rfl, _, rfl, ?_⟩
    obtain ⟨y15, g16, e⟩ := bind_e e
    refine (cmp_Less_110.walk (Hold.start (W := No) O.s)  g16).mono ?_
    rintro _ h17 ⟨m18, Q19, rfl⟩
    have O21 := Hold.nm (O.retC Q19 vfs_nil)
    refine ⟨_, rfl, ?_⟩
    refine split_any_e e (fun c22 e => ?_) (fun c22 e => ?_)
    · exact (ih _ _ e) (O21.pick [0]).nm rfl
    · exact (ih _ _ e) (O21.pick [0]).nm rfl
  · exact (ih _ _ e) (O.pick [0]).nm rfl
theorem sq104.l0_k.step_j1 (go : (p : sq104.l0_k.Pt) → Option ((List ByteArray))) (ih : ∀ p r, go p = some r → sq104.l0_k.I p r) (a_0 x_1 x_2 x_6 x_7) (r) (e : sq104.l0_k.body go (.j1 a_0 x_1 x_2 x_6 x_7) = some r) : sq104.l0_k.I (.j1 a_0 x_1 x_2 x_6 x_7) r := by
  unfold sq104.l0_k.body at e
  intro W h0 m0 h m A_0 n_0 c_0 O ne_0
  subst ne_0
  refine f104.j1_in ?_
  unfold f104.j1T
  obtain ⟨y1, g2, e⟩ := bind_e e
  refine (O.os 0 rfl).addr rfl g2 fun a3 cs4 ha5 hc6 he7 => ?_
  obtain rfl : cs4 = [(Value.string y1)] := he7
  obtain ⟨y8, g9, e⟩ := bind_e e
  refine (O.os 0 rfl).addr rfl g9 fun a10 cs11 ha12 hc13 he14 => ?_
  obtain rfl : cs11 = [(Value.string y8)] := he14
  refine ⟨_, ld0 (Sub.refl _) hc6 rfl, _, rfl, ?_⟩
  refine ⟨_, ld0 (Sub.refl _) hc13 rfl, _, rfl, ?_⟩
  obtain ⟨y15, g16, e⟩ := bind_e e
  refine (O.os 0 rfl).addr rfl g16 fun a17 cs18 ha19 hc20 he21 => ?_
  obtain rfl : cs18 = [(Value.string y15)] := he21
  obtain ⟨l24, g25, e⟩ := bind_e e
  replace g25 := Option.some.inj g25
  refine O.elst0 0 rfl g16 ha19 hc20 (by decide) (y' := y1) rfl trivial g25 fun h22 O23 => ?_
  obtain ⟨y26, g27, e⟩ := bind_e e
  refine (O23.os 0 rfl).addr (lset' g25) g27 fun a28 cs29 ha30 hc31 he32 => ?_
  obtain rfl : cs29 = [(Value.string y26)] := he32
  obtain ⟨l35, g36, e⟩ := bind_e e
  replace g36 := Option.some.inj g36
  refine O23.elst0 0 rfl g27 ha30 hc31 (by decide) (y' := y8) rfl trivial g36 fun h33 O34 => ?_
  have O37 := O34.nm
  exact (ih _ _ e) (O37.pick [0]).nm ((lset' g25).trans (lset' g36))
theorem sq104.l0_k.step_j0 (go : (p : sq104.l0_k.Pt) → Option ((List ByteArray))) (ih : ∀ p r, go p = some r → sq104.l0_k.I p r) (a_0 x_1 x_2 x_6) (r) (e : sq104.l0_k.body go (.j0 a_0 x_1 x_2 x_6) = some r) : sq104.l0_k.I (.j0 a_0 x_1 x_2 x_6) r := by
  unfold sq104.l0_k.body at e
  intro W h0 m0 h m A_0 n_0 c_0 O ne_0
  subst ne_0
  refine f104.j0_in ?_
  unfold f104.j0T
  exact (ih _ _ e) (O.pick [0]).nm rfl
theorem sq104.l0_k.all {p : sq104.l0_k.Pt} {r : ((List ByteArray))} (e : sq104.l0_k.go p = some r) : sq104.l0_k.I p r := fixF_ind (β := fun _ => ((List ByteArray))) sq104.l0_k.mono (I := sq104.l0_k.I) (fun go ih p r e => match p with
  | .l0 a_0 x_1 x_2 x_6 => sq104.l0_k.step_l0 go ih a_0 x_1 x_2 x_6 r e
  | .l1 a_0 x_1 x_2 x_6 x_7 => sq104.l0_k.step_l1 go ih a_0 x_1 x_2 x_6 x_7 r e
  | .j1 a_0 x_1 x_2 x_6 x_7 => sq104.l0_k.step_j1 go ih a_0 x_1 x_2 x_6 x_7 r e
  | .j0 a_0 x_1 x_2 x_6 => sq104.l0_k.step_j0 go ih a_0 x_1 x_2 x_6 r e
  ) e
noncomputable def sq104 (a_0 : List ByteArray) (x_1 : Int) (x_2 : Int) : Option ((List ByteArray)) :=
  (sq104.l0 a_0 x_1 x_2 (IntKind.wrap .i64 (x_1 + (1 : Int))))
theorem sq104.walk {W h m A_0 n_0 c_0 a_0 x_1 x_2} (O : Hold W h m h m [rR (aE tell_str) A_0 c_0 a_0]) (ne_0 : n_0 = List.length a_0) {r} (e : sq104 a_0 x_1 x_2 = some r) : Run Tryd.prog 104 #[Value.slice A_0 n_0 c_0, Value.int .i64 x_1, Value.int .i64 x_2] h (sq104.post W A_0 n_0 c_0 h m r) := by
  unfold sq104 at e
  subst ne_0
  refine f104.run ?_
  unfold f104.runT
  exact (sq104.l0_k.all e) (O.pick [0]).nm rfl
def sq126.post (W : Nat → Prop) (Asl0 : Option Addr) (nsl0 csl0 : Nat) (h0 m0 : Heap) (r : (List ByteArray)) (v : Value) (h : Heap) : Prop := ∃ m , Hold W h0 m0 h m [rR (aE tell_str) Asl0 csl0 r] ∧ v = .tuple #[] ∧ nsl0 = List.length r
inductive sq126.l0_k.Pt where
  | l0 (a_0 : List ByteArray) (x_2 : Int) (x_3 : Int) (x_8 : Int)
  | j1 (a_0 : List ByteArray) (x_2 : Int) (x_3 : Int) (x_8 : Int) (x_9 : Int) (b_36 : Bool)
  | j0 (a_0 : List ByteArray) (x_2 : Int) (x_3 : Int) (x_8 : Int) (x_9 : Int)
noncomputable def sq126.l0_k.body (go : (p : sq126.l0_k.Pt) → Option ((List ByteArray))) : (p : sq126.l0_k.Pt) → Option ((List ByteArray))
  | .l0 a_0 x_2 x_3 x_8 => if (IntKind.wrap .i64 ((IntKind.wrap .i64 ((2 : Int) * x_8)) + (1 : Int))) ≥ x_2 then (some (a_0)) else (if (IntKind.wrap .i64 ((IntKind.wrap .i64 ((IntKind.wrap .i64 ((2 : Int) * x_8)) + (1 : Int))) + (1 : Int))) < x_2 then (Option.bind (gi a_0 (IntKind.wrap .i64 (x_3 + (IntKind.wrap .i64 ((IntKind.wrap .i64 ((2 : Int) * x_8)) + (1 : Int)))))) fun y1 => Option.bind (gi a_0 (IntKind.wrap .i64 ((IntKind.wrap .i64 (x_3 + (IntKind.wrap .i64 ((IntKind.wrap .i64 ((2 : Int) * x_8)) + (1 : Int))))) + (1 : Int)))) fun y8 => Option.bind (cmp_Less_110 y1 y8) fun y15 => (go (.j1 a_0 x_2 x_3 x_8 (IntKind.wrap .i64 ((IntKind.wrap .i64 ((2 : Int) * x_8)) + (1 : Int))) y15))) else ((go (.j1 a_0 x_2 x_3 x_8 (IntKind.wrap .i64 ((IntKind.wrap .i64 ((2 : Int) * x_8)) + (1 : Int))) false))))
  | .j1 a_0 x_2 x_3 x_8 x_9 b_36 => if b_36 = true then ((go (.j0 a_0 x_2 x_3 x_8 (IntKind.wrap .i64 (x_9 + (1 : Int)))))) else ((go (.j0 a_0 x_2 x_3 x_8 x_9)))
  | .j0 a_0 x_2 x_3 x_8 x_9 => Option.bind (gi a_0 (IntKind.wrap .i64 (x_3 + x_8))) fun y1 => Option.bind (gi a_0 (IntKind.wrap .i64 (x_3 + x_9))) fun y8 => Option.bind (cmp_Less_110 y1 y8) fun y15 => if y15 = true then (Option.bind (gi a_0 (IntKind.wrap .i64 (x_3 + x_9))) fun y22 => Option.bind (gi a_0 (IntKind.wrap .i64 (x_3 + x_8))) fun y29 => Option.bind (gi a_0 (IntKind.wrap .i64 (x_3 + x_8))) fun y36 => Option.bind (some (List.set a_0 (Int.toNat (IntKind.wrap .i64 (x_3 + x_8))) y22)) fun l45 => Option.bind (gi l45 (IntKind.wrap .i64 (x_3 + x_9))) fun y47 => Option.bind (some (List.set l45 (Int.toNat (IntKind.wrap .i64 (x_3 + x_9))) y29)) fun l56 => (go (.l0 l56 x_2 x_3 x_9))) else (some (a_0))
attribute [local irreducible] cmp_Less_110 in
theorem sq126.l0_k.mono : MonoF (β := fun _ => ((List ByteArray))) sq126.l0_k.body := fun f g hfg p => match p with
  | .l0 a_0 x_2 x_3 x_8 => LeO.ite (LeO.refl _) (LeO.ite (LeO.bind (LeO.refl _) fun y1 => LeO.bind (LeO.refl _) fun y8 => LeO.bind (LeO.refl _) fun y15 => (hfg _)) ((hfg _)))
  | .j1 a_0 x_2 x_3 x_8 x_9 b_36 => LeO.ite ((hfg _)) ((hfg _))
  | .j0 a_0 x_2 x_3 x_8 x_9 => LeO.bind (LeO.refl _) fun y1 => LeO.bind (LeO.refl _) fun y8 => LeO.bind (LeO.refl _) fun y15 => LeO.ite (LeO.bind (LeO.refl _) fun y22 => LeO.bind (LeO.refl _) fun y29 => LeO.bind (LeO.refl _) fun y36 => LeO.bind (LeO.refl _) fun l45 => LeO.bind (LeO.refl _) fun y47 => LeO.bind (LeO.refl _) fun l56 => (hfg _)) (LeO.refl _)
noncomputable def sq126.l0_k.go (p : sq126.l0_k.Pt) : Option ((List ByteArray)) := fixF (β := fun _ => ((List ByteArray))) sq126.l0_k.body p
noncomputable def sq126.l0 (a_0 x_2 x_3 x_8) := sq126.l0_k.go (.l0 a_0 x_2 x_3 x_8)
noncomputable def sq126.j1 (a_0 x_2 x_3 x_8 x_9 b_36) := sq126.l0_k.go (.j1 a_0 x_2 x_3 x_8 x_9 b_36)
noncomputable def sq126.j0 (a_0 x_2 x_3 x_8 x_9) := sq126.l0_k.go (.j0 a_0 x_2 x_3 x_8 x_9)
theorem sq126.l0_eq (a_0 x_2 x_3 x_8) : sq126.l0 a_0 x_2 x_3 x_8 = if (IntKind.wrap .i64 ((IntKind.wrap .i64 ((2 : Int) * x_8)) + (1 : Int))) ≥ x_2 then (some (a_0)) else (if (IntKind.wrap .i64 ((IntKind.wrap .i64 ((IntKind.wrap .i64 ((2 : Int) * x_8)) + (1 : Int))) + (1 : Int))) < x_2 then (Option.bind (gi a_0 (IntKind.wrap .i64 (x_3 + (IntKind.wrap .i64 ((IntKind.wrap .i64 ((2 : Int) * x_8)) + (1 : Int)))))) fun y1 => Option.bind (gi a_0 (IntKind.wrap .i64 ((IntKind.wrap .i64 (x_3 + (IntKind.wrap .i64 ((IntKind.wrap .i64 ((2 : Int) * x_8)) + (1 : Int))))) + (1 : Int)))) fun y8 => Option.bind (cmp_Less_110 y1 y8) fun y15 => (sq126.j1 a_0 x_2 x_3 x_8 (IntKind.wrap .i64 ((IntKind.wrap .i64 ((2 : Int) * x_8)) + (1 : Int))) y15)) else ((sq126.j1 a_0 x_2 x_3 x_8 (IntKind.wrap .i64 ((IntKind.wrap .i64 ((2 : Int) * x_8)) + (1 : Int))) false))) := fixF_eq sq126.l0_k.mono _
theorem sq126.j1_eq (a_0 x_2 x_3 x_8 x_9 b_36) : sq126.j1 a_0 x_2 x_3 x_8 x_9 b_36 = if b_36 = true then ((sq126.j0 a_0 x_2 x_3 x_8 (IntKind.wrap .i64 (x_9 + (1 : Int))))) else ((sq126.j0 a_0 x_2 x_3 x_8 x_9)) := fixF_eq sq126.l0_k.mono _
theorem sq126.j0_eq (a_0 x_2 x_3 x_8 x_9) : sq126.j0 a_0 x_2 x_3 x_8 x_9 = Option.bind (gi a_0 (IntKind.wrap .i64 (x_3 + x_8))) fun y1 => Option.bind (gi a_0 (IntKind.wrap .i64 (x_3 + x_9))) fun y8 => Option.bind (cmp_Less_110 y1 y8) fun y15 => if y15 = true then (Option.bind (gi a_0 (IntKind.wrap .i64 (x_3 + x_9))) fun y22 => Option.bind (gi a_0 (IntKind.wrap .i64 (x_3 + x_8))) fun y29 => Option.bind (gi a_0 (IntKind.wrap .i64 (x_3 + x_8))) fun y36 => Option.bind (some (List.set a_0 (Int.toNat (IntKind.wrap .i64 (x_3 + x_8))) y22)) fun l45 => Option.bind (gi l45 (IntKind.wrap .i64 (x_3 + x_9))) fun y47 => Option.bind (some (List.set l45 (Int.toNat (IntKind.wrap .i64 (x_3 + x_9))) y29)) fun l56 => (sq126.l0 l56 x_2 x_3 x_9)) else (some (a_0)) := fixF_eq sq126.l0_k.mono _
def sq126.l0_k.I : (p : sq126.l0_k.Pt) → ((List ByteArray)) → Prop
  | .l0 a_0 x_2 x_3 x_8, r => ∀ {W h0 m0 h m A_0 n_0 c_0} (O : Hold W h0 m0 h m [rR (aE tell_str) A_0 c_0 a_0]) (ne_0 : n_0 = List.length a_0), f126.l0 (sq126.post W A_0 n_0 c_0 h0 m0 r) A_0 n_0 c_0 x_2 x_3 x_8 h
  | .j1 a_0 x_2 x_3 x_8 x_9 b_36, r => ∀ {W h0 m0 h m A_0 n_0 c_0} (O : Hold W h0 m0 h m [rR (aE tell_str) A_0 c_0 a_0]) (ne_0 : n_0 = List.length a_0), f126.j1 (sq126.post W A_0 n_0 c_0 h0 m0 r) A_0 n_0 c_0 x_2 x_3 x_8 x_9 b_36 h
  | .j0 a_0 x_2 x_3 x_8 x_9, r => ∀ {W h0 m0 h m A_0 n_0 c_0} (O : Hold W h0 m0 h m [rR (aE tell_str) A_0 c_0 a_0]) (ne_0 : n_0 = List.length a_0), f126.j0 (sq126.post W A_0 n_0 c_0 h0 m0 r) A_0 n_0 c_0 x_2 x_3 x_8 x_9 h
theorem sq126.l0_k.step_l0 (go : (p : sq126.l0_k.Pt) → Option ((List ByteArray))) (ih : ∀ p r, go p = some r → sq126.l0_k.I p r) (a_0 x_2 x_3 x_8) (r) (e : sq126.l0_k.body go (.l0 a_0 x_2 x_3 x_8) = some r) : sq126.l0_k.I (.l0 a_0 x_2 x_3 x_8) r := by
  unfold sq126.l0_k.body at e
  intro W h0 m0 h m A_0 n_0 c_0 O ne_0
  subst ne_0
  refine f126.l0_in ?_
  unfold f126.l0T
  refine split_dec_e e (fun c23 e => ?_) (fun c23 e => ?_)
  · cases e
    exact ⟨_, O.pick [0], rfl, rfl⟩
  · refine split_dec_e e (fun c22 e => ?_) (fun c22 e => ?_)
    · obtain ⟨y1, g2, e⟩ := bind_e e
      refine (O.os 0 rfl).addr rfl g2 fun a3 cs4 ha5 hc6 he7 => ?_
      obtain rfl : cs4 = [(Value.string y1)] := he7
      obtain ⟨y8, g9, e⟩ := bind_e e
      refine (O.os 0 rfl).addr rfl g9 fun a10 cs11 ha12 hc13 he14 => ?_
      obtain rfl : cs11 = [(Value.string y8)] := he14
      refine ⟨_, ld0 (Sub.refl _) hc6 rfl, _, rfl, ?_⟩
      refine ⟨_, ld0 (Sub.refl _) hc13 rfl, _, rfl, ?_⟩
      obtain ⟨y15, g16, e⟩ := bind_e e
      refine (cmp_Less_110.walk (Hold.start (W := No) O.s)  g16).mono ?_
      rintro _ h17 ⟨m18, Q19, rfl⟩
      have O21 := Hold.nm (O.retC Q19 vfs_nil)
      refine ⟨_, rfl, ?_⟩
      exact (ih _ _ e) (O21.pick [0]).nm rfl
    · exact (ih _ _ e) (O.pick [0]).nm rfl
theorem sq126.l0_k.step_j1 (go : (p : sq126.l0_k.Pt) → Option ((List ByteArray))) (ih : ∀ p r, go p = some r → sq126.l0_k.I p r) (a_0 x_2 x_3 x_8 x_9 b_36) (r) (e : sq126.l0_k.body go (.j1 a_0 x_2 x_3 x_8 x_9 b_36) = some r) : sq126.l0_k.I (.j1 a_0 x_2 x_3 x_8 x_9 b_36) r := by
  unfold sq126.l0_k.body at e
  intro W h0 m0 h m A_0 n_0 c_0 O ne_0
  subst ne_0
  refine f126.j1_in ?_
  unfold f126.j1T
  refine split_any_e e (fun c1 e => ?_) (fun c1 e => ?_)
  · exact (ih _ _ e) (O.pick [0]).nm rfl
  · exact (ih _ _ e) (O.pick [0]).nm rfl
set_option maxHeartbeats 4000000 in
theorem sq126.l0_k.step_j0 (go : (p : sq126.l0_k.Pt) → Option ((List ByteArray))) (ih : ∀ p r, go p = some r → sq126.l0_k.I p r) (a_0 x_2 x_3 x_8 x_9) (r) (e : sq126.l0_k.body go (.j0 a_0 x_2 x_3 x_8 x_9) = some r) : sq126.l0_k.I (.j0 a_0 x_2 x_3 x_8 x_9) r := by
  unfold sq126.l0_k.body at e
  intro W h0 m0 h m A_0 n_0 c_0 O ne_0
  subst ne_0
  refine f126.j0_in ?_
  unfold f126.j0T
  obtain ⟨y1, g2, e⟩ := bind_e e
  refine (O.os 0 rfl).addr rfl g2 fun a3 cs4 ha5 hc6 he7 => ?_
  obtain rfl : cs4 = [(Value.string y1)] := he7
  obtain ⟨y8, g9, e⟩ := bind_e e
  refine (O.os 0 rfl).addr rfl g9 fun a10 cs11 ha12 hc13 he14 => ?_
  obtain rfl : cs11 = [(Value.string y8)] := he14
  refine ⟨_, ld0 (Sub.refl _) hc6 rfl, _, rfl, ?_⟩
  refine ⟨_, ld0 (Sub.refl _) hc13 rfl, _, rfl, ?_⟩
  obtain ⟨y15, g16, e⟩ := bind_e e
  refine (cmp_Less_110.walk (Hold.start (W := No) O.s)  g16).mono ?_
  rintro _ h17 ⟨m18, Q19, rfl⟩
  have O21 := Hold.nm (O.retC Q19 vfs_nil)
  refine ⟨_, rfl, ?_⟩
  refine split_not ?_
  refine split_any_e e (fun c59 e => ?_) (fun c59 e => ?_)
  · obtain ⟨y22, g23, e⟩ := bind_e e
    refine (O21.os 0 rfl).addr rfl g23 fun a24 cs25 ha26 hc27 he28 => ?_
    obtain rfl : cs25 = [(Value.string y22)] := he28
    obtain ⟨y29, g30, e⟩ := bind_e e
    refine (O21.os 0 rfl).addr rfl g30 fun a31 cs32 ha33 hc34 he35 => ?_
    obtain rfl : cs32 = [(Value.string y29)] := he35
    refine ⟨_, ld0 (Sub.refl _) hc27 rfl, _, rfl, ?_⟩
    refine ⟨_, ld0 (Sub.refl _) hc34 rfl, _, rfl, ?_⟩
    obtain ⟨y36, g37, e⟩ := bind_e e
    refine (O21.os 0 rfl).addr rfl g37 fun a38 cs39 ha40 hc41 he42 => ?_
    obtain rfl : cs39 = [(Value.string y36)] := he42
    obtain ⟨l45, g46, e⟩ := bind_e e
    replace g46 := Option.some.inj g46
    refine O21.elst0 0 rfl g37 ha40 hc41 (by decide) (y' := y22) rfl trivial g46 fun h43 O44 => ?_
    obtain ⟨y47, g48, e⟩ := bind_e e
    refine (O44.os 0 rfl).addr (lset' g46) g48 fun a49 cs50 ha51 hc52 he53 => ?_
    obtain rfl : cs50 = [(Value.string y47)] := he53
    obtain ⟨l56, g57, e⟩ := bind_e e
    replace g57 := Option.some.inj g57
    refine O44.elst0 0 rfl g48 ha51 hc52 (by decide) (y' := y29) rfl trivial g57 fun h54 O55 => ?_
    have O58 := O55.nm
    exact (ih _ _ e) (O58.pick [0]).nm ((lset' g46).trans (lset' g57))
  · cases e
    exact ⟨_, O21.pick [0], rfl, rfl⟩
theorem sq126.l0_k.all {p : sq126.l0_k.Pt} {r : ((List ByteArray))} (e : sq126.l0_k.go p = some r) : sq126.l0_k.I p r := fixF_ind (β := fun _ => ((List ByteArray))) sq126.l0_k.mono (I := sq126.l0_k.I) (fun go ih p r e => match p with
  | .l0 a_0 x_2 x_3 x_8 => sq126.l0_k.step_l0 go ih a_0 x_2 x_3 x_8 r e
  | .j1 a_0 x_2 x_3 x_8 x_9 b_36 => sq126.l0_k.step_j1 go ih a_0 x_2 x_3 x_8 x_9 b_36 r e
  | .j0 a_0 x_2 x_3 x_8 x_9 => sq126.l0_k.step_j0 go ih a_0 x_2 x_3 x_8 x_9 r e
  ) e
noncomputable def sq126 (a_0 : List ByteArray) (x_1 : Int) (x_2 : Int) (x_3 : Int) : Option ((List ByteArray)) :=
  (sq126.l0 a_0 x_2 x_3 x_1)
theorem sq126.walk {W h m A_0 n_0 c_0 a_0 x_1 x_2 x_3} (O : Hold W h m h m [rR (aE tell_str) A_0 c_0 a_0]) (ne_0 : n_0 = List.length a_0) {r} (e : sq126 a_0 x_1 x_2 x_3 = some r) : Run Tryd.prog 126 #[Value.slice A_0 n_0 c_0, Value.int .i64 x_1, Value.int .i64 x_2, Value.int .i64 x_3] h (sq126.post W A_0 n_0 c_0 h m r) := by
  unfold sq126 at e
  subst ne_0
  refine f126.run ?_
  unfold f126.runT
  exact (sq126.l0_k.all e) (O.pick [0]).nm rfl
def sq105.post (W : Nat → Prop) (Asl0 : Option Addr) (nsl0 csl0 : Nat) (h0 m0 : Heap) (r : (List ByteArray)) (v : Value) (h : Heap) : Prop := ∃ m , Hold W h0 m0 h m [rR (aE tell_str) Asl0 csl0 r] ∧ v = .tuple #[] ∧ nsl0 = List.length r
inductive sq105.l1_k.Pt where
  | l1 (a_0 : List ByteArray) (x_6 : Int) (x_7 : Int) (x_10 : Int)
noncomputable def sq105.l1_k.body (go : (p : sq105.l1_k.Pt) → Option ((List ByteArray))) : (p : sq105.l1_k.Pt) → Option ((List ByteArray))
  | .l1 a_0 x_6 x_7 x_10 => if x_10 ≥ (0 : Int) then (Option.bind (gi a_0 (IntKind.wrap .i64 (x_6 + x_10))) fun y1 => Option.bind (gi a_0 x_6) fun y8 => Option.bind (gi a_0 x_6) fun y15 => Option.bind (some (List.set a_0 (Int.toNat x_6) y1)) fun l24 => Option.bind (gi l24 (IntKind.wrap .i64 (x_6 + x_10))) fun y26 => Option.bind (some (List.set l24 (Int.toNat (IntKind.wrap .i64 (x_6 + x_10))) y8)) fun l35 => Option.bind (sq126 l35 x_7 x_10 x_6) fun y37 => (go (.l1 y37 x_6 x_7 (IntKind.wrap .i64 (x_10 - (1 : Int)))))) else (some (a_0))
theorem sq105.l1_k.mono : MonoF (β := fun _ => ((List ByteArray))) sq105.l1_k.body := fun f g hfg p => match p with
  | .l1 a_0 x_6 x_7 x_10 => LeO.ite (LeO.bind (LeO.refl _) fun y1 => LeO.bind (LeO.refl _) fun y8 => LeO.bind (LeO.refl _) fun y15 => LeO.bind (LeO.refl _) fun l24 => LeO.bind (LeO.refl _) fun y26 => LeO.bind (LeO.refl _) fun l35 => LeO.bind (LeO.refl _) fun y37 => (hfg _)) (LeO.refl _)
noncomputable def sq105.l1_k.go (p : sq105.l1_k.Pt) : Option ((List ByteArray)) := fixF (β := fun _ => ((List ByteArray))) sq105.l1_k.body p
noncomputable def sq105.l1 (a_0 x_6 x_7 x_10) := sq105.l1_k.go (.l1 a_0 x_6 x_7 x_10)
theorem sq105.l1_eq (a_0 x_6 x_7 x_10) : sq105.l1 a_0 x_6 x_7 x_10 = if x_10 ≥ (0 : Int) then (Option.bind (gi a_0 (IntKind.wrap .i64 (x_6 + x_10))) fun y1 => Option.bind (gi a_0 x_6) fun y8 => Option.bind (gi a_0 x_6) fun y15 => Option.bind (some (List.set a_0 (Int.toNat x_6) y1)) fun l24 => Option.bind (gi l24 (IntKind.wrap .i64 (x_6 + x_10))) fun y26 => Option.bind (some (List.set l24 (Int.toNat (IntKind.wrap .i64 (x_6 + x_10))) y8)) fun l35 => Option.bind (sq126 l35 x_7 x_10 x_6) fun y37 => (sq105.l1 y37 x_6 x_7 (IntKind.wrap .i64 (x_10 - (1 : Int))))) else (some (a_0)) := fixF_eq sq105.l1_k.mono _
def sq105.l1_k.I : (p : sq105.l1_k.Pt) → ((List ByteArray)) → Prop
  | .l1 a_0 x_6 x_7 x_10, r => ∀ {W h0 m0 h m A_0 n_0 c_0} (O : Hold W h0 m0 h m [rR (aE tell_str) A_0 c_0 a_0]) (ne_0 : n_0 = List.length a_0), f105.l1 (sq105.post W A_0 n_0 c_0 h0 m0 r) A_0 n_0 c_0 x_6 x_7 x_10 h
set_option maxHeartbeats 4000000 in
theorem sq105.l1_k.step_l1 (go : (p : sq105.l1_k.Pt) → Option ((List ByteArray))) (ih : ∀ p r, go p = some r → sq105.l1_k.I p r) (a_0 x_6 x_7 x_10) (r) (e : sq105.l1_k.body go (.l1 a_0 x_6 x_7 x_10) = some r) : sq105.l1_k.I (.l1 a_0 x_6 x_7 x_10) r := by
  unfold sq105.l1_k.body at e
  intro W h0 m0 h m A_0 n_0 c_0 O ne_0
  subst ne_0
  refine f105.l1_in ?_
  unfold f105.l1T
  refine split_dec_e e (fun c50 e => ?_) (fun c50 e => ?_)
  · obtain ⟨y1, g2, e⟩ := bind_e e
    refine (O.os 0 rfl).addr rfl g2 fun a3 cs4 ha5 hc6 he7 => ?_
    obtain rfl : cs4 = [(Value.string y1)] := he7
    obtain ⟨y8, g9, e⟩ := bind_e e
    refine (O.os 0 rfl).addr rfl g9 fun a10 cs11 ha12 hc13 he14 => ?_
    obtain rfl : cs11 = [(Value.string y8)] := he14
    refine ⟨_, ld0 (Sub.refl _) hc6 rfl, _, rfl, ?_⟩
    refine ⟨_, ld0 (Sub.refl _) hc13 rfl, _, rfl, ?_⟩
    obtain ⟨y15, g16, e⟩ := bind_e e
    refine (O.os 0 rfl).addr rfl g16 fun a17 cs18 ha19 hc20 he21 => ?_
    obtain rfl : cs18 = [(Value.string y15)] := he21
    obtain ⟨l24, g25, e⟩ := bind_e e
    replace g25 := Option.some.inj g25
    refine O.elst0 0 rfl g16 ha19 hc20 (by decide) (y' := y1) rfl trivial g25 fun h22 O23 => ?_
    obtain ⟨y26, g27, e⟩ := bind_e e
    refine (O23.os 0 rfl).addr (lset' g25) g27 fun a28 cs29 ha30 hc31 he32 => ?_
    obtain rfl : cs29 = [(Value.string y26)] := he32
    obtain ⟨l35, g36, e⟩ := bind_e e
    replace g36 := Option.some.inj g36
    refine O23.elst0 0 rfl g27 ha30 hc31 (by decide) (y' := y8) rfl trivial g36 fun h33 O34 => ?_
    obtain ⟨y37, g38, e⟩ := bind_e e
    have O43 := O34.nm
    obtain ⟨W44, P45, B46, C47⟩ := O43.callC [0]
    refine (sq126.walk P45 ((lset' g25).trans (lset' g36)) g38).mono ?_
    rintro _ h39 ⟨m40, Q41, rfl, hl48⟩
    have O49 := Hold.nm (C47 Q41 (vfs_cons (rR_vf (aE_vf (fun _ _ _ _ h => h))) vfs_nil))
    refine ⟨rfl, ?_⟩
    exact (ih _ _ e) (O49.pick [1]).nm hl48
  · cases e
    exact ⟨_, O.pick [0], rfl, rfl⟩
theorem sq105.l1_k.all {p : sq105.l1_k.Pt} {r : ((List ByteArray))} (e : sq105.l1_k.go p = some r) : sq105.l1_k.I p r := fixF_ind (β := fun _ => ((List ByteArray))) sq105.l1_k.mono (I := sq105.l1_k.I) (fun go ih p r e => match p with
  | .l1 a_0 x_6 x_7 x_10 => sq105.l1_k.step_l1 go ih a_0 x_6 x_7 x_10 r e
  ) e
inductive sq105.l0_k.Pt where
  | l0 (a_0 : List ByteArray) (x_6 : Int) (x_7 : Int) (x_8 : Int) (x_9 : Int)
noncomputable def sq105.l0_k.body (go : (p : sq105.l0_k.Pt) → Option ((List ByteArray))) : (p : sq105.l0_k.Pt) → Option ((List ByteArray))
  | .l0 a_0 x_6 x_7 x_8 x_9 => if x_9 ≥ (0 : Int) then (Option.bind (sq126 a_0 x_9 x_8 x_6) fun y1 => (go (.l0 y1 x_6 x_7 x_8 (IntKind.wrap .i64 (x_9 - (1 : Int)))))) else ((sq105.l1 a_0 x_6 x_7 (IntKind.wrap .i64 (x_8 - (1 : Int)))))
theorem sq105.l0_k.mono : MonoF (β := fun _ => ((List ByteArray))) sq105.l0_k.body := fun f g hfg p => match p with
  | .l0 a_0 x_6 x_7 x_8 x_9 => LeO.ite (LeO.bind (LeO.refl _) fun y1 => (hfg _)) ((LeO.refl _))
noncomputable def sq105.l0_k.go (p : sq105.l0_k.Pt) : Option ((List ByteArray)) := fixF (β := fun _ => ((List ByteArray))) sq105.l0_k.body p
noncomputable def sq105.l0 (a_0 x_6 x_7 x_8 x_9) := sq105.l0_k.go (.l0 a_0 x_6 x_7 x_8 x_9)
theorem sq105.l0_eq (a_0 x_6 x_7 x_8 x_9) : sq105.l0 a_0 x_6 x_7 x_8 x_9 = if x_9 ≥ (0 : Int) then (Option.bind (sq126 a_0 x_9 x_8 x_6) fun y1 => (sq105.l0 y1 x_6 x_7 x_8 (IntKind.wrap .i64 (x_9 - (1 : Int))))) else ((sq105.l1 a_0 x_6 x_7 (IntKind.wrap .i64 (x_8 - (1 : Int))))) := fixF_eq sq105.l0_k.mono _
def sq105.l0_k.I : (p : sq105.l0_k.Pt) → ((List ByteArray)) → Prop
  | .l0 a_0 x_6 x_7 x_8 x_9, r => ∀ {W h0 m0 h m A_0 n_0 c_0} (O : Hold W h0 m0 h m [rR (aE tell_str) A_0 c_0 a_0]) (ne_0 : n_0 = List.length a_0), f105.l0 (sq105.post W A_0 n_0 c_0 h0 m0 r) A_0 n_0 c_0 x_6 x_7 x_8 x_9 h
theorem sq105.l0_k.step_l0 (go : (p : sq105.l0_k.Pt) → Option ((List ByteArray))) (ih : ∀ p r, go p = some r → sq105.l0_k.I p r) (a_0 x_6 x_7 x_8 x_9) (r) (e : sq105.l0_k.body go (.l0 a_0 x_6 x_7 x_8 x_9) = some r) : sq105.l0_k.I (.l0 a_0 x_6 x_7 x_8 x_9) r := by
  unfold sq105.l0_k.body at e
  intro W h0 m0 h m A_0 n_0 c_0 O ne_0
  subst ne_0
  refine f105.l0_in ?_
  unfold f105.l0T
  refine split_dec_e e (fun c13 e => ?_) (fun c13 e => ?_)
  · obtain ⟨y1, g2, e⟩ := bind_e e
    obtain ⟨W7, P8, B9, C10⟩ := O.callC [0]
    refine (sq126.walk P8 rfl g2).mono ?_
    rintro _ h3 ⟨m4, Q5, rfl, hl11⟩
    have O12 := Hold.nm (C10 Q5 (vfs_cons (rR_vf (aE_vf (fun _ _ _ _ h => h))) vfs_nil))
    refine ⟨rfl, ?_⟩
    exact (ih _ _ e) (O12.pick [1]).nm hl11
  · exact (sq105.l1_k.all e) (O.pick [0]).nm rfl
theorem sq105.l0_k.all {p : sq105.l0_k.Pt} {r : ((List ByteArray))} (e : sq105.l0_k.go p = some r) : sq105.l0_k.I p r := fixF_ind (β := fun _ => ((List ByteArray))) sq105.l0_k.mono (I := sq105.l0_k.I) (fun go ih p r e => match p with
  | .l0 a_0 x_6 x_7 x_8 x_9 => sq105.l0_k.step_l0 go ih a_0 x_6 x_7 x_8 x_9 r e
  ) e
noncomputable def sq105 (a_0 : List ByteArray) (x_1 : Int) (x_2 : Int) : Option ((List ByteArray)) :=
  (sq105.l0 a_0 x_1 (0 : Int) (IntKind.wrap .i64 (x_2 - x_1)) (IntKind.wrap .i64 (Int.tdiv (IntKind.wrap .i64 ((IntKind.wrap .i64 (x_2 - x_1)) - (1 : Int))) (2 : Int))))
theorem sq105.walk {W h m A_0 n_0 c_0 a_0 x_1 x_2} (O : Hold W h m h m [rR (aE tell_str) A_0 c_0 a_0]) (ne_0 : n_0 = List.length a_0) {r} (e : sq105 a_0 x_1 x_2 = some r) : Run Tryd.prog 105 #[Value.slice A_0 n_0 c_0, Value.int .i64 x_1, Value.int .i64 x_2] h (sq105.post W A_0 n_0 c_0 h m r) := by
  unfold sq105 at e
  subst ne_0
  refine f105.run ?_
  unfold f105.runT
  refine ⟨by decide, ?_⟩
  exact (sq105.l0_k.all e) (O.pick [0]).nm rfl
def math_bits_Len64.post (W : Nat → Prop) (h0 m0 : Heap) (r : Int) (v : Value) (h : Heap) : Prop := ∃ m , Hold W h0 m0 h m [] ∧ v = .int .i64 r
noncomputable def math_bits_Len64.j2 (x_0 : Int) (x_2 : Int) : Option (Int) :=
  Option.bind (gb (ByteArray.mk #[0, 1, 2, 2, 3, 3, 3, 3, 4, 4, 4, 4, 4, 4, 4, 4, 5, 5, 5, 5, 5, 5, 5, 5, 5, 5, 5, 5, 5, 5, 5, 5, 6, 6, 6, 6, 6, 6, 6, 6, 6, 6, 6, 6, 6, 6, 6, 6, 6, 6, 6, 6, 6, 6, 6, 6, 6, 6, 6, 6, 6, 6, 6, 6, 7, 7, 7, 7, 7, 7, 7, 7, 7, 7, 7, 7, 7, 7, 7, 7, 7, 7, 7, 7, 7, 7, 7, 7, 7, 7, 7, 7, 7, 7, 7, 7, 7, 7, 7, 7, 7, 7, 7, 7, 7, 7, 7, 7, 7, 7, 7, 7, 7, 7, 7, 7, 7, 7, 7, 7, 7, 7, 7, 7, 7, 7, 7, 7, 8, 8, 8, 8, 8, 8, 8, 8, 8, 8, 8, 8, 8, 8, 8, 8, 8, 8, 8, 8, 8, 8, 8, 8, 8, 8, 8, 8, 8, 8, 8, 8, 8, 8, 8, 8, 8, 8, 8, 8, 8, 8, 8, 8, 8, 8, 8, 8, 8, 8, 8, 8, 8, 8, 8, 8, 8, 8, 8, 8, 8, 8, 8, 8, 8, 8, 8, 8, 8, 8, 8, 8, 8, 8, 8, 8, 8, 8, 8, 8, 8, 8, 8, 8, 8, 8, 8, 8, 8, 8, 8, 8, 8, 8, 8, 8, 8, 8, 8, 8, 8, 8, 8, 8, 8, 8, 8, 8, 8, 8, 8, 8, 8, 8, 8, 8, 8, 8, 8, 8, 8, 8, 8, 8, 8, 8, 8, 8]) (IntKind.wrap .u8 x_0)) fun y1 => some ((IntKind.wrap .i64 (x_2 + (IntKind.wrap .i64 y1))))
theorem math_bits_Len64.j2.walk {W h0 m0 h m x_0 x_2} (O : Hold W h0 m0 h m []) {r} (e : math_bits_Len64.j2 x_0 x_2 = some r) : f114.j2 (math_bits_Len64.post W h0 m0 r) x_0 x_2 h := by
  unfold math_bits_Len64.j2 at e
  refine f114.j2_in ?_
  unfold f114.j2T
  obtain ⟨y1, g2, e⟩ := bind_e e
  obtain ⟨q3, b4, q5, q6⟩ := gb_e g2
  refine ⟨q3, _, q5, ?_⟩
  try rw [← q6]
  cases e
  exact ⟨_, O.pick [], rfl⟩
noncomputable def math_bits_Len64.j1 (x_0 : Int) (x_2 : Int) : Option (Int) :=
  if x_0 ≥ (256 : Int) then ((math_bits_Len64.j2 (shrI .u64 x_0 (8 : Int)) (IntKind.wrap .i64 (x_2 + (8 : Int))))) else ((math_bits_Len64.j2 x_0 x_2))
theorem math_bits_Len64.j1.walk {W h0 m0 h m x_0 x_2} (O : Hold W h0 m0 h m []) {r} (e : math_bits_Len64.j1 x_0 x_2 = some r) : f114.j1 (math_bits_Len64.post W h0 m0 r) x_0 x_2 h := by
  unfold math_bits_Len64.j1 at e
  refine f114.j1_in ?_
  unfold f114.j1T
  refine split_dec_e e (fun c1 e => ?_) (fun c1 e => ?_)
  · refine ⟨by decide, ?_⟩
    exact math_bits_Len64.j2.walk (O.pick []).nm  e
  · exact math_bits_Len64.j2.walk (O.pick []).nm  e
noncomputable def math_bits_Len64.j0 (x_0 : Int) (x_2 : Int) : Option (Int) :=
  if x_0 ≥ (65536 : Int) then ((math_bits_Len64.j1 (shrI .u64 x_0 (16 : Int)) (IntKind.wrap .i64 (x_2 + (16 : Int))))) else ((math_bits_Len64.j1 x_0 x_2))
theorem math_bits_Len64.j0.walk {W h0 m0 h m x_0 x_2} (O : Hold W h0 m0 h m []) {r} (e : math_bits_Len64.j0 x_0 x_2 = some r) : f114.j0 (math_bits_Len64.post W h0 m0 r) x_0 x_2 h := by
  unfold math_bits_Len64.j0 at e
  refine f114.j0_in ?_
  unfold f114.j0T
  refine split_dec_e e (fun c1 e => ?_) (fun c1 e => ?_)
  · refine ⟨by decide, ?_⟩
    exact math_bits_Len64.j1.walk (O.pick []).nm  e
  · exact math_bits_Len64.j1.walk (O.pick []).nm  e
noncomputable def math_bits_Len64 (x_0 : Int) : Option (Int) :=
  if x_0 ≥ (4294967296 : Int) then ((math_bits_Len64.j0 (shrI .u64 x_0 (32 : Int)) (32 : Int))) else ((math_bits_Len64.j0 x_0 (0 : Int)))
theorem math_bits_Len64.walk {W h m x_0} (O : Hold W h m h m []) {r} (e : math_bits_Len64 x_0 = some r) : Run Tryd.prog 114 #[Value.int .u64 x_0] h (math_bits_Len64.post W h m r) := by
  unfold math_bits_Len64 at e
  refine f114.run ?_
  unfold f114.runT
  refine split_dec_e e (fun c1 e => ?_) (fun c1 e => ?_)
  · refine ⟨by decide, ?_⟩
    exact math_bits_Len64.j0.walk (O.pick []).nm  e
  · exact math_bits_Len64.j0.walk (O.pick []).nm  e
def math_bits_Len.post (W : Nat → Prop) (h0 m0 : Heap) (r : Int) (v : Value) (h : Heap) : Prop := ∃ m , Hold W h0 m0 h m [] ∧ v = .int .i64 r
noncomputable def math_bits_Len (x_0 : Int) : Option (Int) :=
  Option.bind (math_bits_Len64 x_0) fun y1 => some (y1)
theorem math_bits_Len.walk {W h m x_0} (O : Hold W h m h m []) {r} (e : math_bits_Len x_0 = some r) : Run Tryd.prog 87 #[Value.int .u64 x_0] h (math_bits_Len.post W h m r) := by
  unfold math_bits_Len at e
  refine f87.run ?_
  unfold f87.runT
  obtain ⟨y1, g2, e⟩ := bind_e e
  refine (math_bits_Len64.walk (Hold.start (W := No) O.s)  g2).mono ?_
  rintro _ h3 ⟨m4, Q5, rfl⟩
  have O7 := Hold.nm (O.retC Q5 vfs_nil)
  refine ⟨_, rfl, ?_⟩
  cases e
  exact ⟨_, O7.pick [], rfl⟩
def slices_nextPowerOfTwo.post (W : Nat → Prop) (h0 m0 : Heap) (r : Int) (v : Value) (h : Heap) : Prop := ∃ m , Hold W h0 m0 h m [] ∧ v = .int .u64 r
noncomputable def slices_nextPowerOfTwo (x_0 : Int) : Option (Int) :=
  Option.bind (math_bits_Len (IntKind.wrap .u64 x_0)) fun y1 => if 0 ≤ y1 then (some ((shlI .u64 (1 : Int) y1))) else none
theorem slices_nextPowerOfTwo.walk {W h m x_0} (O : Hold W h m h m []) {r} (e : slices_nextPowerOfTwo x_0 = some r) : Run Tryd.prog 127 #[Value.int .i64 x_0] h (slices_nextPowerOfTwo.post W h m r) := by
  unfold slices_nextPowerOfTwo at e
  refine f127.run ?_
  unfold f127.runT
  obtain ⟨y1, g2, e⟩ := bind_e e
  refine (math_bits_Len.walk (Hold.start (W := No) O.s)  g2).mono ?_
  rintro _ h3 ⟨m4, Q5, rfl⟩
  have O7 := Hold.nm (O.retC Q5 vfs_nil)
  refine ⟨_, rfl, ?_⟩
  obtain ⟨g8, e⟩ := guard_e e
  refine ⟨g8, ?_⟩
  cases e
  exact ⟨_, O7.pick [], rfl⟩
def slices_xorshift_Next.post (W : Nat → Prop) (bkio0 : Nat) (h0 m0 : Heap) (r : Int × Int) (v : Value) (h : Heap) : Prop := ∃ m csio0, Hold W h0 m0 h m [rV bkio0 185 csio0] ∧ v = .int .u64 r.1 ∧ (eInt .u64) m r.2 csio0
noncomputable def slices_xorshift_Next (y_0 : Int) : Option (Int × Int) :=
  some ((bitsI .xor .u64 (bitsI .xor .u64 (bitsI .xor .u64 y_0 (shlI .u64 y_0 (13 : Int))) (shrI .u64 (bitsI .xor .u64 y_0 (shlI .u64 y_0 (13 : Int))) (7 : Int))) (shlI .u64 (bitsI .xor .u64 (bitsI .xor .u64 y_0 (shlI .u64 y_0 (13 : Int))) (shrI .u64 (bitsI .xor .u64 y_0 (shlI .u64 y_0 (13 : Int))) (7 : Int))) (17 : Int))), (bitsI .xor .u64 (bitsI .xor .u64 (bitsI .xor .u64 y_0 (shlI .u64 y_0 (13 : Int))) (shrI .u64 (bitsI .xor .u64 y_0 (shlI .u64 y_0 (13 : Int))) (7 : Int))) (shlI .u64 (bitsI .xor .u64 (bitsI .xor .u64 y_0 (shlI .u64 y_0 (13 : Int))) (shrI .u64 (bitsI .xor .u64 y_0 (shlI .u64 y_0 (13 : Int))) (7 : Int))) (17 : Int))))
theorem slices_xorshift_Next.walk {W h m bkio0 cs_0 y_0} (O : Hold W h m h m [rV bkio0 185 cs_0]) (e_0 : (eInt .u64) m y_0 cs_0) {r} (e : slices_xorshift_Next y_0 = some r) : Run Tryd.prog 128 #[Value.pointer (some ⟨bkio0, 0, none⟩)] h (slices_xorshift_Next.post W bkio0 h m r) := by
  unfold slices_xorshift_Next at e
  obtain rfl : cs_0 = [(Value.int .u64 y_0)] := e_0
  refine f128.run ?_
  unfold f128.runT
  refine ⟨_, ld0 (Sub.refl _) (O.all 0 rfl) rfl, _, rfl, ?_⟩
  refine ⟨_, ld0 (Sub.refl _) (O.all 0 rfl) rfl, _, rfl, ?_⟩
  refine ⟨by decide, ?_⟩
  refine O.st0 0 rfl (Nat.le_of_ble_eq_true rfl) trivial fun h1 O2 => ?_
  refine ⟨_, ld0 (Sub.refl _) (O2.all 0 rfl) rfl, _, rfl, ?_⟩
  refine ⟨_, ld0 (Sub.refl _) (O2.all 0 rfl) rfl, _, rfl, ?_⟩
  refine ⟨by decide, ?_⟩
  refine O2.st0 0 rfl (Nat.le_of_ble_eq_true rfl) trivial fun h3 O4 => ?_
  refine ⟨_, ld0 (Sub.refl _) (O4.all 0 rfl) rfl, _, rfl, ?_⟩
  refine ⟨_, ld0 (Sub.refl _) (O4.all 0 rfl) rfl, _, rfl, ?_⟩
  refine ⟨by decide, ?_⟩
  refine O4.st0 0 rfl (Nat.le_of_ble_eq_true rfl) trivial fun h5 O6 => ?_
  refine ⟨_, ld0 (Sub.refl _) (O6.all 0 rfl) rfl, _, rfl, ?_⟩
  have O7 := O6.nm
  cases e
  exact ⟨_, _, O7.pick [0], rfl, rfl⟩
def sq106.post (W : Nat → Prop) (Asl0 : Option Addr) (nsl0 csl0 : Nat) (h0 m0 : Heap) (r : (List ByteArray)) (v : Value) (h : Heap) : Prop := ∃ m , Hold W h0 m0 h m [rR (aE tell_str) Asl0 csl0 r] ∧ v = .tuple #[] ∧ nsl0 = List.length r
inductive sq106.l0_k.Pt where
  | l0 (a_0 : List ByteArray) (x_1 : Int) (x_6 : Int) (y_7 : Int) (x_8 : Int) (x_9 : Int)
  | j1 (a_0 : List ByteArray) (x_1 : Int) (x_6 : Int) (y_7 : Int) (x_8 : Int) (x_9 : Int) (x_10 : Int)
  | j0 (a_0 : List ByteArray) (x_1 : Int) (x_6 : Int) (y_7 : Int) (x_8 : Int) (x_9 : Int)
noncomputable def sq106.l0_k.body (go : (p : sq106.l0_k.Pt) → Option ((List ByteArray))) : (p : sq106.l0_k.Pt) → Option ((List ByteArray))
  | .l0 a_0 x_1 x_6 y_7 x_8 x_9 => if x_9 ≤ (IntKind.wrap .i64 ((IntKind.wrap .i64 (x_1 + (IntKind.wrap .i64 ((IntKind.wrap .i64 (Int.tdiv x_6 (4 : Int))) * (2 : Int))))) + (1 : Int))) then (Option.bind (slices_xorshift_Next y_7) fun y1 => if (IntKind.wrap .i64 (bitsI .and .u64 y1.1 (IntKind.wrap .u64 (x_8 - (1 : Int))))) ≥ x_6 then ((go (.j1 a_0 x_1 x_6 y1.2 x_8 x_9 (IntKind.wrap .i64 ((IntKind.wrap .i64 (bitsI .and .u64 y1.1 (IntKind.wrap .u64 (x_8 - (1 : Int))))) - x_6))))) else ((go (.j1 a_0 x_1 x_6 y1.2 x_8 x_9 (IntKind.wrap .i64 (bitsI .and .u64 y1.1 (IntKind.wrap .u64 (x_8 - (1 : Int))))))))) else (some (a_0))
  | .j1 a_0 x_1 x_6 y_7 x_8 x_9 x_10 => Option.bind (gi a_0 (IntKind.wrap .i64 (x_1 + x_10))) fun y1 => Option.bind (gi a_0 x_9) fun y8 => Option.bind (gi a_0 x_9) fun y15 => Option.bind (some (List.set a_0 (Int.toNat x_9) y1)) fun l24 => Option.bind (gi l24 (IntKind.wrap .i64 (x_1 + x_10))) fun y26 => Option.bind (some (List.set l24 (Int.toNat (IntKind.wrap .i64 (x_1 + x_10))) y8)) fun l35 => (go (.j0 l35 x_1 x_6 y_7 x_8 x_9))
  | .j0 a_0 x_1 x_6 y_7 x_8 x_9 => (go (.l0 a_0 x_1 x_6 y_7 x_8 (IntKind.wrap .i64 (x_9 + (1 : Int)))))
attribute [local irreducible] slices_xorshift_Next in
theorem sq106.l0_k.mono : MonoF (β := fun _ => ((List ByteArray))) sq106.l0_k.body := fun f g hfg p => match p with
  | .l0 a_0 x_1 x_6 y_7 x_8 x_9 => LeO.ite (LeO.bind (LeO.refl _) fun y1 => LeO.ite ((hfg _)) ((hfg _))) (LeO.refl _)
  | .j1 a_0 x_1 x_6 y_7 x_8 x_9 x_10 => LeO.bind (LeO.refl _) fun y1 => LeO.bind (LeO.refl _) fun y8 => LeO.bind (LeO.refl _) fun y15 => LeO.bind (LeO.refl _) fun l24 => LeO.bind (LeO.refl _) fun y26 => LeO.bind (LeO.refl _) fun l35 => (hfg _)
  | .j0 a_0 x_1 x_6 y_7 x_8 x_9 => (hfg _)
noncomputable def sq106.l0_k.go (p : sq106.l0_k.Pt) : Option ((List ByteArray)) := fixF (β := fun _ => ((List ByteArray))) sq106.l0_k.body p
noncomputable def sq106.l0 (a_0 x_1 x_6 y_7 x_8 x_9) := sq106.l0_k.go (.l0 a_0 x_1 x_6 y_7 x_8 x_9)
noncomputable def sq106.j1 (a_0 x_1 x_6 y_7 x_8 x_9 x_10) := sq106.l0_k.go (.j1 a_0 x_1 x_6 y_7 x_8 x_9 x_10)
noncomputable def sq106.j0 (a_0 x_1 x_6 y_7 x_8 x_9) := sq106.l0_k.go (.j0 a_0 x_1 x_6 y_7 x_8 x_9)
theorem sq106.l0_eq (a_0 x_1 x_6 y_7 x_8 x_9) : sq106.l0 a_0 x_1 x_6 y_7 x_8 x_9 = if x_9 ≤ (IntKind.wrap .i64 ((IntKind.wrap .i64 (x_1 + (IntKind.wrap .i64 ((IntKind.wrap .i64 (Int.tdiv x_6 (4 : Int))) * (2 : Int))))) + (1 : Int))) then (Option.bind (slices_xorshift_Next y_7) fun y1 => if (IntKind.wrap .i64 (bitsI .and .u64 y1.1 (IntKind.wrap .u64 (x_8 - (1 : Int))))) ≥ x_6 then ((sq106.j1 a_0 x_1 x_6 y1.2 x_8 x_9 (IntKind.wrap .i64 ((IntKind.wrap .i64 (bitsI .and .u64 y1.1 (IntKind.wrap .u64 (x_8 - (1 : Int))))) - x_6)))) else ((sq106.j1 a_0 x_1 x_6 y1.2 x_8 x_9 (IntKind.wrap .i64 (bitsI .and .u64 y1.1 (IntKind.wrap .u64 (x_8 - (1 : Int)))))))) else (some (a_0)) := fixF_eq sq106.l0_k.mono _
theorem sq106.j1_eq (a_0 x_1 x_6 y_7 x_8 x_9 x_10) : sq106.j1 a_0 x_1 x_6 y_7 x_8 x_9 x_10 = Option.bind (gi a_0 (IntKind.wrap .i64 (x_1 + x_10))) fun y1 => Option.bind (gi a_0 x_9) fun y8 => Option.bind (gi a_0 x_9) fun y15 => Option.bind (some (List.set a_0 (Int.toNat x_9) y1)) fun l24 => Option.bind (gi l24 (IntKind.wrap .i64 (x_1 + x_10))) fun y26 => Option.bind (some (List.set l24 (Int.toNat (IntKind.wrap .i64 (x_1 + x_10))) y8)) fun l35 => (sq106.j0 l35 x_1 x_6 y_7 x_8 x_9) := fixF_eq sq106.l0_k.mono _
theorem sq106.j0_eq (a_0 x_1 x_6 y_7 x_8 x_9) : sq106.j0 a_0 x_1 x_6 y_7 x_8 x_9 = (sq106.l0 a_0 x_1 x_6 y_7 x_8 (IntKind.wrap .i64 (x_9 + (1 : Int)))) := fixF_eq sq106.l0_k.mono _
def sq106.l0_k.I : (p : sq106.l0_k.Pt) → ((List ByteArray)) → Prop
  | .l0 a_0 x_1 x_6 y_7 x_8 x_9, r => ∀ {W h0 m0 h m A_0 n_0 c_0 bk_7 cs_7} (O : Hold W h0 m0 h m [rR (aE tell_str) A_0 c_0 a_0, rV bk_7 185 cs_7]) (ne_0 : n_0 = List.length a_0) (e_7 : (eInt .u64) m y_7 cs_7), f106.l0 (sq106.post W A_0 n_0 c_0 h0 m0 r) A_0 n_0 c_0 x_1 x_6 (⟨bk_7, 0, none⟩ : Addr) x_8 x_9 h
  | .j1 a_0 x_1 x_6 y_7 x_8 x_9 x_10, r => ∀ {W h0 m0 h m A_0 n_0 c_0 bk_7 cs_7} (O : Hold W h0 m0 h m [rR (aE tell_str) A_0 c_0 a_0, rV bk_7 185 cs_7]) (ne_0 : n_0 = List.length a_0) (e_7 : (eInt .u64) m y_7 cs_7), f106.j1 (sq106.post W A_0 n_0 c_0 h0 m0 r) A_0 n_0 c_0 x_1 x_6 (⟨bk_7, 0, none⟩ : Addr) x_8 x_9 x_10 h
  | .j0 a_0 x_1 x_6 y_7 x_8 x_9, r => ∀ {W h0 m0 h m A_0 n_0 c_0 bk_7 cs_7} (O : Hold W h0 m0 h m [rR (aE tell_str) A_0 c_0 a_0, rV bk_7 185 cs_7]) (ne_0 : n_0 = List.length a_0) (e_7 : (eInt .u64) m y_7 cs_7), f106.j0 (sq106.post W A_0 n_0 c_0 h0 m0 r) A_0 n_0 c_0 x_1 x_6 (⟨bk_7, 0, none⟩ : Addr) x_8 x_9 h
theorem sq106.l0_k.step_l0 (go : (p : sq106.l0_k.Pt) → Option ((List ByteArray))) (ih : ∀ p r, go p = some r → sq106.l0_k.I p r) (a_0 x_1 x_6 y_7 x_8 x_9) (r) (e : sq106.l0_k.body go (.l0 a_0 x_1 x_6 y_7 x_8 x_9) = some r) : sq106.l0_k.I (.l0 a_0 x_1 x_6 y_7 x_8 x_9) r := by
  unfold sq106.l0_k.body at e
  intro W h0 m0 h m A_0 n_0 c_0 bk_7 cs_7 O ne_0 e_7
  subst ne_0
  obtain rfl : cs_7 = [(Value.int .u64 y_7)] := e_7
  refine f106.l0_in ?_
  unfold f106.l0T
  refine ⟨by decide, ?_⟩
  refine split_dec_e e (fun c16 e => ?_) (fun c16 e => ?_)
  · obtain ⟨y1, g2, e⟩ := bind_e e
    obtain ⟨W7, P8, B9, C10⟩ := O.callC [1]
    refine (slices_xorshift_Next.walk P8 rfl g2).mono ?_
    rintro _ h3 ⟨m4, cs12, Q5, rfl, he13⟩
    have O14 := Hold.nm (C10 Q5 (vfs_cons rV_vf vfs_nil))
    obtain rfl : cs12 = [(Value.int .u64 y1.2)] := he13
    refine ⟨_, rfl, ?_⟩
    refine split_dec_e e (fun c15 e => ?_) (fun c15 e => ?_)
    · exact (ih _ _ e) (O14.pick [0, 2]).nm rfl rfl
    · exact (ih _ _ e) (O14.pick [0, 2]).nm rfl rfl
  · cases e
    exact ⟨_, O.pick [0], rfl, rfl⟩
theorem sq106.l0_k.step_j1 (go : (p : sq106.l0_k.Pt) → Option ((List ByteArray))) (ih : ∀ p r, go p = some r → sq106.l0_k.I p r) (a_0 x_1 x_6 y_7 x_8 x_9 x_10) (r) (e : sq106.l0_k.body go (.j1 a_0 x_1 x_6 y_7 x_8 x_9 x_10) = some r) : sq106.l0_k.I (.j1 a_0 x_1 x_6 y_7 x_8 x_9 x_10) r := by
  unfold sq106.l0_k.body at e
  intro W h0 m0 h m A_0 n_0 c_0 bk_7 cs_7 O ne_0 e_7
  subst ne_0
  obtain rfl : cs_7 = [(Value.int .u64 y_7)] := e_7
  refine f106.j1_in ?_
  unfold f106.j1T
  obtain ⟨y1, g2, e⟩ := bind_e e
  refine (O.os 0 rfl).addr rfl g2 fun a3 cs4 ha5 hc6 he7 => ?_
  obtain rfl : cs4 = [(Value.string y1)] := he7
  obtain ⟨y8, g9, e⟩ := bind_e e
  refine (O.os 0 rfl).addr rfl g9 fun a10 cs11 ha12 hc13 he14 => ?_
  obtain rfl : cs11 = [(Value.string y8)] := he14
  refine ⟨_, ld0 (Sub.refl _) hc6 rfl, _, rfl, ?_⟩
  refine ⟨_, ld0 (Sub.refl _) hc13 rfl, _, rfl, ?_⟩
  obtain ⟨y15, g16, e⟩ := bind_e e
  refine (O.os 0 rfl).addr rfl g16 fun a17 cs18 ha19 hc20 he21 => ?_
  obtain rfl : cs18 = [(Value.string y15)] := he21
  obtain ⟨l24, g25, e⟩ := bind_e e
  replace g25 := Option.some.inj g25
  refine O.elst0 0 rfl g16 ha19 hc20 (by decide) (y' := y1) rfl trivial g25 fun h22 O23 => ?_
  obtain ⟨y26, g27, e⟩ := bind_e e
  refine (O23.os 0 rfl).addr (lset' g25) g27 fun a28 cs29 ha30 hc31 he32 => ?_
  obtain rfl : cs29 = [(Value.string y26)] := he32
  obtain ⟨l35, g36, e⟩ := bind_e e
  replace g36 := Option.some.inj g36
  refine O23.elst0 0 rfl g27 ha30 hc31 (by decide) (y' := y8) rfl trivial g36 fun h33 O34 => ?_
  have O37 := O34.nm
  exact (ih _ _ e) (O37.pick [0, 1]).nm ((lset' g25).trans (lset' g36)) rfl
theorem sq106.l0_k.step_j0 (go : (p : sq106.l0_k.Pt) → Option ((List ByteArray))) (ih : ∀ p r, go p = some r → sq106.l0_k.I p r) (a_0 x_1 x_6 y_7 x_8 x_9) (r) (e : sq106.l0_k.body go (.j0 a_0 x_1 x_6 y_7 x_8 x_9) = some r) : sq106.l0_k.I (.j0 a_0 x_1 x_6 y_7 x_8 x_9) r := by
  unfold sq106.l0_k.body at e
  intro W h0 m0 h m A_0 n_0 c_0 bk_7 cs_7 O ne_0 e_7
  subst ne_0
  obtain rfl : cs_7 = [(Value.int .u64 y_7)] := e_7
  refine f106.j0_in ?_
  unfold f106.j0T
  exact (ih _ _ e) (O.pick [0, 1]).nm rfl rfl
theorem sq106.l0_k.all {p : sq106.l0_k.Pt} {r : ((List ByteArray))} (e : sq106.l0_k.go p = some r) : sq106.l0_k.I p r := fixF_ind (β := fun _ => ((List ByteArray))) sq106.l0_k.mono (I := sq106.l0_k.I) (fun go ih p r e => match p with
  | .l0 a_0 x_1 x_6 y_7 x_8 x_9 => sq106.l0_k.step_l0 go ih a_0 x_1 x_6 y_7 x_8 x_9 r e
  | .j1 a_0 x_1 x_6 y_7 x_8 x_9 x_10 => sq106.l0_k.step_j1 go ih a_0 x_1 x_6 y_7 x_8 x_9 x_10 r e
  | .j0 a_0 x_1 x_6 y_7 x_8 x_9 => sq106.l0_k.step_j0 go ih a_0 x_1 x_6 y_7 x_8 x_9 r e
  ) e
noncomputable def sq106 (a_0 : List ByteArray) (x_1 : Int) (x_2 : Int) : Option ((List ByteArray)) :=
  if (IntKind.wrap .i64 (x_2 - x_1)) ≥ (8 : Int) then (Option.bind (slices_nextPowerOfTwo (IntKind.wrap .i64 (x_2 - x_1))) fun y7 => (sq106.l0 a_0 x_1 (IntKind.wrap .i64 (x_2 - x_1)) (IntKind.wrap .u64 (IntKind.wrap .i64 (x_2 - x_1))) y7 (IntKind.wrap .i64 ((IntKind.wrap .i64 (x_1 + (IntKind.wrap .i64 ((IntKind.wrap .i64 (Int.tdiv (IntKind.wrap .i64 (x_2 - x_1)) (4 : Int))) * (2 : Int))))) - (1 : Int))))) else (some (a_0))
theorem sq106.walk {W h m A_0 n_0 c_0 a_0 x_1 x_2} (O : Hold W h m h m [rR (aE tell_str) A_0 c_0 a_0]) (ne_0 : n_0 = List.length a_0) {r} (e : sq106 a_0 x_1 x_2 = some r) : Run Tryd.prog 106 #[Value.slice A_0 n_0 c_0, Value.int .i64 x_1, Value.int .i64 x_2] h (sq106.post W A_0 n_0 c_0 h m r) := by
  unfold sq106 at e
  subst ne_0
  refine f106.run ?_
  unfold f106.runT
  refine split_dec_e e (fun c14 e => ?_) (fun c14 e => ?_)
  · refine O.new fun h1 x2 O3 => ?_
    refine O3.st0 1 rfl (Nat.le_of_ble_eq_true rfl) trivial fun h5 O6 => ?_
    obtain ⟨y7, g8, e⟩ := bind_e e
    refine (slices_nextPowerOfTwo.walk (Hold.start (W := No) O6.s)  g8).mono ?_
    rintro _ h9 ⟨m10, Q11, rfl⟩
    have O13 := Hold.nm (O6.retC Q11 vfs_nil)
    refine ⟨_, rfl, ?_⟩
    refine ⟨by decide, ?_⟩
    exact (sq106.l0_k.all e) (O13.pick [0, 1]).nm rfl rfl
  · cases e
    exact ⟨_, O.pick [0], rfl, rfl⟩
end Go.Proofs.YtkbhpagogmmgnaaDoor.Fw

end
