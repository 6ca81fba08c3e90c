/- Part 4: what the law TreeTells needs, put together out of texts of this session. -/
import Derived.Test.YtnlocljmalhddabDoorZTreeTellsc
section
namespace Go.Proofs.YtnlocljmalhddabDoor.Fw
open Go Go.Hw Go.Proofs
set_option linter.unusedVariables false
set_option synthInstance.maxHeartbeats 400000
set_option synthInstance.maxSize 1000
abbrev TB (m : Heap) : Prop := TBg 0 m
structure T_api_Type where
  Kind : Int
  Name : ByteArray
  Args : (List T_api_Type)
def T_api_Type.E (h : Heap) : T_api_Type → List Value → Prop
  | ⟨f0, f1, f2⟩, cs => ∃ A2 c2, cs = [.int .i64 f0, .string f1, .slice A2 f2.length c2] ∧ f2.length ≤ c2 ∧ (∀ i (hi : i < f2.length), ∃ a ds, A2 = some a ∧ cellsH h (a.add (i * 3)) 0 3 = some ds ∧ T_api_Type.E h f2[i] ds)
  termination_by x => SizeOf.sizeOf x
  decreasing_by
    all_goals
      have h1 := List.sizeOf_lt_of_mem (List.getElem_mem hi)
      first
      | (simp_all; omega)
theorem T_api_Type.iff {h : Heap} {x : T_api_Type} {cs : List Value} : T_api_Type.E h x cs ↔ ∃ A2 c2, cs = [.int .i64 x.Kind, .string x.Name, .slice A2 x.Args.length c2] ∧ x.Args.length ≤ c2 ∧ Rd 3 T_api_Type.E h A2 x.Args := by
  cases x
  rw [T_api_Type.E]
  exact Iff.rfl
theorem T_api_Type.mono {m h : Heap} (s : Sub m h) : ∀ (x : T_api_Type) (cs : List Value), T_api_Type.E m x cs → T_api_Type.E h x cs
  | ⟨f0, f1, f2⟩, cs, e => by
    rw [T_api_Type.E] at e ⊢
    obtain ⟨A2, c2, h1, k2, r2⟩ := e
    exact ⟨A2, c2, h1, k2, fun i hi => let ⟨a, ds, h1, h2, h3⟩ := r2 i hi; ⟨a, ds, h1, s.cells _ _ h2, T_api_Type.mono s _ _ h3⟩⟩
  termination_by x => SizeOf.sizeOf x
  decreasing_by
    all_goals
      have h1 := List.sizeOf_lt_of_mem (List.getElem_mem hi)
      first
      | (simp_all; omega)
theorem T_api_Type.T : Tell 3 T_api_Type.E := ⟨fun _ _ x cs s e => T_api_Type.mono s x cs e, by intro h x cs e; obtain ⟨A2, c2, rfl, k2, r2⟩ := T_api_Type.iff.1 e; rfl, by intro h x cs e; obtain ⟨A2, c2, rfl, k2, r2⟩ := T_api_Type.iff.1 e; exact Flats.cons trivial (Flats.cons trivial (Flats.cons trivial Flats.nil))⟩
def T_api_Type.Q : T_api_Type → Prop
  | ⟨f0, f1, f2⟩ => (-9223372036854775808 ≤ f0 ∧ f0 ≤ 9223372036854775807) ∧ (f1.size ≤ 140737488351232) ∧ (f2.length * 48 ≤ 140737488351232 ∧ ∀ i (hi : i < f2.length), T_api_Type.Q f2[i])
  termination_by x => SizeOf.sizeOf x
  decreasing_by
    all_goals
      have h1 := List.sizeOf_lt_of_mem (List.getElem_mem hi)
      first
      | (simp_all; omega)
theorem T_api_Type.Q_iff {x : T_api_Type} : T_api_Type.Q x ↔ (-9223372036854775808 ≤ x.Kind ∧ x.Kind ≤ 9223372036854775807) ∧ (x.Name.size ≤ 140737488351232) ∧ (x.Args.length * 48 ≤ 140737488351232 ∧ ∀ a ∈ x.Args, T_api_Type.Q a) := by
  obtain ⟨f0, f1, f2⟩ := x
  rw [T_api_Type.Q]
  show _ ↔ (-9223372036854775808 ≤ f0 ∧ f0 ≤ 9223372036854775807) ∧ (f1.size ≤ 140737488351232) ∧ (f2.length * 48 ≤ 140737488351232 ∧ ∀ a ∈ f2, T_api_Type.Q a)
  rw [← forall_get (l := f2) (p := T_api_Type.Q)]
theorem T_api_Type.tells {H : Type} {enc : TypeId × Value → H} {W : World} : Tells enc Tryd.prog W 59 T_api_Type.E T_api_Type.Q := tells_rec fun N ih => tellsU_map (tellsU_struct (t := 59) (fs := [(3, 0), (9, 1), (37, 2)]) (T := 3) (by kernel_rfl) (by kernel_rfl) (tfU_cons (s := 1) (f := 3) (by kernel_rfl) (Tells.up (tells_i64 (t := 3) (by kernel_rfl))) (tfU_cons (s := 1) (f := 9) (by kernel_rfl) (Tells.up (tells_strL (t := 9) (by kernel_rfl))) (tfU_cons (s := 1) (f := 37) (by kernel_rfl) (tellsU_slice (t := 37) (e := 59) (sz := 3) (B := 48) (by kernel_rfl) (by kernel_rfl) (by kernel_rfl) ih) tfU_nil)))) (by
  rintro ⟨x0, x1, x2, ⟨⟩⟩ cs e q
  obtain ⟨c0, r0, rfl, e0, c1, r1, rfl, e1, c2, r2, rfl, e2, eN⟩ := e
  obtain rfl : c0 = [.int .i64 x0] := e0
  obtain rfl : c1 = [.string x1] := e1
  obtain ⟨A2, k2, rfl, l2, R2⟩ := e2
  obtain rfl : r2 = [] := eN
  exact ⟨⟨x0, x1, x2⟩, T_api_Type.iff.2 ⟨_, _, rfl, l2, R2⟩, T_api_Type.Q_iff.2 ⟨q.1, q.2.1, q.2.2.1⟩⟩)
def T_api_Type.bulk : T_api_Type → Nat
  | ⟨f0, f1, f2⟩ => (1 + ((f1.size + 1) + (((f2.attach.map fun y => T_api_Type.bulk y.1).sum + 1) + (0)))) + 1
  termination_by x => SizeOf.sizeOf x
  decreasing_by
    all_goals
      have h1 := List.sizeOf_lt_of_mem y.2
      first
      | (simp_all; omega)
theorem T_api_Type.bulk_eq (x : T_api_Type) : T_api_Type.bulk x = (1 + ((x.Name.size + 1) + (((List.map T_api_Type.bulk x.Args).sum + 1) + (0)))) + 1 := by
  obtain ⟨f0, f1, f2⟩ := x
  rw [T_api_Type.bulk]
  rw [(List.attach_map_val : (f2.attach.map fun i => T_api_Type.bulk i.1) = f2.map T_api_Type.bulk)]
theorem T_api_Type.kt {H : Type} {bk : DataW H → Nat} {enc : TypeId × Value → H} {W : World} {N : Nat} (M : Measure bk) : KT N bk enc Tryd.prog W 59 T_api_Type.E T_api_Type.bulk := kt_rec (fun N ih => kt_map (kt_struct M (t := 59) (fs := [(3, 0), (9, 1), (37, 2)]) (T := 3) (by kernel_rfl) (by kernel_rfl) (ktf_cons (s := 1) (f := 3) (by kernel_rfl) (tell_int .i64) (kt_one M) (ktf_cons (s := 1) (f := 9) (by kernel_rfl) tell_str (kt_str (t := 9) M (by kernel_rfl)) (ktf_cons (s := 1) (f := 37) (by kernel_rfl) (tell_row T_api_Type.T) (kt_slice M (t := 37) (e := 59) (sz := 3) (by kernel_rfl) (by kernel_rfl) ih) ktf_nil)))) (fun x cs e => by
  obtain ⟨A2, c2, rfl, k2, r2⟩ := T_api_Type.iff.1 e
  exact ⟨(x.Kind, x.Name, x.Args, ()), ⟨[.int .i64 x.Kind], _, rfl, rfl, ⟨[.string x.Name], _, rfl, rfl, ⟨[.slice A2 x.Args.length c2], _, rfl, ⟨_, _, rfl, k2, r2⟩, rfl⟩⟩⟩, by rw [T_api_Type.bulk_eq]; exact Nat.le_refl _⟩)) N
structure T_api_Pat where
  Kind : Int
  Num : Int
  Text : ByteArray
  Args : (List T_api_Pat)
def T_api_Pat.E (h : Heap) : T_api_Pat → List Value → Prop
  | ⟨f0, f1, f2, f3⟩, cs => ∃ A3 c3, cs = [.int .i64 f0, .int .i64 f1, .string f2, .slice A3 f3.length c3] ∧ f3.length ≤ c3 ∧ (∀ i (hi : i < f3.length), ∃ a ds, A3 = some a ∧ cellsH h (a.add (i * 4)) 0 4 = some ds ∧ T_api_Pat.E h f3[i] ds)
  termination_by x => SizeOf.sizeOf x
  decreasing_by
    all_goals
      have h1 := List.sizeOf_lt_of_mem (List.getElem_mem hi)
      first
      | (simp_all; omega)
theorem T_api_Pat.iff {h : Heap} {x : T_api_Pat} {cs : List Value} : T_api_Pat.E h x cs ↔ ∃ A3 c3, cs = [.int .i64 x.Kind, .int .i64 x.Num, .string x.Text, .slice A3 x.Args.length c3] ∧ x.Args.length ≤ c3 ∧ Rd 4 T_api_Pat.E h A3 x.Args := by
  cases x
  rw [T_api_Pat.E]
  exact Iff.rfl
theorem T_api_Pat.mono {m h : Heap} (s : Sub m h) : ∀ (x : T_api_Pat) (cs : List Value), T_api_Pat.E m x cs → T_api_Pat.E h x cs
  | ⟨f0, f1, f2, f3⟩, cs, e => by
    rw [T_api_Pat.E] at e ⊢
    obtain ⟨A3, c3, h1, k3, r3⟩ := e
    exact ⟨A3, c3, h1, k3, fun i hi => let ⟨a, ds, h1, h2, h3⟩ := r3 i hi; ⟨a, ds, h1, s.cells _ _ h2, T_api_Pat.mono s _ _ h3⟩⟩
  termination_by x => SizeOf.sizeOf x
  decreasing_by
    all_goals
      have h1 := List.sizeOf_lt_of_mem (List.getElem_mem hi)
      first
      | (simp_all; omega)
theorem T_api_Pat.T : Tell 4 T_api_Pat.E := ⟨fun _ _ x cs s e => T_api_Pat.mono s x cs e, by intro h x cs e; obtain ⟨A3, c3, rfl, k3, r3⟩ := T_api_Pat.iff.1 e; rfl, by intro h x cs e; obtain ⟨A3, c3, rfl, k3, r3⟩ := T_api_Pat.iff.1 e; exact Flats.cons trivial (Flats.cons trivial (Flats.cons trivial (Flats.cons trivial Flats.nil)))⟩
def T_api_Pat.Q : T_api_Pat → Prop
  | ⟨f0, f1, f2, f3⟩ => (-9223372036854775808 ≤ f0 ∧ f0 ≤ 9223372036854775807) ∧ (-9223372036854775808 ≤ f1 ∧ f1 ≤ 9223372036854775807) ∧ (f2.size ≤ 140737488351232) ∧ (f3.length * 56 ≤ 140737488351232 ∧ ∀ i (hi : i < f3.length), T_api_Pat.Q f3[i])
  termination_by x => SizeOf.sizeOf x
  decreasing_by
    all_goals
      have h1 := List.sizeOf_lt_of_mem (List.getElem_mem hi)
      first
      | (simp_all; omega)
theorem T_api_Pat.Q_iff {x : T_api_Pat} : T_api_Pat.Q x ↔ (-9223372036854775808 ≤ x.Kind ∧ x.Kind ≤ 9223372036854775807) ∧ (-9223372036854775808 ≤ x.Num ∧ x.Num ≤ 9223372036854775807) ∧ (x.Text.size ≤ 140737488351232) ∧ (x.Args.length * 56 ≤ 140737488351232 ∧ ∀ a ∈ x.Args, T_api_Pat.Q a) := by
  obtain ⟨f0, f1, f2, f3⟩ := x
  rw [T_api_Pat.Q]
  show _ ↔ (-9223372036854775808 ≤ f0 ∧ f0 ≤ 9223372036854775807) ∧ (-9223372036854775808 ≤ f1 ∧ f1 ≤ 9223372036854775807) ∧ (f2.size ≤ 140737488351232) ∧ (f3.length * 56 ≤ 140737488351232 ∧ ∀ a ∈ f3, T_api_Pat.Q a)
  rw [← forall_get (l := f3) (p := T_api_Pat.Q)]
theorem T_api_Pat.tells {H : Type} {enc : TypeId × Value → H} {W : World} : Tells enc Tryd.prog W 48 T_api_Pat.E T_api_Pat.Q := tells_rec fun N ih => tellsU_map (tellsU_struct (t := 48) (fs := [(3, 0), (3, 1), (9, 2), (46, 3)]) (T := 4) (by kernel_rfl) (by kernel_rfl) (tfU_cons (s := 1) (f := 3) (by kernel_rfl) (Tells.up (tells_i64 (t := 3) (by kernel_rfl))) (tfU_cons (s := 1) (f := 3) (by kernel_rfl) (Tells.up (tells_i64 (t := 3) (by kernel_rfl))) (tfU_cons (s := 1) (f := 9) (by kernel_rfl) (Tells.up (tells_strL (t := 9) (by kernel_rfl))) (tfU_cons (s := 1) (f := 46) (by kernel_rfl) (tellsU_slice (t := 46) (e := 48) (sz := 4) (B := 56) (by kernel_rfl) (by kernel_rfl) (by kernel_rfl) ih) tfU_nil))))) (by
  rintro ⟨x0, x1, x2, x3, ⟨⟩⟩ cs e q
  obtain ⟨c0, r0, rfl, e0, c1, r1, rfl, e1, c2, r2, rfl, e2, c3, r3, rfl, e3, eN⟩ := e
  obtain rfl : c0 = [.int .i64 x0] := e0
  obtain rfl : c1 = [.int .i64 x1] := e1
  obtain rfl : c2 = [.string x2] := e2
  obtain ⟨A3, k3, rfl, l3, R3⟩ := e3
  obtain rfl : r3 = [] := eN
  exact ⟨⟨x0, x1, x2, x3⟩, T_api_Pat.iff.2 ⟨_, _, rfl, l3, R3⟩, T_api_Pat.Q_iff.2 ⟨q.1, q.2.1, q.2.2.1, q.2.2.2.1⟩⟩)
def T_api_Pat.bulk : T_api_Pat → Nat
  | ⟨f0, f1, f2, f3⟩ => (1 + (1 + ((f2.size + 1) + (((f3.attach.map fun y => T_api_Pat.bulk y.1).sum + 1) + (0))))) + 1
  termination_by x => SizeOf.sizeOf x
  decreasing_by
    all_goals
      have h1 := List.sizeOf_lt_of_mem y.2
      first
      | (simp_all; omega)
theorem T_api_Pat.bulk_eq (x : T_api_Pat) : T_api_Pat.bulk x = (1 + (1 + ((x.Text.size + 1) + (((List.map T_api_Pat.bulk x.Args).sum + 1) + (0))))) + 1 := by
  obtain ⟨f0, f1, f2, f3⟩ := x
  rw [T_api_Pat.bulk]
  rw [(List.attach_map_val : (f3.attach.map fun i => T_api_Pat.bulk i.1) = f3.map T_api_Pat.bulk)]
theorem T_api_Pat.kt {H : Type} {bk : DataW H → Nat} {enc : TypeId × Value → H} {W : World} {N : Nat} (M : Measure bk) : KT N bk enc Tryd.prog W 48 T_api_Pat.E T_api_Pat.bulk := kt_rec (fun N ih => kt_map (kt_struct M (t := 48) (fs := [(3, 0), (3, 1), (9, 2), (46, 3)]) (T := 4) (by kernel_rfl) (by kernel_rfl) (ktf_cons (s := 1) (f := 3) (by kernel_rfl) (tell_int .i64) (kt_one M) (ktf_cons (s := 1) (f := 3) (by kernel_rfl) (tell_int .i64) (kt_one M) (ktf_cons (s := 1) (f := 9) (by kernel_rfl) tell_str (kt_str (t := 9) M (by kernel_rfl)) (ktf_cons (s := 1) (f := 46) (by kernel_rfl) (tell_row T_api_Pat.T) (kt_slice M (t := 46) (e := 48) (sz := 4) (by kernel_rfl) (by kernel_rfl) ih) ktf_nil))))) (fun x cs e => by
  obtain ⟨A3, c3, rfl, k3, r3⟩ := T_api_Pat.iff.1 e
  exact ⟨(x.Kind, x.Num, x.Text, x.Args, ()), ⟨[.int .i64 x.Kind], _, rfl, rfl, ⟨[.int .i64 x.Num], _, rfl, rfl, ⟨[.string x.Text], _, rfl, rfl, ⟨[.slice A3 x.Args.length c3], _, rfl, ⟨_, _, rfl, k3, r3⟩, rfl⟩⟩⟩⟩, by rw [T_api_Pat.bulk_eq]; exact Nat.le_refl _⟩)) N
mutual
structure T_api_Expr where
  Kind : Int
  Num : Int
  Text : ByteArray
  Names : (List ByteArray)
  Types : (List T_api_Type)
  Args : (List T_api_Expr)
  Arms : (List T_api_Arm)
  At : Int
structure T_api_Arm where
  Pat : T_api_Pat
  Body : T_api_Expr
end
theorem T_api_Arm.lt_Body (x : T_api_Arm) : SizeOf.sizeOf x.Body < SizeOf.sizeOf x := by cases x; simp; omega
def T_api_Expr.E (h : Heap) : T_api_Expr → List Value → Prop
  | ⟨f0, f1, f2, f3, f4, f5, f6, f7⟩, cs => ∃ A3 c3 A4 c4 A5 c5 A6 c6, cs = [.int .i64 f0, .int .i64 f1, .string f2, .slice A3 f3.length c3, .slice A4 f4.length c4, .slice A5 f5.length c5, .slice A6 f6.length c6, .int .i64 f7] ∧ f3.length ≤ c3 ∧ Rd 1 eStr h A3 f3 ∧ f4.length ≤ c4 ∧ Rd 3 T_api_Type.E h A4 f4 ∧ f5.length ≤ c5 ∧ (∀ i (hi : i < f5.length), ∃ a ds, A5 = some a ∧ cellsH h (a.add (i * 8)) 0 8 = some ds ∧ T_api_Expr.E h f5[i] ds) ∧ f6.length ≤ c6 ∧ (∀ i (hi : i < f6.length), ∃ a ds, A6 = some a ∧ cellsH h (a.add (i * 12)) 0 12 = some ds ∧ ∃ d0 d1, ds = d0 ++ d1 ∧ T_api_Pat.E h f6[i].Pat d0 ∧ T_api_Expr.E h f6[i].Body d1)
  termination_by x => SizeOf.sizeOf x
  decreasing_by
    all_goals
      have h1 := List.sizeOf_lt_of_mem (List.getElem_mem hi)
      first
      | (simp_all; omega)
      | (have h2 := T_api_Arm.lt_Body (f6[i]'hi); simp_all; omega)
def T_api_Arm.E (h : Heap) (x : T_api_Arm) (cs : List Value) : Prop := ∃ d0 d1, cs = d0 ++ d1 ∧ T_api_Pat.E h x.Pat d0 ∧ T_api_Expr.E h x.Body d1
theorem T_api_Expr.iff {h : Heap} {x : T_api_Expr} {cs : List Value} : T_api_Expr.E h x cs ↔ ∃ A3 c3 A4 c4 A5 c5 A6 c6, cs = [.int .i64 x.Kind, .int .i64 x.Num, .string x.Text, .slice A3 x.Names.length c3, .slice A4 x.Types.length c4, .slice A5 x.Args.length c5, .slice A6 x.Arms.length c6, .int .i64 x.At] ∧ x.Names.length ≤ c3 ∧ Rd 1 eStr h A3 x.Names ∧ x.Types.length ≤ c4 ∧ Rd 3 T_api_Type.E h A4 x.Types ∧ x.Args.length ≤ c5 ∧ Rd 8 T_api_Expr.E h A5 x.Args ∧ x.Arms.length ≤ c6 ∧ Rd 12 T_api_Arm.E h A6 x.Arms := by
  cases x
  rw [T_api_Expr.E]
  exact Iff.rfl
theorem T_api_Expr.mono {m h : Heap} (s : Sub m h) : ∀ (x : T_api_Expr) (cs : List Value), T_api_Expr.E m x cs → T_api_Expr.E h x cs
  | ⟨f0, f1, f2, f3, f4, f5, f6, f7⟩, cs, e => by
    rw [T_api_Expr.E] at e ⊢
    obtain ⟨A3, c3, A4, c4, A5, c5, A6, c6, h1, k3, r3, k4, r4, k5, r5, k6, r6⟩ := e
    exact ⟨A3, c3, A4, c4, A5, c5, A6, c6, h1, k3, r3.sub tell_str s, k4, r4.sub T_api_Type.T s, k5, fun i hi => let ⟨a, ds, h1, h2, h3⟩ := r5 i hi; ⟨a, ds, h1, s.cells _ _ h2, T_api_Expr.mono s _ _ h3⟩, k6, fun i hi => let ⟨a, ds, h1, h2, d0, d1, h4, e0, e1⟩ := r6 i hi; ⟨a, ds, h1, s.cells _ _ h2, d0, d1, h4, T_api_Pat.T.mono _ _ _ _ s e0, T_api_Expr.mono s _ _ e1⟩⟩
  termination_by x => SizeOf.sizeOf x
  decreasing_by
    all_goals
      have h1 := List.sizeOf_lt_of_mem (List.getElem_mem hi)
      first
      | (simp_all; omega)
      | (have h2 := T_api_Arm.lt_Body (f6[i]'hi); simp_all; omega)
theorem T_api_Expr.T : Tell 8 T_api_Expr.E := ⟨fun _ _ x cs s e => T_api_Expr.mono s x cs e, by intro h x cs e; obtain ⟨A3, c3, A4, c4, A5, c5, A6, c6, rfl, k3, r3, k4, r4, k5, r5, k6, r6⟩ := T_api_Expr.iff.1 e; rfl, by intro h x cs e; obtain ⟨A3, c3, A4, c4, A5, c5, A6, c6, rfl, k3, r3, k4, r4, k5, r5, k6, r6⟩ := T_api_Expr.iff.1 e; exact Flats.cons trivial (Flats.cons trivial (Flats.cons trivial (Flats.cons trivial (Flats.cons trivial (Flats.cons trivial (Flats.cons trivial (Flats.cons trivial Flats.nil)))))))⟩
theorem T_api_Arm.iff {h : Heap} {x : T_api_Arm} {cs : List Value} : T_api_Arm.E h x cs ↔ ∃ A3 c3 A7 c7 A8 c8 A9 c9 A10 c10, cs = [.int .i64 x.Pat.Kind, .int .i64 x.Pat.Num, .string x.Pat.Text, .slice A3 x.Pat.Args.length c3, .int .i64 x.Body.Kind, .int .i64 x.Body.Num, .string x.Body.Text, .slice A7 x.Body.Names.length c7, .slice A8 x.Body.Types.length c8, .slice A9 x.Body.Args.length c9, .slice A10 x.Body.Arms.length c10, .int .i64 x.Body.At] ∧ x.Pat.Args.length ≤ c3 ∧ Rd 4 T_api_Pat.E h A3 x.Pat.Args ∧ x.Body.Names.length ≤ c7 ∧ Rd 1 eStr h A7 x.Body.Names ∧ x.Body.Types.length ≤ c8 ∧ Rd 3 T_api_Type.E h A8 x.Body.Types ∧ x.Body.Args.length ≤ c9 ∧ Rd 8 T_api_Expr.E h A9 x.Body.Args ∧ x.Body.Arms.length ≤ c10 ∧ Rd 12 T_api_Arm.E h A10 x.Body.Arms := by
  constructor
  · rintro ⟨d0, d1, rfl, e0, e1⟩
    obtain ⟨A3, c3, rfl, k3, r3⟩ := T_api_Pat.iff.1 e0
    obtain ⟨A7, c7, A8, c8, A9, c9, A10, c10, rfl, k7, r7, k8, r8, k9, r9, k10, r10⟩ := T_api_Expr.iff.1 e1
    exact ⟨A3, c3, A7, c7, A8, c8, A9, c9, A10, c10, rfl, k3, r3, k7, r7, k8, r8, k9, r9, k10, r10⟩
  · rintro ⟨A3, c3, A7, c7, A8, c8, A9, c9, A10, c10, rfl, k3, r3, k7, r7, k8, r8, k9, r9, k10, r10⟩
    exact ⟨[.int .i64 x.Pat.Kind, .int .i64 x.Pat.Num, .string x.Pat.Text, .slice A3 x.Pat.Args.length c3], [.int .i64 x.Body.Kind, .int .i64 x.Body.Num, .string x.Body.Text, .slice A7 x.Body.Names.length c7, .slice A8 x.Body.Types.length c8, .slice A9 x.Body.Args.length c9, .slice A10 x.Body.Arms.length c10, .int .i64 x.Body.At], rfl, T_api_Pat.iff.2 ⟨A3, c3, rfl, k3, r3⟩, T_api_Expr.iff.2 ⟨A7, c7, A8, c8, A9, c9, A10, c10, rfl, k7, r7, k8, r8, k9, r9, k10, r10⟩⟩
theorem T_api_Arm.T : Tell 12 T_api_Arm.E := ⟨by rintro m h x _ s ⟨d0, d1, rfl, e0, e1⟩; exact ⟨d0, d1, rfl, T_api_Pat.T.mono _ _ _ _ s e0, T_api_Expr.T.mono _ _ _ _ s e1⟩, by intro h x cs e; obtain ⟨A3, c3, A7, c7, A8, c8, A9, c9, A10, c10, rfl, k3, r3, k7, r7, k8, r8, k9, r9, k10, r10⟩ := T_api_Arm.iff.1 e; rfl, by intro h x cs e; obtain ⟨A3, c3, A7, c7, A8, c8, A9, c9, A10, c10, rfl, k3, r3, k7, r7, k8, r8, k9, r9, k10, r10⟩ := T_api_Arm.iff.1 e; exact Flats.cons trivial (Flats.cons trivial (Flats.cons trivial (Flats.cons trivial (Flats.cons trivial (Flats.cons trivial (Flats.cons trivial (Flats.cons trivial (Flats.cons trivial (Flats.cons trivial (Flats.cons trivial (Flats.cons trivial Flats.nil)))))))))))⟩
def T_api_Expr.Q : T_api_Expr → Prop
  | ⟨f0, f1, f2, f3, f4, f5, f6, f7⟩ => (-9223372036854775808 ≤ f0 ∧ f0 ≤ 9223372036854775807) ∧ (-9223372036854775808 ≤ f1 ∧ f1 ≤ 9223372036854775807) ∧ (f2.size ≤ 140737488351232) ∧ (f3.length * 16 ≤ 140737488351232 ∧ ∀ a ∈ f3, (a.size ≤ 140737488351232)) ∧ (f4.length * 48 ≤ 140737488351232 ∧ ∀ a ∈ f4, (T_api_Type.Q a)) ∧ (f5.length * 136 ≤ 140737488351232 ∧ ∀ i (hi : i < f5.length), T_api_Expr.Q f5[i]) ∧ (f6.length * 192 ≤ 140737488351232 ∧ ∀ i (hi : i < f6.length), (T_api_Pat.Q f6[i].Pat) ∧ (T_api_Expr.Q f6[i].Body)) ∧ (-9223372036854775808 ≤ f7 ∧ f7 ≤ 9223372036854775807)
  termination_by x => SizeOf.sizeOf x
  decreasing_by
    all_goals
      have h1 := List.sizeOf_lt_of_mem (List.getElem_mem hi)
      first
      | (simp_all; omega)
      | (have h2 := T_api_Arm.lt_Body (f6[i]'hi); simp_all; omega)
def T_api_Arm.Q (x : T_api_Arm) : Prop := (T_api_Pat.Q x.Pat) ∧ (T_api_Expr.Q x.Body)
theorem T_api_Expr.Q_iff {x : T_api_Expr} : T_api_Expr.Q x ↔ (-9223372036854775808 ≤ x.Kind ∧ x.Kind ≤ 9223372036854775807) ∧ (-9223372036854775808 ≤ x.Num ∧ x.Num ≤ 9223372036854775807) ∧ (x.Text.size ≤ 140737488351232) ∧ (x.Names.length * 16 ≤ 140737488351232 ∧ ∀ a ∈ x.Names, (a.size ≤ 140737488351232)) ∧ (x.Types.length * 48 ≤ 140737488351232 ∧ ∀ a ∈ x.Types, (T_api_Type.Q a)) ∧ (x.Args.length * 136 ≤ 140737488351232 ∧ ∀ a ∈ x.Args, T_api_Expr.Q a) ∧ (x.Arms.length * 192 ≤ 140737488351232 ∧ ∀ a ∈ x.Arms, T_api_Arm.Q a) ∧ (-9223372036854775808 ≤ x.At ∧ x.At ≤ 9223372036854775807) := by
  obtain ⟨f0, f1, f2, f3, f4, f5, f6, f7⟩ := x
  rw [T_api_Expr.Q]
  show _ ↔ (-9223372036854775808 ≤ f0 ∧ f0 ≤ 9223372036854775807) ∧ (-9223372036854775808 ≤ f1 ∧ f1 ≤ 9223372036854775807) ∧ (f2.size ≤ 140737488351232) ∧ (f3.length * 16 ≤ 140737488351232 ∧ ∀ a ∈ f3, (a.size ≤ 140737488351232)) ∧ (f4.length * 48 ≤ 140737488351232 ∧ ∀ a ∈ f4, (T_api_Type.Q a)) ∧ (f5.length * 136 ≤ 140737488351232 ∧ ∀ a ∈ f5, T_api_Expr.Q a) ∧ (f6.length * 192 ≤ 140737488351232 ∧ ∀ a ∈ f6, T_api_Arm.Q a) ∧ (-9223372036854775808 ≤ f7 ∧ f7 ≤ 9223372036854775807)
  rw [← forall_get (l := f5) (p := T_api_Expr.Q), ← forall_get (l := f6) (p := T_api_Arm.Q)]
  exact Iff.rfl
theorem T_api_Arm.tellsU {H : Type} {enc : TypeId × Value → H} {W : World} {N : Nat} (ih : TellsU N enc Tryd.prog W 40 T_api_Expr.E T_api_Expr.Q) : TellsU (N + 1) enc Tryd.prog W 50 T_api_Arm.E T_api_Arm.Q := tellsU_map (tellsU_struct (t := 50) (fs := [(48, 0), (40, 4)]) (T := 12) (by kernel_rfl) (by kernel_rfl) (tfU_cons (s := 4) (f := 48) (by kernel_rfl) (Tells.up T_api_Pat.tells) (tfU_cons (s := 8) (f := 40) (by kernel_rfl) ih tfU_nil))) (by
  rintro ⟨x0, x1, ⟨⟩⟩ cs e q
  obtain ⟨c0, r0, rfl, e0, c1, r1, rfl, e1, eN⟩ := e
  obtain rfl : r1 = [] := eN
  exact ⟨⟨x0, x1⟩, ⟨_, _, by simp, e0, e1⟩, q.1, q.2.1⟩)
theorem T_api_Expr.tells {H : Type} {enc : TypeId × Value → H} {W : World} : Tells enc Tryd.prog W 40 T_api_Expr.E T_api_Expr.Q := tells_rec fun N ih => tellsU_map (tellsU_struct (t := 40) (fs := [(3, 0), (3, 1), (9, 2), (36, 3), (37, 4), (31, 5), (38, 6), (3, 7)]) (T := 8) (by kernel_rfl) (by kernel_rfl) (tfU_cons (s := 1) (f := 3) (by kernel_rfl) (Tells.up (tells_i64 (t := 3) (by kernel_rfl))) (tfU_cons (s := 1) (f := 3) (by kernel_rfl) (Tells.up (tells_i64 (t := 3) (by kernel_rfl))) (tfU_cons (s := 1) (f := 9) (by kernel_rfl) (Tells.up (tells_strL (t := 9) (by kernel_rfl))) (tfU_cons (s := 1) (f := 36) (by kernel_rfl) (Tells.up (tells_sliceL (t := 36) (e := 9) (sz := 1) (B := 16) (by kernel_rfl) (by kernel_rfl) (by kernel_rfl) (tells_strL (t := 9) (by kernel_rfl)))) (tfU_cons (s := 1) (f := 37) (by kernel_rfl) (Tells.up (tells_sliceL (t := 37) (e := 59) (sz := 3) (B := 48) (by kernel_rfl) (by kernel_rfl) (by kernel_rfl) T_api_Type.tells)) (tfU_cons (s := 1) (f := 31) (by kernel_rfl) (tellsU_slice (t := 31) (e := 40) (sz := 8) (B := 136) (by kernel_rfl) (by kernel_rfl) (by kernel_rfl) ih) (tfU_cons (s := 1) (f := 38) (by kernel_rfl) (tellsU_slice (t := 38) (e := 50) (sz := 12) (B := 192) (by kernel_rfl) (by kernel_rfl) (by kernel_rfl) (tellsU_down (T_api_Arm.tellsU ih))) (tfU_cons (s := 1) (f := 3) (by kernel_rfl) (Tells.up (tells_i64 (t := 3) (by kernel_rfl))) tfU_nil))))))))) (by
  rintro ⟨x0, x1, x2, x3, x4, x5, x6, x7, ⟨⟩⟩ cs e q
  obtain ⟨c0, r0, rfl, e0, c1, r1, rfl, e1, c2, r2, rfl, e2, c3, r3, rfl, e3, c4, r4, rfl, e4, c5, r5, rfl, e5, c6, r6, rfl, e6, c7, r7, rfl, e7, eN⟩ := e
  obtain rfl : c0 = [.int .i64 x0] := e0
  obtain rfl : c1 = [.int .i64 x1] := e1
  obtain rfl : c2 = [.string x2] := e2
  obtain ⟨A3, k3, rfl, l3, R3⟩ := e3
  obtain ⟨A4, k4, rfl, l4, R4⟩ := e4
  obtain ⟨A5, k5, rfl, l5, R5⟩ := e5
  obtain ⟨A6, k6, rfl, l6, R6⟩ := e6
  obtain rfl : c7 = [.int .i64 x7] := e7
  obtain rfl : r7 = [] := eN
  exact ⟨⟨x0, x1, x2, x3, x4, x5, x6, x7⟩, T_api_Expr.iff.2 ⟨_, _, _, _, _, _, _, _, rfl, l3, R3, l4, R4, l5, R5, l6, R6⟩, T_api_Expr.Q_iff.2 ⟨q.1, q.2.1, q.2.2.1, q.2.2.2.1, q.2.2.2.2.1, q.2.2.2.2.2.1, q.2.2.2.2.2.2.1, q.2.2.2.2.2.2.2.1⟩⟩)
def T_api_Expr.bulk : T_api_Expr → Nat
  | ⟨f0, f1, f2, f3, f4, f5, f6, f7⟩ => (1 + (1 + ((f2.size + 1) + (((List.map (fun s : ByteArray => s.size + 1) f3).sum + 1) + (((List.map T_api_Type.bulk f4).sum + 1) + (((f5.attach.map fun y => T_api_Expr.bulk y.1).sum + 1) + (((f6.attach.map fun y => ((T_api_Pat.bulk y.1.Pat) + ((T_api_Expr.bulk y.1.Body) + (0))) + 1).sum + 1) + (1 + (0))))))))) + 1
  termination_by x => SizeOf.sizeOf x
  decreasing_by
    all_goals
      have h1 := List.sizeOf_lt_of_mem y.2
      first
      | (simp_all; omega)
      | (have h2 := T_api_Arm.lt_Body y.1; simp_all; omega)
def T_api_Arm.bulk (x : T_api_Arm) : Nat := ((T_api_Pat.bulk x.Pat) + ((T_api_Expr.bulk x.Body) + (0))) + 1
theorem T_api_Expr.bulk_eq (x : T_api_Expr) : T_api_Expr.bulk x = (1 + (1 + ((x.Text.size + 1) + (((List.map (fun s : ByteArray => s.size + 1) x.Names).sum + 1) + (((List.map T_api_Type.bulk x.Types).sum + 1) + (((List.map T_api_Expr.bulk x.Args).sum + 1) + (((List.map T_api_Arm.bulk x.Arms).sum + 1) + (1 + (0))))))))) + 1 := by
  obtain ⟨f0, f1, f2, f3, f4, f5, f6, f7⟩ := x
  rw [T_api_Expr.bulk]
  rw [(List.attach_map_val : (f5.attach.map fun i => T_api_Expr.bulk i.1) = f5.map T_api_Expr.bulk)]
  rw [show (f6.attach.map fun y => ((T_api_Pat.bulk y.1.Pat) + ((T_api_Expr.bulk y.1.Body) + (0))) + 1) = (f6.attach.map fun y => T_api_Arm.bulk y.1) from rfl, (List.attach_map_val : (f6.attach.map fun i => T_api_Arm.bulk i.1) = f6.map T_api_Arm.bulk)]
theorem T_api_Arm.ktU {H : Type} {bk : DataW H → Nat} {enc : TypeId × Value → H} {W : World} {N : Nat} (M : Measure bk) (ih : KT N bk enc Tryd.prog W 40 T_api_Expr.E T_api_Expr.bulk) : KT (N + 1) bk enc Tryd.prog W 50 T_api_Arm.E T_api_Arm.bulk := kt_map (kt_struct M (t := 50) (fs := [(48, 0), (40, 4)]) (T := 12) (by kernel_rfl) (by kernel_rfl) (ktf_cons (s := 4) (f := 48) (by kernel_rfl) T_api_Pat.T (T_api_Pat.kt M) (ktf_cons (s := 8) (f := 40) (by kernel_rfl) T_api_Expr.T ih ktf_nil))) (fun x cs e => by
  obtain ⟨d0, d1, rfl, e0, e1⟩ := e
  exact ⟨(x.Pat, x.Body, ()), ⟨d0, _, rfl, e0, ⟨d1, _, (List.append_nil _).symm, e1, rfl⟩⟩, Nat.le_refl _⟩)
theorem T_api_Expr.kt {H : Type} {bk : DataW H → Nat} {enc : TypeId × Value → H} {W : World} {N : Nat} (M : Measure bk) : KT N bk enc Tryd.prog W 40 T_api_Expr.E T_api_Expr.bulk := kt_rec (fun N ih => kt_map (kt_struct M (t := 40) (fs := [(3, 0), (3, 1), (9, 2), (36, 3), (37, 4), (31, 5), (38, 6), (3, 7)]) (T := 8) (by kernel_rfl) (by kernel_rfl) (ktf_cons (s := 1) (f := 3) (by kernel_rfl) (tell_int .i64) (kt_one M) (ktf_cons (s := 1) (f := 3) (by kernel_rfl) (tell_int .i64) (kt_one M) (ktf_cons (s := 1) (f := 9) (by kernel_rfl) tell_str (kt_str (t := 9) M (by kernel_rfl)) (ktf_cons (s := 1) (f := 36) (by kernel_rfl) (tell_row tell_str) (kt_slice M (t := 36) (e := 9) (sz := 1) (by kernel_rfl) (by kernel_rfl) (kt_str (t := 9) M (by kernel_rfl))) (ktf_cons (s := 1) (f := 37) (by kernel_rfl) (tell_row T_api_Type.T) (kt_slice M (t := 37) (e := 59) (sz := 3) (by kernel_rfl) (by kernel_rfl) (T_api_Type.kt M)) (ktf_cons (s := 1) (f := 31) (by kernel_rfl) (tell_row T_api_Expr.T) (kt_slice M (t := 31) (e := 40) (sz := 8) (by kernel_rfl) (by kernel_rfl) ih) (ktf_cons (s := 1) (f := 38) (by kernel_rfl) (tell_row T_api_Arm.T) (kt_slice M (t := 38) (e := 50) (sz := 12) (by kernel_rfl) (by kernel_rfl) (kt_down (T_api_Arm.ktU M ih))) (ktf_cons (s := 1) (f := 3) (by kernel_rfl) (tell_int .i64) (kt_one M) ktf_nil))))))))) (fun x cs e => by
  obtain ⟨A3, c3, A4, c4, A5, c5, A6, c6, rfl, k3, r3, k4, r4, k5, r5, k6, r6⟩ := T_api_Expr.iff.1 e
  exact ⟨(x.Kind, x.Num, x.Text, x.Names, x.Types, x.Args, x.Arms, x.At, ()), ⟨[.int .i64 x.Kind], _, rfl, rfl, ⟨[.int .i64 x.Num], _, rfl, rfl, ⟨[.string x.Text], _, rfl, rfl, ⟨[.slice A3 x.Names.length c3], _, rfl, ⟨_, _, rfl, k3, r3⟩, ⟨[.slice A4 x.Types.length c4], _, rfl, ⟨_, _, rfl, k4, r4⟩, ⟨[.slice A5 x.Args.length c5], _, rfl, ⟨_, _, rfl, k5, r5⟩, ⟨[.slice A6 x.Arms.length c6], _, rfl, ⟨_, _, rfl, k6, r6⟩, ⟨[.int .i64 x.At], _, rfl, rfl, rfl⟩⟩⟩⟩⟩⟩⟩⟩, by rw [T_api_Expr.bulk_eq]; exact Nat.le_refl _⟩)) N
structure T_roadref2_scoped where
  e_ : T_api_Expr
  names_ : (List ByteArray)
def T_roadref2_scoped.E (h : Heap) (x : T_roadref2_scoped) (cs : List Value) : Prop := ∃ A3 c3 A4 c4 A5 c5 A6 c6 A8 c8, cs = [.int .i64 x.e_.Kind, .int .i64 x.e_.Num, .string x.e_.Text, .slice A3 x.e_.Names.length c3, .slice A4 x.e_.Types.length c4, .slice A5 x.e_.Args.length c5, .slice A6 x.e_.Arms.length c6, .int .i64 x.e_.At, .slice A8 x.names_.length c8] ∧ x.e_.Names.length ≤ c3 ∧ Rd 1 eStr h A3 x.e_.Names ∧ x.e_.Types.length ≤ c4 ∧ Rd 3 T_api_Type.E h A4 x.e_.Types ∧ x.e_.Args.length ≤ c5 ∧ Rd 8 T_api_Expr.E h A5 x.e_.Args ∧ x.e_.Arms.length ≤ c6 ∧ Rd 12 T_api_Arm.E h A6 x.e_.Arms ∧ x.names_.length ≤ c8 ∧ Rd 1 eStr h A8 x.names_
theorem T_roadref2_scoped.T : Tell 9 T_roadref2_scoped.E := ⟨by rintro m h x _ s ⟨A3, c3, A4, c4, A5, c5, A6, c6, A8, c8, rfl, k3, r3, k4, r4, k5, r5, k6, r6, k8, r8⟩; exact ⟨_, _, _, _, _, _, _, _, _, _, rfl, k3, r3.sub tell_str s, k4, r4.sub T_api_Type.T s, k5, r5.sub T_api_Expr.T s, k6, r6.sub T_api_Arm.T s, k8, r8.sub tell_str s⟩, by rintro h x _ ⟨A3, c3, A4, c4, A5, c5, A6, c6, A8, c8, rfl, k3, r3, k4, r4, k5, r5, k6, r6, k8, r8⟩; rfl, by rintro h x _ ⟨A3, c3, A4, c4, A5, c5, A6, c6, A8, c8, rfl, k3, r3, k4, r4, k5, r5, k6, r6, k8, r8⟩; exact Flats.cons trivial (Flats.cons trivial (Flats.cons trivial (Flats.cons trivial (Flats.cons trivial (Flats.cons trivial (Flats.cons trivial (Flats.cons trivial (Flats.cons trivial Flats.nil))))))))⟩
theorem T_api_Type.g0 {m : Heap} {x : T_api_Type} {cs : List Value} (e : T_api_Type.E m x cs) : cs[0]? = some (Value.int .i64 x.Kind) := by
  obtain ⟨A2, c2, rfl, k2, r2⟩ := T_api_Type.iff.1 e
  exact rfl
theorem T_api_Type.g2 {m : Heap} {x : T_api_Type} {cs : List Value} (e : T_api_Type.E m x cs) : ∃ A c, cs[2]? = some (.slice A (List.length x.Args) c) ∧ List.length x.Args ≤ c ∧ Rd 3 T_api_Type.E m A x.Args := by
  obtain ⟨A2, c2, rfl, k2, r2⟩ := T_api_Type.iff.1 e
  exact ⟨_, _, rfl, k2, r2⟩
theorem T_api_Type.g1 {m : Heap} {x : T_api_Type} {cs : List Value} (e : T_api_Type.E m x cs) : cs[1]? = some (Value.string x.Name) := by
  obtain ⟨A2, c2, rfl, k2, r2⟩ := T_api_Type.iff.1 e
  exact rfl
theorem T_api_Pat.g0 {m : Heap} {x : T_api_Pat} {cs : List Value} (e : T_api_Pat.E m x cs) : cs[0]? = some (Value.int .i64 x.Kind) := by
  obtain ⟨A3, c3, rfl, k3, r3⟩ := T_api_Pat.iff.1 e
  exact rfl
theorem T_api_Pat.g1 {m : Heap} {x : T_api_Pat} {cs : List Value} (e : T_api_Pat.E m x cs) : cs[1]? = some (Value.int .i64 x.Num) := by
  obtain ⟨A3, c3, rfl, k3, r3⟩ := T_api_Pat.iff.1 e
  exact rfl
theorem T_api_Pat.g3 {m : Heap} {x : T_api_Pat} {cs : List Value} (e : T_api_Pat.E m x cs) : ∃ A c, cs[3]? = some (.slice A (List.length x.Args) c) ∧ List.length x.Args ≤ c ∧ Rd 4 T_api_Pat.E m A x.Args := by
  obtain ⟨A3, c3, rfl, k3, r3⟩ := T_api_Pat.iff.1 e
  exact ⟨_, _, rfl, k3, r3⟩
theorem T_api_Pat.g2 {m : Heap} {x : T_api_Pat} {cs : List Value} (e : T_api_Pat.E m x cs) : cs[2]? = some (Value.string x.Text) := by
  obtain ⟨A3, c3, rfl, k3, r3⟩ := T_api_Pat.iff.1 e
  exact rfl
theorem T_api_Expr.g0 {m : Heap} {x : T_api_Expr} {cs : List Value} (e : T_api_Expr.E m x cs) : cs[0]? = some (Value.int .i64 x.Kind) := by
  obtain ⟨A3, c3, A4, c4, A5, c5, A6, c6, rfl, k3, r3, k4, r4, k5, r5, k6, r6⟩ := T_api_Expr.iff.1 e
  exact rfl
theorem T_api_Expr.g1 {m : Heap} {x : T_api_Expr} {cs : List Value} (e : T_api_Expr.E m x cs) : cs[1]? = some (Value.int .i64 x.Num) := by
  obtain ⟨A3, c3, A4, c4, A5, c5, A6, c6, rfl, k3, r3, k4, r4, k5, r5, k6, r6⟩ := T_api_Expr.iff.1 e
  exact rfl
theorem T_api_Expr.g3 {m : Heap} {x : T_api_Expr} {cs : List Value} (e : T_api_Expr.E m x cs) : ∃ A c, cs[3]? = some (.slice A (List.length x.Names) c) ∧ List.length x.Names ≤ c ∧ Rd 1 eStr m A x.Names := by
  obtain ⟨A3, c3, A4, c4, A5, c5, A6, c6, rfl, k3, r3, k4, r4, k5, r5, k6, r6⟩ := T_api_Expr.iff.1 e
  exact ⟨_, _, rfl, k3, r3⟩
theorem T_api_Expr.g4 {m : Heap} {x : T_api_Expr} {cs : List Value} (e : T_api_Expr.E m x cs) : ∃ A c, cs[4]? = some (.slice A (List.length x.Types) c) ∧ List.length x.Types ≤ c ∧ Rd 3 T_api_Type.E m A x.Types := by
  obtain ⟨A3, c3, A4, c4, A5, c5, A6, c6, rfl, k3, r3, k4, r4, k5, r5, k6, r6⟩ := T_api_Expr.iff.1 e
  exact ⟨_, _, rfl, k4, r4⟩
theorem T_api_Expr.g5 {m : Heap} {x : T_api_Expr} {cs : List Value} (e : T_api_Expr.E m x cs) : ∃ A c, cs[5]? = some (.slice A (List.length x.Args) c) ∧ List.length x.Args ≤ c ∧ Rd 8 T_api_Expr.E m A x.Args := by
  obtain ⟨A3, c3, A4, c4, A5, c5, A6, c6, rfl, k3, r3, k4, r4, k5, r5, k6, r6⟩ := T_api_Expr.iff.1 e
  exact ⟨_, _, rfl, k5, r5⟩
theorem T_api_Expr.g6 {m : Heap} {x : T_api_Expr} {cs : List Value} (e : T_api_Expr.E m x cs) : ∃ A c, cs[6]? = some (.slice A (List.length x.Arms) c) ∧ List.length x.Arms ≤ c ∧ Rd 12 T_api_Arm.E m A x.Arms := by
  obtain ⟨A3, c3, A4, c4, A5, c5, A6, c6, rfl, k3, r3, k4, r4, k5, r5, k6, r6⟩ := T_api_Expr.iff.1 e
  exact ⟨_, _, rfl, k6, r6⟩
theorem T_api_Expr.g2 {m : Heap} {x : T_api_Expr} {cs : List Value} (e : T_api_Expr.E m x cs) : cs[2]? = some (Value.string x.Text) := by
  obtain ⟨A3, c3, A4, c4, A5, c5, A6, c6, rfl, k3, r3, k4, r4, k5, r5, k6, r6⟩ := T_api_Expr.iff.1 e
  exact rfl
theorem T_api_Arm.u0_48 {m : Heap} {x : T_api_Arm} {cs : List Value} (e : T_api_Arm.E m x cs) : T_api_Pat.E m x.Pat (List.take 4 (List.drop 0 cs)) := by
  obtain ⟨A3, c3, A7, c7, A8, c8, A9, c9, A10, c10, rfl, k3, r3, k7, r7, k8, r8, k9, r9, k10, r10⟩ := T_api_Arm.iff.1 e
  exact (T_api_Pat.iff.2 ⟨_, _, rfl, k3, r3⟩)
theorem T_api_Arm.u4_40 {m : Heap} {x : T_api_Arm} {cs : List Value} (e : T_api_Arm.E m x cs) : T_api_Expr.E m x.Body (List.take 8 (List.drop 4 cs)) := by
  obtain ⟨A3, c3, A7, c7, A8, c8, A9, c9, A10, c10, rfl, k3, r3, k7, r7, k8, r8, k9, r9, k10, r10⟩ := T_api_Arm.iff.1 e
  exact (T_api_Expr.iff.2 ⟨_, _, _, _, _, _, _, _, rfl, k7, r7, k8, r8, k9, r9, k10, r10⟩)
theorem T_roadref2_scoped.u0_40 {m : Heap} {x : T_roadref2_scoped} {cs : List Value} (e : T_roadref2_scoped.E m x cs) : T_api_Expr.E m x.e_ (List.take 8 (List.drop 0 cs)) := by
  obtain ⟨A3, c3, A4, c4, A5, c5, A6, c6, A8, c8, rfl, k3, r3, k4, r4, k5, r5, k6, r6, k8, r8⟩ := e
  exact (T_api_Expr.iff.2 ⟨_, _, _, _, _, _, _, _, rfl, k3, r3, k4, r4, k5, r5, k6, r6⟩)
theorem T_roadref2_scoped.g8 {m : Heap} {x : T_roadref2_scoped} {cs : List Value} (e : T_roadref2_scoped.E m x cs) : ∃ A c, cs[8]? = some (.slice A (List.length x.names_) c) ∧ List.length x.names_ ≤ c ∧ Rd 1 eStr m A x.names_ := by
  obtain ⟨A3, c3, A4, c4, A5, c5, A6, c6, A8, c8, rfl, k3, r3, k4, r4, k5, r5, k6, r6, k8, r8⟩ := e
  exact ⟨_, _, rfl, k8, r8⟩
theorem T_api_Expr.s7 {m : Heap} {x : T_api_Expr} {cs : List Value} (e : T_api_Expr.E m x cs) (v : Int) : T_api_Expr.E m { x with At := v } (cs.set 7 (Value.int .i64 v)) := by
  obtain ⟨A3, c3, A4, c4, A5, c5, A6, c6, rfl, k3, r3, k4, r4, k5, r5, k6, r6⟩ := T_api_Expr.iff.1 e
  exact (T_api_Expr.iff.2 ⟨_, _, _, _, _, _, _, _, rfl, k3, r3, k4, r4, k5, r5, k6, r6⟩)
theorem T_api_Expr.g7 {m : Heap} {x : T_api_Expr} {cs : List Value} (e : T_api_Expr.E m x cs) : cs[7]? = some (Value.int .i64 x.At) := by
  obtain ⟨A3, c3, A4, c4, A5, c5, A6, c6, rfl, k3, r3, k4, r4, k5, r5, k6, r6⟩ := T_api_Expr.iff.1 e
  exact rfl
def strconv_Itoa.post (W : Nat → Prop) (h0 m0 : Heap) (r : ByteArray) (v : Value) (h : Heap) : Prop := ∃ m , Hold W h0 m0 h m [] ∧ v = .string r
noncomputable def strconv_Itoa (x0 : Int) : Option ByteArray := if -9223372036854775808 ≤ x0 ∧ x0 ≤ 9223372036854775807 then some (itoaB x0) else none
set_option maxRecDepth 100000 in
theorem strconv_Itoa.walk {W : Nat → Prop} {h m : Heap} {x0 : Int} (O : Hold W h m h m []) (tab : TB m) {r : ByteArray} (e : strconv_Itoa x0 = some r) : Run Tryd.prog 64 #[Value.int .i64 x0] h (strconv_Itoa.post W h m r) := by
  unfold strconv_Itoa at e
  exact (itoa_run (by kernel_rfl) Tryd.strconv_Itoa O tab e).mono fun v h' hp => hp
def roadref2_nums.post (W : Nat → Prop) (h0 m0 : Heap) (r : ByteArray) (v : Value) (h : Heap) : Prop := ∃ m , Hold W h0 m0 h m [] ∧ v = .string r
inductive roadref2_nums.l0_k.Pt where
  | l0 (s_3 : ByteArray) (a_6 : List Int) (x_7 : Int) (x_8 : Int)
noncomputable def roadref2_nums.l0_k.body (go : (p : roadref2_nums.l0_k.Pt) → Option (ByteArray)) : (p : roadref2_nums.l0_k.Pt) → Option (ByteArray)
  | .l0 s_3 a_6 x_7 x_8 => if x_8 < x_7 then (Option.bind (gi a_6 x_8) fun y1 => Option.bind (strconv_Itoa y1) fun y8 => if ByteArray.size y8 + ByteArray.size (ByteArray.mk #[44]) ≤ 9223372036854775807 then (if ByteArray.size s_3 + ByteArray.size (y8 ++ (ByteArray.mk #[44])) ≤ 9223372036854775807 then ((go (.l0 (s_3 ++ (y8 ++ (ByteArray.mk #[44]))) a_6 x_7 (IntKind.wrap .i64 (x_8 + (1 : Int)))))) else none) else none) else (some (s_3))
theorem roadref2_nums.l0_k.mono : MonoF (β := fun _ => (ByteArray)) roadref2_nums.l0_k.body := fun f g hfg p => match p with
  | .l0 s_3 a_6 x_7 x_8 => LeO.ite (LeO.bind (LeO.refl _) fun y1 => LeO.bind (LeO.refl _) fun y8 => LeO.ite (LeO.ite ((hfg _)) (LeO.refl _)) (LeO.refl _)) (LeO.refl _)
noncomputable def roadref2_nums.l0_k.go (p : roadref2_nums.l0_k.Pt) : Option (ByteArray) := fixF (β := fun _ => (ByteArray)) roadref2_nums.l0_k.body p
noncomputable def roadref2_nums.l0 (s_3 : ByteArray) (a_6 : List Int) (x_7 : Int) (x_8 : Int) : Option (ByteArray) := roadref2_nums.l0_k.go (.l0 s_3 a_6 x_7 x_8)
theorem roadref2_nums.l0_eq (s_3 : ByteArray) (a_6 : List Int) (x_7 : Int) (x_8 : Int) : roadref2_nums.l0 s_3 a_6 x_7 x_8 = if x_8 < x_7 then (Option.bind (gi a_6 x_8) fun y1 => Option.bind (strconv_Itoa y1) fun y8 => if ByteArray.size y8 + ByteArray.size (ByteArray.mk #[44]) ≤ 9223372036854775807 then (if ByteArray.size s_3 + ByteArray.size (y8 ++ (ByteArray.mk #[44])) ≤ 9223372036854775807 then ((roadref2_nums.l0 (s_3 ++ (y8 ++ (ByteArray.mk #[44]))) a_6 x_7 (IntKind.wrap .i64 (x_8 + (1 : Int))))) else none) else none) else (some (s_3)) := fixF_eq roadref2_nums.l0_k.mono _
def roadref2_nums.l0_k.I : (p : roadref2_nums.l0_k.Pt) → (ByteArray) → Prop
  | .l0 s_3 a_6 x_7 x_8, r => ∀ (W : Nat → Prop) (h0 m0 h m : Heap) (A_6 : Option Addr) (n_6 c_6 : Nat) (O : Hold W h0 m0 h m []) (ne_6 : n_6 = List.length a_6) (k_6 : List.length a_6 ≤ c_6) (r_6 : Rd 1 (eInt .i64) m A_6 a_6) (tab : TB m), f42.l0 (roadref2_nums.post W h0 m0 r) s_3 A_6 n_6 c_6 x_7 x_8 h
set_option maxRecDepth 100000 in
theorem roadref2_nums.l0_k.step_l0 (go : (p : roadref2_nums.l0_k.Pt) → Option (ByteArray)) (ih : ∀ p r, go p = some r → roadref2_nums.l0_k.I p r) (s_3 : ByteArray) (a_6 : List Int) (x_7 : Int) (x_8 : Int) (r : ByteArray) (e : roadref2_nums.l0_k.body go (.l0 s_3 a_6 x_7 x_8) = some r) : roadref2_nums.l0_k.I (.l0 s_3 a_6 x_7 x_8) r := by
  unfold roadref2_nums.l0_k.body at e
  intro W h0 m0 h m A_6 n_6 c_6 O ne_6 k_6 r_6 tab
  subst ne_6
  refine f42.l0_in ?_
  unfold f42.l0T
  refine split_dec_e e (fun c17 e => ?_) (fun c17 e => ?_)
  · obtain ⟨y1, g2, e⟩ := bind_e e
    refine r_6.addr rfl g2 fun a3 cs4 ha5 hc6 he7 => ?_
    obtain rfl : cs4 = [(Value.int .i64 y1)] := he7
    refine ⟨_, ld0 O.s hc6 rfl, _, rfl, ?_⟩
    obtain ⟨y8, g9, e⟩ := bind_e e
    refine (strconv_Itoa.walk (Hold.start (W := No) O.s) tab g9).mono ?_
    rintro _ h10 ⟨m11, Q12, rfl⟩
    have O14 := Hold.nm (O.retC Q12 vfs_nil)
    refine ⟨_, rfl, ?_⟩
    obtain ⟨g15, e⟩ := guard_e e
    refine ⟨g15, ?_⟩
    obtain ⟨g16, e⟩ := guard_e e
    refine ⟨g16, ?_⟩
    exact (ih _ _ e) _ _ _ _ _ _ _ _ (O14.pick []).nm rfl k_6 r_6 tab
  · cases e
    exact ⟨_, O.pick [], rfl⟩
theorem roadref2_nums.l0_k.all {p : roadref2_nums.l0_k.Pt} {r : (ByteArray)} (e : roadref2_nums.l0_k.go p = some r) : roadref2_nums.l0_k.I p r := fixF_ind (β := fun _ => (ByteArray)) roadref2_nums.l0_k.mono (I := roadref2_nums.l0_k.I) (fun go ih p r e => match p with
  | .l0 s_3 a_6 x_7 x_8 => roadref2_nums.l0_k.step_l0 go ih s_3 a_6 x_7 x_8 r e
  ) e
theorem roadref2_nums.l0.walk {W : Nat → Prop} {h0 m0 h m : Heap} {A_6 : Option Addr} {n_6 c_6 : Nat} {s_3 : ByteArray} {a_6 : List Int} {x_7 : Int} {x_8 : Int} (O : Hold W h0 m0 h m []) (ne_6 : n_6 = List.length a_6) (k_6 : List.length a_6 ≤ c_6) (r_6 : Rd 1 (eInt .i64) m A_6 a_6) (tab : TB m) {r : ByteArray} (e : roadref2_nums.l0 s_3 a_6 x_7 x_8 = some r) : f42.l0 (roadref2_nums.post W h0 m0 r) s_3 A_6 n_6 c_6 x_7 x_8 h := roadref2_nums.l0_k.all (p := .l0 s_3 a_6 x_7 x_8) e W h0 m0 h m A_6 n_6 c_6 O ne_6 k_6 r_6 tab
noncomputable def roadref2_nums (a_0 : List Int) : Option (ByteArray) :=
  (roadref2_nums.l0 (ByteArray.mk #[]) a_0 (((List.length a_0) : Nat) : Int) (0 : Int))
set_option maxRecDepth 100000 in
theorem roadref2_nums.walk {W : Nat → Prop} {h m : Heap} {A_0 : Option Addr} {n_0 c_0 : Nat} {a_0 : List Int} (O : Hold W h m h m []) (ne_0 : n_0 = List.length a_0) (k_0 : List.length a_0 ≤ c_0) (r_0 : Rd 1 (eInt .i64) m A_0 a_0) (tab : TB m) {r : ByteArray} (e : roadref2_nums a_0 = some r) : Run Tryd.prog 42 #[Value.slice A_0 n_0 c_0] h (roadref2_nums.post W h m r) := by
  unfold roadref2_nums at e
  subst ne_0
  refine f42.run ?_
  unfold f42.runT
  exact roadref2_nums.l0.walk (O.pick []).nm rfl k_0 r_0 tab e
def roadref2_texts.post (W : Nat → Prop) (h0 m0 : Heap) (r : ByteArray) (v : Value) (h : Heap) : Prop := ∃ m , Hold W h0 m0 h m [] ∧ v = .string r
inductive roadref2_texts.l0_k.Pt where
  | l0 (s_3 : ByteArray) (a_6 : List ByteArray) (x_7 : Int) (x_8 : Int)
noncomputable def roadref2_texts.l0_k.body (go : (p : roadref2_texts.l0_k.Pt) → Option (ByteArray)) : (p : roadref2_texts.l0_k.Pt) → Option (ByteArray)
  | .l0 s_3 a_6 x_7 x_8 => if x_8 < x_7 then (Option.bind (gi a_6 x_8) fun y1 => Option.bind (roadref2_nums ([((ByteArray.size y1 : Nat) : Int)] : List Int)) fun y13 => if ByteArray.size y13 + ByteArray.size y1 ≤ 9223372036854775807 then (if ByteArray.size s_3 + ByteArray.size (y13 ++ y1) ≤ 9223372036854775807 then ((go (.l0 (s_3 ++ (y13 ++ y1)) a_6 x_7 (IntKind.wrap .i64 (x_8 + (1 : Int)))))) else none) else none) else (some (s_3))
theorem roadref2_texts.l0_k.mono : MonoF (β := fun _ => (ByteArray)) roadref2_texts.l0_k.body := fun f g hfg p => match p with
  | .l0 s_3 a_6 x_7 x_8 => LeO.ite (LeO.bind (LeO.refl _) fun y1 => LeO.bind (LeO.refl _) fun y13 => LeO.ite (LeO.ite ((hfg _)) (LeO.refl _)) (LeO.refl _)) (LeO.refl _)
noncomputable def roadref2_texts.l0_k.go (p : roadref2_texts.l0_k.Pt) : Option (ByteArray) := fixF (β := fun _ => (ByteArray)) roadref2_texts.l0_k.body p
noncomputable def roadref2_texts.l0 (s_3 : ByteArray) (a_6 : List ByteArray) (x_7 : Int) (x_8 : Int) : Option (ByteArray) := roadref2_texts.l0_k.go (.l0 s_3 a_6 x_7 x_8)
theorem roadref2_texts.l0_eq (s_3 : ByteArray) (a_6 : List ByteArray) (x_7 : Int) (x_8 : Int) : roadref2_texts.l0 s_3 a_6 x_7 x_8 = if x_8 < x_7 then (Option.bind (gi a_6 x_8) fun y1 => Option.bind (roadref2_nums ([((ByteArray.size y1 : Nat) : Int)] : List Int)) fun y13 => if ByteArray.size y13 + ByteArray.size y1 ≤ 9223372036854775807 then (if ByteArray.size s_3 + ByteArray.size (y13 ++ y1) ≤ 9223372036854775807 then ((roadref2_texts.l0 (s_3 ++ (y13 ++ y1)) a_6 x_7 (IntKind.wrap .i64 (x_8 + (1 : Int))))) else none) else none) else (some (s_3)) := fixF_eq roadref2_texts.l0_k.mono _
def roadref2_texts.l0_k.I : (p : roadref2_texts.l0_k.Pt) → (ByteArray) → Prop
  | .l0 s_3 a_6 x_7 x_8, r => ∀ (W : Nat → Prop) (h0 m0 h m : Heap) (A_6 : Option Addr) (n_6 c_6 : Nat) (O : Hold W h0 m0 h m []) (ne_6 : n_6 = List.length a_6) (k_6 : List.length a_6 ≤ c_6) (r_6 : Rd 1 eStr m A_6 a_6) (tab : TB m), f41.l0 (roadref2_texts.post W h0 m0 r) s_3 A_6 n_6 c_6 x_7 x_8 h
set_option maxRecDepth 100000 in
theorem roadref2_texts.l0_k.step_l0 (go : (p : roadref2_texts.l0_k.Pt) → Option (ByteArray)) (ih : ∀ p r, go p = some r → roadref2_texts.l0_k.I p r) (s_3 : ByteArray) (a_6 : List ByteArray) (x_7 : Int) (x_8 : Int) (r : ByteArray) (e : roadref2_texts.l0_k.body go (.l0 s_3 a_6 x_7 x_8) = some r) : roadref2_texts.l0_k.I (.l0 s_3 a_6 x_7 x_8) r := by
  unfold roadref2_texts.l0_k.body at e
  intro W h0 m0 h m A_6 n_6 c_6 O ne_6 k_6 r_6 tab
  subst ne_6
  refine f41.l0_in ?_
  unfold f41.l0T
  refine split_dec_e e (fun c30 e => ?_) (fun c30 e => ?_)
  · obtain ⟨y1, g2, e⟩ := bind_e e
    refine r_6.addr rfl g2 fun a3 cs4 ha5 hc6 he7 => ?_
    obtain rfl : cs4 = [(Value.string y1)] := he7
    refine ⟨_, ld0 O.s hc6 rfl, _, rfl, ?_⟩
    refine O.new fun h8 x9 O10 => ?_
    obtain ⟨y13, g14, e⟩ := bind_e e
    have O12 := O10.rowE (l := ([((ByteArray.size y1 : Nat) : Int)] : List Int)) 0 rfl (tell_int .i64) (show CsE _ _ _ _ _ from (CsE.cons (c1 := [(Value.int .i64 ((ByteArray.size y1 : Nat) : Int))]) rfl rfl CsE.nil)) rfl
    have O19 := O12.nm
    obtain ⟨m20, u21, s26, ⟨⟨r24, k25⟩, _⟩, B22, C23⟩ := O19.lend0 [0]
    replace r24 : Rd 1 (eInt .i64) m20 (some ⟨(Array.size h), 0, none⟩) ([((ByteArray.size y1 : Nat) : Int)] : List Int) := r24
    replace k25 : List.length ([((ByteArray.size y1 : Nat) : Int)] : List Int) ≤ 1 := k25
    refine (roadref2_nums.walk (Hold.start (W := No) s26) rfl k25 r24 (TBg.sub tab u21) g14).mono ?_
    rintro _ h15 ⟨m16, Q17, rfl⟩
    have O27 := Hold.nm (C23 Q17 vfs_nil)
    refine ⟨_, rfl, ?_⟩
    obtain ⟨g28, e⟩ := guard_e e
    refine ⟨g28, ?_⟩
    obtain ⟨g29, e⟩ := guard_e e
    refine ⟨g29, ?_⟩
    exact (ih _ _ e) _ _ _ _ _ _ _ _ (O27.pick []).nm rfl k_6 r_6 tab
  · cases e
    exact ⟨_, O.pick [], rfl⟩
theorem roadref2_texts.l0_k.all {p : roadref2_texts.l0_k.Pt} {r : (ByteArray)} (e : roadref2_texts.l0_k.go p = some r) : roadref2_texts.l0_k.I p r := fixF_ind (β := fun _ => (ByteArray)) roadref2_texts.l0_k.mono (I := roadref2_texts.l0_k.I) (fun go ih p r e => match p with
  | .l0 s_3 a_6 x_7 x_8 => roadref2_texts.l0_k.step_l0 go ih s_3 a_6 x_7 x_8 r e
  ) e
theorem roadref2_texts.l0.walk {W : Nat → Prop} {h0 m0 h m : Heap} {A_6 : Option Addr} {n_6 c_6 : Nat} {s_3 : ByteArray} {a_6 : List ByteArray} {x_7 : Int} {x_8 : Int} (O : Hold W h0 m0 h m []) (ne_6 : n_6 = List.length a_6) (k_6 : List.length a_6 ≤ c_6) (r_6 : Rd 1 eStr m A_6 a_6) (tab : TB m) {r : ByteArray} (e : roadref2_texts.l0 s_3 a_6 x_7 x_8 = some r) : f41.l0 (roadref2_texts.post W h0 m0 r) s_3 A_6 n_6 c_6 x_7 x_8 h := roadref2_texts.l0_k.all (p := .l0 s_3 a_6 x_7 x_8) e W h0 m0 h m A_6 n_6 c_6 O ne_6 k_6 r_6 tab
noncomputable def roadref2_texts (a_0 : List ByteArray) : Option (ByteArray) :=
  (roadref2_texts.l0 (ByteArray.mk #[]) a_0 (((List.length a_0) : Nat) : Int) (0 : Int))
set_option maxRecDepth 100000 in
theorem roadref2_texts.walk {W : Nat → Prop} {h m : Heap} {A_0 : Option Addr} {n_0 c_0 : Nat} {a_0 : List ByteArray} (O : Hold W h m h m []) (ne_0 : n_0 = List.length a_0) (k_0 : List.length a_0 ≤ c_0) (r_0 : Rd 1 eStr m A_0 a_0) (tab : TB m) {r : ByteArray} (e : roadref2_texts a_0 = some r) : Run Tryd.prog 41 #[Value.slice A_0 n_0 c_0] h (roadref2_texts.post W h m r) := by
  unfold roadref2_texts at e
  subst ne_0
  refine f41.run ?_
  unfold f41.runT
  exact roadref2_texts.l0.walk (O.pick []).nm rfl k_0 r_0 tab e
def roadref2_TypeMark.post (W : Nat → Prop) (h0 m0 : Heap) (r : ByteArray) (v : Value) (h : Heap) : Prop := ∃ m , Hold W h0 m0 h m [] ∧ v = .string r
inductive roadref2_TypeMark_k.Pt where
  | f (y_0 : T_api_Type)
  | j0 (y_1 : T_api_Type) (s_3 : ByteArray)
  | l0 (s_3 : ByteArray) (a_19 : List T_api_Type) (x_20 : Int) (x_21 : Int)
noncomputable def roadref2_TypeMark_k.body (go : (p : roadref2_TypeMark_k.Pt) → Option (ByteArray)) : (p : roadref2_TypeMark_k.Pt) → Option (ByteArray)
  | .f y_0 => Option.bind (roadref2_nums ([y_0.Kind, (((List.length y_0.Args) : Nat) : Int)] : List Int)) fun y15 => Option.bind (roadref2_texts ([y_0.Name] : List ByteArray)) fun y35 => if ByteArray.size y15 + ByteArray.size y35 ≤ 9223372036854775807 then ((go (.j0 y_0 (y15 ++ y35)))) else none
  | .j0 y_1 s_3 => (go (.l0 s_3 y_1.Args (((List.length y_1.Args) : Nat) : Int) (0 : Int)))
  | .l0 s_3 a_19 x_20 x_21 => if x_21 < x_20 then (Option.bind (gi a_19 x_21) fun y1 => Option.bind ((go (.f y1))) fun y14 => if ByteArray.size s_3 + ByteArray.size y14 ≤ 9223372036854775807 then ((go (.l0 (s_3 ++ y14) a_19 x_20 (IntKind.wrap .i64 (x_21 + (1 : Int)))))) else none) else (some (s_3))
theorem roadref2_TypeMark_k.mono : MonoF (β := fun _ => (ByteArray)) roadref2_TypeMark_k.body := fun f g hfg p => match p with
  | .f y_0 => LeO.bind (LeO.refl _) fun y15 => LeO.bind (LeO.refl _) fun y35 => LeO.ite ((hfg _)) (LeO.refl _)
  | .j0 y_1 s_3 => (hfg _)
  | .l0 s_3 a_19 x_20 x_21 => LeO.ite (LeO.bind (LeO.refl _) fun y1 => LeO.bind ((hfg _)) fun y14 => LeO.ite ((hfg _)) (LeO.refl _)) (LeO.refl _)
noncomputable def roadref2_TypeMark_k.go (p : roadref2_TypeMark_k.Pt) : Option (ByteArray) := fixF (β := fun _ => (ByteArray)) roadref2_TypeMark_k.body p
noncomputable def roadref2_TypeMark (y_0 : T_api_Type) : Option (ByteArray) := roadref2_TypeMark_k.go (.f y_0)
noncomputable def roadref2_TypeMark.j0 (y_1 : T_api_Type) (s_3 : ByteArray) : Option (ByteArray) := roadref2_TypeMark_k.go (.j0 y_1 s_3)
noncomputable def roadref2_TypeMark.l0 (s_3 : ByteArray) (a_19 : List T_api_Type) (x_20 : Int) (x_21 : Int) : Option (ByteArray) := roadref2_TypeMark_k.go (.l0 s_3 a_19 x_20 x_21)
theorem roadref2_TypeMark_eq (y_0 : T_api_Type) : roadref2_TypeMark y_0 = Option.bind (roadref2_nums ([y_0.Kind, (((List.length y_0.Args) : Nat) : Int)] : List Int)) fun y15 => Option.bind (roadref2_texts ([y_0.Name] : List ByteArray)) fun y35 => if ByteArray.size y15 + ByteArray.size y35 ≤ 9223372036854775807 then ((roadref2_TypeMark.j0 y_0 (y15 ++ y35))) else none := fixF_eq roadref2_TypeMark_k.mono _
theorem roadref2_TypeMark.j0_eq (y_1 : T_api_Type) (s_3 : ByteArray) : roadref2_TypeMark.j0 y_1 s_3 = (roadref2_TypeMark.l0 s_3 y_1.Args (((List.length y_1.Args) : Nat) : Int) (0 : Int)) := fixF_eq roadref2_TypeMark_k.mono _
theorem roadref2_TypeMark.l0_eq (s_3 : ByteArray) (a_19 : List T_api_Type) (x_20 : Int) (x_21 : Int) : roadref2_TypeMark.l0 s_3 a_19 x_20 x_21 = if x_21 < x_20 then (Option.bind (gi a_19 x_21) fun y1 => Option.bind ((roadref2_TypeMark y1)) fun y14 => if ByteArray.size s_3 + ByteArray.size y14 ≤ 9223372036854775807 then ((roadref2_TypeMark.l0 (s_3 ++ y14) a_19 x_20 (IntKind.wrap .i64 (x_21 + (1 : Int))))) else none) else (some (s_3)) := fixF_eq roadref2_TypeMark_k.mono _
def roadref2_TypeMark_k.I : (p : roadref2_TypeMark_k.Pt) → (ByteArray) → Prop
  | .f y_0, r => ∀ (W : Nat → Prop) (h m : Heap) (cs_0 : List Value) (O : Hold W h m h m []) (e_0 : T_api_Type.E m y_0 cs_0) (tab : TB m), Run Tryd.prog 46 #[Value.agg cs_0.toArray] h (roadref2_TypeMark.post W h m r)
  | .j0 y_1 s_3, r => ∀ (W : Nat → Prop) (h0 m0 h m : Heap) (bk_1 : Nat) (cs_1 : List Value) (O : Hold W h0 m0 h m [rV bk_1 59 cs_1]) (e_1 : T_api_Type.E m y_1 cs_1) (tab : TB m), f46.j0 (roadref2_TypeMark.post W h0 m0 r) (⟨bk_1, 0, none⟩ : Addr) s_3 h
  | .l0 s_3 a_19 x_20 x_21, r => ∀ (W : Nat → Prop) (h0 m0 h m : Heap) (A_19 : Option Addr) (n_19 c_19 : Nat) (O : Hold W h0 m0 h m []) (ne_19 : n_19 = List.length a_19) (k_19 : List.length a_19 ≤ c_19) (r_19 : Rd 3 T_api_Type.E m A_19 a_19) (tab : TB m), f46.l0 (roadref2_TypeMark.post W h0 m0 r) s_3 A_19 n_19 c_19 x_20 x_21 h
set_option maxHeartbeats 4000000 in
set_option maxRecDepth 100000 in
theorem roadref2_TypeMark_k.step_f (go : (p : roadref2_TypeMark_k.Pt) → Option (ByteArray)) (ih : ∀ p r, go p = some r → roadref2_TypeMark_k.I p r) (y_0 : T_api_Type) (r : ByteArray) (e : roadref2_TypeMark_k.body go (.f y_0) = some r) : roadref2_TypeMark_k.I (.f y_0) r := by
  unfold roadref2_TypeMark_k.body at e
  intro W h m cs_0 O e_0 tab
  refine f46.run ?_
  unfold f46.runT
  refine O.new fun h1 x2 O3 => ?_
  refine ⟨_, ld0 (Sub.refl _) (O3.all 0 rfl) (T_api_Type.g0 e_0), _, rfl, ?_⟩
  obtain ⟨A5, c6, q7, k8, r9⟩ := T_api_Type.g2 e_0
  refine ⟨_, ldk (k := 2) (Sub.refl _) (O3.all 0 rfl) q7, _, _, _, rfl, ?_⟩
  obtain ⟨y15, g16, e⟩ := bind_e e
  obtain ⟨y35, g36, e⟩ := bind_e e
  refine ⟨?_, ?_⟩
  · refine O3.new fun h51 x52 O53 => ?_
    refine ⟨?_, ?_⟩
    · have O55 := O53.rowE (l := ([y_0.Kind, (((List.length y_0.Args) : Nat) : Int)] : List Int)) 1 rfl (tell_int .i64) (show CsE _ _ _ _ _ from (CsE.cons (c1 := [(Value.int .i64 y_0.Kind)]) rfl rfl (CsE.cons (c1 := [(Value.int .i64 (((List.length y_0.Args) : Nat) : Int))]) rfl rfl CsE.nil))) rfl
      have O62 := O55.nm
      obtain ⟨m63, u64, s69, ⟨⟨r67, k68⟩, _⟩, B65, C66⟩ := O62.lend0 [1]
      replace r67 : Rd 1 (eInt .i64) m63 (some ⟨(Array.size h1), 0, none⟩) ([y_0.Kind, (((List.length y_0.Args) : Nat) : Int)] : List Int) := r67
      replace k68 : List.length ([y_0.Kind, (((List.length y_0.Args) : Nat) : Int)] : List Int) ≤ 2 := k68
      refine (roadref2_nums.walk (Hold.start (W := No) s69) rfl k68 r67 (TBg.sub tab u64) g16).mono ?_
      rintro _ h58 ⟨m59, Q60, rfl⟩
      have O70 := Hold.nm (C66 Q60 vfs_nil)
      refine ⟨_, rfl, ?_⟩
      refine ⟨_, ldk (k := 1) (Sub.refl _) (O70.all 0 rfl) (T_api_Type.g1 e_0), _, rfl, ?_⟩
      refine ⟨Ext.refl _, ?_⟩
      refine O70.new fun h71 x72 O73 => ?_
      refine ⟨x72, ?_⟩
      have O75 := O73.rowE (l := ([y_0.Name] : List ByteArray)) 2 rfl tell_str (show CsE _ _ _ _ _ from (CsE.cons (c1 := [(Value.string y_0.Name)]) rfl rfl CsE.nil)) rfl
      have O82 := O75.nm
      obtain ⟨m83, u84, s89, ⟨⟨r87, k88⟩, _⟩, B85, C86⟩ := O82.lend0 [2]
      replace r87 : Rd 1 eStr m83 (some ⟨(Array.size h58), 0, none⟩) ([y_0.Name] : List ByteArray) := r87
      replace k88 : List.length ([y_0.Name] : List ByteArray) ≤ 1 := k88
      refine (roadref2_texts.walk (Hold.start (W := No) s89) rfl k88 r87 (TBg.sub tab u84) g36).mono ?_
      rintro _ h78 ⟨m79, Q80, rfl⟩
      have O90 := Hold.nm (C86 Q80 vfs_nil)
      refine ⟨_, rfl, ?_⟩
      obtain ⟨g91, e⟩ := guard_e e
      refine ⟨g91, ?_⟩
      exact (ih _ _ e) _ _ _ _ _ _ _ (O90.pick [0]).nm e_0 tab
    · refine ⟨_, ldk (k := 1) (Sub.refl _) (O53.all 0 rfl) (T_api_Type.g1 e_0), _, rfl, ?_⟩
      refine ⟨Ext.refl _, ?_⟩
      refine ⟨?_, ?_⟩
      · have O92 := O53.rowE (l := ([y_0.Kind, (((List.length y_0.Args) : Nat) : Int)] : List Int)) 1 rfl (tell_int .i64) (show CsE _ _ _ _ _ from (CsE.cons (c1 := [(Value.int .i64 y_0.Kind)]) rfl rfl (CsE.cons (c1 := [(Value.int .i64 (((List.length y_0.Args) : Nat) : Int))]) rfl rfl CsE.nil))) rfl
        have O99 := O92.nm
        obtain ⟨m100, u101, s106, ⟨⟨r104, k105⟩, _⟩, B102, C103⟩ := O99.lend0 [1]
        replace r104 : Rd 1 (eInt .i64) m100 (some ⟨(Array.size h1), 0, none⟩) ([y_0.Kind, (((List.length y_0.Args) : Nat) : Int)] : List Int) := r104
        replace k105 : List.length ([y_0.Kind, (((List.length y_0.Args) : Nat) : Int)] : List Int) ≤ 2 := k105
        refine (roadref2_nums.walk (Hold.start (W := No) s106) rfl k105 r104 (TBg.sub tab u101) g16).mono ?_
        rintro _ h95 ⟨m96, Q97, rfl⟩
        have O107 := Hold.nm (C103 Q97 vfs_nil)
        refine ⟨_, rfl, ?_⟩
        refine O107.new fun h108 x109 O110 => ?_
        refine ⟨x109, ?_⟩
        have O112 := O110.rowE (l := ([y_0.Name] : List ByteArray)) 2 rfl tell_str (show CsE _ _ _ _ _ from (CsE.cons (c1 := [(Value.string y_0.Name)]) rfl rfl CsE.nil)) rfl
        have O119 := O112.nm
        obtain ⟨m120, u121, s126, ⟨⟨r124, k125⟩, _⟩, B122, C123⟩ := O119.lend0 [2]
        replace r124 : Rd 1 eStr m120 (some ⟨(Array.size h95), 0, none⟩) ([y_0.Name] : List ByteArray) := r124
        replace k125 : List.length ([y_0.Name] : List ByteArray) ≤ 1 := k125
        refine (roadref2_texts.walk (Hold.start (W := No) s126) rfl k125 r124 (TBg.sub tab u121) g36).mono ?_
        rintro _ h115 ⟨m116, Q117, rfl⟩
        have O127 := Hold.nm (C123 Q117 vfs_nil)
        refine ⟨_, rfl, ?_⟩
        obtain ⟨g128, e⟩ := guard_e e
        refine ⟨g128, ?_⟩
        exact (ih _ _ e) _ _ _ _ _ _ _ (O127.pick [0]).nm e_0 tab
      · refine O53.new fun h129 x130 O131 => ?_
        refine ⟨x130, ?_⟩
        have O133 := O131.rowE (l := ([y_0.Kind, (((List.length y_0.Args) : Nat) : Int)] : List Int)) 1 rfl (tell_int .i64) (show CsE _ _ _ _ _ from (CsE.cons (c1 := [(Value.int .i64 y_0.Kind)]) rfl rfl (CsE.cons (c1 := [(Value.int .i64 (((List.length y_0.Args) : Nat) : Int))]) rfl rfl CsE.nil))) rfl
        have O140 := O133.nm
        obtain ⟨m141, u142, s147, ⟨⟨r145, k146⟩, _⟩, B143, C144⟩ := O140.lend0 [1]
        replace r145 : Rd 1 (eInt .i64) m141 (some ⟨(Array.size h1), 0, none⟩) ([y_0.Kind, (((List.length y_0.Args) : Nat) : Int)] : List Int) := r145
        replace k146 : List.length ([y_0.Kind, (((List.length y_0.Args) : Nat) : Int)] : List Int) ≤ 2 := k146
        refine (roadref2_nums.walk (Hold.start (W := No) s147) rfl k146 r145 (TBg.sub tab u142) g16).mono ?_
        rintro _ h136 ⟨m137, Q138, rfl⟩
        have O148 := Hold.nm (C144 Q138 vfs_nil)
        refine ⟨_, rfl, ?_⟩
        have O149 := O148.rowE (l := ([y_0.Name] : List ByteArray)) 2 rfl tell_str (show CsE _ _ _ _ _ from (CsE.cons (c1 := [(Value.string y_0.Name)]) rfl rfl CsE.nil)) rfl
        have O156 := O149.nm
        obtain ⟨m157, u158, s163, ⟨⟨r161, k162⟩, _⟩, B159, C160⟩ := O156.lend0 [2]
        replace r161 : Rd 1 eStr m157 (some ⟨(Array.size h51), 0, none⟩) ([y_0.Name] : List ByteArray) := r161
        replace k162 : List.length ([y_0.Name] : List ByteArray) ≤ 1 := k162
        refine (roadref2_texts.walk (Hold.start (W := No) s163) rfl k162 r161 (TBg.sub tab u158) g36).mono ?_
        rintro _ h152 ⟨m153, Q154, rfl⟩
        have O164 := Hold.nm (C160 Q154 vfs_nil)
        refine ⟨_, rfl, ?_⟩
        obtain ⟨g165, e⟩ := guard_e e
        refine ⟨g165, ?_⟩
        exact (ih _ _ e) _ _ _ _ _ _ _ (O164.pick [0]).nm e_0 tab
  · refine ⟨_, ldk (k := 1) (Sub.refl _) (O3.all 0 rfl) (T_api_Type.g1 e_0), _, rfl, ?_⟩
    refine ⟨Ext.refl _, ?_⟩
    refine ⟨?_, ?_⟩
    · refine O3.new fun h166 x167 O168 => ?_
      refine ⟨?_, ?_⟩
      · have O170 := O168.rowE (l := ([y_0.Kind, (((List.length y_0.Args) : Nat) : Int)] : List Int)) 1 rfl (tell_int .i64) (show CsE _ _ _ _ _ from (CsE.cons (c1 := [(Value.int .i64 y_0.Kind)]) rfl rfl (CsE.cons (c1 := [(Value.int .i64 (((List.length y_0.Args) : Nat) : Int))]) rfl rfl CsE.nil))) rfl
        have O177 := O170.nm
        obtain ⟨m178, u179, s184, ⟨⟨r182, k183⟩, _⟩, B180, C181⟩ := O177.lend0 [1]
        replace r182 : Rd 1 (eInt .i64) m178 (some ⟨(Array.size h1), 0, none⟩) ([y_0.Kind, (((List.length y_0.Args) : Nat) : Int)] : List Int) := r182
        replace k183 : List.length ([y_0.Kind, (((List.length y_0.Args) : Nat) : Int)] : List Int) ≤ 2 := k183
        refine (roadref2_nums.walk (Hold.start (W := No) s184) rfl k183 r182 (TBg.sub tab u179) g16).mono ?_
        rintro _ h173 ⟨m174, Q175, rfl⟩
        have O185 := Hold.nm (C181 Q175 vfs_nil)
        refine ⟨_, rfl, ?_⟩
        refine O185.new fun h186 x187 O188 => ?_
        refine ⟨x187, ?_⟩
        have O190 := O188.rowE (l := ([y_0.Name] : List ByteArray)) 2 rfl tell_str (show CsE _ _ _ _ _ from (CsE.cons (c1 := [(Value.string y_0.Name)]) rfl rfl CsE.nil)) rfl
        have O197 := O190.nm
        obtain ⟨m198, u199, s204, ⟨⟨r202, k203⟩, _⟩, B200, C201⟩ := O197.lend0 [2]
        replace r202 : Rd 1 eStr m198 (some ⟨(Array.size h173), 0, none⟩) ([y_0.Name] : List ByteArray) := r202
        replace k203 : List.length ([y_0.Name] : List ByteArray) ≤ 1 := k203
        refine (roadref2_texts.walk (Hold.start (W := No) s204) rfl k203 r202 (TBg.sub tab u199) g36).mono ?_
        rintro _ h193 ⟨m194, Q195, rfl⟩
        have O205 := Hold.nm (C201 Q195 vfs_nil)
        refine ⟨_, rfl, ?_⟩
        obtain ⟨g206, e⟩ := guard_e e
        refine ⟨g206, ?_⟩
        exact (ih _ _ e) _ _ _ _ _ _ _ (O205.pick [0]).nm e_0 tab
      · refine O168.new fun h207 x208 O209 => ?_
        refine ⟨x208, ?_⟩
        have O211 := O209.rowE (l := ([y_0.Kind, (((List.length y_0.Args) : Nat) : Int)] : List Int)) 1 rfl (tell_int .i64) (show CsE _ _ _ _ _ from (CsE.cons (c1 := [(Value.int .i64 y_0.Kind)]) rfl rfl (CsE.cons (c1 := [(Value.int .i64 (((List.length y_0.Args) : Nat) : Int))]) rfl rfl CsE.nil))) rfl
        have O218 := O211.nm
        obtain ⟨m219, u220, s225, ⟨⟨r223, k224⟩, _⟩, B221, C222⟩ := O218.lend0 [1]
        replace r223 : Rd 1 (eInt .i64) m219 (some ⟨(Array.size h1), 0, none⟩) ([y_0.Kind, (((List.length y_0.Args) : Nat) : Int)] : List Int) := r223
        replace k224 : List.length ([y_0.Kind, (((List.length y_0.Args) : Nat) : Int)] : List Int) ≤ 2 := k224
        refine (roadref2_nums.walk (Hold.start (W := No) s225) rfl k224 r223 (TBg.sub tab u220) g16).mono ?_
        rintro _ h214 ⟨m215, Q216, rfl⟩
        have O226 := Hold.nm (C222 Q216 vfs_nil)
        refine ⟨_, rfl, ?_⟩
        have O227 := O226.rowE (l := ([y_0.Name] : List ByteArray)) 2 rfl tell_str (show CsE _ _ _ _ _ from (CsE.cons (c1 := [(Value.string y_0.Name)]) rfl rfl CsE.nil)) rfl
        have O234 := O227.nm
        obtain ⟨m235, u236, s241, ⟨⟨r239, k240⟩, _⟩, B237, C238⟩ := O234.lend0 [2]
        replace r239 : Rd 1 eStr m235 (some ⟨(Array.size h166), 0, none⟩) ([y_0.Name] : List ByteArray) := r239
        replace k240 : List.length ([y_0.Name] : List ByteArray) ≤ 1 := k240
        refine (roadref2_texts.walk (Hold.start (W := No) s241) rfl k240 r239 (TBg.sub tab u236) g36).mono ?_
        rintro _ h230 ⟨m231, Q232, rfl⟩
        have O242 := Hold.nm (C238 Q232 vfs_nil)
        refine ⟨_, rfl, ?_⟩
        obtain ⟨g243, e⟩ := guard_e e
        refine ⟨g243, ?_⟩
        exact (ih _ _ e) _ _ _ _ _ _ _ (O242.pick [0]).nm e_0 tab
    · refine O3.new fun h244 x245 O246 => ?_
      refine ⟨x245, ?_⟩
      refine O246.new fun h248 x249 O250 => ?_
      have O252 := O250.rowE (l := ([y_0.Kind, (((List.length y_0.Args) : Nat) : Int)] : List Int)) 2 rfl (tell_int .i64) (show CsE _ _ _ _ _ from (CsE.cons (c1 := [(Value.int .i64 y_0.Kind)]) rfl rfl (CsE.cons (c1 := [(Value.int .i64 (((List.length y_0.Args) : Nat) : Int))]) rfl rfl CsE.nil))) rfl
      have O259 := O252.nm
      obtain ⟨m260, u261, s266, ⟨⟨r264, k265⟩, _⟩, B262, C263⟩ := O259.lend0 [2]
      replace r264 : Rd 1 (eInt .i64) m260 (some ⟨(Array.size h244), 0, none⟩) ([y_0.Kind, (((List.length y_0.Args) : Nat) : Int)] : List Int) := r264
      replace k265 : List.length ([y_0.Kind, (((List.length y_0.Args) : Nat) : Int)] : List Int) ≤ 2 := k265
      refine (roadref2_nums.walk (Hold.start (W := No) s266) rfl k265 r264 (TBg.sub tab u261) g16).mono ?_
      rintro _ h255 ⟨m256, Q257, rfl⟩
      have O267 := Hold.nm (C263 Q257 vfs_nil)
      refine ⟨_, rfl, ?_⟩
      have O268 := O267.rowE (l := ([y_0.Name] : List ByteArray)) 1 rfl tell_str (show CsE _ _ _ _ _ from (CsE.cons (c1 := [(Value.string y_0.Name)]) rfl rfl CsE.nil)) rfl
      have O275 := O268.nm
      obtain ⟨m276, u277, s282, ⟨⟨r280, k281⟩, _⟩, B278, C279⟩ := O275.lend0 [1]
      replace r280 : Rd 1 eStr m276 (some ⟨(Array.size h1), 0, none⟩) ([y_0.Name] : List ByteArray) := r280
      replace k281 : List.length ([y_0.Name] : List ByteArray) ≤ 1 := k281
      refine (roadref2_texts.walk (Hold.start (W := No) s282) rfl k281 r280 (TBg.sub tab u277) g36).mono ?_
      rintro _ h271 ⟨m272, Q273, rfl⟩
      have O283 := Hold.nm (C279 Q273 vfs_nil)
      refine ⟨_, rfl, ?_⟩
      obtain ⟨g284, e⟩ := guard_e e
      refine ⟨g284, ?_⟩
      exact (ih _ _ e) _ _ _ _ _ _ _ (O283.pick [0]).nm e_0 tab
set_option maxRecDepth 100000 in
theorem roadref2_TypeMark_k.step_j0 (go : (p : roadref2_TypeMark_k.Pt) → Option (ByteArray)) (ih : ∀ p r, go p = some r → roadref2_TypeMark_k.I p r) (y_1 : T_api_Type) (s_3 : ByteArray) (r : ByteArray) (e : roadref2_TypeMark_k.body go (.j0 y_1 s_3) = some r) : roadref2_TypeMark_k.I (.j0 y_1 s_3) r := by
  unfold roadref2_TypeMark_k.body at e
  intro W h0 m0 h m bk_1 cs_1 O e_1 tab
  refine f46.j0_in ?_
  unfold f46.j0T
  obtain ⟨A1, c2, q3, k4, r5⟩ := T_api_Type.g2 e_1
  refine ⟨_, ldk (k := 2) (Sub.refl _) (O.all 0 rfl) q3, _, _, _, rfl, ?_⟩
  exact (ih _ _ e) _ _ _ _ _ _ _ _ (O.pick []).nm rfl k4 r5 tab
set_option maxRecDepth 100000 in
theorem roadref2_TypeMark_k.step_l0 (go : (p : roadref2_TypeMark_k.Pt) → Option (ByteArray)) (ih : ∀ p r, go p = some r → roadref2_TypeMark_k.I p r) (s_3 : ByteArray) (a_19 : List T_api_Type) (x_20 : Int) (x_21 : Int) (r : ByteArray) (e : roadref2_TypeMark_k.body go (.l0 s_3 a_19 x_20 x_21) = some r) : roadref2_TypeMark_k.I (.l0 s_3 a_19 x_20 x_21) r := by
  unfold roadref2_TypeMark_k.body at e
  intro W h0 m0 h m A_19 n_19 c_19 O ne_19 k_19 r_19 tab
  subst ne_19
  refine f46.l0_in ?_
  unfold f46.l0T
  refine split_dec_e e (fun c22 e => ?_) (fun c22 e => ?_)
  · obtain ⟨y1, g2, e⟩ := bind_e e
    refine r_19.addr rfl g2 fun a3 cs4 ha5 hc6 he7 => ?_
    refine ⟨_, ldAn O.s hc6 rfl, ?_⟩
    refine O.new fun h8 x9 O10 => ?_
    refine ⟨_, rfl, (T_api_Type.T.len _ _ _ he7), ?_⟩
    refine O10.stA 0 rfl (T_api_Type.T.len _ _ _ he7) (T_api_Type.T.flat _ _ _ he7) fun h12 O13 => ?_
    refine ⟨_, ldAn (Sub.refl _) (O13.all 0 rfl) (T_api_Type.T.len _ _ _ he7), ?_⟩
    obtain ⟨y14, g15, e⟩ := bind_e e
    refine ((ih _ _ g15) _ _ _ _ (Hold.start (W := No) O13.s) he7 tab).mono ?_
    rintro _ h16 ⟨m17, Q18, rfl⟩
    have O20 := Hold.nm (O13.retC Q18 vfs_nil)
    refine ⟨_, rfl, ?_⟩
    obtain ⟨g21, e⟩ := guard_e e
    refine ⟨g21, ?_⟩
    exact (ih _ _ e) _ _ _ _ _ _ _ _ (O20.pick []).nm rfl k_19 r_19 tab
  · cases e
    exact ⟨_, O.pick [], rfl⟩
theorem roadref2_TypeMark_k.all {p : roadref2_TypeMark_k.Pt} {r : (ByteArray)} (e : roadref2_TypeMark_k.go p = some r) : roadref2_TypeMark_k.I p r := fixF_ind (β := fun _ => (ByteArray)) roadref2_TypeMark_k.mono (I := roadref2_TypeMark_k.I) (fun go ih p r e => match p with
  | .f y_0 => roadref2_TypeMark_k.step_f go ih y_0 r e
  | .j0 y_1 s_3 => roadref2_TypeMark_k.step_j0 go ih y_1 s_3 r e
  | .l0 s_3 a_19 x_20 x_21 => roadref2_TypeMark_k.step_l0 go ih s_3 a_19 x_20 x_21 r e
  ) e
theorem roadref2_TypeMark.walk {W : Nat → Prop} {h m : Heap} {cs_0 : List Value} {y_0 : T_api_Type} (O : Hold W h m h m []) (e_0 : T_api_Type.E m y_0 cs_0) (tab : TB m) {r : ByteArray} (e : roadref2_TypeMark y_0 = some r) : Run Tryd.prog 46 #[Value.agg cs_0.toArray] h (roadref2_TypeMark.post W h m r) := roadref2_TypeMark_k.all (p := .f y_0) e W h m cs_0 O e_0 tab
def roadref2_PatMark.post (W : Nat → Prop) (h0 m0 : Heap) (r : ByteArray) (v : Value) (h : Heap) : Prop := ∃ m , Hold W h0 m0 h m [] ∧ v = .string r
inductive roadref2_PatMark_k.Pt where
  | f (y_0 : T_api_Pat)
  | j0 (y_1 : T_api_Pat) (s_3 : ByteArray)
  | l0 (s_3 : ByteArray) (a_21 : List T_api_Pat) (x_22 : Int) (x_23 : Int)
noncomputable def roadref2_PatMark_k.body (go : (p : roadref2_PatMark_k.Pt) → Option (ByteArray)) : (p : roadref2_PatMark_k.Pt) → Option (ByteArray)
  | .f y_0 => Option.bind (roadref2_nums ([y_0.Kind, y_0.Num, (((List.length y_0.Args) : Nat) : Int)] : List Int)) fun y15 => Option.bind (roadref2_texts ([y_0.Text] : List ByteArray)) fun y35 => if ByteArray.size y15 + ByteArray.size y35 ≤ 9223372036854775807 then ((go (.j0 y_0 (y15 ++ y35)))) else none
  | .j0 y_1 s_3 => (go (.l0 s_3 y_1.Args (((List.length y_1.Args) : Nat) : Int) (0 : Int)))
  | .l0 s_3 a_21 x_22 x_23 => if x_23 < x_22 then (Option.bind (gi a_21 x_23) fun y1 => Option.bind ((go (.f y1))) fun y14 => if ByteArray.size s_3 + ByteArray.size y14 ≤ 9223372036854775807 then ((go (.l0 (s_3 ++ y14) a_21 x_22 (IntKind.wrap .i64 (x_23 + (1 : Int)))))) else none) else (some (s_3))
theorem roadref2_PatMark_k.mono : MonoF (β := fun _ => (ByteArray)) roadref2_PatMark_k.body := fun f g hfg p => match p with
  | .f y_0 => LeO.bind (LeO.refl _) fun y15 => LeO.bind (LeO.refl _) fun y35 => LeO.ite ((hfg _)) (LeO.refl _)
  | .j0 y_1 s_3 => (hfg _)
  | .l0 s_3 a_21 x_22 x_23 => LeO.ite (LeO.bind (LeO.refl _) fun y1 => LeO.bind ((hfg _)) fun y14 => LeO.ite ((hfg _)) (LeO.refl _)) (LeO.refl _)
noncomputable def roadref2_PatMark_k.go (p : roadref2_PatMark_k.Pt) : Option (ByteArray) := fixF (β := fun _ => (ByteArray)) roadref2_PatMark_k.body p
noncomputable def roadref2_PatMark (y_0 : T_api_Pat) : Option (ByteArray) := roadref2_PatMark_k.go (.f y_0)
noncomputable def roadref2_PatMark.j0 (y_1 : T_api_Pat) (s_3 : ByteArray) : Option (ByteArray) := roadref2_PatMark_k.go (.j0 y_1 s_3)
noncomputable def roadref2_PatMark.l0 (s_3 : ByteArray) (a_21 : List T_api_Pat) (x_22 : Int) (x_23 : Int) : Option (ByteArray) := roadref2_PatMark_k.go (.l0 s_3 a_21 x_22 x_23)
theorem roadref2_PatMark_eq (y_0 : T_api_Pat) : roadref2_PatMark y_0 = Option.bind (roadref2_nums ([y_0.Kind, y_0.Num, (((List.length y_0.Args) : Nat) : Int)] : List Int)) fun y15 => Option.bind (roadref2_texts ([y_0.Text] : List ByteArray)) fun y35 => if ByteArray.size y15 + ByteArray.size y35 ≤ 9223372036854775807 then ((roadref2_PatMark.j0 y_0 (y15 ++ y35))) else none := fixF_eq roadref2_PatMark_k.mono _
theorem roadref2_PatMark.j0_eq (y_1 : T_api_Pat) (s_3 : ByteArray) : roadref2_PatMark.j0 y_1 s_3 = (roadref2_PatMark.l0 s_3 y_1.Args (((List.length y_1.Args) : Nat) : Int) (0 : Int)) := fixF_eq roadref2_PatMark_k.mono _
theorem roadref2_PatMark.l0_eq (s_3 : ByteArray) (a_21 : List T_api_Pat) (x_22 : Int) (x_23 : Int) : roadref2_PatMark.l0 s_3 a_21 x_22 x_23 = if x_23 < x_22 then (Option.bind (gi a_21 x_23) fun y1 => Option.bind ((roadref2_PatMark y1)) fun y14 => if ByteArray.size s_3 + ByteArray.size y14 ≤ 9223372036854775807 then ((roadref2_PatMark.l0 (s_3 ++ y14) a_21 x_22 (IntKind.wrap .i64 (x_23 + (1 : Int))))) else none) else (some (s_3)) := fixF_eq roadref2_PatMark_k.mono _
def roadref2_PatMark_k.I : (p : roadref2_PatMark_k.Pt) → (ByteArray) → Prop
  | .f y_0, r => ∀ (W : Nat → Prop) (h m : Heap) (cs_0 : List Value) (O : Hold W h m h m []) (e_0 : T_api_Pat.E m y_0 cs_0) (tab : TB m), Run Tryd.prog 47 #[Value.agg cs_0.toArray] h (roadref2_PatMark.post W h m r)
  | .j0 y_1 s_3, r => ∀ (W : Nat → Prop) (h0 m0 h m : Heap) (bk_1 : Nat) (cs_1 : List Value) (O : Hold W h0 m0 h m [rV bk_1 48 cs_1]) (e_1 : T_api_Pat.E m y_1 cs_1) (tab : TB m), f47.j0 (roadref2_PatMark.post W h0 m0 r) (⟨bk_1, 0, none⟩ : Addr) s_3 h
  | .l0 s_3 a_21 x_22 x_23, r => ∀ (W : Nat → Prop) (h0 m0 h m : Heap) (A_21 : Option Addr) (n_21 c_21 : Nat) (O : Hold W h0 m0 h m []) (ne_21 : n_21 = List.length a_21) (k_21 : List.length a_21 ≤ c_21) (r_21 : Rd 4 T_api_Pat.E m A_21 a_21) (tab : TB m), f47.l0 (roadref2_PatMark.post W h0 m0 r) s_3 A_21 n_21 c_21 x_22 x_23 h
set_option maxHeartbeats 4000000 in
set_option maxRecDepth 100000 in
theorem roadref2_PatMark_k.step_f (go : (p : roadref2_PatMark_k.Pt) → Option (ByteArray)) (ih : ∀ p r, go p = some r → roadref2_PatMark_k.I p r) (y_0 : T_api_Pat) (r : ByteArray) (e : roadref2_PatMark_k.body go (.f y_0) = some r) : roadref2_PatMark_k.I (.f y_0) r := by
  unfold roadref2_PatMark_k.body at e
  intro W h m cs_0 O e_0 tab
  refine f47.run ?_
  unfold f47.runT
  refine O.new fun h1 x2 O3 => ?_
  refine ⟨_, ld0 (Sub.refl _) (O3.all 0 rfl) (T_api_Pat.g0 e_0), _, rfl, ?_⟩
  refine ⟨_, ldk (k := 1) (Sub.refl _) (O3.all 0 rfl) (T_api_Pat.g1 e_0), _, rfl, ?_⟩
  obtain ⟨A5, c6, q7, k8, r9⟩ := T_api_Pat.g3 e_0
  refine ⟨_, ldk (k := 3) (Sub.refl _) (O3.all 0 rfl) q7, _, _, _, rfl, ?_⟩
  obtain ⟨y15, g16, e⟩ := bind_e e
  obtain ⟨y35, g36, e⟩ := bind_e e
  refine ⟨?_, ?_⟩
  · refine O3.new fun h51 x52 O53 => ?_
    refine ⟨?_, ?_⟩
    · have O55 := O53.rowE (l := ([y_0.Kind, y_0.Num, (((List.length y_0.Args) : Nat) : Int)] : List Int)) 1 rfl (tell_int .i64) (show CsE _ _ _ _ _ from (CsE.cons (c1 := [(Value.int .i64 y_0.Kind)]) rfl rfl (CsE.cons (c1 := [(Value.int .i64 y_0.Num)]) rfl rfl (CsE.cons (c1 := [(Value.int .i64 (((List.length y_0.Args) : Nat) : Int))]) rfl rfl CsE.nil)))) rfl
      have O62 := O55.nm
      obtain ⟨m63, u64, s69, ⟨⟨r67, k68⟩, _⟩, B65, C66⟩ := O62.lend0 [1]
      replace r67 : Rd 1 (eInt .i64) m63 (some ⟨(Array.size h1), 0, none⟩) ([y_0.Kind, y_0.Num, (((List.length y_0.Args) : Nat) : Int)] : List Int) := r67
      replace k68 : List.length ([y_0.Kind, y_0.Num, (((List.length y_0.Args) : Nat) : Int)] : List Int) ≤ 3 := k68
      refine (roadref2_nums.walk (Hold.start (W := No) s69) rfl k68 r67 (TBg.sub tab u64) g16).mono ?_
      rintro _ h58 ⟨m59, Q60, rfl⟩
      have O70 := Hold.nm (C66 Q60 vfs_nil)
      refine ⟨_, rfl, ?_⟩
      refine ⟨_, ldk (k := 2) (Sub.refl _) (O70.all 0 rfl) (T_api_Pat.g2 e_0), _, rfl, ?_⟩
      refine ⟨Ext.refl _, ?_⟩
      refine O70.new fun h71 x72 O73 => ?_
      refine ⟨x72, ?_⟩
      have O75 := O73.rowE (l := ([y_0.Text] : List ByteArray)) 2 rfl tell_str (show CsE _ _ _ _ _ from (CsE.cons (c1 := [(Value.string y_0.Text)]) rfl rfl CsE.nil)) rfl
      have O82 := O75.nm
      obtain ⟨m83, u84, s89, ⟨⟨r87, k88⟩, _⟩, B85, C86⟩ := O82.lend0 [2]
      replace r87 : Rd 1 eStr m83 (some ⟨(Array.size h58), 0, none⟩) ([y_0.Text] : List ByteArray) := r87
      replace k88 : List.length ([y_0.Text] : List ByteArray) ≤ 1 := k88
      refine (roadref2_texts.walk (Hold.start (W := No) s89) rfl k88 r87 (TBg.sub tab u84) g36).mono ?_
      rintro _ h78 ⟨m79, Q80, rfl⟩
      have O90 := Hold.nm (C86 Q80 vfs_nil)
      refine ⟨_, rfl, ?_⟩
      obtain ⟨g91, e⟩ := guard_e e
      refine ⟨g91, ?_⟩
      exact (ih _ _ e) _ _ _ _ _ _ _ (O90.pick [0]).nm e_0 tab
    · refine ⟨_, ldk (k := 2) (Sub.refl _) (O53.all 0 rfl) (T_api_Pat.g2 e_0), _, rfl, ?_⟩
      refine ⟨Ext.refl _, ?_⟩
      refine ⟨?_, ?_⟩
      · have O92 := O53.rowE (l := ([y_0.Kind, y_0.Num, (((List.length y_0.Args) : Nat) : Int)] : List Int)) 1 rfl (tell_int .i64) (show CsE _ _ _ _ _ from (CsE.cons (c1 := [(Value.int .i64 y_0.Kind)]) rfl rfl (CsE.cons (c1 := [(Value.int .i64 y_0.Num)]) rfl rfl (CsE.cons (c1 := [(Value.int .i64 (((List.length y_0.Args) : Nat) : Int))]) rfl rfl CsE.nil)))) rfl
        have O99 := O92.nm
        obtain ⟨m100, u101, s106, ⟨⟨r104, k105⟩, _⟩, B102, C103⟩ := O99.lend0 [1]
        replace r104 : Rd 1 (eInt .i64) m100 (some ⟨(Array.size h1), 0, none⟩) ([y_0.Kind, y_0.Num, (((List.length y_0.Args) : Nat) : Int)] : List Int) := r104
        replace k105 : List.length ([y_0.Kind, y_0.Num, (((List.length y_0.Args) : Nat) : Int)] : List Int) ≤ 3 := k105
        refine (roadref2_nums.walk (Hold.start (W := No) s106) rfl k105 r104 (TBg.sub tab u101) g16).mono ?_
        rintro _ h95 ⟨m96, Q97, rfl⟩
        have O107 := Hold.nm (C103 Q97 vfs_nil)
        refine ⟨_, rfl, ?_⟩
        refine O107.new fun h108 x109 O110 => ?_
        refine ⟨x109, ?_⟩
        have O112 := O110.rowE (l := ([y_0.Text] : List ByteArray)) 2 rfl tell_str (show CsE _ _ _ _ _ from (CsE.cons (c1 := [(Value.string y_0.Text)]) rfl rfl CsE.nil)) rfl
        have O119 := O112.nm
        obtain ⟨m120, u121, s126, ⟨⟨r124, k125⟩, _⟩, B122, C123⟩ := O119.lend0 [2]
        replace r124 : Rd 1 eStr m120 (some ⟨(Array.size h95), 0, none⟩) ([y_0.Text] : List ByteArray) := r124
        replace k125 : List.length ([y_0.Text] : List ByteArray) ≤ 1 := k125
        refine (roadref2_texts.walk (Hold.start (W := No) s126) rfl k125 r124 (TBg.sub tab u121) g36).mono ?_
        rintro _ h115 ⟨m116, Q117, rfl⟩
        have O127 := Hold.nm (C123 Q117 vfs_nil)
        refine ⟨_, rfl, ?_⟩
        obtain ⟨g128, e⟩ := guard_e e
        refine ⟨g128, ?_⟩
        exact (ih _ _ e) _ _ _ _ _ _ _ (O127.pick [0]).nm e_0 tab
      · refine O53.new fun h129 x130 O131 => ?_
        refine ⟨x130, ?_⟩
        have O133 := O131.rowE (l := ([y_0.Kind, y_0.Num, (((List.length y_0.Args) : Nat) : Int)] : List Int)) 1 rfl (tell_int .i64) (show CsE _ _ _ _ _ from (CsE.cons (c1 := [(Value.int .i64 y_0.Kind)]) rfl rfl (CsE.cons (c1 := [(Value.int .i64 y_0.Num)]) rfl rfl (CsE.cons (c1 := [(Value.int .i64 (((List.length y_0.Args) : Nat) : Int))]) rfl rfl CsE.nil)))) rfl
        have O140 := O133.nm
        obtain ⟨m141, u142, s147, ⟨⟨r145, k146⟩, _⟩, B143, C144⟩ := O140.lend0 [1]
        replace r145 : Rd 1 (eInt .i64) m141 (some ⟨(Array.size h1), 0, none⟩) ([y_0.Kind, y_0.Num, (((List.length y_0.Args) : Nat) : Int)] : List Int) := r145
        replace k146 : List.length ([y_0.Kind, y_0.Num, (((List.length y_0.Args) : Nat) : Int)] : List Int) ≤ 3 := k146
        refine (roadref2_nums.walk (Hold.start (W := No) s147) rfl k146 r145 (TBg.sub tab u142) g16).mono ?_
        rintro _ h136 ⟨m137, Q138, rfl⟩
        have O148 := Hold.nm (C144 Q138 vfs_nil)
        refine ⟨_, rfl, ?_⟩
        have O149 := O148.rowE (l := ([y_0.Text] : List ByteArray)) 2 rfl tell_str (show CsE _ _ _ _ _ from (CsE.cons (c1 := [(Value.string y_0.Text)]) rfl rfl CsE.nil)) rfl
        have O156 := O149.nm
        obtain ⟨m157, u158, s163, ⟨⟨r161, k162⟩, _⟩, B159, C160⟩ := O156.lend0 [2]
        replace r161 : Rd 1 eStr m157 (some ⟨(Array.size h51), 0, none⟩) ([y_0.Text] : List ByteArray) := r161
        replace k162 : List.length ([y_0.Text] : List ByteArray) ≤ 1 := k162
        refine (roadref2_texts.walk (Hold.start (W := No) s163) rfl k162 r161 (TBg.sub tab u158) g36).mono ?_
        rintro _ h152 ⟨m153, Q154, rfl⟩
        have O164 := Hold.nm (C160 Q154 vfs_nil)
        refine ⟨_, rfl, ?_⟩
        obtain ⟨g165, e⟩ := guard_e e
        refine ⟨g165, ?_⟩
        exact (ih _ _ e) _ _ _ _ _ _ _ (O164.pick [0]).nm e_0 tab
  · refine ⟨_, ldk (k := 2) (Sub.refl _) (O3.all 0 rfl) (T_api_Pat.g2 e_0), _, rfl, ?_⟩
    refine ⟨Ext.refl _, ?_⟩
    refine ⟨?_, ?_⟩
    · refine O3.new fun h166 x167 O168 => ?_
      refine ⟨?_, ?_⟩
      · have O170 := O168.rowE (l := ([y_0.Kind, y_0.Num, (((List.length y_0.Args) : Nat) : Int)] : List Int)) 1 rfl (tell_int .i64) (show CsE _ _ _ _ _ from (CsE.cons (c1 := [(Value.int .i64 y_0.Kind)]) rfl rfl (CsE.cons (c1 := [(Value.int .i64 y_0.Num)]) rfl rfl (CsE.cons (c1 := [(Value.int .i64 (((List.length y_0.Args) : Nat) : Int))]) rfl rfl CsE.nil)))) rfl
        have O177 := O170.nm
        obtain ⟨m178, u179, s184, ⟨⟨r182, k183⟩, _⟩, B180, C181⟩ := O177.lend0 [1]
        replace r182 : Rd 1 (eInt .i64) m178 (some ⟨(Array.size h1), 0, none⟩) ([y_0.Kind, y_0.Num, (((List.length y_0.Args) : Nat) : Int)] : List Int) := r182
        replace k183 : List.length ([y_0.Kind, y_0.Num, (((List.length y_0.Args) : Nat) : Int)] : List Int) ≤ 3 := k183
        refine (roadref2_nums.walk (Hold.start (W := No) s184) rfl k183 r182 (TBg.sub tab u179) g16).mono ?_
        rintro _ h173 ⟨m174, Q175, rfl⟩
        have O185 := Hold.nm (C181 Q175 vfs_nil)
        refine ⟨_, rfl, ?_⟩
        refine O185.new fun h186 x187 O188 => ?_
        refine ⟨x187, ?_⟩
        have O190 := O188.rowE (l := ([y_0.Text] : List ByteArray)) 2 rfl tell_str (show CsE _ _ _ _ _ from (CsE.cons (c1 := [(Value.string y_0.Text)]) rfl rfl CsE.nil)) rfl
        have O197 := O190.nm
        obtain ⟨m198, u199, s204, ⟨⟨r202, k203⟩, _⟩, B200, C201⟩ := O197.lend0 [2]
        replace r202 : Rd 1 eStr m198 (some ⟨(Array.size h173), 0, none⟩) ([y_0.Text] : List ByteArray) := r202
        replace k203 : List.length ([y_0.Text] : List ByteArray) ≤ 1 := k203
        refine (roadref2_texts.walk (Hold.start (W := No) s204) rfl k203 r202 (TBg.sub tab u199) g36).mono ?_
        rintro _ h193 ⟨m194, Q195, rfl⟩
        have O205 := Hold.nm (C201 Q195 vfs_nil)
        refine ⟨_, rfl, ?_⟩
        obtain ⟨g206, e⟩ := guard_e e
        refine ⟨g206, ?_⟩
        exact (ih _ _ e) _ _ _ _ _ _ _ (O205.pick [0]).nm e_0 tab
      · refine O168.new fun h207 x208 O209 => ?_
        refine ⟨x208, ?_⟩
        have O211 := O209.rowE (l := ([y_0.Kind, y_0.Num, (((List.length y_0.Args) : Nat) : Int)] : List Int)) 1 rfl (tell_int .i64) (show CsE _ _ _ _ _ from (CsE.cons (c1 := [(Value.int .i64 y_0.Kind)]) rfl rfl (CsE.cons (c1 := [(Value.int .i64 y_0.Num)]) rfl rfl (CsE.cons (c1 := [(Value.int .i64 (((List.length y_0.Args) : Nat) : Int))]) rfl rfl CsE.nil)))) rfl
        have O218 := O211.nm
        obtain ⟨m219, u220, s225, ⟨⟨r223, k224⟩, _⟩, B221, C222⟩ := O218.lend0 [1]
        replace r223 : Rd 1 (eInt .i64) m219 (some ⟨(Array.size h1), 0, none⟩) ([y_0.Kind, y_0.Num, (((List.length y_0.Args) : Nat) : Int)] : List Int) := r223
        replace k224 : List.length ([y_0.Kind, y_0.Num, (((List.length y_0.Args) : Nat) : Int)] : List Int) ≤ 3 := k224
        refine (roadref2_nums.walk (Hold.start (W := No) s225) rfl k224 r223 (TBg.sub tab u220) g16).mono ?_
        rintro _ h214 ⟨m215, Q216, rfl⟩
        have O226 := Hold.nm (C222 Q216 vfs_nil)
        refine ⟨_, rfl, ?_⟩
        have O227 := O226.rowE (l := ([y_0.Text] : List ByteArray)) 2 rfl tell_str (show CsE _ _ _ _ _ from (CsE.cons (c1 := [(Value.string y_0.Text)]) rfl rfl CsE.nil)) rfl
        have O234 := O227.nm
        obtain ⟨m235, u236, s241, ⟨⟨r239, k240⟩, _⟩, B237, C238⟩ := O234.lend0 [2]
        replace r239 : Rd 1 eStr m235 (some ⟨(Array.size h166), 0, none⟩) ([y_0.Text] : List ByteArray) := r239
        replace k240 : List.length ([y_0.Text] : List ByteArray) ≤ 1 := k240
        refine (roadref2_texts.walk (Hold.start (W := No) s241) rfl k240 r239 (TBg.sub tab u236) g36).mono ?_
        rintro _ h230 ⟨m231, Q232, rfl⟩
        have O242 := Hold.nm (C238 Q232 vfs_nil)
        refine ⟨_, rfl, ?_⟩
        obtain ⟨g243, e⟩ := guard_e e
        refine ⟨g243, ?_⟩
        exact (ih _ _ e) _ _ _ _ _ _ _ (O242.pick [0]).nm e_0 tab
    · refine O3.new fun h244 x245 O246 => ?_
      refine ⟨x245, ?_⟩
      refine O246.new fun h248 x249 O250 => ?_
      have O252 := O250.rowE (l := ([y_0.Kind, y_0.Num, (((List.length y_0.Args) : Nat) : Int)] : List Int)) 2 rfl (tell_int .i64) (show CsE _ _ _ _ _ from (CsE.cons (c1 := [(Value.int .i64 y_0.Kind)]) rfl rfl (CsE.cons (c1 := [(Value.int .i64 y_0.Num)]) rfl rfl (CsE.cons (c1 := [(Value.int .i64 (((List.length y_0.Args) : Nat) : Int))]) rfl rfl CsE.nil)))) rfl
      have O259 := O252.nm
      obtain ⟨m260, u261, s266, ⟨⟨r264, k265⟩, _⟩, B262, C263⟩ := O259.lend0 [2]
      replace r264 : Rd 1 (eInt .i64) m260 (some ⟨(Array.size h244), 0, none⟩) ([y_0.Kind, y_0.Num, (((List.length y_0.Args) : Nat) : Int)] : List Int) := r264
      replace k265 : List.length ([y_0.Kind, y_0.Num, (((List.length y_0.Args) : Nat) : Int)] : List Int) ≤ 3 := k265
      refine (roadref2_nums.walk (Hold.start (W := No) s266) rfl k265 r264 (TBg.sub tab u261) g16).mono ?_
      rintro _ h255 ⟨m256, Q257, rfl⟩
      have O267 := Hold.nm (C263 Q257 vfs_nil)
      refine ⟨_, rfl, ?_⟩
      have O268 := O267.rowE (l := ([y_0.Text] : List ByteArray)) 1 rfl tell_str (show CsE _ _ _ _ _ from (CsE.cons (c1 := [(Value.string y_0.Text)]) rfl rfl CsE.nil)) rfl
      have O275 := O268.nm
      obtain ⟨m276, u277, s282, ⟨⟨r280, k281⟩, _⟩, B278, C279⟩ := O275.lend0 [1]
      replace r280 : Rd 1 eStr m276 (some ⟨(Array.size h1), 0, none⟩) ([y_0.Text] : List ByteArray) := r280
      replace k281 : List.length ([y_0.Text] : List ByteArray) ≤ 1 := k281
      refine (roadref2_texts.walk (Hold.start (W := No) s282) rfl k281 r280 (TBg.sub tab u277) g36).mono ?_
      rintro _ h271 ⟨m272, Q273, rfl⟩
      have O283 := Hold.nm (C279 Q273 vfs_nil)
      refine ⟨_, rfl, ?_⟩
      obtain ⟨g284, e⟩ := guard_e e
      refine ⟨g284, ?_⟩
      exact (ih _ _ e) _ _ _ _ _ _ _ (O283.pick [0]).nm e_0 tab
set_option maxRecDepth 100000 in
theorem roadref2_PatMark_k.step_j0 (go : (p : roadref2_PatMark_k.Pt) → Option (ByteArray)) (ih : ∀ p r, go p = some r → roadref2_PatMark_k.I p r) (y_1 : T_api_Pat) (s_3 : ByteArray) (r : ByteArray) (e : roadref2_PatMark_k.body go (.j0 y_1 s_3) = some r) : roadref2_PatMark_k.I (.j0 y_1 s_3) r := by
  unfold roadref2_PatMark_k.body at e
  intro W h0 m0 h m bk_1 cs_1 O e_1 tab
  refine f47.j0_in ?_
  unfold f47.j0T
  obtain ⟨A1, c2, q3, k4, r5⟩ := T_api_Pat.g3 e_1
  refine ⟨_, ldk (k := 3) (Sub.refl _) (O.all 0 rfl) q3, _, _, _, rfl, ?_⟩
  exact (ih _ _ e) _ _ _ _ _ _ _ _ (O.pick []).nm rfl k4 r5 tab
set_option maxRecDepth 100000 in
theorem roadref2_PatMark_k.step_l0 (go : (p : roadref2_PatMark_k.Pt) → Option (ByteArray)) (ih : ∀ p r, go p = some r → roadref2_PatMark_k.I p r) (s_3 : ByteArray) (a_21 : List T_api_Pat) (x_22 : Int) (x_23 : Int) (r : ByteArray) (e : roadref2_PatMark_k.body go (.l0 s_3 a_21 x_22 x_23) = some r) : roadref2_PatMark_k.I (.l0 s_3 a_21 x_22 x_23) r := by
  unfold roadref2_PatMark_k.body at e
  intro W h0 m0 h m A_21 n_21 c_21 O ne_21 k_21 r_21 tab
  subst ne_21
  refine f47.l0_in ?_
  unfold f47.l0T
  refine split_dec_e e (fun c22 e => ?_) (fun c22 e => ?_)
  · obtain ⟨y1, g2, e⟩ := bind_e e
    refine r_21.addr rfl g2 fun a3 cs4 ha5 hc6 he7 => ?_
    refine ⟨_, ldAn O.s hc6 rfl, ?_⟩
    refine O.new fun h8 x9 O10 => ?_
    refine ⟨_, rfl, (T_api_Pat.T.len _ _ _ he7), ?_⟩
    refine O10.stA 0 rfl (T_api_Pat.T.len _ _ _ he7) (T_api_Pat.T.flat _ _ _ he7) fun h12 O13 => ?_
    refine ⟨_, ldAn (Sub.refl _) (O13.all 0 rfl) (T_api_Pat.T.len _ _ _ he7), ?_⟩
    obtain ⟨y14, g15, e⟩ := bind_e e
    refine ((ih _ _ g15) _ _ _ _ (Hold.start (W := No) O13.s) he7 tab).mono ?_
    rintro _ h16 ⟨m17, Q18, rfl⟩
    have O20 := Hold.nm (O13.retC Q18 vfs_nil)
    refine ⟨_, rfl, ?_⟩
    obtain ⟨g21, e⟩ := guard_e e
    refine ⟨g21, ?_⟩
    exact (ih _ _ e) _ _ _ _ _ _ _ _ (O20.pick []).nm rfl k_21 r_21 tab
  · cases e
    exact ⟨_, O.pick [], rfl⟩
theorem roadref2_PatMark_k.all {p : roadref2_PatMark_k.Pt} {r : (ByteArray)} (e : roadref2_PatMark_k.go p = some r) : roadref2_PatMark_k.I p r := fixF_ind (β := fun _ => (ByteArray)) roadref2_PatMark_k.mono (I := roadref2_PatMark_k.I) (fun go ih p r e => match p with
  | .f y_0 => roadref2_PatMark_k.step_f go ih y_0 r e
  | .j0 y_1 s_3 => roadref2_PatMark_k.step_j0 go ih y_1 s_3 r e
  | .l0 s_3 a_21 x_22 x_23 => roadref2_PatMark_k.step_l0 go ih s_3 a_21 x_22 x_23 r e
  ) e
theorem roadref2_PatMark.walk {W : Nat → Prop} {h m : Heap} {cs_0 : List Value} {y_0 : T_api_Pat} (O : Hold W h m h m []) (e_0 : T_api_Pat.E m y_0 cs_0) (tab : TB m) {r : ByteArray} (e : roadref2_PatMark y_0 = some r) : Run Tryd.prog 47 #[Value.agg cs_0.toArray] h (roadref2_PatMark.post W h m r) := roadref2_PatMark_k.all (p := .f y_0) e W h m cs_0 O e_0 tab
def roadref2_ExprMark.post (W : Nat → Prop) (h0 m0 : Heap) (r : ByteArray) (v : Value) (h : Heap) : Prop := ∃ m , Hold W h0 m0 h m [] ∧ v = .string r
inductive roadref2_ExprMark_k.Pt where
  | f (y_0 : T_api_Expr)
  | j0 (y_1 : T_api_Expr) (s_3 : ByteArray)
  | l0 (y_1 : T_api_Expr) (s_3 : ByteArray) (a_38 : List T_api_Type) (x_39 : Int) (x_40 : Int)
  | l1 (y_1 : T_api_Expr) (s_3 : ByteArray) (a_50 : List T_api_Expr) (x_51 : Int) (x_52 : Int)
  | l2 (s_3 : ByteArray) (a_62 : List T_api_Arm) (x_63 : Int) (x_64 : Int)
noncomputable def roadref2_ExprMark_k.body (go : (p : roadref2_ExprMark_k.Pt) → Option (ByteArray)) : (p : roadref2_ExprMark_k.Pt) → Option (ByteArray)
  | .f y_0 => Option.bind (roadref2_nums ([y_0.Kind, y_0.Num, (((List.length y_0.Names) : Nat) : Int), (((List.length y_0.Types) : Nat) : Int), (((List.length y_0.Args) : Nat) : Int), (((List.length y_0.Arms) : Nat) : Int)] : List Int)) fun y35 => Option.bind (roadref2_texts ([y_0.Text] : List ByteArray)) fun y55 => if ByteArray.size y35 + ByteArray.size y55 ≤ 9223372036854775807 then (Option.bind (roadref2_texts y_0.Names) fun y71 => if ByteArray.size (y35 ++ y55) + ByteArray.size y71 ≤ 9223372036854775807 then ((go (.j0 y_0 ((y35 ++ y55) ++ y71)))) else none) else none
  | .j0 y_1 s_3 => (go (.l0 y_1 s_3 y_1.Types (((List.length y_1.Types) : Nat) : Int) (0 : Int)))
  | .l0 y_1 s_3 a_38 x_39 x_40 => if x_40 < x_39 then (Option.bind (gi a_38 x_40) fun y1 => Option.bind (roadref2_TypeMark y1) fun y14 => if ByteArray.size s_3 + ByteArray.size y14 ≤ 9223372036854775807 then ((go (.l0 y_1 (s_3 ++ y14) a_38 x_39 (IntKind.wrap .i64 (x_40 + (1 : Int)))))) else none) else ((go (.l1 y_1 s_3 y_1.Args (((List.length y_1.Args) : Nat) : Int) (0 : Int))))
  | .l1 y_1 s_3 a_50 x_51 x_52 => if x_52 < x_51 then (Option.bind (gi a_50 x_52) fun y1 => Option.bind ((go (.f y1))) fun y14 => if ByteArray.size s_3 + ByteArray.size y14 ≤ 9223372036854775807 then ((go (.l1 y_1 (s_3 ++ y14) a_50 x_51 (IntKind.wrap .i64 (x_52 + (1 : Int)))))) else none) else ((go (.l2 s_3 y_1.Arms (((List.length y_1.Arms) : Nat) : Int) (0 : Int))))
  | .l2 s_3 a_62 x_63 x_64 => if x_64 < x_63 then (Option.bind (gi a_62 x_64) fun y1 => Option.bind (roadref2_PatMark y1.Pat) fun y14 => Option.bind ((go (.f y1.Body))) fun y21 => if ByteArray.size y14 + ByteArray.size y21 ≤ 9223372036854775807 then (if ByteArray.size s_3 + ByteArray.size (y14 ++ y21) ≤ 9223372036854775807 then ((go (.l2 (s_3 ++ (y14 ++ y21)) a_62 x_63 (IntKind.wrap .i64 (x_64 + (1 : Int)))))) else none) else none) else (some (s_3))
theorem roadref2_ExprMark_k.mono : MonoF (β := fun _ => (ByteArray)) roadref2_ExprMark_k.body := fun f g hfg p => match p with
  | .f y_0 => LeO.bind (LeO.refl _) fun y35 => LeO.bind (LeO.refl _) fun y55 => LeO.ite (LeO.bind (LeO.refl _) fun y71 => LeO.ite ((hfg _)) (LeO.refl _)) (LeO.refl _)
  | .j0 y_1 s_3 => (hfg _)
  | .l0 y_1 s_3 a_38 x_39 x_40 => LeO.ite (LeO.bind (LeO.refl _) fun y1 => LeO.bind (LeO.refl _) fun y14 => LeO.ite ((hfg _)) (LeO.refl _)) ((hfg _))
  | .l1 y_1 s_3 a_50 x_51 x_52 => LeO.ite (LeO.bind (LeO.refl _) fun y1 => LeO.bind ((hfg _)) fun y14 => LeO.ite ((hfg _)) (LeO.refl _)) ((hfg _))
  | .l2 s_3 a_62 x_63 x_64 => LeO.ite (LeO.bind (LeO.refl _) fun y1 => LeO.bind (LeO.refl _) fun y14 => LeO.bind ((hfg _)) fun y21 => LeO.ite (LeO.ite ((hfg _)) (LeO.refl _)) (LeO.refl _)) (LeO.refl _)
noncomputable def roadref2_ExprMark_k.go (p : roadref2_ExprMark_k.Pt) : Option (ByteArray) := fixF (β := fun _ => (ByteArray)) roadref2_ExprMark_k.body p
noncomputable def roadref2_ExprMark (y_0 : T_api_Expr) : Option (ByteArray) := roadref2_ExprMark_k.go (.f y_0)
noncomputable def roadref2_ExprMark.j0 (y_1 : T_api_Expr) (s_3 : ByteArray) : Option (ByteArray) := roadref2_ExprMark_k.go (.j0 y_1 s_3)
noncomputable def roadref2_ExprMark.l0 (y_1 : T_api_Expr) (s_3 : ByteArray) (a_38 : List T_api_Type) (x_39 : Int) (x_40 : Int) : Option (ByteArray) := roadref2_ExprMark_k.go (.l0 y_1 s_3 a_38 x_39 x_40)
noncomputable def roadref2_ExprMark.l1 (y_1 : T_api_Expr) (s_3 : ByteArray) (a_50 : List T_api_Expr) (x_51 : Int) (x_52 : Int) : Option (ByteArray) := roadref2_ExprMark_k.go (.l1 y_1 s_3 a_50 x_51 x_52)
noncomputable def roadref2_ExprMark.l2 (s_3 : ByteArray) (a_62 : List T_api_Arm) (x_63 : Int) (x_64 : Int) : Option (ByteArray) := roadref2_ExprMark_k.go (.l2 s_3 a_62 x_63 x_64)
theorem roadref2_ExprMark_eq (y_0 : T_api_Expr) : roadref2_ExprMark y_0 = Option.bind (roadref2_nums ([y_0.Kind, y_0.Num, (((List.length y_0.Names) : Nat) : Int), (((List.length y_0.Types) : Nat) : Int), (((List.length y_0.Args) : Nat) : Int), (((List.length y_0.Arms) : Nat) : Int)] : List Int)) fun y35 => Option.bind (roadref2_texts ([y_0.Text] : List ByteArray)) fun y55 => if ByteArray.size y35 + ByteArray.size y55 ≤ 9223372036854775807 then (Option.bind (roadref2_texts y_0.Names) fun y71 => if ByteArray.size (y35 ++ y55) + ByteArray.size y71 ≤ 9223372036854775807 then ((roadref2_ExprMark.j0 y_0 ((y35 ++ y55) ++ y71))) else none) else none := fixF_eq roadref2_ExprMark_k.mono _
theorem roadref2_ExprMark.j0_eq (y_1 : T_api_Expr) (s_3 : ByteArray) : roadref2_ExprMark.j0 y_1 s_3 = (roadref2_ExprMark.l0 y_1 s_3 y_1.Types (((List.length y_1.Types) : Nat) : Int) (0 : Int)) := fixF_eq roadref2_ExprMark_k.mono _
theorem roadref2_ExprMark.l0_eq (y_1 : T_api_Expr) (s_3 : ByteArray) (a_38 : List T_api_Type) (x_39 : Int) (x_40 : Int) : roadref2_ExprMark.l0 y_1 s_3 a_38 x_39 x_40 = if x_40 < x_39 then (Option.bind (gi a_38 x_40) fun y1 => Option.bind (roadref2_TypeMark y1) fun y14 => if ByteArray.size s_3 + ByteArray.size y14 ≤ 9223372036854775807 then ((roadref2_ExprMark.l0 y_1 (s_3 ++ y14) a_38 x_39 (IntKind.wrap .i64 (x_40 + (1 : Int))))) else none) else ((roadref2_ExprMark.l1 y_1 s_3 y_1.Args (((List.length y_1.Args) : Nat) : Int) (0 : Int))) := fixF_eq roadref2_ExprMark_k.mono _
theorem roadref2_ExprMark.l1_eq (y_1 : T_api_Expr) (s_3 : ByteArray) (a_50 : List T_api_Expr) (x_51 : Int) (x_52 : Int) : roadref2_ExprMark.l1 y_1 s_3 a_50 x_51 x_52 = if x_52 < x_51 then (Option.bind (gi a_50 x_52) fun y1 => Option.bind ((roadref2_ExprMark y1)) fun y14 => if ByteArray.size s_3 + ByteArray.size y14 ≤ 9223372036854775807 then ((roadref2_ExprMark.l1 y_1 (s_3 ++ y14) a_50 x_51 (IntKind.wrap .i64 (x_52 + (1 : Int))))) else none) else ((roadref2_ExprMark.l2 s_3 y_1.Arms (((List.length y_1.Arms) : Nat) : Int) (0 : Int))) := fixF_eq roadref2_ExprMark_k.mono _
theorem roadref2_ExprMark.l2_eq (s_3 : ByteArray) (a_62 : List T_api_Arm) (x_63 : Int) (x_64 : Int) : roadref2_ExprMark.l2 s_3 a_62 x_63 x_64 = if x_64 < x_63 then (Option.bind (gi a_62 x_64) fun y1 => Option.bind (roadref2_PatMark y1.Pat) fun y14 => Option.bind ((roadref2_ExprMark y1.Body)) fun y21 => if ByteArray.size y14 + ByteArray.size y21 ≤ 9223372036854775807 then (if ByteArray.size s_3 + ByteArray.size (y14 ++ y21) ≤ 9223372036854775807 then ((roadref2_ExprMark.l2 (s_3 ++ (y14 ++ y21)) a_62 x_63 (IntKind.wrap .i64 (x_64 + (1 : Int))))) else none) else none) else (some (s_3)) := fixF_eq roadref2_ExprMark_k.mono _
def roadref2_ExprMark_k.I : (p : roadref2_ExprMark_k.Pt) → (ByteArray) → Prop
  | .f y_0, r => ∀ (W : Nat → Prop) (h m : Heap) (cs_0 : List Value) (O : Hold W h m h m []) (e_0 : T_api_Expr.E m y_0 cs_0) (tab : TB m), Run Tryd.prog 10 #[Value.agg cs_0.toArray] h (roadref2_ExprMark.post W h m r)
  | .j0 y_1 s_3, r => ∀ (W : Nat → Prop) (h0 m0 h m : Heap) (bk_1 : Nat) (cs_1 : List Value) (O : Hold W h0 m0 h m [rV bk_1 40 cs_1]) (e_1 : T_api_Expr.E m y_1 cs_1) (tab : TB m), f10.j0 (roadref2_ExprMark.post W h0 m0 r) (⟨bk_1, 0, none⟩ : Addr) s_3 h
  | .l0 y_1 s_3 a_38 x_39 x_40, r => ∀ (W : Nat → Prop) (h0 m0 h m : Heap) (bk_1 : Nat) (cs_1 : List Value) (A_38 : Option Addr) (n_38 c_38 : Nat) (O : Hold W h0 m0 h m [rV bk_1 40 cs_1]) (e_1 : T_api_Expr.E m y_1 cs_1) (ne_38 : n_38 = List.length a_38) (k_38 : List.length a_38 ≤ c_38) (r_38 : Rd 3 T_api_Type.E m A_38 a_38) (tab : TB m), f10.l0 (roadref2_ExprMark.post W h0 m0 r) (⟨bk_1, 0, none⟩ : Addr) s_3 A_38 n_38 c_38 x_39 x_40 h
  | .l1 y_1 s_3 a_50 x_51 x_52, r => ∀ (W : Nat → Prop) (h0 m0 h m : Heap) (bk_1 : Nat) (cs_1 : List Value) (A_50 : Option Addr) (n_50 c_50 : Nat) (O : Hold W h0 m0 h m [rV bk_1 40 cs_1]) (e_1 : T_api_Expr.E m y_1 cs_1) (ne_50 : n_50 = List.length a_50) (k_50 : List.length a_50 ≤ c_50) (r_50 : Rd 8 T_api_Expr.E m A_50 a_50) (tab : TB m), f10.l1 (roadref2_ExprMark.post W h0 m0 r) (⟨bk_1, 0, none⟩ : Addr) s_3 A_50 n_50 c_50 x_51 x_52 h
  | .l2 s_3 a_62 x_63 x_64, r => ∀ (W : Nat → Prop) (h0 m0 h m : Heap) (A_62 : Option Addr) (n_62 c_62 : Nat) (O : Hold W h0 m0 h m []) (ne_62 : n_62 = List.length a_62) (k_62 : List.length a_62 ≤ c_62) (r_62 : Rd 12 T_api_Arm.E m A_62 a_62) (tab : TB m), f10.l2 (roadref2_ExprMark.post W h0 m0 r) s_3 A_62 n_62 c_62 x_63 x_64 h
set_option maxHeartbeats 4000000 in
set_option maxRecDepth 100000 in
theorem roadref2_ExprMark_k.step_f (go : (p : roadref2_ExprMark_k.Pt) → Option (ByteArray)) (ih : ∀ p r, go p = some r → roadref2_ExprMark_k.I p r) (y_0 : T_api_Expr) (r : ByteArray) (e : roadref2_ExprMark_k.body go (.f y_0) = some r) : roadref2_ExprMark_k.I (.f y_0) r := by
  unfold roadref2_ExprMark_k.body at e
  intro W h m cs_0 O e_0 tab
  refine f10.run ?_
  unfold f10.runT
  refine O.new fun h1 x2 O3 => ?_
  refine ⟨_, ld0 (Sub.refl _) (O3.all 0 rfl) (T_api_Expr.g0 e_0), _, rfl, ?_⟩
  refine ⟨_, ldk (k := 1) (Sub.refl _) (O3.all 0 rfl) (T_api_Expr.g1 e_0), _, rfl, ?_⟩
  obtain ⟨A5, c6, q7, k8, r9⟩ := T_api_Expr.g3 e_0
  refine ⟨_, ldk (k := 3) (Sub.refl _) (O3.all 0 rfl) q7, _, _, _, rfl, ?_⟩
  obtain ⟨A10, c11, q12, k13, r14⟩ := T_api_Expr.g4 e_0
  refine ⟨_, ldk (k := 4) (Sub.refl _) (O3.all 0 rfl) q12, _, _, _, rfl, ?_⟩
  obtain ⟨A15, c16, q17, k18, r19⟩ := T_api_Expr.g5 e_0
  refine ⟨_, ldk (k := 5) (Sub.refl _) (O3.all 0 rfl) q17, _, _, _, rfl, ?_⟩
  obtain ⟨A20, c21, q22, k23, r24⟩ := T_api_Expr.g6 e_0
  refine ⟨_, ldk (k := 6) (Sub.refl _) (O3.all 0 rfl) q22, _, _, _, rfl, ?_⟩
  refine ⟨_, ldk (k := 2) (Sub.refl _) (O3.all 0 rfl) (T_api_Expr.g2 e_0), _, rfl, ?_⟩
  obtain ⟨A25, c26, q27, k28, r29⟩ := T_api_Expr.g3 e_0
  refine ⟨_, ldk (k := 3) (Sub.refl _) (O3.all 0 rfl) q27, _, _, _, rfl, ?_⟩
  obtain ⟨y35, g36, e⟩ := bind_e e
  obtain ⟨y55, g56, e⟩ := bind_e e
  obtain ⟨g70, e⟩ := guard_e e
  obtain ⟨y71, g72, e⟩ := bind_e e
  refine ⟨?_, ?_⟩
  · refine O3.new fun h79 x80 O81 => ?_
    refine ⟨x80, ?_⟩
    refine ⟨?_, ?_⟩
    · have O83 := O81.rowE (l := ([y_0.Kind, y_0.Num, (((List.length y_0.Names) : Nat) : Int), (((List.length y_0.Types) : Nat) : Int), (((List.length y_0.Args) : Nat) : Int), (((List.length y_0.Arms) : Nat) : Int)] : List Int)) 1 rfl (tell_int .i64) (show CsE _ _ _ _ _ from (CsE.cons (c1 := [(Value.int .i64 y_0.Kind)]) rfl rfl (CsE.cons (c1 := [(Value.int .i64 y_0.Num)]) rfl rfl (CsE.cons (c1 := [(Value.int .i64 (((List.length y_0.Names) : Nat) : Int))]) rfl rfl (CsE.cons (c1 := [(Value.int .i64 (((List.length y_0.Types) : Nat) : Int))]) rfl rfl (CsE.cons (c1 := [(Value.int .i64 (((List.length y_0.Args) : Nat) : Int))]) rfl rfl (CsE.cons (c1 := [(Value.int .i64 (((List.length y_0.Arms) : Nat) : Int))]) rfl rfl CsE.nil))))))) rfl
      have O90 := O83.nm
      obtain ⟨m91, u92, s97, ⟨⟨r95, k96⟩, _⟩, B93, C94⟩ := O90.lend0 [1]
      replace r95 : Rd 1 (eInt .i64) m91 (some ⟨(Array.size h1), 0, none⟩) ([y_0.Kind, y_0.Num, (((List.length y_0.Names) : Nat) : Int), (((List.length y_0.Types) : Nat) : Int), (((List.length y_0.Args) : Nat) : Int), (((List.length y_0.Arms) : Nat) : Int)] : List Int) := r95
      replace k96 : List.length ([y_0.Kind, y_0.Num, (((List.length y_0.Names) : Nat) : Int), (((List.length y_0.Types) : Nat) : Int), (((List.length y_0.Args) : Nat) : Int), (((List.length y_0.Arms) : Nat) : Int)] : List Int) ≤ 6 := k96
      refine (roadref2_nums.walk (Hold.start (W := No) s97) rfl k96 r95 (TBg.sub tab u92) g36).mono ?_
      rintro _ h86 ⟨m87, Q88, rfl⟩
      have O98 := Hold.nm (C94 Q88 vfs_nil)
      refine ⟨_, rfl, ?_⟩
      refine ⟨Q88.S.ext, ?_⟩
      refine O98.new fun h99 x100 O101 => ?_
      refine ⟨x100, ?_⟩
      have O103 := O101.rowE (l := ([y_0.Text] : List ByteArray)) 2 rfl tell_str (show CsE _ _ _ _ _ from (CsE.cons (c1 := [(Value.string y_0.Text)]) rfl rfl CsE.nil)) rfl
      have O110 := O103.nm
      obtain ⟨m111, u112, s117, ⟨⟨r115, k116⟩, _⟩, B113, C114⟩ := O110.lend0 [2]
      replace r115 : Rd 1 eStr m111 (some ⟨(Array.size h86), 0, none⟩) ([y_0.Text] : List ByteArray) := r115
      replace k116 : List.length ([y_0.Text] : List ByteArray) ≤ 1 := k116
      refine (roadref2_texts.walk (Hold.start (W := No) s117) rfl k116 r115 (TBg.sub tab u112) g56).mono ?_
      rintro _ h106 ⟨m107, Q108, rfl⟩
      have O118 := Hold.nm (C114 Q108 vfs_nil)
      refine ⟨_, rfl, ?_⟩
      refine ⟨Q108.S.ext, ?_⟩
      refine ⟨g70, ?_⟩
      refine (roadref2_texts.walk (Hold.start (W := No) O118.s) rfl k28 r29 tab g72).mono ?_
      rintro _ h122 ⟨m123, Q124, rfl⟩
      have O126 := Hold.nm (O118.retC Q124 vfs_nil)
      refine ⟨_, rfl, ?_⟩
      obtain ⟨g127, e⟩ := guard_e e
      refine ⟨g127, ?_⟩
      exact (ih _ _ e) _ _ _ _ _ _ _ (O126.pick [0]).nm e_0 tab
    · refine O81.new fun h128 x129 O130 => ?_
      refine ⟨x129, ?_⟩
      have O132 := O130.rowE (l := ([y_0.Kind, y_0.Num, (((List.length y_0.Names) : Nat) : Int), (((List.length y_0.Types) : Nat) : Int), (((List.length y_0.Args) : Nat) : Int), (((List.length y_0.Arms) : Nat) : Int)] : List Int)) 1 rfl (tell_int .i64) (show CsE _ _ _ _ _ from (CsE.cons (c1 := [(Value.int .i64 y_0.Kind)]) rfl rfl (CsE.cons (c1 := [(Value.int .i64 y_0.Num)]) rfl rfl (CsE.cons (c1 := [(Value.int .i64 (((List.length y_0.Names) : Nat) : Int))]) rfl rfl (CsE.cons (c1 := [(Value.int .i64 (((List.length y_0.Types) : Nat) : Int))]) rfl rfl (CsE.cons (c1 := [(Value.int .i64 (((List.length y_0.Args) : Nat) : Int))]) rfl rfl (CsE.cons (c1 := [(Value.int .i64 (((List.length y_0.Arms) : Nat) : Int))]) rfl rfl CsE.nil))))))) rfl
      have O139 := O132.nm
      obtain ⟨m140, u141, s146, ⟨⟨r144, k145⟩, _⟩, B142, C143⟩ := O139.lend0 [1]
      replace r144 : Rd 1 (eInt .i64) m140 (some ⟨(Array.size h1), 0, none⟩) ([y_0.Kind, y_0.Num, (((List.length y_0.Names) : Nat) : Int), (((List.length y_0.Types) : Nat) : Int), (((List.length y_0.Args) : Nat) : Int), (((List.length y_0.Arms) : Nat) : Int)] : List Int) := r144
      replace k145 : List.length ([y_0.Kind, y_0.Num, (((List.length y_0.Names) : Nat) : Int), (((List.length y_0.Types) : Nat) : Int), (((List.length y_0.Args) : Nat) : Int), (((List.length y_0.Arms) : Nat) : Int)] : List Int) ≤ 6 := k145
      refine (roadref2_nums.walk (Hold.start (W := No) s146) rfl k145 r144 (TBg.sub tab u141) g36).mono ?_
      rintro _ h135 ⟨m136, Q137, rfl⟩
      have O147 := Hold.nm (C143 Q137 vfs_nil)
      refine ⟨_, rfl, ?_⟩
      refine ⟨Q137.S.ext, ?_⟩
      have O148 := O147.rowE (l := ([y_0.Text] : List ByteArray)) 2 rfl tell_str (show CsE _ _ _ _ _ from (CsE.cons (c1 := [(Value.string y_0.Text)]) rfl rfl CsE.nil)) rfl
      have O155 := O148.nm
      obtain ⟨m156, u157, s162, ⟨⟨r160, k161⟩, _⟩, B158, C159⟩ := O155.lend0 [2]
      replace r160 : Rd 1 eStr m156 (some ⟨(Array.size h79), 0, none⟩) ([y_0.Text] : List ByteArray) := r160
      replace k161 : List.length ([y_0.Text] : List ByteArray) ≤ 1 := k161
      refine (roadref2_texts.walk (Hold.start (W := No) s162) rfl k161 r160 (TBg.sub tab u157) g56).mono ?_
      rintro _ h151 ⟨m152, Q153, rfl⟩
      have O163 := Hold.nm (C159 Q153 vfs_nil)
      refine ⟨_, rfl, ?_⟩
      refine ⟨Q153.S.ext, ?_⟩
      refine ⟨g70, ?_⟩
      refine (roadref2_texts.walk (Hold.start (W := No) O163.s) rfl k28 r29 tab g72).mono ?_
      rintro _ h167 ⟨m168, Q169, rfl⟩
      have O171 := Hold.nm (O163.retC Q169 vfs_nil)
      refine ⟨_, rfl, ?_⟩
      obtain ⟨g172, e⟩ := guard_e e
      refine ⟨g172, ?_⟩
      exact (ih _ _ e) _ _ _ _ _ _ _ (O171.pick [0]).nm e_0 tab
  · refine O3.new fun h173 x174 O175 => ?_
    refine ⟨x174, ?_⟩
    refine O175.new fun h177 x178 O179 => ?_
    refine ⟨x178, ?_⟩
    have O181 := O179.rowE (l := ([y_0.Kind, y_0.Num, (((List.length y_0.Names) : Nat) : Int), (((List.length y_0.Types) : Nat) : Int), (((List.length y_0.Args) : Nat) : Int), (((List.length y_0.Arms) : Nat) : Int)] : List Int)) 2 rfl (tell_int .i64) (show CsE _ _ _ _ _ from (CsE.cons (c1 := [(Value.int .i64 y_0.Kind)]) rfl rfl (CsE.cons (c1 := [(Value.int .i64 y_0.Num)]) rfl rfl (CsE.cons (c1 := [(Value.int .i64 (((List.length y_0.Names) : Nat) : Int))]) rfl rfl (CsE.cons (c1 := [(Value.int .i64 (((List.length y_0.Types) : Nat) : Int))]) rfl rfl (CsE.cons (c1 := [(Value.int .i64 (((List.length y_0.Args) : Nat) : Int))]) rfl rfl (CsE.cons (c1 := [(Value.int .i64 (((List.length y_0.Arms) : Nat) : Int))]) rfl rfl CsE.nil))))))) rfl
    have O188 := O181.nm
    obtain ⟨m189, u190, s195, ⟨⟨r193, k194⟩, _⟩, B191, C192⟩ := O188.lend0 [2]
    replace r193 : Rd 1 (eInt .i64) m189 (some ⟨(Array.size h173), 0, none⟩) ([y_0.Kind, y_0.Num, (((List.length y_0.Names) : Nat) : Int), (((List.length y_0.Types) : Nat) : Int), (((List.length y_0.Args) : Nat) : Int), (((List.length y_0.Arms) : Nat) : Int)] : List Int) := r193
    replace k194 : List.length ([y_0.Kind, y_0.Num, (((List.length y_0.Names) : Nat) : Int), (((List.length y_0.Types) : Nat) : Int), (((List.length y_0.Args) : Nat) : Int), (((List.length y_0.Arms) : Nat) : Int)] : List Int) ≤ 6 := k194
    refine (roadref2_nums.walk (Hold.start (W := No) s195) rfl k194 r193 (TBg.sub tab u190) g36).mono ?_
    rintro _ h184 ⟨m185, Q186, rfl⟩
    have O196 := Hold.nm (C192 Q186 vfs_nil)
    refine ⟨_, rfl, ?_⟩
    refine ⟨Q186.S.ext, ?_⟩
    have O197 := O196.rowE (l := ([y_0.Text] : List ByteArray)) 1 rfl tell_str (show CsE _ _ _ _ _ from (CsE.cons (c1 := [(Value.string y_0.Text)]) rfl rfl CsE.nil)) rfl
    have O204 := O197.nm
    obtain ⟨m205, u206, s211, ⟨⟨r209, k210⟩, _⟩, B207, C208⟩ := O204.lend0 [1]
    replace r209 : Rd 1 eStr m205 (some ⟨(Array.size h1), 0, none⟩) ([y_0.Text] : List ByteArray) := r209
    replace k210 : List.length ([y_0.Text] : List ByteArray) ≤ 1 := k210
    refine (roadref2_texts.walk (Hold.start (W := No) s211) rfl k210 r209 (TBg.sub tab u206) g56).mono ?_
    rintro _ h200 ⟨m201, Q202, rfl⟩
    have O212 := Hold.nm (C208 Q202 vfs_nil)
    refine ⟨_, rfl, ?_⟩
    refine ⟨Q202.S.ext, ?_⟩
    refine ⟨g70, ?_⟩
    refine (roadref2_texts.walk (Hold.start (W := No) O212.s) rfl k28 r29 tab g72).mono ?_
    rintro _ h216 ⟨m217, Q218, rfl⟩
    have O220 := Hold.nm (O212.retC Q218 vfs_nil)
    refine ⟨_, rfl, ?_⟩
    obtain ⟨g221, e⟩ := guard_e e
    refine ⟨g221, ?_⟩
    exact (ih _ _ e) _ _ _ _ _ _ _ (O220.pick [0]).nm e_0 tab
set_option maxRecDepth 100000 in
theorem roadref2_ExprMark_k.step_j0 (go : (p : roadref2_ExprMark_k.Pt) → Option (ByteArray)) (ih : ∀ p r, go p = some r → roadref2_ExprMark_k.I p r) (y_1 : T_api_Expr) (s_3 : ByteArray) (r : ByteArray) (e : roadref2_ExprMark_k.body go (.j0 y_1 s_3) = some r) : roadref2_ExprMark_k.I (.j0 y_1 s_3) r := by
  unfold roadref2_ExprMark_k.body at e
  intro W h0 m0 h m bk_1 cs_1 O e_1 tab
  refine f10.j0_in ?_
  unfold f10.j0T
  obtain ⟨A1, c2, q3, k4, r5⟩ := T_api_Expr.g4 e_1
  refine ⟨_, ldk (k := 4) (Sub.refl _) (O.all 0 rfl) q3, _, _, _, rfl, ?_⟩
  exact (ih _ _ e) _ _ _ _ _ _ _ _ _ _ (O.pick [0]).nm e_1 rfl k4 r5 tab
set_option maxRecDepth 100000 in
theorem roadref2_ExprMark_k.step_l0 (go : (p : roadref2_ExprMark_k.Pt) → Option (ByteArray)) (ih : ∀ p r, go p = some r → roadref2_ExprMark_k.I p r) (y_1 : T_api_Expr) (s_3 : ByteArray) (a_38 : List T_api_Type) (x_39 : Int) (x_40 : Int) (r : ByteArray) (e : roadref2_ExprMark_k.body go (.l0 y_1 s_3 a_38 x_39 x_40) = some r) : roadref2_ExprMark_k.I (.l0 y_1 s_3 a_38 x_39 x_40) r := by
  unfold roadref2_ExprMark_k.body at e
  intro W h0 m0 h m bk_1 cs_1 A_38 n_38 c_38 O e_1 ne_38 k_38 r_38 tab
  subst ne_38
  refine f10.l0_in ?_
  unfold f10.l0T
  refine split_dec_e e (fun c27 e => ?_) (fun c27 e => ?_)
  · obtain ⟨y1, g2, e⟩ := bind_e e
    refine r_38.addr rfl g2 fun a3 cs4 ha5 hc6 he7 => ?_
    refine ⟨_, ldAn O.s hc6 rfl, ?_⟩
    refine O.new fun h8 x9 O10 => ?_
    refine ⟨_, rfl, (T_api_Type.T.len _ _ _ he7), ?_⟩
    refine O10.stA 1 rfl (T_api_Type.T.len _ _ _ he7) (T_api_Type.T.flat _ _ _ he7) fun h12 O13 => ?_
    refine ⟨_, ldAn (Sub.refl _) (O13.all 1 rfl) (T_api_Type.T.len _ _ _ he7), ?_⟩
    obtain ⟨y14, g15, e⟩ := bind_e e
    refine (roadref2_TypeMark.walk (Hold.start (W := No) O13.s) he7 tab g15).mono ?_
    rintro _ h16 ⟨m17, Q18, rfl⟩
    have O20 := Hold.nm (O13.retC Q18 vfs_nil)
    refine ⟨_, rfl, ?_⟩
    obtain ⟨g21, e⟩ := guard_e e
    refine ⟨g21, ?_⟩
    exact (ih _ _ e) _ _ _ _ _ _ _ _ _ _ (O20.pick [0]).nm e_1 rfl k_38 r_38 tab
  · obtain ⟨A22, c23, q24, k25, r26⟩ := T_api_Expr.g5 e_1
    refine ⟨_, ldk (k := 5) (Sub.refl _) (O.all 0 rfl) q24, _, _, _, rfl, ?_⟩
    exact (ih _ _ e) _ _ _ _ _ _ _ _ _ _ (O.pick [0]).nm e_1 rfl k25 r26 tab
set_option maxRecDepth 100000 in
theorem roadref2_ExprMark_k.step_l1 (go : (p : roadref2_ExprMark_k.Pt) → Option (ByteArray)) (ih : ∀ p r, go p = some r → roadref2_ExprMark_k.I p r) (y_1 : T_api_Expr) (s_3 : ByteArray) (a_50 : List T_api_Expr) (x_51 : Int) (x_52 : Int) (r : ByteArray) (e : roadref2_ExprMark_k.body go (.l1 y_1 s_3 a_50 x_51 x_52) = some r) : roadref2_ExprMark_k.I (.l1 y_1 s_3 a_50 x_51 x_52) r := by
  unfold roadref2_ExprMark_k.body at e
  intro W h0 m0 h m bk_1 cs_1 A_50 n_50 c_50 O e_1 ne_50 k_50 r_50 tab
  subst ne_50
  refine f10.l1_in ?_
  unfold f10.l1T
  refine split_dec_e e (fun c27 e => ?_) (fun c27 e => ?_)
  · obtain ⟨y1, g2, e⟩ := bind_e e
    refine r_50.addr rfl g2 fun a3 cs4 ha5 hc6 he7 => ?_
    refine ⟨_, ldAn O.s hc6 rfl, ?_⟩
    refine O.new fun h8 x9 O10 => ?_
    refine ⟨_, rfl, (T_api_Expr.T.len _ _ _ he7), ?_⟩
    refine O10.stA 1 rfl (T_api_Expr.T.len _ _ _ he7) (T_api_Expr.T.flat _ _ _ he7) fun h12 O13 => ?_
    refine ⟨_, ldAn (Sub.refl _) (O13.all 1 rfl) (T_api_Expr.T.len _ _ _ he7), ?_⟩
    obtain ⟨y14, g15, e⟩ := bind_e e
    refine ((ih _ _ g15) _ _ _ _ (Hold.start (W := No) O13.s) he7 tab).mono ?_
    rintro _ h16 ⟨m17, Q18, rfl⟩
    have O20 := Hold.nm (O13.retC Q18 vfs_nil)
    refine ⟨_, rfl, ?_⟩
    obtain ⟨g21, e⟩ := guard_e e
    refine ⟨g21, ?_⟩
    exact (ih _ _ e) _ _ _ _ _ _ _ _ _ _ (O20.pick [0]).nm e_1 rfl k_50 r_50 tab
  · obtain ⟨A22, c23, q24, k25, r26⟩ := T_api_Expr.g6 e_1
    refine ⟨_, ldk (k := 6) (Sub.refl _) (O.all 0 rfl) q24, _, _, _, rfl, ?_⟩
    exact (ih _ _ e) _ _ _ _ _ _ _ _ (O.pick []).nm rfl k25 r26 tab
set_option maxHeartbeats 4000000 in
set_option maxRecDepth 100000 in
theorem roadref2_ExprMark_k.step_l2 (go : (p : roadref2_ExprMark_k.Pt) → Option (ByteArray)) (ih : ∀ p r, go p = some r → roadref2_ExprMark_k.I p r) (s_3 : ByteArray) (a_62 : List T_api_Arm) (x_63 : Int) (x_64 : Int) (r : ByteArray) (e : roadref2_ExprMark_k.body go (.l2 s_3 a_62 x_63 x_64) = some r) : roadref2_ExprMark_k.I (.l2 s_3 a_62 x_63 x_64) r := by
  unfold roadref2_ExprMark_k.body at e
  intro W h0 m0 h m A_62 n_62 c_62 O ne_62 k_62 r_62 tab
  subst ne_62
  refine f10.l2_in ?_
  unfold f10.l2T
  refine split_dec_e e (fun c62 e => ?_) (fun c62 e => ?_)
  · obtain ⟨y1, g2, e⟩ := bind_e e
    refine r_62.addr rfl g2 fun a3 cs4 ha5 hc6 he7 => ?_
    refine ⟨_, ldAn O.s hc6 rfl, ?_⟩
    refine O.new fun h8 x9 O10 => ?_
    refine ⟨_, rfl, (T_api_Arm.T.len _ _ _ he7), ?_⟩
    refine O10.stA 0 rfl (T_api_Arm.T.len _ _ _ he7) (T_api_Arm.T.flat _ _ _ he7) fun h12 O13 => ?_
    refine ⟨_, ldA0n (Sub.refl _) (O13.all 0 rfl) 4 (le_len (T_api_Arm.T.len _ _ _ he7) (by decide)), ?_⟩
    obtain ⟨y14, g15, e⟩ := bind_e e
    obtain ⟨y21, g22, e⟩ := bind_e e
    refine ⟨?_, ?_⟩
    · refine (roadref2_PatMark.walk (Hold.start (W := No) O13.s) (T_api_Arm.u0_48 he7) tab g15).mono ?_
      rintro _ h32 ⟨m33, Q34, rfl⟩
      have O36 := Hold.nm (O13.retC Q34 vfs_nil)
      refine ⟨_, rfl, ?_⟩
      refine ⟨_, ldAkn (Sub.refl _) (O36.all 0 rfl) 4 8 (le_len (T_api_Arm.T.len _ _ _ he7) (by decide)), ?_⟩
      refine ⟨Ext.refl _, ?_⟩
      refine ((ih _ _ g22) _ _ _ _ (Hold.start (W := No) O36.s) (T_api_Arm.u4_40 he7) tab).mono ?_
      rintro _ h39 ⟨m40, Q41, rfl⟩
      have O43 := Hold.nm (O36.retC Q41 vfs_nil)
      refine ⟨_, rfl, ?_⟩
      obtain ⟨g44, e⟩ := guard_e e
      refine ⟨g44, ?_⟩
      obtain ⟨g45, e⟩ := guard_e e
      refine ⟨g45, ?_⟩
      exact (ih _ _ e) _ _ _ _ _ _ _ _ (O43.pick []).nm rfl k_62 r_62 tab
    · refine ⟨_, ldAkn (Sub.refl _) (O13.all 0 rfl) 4 8 (le_len (T_api_Arm.T.len _ _ _ he7) (by decide)), ?_⟩
      refine ⟨Ext.refl _, ?_⟩
      refine (roadref2_PatMark.walk (Hold.start (W := No) O13.s) (T_api_Arm.u0_48 he7) tab g15).mono ?_
      rintro _ h48 ⟨m49, Q50, rfl⟩
      have O52 := Hold.nm (O13.retC Q50 vfs_nil)
      refine ⟨_, rfl, ?_⟩
      refine ((ih _ _ g22) _ _ _ _ (Hold.start (W := No) O52.s) (T_api_Arm.u4_40 he7) tab).mono ?_
      rintro _ h55 ⟨m56, Q57, rfl⟩
      have O59 := Hold.nm (O52.retC Q57 vfs_nil)
      refine ⟨_, rfl, ?_⟩
      obtain ⟨g60, e⟩ := guard_e e
      refine ⟨g60, ?_⟩
      obtain ⟨g61, e⟩ := guard_e e
      refine ⟨g61, ?_⟩
      exact (ih _ _ e) _ _ _ _ _ _ _ _ (O59.pick []).nm rfl k_62 r_62 tab
  · cases e
    exact ⟨_, O.pick [], rfl⟩
theorem roadref2_ExprMark_k.all {p : roadref2_ExprMark_k.Pt} {r : (ByteArray)} (e : roadref2_ExprMark_k.go p = some r) : roadref2_ExprMark_k.I p r := fixF_ind (β := fun _ => (ByteArray)) roadref2_ExprMark_k.mono (I := roadref2_ExprMark_k.I) (fun go ih p r e => match p with
  | .f y_0 => roadref2_ExprMark_k.step_f go ih y_0 r e
  | .j0 y_1 s_3 => roadref2_ExprMark_k.step_j0 go ih y_1 s_3 r e
  | .l0 y_1 s_3 a_38 x_39 x_40 => roadref2_ExprMark_k.step_l0 go ih y_1 s_3 a_38 x_39 x_40 r e
  | .l1 y_1 s_3 a_50 x_51 x_52 => roadref2_ExprMark_k.step_l1 go ih y_1 s_3 a_50 x_51 x_52 r e
  | .l2 s_3 a_62 x_63 x_64 => roadref2_ExprMark_k.step_l2 go ih s_3 a_62 x_63 x_64 r e
  ) e
theorem roadref2_ExprMark.walk {W : Nat → Prop} {h m : Heap} {cs_0 : List Value} {y_0 : T_api_Expr} (O : Hold W h m h m []) (e_0 : T_api_Expr.E m y_0 cs_0) (tab : TB m) {r : ByteArray} (e : roadref2_ExprMark y_0 = some r) : Run Tryd.prog 10 #[Value.agg cs_0.toArray] h (roadref2_ExprMark.post W h m r) := roadref2_ExprMark_k.all (p := .f y_0) e W h m cs_0 O e_0 tab
def slices_Equal_20.post (W : Nat → Prop) (h0 m0 : Heap) (r : Bool) (v : Value) (h : Heap) : Prop := ∃ m , Hold W h0 m0 h m [] ∧ v = .bool r
inductive slices_Equal_20.l0_k.Pt where
  | l0 (a_0 : List ByteArray) (a_1 : List ByteArray) (x_12 : Int) (x_13 : Int)
noncomputable def slices_Equal_20.l0_k.body (go : (p : slices_Equal_20.l0_k.Pt) → Option (Bool)) : (p : slices_Equal_20.l0_k.Pt) → Option (Bool)
  | .l0 a_0 a_1 x_12 x_13 => if x_13 < x_12 then (Option.bind (gi a_0 x_13) fun y1 => Option.bind (gi a_1 x_13) fun y8 => if y1 = y8 then ((go (.l0 a_0 a_1 x_12 (IntKind.wrap .i64 (x_13 + (1 : Int)))))) else (some (false))) else (some (true))
theorem slices_Equal_20.l0_k.mono : MonoF (β := fun _ => (Bool)) slices_Equal_20.l0_k.body := fun f g hfg p => match p with
  | .l0 a_0 a_1 x_12 x_13 => LeO.ite (LeO.bind (LeO.refl _) fun y1 => LeO.bind (LeO.refl _) fun y8 => LeO.ite ((hfg _)) (LeO.refl _)) (LeO.refl _)
noncomputable def slices_Equal_20.l0_k.go (p : slices_Equal_20.l0_k.Pt) : Option (Bool) := fixF (β := fun _ => (Bool)) slices_Equal_20.l0_k.body p
noncomputable def slices_Equal_20.l0 (a_0 : List ByteArray) (a_1 : List ByteArray) (x_12 : Int) (x_13 : Int) : Option (Bool) := slices_Equal_20.l0_k.go (.l0 a_0 a_1 x_12 x_13)
theorem slices_Equal_20.l0_eq (a_0 : List ByteArray) (a_1 : List ByteArray) (x_12 : Int) (x_13 : Int) : slices_Equal_20.l0 a_0 a_1 x_12 x_13 = if x_13 < x_12 then (Option.bind (gi a_0 x_13) fun y1 => Option.bind (gi a_1 x_13) fun y8 => if y1 = y8 then ((slices_Equal_20.l0 a_0 a_1 x_12 (IntKind.wrap .i64 (x_13 + (1 : Int))))) else (some (false))) else (some (true)) := fixF_eq slices_Equal_20.l0_k.mono _
def slices_Equal_20.l0_k.I : (p : slices_Equal_20.l0_k.Pt) → (Bool) → Prop
  | .l0 a_0 a_1 x_12 x_13, r => ∀ (W : Nat → Prop) (h0 m0 h m : Heap) (A_0 : Option Addr) (n_0 c_0 : Nat) (A_1 : Option Addr) (n_1 c_1 : Nat) (O : Hold W h0 m0 h m []) (ne_0 : n_0 = List.length a_0) (k_0 : List.length a_0 ≤ c_0) (r_0 : Rd 1 eStr m A_0 a_0) (ne_1 : n_1 = List.length a_1) (k_1 : List.length a_1 ≤ c_1) (r_1 : Rd 1 eStr m A_1 a_1), f20.l0 (slices_Equal_20.post W h0 m0 r) A_0 n_0 c_0 A_1 n_1 c_1 x_12 x_13 h
set_option maxRecDepth 100000 in
theorem slices_Equal_20.l0_k.step_l0 (go : (p : slices_Equal_20.l0_k.Pt) → Option (Bool)) (ih : ∀ p r, go p = some r → slices_Equal_20.l0_k.I p r) (a_0 : List ByteArray) (a_1 : List ByteArray) (x_12 : Int) (x_13 : Int) (r : Bool) (e : slices_Equal_20.l0_k.body go (.l0 a_0 a_1 x_12 x_13) = some r) : slices_Equal_20.l0_k.I (.l0 a_0 a_1 x_12 x_13) r := by
  unfold slices_Equal_20.l0_k.body at e
  intro W h0 m0 h m A_0 n_0 c_0 A_1 n_1 c_1 O ne_0 k_0 r_0 ne_1 k_1 r_1
  subst ne_0
  subst ne_1
  refine f20.l0_in ?_
  unfold f20.l0T
  refine split_dec_e e (fun c16 e => ?_) (fun c16 e => ?_)
  · obtain ⟨y1, g2, e⟩ := bind_e e
    refine r_0.addr rfl g2 fun a3 cs4 ha5 hc6 he7 => ?_
    obtain rfl : cs4 = [(Value.string y1)] := he7
    obtain ⟨y8, g9, e⟩ := bind_e e
    refine r_1.addr rfl g9 fun a10 cs11 ha12 hc13 he14 => ?_
    obtain rfl : cs11 = [(Value.string y8)] := he14
    refine ⟨_, ld0 O.s hc6 rfl, _, rfl, ?_⟩
    refine ⟨_, ld0 O.s hc13 rfl, _, rfl, ?_⟩
    try rw [ba_list y1 y8]
    refine split_not ?_
    refine split_dec_e e (fun c15 e => ?_) (fun c15 e => ?_)
    · exact (ih _ _ e) _ _ _ _ _ _ _ _ _ _ _ (O.pick []).nm rfl k_0 r_0 rfl k_1 r_1
    · cases e
      exact ⟨_, O.pick [], rfl⟩
  · cases e
    exact ⟨_, O.pick [], rfl⟩
theorem slices_Equal_20.l0_k.all {p : slices_Equal_20.l0_k.Pt} {r : (Bool)} (e : slices_Equal_20.l0_k.go p = some r) : slices_Equal_20.l0_k.I p r := fixF_ind (β := fun _ => (Bool)) slices_Equal_20.l0_k.mono (I := slices_Equal_20.l0_k.I) (fun go ih p r e => match p with
  | .l0 a_0 a_1 x_12 x_13 => slices_Equal_20.l0_k.step_l0 go ih a_0 a_1 x_12 x_13 r e
  ) e
theorem slices_Equal_20.l0.walk {W : Nat → Prop} {h0 m0 h m : Heap} {A_0 : Option Addr} {n_0 c_0 : Nat} {A_1 : Option Addr} {n_1 c_1 : Nat} {a_0 : List ByteArray} {a_1 : List ByteArray} {x_12 : Int} {x_13 : Int} (O : Hold W h0 m0 h m []) (ne_0 : n_0 = List.length a_0) (k_0 : List.length a_0 ≤ c_0) (r_0 : Rd 1 eStr m A_0 a_0) (ne_1 : n_1 = List.length a_1) (k_1 : List.length a_1 ≤ c_1) (r_1 : Rd 1 eStr m A_1 a_1) {r : Bool} (e : slices_Equal_20.l0 a_0 a_1 x_12 x_13 = some r) : f20.l0 (slices_Equal_20.post W h0 m0 r) A_0 n_0 c_0 A_1 n_1 c_1 x_12 x_13 h := slices_Equal_20.l0_k.all (p := .l0 a_0 a_1 x_12 x_13) e W h0 m0 h m A_0 n_0 c_0 A_1 n_1 c_1 O ne_0 k_0 r_0 ne_1 k_1 r_1
noncomputable def slices_Equal_20 (a_0 : List ByteArray) (a_1 : List ByteArray) : Option (Bool) :=
  if (((List.length a_0) : Nat) : Int) = (((List.length a_1) : Nat) : Int) then ((slices_Equal_20.l0 a_0 a_1 (((List.length a_0) : Nat) : Int) (0 : Int))) else (some (false))
set_option maxRecDepth 100000 in
theorem slices_Equal_20.walk {W : Nat → Prop} {h m : Heap} {A_0 : Option Addr} {n_0 c_0 : Nat} {A_1 : Option Addr} {n_1 c_1 : Nat} {a_0 : List ByteArray} {a_1 : List ByteArray} (O : Hold W h m h m []) (ne_0 : n_0 = List.length a_0) (k_0 : List.length a_0 ≤ c_0) (r_0 : Rd 1 eStr m A_0 a_0) (ne_1 : n_1 = List.length a_1) (k_1 : List.length a_1 ≤ c_1) (r_1 : Rd 1 eStr m A_1 a_1) {r : Bool} (e : slices_Equal_20 a_0 a_1 = some r) : Run Tryd.prog 20 #[Value.slice A_0 n_0 c_0, Value.slice A_1 n_1 c_1] h (slices_Equal_20.post W h m r) := by
  unfold slices_Equal_20 at e
  subst ne_0
  subst ne_1
  refine f20.run ?_
  unfold f20.runT
  refine split_ne_e e (fun c1 e => ?_) (fun c1 e => ?_)
  · cases e
    exact ⟨_, O.pick [], rfl⟩
  · exact slices_Equal_20.l0.walk (O.pick []).nm rfl k_0 r_0 rfl k_1 r_1 e
def slices_EqualFunc_48_s1.post (W : Nat → Prop) (h0 m0 : Heap) (r : Bool) (v : Value) (h : Heap) : Prop := ∃ m , Hold W h0 m0 h m [] ∧ v = .bool r
def tree_SameType.post (W : Nat → Prop) (h0 m0 : Heap) (r : Bool) (v : Value) (h : Heap) : Prop := ∃ m , Hold W h0 m0 h m [] ∧ v = .bool r
inductive tree_SameType_k.Pt where
  | f_49 (y_0 : T_api_Type) (y_1 : T_api_Type)
  | f_1000000 (a_0 : List T_api_Type) (a_1 : List T_api_Type)
  | l0_1000000 (a_1 : List T_api_Type) (a_15 : List T_api_Type) (x_16 : Int) (x_17 : Int)
noncomputable def tree_SameType_k.body (go : (p : tree_SameType_k.Pt) → Option (Bool)) : (p : tree_SameType_k.Pt) → Option (Bool)
  | .f_49 y_0 y_1 => if y_0.Kind = y_1.Kind then (if y_0.Name = y_1.Name then (Option.bind ((go (.f_1000000 y_0.Args y_1.Args))) fun y19 => some (y19)) else (some (false))) else (some (false))
  | .f_1000000 a_0 a_1 => if (((List.length a_0) : Nat) : Int) = (((List.length a_1) : Nat) : Int) then ((go (.l0_1000000 a_1 a_0 (((List.length a_0) : Nat) : Int) (0 : Int)))) else (some (false))
  | .l0_1000000 a_1 a_15 x_16 x_17 => if x_17 < x_16 then (Option.bind (gi a_15 x_17) fun y1 => Option.bind (gi a_1 x_17) fun y14 => Option.bind ((go (.f_49 y1 y14))) fun y27 => if y27 = true then ((go (.l0_1000000 a_1 a_15 x_16 (IntKind.wrap .i64 (x_17 + (1 : Int)))))) else (some (false))) else (some (true))
theorem tree_SameType_k.mono : MonoF (β := fun _ => (Bool)) tree_SameType_k.body := fun f g hfg p => match p with
  | .f_49 y_0 y_1 => LeO.ite (LeO.ite (LeO.bind ((hfg _)) fun y19 => LeO.refl _) (LeO.refl _)) (LeO.refl _)
  | .f_1000000 a_0 a_1 => LeO.ite ((hfg _)) (LeO.refl _)
  | .l0_1000000 a_1 a_15 x_16 x_17 => LeO.ite (LeO.bind (LeO.refl _) fun y1 => LeO.bind (LeO.refl _) fun y14 => LeO.bind ((hfg _)) fun y27 => LeO.ite ((hfg _)) (LeO.refl _)) (LeO.refl _)
noncomputable def tree_SameType_k.go (p : tree_SameType_k.Pt) : Option (Bool) := fixF (β := fun _ => (Bool)) tree_SameType_k.body p
noncomputable def tree_SameType (y_0 : T_api_Type) (y_1 : T_api_Type) : Option (Bool) := tree_SameType_k.go (.f_49 y_0 y_1)
noncomputable def slices_EqualFunc_48_s1 (a_0 : List T_api_Type) (a_1 : List T_api_Type) : Option (Bool) := tree_SameType_k.go (.f_1000000 a_0 a_1)
noncomputable def slices_EqualFunc_48_s1.l0 (a_1 : List T_api_Type) (a_15 : List T_api_Type) (x_16 : Int) (x_17 : Int) : Option (Bool) := tree_SameType_k.go (.l0_1000000 a_1 a_15 x_16 x_17)
theorem tree_SameType_eq (y_0 : T_api_Type) (y_1 : T_api_Type) : tree_SameType y_0 y_1 = if y_0.Kind = y_1.Kind then (if y_0.Name = y_1.Name then (Option.bind ((slices_EqualFunc_48_s1 y_0.Args y_1.Args)) fun y19 => some (y19)) else (some (false))) else (some (false)) := fixF_eq tree_SameType_k.mono _
theorem slices_EqualFunc_48_s1_eq (a_0 : List T_api_Type) (a_1 : List T_api_Type) : slices_EqualFunc_48_s1 a_0 a_1 = if (((List.length a_0) : Nat) : Int) = (((List.length a_1) : Nat) : Int) then ((slices_EqualFunc_48_s1.l0 a_1 a_0 (((List.length a_0) : Nat) : Int) (0 : Int))) else (some (false)) := fixF_eq tree_SameType_k.mono _
theorem slices_EqualFunc_48_s1.l0_eq (a_1 : List T_api_Type) (a_15 : List T_api_Type) (x_16 : Int) (x_17 : Int) : slices_EqualFunc_48_s1.l0 a_1 a_15 x_16 x_17 = if x_17 < x_16 then (Option.bind (gi a_15 x_17) fun y1 => Option.bind (gi a_1 x_17) fun y14 => Option.bind ((tree_SameType y1 y14)) fun y27 => if y27 = true then ((slices_EqualFunc_48_s1.l0 a_1 a_15 x_16 (IntKind.wrap .i64 (x_17 + (1 : Int))))) else (some (false))) else (some (true)) := fixF_eq tree_SameType_k.mono _
def tree_SameType_k.I : (p : tree_SameType_k.Pt) → (Bool) → Prop
  | .f_49 y_0 y_1, r => ∀ (W : Nat → Prop) (h m : Heap) (cs_0 : List Value) (cs_1 : List Value) (O : Hold W h m h m []) (e_0 : T_api_Type.E m y_0 cs_0) (e_1 : T_api_Type.E m y_1 cs_1), Run Tryd.prog 49 #[Value.agg cs_0.toArray, Value.agg cs_1.toArray] h (tree_SameType.post W h m r)
  | .f_1000000 a_0 a_1, r => ∀ (W : Nat → Prop) (h m : Heap) (A_0 : Option Addr) (n_0 c_0 : Nat) (A_1 : Option Addr) (n_1 c_1 : Nat) (O : Hold W h m h m []) (ne_0 : n_0 = List.length a_0) (k_0 : List.length a_0 ≤ c_0) (r_0 : Rd 3 T_api_Type.E m A_0 a_0) (ne_1 : n_1 = List.length a_1) (k_1 : List.length a_1 ≤ c_1) (r_1 : Rd 3 T_api_Type.E m A_1 a_1), Run Tryd.prog 48 #[Value.slice A_0 n_0 c_0, Value.slice A_1 n_1 c_1, (Value.func (.func 49) #[] #[])] h (slices_EqualFunc_48_s1.post W h m r)
  | .l0_1000000 a_1 a_15 x_16 x_17, r => ∀ (W : Nat → Prop) (h0 m0 h m : Heap) (A_1 : Option Addr) (n_1 c_1 : Nat) (A_15 : Option Addr) (n_15 c_15 : Nat) (O : Hold W h0 m0 h m []) (ne_1 : n_1 = List.length a_1) (k_1 : List.length a_1 ≤ c_1) (r_1 : Rd 3 T_api_Type.E m A_1 a_1) (ne_15 : n_15 = List.length a_15) (k_15 : List.length a_15 ≤ c_15) (r_15 : Rd 3 T_api_Type.E m A_15 a_15), f48.l0 (slices_EqualFunc_48_s1.post W h0 m0 r) A_1 n_1 c_1 (Value.func (.func 49) #[] #[]) A_15 n_15 c_15 x_16 x_17 h
set_option maxRecDepth 100000 in
theorem tree_SameType_k.step_f_49 (go : (p : tree_SameType_k.Pt) → Option (Bool)) (ih : ∀ p r, go p = some r → tree_SameType_k.I p r) (y_0 : T_api_Type) (y_1 : T_api_Type) (r : Bool) (e : tree_SameType_k.body go (.f_49 y_0 y_1) = some r) : tree_SameType_k.I (.f_49 y_0 y_1) r := by
  unfold tree_SameType_k.body at e
  intro W h m cs_0 cs_1 O e_0 e_1
  refine f49.run ?_
  unfold f49.runT
  refine O.new fun h1 x2 O3 => ?_
  refine O3.new fun h5 x6 O7 => ?_
  refine ⟨_, ld0 (Sub.refl _) (O7.all 0 rfl) (T_api_Type.g0 e_0), _, rfl, ?_⟩
  refine ⟨_, ld0 (Sub.refl _) (O7.all 1 rfl) (T_api_Type.g0 e_1), _, rfl, ?_⟩
  refine split_eq_e e (fun c29 e => ?_) (fun c29 e => ?_)
  · refine ⟨_, ldk (k := 1) (Sub.refl _) (O7.all 0 rfl) (T_api_Type.g1 e_0), _, rfl, ?_⟩
    refine ⟨_, ldk (k := 1) (Sub.refl _) (O7.all 1 rfl) (T_api_Type.g1 e_1), _, rfl, ?_⟩
    try rw [ba_list y_0.Name y_1.Name]
    refine split_dec_e e (fun c27 e => ?_) (fun c27 e => ?_)
    · obtain ⟨A9, c10, q11, k12, r13⟩ := T_api_Type.g2 e_0
      refine ⟨_, ldk (k := 2) (Sub.refl _) (O7.all 0 rfl) q11, _, _, _, rfl, ?_⟩
      obtain ⟨A14, c15, q16, k17, r18⟩ := T_api_Type.g2 e_1
      refine ⟨_, ldk (k := 2) (Sub.refl _) (O7.all 1 rfl) q16, _, _, _, rfl, ?_⟩
      obtain ⟨y19, g20, e⟩ := bind_e e
      refine ((ih _ _ g20) _ _ _ _ _ _ _ _ _ (Hold.start (W := No) O7.s) rfl k12 r13 rfl k17 r18).mono ?_
      rintro _ h21 ⟨m22, Q23, rfl⟩
      have O25 := Hold.nm (O7.retC Q23 vfs_nil)
      refine ⟨_, rfl, ?_⟩
      cases e
      exact ⟨_, O25.pick [], rfl⟩
    · have O26 := O7.nm
      cases e
      exact ⟨_, O26.pick [], rfl⟩
  · have O28 := O7.nm
    cases e
    exact ⟨_, O28.pick [], rfl⟩
set_option maxRecDepth 100000 in
theorem tree_SameType_k.step_f_1000000 (go : (p : tree_SameType_k.Pt) → Option (Bool)) (ih : ∀ p r, go p = some r → tree_SameType_k.I p r) (a_0 : List T_api_Type) (a_1 : List T_api_Type) (r : Bool) (e : tree_SameType_k.body go (.f_1000000 a_0 a_1) = some r) : tree_SameType_k.I (.f_1000000 a_0 a_1) r := by
  unfold tree_SameType_k.body at e
  intro W h m A_0 n_0 c_0 A_1 n_1 c_1 O ne_0 k_0 r_0 ne_1 k_1 r_1
  subst ne_0
  subst ne_1
  refine f48.run ?_
  unfold f48.runT
  refine split_ne_e e (fun c1 e => ?_) (fun c1 e => ?_)
  · cases e
    exact ⟨_, O.pick [], rfl⟩
  · exact (ih _ _ e) _ _ _ _ _ _ _ _ _ _ _ (O.pick []).nm rfl k_1 r_1 rfl k_0 r_0
set_option maxRecDepth 100000 in
theorem tree_SameType_k.step_l0_1000000 (go : (p : tree_SameType_k.Pt) → Option (Bool)) (ih : ∀ p r, go p = some r → tree_SameType_k.I p r) (a_1 : List T_api_Type) (a_15 : List T_api_Type) (x_16 : Int) (x_17 : Int) (r : Bool) (e : tree_SameType_k.body go (.l0_1000000 a_1 a_15 x_16 x_17) = some r) : tree_SameType_k.I (.l0_1000000 a_1 a_15 x_16 x_17) r := by
  unfold tree_SameType_k.body at e
  intro W h0 m0 h m A_1 n_1 c_1 A_15 n_15 c_15 O ne_1 k_1 r_1 ne_15 k_15 r_15
  subst ne_1
  subst ne_15
  refine f48.l0_in ?_
  unfold f48.l0T
  refine split_dec_e e (fun c35 e => ?_) (fun c35 e => ?_)
  · obtain ⟨y1, g2, e⟩ := bind_e e
    refine r_15.addr rfl g2 fun a3 cs4 ha5 hc6 he7 => ?_
    refine ⟨_, ldAn O.s hc6 rfl, ?_⟩
    refine O.new fun h8 x9 O10 => ?_
    refine ⟨_, rfl, (T_api_Type.T.len _ _ _ he7), ?_⟩
    refine O10.stA 0 rfl (T_api_Type.T.len _ _ _ he7) (T_api_Type.T.flat _ _ _ he7) fun h12 O13 => ?_
    obtain ⟨y14, g15, e⟩ := bind_e e
    refine r_1.addr rfl g15 fun a16 cs17 ha18 hc19 he20 => ?_
    refine ⟨_, ldAn O13.s hc19 rfl, ?_⟩
    refine O13.new fun h21 x22 O23 => ?_
    refine ⟨_, rfl, (T_api_Type.T.len _ _ _ he20), ?_⟩
    refine O23.stA 1 rfl (T_api_Type.T.len _ _ _ he20) (T_api_Type.T.flat _ _ _ he20) fun h25 O26 => ?_
    refine ⟨_, ldAn (Sub.refl _) (O26.all 0 rfl) (T_api_Type.T.len _ _ _ he7), ?_⟩
    refine ⟨_, ldAn (Sub.refl _) (O26.all 1 rfl) (T_api_Type.T.len _ _ _ he20), ?_⟩
    obtain ⟨y27, g28, e⟩ := bind_e e
    refine CallF.of [(Value.agg (List.toArray cs4)), (Value.agg (List.toArray cs17))] f49.ok rfl ?_
    refine ((ih _ _ g28) _ _ _ _ _ (Hold.start (W := No) O26.s) he7 he20).mono ?_
    rintro _ h29 ⟨m30, Q31, rfl⟩
    have O33 := Hold.nm (O26.retC Q31 vfs_nil)
    refine ⟨_, rfl, ?_⟩
    refine split_not ?_
    refine split_any_e e (fun c34 e => ?_) (fun c34 e => ?_)
    · exact (ih _ _ e) _ _ _ _ _ _ _ _ _ _ _ (O33.pick []).nm rfl k_1 r_1 rfl k_15 r_15
    · cases e
      exact ⟨_, O33.pick [], rfl⟩
  · cases e
    exact ⟨_, O.pick [], rfl⟩
theorem tree_SameType_k.all {p : tree_SameType_k.Pt} {r : (Bool)} (e : tree_SameType_k.go p = some r) : tree_SameType_k.I p r := fixF_ind (β := fun _ => (Bool)) tree_SameType_k.mono (I := tree_SameType_k.I) (fun go ih p r e => match p with
  | .f_49 y_0 y_1 => tree_SameType_k.step_f_49 go ih y_0 y_1 r e
  | .f_1000000 a_0 a_1 => tree_SameType_k.step_f_1000000 go ih a_0 a_1 r e
  | .l0_1000000 a_1 a_15 x_16 x_17 => tree_SameType_k.step_l0_1000000 go ih a_1 a_15 x_16 x_17 r e
  ) e
theorem slices_EqualFunc_48_s1.walk {W : Nat → Prop} {h m : Heap} {A_0 : Option Addr} {n_0 c_0 : Nat} {A_1 : Option Addr} {n_1 c_1 : Nat} {a_0 : List T_api_Type} {a_1 : List T_api_Type} (O : Hold W h m h m []) (ne_0 : n_0 = List.length a_0) (k_0 : List.length a_0 ≤ c_0) (r_0 : Rd 3 T_api_Type.E m A_0 a_0) (ne_1 : n_1 = List.length a_1) (k_1 : List.length a_1 ≤ c_1) (r_1 : Rd 3 T_api_Type.E m A_1 a_1) {r : Bool} (e : slices_EqualFunc_48_s1 a_0 a_1 = some r) : Run Tryd.prog 48 #[Value.slice A_0 n_0 c_0, Value.slice A_1 n_1 c_1, (Value.func (.func 49) #[] #[])] h (slices_EqualFunc_48_s1.post W h m r) := tree_SameType_k.all (p := .f_1000000 a_0 a_1) e W h m A_0 n_0 c_0 A_1 n_1 c_1 O ne_0 k_0 r_0 ne_1 k_1 r_1
def slices_EqualFunc_68_s2.post (W : Nat → Prop) (h0 m0 : Heap) (r : Bool) (v : Value) (h : Heap) : Prop := ∃ m , Hold W h0 m0 h m [] ∧ v = .bool r
def tree_SamePat.post (W : Nat → Prop) (h0 m0 : Heap) (r : Bool) (v : Value) (h : Heap) : Prop := ∃ m , Hold W h0 m0 h m [] ∧ v = .bool r
inductive tree_SamePat_k.Pt where
  | f_65 (y_0 : T_api_Pat) (y_1 : T_api_Pat)
  | f_1000001 (a_0 : List T_api_Pat) (a_1 : List T_api_Pat)
  | l0_1000001 (a_1 : List T_api_Pat) (a_15 : List T_api_Pat) (x_16 : Int) (x_17 : Int)
noncomputable def tree_SamePat_k.body (go : (p : tree_SamePat_k.Pt) → Option (Bool)) : (p : tree_SamePat_k.Pt) → Option (Bool)
  | .f_65 y_0 y_1 => if y_0.Kind = y_1.Kind then (if y_0.Num = y_1.Num then (if y_0.Text = y_1.Text then (Option.bind ((go (.f_1000001 y_0.Args y_1.Args))) fun y19 => some (y19)) else (some (false))) else (some (false))) else (some (false))
  | .f_1000001 a_0 a_1 => if (((List.length a_0) : Nat) : Int) = (((List.length a_1) : Nat) : Int) then ((go (.l0_1000001 a_1 a_0 (((List.length a_0) : Nat) : Int) (0 : Int)))) else (some (false))
  | .l0_1000001 a_1 a_15 x_16 x_17 => if x_17 < x_16 then (Option.bind (gi a_15 x_17) fun y1 => Option.bind (gi a_1 x_17) fun y14 => Option.bind ((go (.f_65 y1 y14))) fun y27 => if y27 = true then ((go (.l0_1000001 a_1 a_15 x_16 (IntKind.wrap .i64 (x_17 + (1 : Int)))))) else (some (false))) else (some (true))
theorem tree_SamePat_k.mono : MonoF (β := fun _ => (Bool)) tree_SamePat_k.body := fun f g hfg p => match p with
  | .f_65 y_0 y_1 => LeO.ite (LeO.ite (LeO.ite (LeO.bind ((hfg _)) fun y19 => LeO.refl _) (LeO.refl _)) (LeO.refl _)) (LeO.refl _)
  | .f_1000001 a_0 a_1 => LeO.ite ((hfg _)) (LeO.refl _)
  | .l0_1000001 a_1 a_15 x_16 x_17 => LeO.ite (LeO.bind (LeO.refl _) fun y1 => LeO.bind (LeO.refl _) fun y14 => LeO.bind ((hfg _)) fun y27 => LeO.ite ((hfg _)) (LeO.refl _)) (LeO.refl _)
noncomputable def tree_SamePat_k.go (p : tree_SamePat_k.Pt) : Option (Bool) := fixF (β := fun _ => (Bool)) tree_SamePat_k.body p
noncomputable def tree_SamePat (y_0 : T_api_Pat) (y_1 : T_api_Pat) : Option (Bool) := tree_SamePat_k.go (.f_65 y_0 y_1)
noncomputable def slices_EqualFunc_68_s2 (a_0 : List T_api_Pat) (a_1 : List T_api_Pat) : Option (Bool) := tree_SamePat_k.go (.f_1000001 a_0 a_1)
noncomputable def slices_EqualFunc_68_s2.l0 (a_1 : List T_api_Pat) (a_15 : List T_api_Pat) (x_16 : Int) (x_17 : Int) : Option (Bool) := tree_SamePat_k.go (.l0_1000001 a_1 a_15 x_16 x_17)
theorem tree_SamePat_eq (y_0 : T_api_Pat) (y_1 : T_api_Pat) : tree_SamePat y_0 y_1 = if y_0.Kind = y_1.Kind then (if y_0.Num = y_1.Num then (if y_0.Text = y_1.Text then (Option.bind ((slices_EqualFunc_68_s2 y_0.Args y_1.Args)) fun y19 => some (y19)) else (some (false))) else (some (false))) else (some (false)) := fixF_eq tree_SamePat_k.mono _
theorem slices_EqualFunc_68_s2_eq (a_0 : List T_api_Pat) (a_1 : List T_api_Pat) : slices_EqualFunc_68_s2 a_0 a_1 = if (((List.length a_0) : Nat) : Int) = (((List.length a_1) : Nat) : Int) then ((slices_EqualFunc_68_s2.l0 a_1 a_0 (((List.length a_0) : Nat) : Int) (0 : Int))) else (some (false)) := fixF_eq tree_SamePat_k.mono _
theorem slices_EqualFunc_68_s2.l0_eq (a_1 : List T_api_Pat) (a_15 : List T_api_Pat) (x_16 : Int) (x_17 : Int) : slices_EqualFunc_68_s2.l0 a_1 a_15 x_16 x_17 = if x_17 < x_16 then (Option.bind (gi a_15 x_17) fun y1 => Option.bind (gi a_1 x_17) fun y14 => Option.bind ((tree_SamePat y1 y14)) fun y27 => if y27 = true then ((slices_EqualFunc_68_s2.l0 a_1 a_15 x_16 (IntKind.wrap .i64 (x_17 + (1 : Int))))) else (some (false))) else (some (true)) := fixF_eq tree_SamePat_k.mono _
def tree_SamePat_k.I : (p : tree_SamePat_k.Pt) → (Bool) → Prop
  | .f_65 y_0 y_1, r => ∀ (W : Nat → Prop) (h m : Heap) (cs_0 : List Value) (cs_1 : List Value) (O : Hold W h m h m []) (e_0 : T_api_Pat.E m y_0 cs_0) (e_1 : T_api_Pat.E m y_1 cs_1), Run Tryd.prog 65 #[Value.agg cs_0.toArray, Value.agg cs_1.toArray] h (tree_SamePat.post W h m r)
  | .f_1000001 a_0 a_1, r => ∀ (W : Nat → Prop) (h m : Heap) (A_0 : Option Addr) (n_0 c_0 : Nat) (A_1 : Option Addr) (n_1 c_1 : Nat) (O : Hold W h m h m []) (ne_0 : n_0 = List.length a_0) (k_0 : List.length a_0 ≤ c_0) (r_0 : Rd 4 T_api_Pat.E m A_0 a_0) (ne_1 : n_1 = List.length a_1) (k_1 : List.length a_1 ≤ c_1) (r_1 : Rd 4 T_api_Pat.E m A_1 a_1), Run Tryd.prog 68 #[Value.slice A_0 n_0 c_0, Value.slice A_1 n_1 c_1, (Value.func (.func 65) #[] #[])] h (slices_EqualFunc_68_s2.post W h m r)
  | .l0_1000001 a_1 a_15 x_16 x_17, r => ∀ (W : Nat → Prop) (h0 m0 h m : Heap) (A_1 : Option Addr) (n_1 c_1 : Nat) (A_15 : Option Addr) (n_15 c_15 : Nat) (O : Hold W h0 m0 h m []) (ne_1 : n_1 = List.length a_1) (k_1 : List.length a_1 ≤ c_1) (r_1 : Rd 4 T_api_Pat.E m A_1 a_1) (ne_15 : n_15 = List.length a_15) (k_15 : List.length a_15 ≤ c_15) (r_15 : Rd 4 T_api_Pat.E m A_15 a_15), f68.l0 (slices_EqualFunc_68_s2.post W h0 m0 r) A_1 n_1 c_1 (Value.func (.func 65) #[] #[]) A_15 n_15 c_15 x_16 x_17 h
set_option maxHeartbeats 4000000 in
set_option maxRecDepth 100000 in
theorem tree_SamePat_k.step_f_65 (go : (p : tree_SamePat_k.Pt) → Option (Bool)) (ih : ∀ p r, go p = some r → tree_SamePat_k.I p r) (y_0 : T_api_Pat) (y_1 : T_api_Pat) (r : Bool) (e : tree_SamePat_k.body go (.f_65 y_0 y_1) = some r) : tree_SamePat_k.I (.f_65 y_0 y_1) r := by
  unfold tree_SamePat_k.body at e
  intro W h m cs_0 cs_1 O e_0 e_1
  refine f65.run ?_
  unfold f65.runT
  refine O.new fun h1 x2 O3 => ?_
  refine O3.new fun h5 x6 O7 => ?_
  refine ⟨_, ld0 (Sub.refl _) (O7.all 0 rfl) (T_api_Pat.g0 e_0), _, rfl, ?_⟩
  refine ⟨_, ld0 (Sub.refl _) (O7.all 1 rfl) (T_api_Pat.g0 e_1), _, rfl, ?_⟩
  refine split_eq_e e (fun c31 e => ?_) (fun c31 e => ?_)
  · refine ⟨_, ldk (k := 1) (Sub.refl _) (O7.all 0 rfl) (T_api_Pat.g1 e_0), _, rfl, ?_⟩
    refine ⟨_, ldk (k := 1) (Sub.refl _) (O7.all 1 rfl) (T_api_Pat.g1 e_1), _, rfl, ?_⟩
    refine split_eq_e e (fun c29 e => ?_) (fun c29 e => ?_)
    · refine ⟨_, ldk (k := 2) (Sub.refl _) (O7.all 0 rfl) (T_api_Pat.g2 e_0), _, rfl, ?_⟩
      refine ⟨_, ldk (k := 2) (Sub.refl _) (O7.all 1 rfl) (T_api_Pat.g2 e_1), _, rfl, ?_⟩
      try rw [ba_list y_0.Text y_1.Text]
      refine split_dec_e e (fun c27 e => ?_) (fun c27 e => ?_)
      · obtain ⟨A9, c10, q11, k12, r13⟩ := T_api_Pat.g3 e_0
        refine ⟨_, ldk (k := 3) (Sub.refl _) (O7.all 0 rfl) q11, _, _, _, rfl, ?_⟩
        obtain ⟨A14, c15, q16, k17, r18⟩ := T_api_Pat.g3 e_1
        refine ⟨_, ldk (k := 3) (Sub.refl _) (O7.all 1 rfl) q16, _, _, _, rfl, ?_⟩
        obtain ⟨y19, g20, e⟩ := bind_e e
        refine ((ih _ _ g20) _ _ _ _ _ _ _ _ _ (Hold.start (W := No) O7.s) rfl k12 r13 rfl k17 r18).mono ?_
        rintro _ h21 ⟨m22, Q23, rfl⟩
        have O25 := Hold.nm (O7.retC Q23 vfs_nil)
        refine ⟨_, rfl, ?_⟩
        cases e
        exact ⟨_, O25.pick [], rfl⟩
      · have O26 := O7.nm
        cases e
        exact ⟨_, O26.pick [], rfl⟩
    · have O28 := O7.nm
      cases e
      exact ⟨_, O28.pick [], rfl⟩
  · have O30 := O7.nm
    cases e
    exact ⟨_, O30.pick [], rfl⟩
set_option maxRecDepth 100000 in
theorem tree_SamePat_k.step_f_1000001 (go : (p : tree_SamePat_k.Pt) → Option (Bool)) (ih : ∀ p r, go p = some r → tree_SamePat_k.I p r) (a_0 : List T_api_Pat) (a_1 : List T_api_Pat) (r : Bool) (e : tree_SamePat_k.body go (.f_1000001 a_0 a_1) = some r) : tree_SamePat_k.I (.f_1000001 a_0 a_1) r := by
  unfold tree_SamePat_k.body at e
  intro W h m A_0 n_0 c_0 A_1 n_1 c_1 O ne_0 k_0 r_0 ne_1 k_1 r_1
  subst ne_0
  subst ne_1
  refine f68.run ?_
  unfold f68.runT
  refine split_ne_e e (fun c1 e => ?_) (fun c1 e => ?_)
  · cases e
    exact ⟨_, O.pick [], rfl⟩
  · exact (ih _ _ e) _ _ _ _ _ _ _ _ _ _ _ (O.pick []).nm rfl k_1 r_1 rfl k_0 r_0
set_option maxRecDepth 100000 in
theorem tree_SamePat_k.step_l0_1000001 (go : (p : tree_SamePat_k.Pt) → Option (Bool)) (ih : ∀ p r, go p = some r → tree_SamePat_k.I p r) (a_1 : List T_api_Pat) (a_15 : List T_api_Pat) (x_16 : Int) (x_17 : Int) (r : Bool) (e : tree_SamePat_k.body go (.l0_1000001 a_1 a_15 x_16 x_17) = some r) : tree_SamePat_k.I (.l0_1000001 a_1 a_15 x_16 x_17) r := by
  unfold tree_SamePat_k.body at e
  intro W h0 m0 h m A_1 n_1 c_1 A_15 n_15 c_15 O ne_1 k_1 r_1 ne_15 k_15 r_15
  subst ne_1
  subst ne_15
  refine f68.l0_in ?_
  unfold f68.l0T
  refine split_dec_e e (fun c35 e => ?_) (fun c35 e => ?_)
  · obtain ⟨y1, g2, e⟩ := bind_e e
    refine r_15.addr rfl g2 fun a3 cs4 ha5 hc6 he7 => ?_
    refine ⟨_, ldAn O.s hc6 rfl, ?_⟩
    refine O.new fun h8 x9 O10 => ?_
    refine ⟨_, rfl, (T_api_Pat.T.len _ _ _ he7), ?_⟩
    refine O10.stA 0 rfl (T_api_Pat.T.len _ _ _ he7) (T_api_Pat.T.flat _ _ _ he7) fun h12 O13 => ?_
    obtain ⟨y14, g15, e⟩ := bind_e e
    refine r_1.addr rfl g15 fun a16 cs17 ha18 hc19 he20 => ?_
    refine ⟨_, ldAn O13.s hc19 rfl, ?_⟩
    refine O13.new fun h21 x22 O23 => ?_
    refine ⟨_, rfl, (T_api_Pat.T.len _ _ _ he20), ?_⟩
    refine O23.stA 1 rfl (T_api_Pat.T.len _ _ _ he20) (T_api_Pat.T.flat _ _ _ he20) fun h25 O26 => ?_
    refine ⟨_, ldAn (Sub.refl _) (O26.all 0 rfl) (T_api_Pat.T.len _ _ _ he7), ?_⟩
    refine ⟨_, ldAn (Sub.refl _) (O26.all 1 rfl) (T_api_Pat.T.len _ _ _ he20), ?_⟩
    obtain ⟨y27, g28, e⟩ := bind_e e
    refine CallF.of [(Value.agg (List.toArray cs4)), (Value.agg (List.toArray cs17))] f65.ok rfl ?_
    refine ((ih _ _ g28) _ _ _ _ _ (Hold.start (W := No) O26.s) he7 he20).mono ?_
    rintro _ h29 ⟨m30, Q31, rfl⟩
    have O33 := Hold.nm (O26.retC Q31 vfs_nil)
    refine ⟨_, rfl, ?_⟩
    refine split_not ?_
    refine split_any_e e (fun c34 e => ?_) (fun c34 e => ?_)
    · exact (ih _ _ e) _ _ _ _ _ _ _ _ _ _ _ (O33.pick []).nm rfl k_1 r_1 rfl k_15 r_15
    · cases e
      exact ⟨_, O33.pick [], rfl⟩
  · cases e
    exact ⟨_, O.pick [], rfl⟩
theorem tree_SamePat_k.all {p : tree_SamePat_k.Pt} {r : (Bool)} (e : tree_SamePat_k.go p = some r) : tree_SamePat_k.I p r := fixF_ind (β := fun _ => (Bool)) tree_SamePat_k.mono (I := tree_SamePat_k.I) (fun go ih p r e => match p with
  | .f_65 y_0 y_1 => tree_SamePat_k.step_f_65 go ih y_0 y_1 r e
  | .f_1000001 a_0 a_1 => tree_SamePat_k.step_f_1000001 go ih a_0 a_1 r e
  | .l0_1000001 a_1 a_15 x_16 x_17 => tree_SamePat_k.step_l0_1000001 go ih a_1 a_15 x_16 x_17 r e
  ) e
theorem tree_SamePat.walk {W : Nat → Prop} {h m : Heap} {cs_0 : List Value} {cs_1 : List Value} {y_0 : T_api_Pat} {y_1 : T_api_Pat} (O : Hold W h m h m []) (e_0 : T_api_Pat.E m y_0 cs_0) (e_1 : T_api_Pat.E m y_1 cs_1) {r : Bool} (e : tree_SamePat y_0 y_1 = some r) : Run Tryd.prog 65 #[Value.agg cs_0.toArray, Value.agg cs_1.toArray] h (tree_SamePat.post W h m r) := tree_SamePat_k.all (p := .f_65 y_0 y_1) e W h m cs_0 cs_1 O e_0 e_1
def slices_EqualFunc_50_s4.post (W : Nat → Prop) (h0 m0 : Heap) (r : Bool) (v : Value) (h : Heap) : Prop := ∃ m , Hold W h0 m0 h m [] ∧ v = .bool r
def slices_EqualFunc_26_s3.post (W : Nat → Prop) (h0 m0 : Heap) (r : Bool) (v : Value) (h : Heap) : Prop := ∃ m , Hold W h0 m0 h m [] ∧ v = .bool r
def tree_sameArm.post (W : Nat → Prop) (h0 m0 : Heap) (r : Bool) (v : Value) (h : Heap) : Prop := ∃ m , Hold W h0 m0 h m [] ∧ v = .bool r
def tree_SameExpr.post (W : Nat → Prop) (h0 m0 : Heap) (r : Bool) (v : Value) (h : Heap) : Prop := ∃ m , Hold W h0 m0 h m [] ∧ v = .bool r
inductive tree_SameExpr_k.Pt where
  | f_11 (y_0 : T_api_Expr) (y_1 : T_api_Expr)
  | f_51 (y_0 : T_api_Arm) (y_1 : T_api_Arm)
  | f_1000002 (a_0 : List T_api_Expr) (a_1 : List T_api_Expr)
  | l0_1000002 (a_1 : List T_api_Expr) (a_15 : List T_api_Expr) (x_16 : Int) (x_17 : Int)
  | f_1000003 (a_0 : List T_api_Arm) (a_1 : List T_api_Arm)
  | l0_1000003 (a_1 : List T_api_Arm) (a_15 : List T_api_Arm) (x_16 : Int) (x_17 : Int)
noncomputable def tree_SameExpr_k.body (go : (p : tree_SameExpr_k.Pt) → Option (Bool)) : (p : tree_SameExpr_k.Pt) → Option (Bool)
  | .f_11 y_0 y_1 => if y_0.Kind = y_1.Kind then (if y_0.Num = y_1.Num then (if y_0.Text = y_1.Text then (Option.bind (slices_Equal_20 y_0.Names y_1.Names) fun y19 => if y19 = true then (Option.bind (slices_EqualFunc_48_s1 y_0.Types y_1.Types) fun y36 => if y36 = true then (Option.bind ((go (.f_1000002 y_0.Args y_1.Args))) fun y53 => if y53 = true then (Option.bind ((go (.f_1000003 y_0.Arms y_1.Arms))) fun y70 => some (y70)) else (some (false))) else (some (false))) else (some (false))) else (some (false))) else (some (false))) else (some (false))
  | .f_51 y_0 y_1 => Option.bind (tree_SamePat y_0.Pat y_1.Pat) fun y9 => if y9 = true then (Option.bind ((go (.f_11 y_0.Body y_1.Body))) fun y16 => some (y16)) else (some (false))
  | .f_1000002 a_0 a_1 => if (((List.length a_0) : Nat) : Int) = (((List.length a_1) : Nat) : Int) then ((go (.l0_1000002 a_1 a_0 (((List.length a_0) : Nat) : Int) (0 : Int)))) else (some (false))
  | .l0_1000002 a_1 a_15 x_16 x_17 => if x_17 < x_16 then (Option.bind (gi a_15 x_17) fun y1 => Option.bind (gi a_1 x_17) fun y14 => Option.bind ((go (.f_11 y1 y14))) fun y27 => if y27 = true then ((go (.l0_1000002 a_1 a_15 x_16 (IntKind.wrap .i64 (x_17 + (1 : Int)))))) else (some (false))) else (some (true))
  | .f_1000003 a_0 a_1 => if (((List.length a_0) : Nat) : Int) = (((List.length a_1) : Nat) : Int) then ((go (.l0_1000003 a_1 a_0 (((List.length a_0) : Nat) : Int) (0 : Int)))) else (some (false))
  | .l0_1000003 a_1 a_15 x_16 x_17 => if x_17 < x_16 then (Option.bind (gi a_15 x_17) fun y1 => Option.bind (gi a_1 x_17) fun y14 => Option.bind ((go (.f_51 y1 y14))) fun y27 => if y27 = true then ((go (.l0_1000003 a_1 a_15 x_16 (IntKind.wrap .i64 (x_17 + (1 : Int)))))) else (some (false))) else (some (true))
theorem tree_SameExpr_k.mono : MonoF (β := fun _ => (Bool)) tree_SameExpr_k.body := fun f g hfg p => match p with
  | .f_11 y_0 y_1 => LeO.ite (LeO.ite (LeO.ite (LeO.bind (LeO.refl _) fun y19 => LeO.ite (LeO.bind (LeO.refl _) fun y36 => LeO.ite (LeO.bind ((hfg _)) fun y53 => LeO.ite (LeO.bind ((hfg _)) fun y70 => LeO.refl _) (LeO.refl _)) (LeO.refl _)) (LeO.refl _)) (LeO.refl _)) (LeO.refl _)) (LeO.refl _)
  | .f_51 y_0 y_1 => LeO.bind (LeO.refl _) fun y9 => LeO.ite (LeO.bind ((hfg _)) fun y16 => LeO.refl _) (LeO.refl _)
  | .f_1000002 a_0 a_1 => LeO.ite ((hfg _)) (LeO.refl _)
  | .l0_1000002 a_1 a_15 x_16 x_17 => LeO.ite (LeO.bind (LeO.refl _) fun y1 => LeO.bind (LeO.refl _) fun y14 => LeO.bind ((hfg _)) fun y27 => LeO.ite ((hfg _)) (LeO.refl _)) (LeO.refl _)
  | .f_1000003 a_0 a_1 => LeO.ite ((hfg _)) (LeO.refl _)
  | .l0_1000003 a_1 a_15 x_16 x_17 => LeO.ite (LeO.bind (LeO.refl _) fun y1 => LeO.bind (LeO.refl _) fun y14 => LeO.bind ((hfg _)) fun y27 => LeO.ite ((hfg _)) (LeO.refl _)) (LeO.refl _)
noncomputable def tree_SameExpr_k.go (p : tree_SameExpr_k.Pt) : Option (Bool) := fixF (β := fun _ => (Bool)) tree_SameExpr_k.body p
noncomputable def tree_SameExpr (y_0 : T_api_Expr) (y_1 : T_api_Expr) : Option (Bool) := tree_SameExpr_k.go (.f_11 y_0 y_1)
noncomputable def tree_sameArm (y_0 : T_api_Arm) (y_1 : T_api_Arm) : Option (Bool) := tree_SameExpr_k.go (.f_51 y_0 y_1)
noncomputable def slices_EqualFunc_26_s3 (a_0 : List T_api_Expr) (a_1 : List T_api_Expr) : Option (Bool) := tree_SameExpr_k.go (.f_1000002 a_0 a_1)
noncomputable def slices_EqualFunc_26_s3.l0 (a_1 : List T_api_Expr) (a_15 : List T_api_Expr) (x_16 : Int) (x_17 : Int) : Option (Bool) := tree_SameExpr_k.go (.l0_1000002 a_1 a_15 x_16 x_17)
noncomputable def slices_EqualFunc_50_s4 (a_0 : List T_api_Arm) (a_1 : List T_api_Arm) : Option (Bool) := tree_SameExpr_k.go (.f_1000003 a_0 a_1)
noncomputable def slices_EqualFunc_50_s4.l0 (a_1 : List T_api_Arm) (a_15 : List T_api_Arm) (x_16 : Int) (x_17 : Int) : Option (Bool) := tree_SameExpr_k.go (.l0_1000003 a_1 a_15 x_16 x_17)
theorem tree_SameExpr_eq (y_0 : T_api_Expr) (y_1 : T_api_Expr) : tree_SameExpr y_0 y_1 = if y_0.Kind = y_1.Kind then (if y_0.Num = y_1.Num then (if y_0.Text = y_1.Text then (Option.bind (slices_Equal_20 y_0.Names y_1.Names) fun y19 => if y19 = true then (Option.bind (slices_EqualFunc_48_s1 y_0.Types y_1.Types) fun y36 => if y36 = true then (Option.bind ((slices_EqualFunc_26_s3 y_0.Args y_1.Args)) fun y53 => if y53 = true then (Option.bind ((slices_EqualFunc_50_s4 y_0.Arms y_1.Arms)) fun y70 => some (y70)) else (some (false))) else (some (false))) else (some (false))) else (some (false))) else (some (false))) else (some (false)) := fixF_eq tree_SameExpr_k.mono _
theorem tree_sameArm_eq (y_0 : T_api_Arm) (y_1 : T_api_Arm) : tree_sameArm y_0 y_1 = Option.bind (tree_SamePat y_0.Pat y_1.Pat) fun y9 => if y9 = true then (Option.bind ((tree_SameExpr y_0.Body y_1.Body)) fun y16 => some (y16)) else (some (false)) := fixF_eq tree_SameExpr_k.mono _
theorem slices_EqualFunc_26_s3_eq (a_0 : List T_api_Expr) (a_1 : List T_api_Expr) : slices_EqualFunc_26_s3 a_0 a_1 = if (((List.length a_0) : Nat) : Int) = (((List.length a_1) : Nat) : Int) then ((slices_EqualFunc_26_s3.l0 a_1 a_0 (((List.length a_0) : Nat) : Int) (0 : Int))) else (some (false)) := fixF_eq tree_SameExpr_k.mono _
theorem slices_EqualFunc_26_s3.l0_eq (a_1 : List T_api_Expr) (a_15 : List T_api_Expr) (x_16 : Int) (x_17 : Int) : slices_EqualFunc_26_s3.l0 a_1 a_15 x_16 x_17 = if x_17 < x_16 then (Option.bind (gi a_15 x_17) fun y1 => Option.bind (gi a_1 x_17) fun y14 => Option.bind ((tree_SameExpr y1 y14)) fun y27 => if y27 = true then ((slices_EqualFunc_26_s3.l0 a_1 a_15 x_16 (IntKind.wrap .i64 (x_17 + (1 : Int))))) else (some (false))) else (some (true)) := fixF_eq tree_SameExpr_k.mono _
theorem slices_EqualFunc_50_s4_eq (a_0 : List T_api_Arm) (a_1 : List T_api_Arm) : slices_EqualFunc_50_s4 a_0 a_1 = if (((List.length a_0) : Nat) : Int) = (((List.length a_1) : Nat) : Int) then ((slices_EqualFunc_50_s4.l0 a_1 a_0 (((List.length a_0) : Nat) : Int) (0 : Int))) else (some (false)) := fixF_eq tree_SameExpr_k.mono _
theorem slices_EqualFunc_50_s4.l0_eq (a_1 : List T_api_Arm) (a_15 : List T_api_Arm) (x_16 : Int) (x_17 : Int) : slices_EqualFunc_50_s4.l0 a_1 a_15 x_16 x_17 = if x_17 < x_16 then (Option.bind (gi a_15 x_17) fun y1 => Option.bind (gi a_1 x_17) fun y14 => Option.bind ((tree_sameArm y1 y14)) fun y27 => if y27 = true then ((slices_EqualFunc_50_s4.l0 a_1 a_15 x_16 (IntKind.wrap .i64 (x_17 + (1 : Int))))) else (some (false))) else (some (true)) := fixF_eq tree_SameExpr_k.mono _
def tree_SameExpr_k.I : (p : tree_SameExpr_k.Pt) → (Bool) → Prop
  | .f_11 y_0 y_1, r => ∀ (W : Nat → Prop) (h m : Heap) (cs_0 : List Value) (cs_1 : List Value) (O : Hold W h m h m []) (e_0 : T_api_Expr.E m y_0 cs_0) (e_1 : T_api_Expr.E m y_1 cs_1), Run Tryd.prog 11 #[Value.agg cs_0.toArray, Value.agg cs_1.toArray] h (tree_SameExpr.post W h m r)
  | .f_51 y_0 y_1, r => ∀ (W : Nat → Prop) (h m : Heap) (cs_0 : List Value) (cs_1 : List Value) (O : Hold W h m h m []) (e_0 : T_api_Arm.E m y_0 cs_0) (e_1 : T_api_Arm.E m y_1 cs_1), Run Tryd.prog 51 #[Value.agg cs_0.toArray, Value.agg cs_1.toArray] h (tree_sameArm.post W h m r)
  | .f_1000002 a_0 a_1, r => ∀ (W : Nat → Prop) (h m : Heap) (A_0 : Option Addr) (n_0 c_0 : Nat) (A_1 : Option Addr) (n_1 c_1 : Nat) (O : Hold W h m h m []) (ne_0 : n_0 = List.length a_0) (k_0 : List.length a_0 ≤ c_0) (r_0 : Rd 8 T_api_Expr.E m A_0 a_0) (ne_1 : n_1 = List.length a_1) (k_1 : List.length a_1 ≤ c_1) (r_1 : Rd 8 T_api_Expr.E m A_1 a_1), Run Tryd.prog 26 #[Value.slice A_0 n_0 c_0, Value.slice A_1 n_1 c_1, (Value.func (.func 11) #[] #[])] h (slices_EqualFunc_26_s3.post W h m r)
  | .l0_1000002 a_1 a_15 x_16 x_17, r => ∀ (W : Nat → Prop) (h0 m0 h m : Heap) (A_1 : Option Addr) (n_1 c_1 : Nat) (A_15 : Option Addr) (n_15 c_15 : Nat) (O : Hold W h0 m0 h m []) (ne_1 : n_1 = List.length a_1) (k_1 : List.length a_1 ≤ c_1) (r_1 : Rd 8 T_api_Expr.E m A_1 a_1) (ne_15 : n_15 = List.length a_15) (k_15 : List.length a_15 ≤ c_15) (r_15 : Rd 8 T_api_Expr.E m A_15 a_15), f26.l0 (slices_EqualFunc_26_s3.post W h0 m0 r) A_1 n_1 c_1 (Value.func (.func 11) #[] #[]) A_15 n_15 c_15 x_16 x_17 h
  | .f_1000003 a_0 a_1, r => ∀ (W : Nat → Prop) (h m : Heap) (A_0 : Option Addr) (n_0 c_0 : Nat) (A_1 : Option Addr) (n_1 c_1 : Nat) (O : Hold W h m h m []) (ne_0 : n_0 = List.length a_0) (k_0 : List.length a_0 ≤ c_0) (r_0 : Rd 12 T_api_Arm.E m A_0 a_0) (ne_1 : n_1 = List.length a_1) (k_1 : List.length a_1 ≤ c_1) (r_1 : Rd 12 T_api_Arm.E m A_1 a_1), Run Tryd.prog 50 #[Value.slice A_0 n_0 c_0, Value.slice A_1 n_1 c_1, (Value.func (.func 51) #[] #[])] h (slices_EqualFunc_50_s4.post W h m r)
  | .l0_1000003 a_1 a_15 x_16 x_17, r => ∀ (W : Nat → Prop) (h0 m0 h m : Heap) (A_1 : Option Addr) (n_1 c_1 : Nat) (A_15 : Option Addr) (n_15 c_15 : Nat) (O : Hold W h0 m0 h m []) (ne_1 : n_1 = List.length a_1) (k_1 : List.length a_1 ≤ c_1) (r_1 : Rd 12 T_api_Arm.E m A_1 a_1) (ne_15 : n_15 = List.length a_15) (k_15 : List.length a_15 ≤ c_15) (r_15 : Rd 12 T_api_Arm.E m A_15 a_15), f50.l0 (slices_EqualFunc_50_s4.post W h0 m0 r) A_1 n_1 c_1 (Value.func (.func 51) #[] #[]) A_15 n_15 c_15 x_16 x_17 h
set_option maxHeartbeats 4000000 in
set_option maxRecDepth 100000 in
theorem tree_SameExpr_k.step_f_11 (go : (p : tree_SameExpr_k.Pt) → Option (Bool)) (ih : ∀ p r, go p = some r → tree_SameExpr_k.I p r) (y_0 : T_api_Expr) (y_1 : T_api_Expr) (r : Bool) (e : tree_SameExpr_k.body go (.f_11 y_0 y_1) = some r) : tree_SameExpr_k.I (.f_11 y_0 y_1) r := by
  unfold tree_SameExpr_k.body at e
  intro W h m cs_0 cs_1 O e_0 e_1
  refine f11.run ?_
  unfold f11.runT
  refine O.new fun h1 x2 O3 => ?_
  refine O3.new fun h5 x6 O7 => ?_
  refine ⟨_, ld0 (Sub.refl _) (O7.all 0 rfl) (T_api_Expr.g0 e_0), _, rfl, ?_⟩
  refine ⟨_, ld0 (Sub.refl _) (O7.all 1 rfl) (T_api_Expr.g0 e_1), _, rfl, ?_⟩
  refine split_eq_e e (fun c85 e => ?_) (fun c85 e => ?_)
  · refine ⟨_, ldk (k := 1) (Sub.refl _) (O7.all 0 rfl) (T_api_Expr.g1 e_0), _, rfl, ?_⟩
    refine ⟨_, ldk (k := 1) (Sub.refl _) (O7.all 1 rfl) (T_api_Expr.g1 e_1), _, rfl, ?_⟩
    refine split_eq_e e (fun c83 e => ?_) (fun c83 e => ?_)
    · refine ⟨_, ldk (k := 2) (Sub.refl _) (O7.all 0 rfl) (T_api_Expr.g2 e_0), _, rfl, ?_⟩
      refine ⟨_, ldk (k := 2) (Sub.refl _) (O7.all 1 rfl) (T_api_Expr.g2 e_1), _, rfl, ?_⟩
      try rw [ba_list y_0.Text y_1.Text]
      refine split_dec_e e (fun c81 e => ?_) (fun c81 e => ?_)
      · obtain ⟨A9, c10, q11, k12, r13⟩ := T_api_Expr.g3 e_0
        refine ⟨_, ldk (k := 3) (Sub.refl _) (O7.all 0 rfl) q11, _, _, _, rfl, ?_⟩
        obtain ⟨A14, c15, q16, k17, r18⟩ := T_api_Expr.g3 e_1
        refine ⟨_, ldk (k := 3) (Sub.refl _) (O7.all 1 rfl) q16, _, _, _, rfl, ?_⟩
        obtain ⟨y19, g20, e⟩ := bind_e e
        refine (slices_Equal_20.walk (Hold.start (W := No) O7.s) rfl k12 r13 rfl k17 r18 g20).mono ?_
        rintro _ h21 ⟨m22, Q23, rfl⟩
        have O25 := Hold.nm (O7.retC Q23 vfs_nil)
        refine ⟨_, rfl, ?_⟩
        refine split_any_e e (fun c79 e => ?_) (fun c79 e => ?_)
        · obtain ⟨A26, c27, q28, k29, r30⟩ := T_api_Expr.g4 e_0
          refine ⟨_, ldk (k := 4) (Sub.refl _) (O25.all 0 rfl) q28, _, _, _, rfl, ?_⟩
          obtain ⟨A31, c32, q33, k34, r35⟩ := T_api_Expr.g4 e_1
          refine ⟨_, ldk (k := 4) (Sub.refl _) (O25.all 1 rfl) q33, _, _, _, rfl, ?_⟩
          obtain ⟨y36, g37, e⟩ := bind_e e
          refine (slices_EqualFunc_48_s1.walk (Hold.start (W := No) O25.s) rfl k29 r30 rfl k34 r35 g37).mono ?_
          rintro _ h38 ⟨m39, Q40, rfl⟩
          have O42 := Hold.nm (O25.retC Q40 vfs_nil)
          refine ⟨_, rfl, ?_⟩
          refine split_any_e e (fun c78 e => ?_) (fun c78 e => ?_)
          · obtain ⟨A43, c44, q45, k46, r47⟩ := T_api_Expr.g5 e_0
            refine ⟨_, ldk (k := 5) (Sub.refl _) (O42.all 0 rfl) q45, _, _, _, rfl, ?_⟩
            obtain ⟨A48, c49, q50, k51, r52⟩ := T_api_Expr.g5 e_1
            refine ⟨_, ldk (k := 5) (Sub.refl _) (O42.all 1 rfl) q50, _, _, _, rfl, ?_⟩
            obtain ⟨y53, g54, e⟩ := bind_e e
            refine ((ih _ _ g54) _ _ _ _ _ _ _ _ _ (Hold.start (W := No) O42.s) rfl k46 r47 rfl k51 r52).mono ?_
            rintro _ h55 ⟨m56, Q57, rfl⟩
            have O59 := Hold.nm (O42.retC Q57 vfs_nil)
            refine ⟨_, rfl, ?_⟩
            refine split_any_e e (fun c77 e => ?_) (fun c77 e => ?_)
            · obtain ⟨A60, c61, q62, k63, r64⟩ := T_api_Expr.g6 e_0
              refine ⟨_, ldk (k := 6) (Sub.refl _) (O59.all 0 rfl) q62, _, _, _, rfl, ?_⟩
              obtain ⟨A65, c66, q67, k68, r69⟩ := T_api_Expr.g6 e_1
              refine ⟨_, ldk (k := 6) (Sub.refl _) (O59.all 1 rfl) q67, _, _, _, rfl, ?_⟩
              obtain ⟨y70, g71, e⟩ := bind_e e
              refine ((ih _ _ g71) _ _ _ _ _ _ _ _ _ (Hold.start (W := No) O59.s) rfl k63 r64 rfl k68 r69).mono ?_
              rintro _ h72 ⟨m73, Q74, rfl⟩
              have O76 := Hold.nm (O59.retC Q74 vfs_nil)
              refine ⟨_, rfl, ?_⟩
              cases e
              exact ⟨_, O76.pick [], rfl⟩
            · cases e
              exact ⟨_, O59.pick [], rfl⟩
          · cases e
            exact ⟨_, O42.pick [], rfl⟩
        · cases e
          exact ⟨_, O25.pick [], rfl⟩
      · have O80 := O7.nm
        cases e
        exact ⟨_, O80.pick [], rfl⟩
    · have O82 := O7.nm
      cases e
      exact ⟨_, O82.pick [], rfl⟩
  · have O84 := O7.nm
    cases e
    exact ⟨_, O84.pick [], rfl⟩
set_option maxRecDepth 100000 in
theorem tree_SameExpr_k.step_f_51 (go : (p : tree_SameExpr_k.Pt) → Option (Bool)) (ih : ∀ p r, go p = some r → tree_SameExpr_k.I p r) (y_0 : T_api_Arm) (y_1 : T_api_Arm) (r : Bool) (e : tree_SameExpr_k.body go (.f_51 y_0 y_1) = some r) : tree_SameExpr_k.I (.f_51 y_0 y_1) r := by
  unfold tree_SameExpr_k.body at e
  intro W h m cs_0 cs_1 O e_0 e_1
  refine f51.run ?_
  unfold f51.runT
  refine O.new fun h1 x2 O3 => ?_
  refine O3.new fun h5 x6 O7 => ?_
  refine ⟨_, ldA0n (Sub.refl _) (O7.all 0 rfl) 4 (le_len (T_api_Arm.T.len _ _ _ e_0) (by decide)), ?_⟩
  refine ⟨_, ldA0n (Sub.refl _) (O7.all 1 rfl) 4 (le_len (T_api_Arm.T.len _ _ _ e_1) (by decide)), ?_⟩
  obtain ⟨y9, g10, e⟩ := bind_e e
  refine (tree_SamePat.walk (Hold.start (W := No) O7.s) (T_api_Arm.u0_48 e_0) (T_api_Arm.u0_48 e_1) g10).mono ?_
  rintro _ h11 ⟨m12, Q13, rfl⟩
  have O15 := Hold.nm (O7.retC Q13 vfs_nil)
  refine ⟨_, rfl, ?_⟩
  refine split_any_e e (fun c23 e => ?_) (fun c23 e => ?_)
  · refine ⟨_, ldAkn (Sub.refl _) (O15.all 0 rfl) 4 8 (le_len (T_api_Arm.T.len _ _ _ e_0) (by decide)), ?_⟩
    refine ⟨_, ldAkn (Sub.refl _) (O15.all 1 rfl) 4 8 (le_len (T_api_Arm.T.len _ _ _ e_1) (by decide)), ?_⟩
    obtain ⟨y16, g17, e⟩ := bind_e e
    refine ((ih _ _ g17) _ _ _ _ _ (Hold.start (W := No) O15.s) (T_api_Arm.u4_40 e_0) (T_api_Arm.u4_40 e_1)).mono ?_
    rintro _ h18 ⟨m19, Q20, rfl⟩
    have O22 := Hold.nm (O15.retC Q20 vfs_nil)
    refine ⟨_, rfl, ?_⟩
    cases e
    exact ⟨_, O22.pick [], rfl⟩
  · cases e
    exact ⟨_, O15.pick [], rfl⟩
set_option maxRecDepth 100000 in
theorem tree_SameExpr_k.step_f_1000002 (go : (p : tree_SameExpr_k.Pt) → Option (Bool)) (ih : ∀ p r, go p = some r → tree_SameExpr_k.I p r) (a_0 : List T_api_Expr) (a_1 : List T_api_Expr) (r : Bool) (e : tree_SameExpr_k.body go (.f_1000002 a_0 a_1) = some r) : tree_SameExpr_k.I (.f_1000002 a_0 a_1) r := by
  unfold tree_SameExpr_k.body at e
  intro W h m A_0 n_0 c_0 A_1 n_1 c_1 O ne_0 k_0 r_0 ne_1 k_1 r_1
  subst ne_0
  subst ne_1
  refine f26.run ?_
  unfold f26.runT
  refine split_ne_e e (fun c1 e => ?_) (fun c1 e => ?_)
  · cases e
    exact ⟨_, O.pick [], rfl⟩
  · exact (ih _ _ e) _ _ _ _ _ _ _ _ _ _ _ (O.pick []).nm rfl k_1 r_1 rfl k_0 r_0
set_option maxRecDepth 100000 in
theorem tree_SameExpr_k.step_l0_1000002 (go : (p : tree_SameExpr_k.Pt) → Option (Bool)) (ih : ∀ p r, go p = some r → tree_SameExpr_k.I p r) (a_1 : List T_api_Expr) (a_15 : List T_api_Expr) (x_16 : Int) (x_17 : Int) (r : Bool) (e : tree_SameExpr_k.body go (.l0_1000002 a_1 a_15 x_16 x_17) = some r) : tree_SameExpr_k.I (.l0_1000002 a_1 a_15 x_16 x_17) r := by
  unfold tree_SameExpr_k.body at e
  intro W h0 m0 h m A_1 n_1 c_1 A_15 n_15 c_15 O ne_1 k_1 r_1 ne_15 k_15 r_15
  subst ne_1
  subst ne_15
  refine f26.l0_in ?_
  unfold f26.l0T
  refine split_dec_e e (fun c35 e => ?_) (fun c35 e => ?_)
  · obtain ⟨y1, g2, e⟩ := bind_e e
    refine r_15.addr rfl g2 fun a3 cs4 ha5 hc6 he7 => ?_
    refine ⟨_, ldAn O.s hc6 rfl, ?_⟩
    refine O.new fun h8 x9 O10 => ?_
    refine ⟨_, rfl, (T_api_Expr.T.len _ _ _ he7), ?_⟩
    refine O10.stA 0 rfl (T_api_Expr.T.len _ _ _ he7) (T_api_Expr.T.flat _ _ _ he7) fun h12 O13 => ?_
    obtain ⟨y14, g15, e⟩ := bind_e e
    refine r_1.addr rfl g15 fun a16 cs17 ha18 hc19 he20 => ?_
    refine ⟨_, ldAn O13.s hc19 rfl, ?_⟩
    refine O13.new fun h21 x22 O23 => ?_
    refine ⟨_, rfl, (T_api_Expr.T.len _ _ _ he20), ?_⟩
    refine O23.stA 1 rfl (T_api_Expr.T.len _ _ _ he20) (T_api_Expr.T.flat _ _ _ he20) fun h25 O26 => ?_
    refine ⟨_, ldAn (Sub.refl _) (O26.all 0 rfl) (T_api_Expr.T.len _ _ _ he7), ?_⟩
    refine ⟨_, ldAn (Sub.refl _) (O26.all 1 rfl) (T_api_Expr.T.len _ _ _ he20), ?_⟩
    obtain ⟨y27, g28, e⟩ := bind_e e
    refine CallF.of [(Value.agg (List.toArray cs4)), (Value.agg (List.toArray cs17))] f11.ok rfl ?_
    refine ((ih _ _ g28) _ _ _ _ _ (Hold.start (W := No) O26.s) he7 he20).mono ?_
    rintro _ h29 ⟨m30, Q31, rfl⟩
    have O33 := Hold.nm (O26.retC Q31 vfs_nil)
    refine ⟨_, rfl, ?_⟩
    refine split_not ?_
    refine split_any_e e (fun c34 e => ?_) (fun c34 e => ?_)
    · exact (ih _ _ e) _ _ _ _ _ _ _ _ _ _ _ (O33.pick []).nm rfl k_1 r_1 rfl k_15 r_15
    · cases e
      exact ⟨_, O33.pick [], rfl⟩
  · cases e
    exact ⟨_, O.pick [], rfl⟩
set_option maxRecDepth 100000 in
theorem tree_SameExpr_k.step_f_1000003 (go : (p : tree_SameExpr_k.Pt) → Option (Bool)) (ih : ∀ p r, go p = some r → tree_SameExpr_k.I p r) (a_0 : List T_api_Arm) (a_1 : List T_api_Arm) (r : Bool) (e : tree_SameExpr_k.body go (.f_1000003 a_0 a_1) = some r) : tree_SameExpr_k.I (.f_1000003 a_0 a_1) r := by
  unfold tree_SameExpr_k.body at e
  intro W h m A_0 n_0 c_0 A_1 n_1 c_1 O ne_0 k_0 r_0 ne_1 k_1 r_1
  subst ne_0
  subst ne_1
  refine f50.run ?_
  unfold f50.runT
  refine split_ne_e e (fun c1 e => ?_) (fun c1 e => ?_)
  · cases e
    exact ⟨_, O.pick [], rfl⟩
  · exact (ih _ _ e) _ _ _ _ _ _ _ _ _ _ _ (O.pick []).nm rfl k_1 r_1 rfl k_0 r_0
set_option maxRecDepth 100000 in
theorem tree_SameExpr_k.step_l0_1000003 (go : (p : tree_SameExpr_k.Pt) → Option (Bool)) (ih : ∀ p r, go p = some r → tree_SameExpr_k.I p r) (a_1 : List T_api_Arm) (a_15 : List T_api_Arm) (x_16 : Int) (x_17 : Int) (r : Bool) (e : tree_SameExpr_k.body go (.l0_1000003 a_1 a_15 x_16 x_17) = some r) : tree_SameExpr_k.I (.l0_1000003 a_1 a_15 x_16 x_17) r := by
  unfold tree_SameExpr_k.body at e
  intro W h0 m0 h m A_1 n_1 c_1 A_15 n_15 c_15 O ne_1 k_1 r_1 ne_15 k_15 r_15
  subst ne_1
  subst ne_15
  refine f50.l0_in ?_
  unfold f50.l0T
  refine split_dec_e e (fun c35 e => ?_) (fun c35 e => ?_)
  · obtain ⟨y1, g2, e⟩ := bind_e e
    refine r_15.addr rfl g2 fun a3 cs4 ha5 hc6 he7 => ?_
    refine ⟨_, ldAn O.s hc6 rfl, ?_⟩
    refine O.new fun h8 x9 O10 => ?_
    refine ⟨_, rfl, (T_api_Arm.T.len _ _ _ he7), ?_⟩
    refine O10.stA 0 rfl (T_api_Arm.T.len _ _ _ he7) (T_api_Arm.T.flat _ _ _ he7) fun h12 O13 => ?_
    obtain ⟨y14, g15, e⟩ := bind_e e
    refine r_1.addr rfl g15 fun a16 cs17 ha18 hc19 he20 => ?_
    refine ⟨_, ldAn O13.s hc19 rfl, ?_⟩
    refine O13.new fun h21 x22 O23 => ?_
    refine ⟨_, rfl, (T_api_Arm.T.len _ _ _ he20), ?_⟩
    refine O23.stA 1 rfl (T_api_Arm.T.len _ _ _ he20) (T_api_Arm.T.flat _ _ _ he20) fun h25 O26 => ?_
    refine ⟨_, ldAn (Sub.refl _) (O26.all 0 rfl) (T_api_Arm.T.len _ _ _ he7), ?_⟩
    refine ⟨_, ldAn (Sub.refl _) (O26.all 1 rfl) (T_api_Arm.T.len _ _ _ he20), ?_⟩
    obtain ⟨y27, g28, e⟩ := bind_e e
    refine CallF.of [(Value.agg (List.toArray cs4)), (Value.agg (List.toArray cs17))] f51.ok rfl ?_
    refine ((ih _ _ g28) _ _ _ _ _ (Hold.start (W := No) O26.s) he7 he20).mono ?_
    rintro _ h29 ⟨m30, Q31, rfl⟩
    have O33 := Hold.nm (O26.retC Q31 vfs_nil)
    refine ⟨_, rfl, ?_⟩
    refine split_not ?_
    refine split_any_e e (fun c34 e => ?_) (fun c34 e => ?_)
    · exact (ih _ _ e) _ _ _ _ _ _ _ _ _ _ _ (O33.pick []).nm rfl k_1 r_1 rfl k_15 r_15
    · cases e
      exact ⟨_, O33.pick [], rfl⟩
  · cases e
    exact ⟨_, O.pick [], rfl⟩
theorem tree_SameExpr_k.all {p : tree_SameExpr_k.Pt} {r : (Bool)} (e : tree_SameExpr_k.go p = some r) : tree_SameExpr_k.I p r := fixF_ind (β := fun _ => (Bool)) tree_SameExpr_k.mono (I := tree_SameExpr_k.I) (fun go ih p r e => match p with
  | .f_11 y_0 y_1 => tree_SameExpr_k.step_f_11 go ih y_0 y_1 r e
  | .f_51 y_0 y_1 => tree_SameExpr_k.step_f_51 go ih y_0 y_1 r e
  | .f_1000002 a_0 a_1 => tree_SameExpr_k.step_f_1000002 go ih a_0 a_1 r e
  | .l0_1000002 a_1 a_15 x_16 x_17 => tree_SameExpr_k.step_l0_1000002 go ih a_1 a_15 x_16 x_17 r e
  | .f_1000003 a_0 a_1 => tree_SameExpr_k.step_f_1000003 go ih a_0 a_1 r e
  | .l0_1000003 a_1 a_15 x_16 x_17 => tree_SameExpr_k.step_l0_1000003 go ih a_1 a_15 x_16 x_17 r e
  ) e
theorem slices_EqualFunc_26_s3.walk {W : Nat → Prop} {h m : Heap} {A_0 : Option Addr} {n_0 c_0 : Nat} {A_1 : Option Addr} {n_1 c_1 : Nat} {a_0 : List T_api_Expr} {a_1 : List T_api_Expr} (O : Hold W h m h m []) (ne_0 : n_0 = List.length a_0) (k_0 : List.length a_0 ≤ c_0) (r_0 : Rd 8 T_api_Expr.E m A_0 a_0) (ne_1 : n_1 = List.length a_1) (k_1 : List.length a_1 ≤ c_1) (r_1 : Rd 8 T_api_Expr.E m A_1 a_1) {r : Bool} (e : slices_EqualFunc_26_s3 a_0 a_1 = some r) : Run Tryd.prog 26 #[Value.slice A_0 n_0 c_0, Value.slice A_1 n_1 c_1, (Value.func (.func 11) #[] #[])] h (slices_EqualFunc_26_s3.post W h m r) := tree_SameExpr_k.all (p := .f_1000002 a_0 a_1) e W h m A_0 n_0 c_0 A_1 n_1 c_1 O ne_0 k_0 r_0 ne_1 k_1 r_1
def roadref2_All.post (W : Nat → Prop) (h0 m0 : Heap) (r : (List T_api_Expr)) (v : Value) (h : Heap) : Prop := ∃ m A0 n0 c0, Hold W h0 m0 h m [rR (aE T_api_Expr.T) A0 c0 r] ∧ v = .slice A0 n0 c0 ∧ n0 = List.length r
inductive roadref2_All.l0_k.Pt where
  | l0 (a_3 : List T_api_Expr) (a_4 : List T_api_Expr)
  | l1 (a_3 : List T_api_Expr) (a_4 : List T_api_Expr) (y_5 : T_api_Expr) (x_6 : Int)
  | l2 (a_3 : List T_api_Expr) (a_4 : List T_api_Expr) (y_5 : T_api_Expr) (x_7 : Int)
noncomputable def roadref2_All.l0_k.body (go : (p : roadref2_All.l0_k.Pt) → Option ((List T_api_Expr))) : (p : roadref2_All.l0_k.Pt) → Option ((List T_api_Expr))
  | .l0 a_3 a_4 => if (((List.length a_3) : Nat) : Int) > (0 : Int) then (Option.bind (gi a_3 (IntKind.wrap .i64 ((((List.length a_3) : Nat) : Int) - (1 : Int)))) fun y1 => Option.bind (sls a_3 (0 : Int) (IntKind.wrap .i64 ((((List.length a_3) : Nat) : Int) - (1 : Int)))) fun l14 => Option.bind (ap 136 a_4 ([y1] : List T_api_Expr)) fun l22 => (go (.l1 l14 l22 y1 (IntKind.wrap .i64 ((((List.length y1.Arms) : Nat) : Int) - (1 : Int)))))) else (some (a_4))
  | .l1 a_3 a_4 y_5 x_6 => if x_6 ≥ (0 : Int) then (Option.bind (gi y_5.Arms x_6) fun y6 => Option.bind (ap 136 a_3 ([y6.Body] : List T_api_Expr)) fun l18 => (go (.l1 l18 a_4 y_5 (IntKind.wrap .i64 (x_6 - (1 : Int)))))) else ((go (.l2 a_3 a_4 y_5 (IntKind.wrap .i64 ((((List.length y_5.Args) : Nat) : Int) - (1 : Int))))))
  | .l2 a_3 a_4 y_5 x_7 => if x_7 ≥ (0 : Int) then (Option.bind (gi y_5.Args x_7) fun y6 => Option.bind (ap 136 a_3 ([y6] : List T_api_Expr)) fun l18 => (go (.l2 l18 a_4 y_5 (IntKind.wrap .i64 (x_7 - (1 : Int)))))) else ((go (.l0 a_3 a_4)))
theorem roadref2_All.l0_k.mono : MonoF (β := fun _ => ((List T_api_Expr))) roadref2_All.l0_k.body := fun f g hfg p => match p with
  | .l0 a_3 a_4 => LeO.ite (LeO.bind (LeO.refl _) fun y1 => LeO.bind (LeO.refl _) fun l14 => LeO.bind (LeO.refl _) fun l22 => (hfg _)) (LeO.refl _)
  | .l1 a_3 a_4 y_5 x_6 => LeO.ite (LeO.bind (LeO.refl _) fun y6 => LeO.bind (LeO.refl _) fun l18 => (hfg _)) ((hfg _))
  | .l2 a_3 a_4 y_5 x_7 => LeO.ite (LeO.bind (LeO.refl _) fun y6 => LeO.bind (LeO.refl _) fun l18 => (hfg _)) ((hfg _))
noncomputable def roadref2_All.l0_k.go (p : roadref2_All.l0_k.Pt) : Option ((List T_api_Expr)) := fixF (β := fun _ => ((List T_api_Expr))) roadref2_All.l0_k.body p
noncomputable def roadref2_All.l0 (a_3 : List T_api_Expr) (a_4 : List T_api_Expr) : Option ((List T_api_Expr)) := roadref2_All.l0_k.go (.l0 a_3 a_4)
noncomputable def roadref2_All.l1 (a_3 : List T_api_Expr) (a_4 : List T_api_Expr) (y_5 : T_api_Expr) (x_6 : Int) : Option ((List T_api_Expr)) := roadref2_All.l0_k.go (.l1 a_3 a_4 y_5 x_6)
noncomputable def roadref2_All.l2 (a_3 : List T_api_Expr) (a_4 : List T_api_Expr) (y_5 : T_api_Expr) (x_7 : Int) : Option ((List T_api_Expr)) := roadref2_All.l0_k.go (.l2 a_3 a_4 y_5 x_7)
theorem roadref2_All.l0_eq (a_3 : List T_api_Expr) (a_4 : List T_api_Expr) : roadref2_All.l0 a_3 a_4 = if (((List.length a_3) : Nat) : Int) > (0 : Int) then (Option.bind (gi a_3 (IntKind.wrap .i64 ((((List.length a_3) : Nat) : Int) - (1 : Int)))) fun y1 => Option.bind (sls a_3 (0 : Int) (IntKind.wrap .i64 ((((List.length a_3) : Nat) : Int) - (1 : Int)))) fun l14 => Option.bind (ap 136 a_4 ([y1] : List T_api_Expr)) fun l22 => (roadref2_All.l1 l14 l22 y1 (IntKind.wrap .i64 ((((List.length y1.Arms) : Nat) : Int) - (1 : Int))))) else (some (a_4)) := fixF_eq roadref2_All.l0_k.mono _
theorem roadref2_All.l1_eq (a_3 : List T_api_Expr) (a_4 : List T_api_Expr) (y_5 : T_api_Expr) (x_6 : Int) : roadref2_All.l1 a_3 a_4 y_5 x_6 = if x_6 ≥ (0 : Int) then (Option.bind (gi y_5.Arms x_6) fun y6 => Option.bind (ap 136 a_3 ([y6.Body] : List T_api_Expr)) fun l18 => (roadref2_All.l1 l18 a_4 y_5 (IntKind.wrap .i64 (x_6 - (1 : Int))))) else ((roadref2_All.l2 a_3 a_4 y_5 (IntKind.wrap .i64 ((((List.length y_5.Args) : Nat) : Int) - (1 : Int))))) := fixF_eq roadref2_All.l0_k.mono _
theorem roadref2_All.l2_eq (a_3 : List T_api_Expr) (a_4 : List T_api_Expr) (y_5 : T_api_Expr) (x_7 : Int) : roadref2_All.l2 a_3 a_4 y_5 x_7 = if x_7 ≥ (0 : Int) then (Option.bind (gi y_5.Args x_7) fun y6 => Option.bind (ap 136 a_3 ([y6] : List T_api_Expr)) fun l18 => (roadref2_All.l2 l18 a_4 y_5 (IntKind.wrap .i64 (x_7 - (1 : Int))))) else ((roadref2_All.l0 a_3 a_4)) := fixF_eq roadref2_All.l0_k.mono _
def roadref2_All.l0_k.I : (p : roadref2_All.l0_k.Pt) → ((List T_api_Expr)) → Prop
  | .l0 a_3 a_4, r => ∀ (W : Nat → Prop) (h0 m0 h m : Heap) (A_3 : Option Addr) (n_3 c_3 : Nat) (A_4 : Option Addr) (n_4 c_4 : Nat) (O : Hold W h0 m0 h m [rR (aE T_api_Expr.T) A_3 c_3 a_3, rR (aE T_api_Expr.T) A_4 c_4 a_4]) (ne_3 : n_3 = List.length a_3) (ne_4 : n_4 = List.length a_4), f14.l0 (roadref2_All.post W h0 m0 r) A_3 n_3 c_3 A_4 n_4 c_4 h
  | .l1 a_3 a_4 y_5 x_6, r => ∀ (W : Nat → Prop) (h0 m0 h m : Heap) (A_3 : Option Addr) (n_3 c_3 : Nat) (A_4 : Option Addr) (n_4 c_4 : Nat) (bk_5 : Nat) (cs_5 : List Value) (O : Hold W h0 m0 h m [rR (aE T_api_Expr.T) A_3 c_3 a_3, rR (aE T_api_Expr.T) A_4 c_4 a_4, rV bk_5 40 cs_5]) (ne_3 : n_3 = List.length a_3) (ne_4 : n_4 = List.length a_4) (e_5 : T_api_Expr.E m y_5 cs_5), f14.l1 (roadref2_All.post W h0 m0 r) A_3 n_3 c_3 A_4 n_4 c_4 (⟨bk_5, 0, none⟩ : Addr) x_6 h
  | .l2 a_3 a_4 y_5 x_7, r => ∀ (W : Nat → Prop) (h0 m0 h m : Heap) (A_3 : Option Addr) (n_3 c_3 : Nat) (A_4 : Option Addr) (n_4 c_4 : Nat) (bk_5 : Nat) (cs_5 : List Value) (O : Hold W h0 m0 h m [rR (aE T_api_Expr.T) A_3 c_3 a_3, rR (aE T_api_Expr.T) A_4 c_4 a_4, rV bk_5 40 cs_5]) (ne_3 : n_3 = List.length a_3) (ne_4 : n_4 = List.length a_4) (e_5 : T_api_Expr.E m y_5 cs_5), f14.l2 (roadref2_All.post W h0 m0 r) A_3 n_3 c_3 A_4 n_4 c_4 (⟨bk_5, 0, none⟩ : Addr) x_7 h
set_option maxRecDepth 100000 in
theorem roadref2_All.l0_k.step_l0 (go : (p : roadref2_All.l0_k.Pt) → Option ((List T_api_Expr))) (ih : ∀ p r, go p = some r → roadref2_All.l0_k.I p r) (a_3 : List T_api_Expr) (a_4 : List T_api_Expr) (r : (List T_api_Expr)) (e : roadref2_All.l0_k.body go (.l0 a_3 a_4) = some r) : roadref2_All.l0_k.I (.l0 a_3 a_4) r := by
  unfold roadref2_All.l0_k.body at e
  intro W h0 m0 h m A_3 n_3 c_3 A_4 n_4 c_4 O ne_3 ne_4
  subst ne_3
  subst ne_4
  refine f14.l0_in ?_
  unfold f14.l0T
  refine split_dec_e e (fun c40 e => ?_) (fun c40 e => ?_)
  · obtain ⟨y1, g2, e⟩ := bind_e e
    refine (O.os 0 rfl).addr rfl g2 fun a3 cs4 ha5 hc6 he7 => ?_
    refine ⟨_, ldAn (Sub.refl _) hc6 rfl, ?_⟩
    refine O.new fun h8 x9 O10 => ?_
    refine ⟨_, rfl, (T_api_Expr.T.len _ _ _ he7), ?_⟩
    refine O10.stA 2 rfl (T_api_Expr.T.len _ _ _ he7) (T_api_Expr.T.flat _ _ _ he7) fun h12 O13 => ?_
    obtain ⟨l14, g15, e⟩ := bind_e e
    have q16 := sls_e g15
    refine ⟨q16.1, q16.2.1, cap_in q16.2.2.1 (O13.cap 0 rfl), ?_⟩
    try rw [q16.2.2.2.1]
    refine ⟨_, ldAn (Sub.refl _) (O13.all 2 rfl) (T_api_Expr.T.len _ _ _ he7), ?_⟩
    refine ⟨cs4, rfl, (T_api_Expr.T.len _ _ _ he7), ?_⟩
    refine O13.new fun h17 x18 O19 => ?_
    have O21 := O19.recell 3 rfl (cs' := cs4 ++ []) rfl
    obtain ⟨l22, g23, e⟩ := bind_e e
    have O30 := O21.rowE (l := ([y1] : List T_api_Expr)) 3 rfl T_api_Expr.T (show CsE _ _ _ _ _ from (CsE.cons he7 (T_api_Expr.T.len _ _ _ he7) CsE.nil)) rfl
    refine O30.app 1 rfl rfl rfl ((O30.os 3 rfl).srcE rfl) (by decide) g23 fun A24 c25 h26 O27 => ?_
    refine ⟨_, _, _, rfl, ?_⟩
    have O31 := O27.nm
    obtain ⟨A32, c33, q34, k35, r36⟩ := T_api_Expr.g6 he7
    refine ⟨_, ldk (k := 6) (Sub.refl _) (O31.all 2 rfl) q34, _, _, _, rfl, ?_⟩
    have O37 := O31.sls 0 rfl g15
    have O39 := O37.nm
    exact (ih _ _ e) _ _ _ _ _ _ _ _ _ _ _ _ _ (O39.pick [0, 1, 2]).nm rfl rfl he7
  · cases e
    exact ⟨_, _, _, _, O.pick [1], rfl, rfl⟩
set_option maxRecDepth 100000 in
theorem roadref2_All.l0_k.step_l1 (go : (p : roadref2_All.l0_k.Pt) → Option ((List T_api_Expr))) (ih : ∀ p r, go p = some r → roadref2_All.l0_k.I p r) (a_3 : List T_api_Expr) (a_4 : List T_api_Expr) (y_5 : T_api_Expr) (x_6 : Int) (r : (List T_api_Expr)) (e : roadref2_All.l0_k.body go (.l1 a_3 a_4 y_5 x_6) = some r) : roadref2_All.l0_k.I (.l1 a_3 a_4 y_5 x_6) r := by
  unfold roadref2_All.l0_k.body at e
  intro W h0 m0 h m A_3 n_3 c_3 A_4 n_4 c_4 bk_5 cs_5 O ne_3 ne_4 e_5
  subst ne_3
  subst ne_4
  refine f14.l1_in ?_
  unfold f14.l1T
  refine split_dec_e e (fun c33 e => ?_) (fun c33 e => ?_)
  · obtain ⟨A1, c2, q3, k4, r5⟩ := T_api_Expr.g6 e_5
    refine ⟨_, ldk (k := 6) (Sub.refl _) (O.all 2 rfl) q3, _, _, _, rfl, ?_⟩
    obtain ⟨y6, g7, e⟩ := bind_e e
    refine r5.addr rfl g7 fun a8 cs9 ha10 hc11 he12 => ?_
    refine ⟨_, ldAkn O.s hc11 4 8 (Nat.le_of_ble_eq_true rfl), ?_⟩
    refine ⟨(List.take 8 (List.drop 4 cs9)), rfl, (T_api_Expr.T.len _ _ _ (T_api_Arm.u4_40 he12)), ?_⟩
    refine O.new fun h13 x14 O15 => ?_
    have O17 := O15.recell 3 rfl (cs' := (List.take 8 (List.drop 4 cs9)) ++ []) rfl
    obtain ⟨l18, g19, e⟩ := bind_e e
    have O26 := O17.rowE (l := ([y6.Body] : List T_api_Expr)) 3 rfl T_api_Expr.T (show CsE _ _ _ _ _ from (CsE.cons (T_api_Arm.u4_40 he12) (T_api_Expr.T.len _ _ _ (T_api_Arm.u4_40 he12)) CsE.nil)) rfl
    refine O26.app 0 rfl rfl rfl ((O26.os 3 rfl).srcE rfl) (by decide) g19 fun A20 c21 h22 O23 => ?_
    refine ⟨_, _, _, rfl, ?_⟩
    have O27 := O23.nm
    exact (ih _ _ e) _ _ _ _ _ _ _ _ _ _ _ _ _ (O27.pick [0, 1, 2]).nm rfl rfl e_5
  · obtain ⟨A28, c29, q30, k31, r32⟩ := T_api_Expr.g5 e_5
    refine ⟨_, ldk (k := 5) (Sub.refl _) (O.all 2 rfl) q30, _, _, _, rfl, ?_⟩
    exact (ih _ _ e) _ _ _ _ _ _ _ _ _ _ _ _ _ (O.pick [0, 1, 2]).nm rfl rfl e_5
set_option maxRecDepth 100000 in
theorem roadref2_All.l0_k.step_l2 (go : (p : roadref2_All.l0_k.Pt) → Option ((List T_api_Expr))) (ih : ∀ p r, go p = some r → roadref2_All.l0_k.I p r) (a_3 : List T_api_Expr) (a_4 : List T_api_Expr) (y_5 : T_api_Expr) (x_7 : Int) (r : (List T_api_Expr)) (e : roadref2_All.l0_k.body go (.l2 a_3 a_4 y_5 x_7) = some r) : roadref2_All.l0_k.I (.l2 a_3 a_4 y_5 x_7) r := by
  unfold roadref2_All.l0_k.body at e
  intro W h0 m0 h m A_3 n_3 c_3 A_4 n_4 c_4 bk_5 cs_5 O ne_3 ne_4 e_5
  subst ne_3
  subst ne_4
  refine f14.l2_in ?_
  unfold f14.l2T
  refine split_dec_e e (fun c28 e => ?_) (fun c28 e => ?_)
  · obtain ⟨A1, c2, q3, k4, r5⟩ := T_api_Expr.g5 e_5
    refine ⟨_, ldk (k := 5) (Sub.refl _) (O.all 2 rfl) q3, _, _, _, rfl, ?_⟩
    obtain ⟨y6, g7, e⟩ := bind_e e
    refine r5.addr rfl g7 fun a8 cs9 ha10 hc11 he12 => ?_
    refine ⟨_, ldAn O.s hc11 rfl, ?_⟩
    refine ⟨cs9, rfl, (T_api_Expr.T.len _ _ _ he12), ?_⟩
    refine O.new fun h13 x14 O15 => ?_
    have O17 := O15.recell 3 rfl (cs' := cs9 ++ []) rfl
    obtain ⟨l18, g19, e⟩ := bind_e e
    have O26 := O17.rowE (l := ([y6] : List T_api_Expr)) 3 rfl T_api_Expr.T (show CsE _ _ _ _ _ from (CsE.cons he12 (T_api_Expr.T.len _ _ _ he12) CsE.nil)) rfl
    refine O26.app 0 rfl rfl rfl ((O26.os 3 rfl).srcE rfl) (by decide) g19 fun A20 c21 h22 O23 => ?_
    refine ⟨_, _, _, rfl, ?_⟩
    have O27 := O23.nm
    exact (ih _ _ e) _ _ _ _ _ _ _ _ _ _ _ _ _ (O27.pick [0, 1, 2]).nm rfl rfl e_5
  · exact (ih _ _ e) _ _ _ _ _ _ _ _ _ _ _ (O.pick [0, 1]).nm rfl rfl
theorem roadref2_All.l0_k.all {p : roadref2_All.l0_k.Pt} {r : ((List T_api_Expr))} (e : roadref2_All.l0_k.go p = some r) : roadref2_All.l0_k.I p r := fixF_ind (β := fun _ => ((List T_api_Expr))) roadref2_All.l0_k.mono (I := roadref2_All.l0_k.I) (fun go ih p r e => match p with
  | .l0 a_3 a_4 => roadref2_All.l0_k.step_l0 go ih a_3 a_4 r e
  | .l1 a_3 a_4 y_5 x_6 => roadref2_All.l0_k.step_l1 go ih a_3 a_4 y_5 x_6 r e
  | .l2 a_3 a_4 y_5 x_7 => roadref2_All.l0_k.step_l2 go ih a_3 a_4 y_5 x_7 r e
  ) e
theorem roadref2_All.l0.walk {W : Nat → Prop} {h0 m0 h m : Heap} {A_3 : Option Addr} {n_3 c_3 : Nat} {A_4 : Option Addr} {n_4 c_4 : Nat} {a_3 : List T_api_Expr} {a_4 : List T_api_Expr} (O : Hold W h0 m0 h m [rR (aE T_api_Expr.T) A_3 c_3 a_3, rR (aE T_api_Expr.T) A_4 c_4 a_4]) (ne_3 : n_3 = List.length a_3) (ne_4 : n_4 = List.length a_4) {r : (List T_api_Expr)} (e : roadref2_All.l0 a_3 a_4 = some r) : f14.l0 (roadref2_All.post W h0 m0 r) A_3 n_3 c_3 A_4 n_4 c_4 h := roadref2_All.l0_k.all (p := .l0 a_3 a_4) e W h0 m0 h m A_3 n_3 c_3 A_4 n_4 c_4 O ne_3 ne_4
noncomputable def roadref2_All (y_0 : T_api_Expr) : Option ((List T_api_Expr)) :=
  (roadref2_All.l0 ([y_0] : List T_api_Expr) ([] : List T_api_Expr))
set_option maxRecDepth 100000 in
theorem roadref2_All.walk {W : Nat → Prop} {h m : Heap} {cs_0 : List Value} {y_0 : T_api_Expr} (O : Hold W h m h m []) (e_0 : T_api_Expr.E m y_0 cs_0) {r : (List T_api_Expr)} (e : roadref2_All y_0 = some r) : Run Tryd.prog 14 #[Value.agg cs_0.toArray] h (roadref2_All.post W h m r) := by
  unfold roadref2_All at e
  refine f14.run ?_
  unfold f14.runT
  refine O.new fun h1 x2 O3 => ?_
  refine ⟨_, ldAn (Sub.refl _) (O3.all 0 rfl) (T_api_Expr.T.len _ _ _ e_0), ?_⟩
  refine ⟨cs_0, rfl, (T_api_Expr.T.len _ _ _ e_0), ?_⟩
  refine O3.new fun h5 x6 O7 => ?_
  have O9 := O7.recell 1 rfl (cs' := cs_0 ++ []) rfl
  have O10 := O9.rowE (l := ([y_0] : List T_api_Expr)) 1 rfl T_api_Expr.T (show CsE _ _ _ _ _ from (CsE.cons e_0 (T_api_Expr.T.len _ _ _ e_0) CsE.nil)) rfl
  have O11 := O10.nil (aE T_api_Expr.T) none
  have O13 := O11.nm
  exact roadref2_All.l0.walk (O13.pick [1, 2]).nm rfl rfl e
def roadref2_pats.post (W : Nat → Prop) (h0 m0 : Heap) (r : (List T_api_Pat)) (v : Value) (h : Heap) : Prop := ∃ m A0 n0 c0, Hold W h0 m0 h m [rR (aE T_api_Pat.T) A0 c0 r] ∧ v = .slice A0 n0 c0 ∧ n0 = List.length r
inductive roadref2_pats.l0_k.Pt where
  | l0 (a_3 : List T_api_Pat) (x_4 : Int)
noncomputable def roadref2_pats.l0_k.body (go : (p : roadref2_pats.l0_k.Pt) → Option ((List T_api_Pat))) : (p : roadref2_pats.l0_k.Pt) → Option ((List T_api_Pat))
  | .l0 a_3 x_4 => if x_4 < (((List.length a_3) : Nat) : Int) then (Option.bind (gi a_3 x_4) fun y1 => Option.bind (ap 56 a_3 y1.Args) fun l13 => (go (.l0 l13 (IntKind.wrap .i64 (x_4 + (1 : Int)))))) else (some (a_3))
theorem roadref2_pats.l0_k.mono : MonoF (β := fun _ => ((List T_api_Pat))) roadref2_pats.l0_k.body := fun f g hfg p => match p with
  | .l0 a_3 x_4 => LeO.ite (LeO.bind (LeO.refl _) fun y1 => LeO.bind (LeO.refl _) fun l13 => (hfg _)) (LeO.refl _)
noncomputable def roadref2_pats.l0_k.go (p : roadref2_pats.l0_k.Pt) : Option ((List T_api_Pat)) := fixF (β := fun _ => ((List T_api_Pat))) roadref2_pats.l0_k.body p
noncomputable def roadref2_pats.l0 (a_3 : List T_api_Pat) (x_4 : Int) : Option ((List T_api_Pat)) := roadref2_pats.l0_k.go (.l0 a_3 x_4)
theorem roadref2_pats.l0_eq (a_3 : List T_api_Pat) (x_4 : Int) : roadref2_pats.l0 a_3 x_4 = if x_4 < (((List.length a_3) : Nat) : Int) then (Option.bind (gi a_3 x_4) fun y1 => Option.bind (ap 56 a_3 y1.Args) fun l13 => (roadref2_pats.l0 l13 (IntKind.wrap .i64 (x_4 + (1 : Int))))) else (some (a_3)) := fixF_eq roadref2_pats.l0_k.mono _
def roadref2_pats.l0_k.I : (p : roadref2_pats.l0_k.Pt) → ((List T_api_Pat)) → Prop
  | .l0 a_3 x_4, r => ∀ (W : Nat → Prop) (h0 m0 h m : Heap) (A_3 : Option Addr) (n_3 c_3 : Nat) (O : Hold W h0 m0 h m [rR (aE T_api_Pat.T) A_3 c_3 a_3]) (ne_3 : n_3 = List.length a_3), f52.l0 (roadref2_pats.post W h0 m0 r) A_3 n_3 c_3 x_4 h
set_option maxRecDepth 100000 in
theorem roadref2_pats.l0_k.step_l0 (go : (p : roadref2_pats.l0_k.Pt) → Option ((List T_api_Pat))) (ih : ∀ p r, go p = some r → roadref2_pats.l0_k.I p r) (a_3 : List T_api_Pat) (x_4 : Int) (r : (List T_api_Pat)) (e : roadref2_pats.l0_k.body go (.l0 a_3 x_4) = some r) : roadref2_pats.l0_k.I (.l0 a_3 x_4) r := by
  unfold roadref2_pats.l0_k.body at e
  intro W h0 m0 h m A_3 n_3 c_3 O ne_3
  subst ne_3
  refine f52.l0_in ?_
  unfold f52.l0T
  refine split_dec_e e (fun c22 e => ?_) (fun c22 e => ?_)
  · obtain ⟨y1, g2, e⟩ := bind_e e
    refine (O.os 0 rfl).addr rfl g2 fun a3 cs4 ha5 hc6 he7 => ?_
    obtain ⟨A8, c9, q10, k11, r12⟩ := T_api_Pat.g3 he7
    refine ⟨_, ldk (k := 3) (Sub.refl _) hc6 q10, _, _, _, rfl, ?_⟩
    obtain ⟨l13, g14, e⟩ := bind_e e
    refine O.app 0 rfl rfl rfl (Rd.srcE r12 T_api_Pat.T O.s rfl) (by decide) g14 fun A15 c16 h17 O18 => ?_
    refine ⟨_, _, _, rfl, ?_⟩
    have O21 := O18.nm
    exact (ih _ _ e) _ _ _ _ _ _ _ _ (O21.pick [0]).nm rfl
  · cases e
    exact ⟨_, _, _, _, O.pick [0], rfl, rfl⟩
theorem roadref2_pats.l0_k.all {p : roadref2_pats.l0_k.Pt} {r : ((List T_api_Pat))} (e : roadref2_pats.l0_k.go p = some r) : roadref2_pats.l0_k.I p r := fixF_ind (β := fun _ => ((List T_api_Pat))) roadref2_pats.l0_k.mono (I := roadref2_pats.l0_k.I) (fun go ih p r e => match p with
  | .l0 a_3 x_4 => roadref2_pats.l0_k.step_l0 go ih a_3 x_4 r e
  ) e
theorem roadref2_pats.l0.walk {W : Nat → Prop} {h0 m0 h m : Heap} {A_3 : Option Addr} {n_3 c_3 : Nat} {a_3 : List T_api_Pat} {x_4 : Int} (O : Hold W h0 m0 h m [rR (aE T_api_Pat.T) A_3 c_3 a_3]) (ne_3 : n_3 = List.length a_3) {r : (List T_api_Pat)} (e : roadref2_pats.l0 a_3 x_4 = some r) : f52.l0 (roadref2_pats.post W h0 m0 r) A_3 n_3 c_3 x_4 h := roadref2_pats.l0_k.all (p := .l0 a_3 x_4) e W h0 m0 h m A_3 n_3 c_3 O ne_3
noncomputable def roadref2_pats (y_0 : T_api_Pat) : Option ((List T_api_Pat)) :=
  (roadref2_pats.l0 ([y_0] : List T_api_Pat) (0 : Int))
set_option maxRecDepth 100000 in
theorem roadref2_pats.walk {W : Nat → Prop} {h m : Heap} {cs_0 : List Value} {y_0 : T_api_Pat} (O : Hold W h m h m []) (e_0 : T_api_Pat.E m y_0 cs_0) {r : (List T_api_Pat)} (e : roadref2_pats y_0 = some r) : Run Tryd.prog 52 #[Value.agg cs_0.toArray] h (roadref2_pats.post W h m r) := by
  unfold roadref2_pats at e
  refine f52.run ?_
  unfold f52.runT
  refine O.new fun h1 x2 O3 => ?_
  refine ⟨_, ldAn (Sub.refl _) (O3.all 0 rfl) (T_api_Pat.T.len _ _ _ e_0), ?_⟩
  refine ⟨cs_0, rfl, (T_api_Pat.T.len _ _ _ e_0), ?_⟩
  refine O3.new fun h5 x6 O7 => ?_
  have O9 := O7.recell 1 rfl (cs' := cs_0 ++ []) rfl
  have O10 := O9.rowE (l := ([y_0] : List T_api_Pat)) 1 rfl T_api_Pat.T (show CsE _ _ _ _ _ from (CsE.cons e_0 (T_api_Pat.T.len _ _ _ e_0) CsE.nil)) rfl
  have O11 := O10.nm
  exact roadref2_pats.l0.walk (O11.pick [1]).nm rfl e
def roadref2_SizeOf.post (W : Nat → Prop) (h0 m0 : Heap) (r : Int) (v : Value) (h : Heap) : Prop := ∃ m , Hold W h0 m0 h m [] ∧ v = .int .i64 r
inductive roadref2_SizeOf.l0_k.Pt where
  | l0 (x_3 : Int) (a_9 : List T_api_Expr) (x_10 : Int) (x_11 : Int)
  | l1 (x_3 : Int) (a_9 : List T_api_Expr) (x_10 : Int) (x_11 : Int) (a_18 : List T_api_Arm) (x_19 : Int) (x_20 : Int)
noncomputable def roadref2_SizeOf.l0_k.body (go : (p : roadref2_SizeOf.l0_k.Pt) → Option (Int)) : (p : roadref2_SizeOf.l0_k.Pt) → Option (Int)
  | .l0 x_3 a_9 x_10 x_11 => if x_11 < x_10 then (Option.bind (gi a_9 x_11) fun y1 => (go (.l1 (IntKind.wrap .i64 (x_3 + (1 : Int))) a_9 x_10 x_11 y1.Arms (((List.length y1.Arms) : Nat) : Int) (0 : Int)))) else (some (x_3))
  | .l1 x_3 a_9 x_10 x_11 a_18 x_19 x_20 => if x_20 < x_19 then (Option.bind (gi a_18 x_20) fun y1 => Option.bind (roadref2_pats y1.Pat) fun y14 => (go (.l1 (IntKind.wrap .i64 (x_3 + (((List.length y14) : Nat) : Int))) a_9 x_10 x_11 a_18 x_19 (IntKind.wrap .i64 (x_20 + (1 : Int)))))) else ((go (.l0 x_3 a_9 x_10 (IntKind.wrap .i64 (x_11 + (1 : Int))))))
theorem roadref2_SizeOf.l0_k.mono : MonoF (β := fun _ => (Int)) roadref2_SizeOf.l0_k.body := fun f g hfg p => match p with
  | .l0 x_3 a_9 x_10 x_11 => LeO.ite (LeO.bind (LeO.refl _) fun y1 => (hfg _)) (LeO.refl _)
  | .l1 x_3 a_9 x_10 x_11 a_18 x_19 x_20 => LeO.ite (LeO.bind (LeO.refl _) fun y1 => LeO.bind (LeO.refl _) fun y14 => (hfg _)) ((hfg _))
noncomputable def roadref2_SizeOf.l0_k.go (p : roadref2_SizeOf.l0_k.Pt) : Option (Int) := fixF (β := fun _ => (Int)) roadref2_SizeOf.l0_k.body p
noncomputable def roadref2_SizeOf.l0 (x_3 : Int) (a_9 : List T_api_Expr) (x_10 : Int) (x_11 : Int) : Option (Int) := roadref2_SizeOf.l0_k.go (.l0 x_3 a_9 x_10 x_11)
noncomputable def roadref2_SizeOf.l1 (x_3 : Int) (a_9 : List T_api_Expr) (x_10 : Int) (x_11 : Int) (a_18 : List T_api_Arm) (x_19 : Int) (x_20 : Int) : Option (Int) := roadref2_SizeOf.l0_k.go (.l1 x_3 a_9 x_10 x_11 a_18 x_19 x_20)
theorem roadref2_SizeOf.l0_eq (x_3 : Int) (a_9 : List T_api_Expr) (x_10 : Int) (x_11 : Int) : roadref2_SizeOf.l0 x_3 a_9 x_10 x_11 = if x_11 < x_10 then (Option.bind (gi a_9 x_11) fun y1 => (roadref2_SizeOf.l1 (IntKind.wrap .i64 (x_3 + (1 : Int))) a_9 x_10 x_11 y1.Arms (((List.length y1.Arms) : Nat) : Int) (0 : Int))) else (some (x_3)) := fixF_eq roadref2_SizeOf.l0_k.mono _
theorem roadref2_SizeOf.l1_eq (x_3 : Int) (a_9 : List T_api_Expr) (x_10 : Int) (x_11 : Int) (a_18 : List T_api_Arm) (x_19 : Int) (x_20 : Int) : roadref2_SizeOf.l1 x_3 a_9 x_10 x_11 a_18 x_19 x_20 = if x_20 < x_19 then (Option.bind (gi a_18 x_20) fun y1 => Option.bind (roadref2_pats y1.Pat) fun y14 => (roadref2_SizeOf.l1 (IntKind.wrap .i64 (x_3 + (((List.length y14) : Nat) : Int))) a_9 x_10 x_11 a_18 x_19 (IntKind.wrap .i64 (x_20 + (1 : Int))))) else ((roadref2_SizeOf.l0 x_3 a_9 x_10 (IntKind.wrap .i64 (x_11 + (1 : Int))))) := fixF_eq roadref2_SizeOf.l0_k.mono _
def roadref2_SizeOf.l0_k.I : (p : roadref2_SizeOf.l0_k.Pt) → (Int) → Prop
  | .l0 x_3 a_9 x_10 x_11, r => ∀ (W : Nat → Prop) (h0 m0 h m : Heap) (A_9 : Option Addr) (n_9 c_9 : Nat) (O : Hold W h0 m0 h m [rR (aE T_api_Expr.T) A_9 c_9 a_9]) (ne_9 : n_9 = List.length a_9), f12.l0 (roadref2_SizeOf.post W h0 m0 r) x_3 A_9 n_9 c_9 x_10 x_11 h
  | .l1 x_3 a_9 x_10 x_11 a_18 x_19 x_20, r => ∀ (W : Nat → Prop) (h0 m0 h m : Heap) (A_9 : Option Addr) (n_9 c_9 : Nat) (A_18 : Option Addr) (n_18 c_18 : Nat) (O : Hold W h0 m0 h m [rR (aE T_api_Expr.T) A_9 c_9 a_9]) (ne_9 : n_9 = List.length a_9) (ne_18 : n_18 = List.length a_18) (k_18 : List.length a_18 ≤ c_18) (r_18 : Rd 12 T_api_Arm.E m A_18 a_18), f12.l1 (roadref2_SizeOf.post W h0 m0 r) x_3 A_9 n_9 c_9 x_10 x_11 A_18 n_18 c_18 x_19 x_20 h
set_option maxRecDepth 100000 in
theorem roadref2_SizeOf.l0_k.step_l0 (go : (p : roadref2_SizeOf.l0_k.Pt) → Option (Int)) (ih : ∀ p r, go p = some r → roadref2_SizeOf.l0_k.I p r) (x_3 : Int) (a_9 : List T_api_Expr) (x_10 : Int) (x_11 : Int) (r : Int) (e : roadref2_SizeOf.l0_k.body go (.l0 x_3 a_9 x_10 x_11) = some r) : roadref2_SizeOf.l0_k.I (.l0 x_3 a_9 x_10 x_11) r := by
  unfold roadref2_SizeOf.l0_k.body at e
  intro W h0 m0 h m A_9 n_9 c_9 O ne_9
  subst ne_9
  refine f12.l0_in ?_
  unfold f12.l0T
  refine split_dec_e e (fun c20 e => ?_) (fun c20 e => ?_)
  · obtain ⟨y1, g2, e⟩ := bind_e e
    refine (O.os 0 rfl).addr rfl g2 fun a3 cs4 ha5 hc6 he7 => ?_
    refine ⟨_, ldAn (Sub.refl _) hc6 rfl, ?_⟩
    refine O.new fun h8 x9 O10 => ?_
    refine ⟨_, rfl, (T_api_Expr.T.len _ _ _ he7), ?_⟩
    refine O10.stA 1 rfl (T_api_Expr.T.len _ _ _ he7) (T_api_Expr.T.flat _ _ _ he7) fun h12 O13 => ?_
    obtain ⟨A14, c15, q16, k17, r18⟩ := T_api_Expr.g6 he7
    refine ⟨_, ldk (k := 6) (Sub.refl _) (O13.all 1 rfl) q16, _, _, _, rfl, ?_⟩
    have O19 := O13.nm
    exact (ih _ _ e) _ _ _ _ _ _ _ _ _ _ _ (O19.pick [0]).nm rfl rfl k17 r18
  · cases e
    exact ⟨_, O.pick [], rfl⟩
set_option maxRecDepth 100000 in
theorem roadref2_SizeOf.l0_k.step_l1 (go : (p : roadref2_SizeOf.l0_k.Pt) → Option (Int)) (ih : ∀ p r, go p = some r → roadref2_SizeOf.l0_k.I p r) (x_3 : Int) (a_9 : List T_api_Expr) (x_10 : Int) (x_11 : Int) (a_18 : List T_api_Arm) (x_19 : Int) (x_20 : Int) (r : Int) (e : roadref2_SizeOf.l0_k.body go (.l1 x_3 a_9 x_10 x_11 a_18 x_19 x_20) = some r) : roadref2_SizeOf.l0_k.I (.l1 x_3 a_9 x_10 x_11 a_18 x_19 x_20) r := by
  unfold roadref2_SizeOf.l0_k.body at e
  intro W h0 m0 h m A_9 n_9 c_9 A_18 n_18 c_18 O ne_9 ne_18 k_18 r_18
  subst ne_9
  subst ne_18
  refine f12.l1_in ?_
  unfold f12.l1T
  refine split_dec_e e (fun c26 e => ?_) (fun c26 e => ?_)
  · obtain ⟨y1, g2, e⟩ := bind_e e
    refine r_18.addr rfl g2 fun a3 cs4 ha5 hc6 he7 => ?_
    refine ⟨_, ldAn O.s hc6 rfl, ?_⟩
    refine O.new fun h8 x9 O10 => ?_
    refine ⟨_, rfl, (T_api_Arm.T.len _ _ _ he7), ?_⟩
    refine O10.stA 1 rfl (T_api_Arm.T.len _ _ _ he7) (T_api_Arm.T.flat _ _ _ he7) fun h12 O13 => ?_
    refine ⟨_, ldA0n (Sub.refl _) (O13.all 1 rfl) 4 (le_len (T_api_Arm.T.len _ _ _ he7) (by decide)), ?_⟩
    obtain ⟨y14, g15, e⟩ := bind_e e
    refine (roadref2_pats.walk (Hold.start (W := No) O13.s) (T_api_Arm.u0_48 he7) g15).mono ?_
    rintro _ h16 ⟨m17, A20, n21, c22, Q18, rfl, ne23⟩
    have O25 := Hold.nm (O13.ret Q18)
    subst ne23
    refine ⟨_, _, _, rfl, ?_⟩
    exact (ih _ _ e) _ _ _ _ _ _ _ _ _ _ _ (O25.pick [0]).nm rfl rfl k_18 (r_18.sub T_api_Arm.T Q18.S.up)
  · exact (ih _ _ e) _ _ _ _ _ _ _ _ (O.pick [0]).nm rfl
theorem roadref2_SizeOf.l0_k.all {p : roadref2_SizeOf.l0_k.Pt} {r : (Int)} (e : roadref2_SizeOf.l0_k.go p = some r) : roadref2_SizeOf.l0_k.I p r := fixF_ind (β := fun _ => (Int)) roadref2_SizeOf.l0_k.mono (I := roadref2_SizeOf.l0_k.I) (fun go ih p r e => match p with
  | .l0 x_3 a_9 x_10 x_11 => roadref2_SizeOf.l0_k.step_l0 go ih x_3 a_9 x_10 x_11 r e
  | .l1 x_3 a_9 x_10 x_11 a_18 x_19 x_20 => roadref2_SizeOf.l0_k.step_l1 go ih x_3 a_9 x_10 x_11 a_18 x_19 x_20 r e
  ) e
theorem roadref2_SizeOf.l0.walk {W : Nat → Prop} {h0 m0 h m : Heap} {A_9 : Option Addr} {n_9 c_9 : Nat} {x_3 : Int} {a_9 : List T_api_Expr} {x_10 : Int} {x_11 : Int} (O : Hold W h0 m0 h m [rR (aE T_api_Expr.T) A_9 c_9 a_9]) (ne_9 : n_9 = List.length a_9) {r : Int} (e : roadref2_SizeOf.l0 x_3 a_9 x_10 x_11 = some r) : f12.l0 (roadref2_SizeOf.post W h0 m0 r) x_3 A_9 n_9 c_9 x_10 x_11 h := roadref2_SizeOf.l0_k.all (p := .l0 x_3 a_9 x_10 x_11) e W h0 m0 h m A_9 n_9 c_9 O ne_9
noncomputable def roadref2_SizeOf (y_0 : T_api_Expr) : Option (Int) :=
  Option.bind (roadref2_All y_0) fun y5 => (roadref2_SizeOf.l0 (0 : Int) y5 (((List.length y5) : Nat) : Int) (0 : Int))
set_option maxRecDepth 100000 in
theorem roadref2_SizeOf.walk {W : Nat → Prop} {h m : Heap} {cs_0 : List Value} {y_0 : T_api_Expr} (O : Hold W h m h m []) (e_0 : T_api_Expr.E m y_0 cs_0) {r : Int} (e : roadref2_SizeOf y_0 = some r) : Run Tryd.prog 12 #[Value.agg cs_0.toArray] h (roadref2_SizeOf.post W h m r) := by
  unfold roadref2_SizeOf at e
  refine f12.run ?_
  unfold f12.runT
  refine O.new fun h1 x2 O3 => ?_
  refine ⟨_, ldAn (Sub.refl _) (O3.all 0 rfl) (T_api_Expr.T.len _ _ _ e_0), ?_⟩
  obtain ⟨y5, g6, e⟩ := bind_e e
  refine (roadref2_All.walk (Hold.start (W := No) O3.s) e_0 g6).mono ?_
  rintro _ h7 ⟨m8, A11, n12, c13, Q9, rfl, ne14⟩
  have O16 := Hold.nm (O3.ret Q9)
  subst ne14
  refine ⟨_, _, _, rfl, ?_⟩
  exact roadref2_SizeOf.l0.walk (O16.pick [1]).nm rfl e
def slices_Clone_28.post (W : Nat → Prop) (h0 m0 : Heap) (r : (List T_api_Expr)) (v : Value) (h : Heap) : Prop := ∃ m A0 n0 c0, Hold W h0 m0 h m [rR (aE T_api_Expr.T) A0 c0 r] ∧ v = .slice A0 n0 c0 ∧ n0 = List.length r
noncomputable def slices_Clone_28 (a0 : List T_api_Expr) : Option (List T_api_Expr) := ap 136 ([] : List T_api_Expr) a0
set_option maxRecDepth 100000 in
theorem slices_Clone_28.walk {W : Nat → Prop} {h m : Heap} {A0 : Option Addr} {n0 c0 : Nat} {a0 : List T_api_Expr} (O : Hold W h m h m []) (ne0 : n0 = List.length a0) (k0 : List.length a0 ≤ c0) (r0 : Rd 8 T_api_Expr.E m A0 a0) {r : List T_api_Expr} (e : slices_Clone_28 a0 = some r) : Run Tryd.prog 28 #[Value.slice A0 n0 c0] h (slices_Clone_28.post W h m r) := by
  unfold slices_Clone_28 at e
  subst ne0
  refine f28.run ?_
  unfold f28.runT
  cases A0 with
  | none =>
    refine split_t ?_
    obtain rfl := Rd.void r0
    obtain rfl : [] = r := by have := (ap_e e).2; simpa using this
    exact ⟨m, none, 0, 0, O.nil (aE T_api_Expr.T) none, rfl, rfl⟩
  | some a =>
    refine split_f ?_
    refine O.new fun h1 x1 O1 => ?_
    refine O1.appE0 T_api_Expr.T rfl rfl (r0.srcE T_api_Expr.T O1.s rfl) (by decide) e fun A4 c4 h4 x4 O4 => ?_
    refine ⟨_, _, _, rfl, ?_⟩
    exact ⟨m, _, _, _, O4.pick [1], rfl, rfl⟩
def tree_Parts.post (W : Nat → Prop) (h0 m0 : Heap) (r : (List T_api_Expr)) (v : Value) (h : Heap) : Prop := ∃ m A0 n0 c0, Hold W h0 m0 h m [rR (aE T_api_Expr.T) A0 c0 r] ∧ v = .slice A0 n0 c0 ∧ n0 = List.length r
inductive tree_Parts.l0_k.Pt where
  | l0 (a_3 : List T_api_Expr) (a_10 : List T_api_Arm) (x_11 : Int) (x_12 : Int)
noncomputable def tree_Parts.l0_k.body (go : (p : tree_Parts.l0_k.Pt) → Option ((List T_api_Expr))) : (p : tree_Parts.l0_k.Pt) → Option ((List T_api_Expr))
  | .l0 a_3 a_10 x_11 x_12 => if x_12 < x_11 then (Option.bind (gi a_10 x_12) fun y1 => Option.bind (ap 136 a_3 ([y1.Body] : List T_api_Expr)) fun l19 => (go (.l0 l19 a_10 x_11 (IntKind.wrap .i64 (x_12 + (1 : Int)))))) else (some (a_3))
theorem tree_Parts.l0_k.mono : MonoF (β := fun _ => ((List T_api_Expr))) tree_Parts.l0_k.body := fun f g hfg p => match p with
  | .l0 a_3 a_10 x_11 x_12 => LeO.ite (LeO.bind (LeO.refl _) fun y1 => LeO.bind (LeO.refl _) fun l19 => (hfg _)) (LeO.refl _)
noncomputable def tree_Parts.l0_k.go (p : tree_Parts.l0_k.Pt) : Option ((List T_api_Expr)) := fixF (β := fun _ => ((List T_api_Expr))) tree_Parts.l0_k.body p
noncomputable def tree_Parts.l0 (a_3 : List T_api_Expr) (a_10 : List T_api_Arm) (x_11 : Int) (x_12 : Int) : Option ((List T_api_Expr)) := tree_Parts.l0_k.go (.l0 a_3 a_10 x_11 x_12)
theorem tree_Parts.l0_eq (a_3 : List T_api_Expr) (a_10 : List T_api_Arm) (x_11 : Int) (x_12 : Int) : tree_Parts.l0 a_3 a_10 x_11 x_12 = if x_12 < x_11 then (Option.bind (gi a_10 x_12) fun y1 => Option.bind (ap 136 a_3 ([y1.Body] : List T_api_Expr)) fun l19 => (tree_Parts.l0 l19 a_10 x_11 (IntKind.wrap .i64 (x_12 + (1 : Int))))) else (some (a_3)) := fixF_eq tree_Parts.l0_k.mono _
def tree_Parts.l0_k.I : (p : tree_Parts.l0_k.Pt) → ((List T_api_Expr)) → Prop
  | .l0 a_3 a_10 x_11 x_12, r => ∀ (W : Nat → Prop) (h0 m0 h m : Heap) (A_3 : Option Addr) (n_3 c_3 : Nat) (A_10 : Option Addr) (n_10 c_10 : Nat) (O : Hold W h0 m0 h m [rR (aE T_api_Expr.T) A_3 c_3 a_3]) (ne_3 : n_3 = List.length a_3) (ne_10 : n_10 = List.length a_10) (k_10 : List.length a_10 ≤ c_10) (r_10 : Rd 12 T_api_Arm.E m A_10 a_10), f27.l0 (tree_Parts.post W h0 m0 r) A_3 n_3 c_3 A_10 n_10 c_10 x_11 x_12 h
set_option maxRecDepth 100000 in
theorem tree_Parts.l0_k.step_l0 (go : (p : tree_Parts.l0_k.Pt) → Option ((List T_api_Expr))) (ih : ∀ p r, go p = some r → tree_Parts.l0_k.I p r) (a_3 : List T_api_Expr) (a_10 : List T_api_Arm) (x_11 : Int) (x_12 : Int) (r : (List T_api_Expr)) (e : tree_Parts.l0_k.body go (.l0 a_3 a_10 x_11 x_12) = some r) : tree_Parts.l0_k.I (.l0 a_3 a_10 x_11 x_12) r := by
  unfold tree_Parts.l0_k.body at e
  intro W h0 m0 h m A_3 n_3 c_3 A_10 n_10 c_10 O ne_3 ne_10 k_10 r_10
  subst ne_3
  subst ne_10
  refine f27.l0_in ?_
  unfold f27.l0T
  refine split_dec_e e (fun c29 e => ?_) (fun c29 e => ?_)
  · obtain ⟨y1, g2, e⟩ := bind_e e
    refine r_10.addr rfl g2 fun a3 cs4 ha5 hc6 he7 => ?_
    refine ⟨_, ldAn O.s hc6 rfl, ?_⟩
    refine O.new fun h8 x9 O10 => ?_
    refine ⟨_, rfl, (T_api_Arm.T.len _ _ _ he7), ?_⟩
    refine O10.stA 1 rfl (T_api_Arm.T.len _ _ _ he7) (T_api_Arm.T.flat _ _ _ he7) fun h12 O13 => ?_
    refine ⟨_, ldAkn (Sub.refl _) (O13.all 1 rfl) 4 8 (le_len (T_api_Arm.T.len _ _ _ he7) (by decide)), ?_⟩
    refine ⟨(List.take 8 (List.drop 4 cs4)), rfl, (T_api_Expr.T.len _ _ _ (T_api_Arm.u4_40 he7)), ?_⟩
    refine O13.new fun h14 x15 O16 => ?_
    have O18 := O16.recell 2 rfl (cs' := (List.take 8 (List.drop 4 cs4)) ++ []) rfl
    obtain ⟨l19, g20, e⟩ := bind_e e
    have O27 := O18.rowE (l := ([y1.Body] : List T_api_Expr)) 2 rfl T_api_Expr.T (show CsE _ _ _ _ _ from (CsE.cons (T_api_Arm.u4_40 he7) (T_api_Expr.T.len _ _ _ (T_api_Arm.u4_40 he7)) CsE.nil)) rfl
    refine O27.app 0 rfl rfl rfl ((O27.os 2 rfl).srcE rfl) (by decide) g20 fun A21 c22 h23 O24 => ?_
    refine ⟨_, _, _, rfl, ?_⟩
    have O28 := O24.nm
    exact (ih _ _ e) _ _ _ _ _ _ _ _ _ _ _ (O28.pick [0]).nm rfl rfl k_10 r_10
  · cases e
    exact ⟨_, _, _, _, O.pick [0], rfl, rfl⟩
theorem tree_Parts.l0_k.all {p : tree_Parts.l0_k.Pt} {r : ((List T_api_Expr))} (e : tree_Parts.l0_k.go p = some r) : tree_Parts.l0_k.I p r := fixF_ind (β := fun _ => ((List T_api_Expr))) tree_Parts.l0_k.mono (I := tree_Parts.l0_k.I) (fun go ih p r e => match p with
  | .l0 a_3 a_10 x_11 x_12 => tree_Parts.l0_k.step_l0 go ih a_3 a_10 x_11 x_12 r e
  ) e
theorem tree_Parts.l0.walk {W : Nat → Prop} {h0 m0 h m : Heap} {A_3 : Option Addr} {n_3 c_3 : Nat} {A_10 : Option Addr} {n_10 c_10 : Nat} {a_3 : List T_api_Expr} {a_10 : List T_api_Arm} {x_11 : Int} {x_12 : Int} (O : Hold W h0 m0 h m [rR (aE T_api_Expr.T) A_3 c_3 a_3]) (ne_3 : n_3 = List.length a_3) (ne_10 : n_10 = List.length a_10) (k_10 : List.length a_10 ≤ c_10) (r_10 : Rd 12 T_api_Arm.E m A_10 a_10) {r : (List T_api_Expr)} (e : tree_Parts.l0 a_3 a_10 x_11 x_12 = some r) : f27.l0 (tree_Parts.post W h0 m0 r) A_3 n_3 c_3 A_10 n_10 c_10 x_11 x_12 h := tree_Parts.l0_k.all (p := .l0 a_3 a_10 x_11 x_12) e W h0 m0 h m A_3 n_3 c_3 A_10 n_10 c_10 O ne_3 ne_10 k_10 r_10
noncomputable def tree_Parts (y_0 : T_api_Expr) : Option ((List T_api_Expr)) :=
  Option.bind (slices_Clone_28 y_0.Args) fun y10 => (tree_Parts.l0 y10 y_0.Arms (((List.length y_0.Arms) : Nat) : Int) (0 : Int))
set_option maxRecDepth 100000 in
theorem tree_Parts.walk {W : Nat → Prop} {h m : Heap} {cs_0 : List Value} {y_0 : T_api_Expr} (O : Hold W h m h m []) (e_0 : T_api_Expr.E m y_0 cs_0) {r : (List T_api_Expr)} (e : tree_Parts y_0 = some r) : Run Tryd.prog 27 #[Value.agg cs_0.toArray] h (tree_Parts.post W h m r) := by
  unfold tree_Parts at e
  refine f27.run ?_
  unfold f27.runT
  refine O.new fun h1 x2 O3 => ?_
  obtain ⟨A5, c6, q7, k8, r9⟩ := T_api_Expr.g5 e_0
  refine ⟨_, ldk (k := 5) (Sub.refl _) (O3.all 0 rfl) q7, _, _, _, rfl, ?_⟩
  obtain ⟨y10, g11, e⟩ := bind_e e
  refine (slices_Clone_28.walk (Hold.start (W := No) O3.s) rfl k8 r9 g11).mono ?_
  rintro _ h12 ⟨m13, A16, n17, c18, Q14, rfl, ne19⟩
  have O21 := Hold.nm (O3.ret Q14)
  subst ne19
  refine ⟨_, _, _, rfl, ?_⟩
  obtain ⟨A22, c23, q24, k25, r26⟩ := T_api_Expr.g6 e_0
  refine ⟨_, ldk (k := 6) (Sub.refl _) (O21.all 0 rfl) q24, _, _, _, rfl, ?_⟩
  exact tree_Parts.l0.walk (O21.pick [1]).nm rfl rfl k25 (r26.sub T_api_Arm.T Q14.S.up) e
def tree_Walk.post (W : Nat → Prop) (h0 m0 : Heap) (r : (List T_api_Expr)) (v : Value) (h : Heap) : Prop := ∃ m A0 n0 c0, Hold W h0 m0 h m [rR (aE T_api_Expr.T) A0 c0 r] ∧ v = .slice A0 n0 c0 ∧ n0 = List.length r
inductive tree_Walk_k.Pt where
  | f (y_0 : T_api_Expr)
  | l0 (a_3 : List T_api_Expr) (a_9 : List T_api_Expr) (x_10 : Int) (x_11 : Int)
noncomputable def tree_Walk_k.body (go : (p : tree_Walk_k.Pt) → Option ((List T_api_Expr))) : (p : tree_Walk_k.Pt) → Option ((List T_api_Expr))
  | .f y_0 => Option.bind (tree_Parts y_0) fun y10 => (go (.l0 ([y_0] : List T_api_Expr) y10 (((List.length y10) : Nat) : Int) (0 : Int)))
  | .l0 a_3 a_9 x_10 x_11 => if x_11 < x_10 then (Option.bind (gi a_9 x_11) fun y1 => Option.bind ((go (.f y1))) fun y14 => Option.bind (ap 136 a_3 y14) fun l26 => (go (.l0 l26 a_9 x_10 (IntKind.wrap .i64 (x_11 + (1 : Int)))))) else (some (a_3))
theorem tree_Walk_k.mono : MonoF (β := fun _ => ((List T_api_Expr))) tree_Walk_k.body := fun f g hfg p => match p with
  | .f y_0 => LeO.bind (LeO.refl _) fun y10 => (hfg _)
  | .l0 a_3 a_9 x_10 x_11 => LeO.ite (LeO.bind (LeO.refl _) fun y1 => LeO.bind ((hfg _)) fun y14 => LeO.bind (LeO.refl _) fun l26 => (hfg _)) (LeO.refl _)
noncomputable def tree_Walk_k.go (p : tree_Walk_k.Pt) : Option ((List T_api_Expr)) := fixF (β := fun _ => ((List T_api_Expr))) tree_Walk_k.body p
noncomputable def tree_Walk (y_0 : T_api_Expr) : Option ((List T_api_Expr)) := tree_Walk_k.go (.f y_0)
noncomputable def tree_Walk.l0 (a_3 : List T_api_Expr) (a_9 : List T_api_Expr) (x_10 : Int) (x_11 : Int) : Option ((List T_api_Expr)) := tree_Walk_k.go (.l0 a_3 a_9 x_10 x_11)
theorem tree_Walk_eq (y_0 : T_api_Expr) : tree_Walk y_0 = Option.bind (tree_Parts y_0) fun y10 => (tree_Walk.l0 ([y_0] : List T_api_Expr) y10 (((List.length y10) : Nat) : Int) (0 : Int)) := fixF_eq tree_Walk_k.mono _
theorem tree_Walk.l0_eq (a_3 : List T_api_Expr) (a_9 : List T_api_Expr) (x_10 : Int) (x_11 : Int) : tree_Walk.l0 a_3 a_9 x_10 x_11 = if x_11 < x_10 then (Option.bind (gi a_9 x_11) fun y1 => Option.bind ((tree_Walk y1)) fun y14 => Option.bind (ap 136 a_3 y14) fun l26 => (tree_Walk.l0 l26 a_9 x_10 (IntKind.wrap .i64 (x_11 + (1 : Int))))) else (some (a_3)) := fixF_eq tree_Walk_k.mono _
def tree_Walk_k.I : (p : tree_Walk_k.Pt) → ((List T_api_Expr)) → Prop
  | .f y_0, r => ∀ (W : Nat → Prop) (h m : Heap) (cs_0 : List Value) (O : Hold W h m h m []) (e_0 : T_api_Expr.E m y_0 cs_0), Run Tryd.prog 13 #[Value.agg cs_0.toArray] h (tree_Walk.post W h m r)
  | .l0 a_3 a_9 x_10 x_11, r => ∀ (W : Nat → Prop) (h0 m0 h m : Heap) (A_3 : Option Addr) (n_3 c_3 : Nat) (A_9 : Option Addr) (n_9 c_9 : Nat) (O : Hold W h0 m0 h m [rR (aE T_api_Expr.T) A_3 c_3 a_3, rR (aE T_api_Expr.T) A_9 c_9 a_9]) (ne_3 : n_3 = List.length a_3) (ne_9 : n_9 = List.length a_9), f13.l0 (tree_Walk.post W h0 m0 r) A_3 n_3 c_3 A_9 n_9 c_9 x_10 x_11 h
set_option maxRecDepth 100000 in
theorem tree_Walk_k.step_f (go : (p : tree_Walk_k.Pt) → Option ((List T_api_Expr))) (ih : ∀ p r, go p = some r → tree_Walk_k.I p r) (y_0 : T_api_Expr) (r : (List T_api_Expr)) (e : tree_Walk_k.body go (.f y_0) = some r) : tree_Walk_k.I (.f y_0) r := by
  unfold tree_Walk_k.body at e
  intro W h m cs_0 O e_0
  refine f13.run ?_
  unfold f13.runT
  refine O.new fun h1 x2 O3 => ?_
  refine ⟨_, ldAn (Sub.refl _) (O3.all 0 rfl) (T_api_Expr.T.len _ _ _ e_0), ?_⟩
  refine ⟨cs_0, rfl, (T_api_Expr.T.len _ _ _ e_0), ?_⟩
  refine O3.new fun h5 x6 O7 => ?_
  have O9 := O7.recell 1 rfl (cs' := cs_0 ++ []) rfl
  refine ⟨_, ldAn (Sub.refl _) (O9.all 0 rfl) (T_api_Expr.T.len _ _ _ e_0), ?_⟩
  obtain ⟨y10, g11, e⟩ := bind_e e
  refine (tree_Parts.walk (Hold.start (W := No) O9.s) e_0 g11).mono ?_
  rintro _ h12 ⟨m13, A16, n17, c18, Q14, rfl, ne19⟩
  have O21 := Hold.nm (O9.ret Q14)
  subst ne19
  refine ⟨_, _, _, rfl, ?_⟩
  have O22 := O21.rowE (l := ([y_0] : List T_api_Expr)) 1 rfl T_api_Expr.T (show CsE _ _ _ _ _ from (CsE.cons (T_api_Expr.T.mono _ _ _ _ Q14.S.up e_0) (T_api_Expr.T.len _ _ _ (T_api_Expr.T.mono _ _ _ _ Q14.S.up e_0)) CsE.nil)) rfl
  have O23 := O22.nm
  exact (ih _ _ e) _ _ _ _ _ _ _ _ _ _ _ (O23.pick [1, 2]).nm rfl rfl
set_option maxRecDepth 100000 in
theorem tree_Walk_k.step_l0 (go : (p : tree_Walk_k.Pt) → Option ((List T_api_Expr))) (ih : ∀ p r, go p = some r → tree_Walk_k.I p r) (a_3 : List T_api_Expr) (a_9 : List T_api_Expr) (x_10 : Int) (x_11 : Int) (r : (List T_api_Expr)) (e : tree_Walk_k.body go (.l0 a_3 a_9 x_10 x_11) = some r) : tree_Walk_k.I (.l0 a_3 a_9 x_10 x_11) r := by
  unfold tree_Walk_k.body at e
  intro W h0 m0 h m A_3 n_3 c_3 A_9 n_9 c_9 O ne_3 ne_9
  subst ne_3
  subst ne_9
  refine f13.l0_in ?_
  unfold f13.l0T
  refine split_dec_e e (fun c35 e => ?_) (fun c35 e => ?_)
  · obtain ⟨y1, g2, e⟩ := bind_e e
    refine (O.os 1 rfl).addr rfl g2 fun a3 cs4 ha5 hc6 he7 => ?_
    refine ⟨_, ldAn (Sub.refl _) hc6 rfl, ?_⟩
    refine O.new fun h8 x9 O10 => ?_
    refine ⟨_, rfl, (T_api_Expr.T.len _ _ _ he7), ?_⟩
    refine O10.stA 2 rfl (T_api_Expr.T.len _ _ _ he7) (T_api_Expr.T.flat _ _ _ he7) fun h12 O13 => ?_
    refine ⟨_, ldAn (Sub.refl _) (O13.all 2 rfl) (T_api_Expr.T.len _ _ _ he7), ?_⟩
    obtain ⟨y14, g15, e⟩ := bind_e e
    refine ((ih _ _ g15) _ _ _ _ (Hold.start (W := No) O13.s) he7).mono ?_
    rintro _ h16 ⟨m17, A20, n21, c22, Q18, rfl, ne23⟩
    have O25 := Hold.nm (O13.ret Q18)
    subst ne23
    refine ⟨_, _, _, rfl, ?_⟩
    obtain ⟨l26, g27, e⟩ := bind_e e
    refine O25.app 0 rfl rfl rfl ((O25.os 3 rfl).srcE rfl) (by decide) g27 fun A28 c29 h30 O31 => ?_
    refine ⟨_, _, _, rfl, ?_⟩
    have O34 := O31.nm
    exact (ih _ _ e) _ _ _ _ _ _ _ _ _ _ _ (O34.pick [0, 1]).nm rfl rfl
  · cases e
    exact ⟨_, _, _, _, O.pick [0], rfl, rfl⟩
theorem tree_Walk_k.all {p : tree_Walk_k.Pt} {r : ((List T_api_Expr))} (e : tree_Walk_k.go p = some r) : tree_Walk_k.I p r := fixF_ind (β := fun _ => ((List T_api_Expr))) tree_Walk_k.mono (I := tree_Walk_k.I) (fun go ih p r e => match p with
  | .f y_0 => tree_Walk_k.step_f go ih y_0 r e
  | .l0 a_3 a_9 x_10 x_11 => tree_Walk_k.step_l0 go ih a_3 a_9 x_10 x_11 r e
  ) e
theorem tree_Walk.walk {W : Nat → Prop} {h m : Heap} {cs_0 : List Value} {y_0 : T_api_Expr} (O : Hold W h m h m []) (e_0 : T_api_Expr.E m y_0 cs_0) {r : (List T_api_Expr)} (e : tree_Walk y_0 = some r) : Run Tryd.prog 13 #[Value.agg cs_0.toArray] h (tree_Walk.post W h m r) := tree_Walk_k.all (p := .f y_0) e W h m cs_0 O e_0
def tree_patSize.post (W : Nat → Prop) (h0 m0 : Heap) (r : Int) (v : Value) (h : Heap) : Prop := ∃ m , Hold W h0 m0 h m [] ∧ v = .int .i64 r
inductive tree_patSize_k.Pt where
  | f (y_0 : T_api_Pat)
  | l0 (x_3 : Int) (a_7 : List T_api_Pat) (x_8 : Int) (x_9 : Int)
noncomputable def tree_patSize_k.body (go : (p : tree_patSize_k.Pt) → Option (Int)) : (p : tree_patSize_k.Pt) → Option (Int)
  | .f y_0 => (go (.l0 (1 : Int) y_0.Args (((List.length y_0.Args) : Nat) : Int) (0 : Int)))
  | .l0 x_3 a_7 x_8 x_9 => if x_9 < x_8 then (Option.bind (gi a_7 x_9) fun y1 => Option.bind ((go (.f y1))) fun y14 => (go (.l0 (IntKind.wrap .i64 (x_3 + y14)) a_7 x_8 (IntKind.wrap .i64 (x_9 + (1 : Int)))))) else (some (x_3))
theorem tree_patSize_k.mono : MonoF (β := fun _ => (Int)) tree_patSize_k.body := fun f g hfg p => match p with
  | .f y_0 => (hfg _)
  | .l0 x_3 a_7 x_8 x_9 => LeO.ite (LeO.bind (LeO.refl _) fun y1 => LeO.bind ((hfg _)) fun y14 => (hfg _)) (LeO.refl _)
noncomputable def tree_patSize_k.go (p : tree_patSize_k.Pt) : Option (Int) := fixF (β := fun _ => (Int)) tree_patSize_k.body p
noncomputable def tree_patSize (y_0 : T_api_Pat) : Option (Int) := tree_patSize_k.go (.f y_0)
noncomputable def tree_patSize.l0 (x_3 : Int) (a_7 : List T_api_Pat) (x_8 : Int) (x_9 : Int) : Option (Int) := tree_patSize_k.go (.l0 x_3 a_7 x_8 x_9)
theorem tree_patSize_eq (y_0 : T_api_Pat) : tree_patSize y_0 = (tree_patSize.l0 (1 : Int) y_0.Args (((List.length y_0.Args) : Nat) : Int) (0 : Int)) := fixF_eq tree_patSize_k.mono _
theorem tree_patSize.l0_eq (x_3 : Int) (a_7 : List T_api_Pat) (x_8 : Int) (x_9 : Int) : tree_patSize.l0 x_3 a_7 x_8 x_9 = if x_9 < x_8 then (Option.bind (gi a_7 x_9) fun y1 => Option.bind ((tree_patSize y1)) fun y14 => (tree_patSize.l0 (IntKind.wrap .i64 (x_3 + y14)) a_7 x_8 (IntKind.wrap .i64 (x_9 + (1 : Int))))) else (some (x_3)) := fixF_eq tree_patSize_k.mono _
def tree_patSize_k.I : (p : tree_patSize_k.Pt) → (Int) → Prop
  | .f y_0, r => ∀ (W : Nat → Prop) (h m : Heap) (cs_0 : List Value) (O : Hold W h m h m []) (e_0 : T_api_Pat.E m y_0 cs_0), Run Tryd.prog 53 #[Value.agg cs_0.toArray] h (tree_patSize.post W h m r)
  | .l0 x_3 a_7 x_8 x_9, r => ∀ (W : Nat → Prop) (h0 m0 h m : Heap) (A_7 : Option Addr) (n_7 c_7 : Nat) (O : Hold W h0 m0 h m []) (ne_7 : n_7 = List.length a_7) (k_7 : List.length a_7 ≤ c_7) (r_7 : Rd 4 T_api_Pat.E m A_7 a_7), f53.l0 (tree_patSize.post W h0 m0 r) x_3 A_7 n_7 c_7 x_8 x_9 h
set_option maxRecDepth 100000 in
theorem tree_patSize_k.step_f (go : (p : tree_patSize_k.Pt) → Option (Int)) (ih : ∀ p r, go p = some r → tree_patSize_k.I p r) (y_0 : T_api_Pat) (r : Int) (e : tree_patSize_k.body go (.f y_0) = some r) : tree_patSize_k.I (.f y_0) r := by
  unfold tree_patSize_k.body at e
  intro W h m cs_0 O e_0
  refine f53.run ?_
  unfold f53.runT
  refine O.new fun h1 x2 O3 => ?_
  obtain ⟨A5, c6, q7, k8, r9⟩ := T_api_Pat.g3 e_0
  refine ⟨_, ldk (k := 3) (Sub.refl _) (O3.all 0 rfl) q7, _, _, _, rfl, ?_⟩
  have O10 := O3.nm
  exact (ih _ _ e) _ _ _ _ _ _ _ _ (O10.pick []).nm rfl k8 r9
set_option maxRecDepth 100000 in
theorem tree_patSize_k.step_l0 (go : (p : tree_patSize_k.Pt) → Option (Int)) (ih : ∀ p r, go p = some r → tree_patSize_k.I p r) (x_3 : Int) (a_7 : List T_api_Pat) (x_8 : Int) (x_9 : Int) (r : Int) (e : tree_patSize_k.body go (.l0 x_3 a_7 x_8 x_9) = some r) : tree_patSize_k.I (.l0 x_3 a_7 x_8 x_9) r := by
  unfold tree_patSize_k.body at e
  intro W h0 m0 h m A_7 n_7 c_7 O ne_7 k_7 r_7
  subst ne_7
  refine f53.l0_in ?_
  unfold f53.l0T
  refine split_dec_e e (fun c21 e => ?_) (fun c21 e => ?_)
  · obtain ⟨y1, g2, e⟩ := bind_e e
    refine r_7.addr rfl g2 fun a3 cs4 ha5 hc6 he7 => ?_
    refine ⟨_, ldAn O.s hc6 rfl, ?_⟩
    refine O.new fun h8 x9 O10 => ?_
    refine ⟨_, rfl, (T_api_Pat.T.len _ _ _ he7), ?_⟩
    refine O10.stA 0 rfl (T_api_Pat.T.len _ _ _ he7) (T_api_Pat.T.flat _ _ _ he7) fun h12 O13 => ?_
    refine ⟨_, ldAn (Sub.refl _) (O13.all 0 rfl) (T_api_Pat.T.len _ _ _ he7), ?_⟩
    obtain ⟨y14, g15, e⟩ := bind_e e
    refine ((ih _ _ g15) _ _ _ _ (Hold.start (W := No) O13.s) he7).mono ?_
    rintro _ h16 ⟨m17, Q18, rfl⟩
    have O20 := Hold.nm (O13.retC Q18 vfs_nil)
    refine ⟨_, rfl, ?_⟩
    exact (ih _ _ e) _ _ _ _ _ _ _ _ (O20.pick []).nm rfl k_7 r_7
  · cases e
    exact ⟨_, O.pick [], rfl⟩
theorem tree_patSize_k.all {p : tree_patSize_k.Pt} {r : (Int)} (e : tree_patSize_k.go p = some r) : tree_patSize_k.I p r := fixF_ind (β := fun _ => (Int)) tree_patSize_k.mono (I := tree_patSize_k.I) (fun go ih p r e => match p with
  | .f y_0 => tree_patSize_k.step_f go ih y_0 r e
  | .l0 x_3 a_7 x_8 x_9 => tree_patSize_k.step_l0 go ih x_3 a_7 x_8 x_9 r e
  ) e
theorem tree_patSize.walk {W : Nat → Prop} {h m : Heap} {cs_0 : List Value} {y_0 : T_api_Pat} (O : Hold W h m h m []) (e_0 : T_api_Pat.E m y_0 cs_0) {r : Int} (e : tree_patSize y_0 = some r) : Run Tryd.prog 53 #[Value.agg cs_0.toArray] h (tree_patSize.post W h m r) := tree_patSize_k.all (p := .f y_0) e W h m cs_0 O e_0
def tree_Size.post (W : Nat → Prop) (h0 m0 : Heap) (r : Int) (v : Value) (h : Heap) : Prop := ∃ m , Hold W h0 m0 h m [] ∧ v = .int .i64 r
inductive tree_Size_k.Pt where
  | f (y_0 : T_api_Expr)
  | l0 (y_1 : T_api_Expr) (x_3 : Int) (a_9 : List T_api_Expr) (x_10 : Int) (x_11 : Int)
  | l1 (x_3 : Int) (a_21 : List T_api_Arm) (x_22 : Int) (x_23 : Int)
noncomputable def tree_Size_k.body (go : (p : tree_Size_k.Pt) → Option (Int)) : (p : tree_Size_k.Pt) → Option (Int)
  | .f y_0 => (go (.l0 y_0 (1 : Int) y_0.Args (((List.length y_0.Args) : Nat) : Int) (0 : Int)))
  | .l0 y_1 x_3 a_9 x_10 x_11 => if x_11 < x_10 then (Option.bind (gi a_9 x_11) fun y1 => Option.bind ((go (.f y1))) fun y14 => (go (.l0 y_1 (IntKind.wrap .i64 (x_3 + y14)) a_9 x_10 (IntKind.wrap .i64 (x_11 + (1 : Int)))))) else ((go (.l1 x_3 y_1.Arms (((List.length y_1.Arms) : Nat) : Int) (0 : Int))))
  | .l1 x_3 a_21 x_22 x_23 => if x_23 < x_22 then (Option.bind (gi a_21 x_23) fun y1 => Option.bind ((go (.f y1.Body))) fun y14 => Option.bind (tree_patSize y1.Pat) fun y21 => (go (.l1 (IntKind.wrap .i64 (x_3 + (IntKind.wrap .i64 (y14 + y21)))) a_21 x_22 (IntKind.wrap .i64 (x_23 + (1 : Int)))))) else (some (x_3))
theorem tree_Size_k.mono : MonoF (β := fun _ => (Int)) tree_Size_k.body := fun f g hfg p => match p with
  | .f y_0 => (hfg _)
  | .l0 y_1 x_3 a_9 x_10 x_11 => LeO.ite (LeO.bind (LeO.refl _) fun y1 => LeO.bind ((hfg _)) fun y14 => (hfg _)) ((hfg _))
  | .l1 x_3 a_21 x_22 x_23 => LeO.ite (LeO.bind (LeO.refl _) fun y1 => LeO.bind ((hfg _)) fun y14 => LeO.bind (LeO.refl _) fun y21 => (hfg _)) (LeO.refl _)
noncomputable def tree_Size_k.go (p : tree_Size_k.Pt) : Option (Int) := fixF (β := fun _ => (Int)) tree_Size_k.body p
noncomputable def tree_Size (y_0 : T_api_Expr) : Option (Int) := tree_Size_k.go (.f y_0)
noncomputable def tree_Size.l0 (y_1 : T_api_Expr) (x_3 : Int) (a_9 : List T_api_Expr) (x_10 : Int) (x_11 : Int) : Option (Int) := tree_Size_k.go (.l0 y_1 x_3 a_9 x_10 x_11)
noncomputable def tree_Size.l1 (x_3 : Int) (a_21 : List T_api_Arm) (x_22 : Int) (x_23 : Int) : Option (Int) := tree_Size_k.go (.l1 x_3 a_21 x_22 x_23)
theorem tree_Size_eq (y_0 : T_api_Expr) : tree_Size y_0 = (tree_Size.l0 y_0 (1 : Int) y_0.Args (((List.length y_0.Args) : Nat) : Int) (0 : Int)) := fixF_eq tree_Size_k.mono _
theorem tree_Size.l0_eq (y_1 : T_api_Expr) (x_3 : Int) (a_9 : List T_api_Expr) (x_10 : Int) (x_11 : Int) : tree_Size.l0 y_1 x_3 a_9 x_10 x_11 = if x_11 < x_10 then (Option.bind (gi a_9 x_11) fun y1 => Option.bind ((tree_Size y1)) fun y14 => (tree_Size.l0 y_1 (IntKind.wrap .i64 (x_3 + y14)) a_9 x_10 (IntKind.wrap .i64 (x_11 + (1 : Int))))) else ((tree_Size.l1 x_3 y_1.Arms (((List.length y_1.Arms) : Nat) : Int) (0 : Int))) := fixF_eq tree_Size_k.mono _
theorem tree_Size.l1_eq (x_3 : Int) (a_21 : List T_api_Arm) (x_22 : Int) (x_23 : Int) : tree_Size.l1 x_3 a_21 x_22 x_23 = if x_23 < x_22 then (Option.bind (gi a_21 x_23) fun y1 => Option.bind ((tree_Size y1.Body)) fun y14 => Option.bind (tree_patSize y1.Pat) fun y21 => (tree_Size.l1 (IntKind.wrap .i64 (x_3 + (IntKind.wrap .i64 (y14 + y21)))) a_21 x_22 (IntKind.wrap .i64 (x_23 + (1 : Int))))) else (some (x_3)) := fixF_eq tree_Size_k.mono _
def tree_Size_k.I : (p : tree_Size_k.Pt) → (Int) → Prop
  | .f y_0, r => ∀ (W : Nat → Prop) (h m : Heap) (cs_0 : List Value) (O : Hold W h m h m []) (e_0 : T_api_Expr.E m y_0 cs_0), Run Tryd.prog 15 #[Value.agg cs_0.toArray] h (tree_Size.post W h m r)
  | .l0 y_1 x_3 a_9 x_10 x_11, r => ∀ (W : Nat → Prop) (h0 m0 h m : Heap) (bk_1 : Nat) (cs_1 : List Value) (A_9 : Option Addr) (n_9 c_9 : Nat) (O : Hold W h0 m0 h m [rV bk_1 40 cs_1]) (e_1 : T_api_Expr.E m y_1 cs_1) (ne_9 : n_9 = List.length a_9) (k_9 : List.length a_9 ≤ c_9) (r_9 : Rd 8 T_api_Expr.E m A_9 a_9), f15.l0 (tree_Size.post W h0 m0 r) (⟨bk_1, 0, none⟩ : Addr) x_3 A_9 n_9 c_9 x_10 x_11 h
  | .l1 x_3 a_21 x_22 x_23, r => ∀ (W : Nat → Prop) (h0 m0 h m : Heap) (A_21 : Option Addr) (n_21 c_21 : Nat) (O : Hold W h0 m0 h m []) (ne_21 : n_21 = List.length a_21) (k_21 : List.length a_21 ≤ c_21) (r_21 : Rd 12 T_api_Arm.E m A_21 a_21), f15.l1 (tree_Size.post W h0 m0 r) x_3 A_21 n_21 c_21 x_22 x_23 h
set_option maxRecDepth 100000 in
theorem tree_Size_k.step_f (go : (p : tree_Size_k.Pt) → Option (Int)) (ih : ∀ p r, go p = some r → tree_Size_k.I p r) (y_0 : T_api_Expr) (r : Int) (e : tree_Size_k.body go (.f y_0) = some r) : tree_Size_k.I (.f y_0) r := by
  unfold tree_Size_k.body at e
  intro W h m cs_0 O e_0
  refine f15.run ?_
  unfold f15.runT
  refine O.new fun h1 x2 O3 => ?_
  obtain ⟨A5, c6, q7, k8, r9⟩ := T_api_Expr.g5 e_0
  refine ⟨_, ldk (k := 5) (Sub.refl _) (O3.all 0 rfl) q7, _, _, _, rfl, ?_⟩
  have O10 := O3.nm
  exact (ih _ _ e) _ _ _ _ _ _ _ _ _ _ (O10.pick [0]).nm e_0 rfl k8 r9
set_option maxRecDepth 100000 in
theorem tree_Size_k.step_l0 (go : (p : tree_Size_k.Pt) → Option (Int)) (ih : ∀ p r, go p = some r → tree_Size_k.I p r) (y_1 : T_api_Expr) (x_3 : Int) (a_9 : List T_api_Expr) (x_10 : Int) (x_11 : Int) (r : Int) (e : tree_Size_k.body go (.l0 y_1 x_3 a_9 x_10 x_11) = some r) : tree_Size_k.I (.l0 y_1 x_3 a_9 x_10 x_11) r := by
  unfold tree_Size_k.body at e
  intro W h0 m0 h m bk_1 cs_1 A_9 n_9 c_9 O e_1 ne_9 k_9 r_9
  subst ne_9
  refine f15.l0_in ?_
  unfold f15.l0T
  refine split_dec_e e (fun c26 e => ?_) (fun c26 e => ?_)
  · obtain ⟨y1, g2, e⟩ := bind_e e
    refine r_9.addr rfl g2 fun a3 cs4 ha5 hc6 he7 => ?_
    refine ⟨_, ldAn O.s hc6 rfl, ?_⟩
    refine O.new fun h8 x9 O10 => ?_
    refine ⟨_, rfl, (T_api_Expr.T.len _ _ _ he7), ?_⟩
    refine O10.stA 1 rfl (T_api_Expr.T.len _ _ _ he7) (T_api_Expr.T.flat _ _ _ he7) fun h12 O13 => ?_
    refine ⟨_, ldAn (Sub.refl _) (O13.all 1 rfl) (T_api_Expr.T.len _ _ _ he7), ?_⟩
    obtain ⟨y14, g15, e⟩ := bind_e e
    refine ((ih _ _ g15) _ _ _ _ (Hold.start (W := No) O13.s) he7).mono ?_
    rintro _ h16 ⟨m17, Q18, rfl⟩
    have O20 := Hold.nm (O13.retC Q18 vfs_nil)
    refine ⟨_, rfl, ?_⟩
    exact (ih _ _ e) _ _ _ _ _ _ _ _ _ _ (O20.pick [0]).nm e_1 rfl k_9 r_9
  · obtain ⟨A21, c22, q23, k24, r25⟩ := T_api_Expr.g6 e_1
    refine ⟨_, ldk (k := 6) (Sub.refl _) (O.all 0 rfl) q23, _, _, _, rfl, ?_⟩
    exact (ih _ _ e) _ _ _ _ _ _ _ _ (O.pick []).nm rfl k24 r25
set_option maxRecDepth 100000 in
theorem tree_Size_k.step_l1 (go : (p : tree_Size_k.Pt) → Option (Int)) (ih : ∀ p r, go p = some r → tree_Size_k.I p r) (x_3 : Int) (a_21 : List T_api_Arm) (x_22 : Int) (x_23 : Int) (r : Int) (e : tree_Size_k.body go (.l1 x_3 a_21 x_22 x_23) = some r) : tree_Size_k.I (.l1 x_3 a_21 x_22 x_23) r := by
  unfold tree_Size_k.body at e
  intro W h0 m0 h m A_21 n_21 c_21 O ne_21 k_21 r_21
  subst ne_21
  refine f15.l1_in ?_
  unfold f15.l1T
  refine split_dec_e e (fun c28 e => ?_) (fun c28 e => ?_)
  · obtain ⟨y1, g2, e⟩ := bind_e e
    refine r_21.addr rfl g2 fun a3 cs4 ha5 hc6 he7 => ?_
    refine ⟨_, ldAn O.s hc6 rfl, ?_⟩
    refine O.new fun h8 x9 O10 => ?_
    refine ⟨_, rfl, (T_api_Arm.T.len _ _ _ he7), ?_⟩
    refine O10.stA 0 rfl (T_api_Arm.T.len _ _ _ he7) (T_api_Arm.T.flat _ _ _ he7) fun h12 O13 => ?_
    refine ⟨_, ldAkn (Sub.refl _) (O13.all 0 rfl) 4 8 (le_len (T_api_Arm.T.len _ _ _ he7) (by decide)), ?_⟩
    refine ⟨_, ldA0n (Sub.refl _) (O13.all 0 rfl) 4 (le_len (T_api_Arm.T.len _ _ _ he7) (by decide)), ?_⟩
    obtain ⟨y14, g15, e⟩ := bind_e e
    refine ((ih _ _ g15) _ _ _ _ (Hold.start (W := No) O13.s) (T_api_Arm.u4_40 he7)).mono ?_
    rintro _ h16 ⟨m17, Q18, rfl⟩
    have O20 := Hold.nm (O13.retC Q18 vfs_nil)
    refine ⟨_, rfl, ?_⟩
    refine ⟨Q18.S.ext, ?_⟩
    obtain ⟨y21, g22, e⟩ := bind_e e
    refine (tree_patSize.walk (Hold.start (W := No) O20.s) (T_api_Arm.u0_48 he7) g22).mono ?_
    rintro _ h23 ⟨m24, Q25, rfl⟩
    have O27 := Hold.nm (O20.retC Q25 vfs_nil)
    refine ⟨_, rfl, ?_⟩
    exact (ih _ _ e) _ _ _ _ _ _ _ _ (O27.pick []).nm rfl k_21 r_21
  · cases e
    exact ⟨_, O.pick [], rfl⟩
theorem tree_Size_k.all {p : tree_Size_k.Pt} {r : (Int)} (e : tree_Size_k.go p = some r) : tree_Size_k.I p r := fixF_ind (β := fun _ => (Int)) tree_Size_k.mono (I := tree_Size_k.I) (fun go ih p r e => match p with
  | .f y_0 => tree_Size_k.step_f go ih y_0 r e
  | .l0 y_1 x_3 a_9 x_10 x_11 => tree_Size_k.step_l0 go ih y_1 x_3 a_9 x_10 x_11 r e
  | .l1 x_3 a_21 x_22 x_23 => tree_Size_k.step_l1 go ih x_3 a_21 x_22 x_23 r e
  ) e
theorem tree_Size.walk {W : Nat → Prop} {h m : Heap} {cs_0 : List Value} {y_0 : T_api_Expr} (O : Hold W h m h m []) (e_0 : T_api_Expr.E m y_0 cs_0) {r : Int} (e : tree_Size y_0 = some r) : Run Tryd.prog 15 #[Value.agg cs_0.toArray] h (tree_Size.post W h m r) := tree_Size_k.all (p := .f y_0) e W h m cs_0 O e_0
def tree_patDeep.post (W : Nat → Prop) (h0 m0 : Heap) (r : Int) (v : Value) (h : Heap) : Prop := ∃ m , Hold W h0 m0 h m [] ∧ v = .int .i64 r
inductive tree_patDeep_k.Pt where
  | f (y_0 : T_api_Pat)
  | l0 (x_3 : Int) (a_7 : List T_api_Pat) (x_8 : Int) (x_9 : Int)
noncomputable def tree_patDeep_k.body (go : (p : tree_patDeep_k.Pt) → Option (Int)) : (p : tree_patDeep_k.Pt) → Option (Int)
  | .f y_0 => (go (.l0 (0 : Int) y_0.Args (((List.length y_0.Args) : Nat) : Int) (0 : Int)))
  | .l0 x_3 a_7 x_8 x_9 => if x_9 < x_8 then (Option.bind (gi a_7 x_9) fun y1 => Option.bind ((go (.f y1))) fun y14 => (go (.l0 (if y14 > x_3 then y14 else x_3) a_7 x_8 (IntKind.wrap .i64 (x_9 + (1 : Int)))))) else (some ((IntKind.wrap .i64 (x_3 + (1 : Int)))))
theorem tree_patDeep_k.mono : MonoF (β := fun _ => (Int)) tree_patDeep_k.body := fun f g hfg p => match p with
  | .f y_0 => (hfg _)
  | .l0 x_3 a_7 x_8 x_9 => LeO.ite (LeO.bind (LeO.refl _) fun y1 => LeO.bind ((hfg _)) fun y14 => (hfg _)) (LeO.refl _)
noncomputable def tree_patDeep_k.go (p : tree_patDeep_k.Pt) : Option (Int) := fixF (β := fun _ => (Int)) tree_patDeep_k.body p
noncomputable def tree_patDeep (y_0 : T_api_Pat) : Option (Int) := tree_patDeep_k.go (.f y_0)
noncomputable def tree_patDeep.l0 (x_3 : Int) (a_7 : List T_api_Pat) (x_8 : Int) (x_9 : Int) : Option (Int) := tree_patDeep_k.go (.l0 x_3 a_7 x_8 x_9)
theorem tree_patDeep_eq (y_0 : T_api_Pat) : tree_patDeep y_0 = (tree_patDeep.l0 (0 : Int) y_0.Args (((List.length y_0.Args) : Nat) : Int) (0 : Int)) := fixF_eq tree_patDeep_k.mono _
theorem tree_patDeep.l0_eq (x_3 : Int) (a_7 : List T_api_Pat) (x_8 : Int) (x_9 : Int) : tree_patDeep.l0 x_3 a_7 x_8 x_9 = if x_9 < x_8 then (Option.bind (gi a_7 x_9) fun y1 => Option.bind ((tree_patDeep y1)) fun y14 => (tree_patDeep.l0 (if y14 > x_3 then y14 else x_3) a_7 x_8 (IntKind.wrap .i64 (x_9 + (1 : Int))))) else (some ((IntKind.wrap .i64 (x_3 + (1 : Int))))) := fixF_eq tree_patDeep_k.mono _
def tree_patDeep_k.I : (p : tree_patDeep_k.Pt) → (Int) → Prop
  | .f y_0, r => ∀ (W : Nat → Prop) (h m : Heap) (cs_0 : List Value) (O : Hold W h m h m []) (e_0 : T_api_Pat.E m y_0 cs_0), Run Tryd.prog 54 #[Value.agg cs_0.toArray] h (tree_patDeep.post W h m r)
  | .l0 x_3 a_7 x_8 x_9, r => ∀ (W : Nat → Prop) (h0 m0 h m : Heap) (A_7 : Option Addr) (n_7 c_7 : Nat) (O : Hold W h0 m0 h m []) (ne_7 : n_7 = List.length a_7) (k_7 : List.length a_7 ≤ c_7) (r_7 : Rd 4 T_api_Pat.E m A_7 a_7), f54.l0 (tree_patDeep.post W h0 m0 r) x_3 A_7 n_7 c_7 x_8 x_9 h
set_option maxRecDepth 100000 in
theorem tree_patDeep_k.step_f (go : (p : tree_patDeep_k.Pt) → Option (Int)) (ih : ∀ p r, go p = some r → tree_patDeep_k.I p r) (y_0 : T_api_Pat) (r : Int) (e : tree_patDeep_k.body go (.f y_0) = some r) : tree_patDeep_k.I (.f y_0) r := by
  unfold tree_patDeep_k.body at e
  intro W h m cs_0 O e_0
  refine f54.run ?_
  unfold f54.runT
  refine O.new fun h1 x2 O3 => ?_
  obtain ⟨A5, c6, q7, k8, r9⟩ := T_api_Pat.g3 e_0
  refine ⟨_, ldk (k := 3) (Sub.refl _) (O3.all 0 rfl) q7, _, _, _, rfl, ?_⟩
  have O10 := O3.nm
  exact (ih _ _ e) _ _ _ _ _ _ _ _ (O10.pick []).nm rfl k8 r9
set_option maxRecDepth 100000 in
theorem tree_patDeep_k.step_l0 (go : (p : tree_patDeep_k.Pt) → Option (Int)) (ih : ∀ p r, go p = some r → tree_patDeep_k.I p r) (x_3 : Int) (a_7 : List T_api_Pat) (x_8 : Int) (x_9 : Int) (r : Int) (e : tree_patDeep_k.body go (.l0 x_3 a_7 x_8 x_9) = some r) : tree_patDeep_k.I (.l0 x_3 a_7 x_8 x_9) r := by
  unfold tree_patDeep_k.body at e
  intro W h0 m0 h m A_7 n_7 c_7 O ne_7 k_7 r_7
  subst ne_7
  refine f54.l0_in ?_
  unfold f54.l0T
  refine split_dec_e e (fun c21 e => ?_) (fun c21 e => ?_)
  · obtain ⟨y1, g2, e⟩ := bind_e e
    refine r_7.addr rfl g2 fun a3 cs4 ha5 hc6 he7 => ?_
    refine ⟨_, ldAn O.s hc6 rfl, ?_⟩
    refine O.new fun h8 x9 O10 => ?_
    refine ⟨_, rfl, (T_api_Pat.T.len _ _ _ he7), ?_⟩
    refine O10.stA 0 rfl (T_api_Pat.T.len _ _ _ he7) (T_api_Pat.T.flat _ _ _ he7) fun h12 O13 => ?_
    refine ⟨_, ldAn (Sub.refl _) (O13.all 0 rfl) (T_api_Pat.T.len _ _ _ he7), ?_⟩
    obtain ⟨y14, g15, e⟩ := bind_e e
    refine ((ih _ _ g15) _ _ _ _ (Hold.start (W := No) O13.s) he7).mono ?_
    rintro _ h16 ⟨m17, Q18, rfl⟩
    have O20 := Hold.nm (O13.retC Q18 vfs_nil)
    refine ⟨_, rfl, ?_⟩
    exact (ih _ _ e) _ _ _ _ _ _ _ _ (O20.pick []).nm rfl k_7 r_7
  · cases e
    exact ⟨_, O.pick [], rfl⟩
theorem tree_patDeep_k.all {p : tree_patDeep_k.Pt} {r : (Int)} (e : tree_patDeep_k.go p = some r) : tree_patDeep_k.I p r := fixF_ind (β := fun _ => (Int)) tree_patDeep_k.mono (I := tree_patDeep_k.I) (fun go ih p r e => match p with
  | .f y_0 => tree_patDeep_k.step_f go ih y_0 r e
  | .l0 x_3 a_7 x_8 x_9 => tree_patDeep_k.step_l0 go ih x_3 a_7 x_8 x_9 r e
  ) e
theorem tree_patDeep.walk {W : Nat → Prop} {h m : Heap} {cs_0 : List Value} {y_0 : T_api_Pat} (O : Hold W h m h m []) (e_0 : T_api_Pat.E m y_0 cs_0) {r : Int} (e : tree_patDeep y_0 = some r) : Run Tryd.prog 54 #[Value.agg cs_0.toArray] h (tree_patDeep.post W h m r) := tree_patDeep_k.all (p := .f y_0) e W h m cs_0 O e_0
end Go.Proofs.YtnlocljmalhddabDoor.Fw

end
