/- Part 3: what the law PickTells needs, put together out of texts of this session. -/
import Derived.Test.YthnlhffpmlgmfaaZPickTellsb
section
namespace Go.Proofs.Ythnlhffpmlgmfaa.Fw
open Go Go.Hw Go.Proofs
set_option linter.unusedVariables false
set_option synthInstance.maxHeartbeats 400000
set_option synthInstance.maxSize 1000
structure T_api_Value where
  Kind : Int
  Num : Int
  Text : ByteArray
  Args : (List T_api_Value)
def T_api_Value.E (h : Heap) : T_api_Value → List Value → Prop
  | ⟨f0, f1, f2, f3⟩, cs => ∃ A3 c3, cs = [.int .i64 f0, .int .i64 f1, .string f2, .slice A3 f3.length c3] ∧ f3.length ≤ c3 ∧ (∀ i (hi : i < f3.length), ∃ a ds, A3 = some a ∧ cellsH h (a.add (i * 4)) 0 4 = some ds ∧ T_api_Value.E h f3[i] ds)
  termination_by x => SizeOf.sizeOf x
  decreasing_by
    all_goals
      have h1 := List.sizeOf_lt_of_mem (List.getElem_mem hi)
      first
      | (simp_all; omega)
theorem T_api_Value.iff {h : Heap} {x : T_api_Value} {cs : List Value} : T_api_Value.E h x cs ↔ ∃ A3 c3, cs = [.int .i64 x.Kind, .int .i64 x.Num, .string x.Text, .slice A3 x.Args.length c3] ∧ x.Args.length ≤ c3 ∧ Rd 4 T_api_Value.E h A3 x.Args := by
  cases x
  rw [T_api_Value.E]
  exact Iff.rfl
theorem T_api_Value.mono {m h : Heap} (s : Sub m h) : ∀ (x : T_api_Value) (cs : List Value), T_api_Value.E m x cs → T_api_Value.E h x cs
  | ⟨f0, f1, f2, f3⟩, cs, e => by
    rw [T_api_Value.E] at e ⊢
    obtain ⟨A3, c3, h1, k3, r3⟩ := e
    exact ⟨A3, c3, h1, k3, fun i hi => let ⟨a, ds, h1, h2, h3⟩ := r3 i hi; ⟨a, ds, h1, s.cells _ _ h2, T_api_Value.mono s _ _ h3⟩⟩
  termination_by x => SizeOf.sizeOf x
  decreasing_by
    all_goals
      have h1 := List.sizeOf_lt_of_mem (List.getElem_mem hi)
      first
      | (simp_all; omega)
theorem T_api_Value.T : Tell 4 T_api_Value.E := ⟨fun _ _ x cs s e => T_api_Value.mono s x cs e, by intro h x cs e; obtain ⟨A3, c3, rfl, k3, r3⟩ := T_api_Value.iff.1 e; rfl, by intro h x cs e; obtain ⟨A3, c3, rfl, k3, r3⟩ := T_api_Value.iff.1 e; exact Flats.cons trivial (Flats.cons trivial (Flats.cons trivial (Flats.cons trivial Flats.nil)))⟩
def T_api_Value.Q : T_api_Value → Prop
  | ⟨f0, f1, f2, f3⟩ => (-9223372036854775808 ≤ f0 ∧ f0 ≤ 9223372036854775807) ∧ (-9223372036854775808 ≤ f1 ∧ f1 ≤ 9223372036854775807) ∧ (f2.size ≤ 140737488351232) ∧ (f3.length * 56 ≤ 140737488351232 ∧ ∀ i (hi : i < f3.length), T_api_Value.Q f3[i])
  termination_by x => SizeOf.sizeOf x
  decreasing_by
    all_goals
      have h1 := List.sizeOf_lt_of_mem (List.getElem_mem hi)
      first
      | (simp_all; omega)
theorem T_api_Value.Q_iff {x : T_api_Value} : T_api_Value.Q x ↔ (-9223372036854775808 ≤ x.Kind ∧ x.Kind ≤ 9223372036854775807) ∧ (-9223372036854775808 ≤ x.Num ∧ x.Num ≤ 9223372036854775807) ∧ (x.Text.size ≤ 140737488351232) ∧ (x.Args.length * 56 ≤ 140737488351232 ∧ ∀ a ∈ x.Args, T_api_Value.Q a) := by
  obtain ⟨f0, f1, f2, f3⟩ := x
  rw [T_api_Value.Q]
  show _ ↔ (-9223372036854775808 ≤ f0 ∧ f0 ≤ 9223372036854775807) ∧ (-9223372036854775808 ≤ f1 ∧ f1 ≤ 9223372036854775807) ∧ (f2.size ≤ 140737488351232) ∧ (f3.length * 56 ≤ 140737488351232 ∧ ∀ a ∈ f3, T_api_Value.Q a)
  rw [← forall_get (l := f3) (p := T_api_Value.Q)]
theorem T_api_Value.tells {H : Type} {enc : TypeId × Value → H} {W : World} : Tells enc Try.prog W 50 T_api_Value.E T_api_Value.Q := tells_rec fun N ih => tellsU_map (tellsU_struct (t := 50) (fs := [(3, 0), (3, 1), (9, 2), (48, 3)]) (T := 4) (by kernel_rfl) (by kernel_rfl) (tfU_cons (s := 1) (f := 3) (by kernel_rfl) (Tells.up (tells_i64 (t := 3) (by kernel_rfl))) (tfU_cons (s := 1) (f := 3) (by kernel_rfl) (Tells.up (tells_i64 (t := 3) (by kernel_rfl))) (tfU_cons (s := 1) (f := 9) (by kernel_rfl) (Tells.up (tells_strL (t := 9) (by kernel_rfl))) (tfU_cons (s := 1) (f := 48) (by kernel_rfl) (tellsU_slice (t := 48) (e := 50) (sz := 4) (B := 56) (by kernel_rfl) (by kernel_rfl) (by kernel_rfl) ih) tfU_nil))))) (by
  rintro ⟨x0, x1, x2, x3, ⟨⟩⟩ cs e q
  obtain ⟨c0, r0, rfl, e0, c1, r1, rfl, e1, c2, r2, rfl, e2, c3, r3, rfl, e3, eN⟩ := e
  obtain rfl : c0 = [.int .i64 x0] := e0
  obtain rfl : c1 = [.int .i64 x1] := e1
  obtain rfl : c2 = [.string x2] := e2
  obtain ⟨A3, k3, rfl, l3, R3⟩ := e3
  obtain rfl : r3 = [] := eN
  exact ⟨⟨x0, x1, x2, x3⟩, T_api_Value.iff.2 ⟨_, _, rfl, l3, R3⟩, T_api_Value.Q_iff.2 ⟨q.1, q.2.1, q.2.2.1, q.2.2.2.1⟩⟩)
def T_api_Value.bulk : T_api_Value → Nat
  | ⟨f0, f1, f2, f3⟩ => (1 + (1 + ((f2.size + 1) + (((f3.attach.map fun y => T_api_Value.bulk y.1).sum + 1) + (0))))) + 1
  termination_by x => SizeOf.sizeOf x
  decreasing_by
    all_goals
      have h1 := List.sizeOf_lt_of_mem y.2
      first
      | (simp_all; omega)
theorem T_api_Value.bulk_eq (x : T_api_Value) : T_api_Value.bulk x = (1 + (1 + ((x.Text.size + 1) + (((List.map T_api_Value.bulk x.Args).sum + 1) + (0))))) + 1 := by
  obtain ⟨f0, f1, f2, f3⟩ := x
  rw [T_api_Value.bulk]
  rw [(List.attach_map_val : (f3.attach.map fun i => T_api_Value.bulk i.1) = f3.map T_api_Value.bulk)]
theorem T_api_Value.kt {H : Type} {bk : DataW H → Nat} {enc : TypeId × Value → H} {W : World} {N : Nat} (M : Measure bk) : KT N bk enc Try.prog W 50 T_api_Value.E T_api_Value.bulk := kt_rec (fun N ih => kt_map (kt_struct M (t := 50) (fs := [(3, 0), (3, 1), (9, 2), (48, 3)]) (T := 4) (by kernel_rfl) (by kernel_rfl) (ktf_cons (s := 1) (f := 3) (by kernel_rfl) (tell_int .i64) (kt_one M) (ktf_cons (s := 1) (f := 3) (by kernel_rfl) (tell_int .i64) (kt_one M) (ktf_cons (s := 1) (f := 9) (by kernel_rfl) tell_str (kt_str (t := 9) M (by kernel_rfl)) (ktf_cons (s := 1) (f := 48) (by kernel_rfl) (tell_row T_api_Value.T) (kt_slice M (t := 48) (e := 50) (sz := 4) (by kernel_rfl) (by kernel_rfl) ih) ktf_nil))))) (fun x cs e => by
  obtain ⟨A3, c3, rfl, k3, r3⟩ := T_api_Value.iff.1 e
  exact ⟨(x.Kind, x.Num, x.Text, x.Args, ()), ⟨[.int .i64 x.Kind], _, rfl, rfl, ⟨[.int .i64 x.Num], _, rfl, rfl, ⟨[.string x.Text], _, rfl, rfl, ⟨[.slice A3 x.Args.length c3], _, rfl, ⟨_, _, rfl, k3, r3⟩, rfl⟩⟩⟩⟩, by rw [T_api_Value.bulk_eq]; exact Nat.le_refl _⟩)) N
structure T_api_Pat where
  Kind : Int
  Num : Int
  Text : ByteArray
  Args : (List T_api_Pat)
def T_api_Pat.E (h : Heap) : T_api_Pat → List Value → Prop
  | ⟨f0, f1, f2, f3⟩, cs => ∃ A3 c3, cs = [.int .i64 f0, .int .i64 f1, .string f2, .slice A3 f3.length c3] ∧ f3.length ≤ c3 ∧ (∀ i (hi : i < f3.length), ∃ a ds, A3 = some a ∧ cellsH h (a.add (i * 4)) 0 4 = some ds ∧ T_api_Pat.E h f3[i] ds)
  termination_by x => SizeOf.sizeOf x
  decreasing_by
    all_goals
      have h1 := List.sizeOf_lt_of_mem (List.getElem_mem hi)
      first
      | (simp_all; omega)
theorem T_api_Pat.iff {h : Heap} {x : T_api_Pat} {cs : List Value} : T_api_Pat.E h x cs ↔ ∃ A3 c3, cs = [.int .i64 x.Kind, .int .i64 x.Num, .string x.Text, .slice A3 x.Args.length c3] ∧ x.Args.length ≤ c3 ∧ Rd 4 T_api_Pat.E h A3 x.Args := by
  cases x
  rw [T_api_Pat.E]
  exact Iff.rfl
theorem T_api_Pat.mono {m h : Heap} (s : Sub m h) : ∀ (x : T_api_Pat) (cs : List Value), T_api_Pat.E m x cs → T_api_Pat.E h x cs
  | ⟨f0, f1, f2, f3⟩, cs, e => by
    rw [T_api_Pat.E] at e ⊢
    obtain ⟨A3, c3, h1, k3, r3⟩ := e
    exact ⟨A3, c3, h1, k3, fun i hi => let ⟨a, ds, h1, h2, h3⟩ := r3 i hi; ⟨a, ds, h1, s.cells _ _ h2, T_api_Pat.mono s _ _ h3⟩⟩
  termination_by x => SizeOf.sizeOf x
  decreasing_by
    all_goals
      have h1 := List.sizeOf_lt_of_mem (List.getElem_mem hi)
      first
      | (simp_all; omega)
theorem T_api_Pat.T : Tell 4 T_api_Pat.E := ⟨fun _ _ x cs s e => T_api_Pat.mono s x cs e, by intro h x cs e; obtain ⟨A3, c3, rfl, k3, r3⟩ := T_api_Pat.iff.1 e; rfl, by intro h x cs e; obtain ⟨A3, c3, rfl, k3, r3⟩ := T_api_Pat.iff.1 e; exact Flats.cons trivial (Flats.cons trivial (Flats.cons trivial (Flats.cons trivial Flats.nil)))⟩
def T_api_Pat.Q : T_api_Pat → Prop
  | ⟨f0, f1, f2, f3⟩ => (-9223372036854775808 ≤ f0 ∧ f0 ≤ 9223372036854775807) ∧ (-9223372036854775808 ≤ f1 ∧ f1 ≤ 9223372036854775807) ∧ (f2.size ≤ 140737488351232) ∧ (f3.length * 56 ≤ 140737488351232 ∧ ∀ i (hi : i < f3.length), T_api_Pat.Q f3[i])
  termination_by x => SizeOf.sizeOf x
  decreasing_by
    all_goals
      have h1 := List.sizeOf_lt_of_mem (List.getElem_mem hi)
      first
      | (simp_all; omega)
theorem T_api_Pat.Q_iff {x : T_api_Pat} : T_api_Pat.Q x ↔ (-9223372036854775808 ≤ x.Kind ∧ x.Kind ≤ 9223372036854775807) ∧ (-9223372036854775808 ≤ x.Num ∧ x.Num ≤ 9223372036854775807) ∧ (x.Text.size ≤ 140737488351232) ∧ (x.Args.length * 56 ≤ 140737488351232 ∧ ∀ a ∈ x.Args, T_api_Pat.Q a) := by
  obtain ⟨f0, f1, f2, f3⟩ := x
  rw [T_api_Pat.Q]
  show _ ↔ (-9223372036854775808 ≤ f0 ∧ f0 ≤ 9223372036854775807) ∧ (-9223372036854775808 ≤ f1 ∧ f1 ≤ 9223372036854775807) ∧ (f2.size ≤ 140737488351232) ∧ (f3.length * 56 ≤ 140737488351232 ∧ ∀ a ∈ f3, T_api_Pat.Q a)
  rw [← forall_get (l := f3) (p := T_api_Pat.Q)]
theorem T_api_Pat.tells {H : Type} {enc : TypeId × Value → H} {W : World} : Tells enc Try.prog W 54 T_api_Pat.E T_api_Pat.Q := tells_rec fun N ih => tellsU_map (tellsU_struct (t := 54) (fs := [(3, 0), (3, 1), (9, 2), (47, 3)]) (T := 4) (by kernel_rfl) (by kernel_rfl) (tfU_cons (s := 1) (f := 3) (by kernel_rfl) (Tells.up (tells_i64 (t := 3) (by kernel_rfl))) (tfU_cons (s := 1) (f := 3) (by kernel_rfl) (Tells.up (tells_i64 (t := 3) (by kernel_rfl))) (tfU_cons (s := 1) (f := 9) (by kernel_rfl) (Tells.up (tells_strL (t := 9) (by kernel_rfl))) (tfU_cons (s := 1) (f := 47) (by kernel_rfl) (tellsU_slice (t := 47) (e := 54) (sz := 4) (B := 56) (by kernel_rfl) (by kernel_rfl) (by kernel_rfl) ih) tfU_nil))))) (by
  rintro ⟨x0, x1, x2, x3, ⟨⟩⟩ cs e q
  obtain ⟨c0, r0, rfl, e0, c1, r1, rfl, e1, c2, r2, rfl, e2, c3, r3, rfl, e3, eN⟩ := e
  obtain rfl : c0 = [.int .i64 x0] := e0
  obtain rfl : c1 = [.int .i64 x1] := e1
  obtain rfl : c2 = [.string x2] := e2
  obtain ⟨A3, k3, rfl, l3, R3⟩ := e3
  obtain rfl : r3 = [] := eN
  exact ⟨⟨x0, x1, x2, x3⟩, T_api_Pat.iff.2 ⟨_, _, rfl, l3, R3⟩, T_api_Pat.Q_iff.2 ⟨q.1, q.2.1, q.2.2.1, q.2.2.2.1⟩⟩)
def T_api_Pat.bulk : T_api_Pat → Nat
  | ⟨f0, f1, f2, f3⟩ => (1 + (1 + ((f2.size + 1) + (((f3.attach.map fun y => T_api_Pat.bulk y.1).sum + 1) + (0))))) + 1
  termination_by x => SizeOf.sizeOf x
  decreasing_by
    all_goals
      have h1 := List.sizeOf_lt_of_mem y.2
      first
      | (simp_all; omega)
theorem T_api_Pat.bulk_eq (x : T_api_Pat) : T_api_Pat.bulk x = (1 + (1 + ((x.Text.size + 1) + (((List.map T_api_Pat.bulk x.Args).sum + 1) + (0))))) + 1 := by
  obtain ⟨f0, f1, f2, f3⟩ := x
  rw [T_api_Pat.bulk]
  rw [(List.attach_map_val : (f3.attach.map fun i => T_api_Pat.bulk i.1) = f3.map T_api_Pat.bulk)]
theorem T_api_Pat.kt {H : Type} {bk : DataW H → Nat} {enc : TypeId × Value → H} {W : World} {N : Nat} (M : Measure bk) : KT N bk enc Try.prog W 54 T_api_Pat.E T_api_Pat.bulk := kt_rec (fun N ih => kt_map (kt_struct M (t := 54) (fs := [(3, 0), (3, 1), (9, 2), (47, 3)]) (T := 4) (by kernel_rfl) (by kernel_rfl) (ktf_cons (s := 1) (f := 3) (by kernel_rfl) (tell_int .i64) (kt_one M) (ktf_cons (s := 1) (f := 3) (by kernel_rfl) (tell_int .i64) (kt_one M) (ktf_cons (s := 1) (f := 9) (by kernel_rfl) tell_str (kt_str (t := 9) M (by kernel_rfl)) (ktf_cons (s := 1) (f := 47) (by kernel_rfl) (tell_row T_api_Pat.T) (kt_slice M (t := 47) (e := 54) (sz := 4) (by kernel_rfl) (by kernel_rfl) ih) ktf_nil))))) (fun x cs e => by
  obtain ⟨A3, c3, rfl, k3, r3⟩ := T_api_Pat.iff.1 e
  exact ⟨(x.Kind, x.Num, x.Text, x.Args, ()), ⟨[.int .i64 x.Kind], _, rfl, rfl, ⟨[.int .i64 x.Num], _, rfl, rfl, ⟨[.string x.Text], _, rfl, rfl, ⟨[.slice A3 x.Args.length c3], _, rfl, ⟨_, _, rfl, k3, r3⟩, rfl⟩⟩⟩⟩, by rw [T_api_Pat.bulk_eq]; exact Nat.le_refl _⟩)) N
structure T_api_Letter where
  Kind : Int
  From : Int
  To : Int
  Num : Int
  Text : ByteArray
  Value_ : T_api_Value
def T_api_Letter.E (h : Heap) (x : T_api_Letter) (cs : List Value) : Prop := ∃ A8 c8, cs = [.int .i64 x.Kind, .int .i64 x.From, .int .i64 x.To, .int .i64 x.Num, .string x.Text, .int .i64 x.Value_.Kind, .int .i64 x.Value_.Num, .string x.Value_.Text, .slice A8 x.Value_.Args.length c8] ∧ x.Value_.Args.length ≤ c8 ∧ Rd 4 T_api_Value.E h A8 x.Value_.Args
theorem T_api_Letter.T : Tell 9 T_api_Letter.E := ⟨by rintro m h x _ s ⟨A8, c8, rfl, k8, r8⟩; exact ⟨_, _, rfl, k8, r8.sub T_api_Value.T s⟩, by rintro h x _ ⟨A8, c8, rfl, k8, r8⟩; rfl, by rintro h x _ ⟨A8, c8, rfl, k8, r8⟩; exact Flats.cons trivial (Flats.cons trivial (Flats.cons trivial (Flats.cons trivial (Flats.cons trivial (Flats.cons trivial (Flats.cons trivial (Flats.cons trivial (Flats.cons trivial Flats.nil))))))))⟩
def T_api_Letter.Q (x : T_api_Letter) : Prop := (-9223372036854775808 ≤ x.Kind ∧ x.Kind ≤ 9223372036854775807) ∧ (-9223372036854775808 ≤ x.From ∧ x.From ≤ 9223372036854775807) ∧ (-9223372036854775808 ≤ x.To ∧ x.To ≤ 9223372036854775807) ∧ (-9223372036854775808 ≤ x.Num ∧ x.Num ≤ 9223372036854775807) ∧ (x.Text.size ≤ 140737488351232) ∧ (T_api_Value.Q x.Value_)
theorem T_api_Letter.tells {H : Type} {enc : TypeId × Value → H} {W : World} : Tells enc Try.prog W 59 T_api_Letter.E T_api_Letter.Q := tells_map (tells_struct (t := 59) (fs := [(3, 0), (3, 1), (3, 2), (3, 3), (9, 4), (50, 5)]) (T := 9) (by kernel_rfl) (by kernel_rfl) (tf_cons (s := 1) (f := 3) (by kernel_rfl) (tells_i64 (t := 3) (by kernel_rfl)) (tf_cons (s := 1) (f := 3) (by kernel_rfl) (tells_i64 (t := 3) (by kernel_rfl)) (tf_cons (s := 1) (f := 3) (by kernel_rfl) (tells_i64 (t := 3) (by kernel_rfl)) (tf_cons (s := 1) (f := 3) (by kernel_rfl) (tells_i64 (t := 3) (by kernel_rfl)) (tf_cons (s := 1) (f := 9) (by kernel_rfl) (tells_strL (t := 9) (by kernel_rfl)) (tf_cons (s := 4) (f := 50) (by kernel_rfl) T_api_Value.tells tf_nil))))))) (by
  rintro ⟨x0, x1, x2, x3, x4, x5, ⟨⟩⟩ cs e q
  obtain ⟨c0, r0, rfl, e0, c1, r1, rfl, e1, c2, r2, rfl, e2, c3, r3, rfl, e3, c4, r4, rfl, e4, c5, r5, rfl, e5, eN⟩ := e
  obtain rfl : c0 = [.int .i64 x0] := e0
  obtain rfl : c1 = [.int .i64 x1] := e1
  obtain rfl : c2 = [.int .i64 x2] := e2
  obtain rfl : c3 = [.int .i64 x3] := e3
  obtain rfl : c4 = [.string x4] := e4
  obtain ⟨A5_3, k5_3, rfl, l5_3, R5_3⟩ := T_api_Value.iff.1 e5
  obtain rfl : r5 = [] := eN
  exact ⟨⟨x0, x1, x2, x3, x4, x5⟩, ⟨_, _, rfl, l5_3, R5_3⟩, q.1, q.2.1, q.2.2.1, q.2.2.2.1, q.2.2.2.2.1, q.2.2.2.2.2.1⟩)
def T_api_Letter.bulk (x : T_api_Letter) : Nat := (1 + (1 + (1 + (1 + ((x.Text.size + 1) + ((T_api_Value.bulk x.Value_) + (0))))))) + 1
theorem T_api_Letter.kt {H : Type} {bk : DataW H → Nat} {enc : TypeId × Value → H} {W : World} {N : Nat} (M : Measure bk) : KT N bk enc Try.prog W 59 T_api_Letter.E T_api_Letter.bulk := kt_down (kt_map (kt_struct M (t := 59) (fs := [(3, 0), (3, 1), (3, 2), (3, 3), (9, 4), (50, 5)]) (T := 9) (by kernel_rfl) (by kernel_rfl) (ktf_cons (s := 1) (f := 3) (by kernel_rfl) (tell_int .i64) (kt_one M) (ktf_cons (s := 1) (f := 3) (by kernel_rfl) (tell_int .i64) (kt_one M) (ktf_cons (s := 1) (f := 3) (by kernel_rfl) (tell_int .i64) (kt_one M) (ktf_cons (s := 1) (f := 3) (by kernel_rfl) (tell_int .i64) (kt_one M) (ktf_cons (s := 1) (f := 9) (by kernel_rfl) tell_str (kt_str (t := 9) M (by kernel_rfl)) (ktf_cons (s := 4) (f := 50) (by kernel_rfl) T_api_Value.T (T_api_Value.kt M) ktf_nil))))))) (fun x cs e => by
  obtain ⟨A5_3, c5_3, rfl, k5_3, r5_3⟩ := e
  exact ⟨(x.Kind, x.From, x.To, x.Num, x.Text, x.Value_, ()), ⟨[.int .i64 x.Kind], _, rfl, rfl, ⟨[.int .i64 x.From], _, rfl, rfl, ⟨[.int .i64 x.To], _, rfl, rfl, ⟨[.int .i64 x.Num], _, rfl, rfl, ⟨[.string x.Text], _, rfl, rfl, ⟨[.int .i64 x.Value_.Kind, .int .i64 x.Value_.Num, .string x.Value_.Text, .slice A5_3 x.Value_.Args.length c5_3], _, rfl, T_api_Value.iff.2 ⟨_, _, rfl, k5_3, r5_3⟩, rfl⟩⟩⟩⟩⟩⟩, Nat.le_refl _⟩))
structure T_box_Box where
  Letters : (List T_api_Letter)
  At : Int
def T_box_Box.E (h : Heap) (x : T_box_Box) (cs : List Value) : Prop := ∃ A0 c0, cs = [.slice A0 x.Letters.length c0, .int .i64 x.At] ∧ x.Letters.length ≤ c0 ∧ Rd 9 T_api_Letter.E h A0 x.Letters
theorem T_box_Box.T : Tell 2 T_box_Box.E := ⟨by rintro m h x _ s ⟨A0, c0, rfl, k0, r0⟩; exact ⟨_, _, rfl, k0, r0.sub T_api_Letter.T s⟩, by rintro h x _ ⟨A0, c0, rfl, k0, r0⟩; rfl, by rintro h x _ ⟨A0, c0, rfl, k0, r0⟩; exact Flats.cons trivial (Flats.cons trivial Flats.nil)⟩
def T_box_Box.Q (x : T_box_Box) : Prop := (x.Letters.length * 104 ≤ 140737488351232 ∧ ∀ a ∈ x.Letters, (T_api_Letter.Q a)) ∧ (-9223372036854775808 ≤ x.At ∧ x.At ≤ 9223372036854775807)
theorem T_box_Box.tells {H : Type} {enc : TypeId × Value → H} {W : World} : Tells enc Try.prog W 46 T_box_Box.E T_box_Box.Q := tells_map (tells_struct (t := 46) (fs := [(44, 0), (3, 1)]) (T := 2) (by kernel_rfl) (by kernel_rfl) (tf_cons (s := 1) (f := 44) (by kernel_rfl) (tells_sliceL (t := 44) (e := 59) (sz := 9) (B := 104) (by kernel_rfl) (by kernel_rfl) (by kernel_rfl) T_api_Letter.tells) (tf_cons (s := 1) (f := 3) (by kernel_rfl) (tells_i64 (t := 3) (by kernel_rfl)) tf_nil))) (by
  rintro ⟨x0, x1, ⟨⟩⟩ cs e q
  obtain ⟨c0, r0, rfl, e0, c1, r1, rfl, e1, eN⟩ := e
  obtain ⟨A0, k0, rfl, l0, R0⟩ := e0
  obtain rfl : c1 = [.int .i64 x1] := e1
  obtain rfl : r1 = [] := eN
  exact ⟨⟨x0, x1⟩, ⟨_, _, rfl, l0, R0⟩, q.1, q.2.1⟩)
def T_box_Box.bulk (x : T_box_Box) : Nat := (((List.map T_api_Letter.bulk x.Letters).sum + 1) + (1 + (0))) + 1
theorem T_box_Box.kt {H : Type} {bk : DataW H → Nat} {enc : TypeId × Value → H} {W : World} {N : Nat} (M : Measure bk) : KT N bk enc Try.prog W 46 T_box_Box.E T_box_Box.bulk := kt_down (kt_map (kt_struct M (t := 46) (fs := [(44, 0), (3, 1)]) (T := 2) (by kernel_rfl) (by kernel_rfl) (ktf_cons (s := 1) (f := 44) (by kernel_rfl) (tell_row T_api_Letter.T) (kt_slice M (t := 44) (e := 59) (sz := 9) (by kernel_rfl) (by kernel_rfl) (T_api_Letter.kt M)) (ktf_cons (s := 1) (f := 3) (by kernel_rfl) (tell_int .i64) (kt_one M) ktf_nil))) (fun x cs e => by
  obtain ⟨A0, c0, rfl, k0, r0⟩ := e
  exact ⟨(x.Letters, x.At, ()), ⟨[.slice A0 x.Letters.length c0], _, rfl, ⟨_, _, rfl, k0, r0⟩, ⟨[.int .i64 x.At], _, rfl, rfl, rfl⟩⟩, Nat.le_refl _⟩))
theorem T_api_Value.g3 {m : Heap} {x : T_api_Value} {cs : List Value} (e : T_api_Value.E m x cs) : ∃ A c, cs[3]? = some (.slice A (List.length x.Args) c) ∧ List.length x.Args ≤ c ∧ Rd 4 T_api_Value.E m A x.Args := by
  obtain ⟨A3, c3, rfl, k3, r3⟩ := T_api_Value.iff.1 e
  exact ⟨_, _, rfl, k3, r3⟩
theorem T_api_Pat.g3 {m : Heap} {x : T_api_Pat} {cs : List Value} (e : T_api_Pat.E m x cs) : ∃ A c, cs[3]? = some (.slice A (List.length x.Args) c) ∧ List.length x.Args ≤ c ∧ Rd 4 T_api_Pat.E m A x.Args := by
  obtain ⟨A3, c3, rfl, k3, r3⟩ := T_api_Pat.iff.1 e
  exact ⟨_, _, rfl, k3, r3⟩
theorem T_api_Letter.u5_50 {m : Heap} {x : T_api_Letter} {cs : List Value} (e : T_api_Letter.E m x cs) : T_api_Value.E m x.Value_ (List.take 4 (List.drop 5 cs)) := by
  obtain ⟨A8, c8, rfl, k8, r8⟩ := e
  exact (T_api_Value.iff.2 ⟨_, _, rfl, k8, r8⟩)
theorem T_api_Value.g0 {m : Heap} {x : T_api_Value} {cs : List Value} (e : T_api_Value.E m x cs) : cs[0]? = some (Value.int .i64 x.Kind) := by
  obtain ⟨A3, c3, rfl, k3, r3⟩ := T_api_Value.iff.1 e
  exact rfl
theorem T_api_Value.g2 {m : Heap} {x : T_api_Value} {cs : List Value} (e : T_api_Value.E m x cs) : cs[2]? = some (Value.string x.Text) := by
  obtain ⟨A3, c3, rfl, k3, r3⟩ := T_api_Value.iff.1 e
  exact rfl
theorem T_api_Pat.g2 {m : Heap} {x : T_api_Pat} {cs : List Value} (e : T_api_Pat.E m x cs) : cs[2]? = some (Value.string x.Text) := by
  obtain ⟨A3, c3, rfl, k3, r3⟩ := T_api_Pat.iff.1 e
  exact rfl
theorem T_api_Pat.g0 {m : Heap} {x : T_api_Pat} {cs : List Value} (e : T_api_Pat.E m x cs) : cs[0]? = some (Value.int .i64 x.Kind) := by
  obtain ⟨A3, c3, rfl, k3, r3⟩ := T_api_Pat.iff.1 e
  exact rfl
theorem T_api_Value.g1 {m : Heap} {x : T_api_Value} {cs : List Value} (e : T_api_Value.E m x cs) : cs[1]? = some (Value.int .i64 x.Num) := by
  obtain ⟨A3, c3, rfl, k3, r3⟩ := T_api_Value.iff.1 e
  exact rfl
theorem T_api_Pat.g1 {m : Heap} {x : T_api_Pat} {cs : List Value} (e : T_api_Pat.E m x cs) : cs[1]? = some (Value.int .i64 x.Num) := by
  obtain ⟨A3, c3, rfl, k3, r3⟩ := T_api_Pat.iff.1 e
  exact rfl
theorem T_box_Box.g0 {m : Heap} {x : T_box_Box} {cs : List Value} (e : T_box_Box.E m x cs) : ∃ A c, cs[0]? = some (.slice A (List.length x.Letters) c) ∧ List.length x.Letters ≤ c ∧ Rd 9 T_api_Letter.E m A x.Letters := by
  obtain ⟨A0, c0, rfl, k0, r0⟩ := e
  exact ⟨_, _, rfl, k0, r0⟩
theorem T_box_Box.g1 {m : Heap} {x : T_box_Box} {cs : List Value} (e : T_box_Box.E m x cs) : cs[1]? = some (Value.int .i64 x.At) := by
  obtain ⟨A0, c0, rfl, k0, r0⟩ := e
  exact rfl
theorem T_api_Letter.g0 {m : Heap} {x : T_api_Letter} {cs : List Value} (e : T_api_Letter.E m x cs) : cs[0]? = some (Value.int .i64 x.Kind) := by
  obtain ⟨A8, c8, rfl, k8, r8⟩ := e
  exact rfl
theorem T_api_Letter.g1 {m : Heap} {x : T_api_Letter} {cs : List Value} (e : T_api_Letter.E m x cs) : cs[1]? = some (Value.int .i64 x.From) := by
  obtain ⟨A8, c8, rfl, k8, r8⟩ := e
  exact rfl
theorem T_api_Letter.g3 {m : Heap} {x : T_api_Letter} {cs : List Value} (e : T_api_Letter.E m x cs) : cs[3]? = some (Value.int .i64 x.Num) := by
  obtain ⟨A8, c8, rfl, k8, r8⟩ := e
  exact rfl
theorem T_api_Letter.g2 {m : Heap} {x : T_api_Letter} {cs : List Value} (e : T_api_Letter.E m x cs) : cs[2]? = some (Value.int .i64 x.To) := by
  obtain ⟨A8, c8, rfl, k8, r8⟩ := e
  exact rfl
theorem T_api_Letter.g4 {m : Heap} {x : T_api_Letter} {cs : List Value} (e : T_api_Letter.E m x cs) : cs[4]? = some (Value.string x.Text) := by
  obtain ⟨A8, c8, rfl, k8, r8⟩ := e
  exact rfl
def roadref3_Deep.post (W : Nat → Prop) (h0 m0 : Heap) (r : Int × Int) (v : Value) (h : Heap) : Prop := ∃ m , Hold W h0 m0 h m [] ∧ v = .tuple #[.int .i64 r.1, .int .i64 r.2]
inductive roadref3_Deep_k.Pt where
  | f (y_0 : T_api_Value)
  | l0 (x_4 : Int) (x_5 : Int) (a_11 : List T_api_Value) (x_12 : Int) (x_13 : Int)
noncomputable def roadref3_Deep_k.body (go : (p : roadref3_Deep_k.Pt) → Option (Int × Int)) : (p : roadref3_Deep_k.Pt) → Option (Int × Int)
  | .f y_0 => (go (.l0 (0 : Int) (1 : Int) y_0.Args (((List.length y_0.Args) : Nat) : Int) (0 : Int)))
  | .l0 x_4 x_5 a_11 x_12 x_13 => if x_13 < x_12 then (Option.bind (gi a_11 x_13) fun y1 => Option.bind ((go (.f y1))) fun y14 => (go (.l0 (if y14.1 > x_4 then y14.1 else x_4) (IntKind.wrap .i64 (x_5 + y14.2)) a_11 x_12 (IntKind.wrap .i64 (x_13 + (1 : Int)))))) else (some ((IntKind.wrap .i64 (x_4 + (1 : Int))), x_5))
theorem roadref3_Deep_k.mono : MonoF (β := fun _ => (Int × Int)) roadref3_Deep_k.body := fun f g hfg p => match p with
  | .f y_0 => (hfg _)
  | .l0 x_4 x_5 a_11 x_12 x_13 => LeO.ite (LeO.bind (LeO.refl _) fun y1 => LeO.bind ((hfg _)) fun y14 => (hfg _)) (LeO.refl _)
noncomputable def roadref3_Deep_k.go (p : roadref3_Deep_k.Pt) : Option (Int × Int) := fixF (β := fun _ => (Int × Int)) roadref3_Deep_k.body p
noncomputable def roadref3_Deep (y_0 : T_api_Value) : Option (Int × Int) := roadref3_Deep_k.go (.f y_0)
noncomputable def roadref3_Deep.l0 (x_4 : Int) (x_5 : Int) (a_11 : List T_api_Value) (x_12 : Int) (x_13 : Int) : Option (Int × Int) := roadref3_Deep_k.go (.l0 x_4 x_5 a_11 x_12 x_13)
theorem roadref3_Deep_eq (y_0 : T_api_Value) : roadref3_Deep y_0 = (roadref3_Deep.l0 (0 : Int) (1 : Int) y_0.Args (((List.length y_0.Args) : Nat) : Int) (0 : Int)) := fixF_eq roadref3_Deep_k.mono _
theorem roadref3_Deep.l0_eq (x_4 : Int) (x_5 : Int) (a_11 : List T_api_Value) (x_12 : Int) (x_13 : Int) : roadref3_Deep.l0 x_4 x_5 a_11 x_12 x_13 = if x_13 < x_12 then (Option.bind (gi a_11 x_13) fun y1 => Option.bind ((roadref3_Deep y1)) fun y14 => (roadref3_Deep.l0 (if y14.1 > x_4 then y14.1 else x_4) (IntKind.wrap .i64 (x_5 + y14.2)) a_11 x_12 (IntKind.wrap .i64 (x_13 + (1 : Int))))) else (some ((IntKind.wrap .i64 (x_4 + (1 : Int))), x_5)) := fixF_eq roadref3_Deep_k.mono _
def roadref3_Deep_k.I : (p : roadref3_Deep_k.Pt) → (Int × Int) → Prop
  | .f y_0, r => ∀ (W : Nat → Prop) (h m : Heap) (cs_0 : List Value) (O : Hold W h m h m []) (e_0 : T_api_Value.E m y_0 cs_0), Run Try.prog 80 #[Value.agg cs_0.toArray] h (roadref3_Deep.post W h m r)
  | .l0 x_4 x_5 a_11 x_12 x_13, r => ∀ (W : Nat → Prop) (h0 m0 h m : Heap) (A_11 : Option Addr) (n_11 c_11 : Nat) (O : Hold W h0 m0 h m []) (ne_11 : n_11 = List.length a_11) (k_11 : List.length a_11 ≤ c_11) (r_11 : Rd 4 T_api_Value.E m A_11 a_11), f80.l0 (roadref3_Deep.post W h0 m0 r) x_4 x_5 A_11 n_11 c_11 x_12 x_13 h
set_option maxRecDepth 100000 in
theorem roadref3_Deep_k.step_f (go : (p : roadref3_Deep_k.Pt) → Option (Int × Int)) (ih : ∀ p r, go p = some r → roadref3_Deep_k.I p r) (y_0 : T_api_Value) (r : Int × Int) (e : roadref3_Deep_k.body go (.f y_0) = some r) : roadref3_Deep_k.I (.f y_0) r := by
  unfold roadref3_Deep_k.body at e
  intro W h m cs_0 O e_0
  refine f80.run ?_
  unfold f80.runT
  refine O.new fun h1 x2 O3 => ?_
  obtain ⟨A5, c6, q7, k8, r9⟩ := T_api_Value.g3 e_0
  refine ⟨_, ldk (k := 3) (Sub.refl _) (O3.all 0 rfl) q7, _, _, _, rfl, ?_⟩
  have O10 := O3.nm
  exact (ih _ _ e) _ _ _ _ _ _ _ _ (O10.pick []).nm rfl k8 r9
set_option maxRecDepth 100000 in
theorem roadref3_Deep_k.step_l0 (go : (p : roadref3_Deep_k.Pt) → Option (Int × Int)) (ih : ∀ p r, go p = some r → roadref3_Deep_k.I p r) (x_4 : Int) (x_5 : Int) (a_11 : List T_api_Value) (x_12 : Int) (x_13 : Int) (r : Int × Int) (e : roadref3_Deep_k.body go (.l0 x_4 x_5 a_11 x_12 x_13) = some r) : roadref3_Deep_k.I (.l0 x_4 x_5 a_11 x_12 x_13) r := by
  unfold roadref3_Deep_k.body at e
  intro W h0 m0 h m A_11 n_11 c_11 O ne_11 k_11 r_11
  subst ne_11
  refine f80.l0_in ?_
  unfold f80.l0T
  refine split_dec_e e (fun c21 e => ?_) (fun c21 e => ?_)
  · obtain ⟨y1, g2, e⟩ := bind_e e
    refine r_11.addr rfl g2 fun a3 cs4 ha5 hc6 he7 => ?_
    refine ⟨_, ldAn O.s hc6 rfl, ?_⟩
    refine O.new fun h8 x9 O10 => ?_
    refine ⟨_, rfl, (T_api_Value.T.len _ _ _ he7), ?_⟩
    refine O10.stA 0 rfl (T_api_Value.T.len _ _ _ he7) (T_api_Value.T.flat _ _ _ he7) fun h12 O13 => ?_
    refine ⟨_, ldAn (Sub.refl _) (O13.all 0 rfl) (T_api_Value.T.len _ _ _ he7), ?_⟩
    obtain ⟨y14, g15, e⟩ := bind_e e
    refine ((ih _ _ g15) _ _ _ _ (Hold.start (W := No) O13.s) he7).mono ?_
    rintro _ h16 ⟨m17, Q18, rfl⟩
    have O20 := Hold.nm (O13.retC Q18 vfs_nil)
    refine ⟨_, _, rfl, ?_⟩
    exact (ih _ _ e) _ _ _ _ _ _ _ _ (O20.pick []).nm rfl k_11 r_11
  · cases e
    exact ⟨_, O.pick [], rfl⟩
theorem roadref3_Deep_k.all {p : roadref3_Deep_k.Pt} {r : (Int × Int)} (e : roadref3_Deep_k.go p = some r) : roadref3_Deep_k.I p r := fixF_ind (β := fun _ => (Int × Int)) roadref3_Deep_k.mono (I := roadref3_Deep_k.I) (fun go ih p r e => match p with
  | .f y_0 => roadref3_Deep_k.step_f go ih y_0 r e
  | .l0 x_4 x_5 a_11 x_12 x_13 => roadref3_Deep_k.step_l0 go ih x_4 x_5 a_11 x_12 x_13 r e
  ) e
theorem roadref3_Deep.walk {W : Nat → Prop} {h m : Heap} {cs_0 : List Value} {y_0 : T_api_Value} (O : Hold W h m h m []) (e_0 : T_api_Value.E m y_0 cs_0) {r : Int × Int} (e : roadref3_Deep y_0 = some r) : Run Try.prog 80 #[Value.agg cs_0.toArray] h (roadref3_Deep.post W h m r) := roadref3_Deep_k.all (p := .f y_0) e W h m cs_0 O e_0
def roadlaw3_flat.post (W : Nat → Prop) (h0 m0 : Heap) (r : Bool) (v : Value) (h : Heap) : Prop := ∃ m , Hold W h0 m0 h m [] ∧ v = .bool r
noncomputable def roadlaw3_flat (y_0 : T_api_Value) : Option (Bool) :=
  Option.bind (roadref3_Deep y_0) fun y5 => if y5.1 ≤ (60 : Int) then (some ((decide (y5.2 ≤ (500 : Int))))) else (some (false))
set_option maxRecDepth 100000 in
theorem roadlaw3_flat.walk {W : Nat → Prop} {h m : Heap} {cs_0 : List Value} {y_0 : T_api_Value} (O : Hold W h m h m []) (e_0 : T_api_Value.E m y_0 cs_0) {r : Bool} (e : roadlaw3_flat y_0 = some r) : Run Try.prog 23 #[Value.agg cs_0.toArray] h (roadlaw3_flat.post W h m r) := by
  unfold roadlaw3_flat at e
  refine f23.run ?_
  unfold f23.runT
  refine O.new fun h1 x2 O3 => ?_
  refine ⟨_, ldAn (Sub.refl _) (O3.all 0 rfl) (T_api_Value.T.len _ _ _ e_0), ?_⟩
  obtain ⟨y5, g6, e⟩ := bind_e e
  refine (roadref3_Deep.walk (Hold.start (W := No) O3.s) e_0 g6).mono ?_
  rintro _ h7 ⟨m8, Q9, rfl⟩
  have O11 := Hold.nm (O3.retC Q9 vfs_nil)
  refine ⟨_, _, rfl, ?_⟩
  refine split_dec_e e (fun c12 e => ?_) (fun c12 e => ?_)
  · cases e
    exact ⟨_, O11.pick [], rfl⟩
  · cases e
    exact ⟨_, O11.pick [], rfl⟩
def slices_IndexFunc_81.post (W : Nat → Prop) (h0 m0 : Heap) (r : Int) (v : Value) (h : Heap) : Prop := ∃ m , Hold W h0 m0 h m [] ∧ v = .int .i64 r
inductive slices_IndexFunc_81.l0_k.Pt where
  | l0 (a_0 : List T_api_Pat) (p_1 : T_api_Pat → Option Bool) (x_7 : Int) (x_8 : Int)
noncomputable def slices_IndexFunc_81.l0_k.body (go : (p : slices_IndexFunc_81.l0_k.Pt) → Option (Int)) : (p : slices_IndexFunc_81.l0_k.Pt) → Option (Int)
  | .l0 a_0 p_1 x_7 x_8 => if x_8 < x_7 then (Option.bind (gi a_0 x_8) fun y1 => Option.bind (p_1 y1) fun y8 => if y8 = true then (some (x_8)) else ((go (.l0 a_0 p_1 x_7 (IntKind.wrap .i64 (x_8 + (1 : Int))))))) else (some ((-1 : Int)))
theorem slices_IndexFunc_81.l0_k.mono : MonoF (β := fun _ => (Int)) slices_IndexFunc_81.l0_k.body := fun f g hfg p => match p with
  | .l0 a_0 p_1 x_7 x_8 => LeO.ite (LeO.bind (LeO.refl _) fun y1 => LeO.bind (LeO.refl _) fun y8 => LeO.ite (LeO.refl _) ((hfg _))) (LeO.refl _)
noncomputable def slices_IndexFunc_81.l0_k.go (p : slices_IndexFunc_81.l0_k.Pt) : Option (Int) := fixF (β := fun _ => (Int)) slices_IndexFunc_81.l0_k.body p
noncomputable def slices_IndexFunc_81.l0 (a_0 : List T_api_Pat) (p_1 : T_api_Pat → Option Bool) (x_7 : Int) (x_8 : Int) : Option (Int) := slices_IndexFunc_81.l0_k.go (.l0 a_0 p_1 x_7 x_8)
theorem slices_IndexFunc_81.l0_eq (a_0 : List T_api_Pat) (p_1 : T_api_Pat → Option Bool) (x_7 : Int) (x_8 : Int) : slices_IndexFunc_81.l0 a_0 p_1 x_7 x_8 = if x_8 < x_7 then (Option.bind (gi a_0 x_8) fun y1 => Option.bind (p_1 y1) fun y8 => if y8 = true then (some (x_8)) else ((slices_IndexFunc_81.l0 a_0 p_1 x_7 (IntKind.wrap .i64 (x_8 + (1 : Int)))))) else (some ((-1 : Int))) := fixF_eq slices_IndexFunc_81.l0_k.mono _
def slices_IndexFunc_81.l0_k.I : (p : slices_IndexFunc_81.l0_k.Pt) → (Int) → Prop
  | .l0 a_0 p_1 x_7 x_8, r => ∀ (W : Nat → Prop) (h0 m0 h m : Heap) (A_0 : Option Addr) (n_0 c_0 : Nat) (fv_1 : Value) (O : Hold W h0 m0 h m []) (ne_0 : n_0 = List.length a_0) (k_0 : List.length a_0 ≤ c_0) (r_0 : Rd 4 T_api_Pat.E m A_0 a_0) (f_1 : ∀ h' m', Sub m0 m' → Sub m' h' → ∀ (y0 : T_api_Pat) (cs0 : List Value) (_ : T_api_Pat.E m' y0 cs0) (r : Bool), p_1 y0 = some r → CallF Try.prog fv_1 [.agg cs0.toArray] h' (fun v h'' => v = .bool r ∧ Ext h' h'')), f81.l0 (slices_IndexFunc_81.post W h0 m0 r) A_0 n_0 c_0 fv_1 x_7 x_8 h
set_option maxRecDepth 100000 in
theorem slices_IndexFunc_81.l0_k.step_l0 (go : (p : slices_IndexFunc_81.l0_k.Pt) → Option (Int)) (ih : ∀ p r, go p = some r → slices_IndexFunc_81.l0_k.I p r) (a_0 : List T_api_Pat) (p_1 : T_api_Pat → Option Bool) (x_7 : Int) (x_8 : Int) (r : Int) (e : slices_IndexFunc_81.l0_k.body go (.l0 a_0 p_1 x_7 x_8) = some r) : slices_IndexFunc_81.l0_k.I (.l0 a_0 p_1 x_7 x_8) r := by
  unfold slices_IndexFunc_81.l0_k.body at e
  intro W h0 m0 h m A_0 n_0 c_0 fv_1 O ne_0 k_0 r_0 f_1
  subst ne_0
  refine f81.l0_in ?_
  unfold f81.l0T
  refine split_dec_e e (fun c14 e => ?_) (fun c14 e => ?_)
  · obtain ⟨y1, g2, e⟩ := bind_e e
    refine r_0.addr rfl g2 fun a3 cs4 ha5 hc6 he7 => ?_
    refine ⟨_, ldAn O.s hc6 rfl, ?_⟩
    obtain ⟨y8, g9, e⟩ := bind_e e
    refine CallF.mono (f_1 _ _ O.up O.s _ _ he7 _ g9) ?_
    rintro _ h10 ⟨rfl, x11⟩
    have O12 := O.ext x11
    refine ⟨_, rfl, ?_⟩
    refine split_any_e e (fun c13 e => ?_) (fun c13 e => ?_)
    · cases e
      exact ⟨_, O12.pick [], rfl⟩
    · exact (ih _ _ e) _ _ _ _ _ _ _ _ _ (O12.pick []).nm rfl k_0 r_0 f_1
  · cases e
    exact ⟨_, O.pick [], rfl⟩
theorem slices_IndexFunc_81.l0_k.all {p : slices_IndexFunc_81.l0_k.Pt} {r : (Int)} (e : slices_IndexFunc_81.l0_k.go p = some r) : slices_IndexFunc_81.l0_k.I p r := fixF_ind (β := fun _ => (Int)) slices_IndexFunc_81.l0_k.mono (I := slices_IndexFunc_81.l0_k.I) (fun go ih p r e => match p with
  | .l0 a_0 p_1 x_7 x_8 => slices_IndexFunc_81.l0_k.step_l0 go ih a_0 p_1 x_7 x_8 r e
  ) e
theorem slices_IndexFunc_81.l0.walk {W : Nat → Prop} {h0 m0 h m : Heap} {A_0 : Option Addr} {n_0 c_0 : Nat} {fv_1 : Value} {a_0 : List T_api_Pat} {p_1 : T_api_Pat → Option Bool} {x_7 : Int} {x_8 : Int} (O : Hold W h0 m0 h m []) (ne_0 : n_0 = List.length a_0) (k_0 : List.length a_0 ≤ c_0) (r_0 : Rd 4 T_api_Pat.E m A_0 a_0) (f_1 : ∀ h' m', Sub m0 m' → Sub m' h' → ∀ (y0 : T_api_Pat) (cs0 : List Value) (_ : T_api_Pat.E m' y0 cs0) (r : Bool), p_1 y0 = some r → CallF Try.prog fv_1 [.agg cs0.toArray] h' (fun v h'' => v = .bool r ∧ Ext h' h'')) {r : Int} (e : slices_IndexFunc_81.l0 a_0 p_1 x_7 x_8 = some r) : f81.l0 (slices_IndexFunc_81.post W h0 m0 r) A_0 n_0 c_0 fv_1 x_7 x_8 h := slices_IndexFunc_81.l0_k.all (p := .l0 a_0 p_1 x_7 x_8) e W h0 m0 h m A_0 n_0 c_0 fv_1 O ne_0 k_0 r_0 f_1
noncomputable def slices_IndexFunc_81 (a_0 : List T_api_Pat) (p_1 : T_api_Pat → Option Bool) : Option (Int) :=
  (slices_IndexFunc_81.l0 a_0 p_1 (((List.length a_0) : Nat) : Int) (0 : Int))
set_option maxRecDepth 100000 in
theorem slices_IndexFunc_81.walk {W : Nat → Prop} {h m : Heap} {A_0 : Option Addr} {n_0 c_0 : Nat} {fv_1 : Value} {a_0 : List T_api_Pat} {p_1 : T_api_Pat → Option Bool} (O : Hold W h m h m []) (ne_0 : n_0 = List.length a_0) (k_0 : List.length a_0 ≤ c_0) (r_0 : Rd 4 T_api_Pat.E m A_0 a_0) (f_1 : ∀ h' m', Sub m m' → Sub m' h' → ∀ (y0 : T_api_Pat) (cs0 : List Value) (_ : T_api_Pat.E m' y0 cs0) (r : Bool), p_1 y0 = some r → CallF Try.prog fv_1 [.agg cs0.toArray] h' (fun v h'' => v = .bool r ∧ Ext h' h'')) {r : Int} (e : slices_IndexFunc_81 a_0 p_1 = some r) : Run Try.prog 81 #[Value.slice A_0 n_0 c_0, fv_1] h (slices_IndexFunc_81.post W h m r) := by
  unfold slices_IndexFunc_81 at e
  subst ne_0
  refine f81.run ?_
  unfold f81.runT
  exact slices_IndexFunc_81.l0.walk (O.pick []).nm rfl k_0 r_0 f_1 e
def slices_ContainsFunc_24.post (W : Nat → Prop) (h0 m0 : Heap) (r : Bool) (v : Value) (h : Heap) : Prop := ∃ m , Hold W h0 m0 h m [] ∧ v = .bool r
noncomputable def slices_ContainsFunc_24 (a_0 : List T_api_Pat) (p_1 : T_api_Pat → Option Bool) : Option (Bool) :=
  Option.bind (slices_IndexFunc_81 a_0 p_1) fun y1 => some ((decide (y1 ≥ (0 : Int))))
set_option maxRecDepth 100000 in
theorem slices_ContainsFunc_24.walk {W : Nat → Prop} {h m : Heap} {A_0 : Option Addr} {n_0 c_0 : Nat} {fv_1 : Value} {a_0 : List T_api_Pat} {p_1 : T_api_Pat → Option Bool} (O : Hold W h m h m []) (ne_0 : n_0 = List.length a_0) (k_0 : List.length a_0 ≤ c_0) (r_0 : Rd 4 T_api_Pat.E m A_0 a_0) (f_1 : ∀ h' m', Sub m m' → Sub m' h' → ∀ (y0 : T_api_Pat) (cs0 : List Value) (_ : T_api_Pat.E m' y0 cs0) (r : Bool), p_1 y0 = some r → CallF Try.prog fv_1 [.agg cs0.toArray] h' (fun v h'' => v = .bool r ∧ Ext h' h'')) {r : Bool} (e : slices_ContainsFunc_24 a_0 p_1 = some r) : Run Try.prog 24 #[Value.slice A_0 n_0 c_0, fv_1] h (slices_ContainsFunc_24.post W h m r) := by
  unfold slices_ContainsFunc_24 at e
  subst ne_0
  refine f24.run ?_
  unfold f24.runT
  obtain ⟨y1, g2, e⟩ := bind_e e
  refine (slices_IndexFunc_81.walk (Hold.start (W := No) O.s) rfl k_0 r_0 f_1 g2).mono ?_
  rintro _ h3 ⟨m4, Q5, rfl⟩
  have O7 := Hold.nm (O.retC Q5 vfs_nil)
  refine ⟨_, rfl, ?_⟩
  cases e
  exact ⟨_, O7.pick [], rfl⟩
theorem slices_ContainsFunc_24.val {l : List T_api_Pat} {p : T_api_Pat → Option Bool} (q : T_api_Pat → Bool) (hp : ∀ x ∈ l, p x = some (q x)) (hl : l.length ≤ 4611686018427387904) : slices_ContainsFunc_24 l p = some (l.any q) := findB_val (fun a p n i => slices_IndexFunc_81.l0_eq a p n i) (fun _ _ => rfl) (fun _ _ => rfl) q hp hl
def slices_IndexFunc_81_s2.post (W : Nat → Prop) (h0 m0 : Heap) (r : Int) (v : Value) (h : Heap) : Prop := ∃ m , Hold W h0 m0 h m [] ∧ v = .int .i64 r
def slices_ContainsFunc_24_s1.post (W : Nat → Prop) (h0 m0 : Heap) (r : Bool) (v : Value) (h : Heap) : Prop := ∃ m , Hold W h0 m0 h m [] ∧ v = .bool r
def roadlaw3_pattern_1.post (W : Nat → Prop) (h0 m0 : Heap) (r : Bool) (v : Value) (h : Heap) : Prop := ∃ m , Hold W h0 m0 h m [] ∧ v = .bool r
def roadlaw3_pattern.post (W : Nat → Prop) (h0 m0 : Heap) (r : Bool) (v : Value) (h : Heap) : Prop := ∃ m , Hold W h0 m0 h m [] ∧ v = .bool r
inductive roadlaw3_pattern_k.Pt where
  | f_26 (y_0 : T_api_Pat) (x_1 : Int)
  | j0_26 (y_2 : T_api_Pat) (y_3 : Int)
  | f_82 (y_0 : T_api_Pat) (y_1 : Int)
  | f_1000000 (a_0 : List T_api_Pat) (y_1020 : Int)
  | f_1000001 (a_0 : List T_api_Pat) (y_1020 : Int)
  | l0_1000001 (a_0 : List T_api_Pat) (y_1_0 : Int) (x_7 : Int) (x_8 : Int)
abbrev roadlaw3_pattern_k.R : roadlaw3_pattern_k.Pt → Type
  | .f_26 _ _ => Bool
  | .j0_26 _ _ => Bool
  | .f_82 _ _ => Bool
  | .f_1000000 _ _ => Bool
  | .f_1000001 _ _ => Int
  | .l0_1000001 _ _ _ _ => Int
noncomputable def roadlaw3_pattern_k.body (go : (p : roadlaw3_pattern_k.Pt) → Option (roadlaw3_pattern_k.R p)) : (p : roadlaw3_pattern_k.Pt) → Option (roadlaw3_pattern_k.R p)
  | .f_26 y_0 x_1 => if x_1 < (1 : Int) then (some (false)) else (if (((List.length y_0.Args) : Nat) : Int) > (20 : Int) then (some (false)) else ((go (.j0_26 y_0 x_1))))
  | .j0_26 y_2 y_3 => Option.bind ((go (.f_1000000 y_2.Args y_3))) fun y6 => some ((!y6))
  | .f_82 y_0 y_1 => Option.bind ((go (.f_26 y_0 (IntKind.wrap .i64 (y_1 - (1 : Int)))))) fun y5 => some ((!y5))
  | .f_1000000 a_0 y_1020 => Option.bind ((go (.f_1000001 a_0 y_1020))) fun y1 => some ((decide (y1 ≥ (0 : Int))))
  | .f_1000001 a_0 y_1020 => (go (.l0_1000001 a_0 y_1020 (((List.length a_0) : Nat) : Int) (0 : Int)))
  | .l0_1000001 a_0 y_1_0 x_7 x_8 => if x_8 < x_7 then (Option.bind (gi a_0 x_8) fun y1 => Option.bind ((go (.f_82 y1 y_1_0))) fun y8 => if y8 = true then (some (x_8)) else ((go (.l0_1000001 a_0 y_1_0 x_7 (IntKind.wrap .i64 (x_8 + (1 : Int))))))) else (some ((-1 : Int)))
theorem roadlaw3_pattern_k.mono : MonoF (β := roadlaw3_pattern_k.R) roadlaw3_pattern_k.body := fun f g hfg p => match p with
  | .f_26 y_0 x_1 => LeO.ite (LeO.refl _) (LeO.ite (LeO.refl _) ((hfg _)))
  | .j0_26 y_2 y_3 => LeO.bind ((hfg _)) fun y6 => LeO.refl _
  | .f_82 y_0 y_1 => LeO.bind ((hfg _)) fun y5 => LeO.refl _
  | .f_1000000 a_0 y_1020 => LeO.bind ((hfg _)) fun y1 => LeO.refl _
  | .f_1000001 a_0 y_1020 => (hfg _)
  | .l0_1000001 a_0 y_1_0 x_7 x_8 => LeO.ite (LeO.bind (LeO.refl _) fun y1 => LeO.bind ((hfg _)) fun y8 => LeO.ite (LeO.refl _) ((hfg _))) (LeO.refl _)
noncomputable def roadlaw3_pattern_k.go (p : roadlaw3_pattern_k.Pt) : Option (roadlaw3_pattern_k.R p) := fixF (β := roadlaw3_pattern_k.R) roadlaw3_pattern_k.body p
noncomputable def roadlaw3_pattern (y_0 : T_api_Pat) (x_1 : Int) : Option (Bool) := roadlaw3_pattern_k.go (.f_26 y_0 x_1)
noncomputable def roadlaw3_pattern.j0 (y_2 : T_api_Pat) (y_3 : Int) : Option (Bool) := roadlaw3_pattern_k.go (.j0_26 y_2 y_3)
noncomputable def roadlaw3_pattern_1 (y_0 : T_api_Pat) (y_1 : Int) : Option (Bool) := roadlaw3_pattern_k.go (.f_82 y_0 y_1)
noncomputable def slices_ContainsFunc_24_s1 (a_0 : List T_api_Pat) (y_1020 : Int) : Option (Bool) := roadlaw3_pattern_k.go (.f_1000000 a_0 y_1020)
noncomputable def slices_IndexFunc_81_s2 (a_0 : List T_api_Pat) (y_1020 : Int) : Option (Int) := roadlaw3_pattern_k.go (.f_1000001 a_0 y_1020)
noncomputable def slices_IndexFunc_81_s2.l0 (a_0 : List T_api_Pat) (y_1_0 : Int) (x_7 : Int) (x_8 : Int) : Option (Int) := roadlaw3_pattern_k.go (.l0_1000001 a_0 y_1_0 x_7 x_8)
theorem roadlaw3_pattern_eq (y_0 : T_api_Pat) (x_1 : Int) : roadlaw3_pattern y_0 x_1 = if x_1 < (1 : Int) then (some (false)) else (if (((List.length y_0.Args) : Nat) : Int) > (20 : Int) then (some (false)) else ((roadlaw3_pattern.j0 y_0 x_1))) := fixF_eq roadlaw3_pattern_k.mono _
theorem roadlaw3_pattern.j0_eq (y_2 : T_api_Pat) (y_3 : Int) : roadlaw3_pattern.j0 y_2 y_3 = Option.bind ((slices_ContainsFunc_24_s1 y_2.Args y_3)) fun y6 => some ((!y6)) := fixF_eq roadlaw3_pattern_k.mono _
theorem roadlaw3_pattern_1_eq (y_0 : T_api_Pat) (y_1 : Int) : roadlaw3_pattern_1 y_0 y_1 = Option.bind ((roadlaw3_pattern y_0 (IntKind.wrap .i64 (y_1 - (1 : Int))))) fun y5 => some ((!y5)) := fixF_eq roadlaw3_pattern_k.mono _
theorem slices_ContainsFunc_24_s1_eq (a_0 : List T_api_Pat) (y_1020 : Int) : slices_ContainsFunc_24_s1 a_0 y_1020 = Option.bind ((slices_IndexFunc_81_s2 a_0 y_1020)) fun y1 => some ((decide (y1 ≥ (0 : Int)))) := fixF_eq roadlaw3_pattern_k.mono _
theorem slices_IndexFunc_81_s2_eq (a_0 : List T_api_Pat) (y_1020 : Int) : slices_IndexFunc_81_s2 a_0 y_1020 = (slices_IndexFunc_81_s2.l0 a_0 y_1020 (((List.length a_0) : Nat) : Int) (0 : Int)) := fixF_eq roadlaw3_pattern_k.mono _
theorem slices_IndexFunc_81_s2.l0_eq (a_0 : List T_api_Pat) (y_1_0 : Int) (x_7 : Int) (x_8 : Int) : slices_IndexFunc_81_s2.l0 a_0 y_1_0 x_7 x_8 = if x_8 < x_7 then (Option.bind (gi a_0 x_8) fun y1 => Option.bind ((roadlaw3_pattern_1 y1 y_1_0)) fun y8 => if y8 = true then (some (x_8)) else ((slices_IndexFunc_81_s2.l0 a_0 y_1_0 x_7 (IntKind.wrap .i64 (x_8 + (1 : Int)))))) else (some ((-1 : Int))) := fixF_eq roadlaw3_pattern_k.mono _
def roadlaw3_pattern_k.I : (p : roadlaw3_pattern_k.Pt) → (roadlaw3_pattern_k.R p) → Prop
  | .f_26 y_0 x_1, r => ∀ (W : Nat → Prop) (h m : Heap) (cs_0 : List Value) (O : Hold W h m h m []) (e_0 : T_api_Pat.E m y_0 cs_0), Run Try.prog 26 #[Value.agg cs_0.toArray, Value.int .i64 x_1] h (roadlaw3_pattern.post W h m r)
  | .j0_26 y_2 y_3, r => ∀ (W : Nat → Prop) (h0 m0 h m : Heap) (bk_2 : Nat) (cs_2 : List Value) (bk_3 : Nat) (cs_3 : List Value) (O : Hold W h0 m0 h m [rV bk_2 54 cs_2, rV bk_3 3 cs_3]) (e_2 : T_api_Pat.E m y_2 cs_2) (e_3 : (eInt .i64) m y_3 cs_3), f26.j0 (roadlaw3_pattern.post W h0 m0 r) (⟨bk_2, 0, none⟩ : Addr) (⟨bk_3, 0, none⟩ : Addr) h
  | .f_82 y_0 y_1, r => ∀ (W : Nat → Prop) (h m : Heap) (cs_0 : List Value) (bk_1 : Nat) (O : Hold W h m h m []) (e_0 : T_api_Pat.E m y_0 cs_0) (v_1 : VB (eInt .i64) m bk_1 y_1), Run Try.prog 82 #[Value.agg cs_0.toArray, Value.pointer (some ⟨bk_1, 0, none⟩)] h (roadlaw3_pattern_1.post W h m r)
  | .f_1000000 a_0 y_1020, r => ∀ (W : Nat → Prop) (h m : Heap) (A_0 : Option Addr) (n_0 c_0 : Nat) (bk_1020 : Nat) (O : Hold W h m h m []) (ne_0 : n_0 = List.length a_0) (k_0 : List.length a_0 ≤ c_0) (r_0 : Rd 4 T_api_Pat.E m A_0 a_0) (v_1020 : VB (eInt .i64) m bk_1020 y_1020), Run Try.prog 24 #[Value.slice A_0 n_0 c_0, (Value.func (.func 82) #[] #[(Value.pointer (some ⟨bk_1020, 0, none⟩))])] h (slices_ContainsFunc_24_s1.post W h m r)
  | .f_1000001 a_0 y_1020, r => ∀ (W : Nat → Prop) (h m : Heap) (A_0 : Option Addr) (n_0 c_0 : Nat) (bk_1020 : Nat) (O : Hold W h m h m []) (ne_0 : n_0 = List.length a_0) (k_0 : List.length a_0 ≤ c_0) (r_0 : Rd 4 T_api_Pat.E m A_0 a_0) (v_1020 : VB (eInt .i64) m bk_1020 y_1020), Run Try.prog 81 #[Value.slice A_0 n_0 c_0, (Value.func (.func 82) #[] #[(Value.pointer (some ⟨bk_1020, 0, none⟩))])] h (slices_IndexFunc_81_s2.post W h m r)
  | .l0_1000001 a_0 y_1_0 x_7 x_8, r => ∀ (W : Nat → Prop) (h0 m0 h m : Heap) (A_0 : Option Addr) (n_0 c_0 : Nat) (bk_1_0 : Nat) (O : Hold W h0 m0 h m []) (ne_0 : n_0 = List.length a_0) (k_0 : List.length a_0 ≤ c_0) (r_0 : Rd 4 T_api_Pat.E m A_0 a_0) (v_1_0 : VB (eInt .i64) m bk_1_0 y_1_0), f81.l0 (slices_IndexFunc_81_s2.post W h0 m0 r) A_0 n_0 c_0 (Value.func (.func 82) #[] #[(Value.pointer (some ⟨bk_1_0, 0, none⟩))]) x_7 x_8 h
set_option maxRecDepth 100000 in
theorem roadlaw3_pattern_k.step_f_26 (go : (p : roadlaw3_pattern_k.Pt) → Option (roadlaw3_pattern_k.R p)) (ih : ∀ p r, go p = some r → roadlaw3_pattern_k.I p r) (y_0 : T_api_Pat) (x_1 : Int) (r : Bool) (e : roadlaw3_pattern_k.body go (.f_26 y_0 x_1) = some r) : roadlaw3_pattern_k.I (.f_26 y_0 x_1) r := by
  unfold roadlaw3_pattern_k.body at e
  intro W h m cs_0 O e_0
  refine f26.run ?_
  unfold f26.runT
  refine O.new fun h1 x2 O3 => ?_
  refine O3.new fun h5 x6 O7 => ?_
  refine ⟨_, ld0 (Sub.refl _) (O7.all 1 rfl) rfl, _, rfl, ?_⟩
  refine split_dec_e e (fun c18 e => ?_) (fun c18 e => ?_)
  · have O9 := O7.nm
    cases e
    exact ⟨_, O9.pick [], rfl⟩
  · obtain ⟨A10, c11, q12, k13, r14⟩ := T_api_Pat.g3 e_0
    refine ⟨_, ldk (k := 3) (Sub.refl _) (O7.all 0 rfl) q12, _, _, _, rfl, ?_⟩
    refine split_dec_e e (fun c17 e => ?_) (fun c17 e => ?_)
    · have O15 := O7.nm
      cases e
      exact ⟨_, O15.pick [], rfl⟩
    · have O16 := O7.nm
      exact (ih _ _ e) _ _ _ _ _ _ _ _ _ (O16.pick [0, 1]).nm e_0 rfl
set_option maxRecDepth 100000 in
theorem roadlaw3_pattern_k.step_j0_26 (go : (p : roadlaw3_pattern_k.Pt) → Option (roadlaw3_pattern_k.R p)) (ih : ∀ p r, go p = some r → roadlaw3_pattern_k.I p r) (y_2 : T_api_Pat) (y_3 : Int) (r : Bool) (e : roadlaw3_pattern_k.body go (.j0_26 y_2 y_3) = some r) : roadlaw3_pattern_k.I (.j0_26 y_2 y_3) r := by
  unfold roadlaw3_pattern_k.body at e
  intro W h0 m0 h m bk_2 cs_2 bk_3 cs_3 O e_2 e_3
  obtain rfl : cs_3 = [(Value.int .i64 y_3)] := e_3
  refine f26.j0_in ?_
  unfold f26.j0T
  obtain ⟨A1, c2, q3, k4, r5⟩ := T_api_Pat.g3 e_2
  refine ⟨_, ldk (k := 3) (Sub.refl _) (O.all 0 rfl) q3, _, _, _, rfl, ?_⟩
  obtain ⟨y6, g7, e⟩ := bind_e e
  obtain ⟨m12, u13, s17, ⟨hb16, _⟩, B14, C15⟩ := O.lend0 [1]
  refine ((ih _ _ g7) _ _ _ _ _ _ _ (Hold.start (W := No) s17) rfl k4 (r5.sub T_api_Pat.T u13) ⟨_, _, hb16, nn, rfl⟩).mono ?_
  rintro _ h8 ⟨m9, Q10, rfl⟩
  have O18 := Hold.nm (C15 Q10 vfs_nil)
  refine ⟨_, rfl, ?_⟩
  cases e
  exact ⟨_, O18.pick [], rfl⟩
set_option maxRecDepth 100000 in
theorem roadlaw3_pattern_k.step_f_82 (go : (p : roadlaw3_pattern_k.Pt) → Option (roadlaw3_pattern_k.R p)) (ih : ∀ p r, go p = some r → roadlaw3_pattern_k.I p r) (y_0 : T_api_Pat) (y_1 : Int) (r : Bool) (e : roadlaw3_pattern_k.body go (.f_82 y_0 y_1) = some r) : roadlaw3_pattern_k.I (.f_82 y_0 y_1) r := by
  unfold roadlaw3_pattern_k.body at e
  intro W h m cs_0 bk_1 O e_0 v_1
  obtain ⟨cs_1, t_1, hb_1, nn_1, e_1⟩ := id v_1
  obtain rfl : cs_1 = [(Value.int .i64 y_1)] := e_1
  refine f82.run ?_
  unfold f82.runT
  refine O.new fun h1 x2 O3 => ?_
  refine ⟨_, ldAn (Sub.refl _) (O3.all 0 rfl) (T_api_Pat.T.len _ _ _ e_0), ?_⟩
  refine ⟨_, ld0 O3.s (Blk.all' hb_1) rfl, _, rfl, ?_⟩
  obtain ⟨y5, g6, e⟩ := bind_e e
  refine ((ih _ _ g6) _ _ _ _ (Hold.start (W := No) O3.s) e_0).mono ?_
  rintro _ h7 ⟨m8, Q9, rfl⟩
  have O11 := Hold.nm (O3.retC Q9 vfs_nil)
  refine ⟨_, rfl, ?_⟩
  cases e
  exact ⟨_, O11.pick [], rfl⟩
set_option maxRecDepth 100000 in
theorem roadlaw3_pattern_k.step_f_1000000 (go : (p : roadlaw3_pattern_k.Pt) → Option (roadlaw3_pattern_k.R p)) (ih : ∀ p r, go p = some r → roadlaw3_pattern_k.I p r) (a_0 : List T_api_Pat) (y_1020 : Int) (r : Bool) (e : roadlaw3_pattern_k.body go (.f_1000000 a_0 y_1020) = some r) : roadlaw3_pattern_k.I (.f_1000000 a_0 y_1020) r := by
  unfold roadlaw3_pattern_k.body at e
  intro W h m A_0 n_0 c_0 bk_1020 O ne_0 k_0 r_0 v_1020
  subst ne_0
  obtain ⟨cs_1020, t_1020, hb_1020, nn_1020, e_1020⟩ := id v_1020
  obtain rfl : cs_1020 = [(Value.int .i64 y_1020)] := e_1020
  refine f24.run ?_
  unfold f24.runT
  obtain ⟨y1, g2, e⟩ := bind_e e
  refine ((ih _ _ g2) _ _ _ _ _ _ _ (Hold.start (W := No) O.s) rfl k_0 r_0 v_1020).mono ?_
  rintro _ h3 ⟨m4, Q5, rfl⟩
  have O7 := Hold.nm (O.retC Q5 vfs_nil)
  refine ⟨_, rfl, ?_⟩
  cases e
  exact ⟨_, O7.pick [], rfl⟩
set_option maxRecDepth 100000 in
theorem roadlaw3_pattern_k.step_f_1000001 (go : (p : roadlaw3_pattern_k.Pt) → Option (roadlaw3_pattern_k.R p)) (ih : ∀ p r, go p = some r → roadlaw3_pattern_k.I p r) (a_0 : List T_api_Pat) (y_1020 : Int) (r : Int) (e : roadlaw3_pattern_k.body go (.f_1000001 a_0 y_1020) = some r) : roadlaw3_pattern_k.I (.f_1000001 a_0 y_1020) r := by
  unfold roadlaw3_pattern_k.body at e
  intro W h m A_0 n_0 c_0 bk_1020 O ne_0 k_0 r_0 v_1020
  subst ne_0
  obtain ⟨cs_1020, t_1020, hb_1020, nn_1020, e_1020⟩ := id v_1020
  obtain rfl : cs_1020 = [(Value.int .i64 y_1020)] := e_1020
  refine f81.run ?_
  unfold f81.runT
  exact (ih _ _ e) _ _ _ _ _ _ _ _ _ (O.pick []).nm rfl k_0 r_0 v_1020
set_option maxRecDepth 100000 in
theorem roadlaw3_pattern_k.step_l0_1000001 (go : (p : roadlaw3_pattern_k.Pt) → Option (roadlaw3_pattern_k.R p)) (ih : ∀ p r, go p = some r → roadlaw3_pattern_k.I p r) (a_0 : List T_api_Pat) (y_1_0 : Int) (x_7 : Int) (x_8 : Int) (r : Int) (e : roadlaw3_pattern_k.body go (.l0_1000001 a_0 y_1_0 x_7 x_8) = some r) : roadlaw3_pattern_k.I (.l0_1000001 a_0 y_1_0 x_7 x_8) r := by
  unfold roadlaw3_pattern_k.body at e
  intro W h0 m0 h m A_0 n_0 c_0 bk_1_0 O ne_0 k_0 r_0 v_1_0
  subst ne_0
  obtain ⟨cs_1_0, t_1_0, hb_1_0, nn_1_0, e_1_0⟩ := id v_1_0
  obtain rfl : cs_1_0 = [(Value.int .i64 y_1_0)] := e_1_0
  refine f81.l0_in ?_
  unfold f81.l0T
  refine split_dec_e e (fun c16 e => ?_) (fun c16 e => ?_)
  · obtain ⟨y1, g2, e⟩ := bind_e e
    refine r_0.addr rfl g2 fun a3 cs4 ha5 hc6 he7 => ?_
    refine ⟨_, ldAn O.s hc6 rfl, ?_⟩
    obtain ⟨y8, g9, e⟩ := bind_e e
    refine CallF.of [(Value.agg (List.toArray cs4)), (Value.pointer (some ⟨bk_1_0, 0, none⟩))] f82.ok rfl ?_
    refine ((ih _ _ g9) _ _ _ _ _ (Hold.start (W := No) O.s) he7 v_1_0).mono ?_
    rintro _ h10 ⟨m11, Q12, rfl⟩
    have O14 := Hold.nm (O.retC Q12 vfs_nil)
    refine ⟨_, rfl, ?_⟩
    refine split_any_e e (fun c15 e => ?_) (fun c15 e => ?_)
    · cases e
      exact ⟨_, O14.pick [], rfl⟩
    · exact (ih _ _ e) _ _ _ _ _ _ _ _ _ (O14.pick []).nm rfl k_0 r_0 v_1_0
  · cases e
    exact ⟨_, O.pick [], rfl⟩
theorem roadlaw3_pattern_k.all {p : roadlaw3_pattern_k.Pt} {r : (roadlaw3_pattern_k.R p)} (e : roadlaw3_pattern_k.go p = some r) : roadlaw3_pattern_k.I p r := fixF_ind (β := roadlaw3_pattern_k.R) roadlaw3_pattern_k.mono (I := roadlaw3_pattern_k.I) (fun go ih p r e => match p with
  | .f_26 y_0 x_1 => roadlaw3_pattern_k.step_f_26 go ih y_0 x_1 r e
  | .j0_26 y_2 y_3 => roadlaw3_pattern_k.step_j0_26 go ih y_2 y_3 r e
  | .f_82 y_0 y_1 => roadlaw3_pattern_k.step_f_82 go ih y_0 y_1 r e
  | .f_1000000 a_0 y_1020 => roadlaw3_pattern_k.step_f_1000000 go ih a_0 y_1020 r e
  | .f_1000001 a_0 y_1020 => roadlaw3_pattern_k.step_f_1000001 go ih a_0 y_1020 r e
  | .l0_1000001 a_0 y_1_0 x_7 x_8 => roadlaw3_pattern_k.step_l0_1000001 go ih a_0 y_1_0 x_7 x_8 r e
  ) e
theorem roadlaw3_pattern.walk {W : Nat → Prop} {h m : Heap} {cs_0 : List Value} {y_0 : T_api_Pat} {x_1 : Int} (O : Hold W h m h m []) (e_0 : T_api_Pat.E m y_0 cs_0) {r : Bool} (e : roadlaw3_pattern y_0 x_1 = some r) : Run Try.prog 26 #[Value.agg cs_0.toArray, Value.int .i64 x_1] h (roadlaw3_pattern.post W h m r) := roadlaw3_pattern_k.all (p := .f_26 y_0 x_1) e W h m cs_0 O e_0
def roadlaw3_PickTells_1.post (W : Nat → Prop) (h0 m0 : Heap) (r : Bool) (v : Value) (h : Heap) : Prop := ∃ m , Hold W h0 m0 h m [] ∧ v = .bool r
noncomputable def roadlaw3_PickTells_1 (y_0 : T_api_Pat) : Option (Bool) :=
  Option.bind (roadlaw3_pattern y_0 (60 : Int)) fun y5 => some ((!y5))
set_option maxRecDepth 100000 in
theorem roadlaw3_PickTells_1.walk {W : Nat → Prop} {h m : Heap} {cs_0 : List Value} {y_0 : T_api_Pat} (O : Hold W h m h m []) (e_0 : T_api_Pat.E m y_0 cs_0) {r : Bool} (e : roadlaw3_PickTells_1 y_0 = some r) : Run Try.prog 25 #[Value.agg cs_0.toArray] h (roadlaw3_PickTells_1.post W h m r) := by
  unfold roadlaw3_PickTells_1 at e
  refine f25.run ?_
  unfold f25.runT
  refine O.new fun h1 x2 O3 => ?_
  refine ⟨_, ldAn (Sub.refl _) (O3.all 0 rfl) (T_api_Pat.T.len _ _ _ e_0), ?_⟩
  obtain ⟨y5, g6, e⟩ := bind_e e
  refine (roadlaw3_pattern.walk (Hold.start (W := No) O3.s) e_0 g6).mono ?_
  rintro _ h7 ⟨m8, Q9, rfl⟩
  have O11 := Hold.nm (O3.retC Q9 vfs_nil)
  refine ⟨_, rfl, ?_⟩
  cases e
  exact ⟨_, O11.pick [], rfl⟩
def slices_IndexFunc_83.post (W : Nat → Prop) (h0 m0 : Heap) (r : Int) (v : Value) (h : Heap) : Prop := ∃ m , Hold W h0 m0 h m [] ∧ v = .int .i64 r
inductive slices_IndexFunc_83.l0_k.Pt where
  | l0 (a_0 : List T_api_Letter) (p_1 : T_api_Letter → Option Bool) (x_7 : Int) (x_8 : Int)
noncomputable def slices_IndexFunc_83.l0_k.body (go : (p : slices_IndexFunc_83.l0_k.Pt) → Option (Int)) : (p : slices_IndexFunc_83.l0_k.Pt) → Option (Int)
  | .l0 a_0 p_1 x_7 x_8 => if x_8 < x_7 then (Option.bind (gi a_0 x_8) fun y1 => Option.bind (p_1 y1) fun y8 => if y8 = true then (some (x_8)) else ((go (.l0 a_0 p_1 x_7 (IntKind.wrap .i64 (x_8 + (1 : Int))))))) else (some ((-1 : Int)))
theorem slices_IndexFunc_83.l0_k.mono : MonoF (β := fun _ => (Int)) slices_IndexFunc_83.l0_k.body := fun f g hfg p => match p with
  | .l0 a_0 p_1 x_7 x_8 => LeO.ite (LeO.bind (LeO.refl _) fun y1 => LeO.bind (LeO.refl _) fun y8 => LeO.ite (LeO.refl _) ((hfg _))) (LeO.refl _)
noncomputable def slices_IndexFunc_83.l0_k.go (p : slices_IndexFunc_83.l0_k.Pt) : Option (Int) := fixF (β := fun _ => (Int)) slices_IndexFunc_83.l0_k.body p
noncomputable def slices_IndexFunc_83.l0 (a_0 : List T_api_Letter) (p_1 : T_api_Letter → Option Bool) (x_7 : Int) (x_8 : Int) : Option (Int) := slices_IndexFunc_83.l0_k.go (.l0 a_0 p_1 x_7 x_8)
theorem slices_IndexFunc_83.l0_eq (a_0 : List T_api_Letter) (p_1 : T_api_Letter → Option Bool) (x_7 : Int) (x_8 : Int) : slices_IndexFunc_83.l0 a_0 p_1 x_7 x_8 = if x_8 < x_7 then (Option.bind (gi a_0 x_8) fun y1 => Option.bind (p_1 y1) fun y8 => if y8 = true then (some (x_8)) else ((slices_IndexFunc_83.l0 a_0 p_1 x_7 (IntKind.wrap .i64 (x_8 + (1 : Int)))))) else (some ((-1 : Int))) := fixF_eq slices_IndexFunc_83.l0_k.mono _
def slices_IndexFunc_83.l0_k.I : (p : slices_IndexFunc_83.l0_k.Pt) → (Int) → Prop
  | .l0 a_0 p_1 x_7 x_8, r => ∀ (W : Nat → Prop) (h0 m0 h m : Heap) (A_0 : Option Addr) (n_0 c_0 : Nat) (fv_1 : Value) (O : Hold W h0 m0 h m []) (ne_0 : n_0 = List.length a_0) (k_0 : List.length a_0 ≤ c_0) (r_0 : Rd 9 T_api_Letter.E m A_0 a_0) (f_1 : ∀ h' m', Sub m0 m' → Sub m' h' → ∀ (y0 : T_api_Letter) (cs0 : List Value) (_ : T_api_Letter.E m' y0 cs0) (r : Bool), p_1 y0 = some r → CallF Try.prog fv_1 [.agg cs0.toArray] h' (fun v h'' => v = .bool r ∧ Ext h' h'')), f83.l0 (slices_IndexFunc_83.post W h0 m0 r) A_0 n_0 c_0 fv_1 x_7 x_8 h
set_option maxRecDepth 100000 in
theorem slices_IndexFunc_83.l0_k.step_l0 (go : (p : slices_IndexFunc_83.l0_k.Pt) → Option (Int)) (ih : ∀ p r, go p = some r → slices_IndexFunc_83.l0_k.I p r) (a_0 : List T_api_Letter) (p_1 : T_api_Letter → Option Bool) (x_7 : Int) (x_8 : Int) (r : Int) (e : slices_IndexFunc_83.l0_k.body go (.l0 a_0 p_1 x_7 x_8) = some r) : slices_IndexFunc_83.l0_k.I (.l0 a_0 p_1 x_7 x_8) r := by
  unfold slices_IndexFunc_83.l0_k.body at e
  intro W h0 m0 h m A_0 n_0 c_0 fv_1 O ne_0 k_0 r_0 f_1
  subst ne_0
  refine f83.l0_in ?_
  unfold f83.l0T
  refine split_dec_e e (fun c14 e => ?_) (fun c14 e => ?_)
  · obtain ⟨y1, g2, e⟩ := bind_e e
    refine r_0.addr rfl g2 fun a3 cs4 ha5 hc6 he7 => ?_
    refine ⟨_, ldAn O.s hc6 rfl, ?_⟩
    obtain ⟨y8, g9, e⟩ := bind_e e
    refine CallF.mono (f_1 _ _ O.up O.s _ _ he7 _ g9) ?_
    rintro _ h10 ⟨rfl, x11⟩
    have O12 := O.ext x11
    refine ⟨_, rfl, ?_⟩
    refine split_any_e e (fun c13 e => ?_) (fun c13 e => ?_)
    · cases e
      exact ⟨_, O12.pick [], rfl⟩
    · exact (ih _ _ e) _ _ _ _ _ _ _ _ _ (O12.pick []).nm rfl k_0 r_0 f_1
  · cases e
    exact ⟨_, O.pick [], rfl⟩
theorem slices_IndexFunc_83.l0_k.all {p : slices_IndexFunc_83.l0_k.Pt} {r : (Int)} (e : slices_IndexFunc_83.l0_k.go p = some r) : slices_IndexFunc_83.l0_k.I p r := fixF_ind (β := fun _ => (Int)) slices_IndexFunc_83.l0_k.mono (I := slices_IndexFunc_83.l0_k.I) (fun go ih p r e => match p with
  | .l0 a_0 p_1 x_7 x_8 => slices_IndexFunc_83.l0_k.step_l0 go ih a_0 p_1 x_7 x_8 r e
  ) e
theorem slices_IndexFunc_83.l0.walk {W : Nat → Prop} {h0 m0 h m : Heap} {A_0 : Option Addr} {n_0 c_0 : Nat} {fv_1 : Value} {a_0 : List T_api_Letter} {p_1 : T_api_Letter → Option Bool} {x_7 : Int} {x_8 : Int} (O : Hold W h0 m0 h m []) (ne_0 : n_0 = List.length a_0) (k_0 : List.length a_0 ≤ c_0) (r_0 : Rd 9 T_api_Letter.E m A_0 a_0) (f_1 : ∀ h' m', Sub m0 m' → Sub m' h' → ∀ (y0 : T_api_Letter) (cs0 : List Value) (_ : T_api_Letter.E m' y0 cs0) (r : Bool), p_1 y0 = some r → CallF Try.prog fv_1 [.agg cs0.toArray] h' (fun v h'' => v = .bool r ∧ Ext h' h'')) {r : Int} (e : slices_IndexFunc_83.l0 a_0 p_1 x_7 x_8 = some r) : f83.l0 (slices_IndexFunc_83.post W h0 m0 r) A_0 n_0 c_0 fv_1 x_7 x_8 h := slices_IndexFunc_83.l0_k.all (p := .l0 a_0 p_1 x_7 x_8) e W h0 m0 h m A_0 n_0 c_0 fv_1 O ne_0 k_0 r_0 f_1
noncomputable def slices_IndexFunc_83 (a_0 : List T_api_Letter) (p_1 : T_api_Letter → Option Bool) : Option (Int) :=
  (slices_IndexFunc_83.l0 a_0 p_1 (((List.length a_0) : Nat) : Int) (0 : Int))
set_option maxRecDepth 100000 in
theorem slices_IndexFunc_83.walk {W : Nat → Prop} {h m : Heap} {A_0 : Option Addr} {n_0 c_0 : Nat} {fv_1 : Value} {a_0 : List T_api_Letter} {p_1 : T_api_Letter → Option Bool} (O : Hold W h m h m []) (ne_0 : n_0 = List.length a_0) (k_0 : List.length a_0 ≤ c_0) (r_0 : Rd 9 T_api_Letter.E m A_0 a_0) (f_1 : ∀ h' m', Sub m m' → Sub m' h' → ∀ (y0 : T_api_Letter) (cs0 : List Value) (_ : T_api_Letter.E m' y0 cs0) (r : Bool), p_1 y0 = some r → CallF Try.prog fv_1 [.agg cs0.toArray] h' (fun v h'' => v = .bool r ∧ Ext h' h'')) {r : Int} (e : slices_IndexFunc_83 a_0 p_1 = some r) : Run Try.prog 83 #[Value.slice A_0 n_0 c_0, fv_1] h (slices_IndexFunc_83.post W h m r) := by
  unfold slices_IndexFunc_83 at e
  subst ne_0
  refine f83.run ?_
  unfold f83.runT
  exact slices_IndexFunc_83.l0.walk (O.pick []).nm rfl k_0 r_0 f_1 e
def slices_ContainsFunc_27.post (W : Nat → Prop) (h0 m0 : Heap) (r : Bool) (v : Value) (h : Heap) : Prop := ∃ m , Hold W h0 m0 h m [] ∧ v = .bool r
noncomputable def slices_ContainsFunc_27 (a_0 : List T_api_Letter) (p_1 : T_api_Letter → Option Bool) : Option (Bool) :=
  Option.bind (slices_IndexFunc_83 a_0 p_1) fun y1 => some ((decide (y1 ≥ (0 : Int))))
set_option maxRecDepth 100000 in
theorem slices_ContainsFunc_27.walk {W : Nat → Prop} {h m : Heap} {A_0 : Option Addr} {n_0 c_0 : Nat} {fv_1 : Value} {a_0 : List T_api_Letter} {p_1 : T_api_Letter → Option Bool} (O : Hold W h m h m []) (ne_0 : n_0 = List.length a_0) (k_0 : List.length a_0 ≤ c_0) (r_0 : Rd 9 T_api_Letter.E m A_0 a_0) (f_1 : ∀ h' m', Sub m m' → Sub m' h' → ∀ (y0 : T_api_Letter) (cs0 : List Value) (_ : T_api_Letter.E m' y0 cs0) (r : Bool), p_1 y0 = some r → CallF Try.prog fv_1 [.agg cs0.toArray] h' (fun v h'' => v = .bool r ∧ Ext h' h'')) {r : Bool} (e : slices_ContainsFunc_27 a_0 p_1 = some r) : Run Try.prog 27 #[Value.slice A_0 n_0 c_0, fv_1] h (slices_ContainsFunc_27.post W h m r) := by
  unfold slices_ContainsFunc_27 at e
  subst ne_0
  refine f27.run ?_
  unfold f27.runT
  obtain ⟨y1, g2, e⟩ := bind_e e
  refine (slices_IndexFunc_83.walk (Hold.start (W := No) O.s) rfl k_0 r_0 f_1 g2).mono ?_
  rintro _ h3 ⟨m4, Q5, rfl⟩
  have O7 := Hold.nm (O.retC Q5 vfs_nil)
  refine ⟨_, rfl, ?_⟩
  cases e
  exact ⟨_, O7.pick [], rfl⟩
theorem slices_ContainsFunc_27.val {l : List T_api_Letter} {p : T_api_Letter → Option Bool} (q : T_api_Letter → Bool) (hp : ∀ x ∈ l, p x = some (q x)) (hl : l.length ≤ 4611686018427387904) : slices_ContainsFunc_27 l p = some (l.any q) := findB_val (fun a p n i => slices_IndexFunc_83.l0_eq a p n i) (fun _ _ => rfl) (fun _ _ => rfl) q hp hl
def roadlaw3_PickTells_2.post (W : Nat → Prop) (h0 m0 : Heap) (r : Bool) (v : Value) (h : Heap) : Prop := ∃ m , Hold W h0 m0 h m [] ∧ v = .bool r
noncomputable def roadlaw3_PickTells_2 (y_0 : T_api_Letter) : Option (Bool) :=
  Option.bind (roadlaw3_flat y_0.Value_) fun y5 => some ((!y5))
set_option maxRecDepth 100000 in
theorem roadlaw3_PickTells_2.walk {W : Nat → Prop} {h m : Heap} {cs_0 : List Value} {y_0 : T_api_Letter} (O : Hold W h m h m []) (e_0 : T_api_Letter.E m y_0 cs_0) {r : Bool} (e : roadlaw3_PickTells_2 y_0 = some r) : Run Try.prog 28 #[Value.agg cs_0.toArray] h (roadlaw3_PickTells_2.post W h m r) := by
  unfold roadlaw3_PickTells_2 at e
  refine f28.run ?_
  unfold f28.runT
  refine O.new fun h1 x2 O3 => ?_
  refine ⟨_, ldAkn (Sub.refl _) (O3.all 0 rfl) 5 4 (le_len (T_api_Letter.T.len _ _ _ e_0) (by decide)), ?_⟩
  obtain ⟨y5, g6, e⟩ := bind_e e
  refine (roadlaw3_flat.walk (Hold.start (W := No) O3.s) (T_api_Letter.u5_50 e_0) g6).mono ?_
  rintro _ h7 ⟨m8, Q9, rfl⟩
  have O11 := Hold.nm (O3.retC Q9 vfs_nil)
  refine ⟨_, rfl, ?_⟩
  cases e
  exact ⟨_, O11.pick [], rfl⟩
def slices_Clone_112.post (W : Nat → Prop) (h0 m0 : Heap) (r : (List T_api_Value)) (v : Value) (h : Heap) : Prop := ∃ m A0 n0 c0, Hold W h0 m0 h m [rR (aE T_api_Value.T) A0 c0 r] ∧ v = .slice A0 n0 c0 ∧ n0 = List.length r
noncomputable def slices_Clone_112 (a0 : List T_api_Value) : Option (List T_api_Value) := ap 56 ([] : List T_api_Value) a0
set_option maxRecDepth 100000 in
theorem slices_Clone_112.walk {W : Nat → Prop} {h m : Heap} {A0 : Option Addr} {n0 c0 : Nat} {a0 : List T_api_Value} (O : Hold W h m h m []) (ne0 : n0 = List.length a0) (k0 : List.length a0 ≤ c0) (r0 : Rd 4 T_api_Value.E m A0 a0) {r : List T_api_Value} (e : slices_Clone_112 a0 = some r) : Run Try.prog 112 #[Value.slice A0 n0 c0] h (slices_Clone_112.post W h m r) := by
  unfold slices_Clone_112 at e
  subst ne0
  refine f112.run ?_
  unfold f112.runT
  cases A0 with
  | none =>
    refine split_t ?_
    obtain rfl := Rd.void r0
    obtain rfl : [] = r := by have := (ap_e e).2; simpa using this
    exact ⟨m, none, 0, 0, O.nil (aE T_api_Value.T) none, rfl, rfl⟩
  | some a =>
    refine split_f ?_
    refine O.new fun h1 x1 O1 => ?_
    refine O1.appE0 T_api_Value.T rfl rfl (r0.srcE T_api_Value.T O1.s rfl) (by decide) e fun A4 c4 h4 x4 O4 => ?_
    refine ⟨_, _, _, rfl, ?_⟩
    exact ⟨m, _, _, _, O4.pick [1], rfl, rfl⟩
theorem slices_Clone_112.val (l : List T_api_Value) (h : l.length * 56 ≤ 140737488355328) : slices_Clone_112 l = some l := ap_nil h
def box_Own.post (W : Nat → Prop) (h0 m0 : Heap) (r : T_api_Value) (v : Value) (h : Heap) : Prop := ∃ m cs0, Hold W h0 m0 h m [] ∧ v = .agg cs0.toArray ∧ T_api_Value.E m r cs0
inductive box_Own_k.Pt where
  | f (y_0 : T_api_Value)
  | l0 (x_1_0 : Int) (x_1_1 : Int) (s_1_2 : ByteArray) (a_1_3 : (List T_api_Value)) (y_2 : T_api_Value) (x_11 : Int) (x_12 : Int)
noncomputable def box_Own_k.body (go : (p : box_Own_k.Pt) → Option (T_api_Value)) : (p : box_Own_k.Pt) → Option (T_api_Value)
  | .f y_0 => Option.bind (slices_Clone_112 y_0.Args) fun y14 => (go (.l0 y_0.Kind y_0.Num y_0.Text y14 (T_api_Value.mk (0 : Int) (0 : Int) (ByteArray.mk #[]) ([] : List T_api_Value)) (((List.length y14) : Nat) : Int) (0 : Int)))
  | .l0 x_1_0 x_1_1 s_1_2 a_1_3 y_2 x_11 x_12 => if x_12 < x_11 then (Option.bind (gi a_1_3 x_12) fun y1 => Option.bind ((go (.f y1))) fun y14 => Option.bind (gi a_1_3 x_12) fun y24 => Option.bind (some (List.set a_1_3 (Int.toNat x_12) y14)) fun l33 => (go (.l0 x_1_0 x_1_1 s_1_2 l33 y_2 x_11 (IntKind.wrap .i64 (x_12 + (1 : Int)))))) else (some ((T_api_Value.mk x_1_0 x_1_1 s_1_2 a_1_3)))
theorem box_Own_k.mono : MonoF (β := fun _ => (T_api_Value)) box_Own_k.body := fun f g hfg p => match p with
  | .f y_0 => LeO.bind (LeO.refl _) fun y14 => (hfg _)
  | .l0 x_1_0 x_1_1 s_1_2 a_1_3 y_2 x_11 x_12 => LeO.ite (LeO.bind (LeO.refl _) fun y1 => LeO.bind ((hfg _)) fun y14 => LeO.bind (LeO.refl _) fun y24 => LeO.bind (LeO.refl _) fun l33 => (hfg _)) (LeO.refl _)
noncomputable def box_Own_k.go (p : box_Own_k.Pt) : Option (T_api_Value) := fixF (β := fun _ => (T_api_Value)) box_Own_k.body p
noncomputable def box_Own (y_0 : T_api_Value) : Option (T_api_Value) := box_Own_k.go (.f y_0)
noncomputable def box_Own.l0 (x_1_0 : Int) (x_1_1 : Int) (s_1_2 : ByteArray) (a_1_3 : (List T_api_Value)) (y_2 : T_api_Value) (x_11 : Int) (x_12 : Int) : Option (T_api_Value) := box_Own_k.go (.l0 x_1_0 x_1_1 s_1_2 a_1_3 y_2 x_11 x_12)
theorem box_Own_eq (y_0 : T_api_Value) : box_Own y_0 = Option.bind (slices_Clone_112 y_0.Args) fun y14 => (box_Own.l0 y_0.Kind y_0.Num y_0.Text y14 (T_api_Value.mk (0 : Int) (0 : Int) (ByteArray.mk #[]) ([] : List T_api_Value)) (((List.length y14) : Nat) : Int) (0 : Int)) := fixF_eq box_Own_k.mono _
theorem box_Own.l0_eq (x_1_0 : Int) (x_1_1 : Int) (s_1_2 : ByteArray) (a_1_3 : (List T_api_Value)) (y_2 : T_api_Value) (x_11 : Int) (x_12 : Int) : box_Own.l0 x_1_0 x_1_1 s_1_2 a_1_3 y_2 x_11 x_12 = if x_12 < x_11 then (Option.bind (gi a_1_3 x_12) fun y1 => Option.bind ((box_Own y1)) fun y14 => Option.bind (gi a_1_3 x_12) fun y24 => Option.bind (some (List.set a_1_3 (Int.toNat x_12) y14)) fun l33 => (box_Own.l0 x_1_0 x_1_1 s_1_2 l33 y_2 x_11 (IntKind.wrap .i64 (x_12 + (1 : Int))))) else (some ((T_api_Value.mk x_1_0 x_1_1 s_1_2 a_1_3))) := fixF_eq box_Own_k.mono _
def box_Own_k.I : (p : box_Own_k.Pt) → (T_api_Value) → Prop
  | .f y_0, r => ∀ (W : Nat → Prop) (h m : Heap) (cs_0 : List Value) (O : Hold W h m h m []) (e_0 : T_api_Value.E m y_0 cs_0), Run Try.prog 84 #[Value.agg cs_0.toArray] h (box_Own.post W h m r)
  | .l0 x_1_0 x_1_1 s_1_2 a_1_3 y_2 x_11 x_12, r => ∀ (W : Nat → Prop) (h0 m0 h m : Heap) (bk_1 : Nat) (A_1_3_0 : Option Addr) (n_1_3_0 : Nat) (c_1_3_0 : Nat) (bk_2 : Nat) (cs_2 : List Value) (O : Hold W h0 m0 h m [rV bk_1 50 [(Value.int .i64 x_1_0), (Value.int .i64 x_1_1), (Value.string s_1_2), (Value.slice A_1_3_0 n_1_3_0 c_1_3_0)], rR (aE T_api_Value.T) A_1_3_0 c_1_3_0 a_1_3, rV bk_2 50 cs_2]) (ne_1_3_0 : n_1_3_0 = List.length a_1_3) (e_2 : T_api_Value.E m y_2 cs_2), f84.l0 (box_Own.post W h0 m0 r) (⟨bk_1, 0, none⟩ : Addr) (⟨bk_2, 0, none⟩ : Addr) A_1_3_0 n_1_3_0 c_1_3_0 x_11 x_12 h
set_option maxRecDepth 100000 in
theorem box_Own_k.step_f (go : (p : box_Own_k.Pt) → Option (T_api_Value)) (ih : ∀ p r, go p = some r → box_Own_k.I p r) (y_0 : T_api_Value) (r : T_api_Value) (e : box_Own_k.body go (.f y_0) = some r) : box_Own_k.I (.f y_0) r := by
  unfold box_Own_k.body at e
  intro W h m cs_0 O e_0
  refine f84.run ?_
  unfold f84.runT
  refine O.new fun h1 x2 O3 => ?_
  refine O3.new fun h5 x6 O7 => ?_
  obtain ⟨A9, c10, q11, k12, r13⟩ := T_api_Value.g3 e_0
  refine ⟨_, ldk (k := 3) (Sub.refl _) (O7.all 0 rfl) q11, _, _, _, rfl, ?_⟩
  obtain ⟨y14, g15, e⟩ := bind_e e
  refine (slices_Clone_112.walk (Hold.start (W := No) O7.s) rfl k12 r13 g15).mono ?_
  rintro _ h16 ⟨m17, A20, n21, c22, Q18, rfl, ne23⟩
  have O25 := Hold.nm (O7.ret Q18)
  subst ne23
  refine ⟨_, _, _, rfl, ?_⟩
  obtain ⟨Ae28_3, ce28_3, rfl, ke28_3, re28_3⟩ := T_api_Value.iff.1 e_0
  refine O25.st 0 rfl 3 (Nat.le_of_ble_eq_true rfl) trivial fun h29 O30 => ?_
  refine ⟨_, ldk (k := 3) (Sub.refl _) (O30.all 0 rfl) rfl, _, _, _, rfl, ?_⟩
  have O31 := O30.nm
  exact (ih _ _ e) _ _ _ _ _ _ _ _ _ _ _ (O31.pick [0, 2, 1]).nm rfl (T_api_Value.iff.2 ⟨_, _, rfl, (by exact Nat.le_refl 0), Rd.nil⟩)
set_option maxHeartbeats 4000000 in
set_option maxRecDepth 100000 in
theorem box_Own_k.step_l0 (go : (p : box_Own_k.Pt) → Option (T_api_Value)) (ih : ∀ p r, go p = some r → box_Own_k.I p r) (x_1_0 : Int) (x_1_1 : Int) (s_1_2 : ByteArray) (a_1_3 : (List T_api_Value)) (y_2 : T_api_Value) (x_11 : Int) (x_12 : Int) (r : T_api_Value) (e : box_Own_k.body go (.l0 x_1_0 x_1_1 s_1_2 a_1_3 y_2 x_11 x_12) = some r) : box_Own_k.I (.l0 x_1_0 x_1_1 s_1_2 a_1_3 y_2 x_11 x_12) r := by
  unfold box_Own_k.body at e
  intro W h0 m0 h m bk_1 A_1_3_0 n_1_3_0 c_1_3_0 bk_2 cs_2 O ne_1_3_0 e_2
  subst ne_1_3_0
  refine f84.l0_in ?_
  unfold f84.l0T
  refine split_dec_e e (fun c88 e => ?_) (fun c88 e => ?_)
  · obtain ⟨y1, g2, e⟩ := bind_e e
    refine (O.os 1 rfl).addr rfl g2 fun a3 cs4 ha5 hc6 he7 => ?_
    refine ⟨_, ldAn (Sub.refl _) hc6 rfl, ?_⟩
    refine O.new fun h8 x9 O10 => ?_
    refine ⟨_, rfl, (T_api_Value.T.len _ _ _ he7), ?_⟩
    refine O10.stA 3 rfl (T_api_Value.T.len _ _ _ he7) (T_api_Value.T.flat _ _ _ he7) fun h12 O13 => ?_
    obtain ⟨y14, g15, e⟩ := bind_e e
    obtain ⟨y24, g25, e⟩ := bind_e e
    obtain ⟨l33, g34, e⟩ := bind_e e
    refine ⟨_, ldAn (Sub.refl _) (O13.all 3 rfl) (T_api_Value.T.len _ _ _ he7), ?_⟩
    refine ⟨?_, ?_⟩
    · refine ⟨_, ldk (k := 3) (Sub.refl _) (O13.all 0 rfl) rfl, _, _, _, rfl, ?_⟩
      refine ⟨Ext.refl _, ?_⟩
      refine ((ih _ _ g15) _ _ _ _ (Hold.start (W := No) O13.s) he7).mono ?_
      rintro _ h38 ⟨m39, cs43, Q40, rfl, he44⟩
      have O45 := Hold.nm (O13.ret Q40)
      refine (O45.os 1 rfl).addr rfl g25 fun a48 cs49 ha50 hc51 he52 => ?_
      replace g34 := Option.some.inj g34
      refine ⟨_, rfl, (T_api_Value.T.len _ _ _ he44), ?_⟩
      refine O45.elstA 1 rfl g25 ha50 hc51 (y' := y14) he44 (T_api_Value.T.flat _ _ _ he44) g34 fun h53 O54 => ?_
      have O57 := O54.nm
      exact (ih _ _ e) _ _ _ _ _ _ _ _ _ _ _ (O57.pick [0, 1, 2]).nm (lset' g34) (T_api_Value.T.mono _ _ _ _ Q40.S.up e_2)
    · refine ((ih _ _ g15) _ _ _ _ (Hold.start (W := No) O13.s) he7).mono ?_
      rintro _ h60 ⟨m61, cs65, Q62, rfl, he66⟩
      have O67 := Hold.nm (O13.ret Q62)
      refine ⟨_, ldk (k := 3) (Sub.refl _) (O67.all 0 rfl) rfl, _, _, _, rfl, ?_⟩
      refine ⟨Ext.refl _, ?_⟩
      refine (O67.os 1 rfl).addr rfl g25 fun a70 cs71 ha72 hc73 he74 => ?_
      replace g34 := Option.some.inj g34
      refine ⟨_, rfl, (T_api_Value.T.len _ _ _ he66), ?_⟩
      refine O67.elstA 1 rfl g25 ha72 hc73 (y' := y14) he66 (T_api_Value.T.flat _ _ _ he66) g34 fun h75 O76 => ?_
      have O79 := O76.nm
      exact (ih _ _ e) _ _ _ _ _ _ _ _ _ _ _ (O79.pick [0, 1, 2]).nm (lset' g34) (T_api_Value.T.mono _ _ _ _ Q62.S.up e_2)
  · refine ⟨_, ldAn (Sub.refl _) (O.all 0 rfl) rfl, ?_⟩
    refine ⟨_, rfl, rfl, ?_⟩
    refine O.stA 2 rfl ((T_api_Value.T.len _ _ _ e_2)).symm (Flats.cons trivial (Flats.cons trivial (Flats.cons trivial (Flats.cons trivial Flats.nil)))) fun h80 O81 => ?_
    refine ⟨_, ldAn (Sub.refl _) (O81.all 2 rfl) rfl, ?_⟩
    obtain ⟨m82, u83, ⟨r84, k85⟩, O86⟩ := O81.frz 1 rfl
    replace r84 : Rd 4 T_api_Value.E m82 A_1_3_0 a_1_3 := r84
    have O87 := O86.nm
    cases e
    exact ⟨_, _, O87.pick [], rfl, (T_api_Value.iff.2 ⟨_, _, rfl, k85, r84⟩)⟩
theorem box_Own_k.all {p : box_Own_k.Pt} {r : (T_api_Value)} (e : box_Own_k.go p = some r) : box_Own_k.I p r := fixF_ind (β := fun _ => (T_api_Value)) box_Own_k.mono (I := box_Own_k.I) (fun go ih p r e => match p with
  | .f y_0 => box_Own_k.step_f go ih y_0 r e
  | .l0 x_1_0 x_1_1 s_1_2 a_1_3 y_2 x_11 x_12 => box_Own_k.step_l0 go ih x_1_0 x_1_1 s_1_2 a_1_3 y_2 x_11 x_12 r e
  ) e
theorem box_Own.walk {W : Nat → Prop} {h m : Heap} {cs_0 : List Value} {y_0 : T_api_Value} (O : Hold W h m h m []) (e_0 : T_api_Value.E m y_0 cs_0) {r : T_api_Value} (e : box_Own y_0 = some r) : Run Try.prog 84 #[Value.agg cs_0.toArray] h (box_Own.post W h m r) := box_Own_k.all (p := .f y_0) e W h m cs_0 O e_0
def pick_parts.post (W : Nat → Prop) (h0 m0 : Heap) (r : (List T_api_Value) × Bool) (v : Value) (h : Heap) : Prop := ∃ m A0 n0 c0, Hold W h0 m0 h m [rR (aE T_api_Value.T) A0 c0 r.1] ∧ v = .tuple #[.slice A0 n0 c0, .bool r.2] ∧ n0 = List.length r.1
def pick_Fits.post (W : Nat → Prop) (h0 m0 : Heap) (r : (List T_api_Value) × Bool) (v : Value) (h : Heap) : Prop := ∃ m A0 n0 c0, Hold W h0 m0 h m [rR (aE T_api_Value.T) A0 c0 r.1] ∧ v = .tuple #[.slice A0 n0 c0, .bool r.2] ∧ n0 = List.length r.1
inductive pick_Fits_k.Pt where
  | f_29 (y_0 : T_api_Pat) (y_1 : T_api_Value)
  | f_85 (y_0 : T_api_Pat) (y_1 : T_api_Value)
  | j1_85 (y_2 : T_api_Pat) (y_3 : T_api_Value) (b_29 : Bool)
  | j0_85 (y_2 : T_api_Pat) (y_3 : T_api_Value)
  | l0_85 (y_3 : T_api_Value) (a_6 : List T_api_Value) (a_31 : List T_api_Pat) (x_32 : Int) (x_33 : Int)
noncomputable def pick_Fits_k.body (go : (p : pick_Fits_k.Pt) → Option ((List T_api_Value) × Bool)) : (p : pick_Fits_k.Pt) → Option ((List T_api_Value) × Bool)
  | .f_29 y_0 y_1 => if y_0.Kind = (1 : Int) then (some (([] : List T_api_Value), true)) else (if y_0.Kind = (2 : Int) then (Option.bind (box_Own y_1) fun y12 => some (([y12] : List T_api_Value), true)) else (if y_0.Kind = (3 : Int) then (if y_1.Kind = (2 : Int) then (some (([] : List T_api_Value), (y_1.Num == y_0.Num))) else (some (([] : List T_api_Value), false))) else (if y_0.Kind = (4 : Int) then (if y_1.Kind = (3 : Int) then (some (([] : List T_api_Value), (y_1.Num == y_0.Num))) else (some (([] : List T_api_Value), false))) else (if y_0.Kind = (5 : Int) then (if y_1.Kind = (4 : Int) then (some (([] : List T_api_Value), (decide (y_1.Text = y_0.Text)))) else (some (([] : List T_api_Value), false))) else (if y_0.Kind = (6 : Int) then (Option.bind ((go (.f_85 y_0 y_1))) fun y50 => some (y50.1, y50.2)) else (some (([] : List T_api_Value), false)))))))
  | .f_85 y_0 y_1 => if y_1.Kind = (5 : Int) then (if y_1.Text = y_0.Text then ((go (.j1_85 y_0 y_1 ((((List.length y_1.Args) : Nat) : Int) != (((List.length y_0.Args) : Nat) : Int))))) else ((go (.j1_85 y_0 y_1 true)))) else ((go (.j1_85 y_0 y_1 true)))
  | .j1_85 y_2 y_3 b_29 => if b_29 = true then (some (([] : List T_api_Value), false)) else ((go (.j0_85 y_2 y_3)))
  | .j0_85 y_2 y_3 => (go (.l0_85 y_3 ([] : List T_api_Value) y_2.Args (((List.length y_2.Args) : Nat) : Int) (0 : Int)))
  | .l0_85 y_3 a_6 a_31 x_32 x_33 => if x_33 < x_32 then (Option.bind (gi a_31 x_33) fun y1 => Option.bind (gi y_3.Args x_33) fun y19 => Option.bind ((go (.f_29 y1 y19))) fun y26 => if y26.2 = true then (Option.bind (ap 56 a_6 y26.1) fun l38 => (go (.l0_85 y_3 l38 a_31 x_32 (IntKind.wrap .i64 (x_33 + (1 : Int)))))) else (some (([] : List T_api_Value), false))) else (some (a_6, true))
theorem pick_Fits_k.mono : MonoF (β := fun _ => ((List T_api_Value) × Bool)) pick_Fits_k.body := fun f g hfg p => match p with
  | .f_29 y_0 y_1 => LeO.ite (LeO.refl _) (LeO.ite (LeO.bind (LeO.refl _) fun y12 => LeO.refl _) (LeO.ite (LeO.ite (LeO.refl _) (LeO.refl _)) (LeO.ite (LeO.ite (LeO.refl _) (LeO.refl _)) (LeO.ite (LeO.ite (LeO.refl _) (LeO.refl _)) (LeO.ite (LeO.bind ((hfg _)) fun y50 => LeO.refl _) (LeO.refl _))))))
  | .f_85 y_0 y_1 => LeO.ite (LeO.ite ((hfg _)) ((hfg _))) ((hfg _))
  | .j1_85 y_2 y_3 b_29 => LeO.ite (LeO.refl _) ((hfg _))
  | .j0_85 y_2 y_3 => (hfg _)
  | .l0_85 y_3 a_6 a_31 x_32 x_33 => LeO.ite (LeO.bind (LeO.refl _) fun y1 => LeO.bind (LeO.refl _) fun y19 => LeO.bind ((hfg _)) fun y26 => LeO.ite (LeO.bind (LeO.refl _) fun l38 => (hfg _)) (LeO.refl _)) (LeO.refl _)
noncomputable def pick_Fits_k.go (p : pick_Fits_k.Pt) : Option ((List T_api_Value) × Bool) := fixF (β := fun _ => ((List T_api_Value) × Bool)) pick_Fits_k.body p
noncomputable def pick_Fits (y_0 : T_api_Pat) (y_1 : T_api_Value) : Option ((List T_api_Value) × Bool) := pick_Fits_k.go (.f_29 y_0 y_1)
noncomputable def pick_parts (y_0 : T_api_Pat) (y_1 : T_api_Value) : Option ((List T_api_Value) × Bool) := pick_Fits_k.go (.f_85 y_0 y_1)
noncomputable def pick_parts.j1 (y_2 : T_api_Pat) (y_3 : T_api_Value) (b_29 : Bool) : Option ((List T_api_Value) × Bool) := pick_Fits_k.go (.j1_85 y_2 y_3 b_29)
noncomputable def pick_parts.j0 (y_2 : T_api_Pat) (y_3 : T_api_Value) : Option ((List T_api_Value) × Bool) := pick_Fits_k.go (.j0_85 y_2 y_3)
noncomputable def pick_parts.l0 (y_3 : T_api_Value) (a_6 : List T_api_Value) (a_31 : List T_api_Pat) (x_32 : Int) (x_33 : Int) : Option ((List T_api_Value) × Bool) := pick_Fits_k.go (.l0_85 y_3 a_6 a_31 x_32 x_33)
theorem pick_Fits_eq (y_0 : T_api_Pat) (y_1 : T_api_Value) : pick_Fits y_0 y_1 = if y_0.Kind = (1 : Int) then (some (([] : List T_api_Value), true)) else (if y_0.Kind = (2 : Int) then (Option.bind (box_Own y_1) fun y12 => some (([y12] : List T_api_Value), true)) else (if y_0.Kind = (3 : Int) then (if y_1.Kind = (2 : Int) then (some (([] : List T_api_Value), (y_1.Num == y_0.Num))) else (some (([] : List T_api_Value), false))) else (if y_0.Kind = (4 : Int) then (if y_1.Kind = (3 : Int) then (some (([] : List T_api_Value), (y_1.Num == y_0.Num))) else (some (([] : List T_api_Value), false))) else (if y_0.Kind = (5 : Int) then (if y_1.Kind = (4 : Int) then (some (([] : List T_api_Value), (decide (y_1.Text = y_0.Text)))) else (some (([] : List T_api_Value), false))) else (if y_0.Kind = (6 : Int) then (Option.bind ((pick_parts y_0 y_1)) fun y50 => some (y50.1, y50.2)) else (some (([] : List T_api_Value), false))))))) := fixF_eq pick_Fits_k.mono _
theorem pick_parts_eq (y_0 : T_api_Pat) (y_1 : T_api_Value) : pick_parts y_0 y_1 = if y_1.Kind = (5 : Int) then (if y_1.Text = y_0.Text then ((pick_parts.j1 y_0 y_1 ((((List.length y_1.Args) : Nat) : Int) != (((List.length y_0.Args) : Nat) : Int)))) else ((pick_parts.j1 y_0 y_1 true))) else ((pick_parts.j1 y_0 y_1 true)) := fixF_eq pick_Fits_k.mono _
theorem pick_parts.j1_eq (y_2 : T_api_Pat) (y_3 : T_api_Value) (b_29 : Bool) : pick_parts.j1 y_2 y_3 b_29 = if b_29 = true then (some (([] : List T_api_Value), false)) else ((pick_parts.j0 y_2 y_3)) := fixF_eq pick_Fits_k.mono _
theorem pick_parts.j0_eq (y_2 : T_api_Pat) (y_3 : T_api_Value) : pick_parts.j0 y_2 y_3 = (pick_parts.l0 y_3 ([] : List T_api_Value) y_2.Args (((List.length y_2.Args) : Nat) : Int) (0 : Int)) := fixF_eq pick_Fits_k.mono _
theorem pick_parts.l0_eq (y_3 : T_api_Value) (a_6 : List T_api_Value) (a_31 : List T_api_Pat) (x_32 : Int) (x_33 : Int) : pick_parts.l0 y_3 a_6 a_31 x_32 x_33 = if x_33 < x_32 then (Option.bind (gi a_31 x_33) fun y1 => Option.bind (gi y_3.Args x_33) fun y19 => Option.bind ((pick_Fits y1 y19)) fun y26 => if y26.2 = true then (Option.bind (ap 56 a_6 y26.1) fun l38 => (pick_parts.l0 y_3 l38 a_31 x_32 (IntKind.wrap .i64 (x_33 + (1 : Int))))) else (some (([] : List T_api_Value), false))) else (some (a_6, true)) := fixF_eq pick_Fits_k.mono _
def pick_Fits_k.I : (p : pick_Fits_k.Pt) → ((List T_api_Value) × Bool) → Prop
  | .f_29 y_0 y_1, r => ∀ (W : Nat → Prop) (h m : Heap) (cs_0 : List Value) (cs_1 : List Value) (O : Hold W h m h m []) (e_0 : T_api_Pat.E m y_0 cs_0) (e_1 : T_api_Value.E m y_1 cs_1), Run Try.prog 29 #[Value.agg cs_0.toArray, Value.agg cs_1.toArray] h (pick_Fits.post W h m r)
  | .f_85 y_0 y_1, r => ∀ (W : Nat → Prop) (h m : Heap) (cs_0 : List Value) (cs_1 : List Value) (O : Hold W h m h m []) (e_0 : T_api_Pat.E m y_0 cs_0) (e_1 : T_api_Value.E m y_1 cs_1), Run Try.prog 85 #[Value.agg cs_0.toArray, Value.agg cs_1.toArray] h (pick_parts.post W h m r)
  | .j1_85 y_2 y_3 b_29, r => ∀ (W : Nat → Prop) (h0 m0 h m : Heap) (bk_2 : Nat) (cs_2 : List Value) (bk_3 : Nat) (cs_3 : List Value) (O : Hold W h0 m0 h m [rV bk_2 54 cs_2, rV bk_3 50 cs_3]) (e_2 : T_api_Pat.E m y_2 cs_2) (e_3 : T_api_Value.E m y_3 cs_3), f85.j1 (pick_parts.post W h0 m0 r) (⟨bk_2, 0, none⟩ : Addr) (⟨bk_3, 0, none⟩ : Addr) b_29 h
  | .j0_85 y_2 y_3, r => ∀ (W : Nat → Prop) (h0 m0 h m : Heap) (bk_2 : Nat) (cs_2 : List Value) (bk_3 : Nat) (cs_3 : List Value) (O : Hold W h0 m0 h m [rV bk_2 54 cs_2, rV bk_3 50 cs_3]) (e_2 : T_api_Pat.E m y_2 cs_2) (e_3 : T_api_Value.E m y_3 cs_3), f85.j0 (pick_parts.post W h0 m0 r) (⟨bk_2, 0, none⟩ : Addr) (⟨bk_3, 0, none⟩ : Addr) h
  | .l0_85 y_3 a_6 a_31 x_32 x_33, r => ∀ (W : Nat → Prop) (h0 m0 h m : Heap) (bk_3 : Nat) (cs_3 : List Value) (A_6 : Option Addr) (n_6 c_6 : Nat) (A_31 : Option Addr) (n_31 c_31 : Nat) (O : Hold W h0 m0 h m [rV bk_3 50 cs_3, rR (aE T_api_Value.T) A_6 c_6 a_6]) (e_3 : T_api_Value.E m y_3 cs_3) (ne_6 : n_6 = List.length a_6) (ne_31 : n_31 = List.length a_31) (k_31 : List.length a_31 ≤ c_31) (r_31 : Rd 4 T_api_Pat.E m A_31 a_31), f85.l0 (pick_parts.post W h0 m0 r) (⟨bk_3, 0, none⟩ : Addr) A_6 n_6 c_6 A_31 n_31 c_31 x_32 x_33 h
set_option maxHeartbeats 4000000 in
set_option maxRecDepth 100000 in
theorem pick_Fits_k.step_f_29 (go : (p : pick_Fits_k.Pt) → Option ((List T_api_Value) × Bool)) (ih : ∀ p r, go p = some r → pick_Fits_k.I p r) (y_0 : T_api_Pat) (y_1 : T_api_Value) (r : (List T_api_Value) × Bool) (e : pick_Fits_k.body go (.f_29 y_0 y_1) = some r) : pick_Fits_k.I (.f_29 y_0 y_1) r := by
  unfold pick_Fits_k.body at e
  intro W h m cs_0 cs_1 O e_0 e_1
  refine f29.run ?_
  unfold f29.runT
  refine O.new fun h1 x2 O3 => ?_
  refine O3.new fun h5 x6 O7 => ?_
  refine ⟨_, ld0 (Sub.refl _) (O7.all 0 rfl) (T_api_Pat.g0 e_0), _, rfl, ?_⟩
  refine split_eq_e e (fun c70 e => ?_) (fun c70 e => ?_)
  · have O9 := O7.nil (aE T_api_Value.T) none
    have O11 := O9.nm
    cases e
    exact ⟨_, _, _, _, O11.pick [2], rfl, rfl⟩
  · refine split_eq_e e (fun c69 e => ?_) (fun c69 e => ?_)
    · refine ⟨_, ldAn (Sub.refl _) (O7.all 1 rfl) (T_api_Value.T.len _ _ _ e_1), ?_⟩
      obtain ⟨y12, g13, e⟩ := bind_e e
      refine (box_Own.walk (Hold.start (W := No) O7.s) e_1 g13).mono ?_
      rintro _ h14 ⟨m15, cs19, Q16, rfl, he20⟩
      have O21 := Hold.nm (O7.ret Q16)
      refine ⟨cs19, rfl, (T_api_Value.T.len _ _ _ he20), ?_⟩
      refine O21.new fun h22 x23 O24 => ?_
      have O26 := O24.recell 2 rfl (cs' := cs19 ++ []) rfl
      have O27 := O26.rowE (l := ([y12] : List T_api_Value)) 2 rfl T_api_Value.T (show CsE _ _ _ _ _ from (CsE.cons he20 (T_api_Value.T.len _ _ _ he20) CsE.nil)) rfl
      have O28 := O27.nm
      cases e
      exact ⟨_, _, _, _, O28.pick [2], rfl, rfl⟩
    · refine split_eq_e e (fun c68 e => ?_) (fun c68 e => ?_)
      · refine ⟨_, ld0 (Sub.refl _) (O7.all 1 rfl) (T_api_Value.g0 e_1), _, rfl, ?_⟩
        refine split_eq_e e (fun c35 e => ?_) (fun c35 e => ?_)
        · refine ⟨_, ldk (k := 1) (Sub.refl _) (O7.all 1 rfl) (T_api_Value.g1 e_1), _, rfl, ?_⟩
          refine ⟨_, ldk (k := 1) (Sub.refl _) (O7.all 0 rfl) (T_api_Pat.g1 e_0), _, rfl, ?_⟩
          have O29 := O7.nil (aE T_api_Value.T) none
          have O31 := O29.nm
          cases e
          exact ⟨_, _, _, _, O31.pick [2], rfl, rfl⟩
        · have O32 := O7.nil (aE T_api_Value.T) none
          have O34 := O32.nm
          cases e
          exact ⟨_, _, _, _, O34.pick [2], rfl, rfl⟩
      · refine split_eq_e e (fun c67 e => ?_) (fun c67 e => ?_)
        · refine ⟨_, ld0 (Sub.refl _) (O7.all 1 rfl) (T_api_Value.g0 e_1), _, rfl, ?_⟩
          refine split_eq_e e (fun c42 e => ?_) (fun c42 e => ?_)
          · refine ⟨_, ldk (k := 1) (Sub.refl _) (O7.all 1 rfl) (T_api_Value.g1 e_1), _, rfl, ?_⟩
            refine ⟨_, ldk (k := 1) (Sub.refl _) (O7.all 0 rfl) (T_api_Pat.g1 e_0), _, rfl, ?_⟩
            have O36 := O7.nil (aE T_api_Value.T) none
            have O38 := O36.nm
            cases e
            exact ⟨_, _, _, _, O38.pick [2], rfl, rfl⟩
          · have O39 := O7.nil (aE T_api_Value.T) none
            have O41 := O39.nm
            cases e
            exact ⟨_, _, _, _, O41.pick [2], rfl, rfl⟩
        · refine split_eq_e e (fun c66 e => ?_) (fun c66 e => ?_)
          · refine ⟨_, ld0 (Sub.refl _) (O7.all 1 rfl) (T_api_Value.g0 e_1), _, rfl, ?_⟩
            refine split_eq_e e (fun c49 e => ?_) (fun c49 e => ?_)
            · refine ⟨_, ldk (k := 2) (Sub.refl _) (O7.all 1 rfl) (T_api_Value.g2 e_1), _, rfl, ?_⟩
              refine ⟨_, ldk (k := 2) (Sub.refl _) (O7.all 0 rfl) (T_api_Pat.g2 e_0), _, rfl, ?_⟩
              try rw [ba_list y_1.Text y_0.Text]
              have O43 := O7.nil (aE T_api_Value.T) none
              have O45 := O43.nm
              cases e
              exact ⟨_, _, _, _, O45.pick [2], rfl, rfl⟩
            · have O46 := O7.nil (aE T_api_Value.T) none
              have O48 := O46.nm
              cases e
              exact ⟨_, _, _, _, O48.pick [2], rfl, rfl⟩
          · refine split_eq_e e (fun c65 e => ?_) (fun c65 e => ?_)
            · refine ⟨_, ldAn (Sub.refl _) (O7.all 0 rfl) (T_api_Pat.T.len _ _ _ e_0), ?_⟩
              refine ⟨_, ldAn (Sub.refl _) (O7.all 1 rfl) (T_api_Value.T.len _ _ _ e_1), ?_⟩
              obtain ⟨y50, g51, e⟩ := bind_e e
              refine ((ih _ _ g51) _ _ _ _ _ (Hold.start (W := No) O7.s) e_0 e_1).mono ?_
              rintro _ h52 ⟨m53, A56, n57, c58, Q54, rfl, ne59⟩
              have O61 := Hold.nm (O7.ret Q54)
              subst ne59
              refine ⟨_, _, _, _, rfl, ?_⟩
              cases e
              exact ⟨_, _, _, _, O61.pick [2], rfl, rfl⟩
            · have O62 := O7.nil (aE T_api_Value.T) none
              have O64 := O62.nm
              cases e
              exact ⟨_, _, _, _, O64.pick [2], rfl, rfl⟩
set_option maxRecDepth 100000 in
theorem pick_Fits_k.step_f_85 (go : (p : pick_Fits_k.Pt) → Option ((List T_api_Value) × Bool)) (ih : ∀ p r, go p = some r → pick_Fits_k.I p r) (y_0 : T_api_Pat) (y_1 : T_api_Value) (r : (List T_api_Value) × Bool) (e : pick_Fits_k.body go (.f_85 y_0 y_1) = some r) : pick_Fits_k.I (.f_85 y_0 y_1) r := by
  unfold pick_Fits_k.body at e
  intro W h m cs_0 cs_1 O e_0 e_1
  refine f85.run ?_
  unfold f85.runT
  refine O.new fun h1 x2 O3 => ?_
  refine O3.new fun h5 x6 O7 => ?_
  refine ⟨_, ld0 (Sub.refl _) (O7.all 1 rfl) (T_api_Value.g0 e_1), _, rfl, ?_⟩
  refine split_ne_e e (fun c23 e => ?_) (fun c23 e => ?_)
  · have O9 := O7.nm
    exact (ih _ _ e) _ _ _ _ _ _ _ _ _ (O9.pick [0, 1]).nm e_0 e_1
  · refine ⟨_, ldk (k := 2) (Sub.refl _) (O7.all 1 rfl) (T_api_Value.g2 e_1), _, rfl, ?_⟩
    refine ⟨_, ldk (k := 2) (Sub.refl _) (O7.all 0 rfl) (T_api_Pat.g2 e_0), _, rfl, ?_⟩
    try rw [ba_list y_1.Text y_0.Text]
    refine split_not ?_
    refine split_dec_e e (fun c22 e => ?_) (fun c22 e => ?_)
    · obtain ⟨A10, c11, q12, k13, r14⟩ := T_api_Value.g3 e_1
      refine ⟨_, ldk (k := 3) (Sub.refl _) (O7.all 1 rfl) q12, _, _, _, rfl, ?_⟩
      obtain ⟨A15, c16, q17, k18, r19⟩ := T_api_Pat.g3 e_0
      refine ⟨_, ldk (k := 3) (Sub.refl _) (O7.all 0 rfl) q17, _, _, _, rfl, ?_⟩
      have O20 := O7.nm
      exact (ih _ _ e) _ _ _ _ _ _ _ _ _ (O20.pick [0, 1]).nm e_0 e_1
    · have O21 := O7.nm
      exact (ih _ _ e) _ _ _ _ _ _ _ _ _ (O21.pick [0, 1]).nm e_0 e_1
set_option maxRecDepth 100000 in
theorem pick_Fits_k.step_j1_85 (go : (p : pick_Fits_k.Pt) → Option ((List T_api_Value) × Bool)) (ih : ∀ p r, go p = some r → pick_Fits_k.I p r) (y_2 : T_api_Pat) (y_3 : T_api_Value) (b_29 : Bool) (r : (List T_api_Value) × Bool) (e : pick_Fits_k.body go (.j1_85 y_2 y_3 b_29) = some r) : pick_Fits_k.I (.j1_85 y_2 y_3 b_29) r := by
  unfold pick_Fits_k.body at e
  intro W h0 m0 h m bk_2 cs_2 bk_3 cs_3 O e_2 e_3
  refine f85.j1_in ?_
  unfold f85.j1T
  refine split_any_e e (fun c4 e => ?_) (fun c4 e => ?_)
  · have O1 := O.nil (aE T_api_Value.T) none
    have O3 := O1.nm
    cases e
    exact ⟨_, _, _, _, O3.pick [2], rfl, rfl⟩
  · exact (ih _ _ e) _ _ _ _ _ _ _ _ _ (O.pick [0, 1]).nm e_2 e_3
set_option maxRecDepth 100000 in
theorem pick_Fits_k.step_j0_85 (go : (p : pick_Fits_k.Pt) → Option ((List T_api_Value) × Bool)) (ih : ∀ p r, go p = some r → pick_Fits_k.I p r) (y_2 : T_api_Pat) (y_3 : T_api_Value) (r : (List T_api_Value) × Bool) (e : pick_Fits_k.body go (.j0_85 y_2 y_3) = some r) : pick_Fits_k.I (.j0_85 y_2 y_3) r := by
  unfold pick_Fits_k.body at e
  intro W h0 m0 h m bk_2 cs_2 bk_3 cs_3 O e_2 e_3
  refine f85.j0_in ?_
  unfold f85.j0T
  obtain ⟨A1, c2, q3, k4, r5⟩ := T_api_Pat.g3 e_2
  refine ⟨_, ldk (k := 3) (Sub.refl _) (O.all 0 rfl) q3, _, _, _, rfl, ?_⟩
  have O6 := O.nil (aE T_api_Value.T) none
  have O8 := O6.nm
  exact (ih _ _ e) _ _ _ _ _ _ _ _ _ _ _ _ _ (O8.pick [1, 2]).nm e_3 rfl rfl k4 r5
set_option maxHeartbeats 4000000 in
set_option maxRecDepth 100000 in
theorem pick_Fits_k.step_l0_85 (go : (p : pick_Fits_k.Pt) → Option ((List T_api_Value) × Bool)) (ih : ∀ p r, go p = some r → pick_Fits_k.I p r) (y_3 : T_api_Value) (a_6 : List T_api_Value) (a_31 : List T_api_Pat) (x_32 : Int) (x_33 : Int) (r : (List T_api_Value) × Bool) (e : pick_Fits_k.body go (.l0_85 y_3 a_6 a_31 x_32 x_33) = some r) : pick_Fits_k.I (.l0_85 y_3 a_6 a_31 x_32 x_33) r := by
  unfold pick_Fits_k.body at e
  intro W h0 m0 h m bk_3 cs_3 A_6 n_6 c_6 A_31 n_31 c_31 O e_3 ne_6 ne_31 k_31 r_31
  subst ne_6
  subst ne_31
  refine f85.l0_in ?_
  unfold f85.l0T
  refine split_dec_e e (fun c51 e => ?_) (fun c51 e => ?_)
  · obtain ⟨y1, g2, e⟩ := bind_e e
    refine r_31.addr rfl g2 fun a3 cs4 ha5 hc6 he7 => ?_
    refine ⟨_, ldAn O.s hc6 rfl, ?_⟩
    refine O.new fun h8 x9 O10 => ?_
    refine ⟨_, rfl, (T_api_Pat.T.len _ _ _ he7), ?_⟩
    refine O10.stA 2 rfl (T_api_Pat.T.len _ _ _ he7) (T_api_Pat.T.flat _ _ _ he7) fun h12 O13 => ?_
    refine ⟨_, ldAn (Sub.refl _) (O13.all 2 rfl) (T_api_Pat.T.len _ _ _ he7), ?_⟩
    obtain ⟨A14, c15, q16, k17, r18⟩ := T_api_Value.g3 e_3
    refine ⟨_, ldk (k := 3) (Sub.refl _) (O13.all 0 rfl) q16, _, _, _, rfl, ?_⟩
    obtain ⟨y19, g20, e⟩ := bind_e e
    refine r18.addr rfl g20 fun a21 cs22 ha23 hc24 he25 => ?_
    refine ⟨_, ldAn O13.s hc24 rfl, ?_⟩
    obtain ⟨y26, g27, e⟩ := bind_e e
    refine ((ih _ _ g27) _ _ _ _ _ (Hold.start (W := No) O13.s) he7 he25).mono ?_
    rintro _ h28 ⟨m29, A32, n33, c34, Q30, rfl, ne35⟩
    have O37 := Hold.nm (O13.ret Q30)
    subst ne35
    refine ⟨_, _, _, _, rfl, ?_⟩
    refine split_not ?_
    refine split_any_e e (fun c50 e => ?_) (fun c50 e => ?_)
    · obtain ⟨l38, g39, e⟩ := bind_e e
      refine O37.app 1 rfl rfl rfl ((O37.os 3 rfl).srcE rfl) (by decide) g39 fun A40 c41 h42 O43 => ?_
      refine ⟨_, _, _, rfl, ?_⟩
      have O46 := O43.nm
      exact (ih _ _ e) _ _ _ _ _ _ _ _ _ _ _ _ _ (O46.pick [0, 1]).nm (T_api_Value.T.mono _ _ _ _ Q30.S.up e_3) rfl rfl k_31 (r_31.sub T_api_Pat.T Q30.S.up)
    · have O47 := O37.nil (aE T_api_Value.T) none
      have O49 := O47.nm
      cases e
      exact ⟨_, _, _, _, O49.pick [4], rfl, rfl⟩
  · cases e
    exact ⟨_, _, _, _, O.pick [1], rfl, rfl⟩
theorem pick_Fits_k.all {p : pick_Fits_k.Pt} {r : ((List T_api_Value) × Bool)} (e : pick_Fits_k.go p = some r) : pick_Fits_k.I p r := fixF_ind (β := fun _ => ((List T_api_Value) × Bool)) pick_Fits_k.mono (I := pick_Fits_k.I) (fun go ih p r e => match p with
  | .f_29 y_0 y_1 => pick_Fits_k.step_f_29 go ih y_0 y_1 r e
  | .f_85 y_0 y_1 => pick_Fits_k.step_f_85 go ih y_0 y_1 r e
  | .j1_85 y_2 y_3 b_29 => pick_Fits_k.step_j1_85 go ih y_2 y_3 b_29 r e
  | .j0_85 y_2 y_3 => pick_Fits_k.step_j0_85 go ih y_2 y_3 r e
  | .l0_85 y_3 a_6 a_31 x_32 x_33 => pick_Fits_k.step_l0_85 go ih y_3 a_6 a_31 x_32 x_33 r e
  ) e
theorem pick_Fits.walk {W : Nat → Prop} {h m : Heap} {cs_0 : List Value} {cs_1 : List Value} {y_0 : T_api_Pat} {y_1 : T_api_Value} (O : Hold W h m h m []) (e_0 : T_api_Pat.E m y_0 cs_0) (e_1 : T_api_Value.E m y_1 cs_1) {r : (List T_api_Value) × Bool} (e : pick_Fits y_0 y_1 = some r) : Run Try.prog 29 #[Value.agg cs_0.toArray, Value.agg cs_1.toArray] h (pick_Fits.post W h m r) := pick_Fits_k.all (p := .f_29 y_0 y_1) e W h m cs_0 cs_1 O e_0 e_1
def roadref3_Matches.post (W : Nat → Prop) (bkio2 : Nat) (h0 m0 : Heap) (r : Bool × (List T_api_Value)) (v : Value) (h : Heap) : Prop := ∃ m Aio2_0 nio2_0 cio2_0, Hold W h0 m0 h m [rV bkio2 48 [(Value.slice Aio2_0 nio2_0 cio2_0)], rR (aE T_api_Value.T) Aio2_0 cio2_0 r.2] ∧ v = .bool r.1 ∧ nio2_0 = List.length r.2
inductive roadref3_Matches_k.Pt where
  | f (y_0 : T_api_Pat) (y_1 : T_api_Value) (y_2 : (List T_api_Value))
  | j0 (a_io2_0 : (List T_api_Value)) (y_3 : T_api_Pat) (y_4 : T_api_Value)
  | j1 (a_io2_0 : (List T_api_Value)) (y_3 : T_api_Pat) (y_4 : T_api_Value) (x_7 : Int) (x_28 : Int) (b_29 : Bool)
  | j2 (a_io2_0 : (List T_api_Value)) (y_3 : T_api_Pat) (y_4 : T_api_Value) (x_7 : Int) (x_28 : Int) (b_32 : Bool)
  | j3 (a_io2_0 : (List T_api_Value)) (y_3 : T_api_Pat) (y_4 : T_api_Value) (b_8 : Bool)
  | l0 (a_io2_0 : (List T_api_Value)) (y_3 : T_api_Pat) (y_4 : T_api_Value) (b_8 : Bool) (x_9 : Int)
  | j4 (a_io2_0 : (List T_api_Value)) (y_3 : T_api_Pat) (y_4 : T_api_Value) (x_9 : Int)
noncomputable def roadref3_Matches_k.body (go : (p : roadref3_Matches_k.Pt) → Option (Bool × (List T_api_Value))) : (p : roadref3_Matches_k.Pt) → Option (Bool × (List T_api_Value))
  | .f y_0 y_1 y_2 => if y_0.Kind = (2 : Int) then (Option.bind (ap 56 y_2 ([(T_api_Value.mk (0 : Int) (0 : Int) (ByteArray.mk #[]) ([] : List T_api_Value))] : List T_api_Value)) fun l13 => Option.bind (gi l13 (((List.length y_2) : Nat) : Int)) fun y23 => Option.bind (some (List.set l13 (Int.toNat (((List.length y_2) : Nat) : Int)) y_1)) fun l32 => (go (.j0 l32 y_0 y_1))) else ((go (.j0 y_2 y_0 y_1)))
  | .j0 a_io2_0 y_3 y_4 => Option.bind (some (pset ([] : (List (Int × Int))) (3 : Int) (2 : Int))) fun l7 => Option.bind (some (pset l7 (4 : Int) (3 : Int))) fun l11 => Option.bind (some (pset l11 (5 : Int) (4 : Int))) fun l15 => Option.bind (some (pset l15 (6 : Int) (5 : Int))) fun l19 => if y_3.Kind = (1 : Int) then ((go (.j1 a_io2_0 y_3 y_4 (pgd l19 y_3.Kind (0 : Int)) y_3.Kind (y_3.Kind == (1 : Int))))) else ((go (.j1 a_io2_0 y_3 y_4 (pgd l19 y_3.Kind (0 : Int)) y_3.Kind (y_3.Kind == (2 : Int)))))
  | .j1 a_io2_0 y_3 y_4 x_7 x_28 b_29 => if b_29 = true then (some (true, a_io2_0)) else (if x_28 = (3 : Int) then ((go (.j2 a_io2_0 y_3 y_4 x_7 x_28 (x_28 == (3 : Int))))) else ((go (.j2 a_io2_0 y_3 y_4 x_7 x_28 (x_28 == (4 : Int))))))
  | .j2 a_io2_0 y_3 y_4 x_7 x_28 b_32 => if b_32 = true then (if y_4.Kind = x_7 then (some ((y_4.Num == y_3.Num), a_io2_0)) else (some (false, a_io2_0))) else (if x_28 = (5 : Int) then (if y_4.Kind = x_7 then (some ((decide (y_4.Text = y_3.Text)), a_io2_0)) else (some (false, a_io2_0))) else (if x_28 = (6 : Int) then (if y_4.Kind = x_7 then (if y_4.Text = y_3.Text then ((go (.j3 a_io2_0 y_3 y_4 ((((List.length y_4.Args) : Nat) : Int) == (((List.length y_3.Args) : Nat) : Int))))) else ((go (.j3 a_io2_0 y_3 y_4 false)))) else ((go (.j3 a_io2_0 y_3 y_4 false)))) else (some (false, a_io2_0))))
  | .j3 a_io2_0 y_3 y_4 b_8 => (go (.l0 a_io2_0 y_3 y_4 b_8 (0 : Int)))
  | .l0 a_io2_0 y_3 y_4 b_8 x_9 => if b_8 = true then (if x_9 < (((List.length y_3.Args) : Nat) : Int) then ((go (.j4 a_io2_0 y_3 y_4 x_9))) else (some (b_8, a_io2_0))) else (some (b_8, a_io2_0))
  | .j4 a_io2_0 y_3 y_4 x_9 => Option.bind (gi y_3.Args x_9) fun y6 => Option.bind (gi y_4.Args x_9) fun y18 => Option.bind ((go (.f y6 y18 a_io2_0))) fun y25 => (go (.l0 y25.2 y_3 y_4 y25.1 (IntKind.wrap .i64 (x_9 + (1 : Int)))))
theorem roadref3_Matches_k.mono : MonoF (β := fun _ => (Bool × (List T_api_Value))) roadref3_Matches_k.body := fun f g hfg p => match p with
  | .f y_0 y_1 y_2 => LeO.ite (LeO.bind (LeO.refl _) fun l13 => LeO.bind (LeO.refl _) fun y23 => LeO.bind (LeO.refl _) fun l32 => (hfg _)) ((hfg _))
  | .j0 a_io2_0 y_3 y_4 => LeO.ite ((hfg _)) ((hfg _))
  | .j1 a_io2_0 y_3 y_4 x_7 x_28 b_29 => LeO.ite (LeO.refl _) (LeO.ite ((hfg _)) ((hfg _)))
  | .j2 a_io2_0 y_3 y_4 x_7 x_28 b_32 => LeO.ite (LeO.ite (LeO.refl _) (LeO.refl _)) (LeO.ite (LeO.ite (LeO.refl _) (LeO.refl _)) (LeO.ite (LeO.ite (LeO.ite ((hfg _)) ((hfg _))) ((hfg _))) (LeO.refl _)))
  | .j3 a_io2_0 y_3 y_4 b_8 => (hfg _)
  | .l0 a_io2_0 y_3 y_4 b_8 x_9 => LeO.ite (LeO.ite ((hfg _)) (LeO.refl _)) (LeO.refl _)
  | .j4 a_io2_0 y_3 y_4 x_9 => LeO.bind (LeO.refl _) fun y6 => LeO.bind (LeO.refl _) fun y18 => LeO.bind ((hfg _)) fun y25 => (hfg _)
noncomputable def roadref3_Matches_k.go (p : roadref3_Matches_k.Pt) : Option (Bool × (List T_api_Value)) := fixF (β := fun _ => (Bool × (List T_api_Value))) roadref3_Matches_k.body p
noncomputable def roadref3_Matches (y_0 : T_api_Pat) (y_1 : T_api_Value) (y_2 : (List T_api_Value)) : Option (Bool × (List T_api_Value)) := roadref3_Matches_k.go (.f y_0 y_1 y_2)
noncomputable def roadref3_Matches.j0 (a_io2_0 : (List T_api_Value)) (y_3 : T_api_Pat) (y_4 : T_api_Value) : Option (Bool × (List T_api_Value)) := roadref3_Matches_k.go (.j0 a_io2_0 y_3 y_4)
noncomputable def roadref3_Matches.j1 (a_io2_0 : (List T_api_Value)) (y_3 : T_api_Pat) (y_4 : T_api_Value) (x_7 : Int) (x_28 : Int) (b_29 : Bool) : Option (Bool × (List T_api_Value)) := roadref3_Matches_k.go (.j1 a_io2_0 y_3 y_4 x_7 x_28 b_29)
noncomputable def roadref3_Matches.j2 (a_io2_0 : (List T_api_Value)) (y_3 : T_api_Pat) (y_4 : T_api_Value) (x_7 : Int) (x_28 : Int) (b_32 : Bool) : Option (Bool × (List T_api_Value)) := roadref3_Matches_k.go (.j2 a_io2_0 y_3 y_4 x_7 x_28 b_32)
noncomputable def roadref3_Matches.j3 (a_io2_0 : (List T_api_Value)) (y_3 : T_api_Pat) (y_4 : T_api_Value) (b_8 : Bool) : Option (Bool × (List T_api_Value)) := roadref3_Matches_k.go (.j3 a_io2_0 y_3 y_4 b_8)
noncomputable def roadref3_Matches.l0 (a_io2_0 : (List T_api_Value)) (y_3 : T_api_Pat) (y_4 : T_api_Value) (b_8 : Bool) (x_9 : Int) : Option (Bool × (List T_api_Value)) := roadref3_Matches_k.go (.l0 a_io2_0 y_3 y_4 b_8 x_9)
noncomputable def roadref3_Matches.j4 (a_io2_0 : (List T_api_Value)) (y_3 : T_api_Pat) (y_4 : T_api_Value) (x_9 : Int) : Option (Bool × (List T_api_Value)) := roadref3_Matches_k.go (.j4 a_io2_0 y_3 y_4 x_9)
theorem roadref3_Matches_eq (y_0 : T_api_Pat) (y_1 : T_api_Value) (y_2 : (List T_api_Value)) : roadref3_Matches y_0 y_1 y_2 = if y_0.Kind = (2 : Int) then (Option.bind (ap 56 y_2 ([(T_api_Value.mk (0 : Int) (0 : Int) (ByteArray.mk #[]) ([] : List T_api_Value))] : List T_api_Value)) fun l13 => Option.bind (gi l13 (((List.length y_2) : Nat) : Int)) fun y23 => Option.bind (some (List.set l13 (Int.toNat (((List.length y_2) : Nat) : Int)) y_1)) fun l32 => (roadref3_Matches.j0 l32 y_0 y_1)) else ((roadref3_Matches.j0 y_2 y_0 y_1)) := fixF_eq roadref3_Matches_k.mono _
theorem roadref3_Matches.j0_eq (a_io2_0 : (List T_api_Value)) (y_3 : T_api_Pat) (y_4 : T_api_Value) : roadref3_Matches.j0 a_io2_0 y_3 y_4 = Option.bind (some (pset ([] : (List (Int × Int))) (3 : Int) (2 : Int))) fun l7 => Option.bind (some (pset l7 (4 : Int) (3 : Int))) fun l11 => Option.bind (some (pset l11 (5 : Int) (4 : Int))) fun l15 => Option.bind (some (pset l15 (6 : Int) (5 : Int))) fun l19 => if y_3.Kind = (1 : Int) then ((roadref3_Matches.j1 a_io2_0 y_3 y_4 (pgd l19 y_3.Kind (0 : Int)) y_3.Kind (y_3.Kind == (1 : Int)))) else ((roadref3_Matches.j1 a_io2_0 y_3 y_4 (pgd l19 y_3.Kind (0 : Int)) y_3.Kind (y_3.Kind == (2 : Int)))) := fixF_eq roadref3_Matches_k.mono _
theorem roadref3_Matches.j1_eq (a_io2_0 : (List T_api_Value)) (y_3 : T_api_Pat) (y_4 : T_api_Value) (x_7 : Int) (x_28 : Int) (b_29 : Bool) : roadref3_Matches.j1 a_io2_0 y_3 y_4 x_7 x_28 b_29 = if b_29 = true then (some (true, a_io2_0)) else (if x_28 = (3 : Int) then ((roadref3_Matches.j2 a_io2_0 y_3 y_4 x_7 x_28 (x_28 == (3 : Int)))) else ((roadref3_Matches.j2 a_io2_0 y_3 y_4 x_7 x_28 (x_28 == (4 : Int))))) := fixF_eq roadref3_Matches_k.mono _
theorem roadref3_Matches.j2_eq (a_io2_0 : (List T_api_Value)) (y_3 : T_api_Pat) (y_4 : T_api_Value) (x_7 : Int) (x_28 : Int) (b_32 : Bool) : roadref3_Matches.j2 a_io2_0 y_3 y_4 x_7 x_28 b_32 = if b_32 = true then (if y_4.Kind = x_7 then (some ((y_4.Num == y_3.Num), a_io2_0)) else (some (false, a_io2_0))) else (if x_28 = (5 : Int) then (if y_4.Kind = x_7 then (some ((decide (y_4.Text = y_3.Text)), a_io2_0)) else (some (false, a_io2_0))) else (if x_28 = (6 : Int) then (if y_4.Kind = x_7 then (if y_4.Text = y_3.Text then ((roadref3_Matches.j3 a_io2_0 y_3 y_4 ((((List.length y_4.Args) : Nat) : Int) == (((List.length y_3.Args) : Nat) : Int)))) else ((roadref3_Matches.j3 a_io2_0 y_3 y_4 false))) else ((roadref3_Matches.j3 a_io2_0 y_3 y_4 false))) else (some (false, a_io2_0)))) := fixF_eq roadref3_Matches_k.mono _
theorem roadref3_Matches.j3_eq (a_io2_0 : (List T_api_Value)) (y_3 : T_api_Pat) (y_4 : T_api_Value) (b_8 : Bool) : roadref3_Matches.j3 a_io2_0 y_3 y_4 b_8 = (roadref3_Matches.l0 a_io2_0 y_3 y_4 b_8 (0 : Int)) := fixF_eq roadref3_Matches_k.mono _
theorem roadref3_Matches.l0_eq (a_io2_0 : (List T_api_Value)) (y_3 : T_api_Pat) (y_4 : T_api_Value) (b_8 : Bool) (x_9 : Int) : roadref3_Matches.l0 a_io2_0 y_3 y_4 b_8 x_9 = if b_8 = true then (if x_9 < (((List.length y_3.Args) : Nat) : Int) then ((roadref3_Matches.j4 a_io2_0 y_3 y_4 x_9)) else (some (b_8, a_io2_0))) else (some (b_8, a_io2_0)) := fixF_eq roadref3_Matches_k.mono _
theorem roadref3_Matches.j4_eq (a_io2_0 : (List T_api_Value)) (y_3 : T_api_Pat) (y_4 : T_api_Value) (x_9 : Int) : roadref3_Matches.j4 a_io2_0 y_3 y_4 x_9 = Option.bind (gi y_3.Args x_9) fun y6 => Option.bind (gi y_4.Args x_9) fun y18 => Option.bind ((roadref3_Matches y6 y18 a_io2_0)) fun y25 => (roadref3_Matches.l0 y25.2 y_3 y_4 y25.1 (IntKind.wrap .i64 (x_9 + (1 : Int)))) := fixF_eq roadref3_Matches_k.mono _
def roadref3_Matches_k.I : (p : roadref3_Matches_k.Pt) → (Bool × (List T_api_Value)) → Prop
  | .f y_0 y_1 y_2, r => ∀ (W : Nat → Prop) (h m : Heap) (cs_0 : List Value) (cs_1 : List Value) (bkio2 : Nat) (A_2_0 : Option Addr) (n_2_0 : Nat) (c_2_0 : Nat) (O : Hold W h m h m [rV bkio2 48 [(Value.slice A_2_0 n_2_0 c_2_0)], rR (aE T_api_Value.T) A_2_0 c_2_0 y_2]) (e_0 : T_api_Pat.E m y_0 cs_0) (e_1 : T_api_Value.E m y_1 cs_1) (ne_2_0 : n_2_0 = List.length y_2), Run Try.prog 30 #[Value.agg cs_0.toArray, Value.agg cs_1.toArray, Value.pointer (some ⟨bkio2, 0, none⟩)] h (roadref3_Matches.post W bkio2 h m r)
  | .j0 a_io2_0 y_3 y_4, r => ∀ (W : Nat → Prop) (h0 m0 h m : Heap) (bk_io2 : Nat) (A_io2_0_0 : Option Addr) (n_io2_0_0 : Nat) (c_io2_0_0 : Nat) (bk_3 : Nat) (cs_3 : List Value) (bk_4 : Nat) (cs_4 : List Value) (O : Hold W h0 m0 h m [rV bk_io2 48 [(Value.slice A_io2_0_0 n_io2_0_0 c_io2_0_0)], rR (aE T_api_Value.T) A_io2_0_0 c_io2_0_0 a_io2_0, rV bk_3 54 cs_3, rV bk_4 50 cs_4]) (ne_io2_0_0 : n_io2_0_0 = List.length a_io2_0) (e_3 : T_api_Pat.E m y_3 cs_3) (e_4 : T_api_Value.E m y_4 cs_4), f30.j0 (roadref3_Matches.post W bk_io2 h0 m0 r) (⟨bk_io2, 0, none⟩ : Addr) (⟨bk_3, 0, none⟩ : Addr) (⟨bk_4, 0, none⟩ : Addr) h
  | .j1 a_io2_0 y_3 y_4 x_7 x_28 b_29, r => ∀ (W : Nat → Prop) (h0 m0 h m : Heap) (bk_io2 : Nat) (A_io2_0_0 : Option Addr) (n_io2_0_0 : Nat) (c_io2_0_0 : Nat) (bk_3 : Nat) (cs_3 : List Value) (bk_4 : Nat) (cs_4 : List Value) (O : Hold W h0 m0 h m [rV bk_io2 48 [(Value.slice A_io2_0_0 n_io2_0_0 c_io2_0_0)], rR (aE T_api_Value.T) A_io2_0_0 c_io2_0_0 a_io2_0, rV bk_3 54 cs_3, rV bk_4 50 cs_4]) (ne_io2_0_0 : n_io2_0_0 = List.length a_io2_0) (e_3 : T_api_Pat.E m y_3 cs_3) (e_4 : T_api_Value.E m y_4 cs_4), f30.j1 (roadref3_Matches.post W bk_io2 h0 m0 r) (⟨bk_io2, 0, none⟩ : Addr) (⟨bk_3, 0, none⟩ : Addr) (⟨bk_4, 0, none⟩ : Addr) x_7 x_28 b_29 h
  | .j2 a_io2_0 y_3 y_4 x_7 x_28 b_32, r => ∀ (W : Nat → Prop) (h0 m0 h m : Heap) (bk_io2 : Nat) (A_io2_0_0 : Option Addr) (n_io2_0_0 : Nat) (c_io2_0_0 : Nat) (bk_3 : Nat) (cs_3 : List Value) (bk_4 : Nat) (cs_4 : List Value) (O : Hold W h0 m0 h m [rV bk_io2 48 [(Value.slice A_io2_0_0 n_io2_0_0 c_io2_0_0)], rR (aE T_api_Value.T) A_io2_0_0 c_io2_0_0 a_io2_0, rV bk_3 54 cs_3, rV bk_4 50 cs_4]) (ne_io2_0_0 : n_io2_0_0 = List.length a_io2_0) (e_3 : T_api_Pat.E m y_3 cs_3) (e_4 : T_api_Value.E m y_4 cs_4), f30.j2 (roadref3_Matches.post W bk_io2 h0 m0 r) (⟨bk_io2, 0, none⟩ : Addr) (⟨bk_3, 0, none⟩ : Addr) (⟨bk_4, 0, none⟩ : Addr) x_7 x_28 b_32 h
  | .j3 a_io2_0 y_3 y_4 b_8, r => ∀ (W : Nat → Prop) (h0 m0 h m : Heap) (bk_io2 : Nat) (A_io2_0_0 : Option Addr) (n_io2_0_0 : Nat) (c_io2_0_0 : Nat) (bk_3 : Nat) (cs_3 : List Value) (bk_4 : Nat) (cs_4 : List Value) (O : Hold W h0 m0 h m [rV bk_io2 48 [(Value.slice A_io2_0_0 n_io2_0_0 c_io2_0_0)], rR (aE T_api_Value.T) A_io2_0_0 c_io2_0_0 a_io2_0, rV bk_3 54 cs_3, rV bk_4 50 cs_4]) (ne_io2_0_0 : n_io2_0_0 = List.length a_io2_0) (e_3 : T_api_Pat.E m y_3 cs_3) (e_4 : T_api_Value.E m y_4 cs_4), f30.j3 (roadref3_Matches.post W bk_io2 h0 m0 r) (⟨bk_io2, 0, none⟩ : Addr) (⟨bk_3, 0, none⟩ : Addr) (⟨bk_4, 0, none⟩ : Addr) b_8 h
  | .l0 a_io2_0 y_3 y_4 b_8 x_9, r => ∀ (W : Nat → Prop) (h0 m0 h m : Heap) (bk_io2 : Nat) (A_io2_0_0 : Option Addr) (n_io2_0_0 : Nat) (c_io2_0_0 : Nat) (bk_3 : Nat) (cs_3 : List Value) (bk_4 : Nat) (cs_4 : List Value) (O : Hold W h0 m0 h m [rV bk_io2 48 [(Value.slice A_io2_0_0 n_io2_0_0 c_io2_0_0)], rR (aE T_api_Value.T) A_io2_0_0 c_io2_0_0 a_io2_0, rV bk_3 54 cs_3, rV bk_4 50 cs_4]) (ne_io2_0_0 : n_io2_0_0 = List.length a_io2_0) (e_3 : T_api_Pat.E m y_3 cs_3) (e_4 : T_api_Value.E m y_4 cs_4), f30.l0 (roadref3_Matches.post W bk_io2 h0 m0 r) (⟨bk_io2, 0, none⟩ : Addr) (⟨bk_3, 0, none⟩ : Addr) (⟨bk_4, 0, none⟩ : Addr) b_8 x_9 h
  | .j4 a_io2_0 y_3 y_4 x_9, r => ∀ (W : Nat → Prop) (h0 m0 h m : Heap) (bk_io2 : Nat) (A_io2_0_0 : Option Addr) (n_io2_0_0 : Nat) (c_io2_0_0 : Nat) (bk_3 : Nat) (cs_3 : List Value) (bk_4 : Nat) (cs_4 : List Value) (O : Hold W h0 m0 h m [rV bk_io2 48 [(Value.slice A_io2_0_0 n_io2_0_0 c_io2_0_0)], rR (aE T_api_Value.T) A_io2_0_0 c_io2_0_0 a_io2_0, rV bk_3 54 cs_3, rV bk_4 50 cs_4]) (ne_io2_0_0 : n_io2_0_0 = List.length a_io2_0) (e_3 : T_api_Pat.E m y_3 cs_3) (e_4 : T_api_Value.E m y_4 cs_4), f30.j4 (roadref3_Matches.post W bk_io2 h0 m0 r) (⟨bk_io2, 0, none⟩ : Addr) (⟨bk_3, 0, none⟩ : Addr) (⟨bk_4, 0, none⟩ : Addr) x_9 h
set_option maxHeartbeats 4000000 in
set_option maxRecDepth 100000 in
theorem roadref3_Matches_k.step_f (go : (p : roadref3_Matches_k.Pt) → Option (Bool × (List T_api_Value))) (ih : ∀ p r, go p = some r → roadref3_Matches_k.I p r) (y_0 : T_api_Pat) (y_1 : T_api_Value) (y_2 : (List T_api_Value)) (r : Bool × (List T_api_Value)) (e : roadref3_Matches_k.body go (.f y_0 y_1 y_2) = some r) : roadref3_Matches_k.I (.f y_0 y_1 y_2) r := by
  unfold roadref3_Matches_k.body at e
  intro W h m cs_0 cs_1 bkio2 A_2_0 n_2_0 c_2_0 O e_0 e_1 ne_2_0
  subst ne_2_0
  refine f30.run ?_
  unfold f30.runT
  refine O.new fun h1 x2 O3 => ?_
  refine O3.new fun h5 x6 O7 => ?_
  refine ⟨_, ld0 (Sub.refl _) (O7.all 2 rfl) (T_api_Pat.g0 e_0), _, rfl, ?_⟩
  refine split_eq_e e (fun c78 e => ?_) (fun c78 e => ?_)
  · obtain ⟨l13, g14, e⟩ := bind_e e
    obtain ⟨y23, g24, e⟩ := bind_e e
    obtain ⟨l32, g33, e⟩ := bind_e e
    refine ⟨_, ld0 (Sub.refl _) (O7.all 0 rfl) rfl, _, _, _, rfl, ?_⟩
    refine ⟨_, ldAn (Sub.refl _) (O7.all 3 rfl) (T_api_Value.T.len _ _ _ e_1), ?_⟩
    refine ⟨[(Value.int .i64 (0 : Int)), (Value.int .i64 (0 : Int)), (Value.string (ByteArray.mk #[])), (Value.slice none 0 0)], rfl, rfl, ?_⟩
    refine O7.new fun h37 x38 O39 => ?_
    refine ⟨x38, ?_⟩
    have O49 := O39.rowE (l := ([(T_api_Value.mk (0 : Int) (0 : Int) (ByteArray.mk #[]) ([] : List T_api_Value))] : List T_api_Value)) 4 rfl T_api_Value.T (show CsE _ _ _ _ _ from (CsE.cons (c1 := [(Value.int .i64 (0 : Int)), (Value.int .i64 (0 : Int)), (Value.string (ByteArray.mk #[])), (Value.slice none 0 0)]) (T_api_Value.iff.2 ⟨_, _, rfl, (by exact Nat.le_refl 0), Rd.nil⟩) rfl CsE.nil)) rfl
    refine O49.app 1 rfl rfl rfl ((O49.os 4 rfl).srcE rfl) (by decide) g14 fun A43 c44 h45 O46 => ?_
    refine ⟨_, _, _, rfl, ?_⟩
    have O50 := O46.nm
    refine (O50.os 1 rfl).addr rfl g24 fun a53 cs54 ha55 hc56 he57 => ?_
    refine ⟨?_, ?_⟩
    · replace g33 := Option.some.inj g33
      refine ⟨_, rfl, (T_api_Value.T.len _ _ _ e_1), ?_⟩
      refine O50.elstA 1 rfl g24 ha55 hc56 (y' := y_1) e_1 (T_api_Value.T.flat _ _ _ e_1) g33 fun h58 O59 => ?_
      refine O59.st0 0 rfl (Nat.le_of_ble_eq_true rfl) trivial fun h62 O63 => ?_
      have O64 := O63.nm
      exact (ih _ _ e) _ _ _ _ _ _ _ _ _ _ _ _ _ (O64.pick [0, 1, 2, 3]).nm (lset' g33) e_0 e_1
    · refine O50.st0 0 rfl (Nat.le_of_ble_eq_true rfl) trivial fun h65 O66 => ?_
      obtain ⟨a67, cs68, ha71, hc69, he70⟩ := (O66.os 1 rfl).cellsAt g24
      cases ha55.symm.trans ha71
      replace g33 := Option.some.inj g33
      refine ⟨_, rfl, (T_api_Value.T.len _ _ _ e_1), ?_⟩
      refine O66.elstA 1 rfl g24 ha55 hc69 (y' := y_1) e_1 (T_api_Value.T.flat _ _ _ e_1) g33 fun h72 O73 => ?_
      have O76 := O73.nm
      exact (ih _ _ e) _ _ _ _ _ _ _ _ _ _ _ _ _ (O76.pick [0, 1, 2, 3]).nm (lset' g33) e_0 e_1
  · have O77 := O7.nm
    exact (ih _ _ e) _ _ _ _ _ _ _ _ _ _ _ _ _ (O77.pick [0, 1, 2, 3]).nm rfl e_0 e_1
set_option maxRecDepth 100000 in
theorem roadref3_Matches_k.step_j0 (go : (p : roadref3_Matches_k.Pt) → Option (Bool × (List T_api_Value))) (ih : ∀ p r, go p = some r → roadref3_Matches_k.I p r) (a_io2_0 : (List T_api_Value)) (y_3 : T_api_Pat) (y_4 : T_api_Value) (r : Bool × (List T_api_Value)) (e : roadref3_Matches_k.body go (.j0 a_io2_0 y_3 y_4) = some r) : roadref3_Matches_k.I (.j0 a_io2_0 y_3 y_4) r := by
  unfold roadref3_Matches_k.body at e
  intro W h0 m0 h m bk_io2 A_io2_0_0 n_io2_0_0 c_io2_0_0 bk_3 cs_3 bk_4 cs_4 O ne_io2_0_0 e_3 e_4
  subst ne_io2_0_0
  refine f30.j0_in ?_
  unfold f30.j0T
  refine O.mkMap (ν := Int) (monoV0 (tell_int .i64)) (fun n : Int => Value.int .i64 n) fun h1 x2 O3 => ?_
  obtain ⟨l7, g8, e⟩ := bind_e e
  replace g8 := Option.some.inj g8
  refine O3.mapUpd (x := (2 : Int)) (v := (Value.int .i64 (2 : Int))) 4 rfl (keyOk_int (key := 3) (elem := 3) (by kernel_rfl) (by kernel_rfl)) (3 : Int) (show (eV0 (eInt .i64)) m (2 : Int) (Value.int .i64 (2 : Int)) from rfl) g8 fun h5 O6 => ?_
  obtain ⟨l11, g12, e⟩ := bind_e e
  replace g12 := Option.some.inj g12
  refine O6.mapUpd (x := (3 : Int)) (v := (Value.int .i64 (3 : Int))) 4 rfl (keyOk_int (key := 3) (elem := 3) (by kernel_rfl) (by kernel_rfl)) (4 : Int) (show (eV0 (eInt .i64)) m (3 : Int) (Value.int .i64 (3 : Int)) from rfl) g12 fun h9 O10 => ?_
  obtain ⟨l15, g16, e⟩ := bind_e e
  replace g16 := Option.some.inj g16
  refine O10.mapUpd (x := (4 : Int)) (v := (Value.int .i64 (4 : Int))) 4 rfl (keyOk_int (key := 3) (elem := 3) (by kernel_rfl) (by kernel_rfl)) (5 : Int) (show (eV0 (eInt .i64)) m (4 : Int) (Value.int .i64 (4 : Int)) from rfl) g16 fun h13 O14 => ?_
  obtain ⟨l19, g20, e⟩ := bind_e e
  replace g20 := Option.some.inj g20
  refine O14.mapUpd (x := (5 : Int)) (v := (Value.int .i64 (5 : Int))) 4 rfl (keyOk_int (key := 3) (elem := 3) (by kernel_rfl) (by kernel_rfl)) (6 : Int) (show (eV0 (eInt .i64)) m (5 : Int) (Value.int .i64 (5 : Int)) from rfl) g20 fun h17 O18 => ?_
  have O21 := O18.nm
  refine ⟨_, ld0 (Sub.refl _) (O21.all 2 rfl) (T_api_Pat.g0 e_3), _, rfl, ?_⟩
  refine (O21.om 4 rfl).look (zv := (0 : Int)) (z := (Value.int .i64 (0 : Int))) (keyOk_int (key := 3) (elem := 3) (by kernel_rfl) (by kernel_rfl)) y_3.Kind (by kernel_rfl) rfl (fun v22 hv23 => ?_)
  obtain rfl : v22 = (Value.int .i64 (pgd l19 y_3.Kind (0 : Int))) := (List.cons.inj (show [v22] = [(Value.int .i64 (pgd l19 y_3.Kind (0 : Int)))] from hv23)).1
  refine ⟨_, rfl, ?_⟩
  refine ⟨_, ld0 (Sub.refl _) (O21.all 2 rfl) (T_api_Pat.g0 e_3), _, rfl, ?_⟩
  refine split_eq_e e (fun c24 e => ?_) (fun c24 e => ?_)
  · exact (ih _ _ e) _ _ _ _ _ _ _ _ _ _ _ _ _ (O21.pick [0, 1, 2, 3]).nm rfl e_3 e_4
  · exact (ih _ _ e) _ _ _ _ _ _ _ _ _ _ _ _ _ (O21.pick [0, 1, 2, 3]).nm rfl e_3 e_4
set_option maxRecDepth 100000 in
theorem roadref3_Matches_k.step_j1 (go : (p : roadref3_Matches_k.Pt) → Option (Bool × (List T_api_Value))) (ih : ∀ p r, go p = some r → roadref3_Matches_k.I p r) (a_io2_0 : (List T_api_Value)) (y_3 : T_api_Pat) (y_4 : T_api_Value) (x_7 : Int) (x_28 : Int) (b_29 : Bool) (r : Bool × (List T_api_Value)) (e : roadref3_Matches_k.body go (.j1 a_io2_0 y_3 y_4 x_7 x_28 b_29) = some r) : roadref3_Matches_k.I (.j1 a_io2_0 y_3 y_4 x_7 x_28 b_29) r := by
  unfold roadref3_Matches_k.body at e
  intro W h0 m0 h m bk_io2 A_io2_0_0 n_io2_0_0 c_io2_0_0 bk_3 cs_3 bk_4 cs_4 O ne_io2_0_0 e_3 e_4
  subst ne_io2_0_0
  refine f30.j1_in ?_
  unfold f30.j1T
  refine split_any_e e (fun c2 e => ?_) (fun c2 e => ?_)
  · cases e
    exact ⟨_, _, _, _, O.pick [0, 1], rfl, rfl⟩
  · refine split_eq_e e (fun c1 e => ?_) (fun c1 e => ?_)
    · exact (ih _ _ e) _ _ _ _ _ _ _ _ _ _ _ _ _ (O.pick [0, 1, 2, 3]).nm rfl e_3 e_4
    · exact (ih _ _ e) _ _ _ _ _ _ _ _ _ _ _ _ _ (O.pick [0, 1, 2, 3]).nm rfl e_3 e_4
set_option maxHeartbeats 4000000 in
set_option maxRecDepth 100000 in
theorem roadref3_Matches_k.step_j2 (go : (p : roadref3_Matches_k.Pt) → Option (Bool × (List T_api_Value))) (ih : ∀ p r, go p = some r → roadref3_Matches_k.I p r) (a_io2_0 : (List T_api_Value)) (y_3 : T_api_Pat) (y_4 : T_api_Value) (x_7 : Int) (x_28 : Int) (b_32 : Bool) (r : Bool × (List T_api_Value)) (e : roadref3_Matches_k.body go (.j2 a_io2_0 y_3 y_4 x_7 x_28 b_32) = some r) : roadref3_Matches_k.I (.j2 a_io2_0 y_3 y_4 x_7 x_28 b_32) r := by
  unfold roadref3_Matches_k.body at e
  intro W h0 m0 h m bk_io2 A_io2_0_0 n_io2_0_0 c_io2_0_0 bk_3 cs_3 bk_4 cs_4 O ne_io2_0_0 e_3 e_4
  subst ne_io2_0_0
  refine f30.j2_in ?_
  unfold f30.j2T
  refine split_any_e e (fun c17 e => ?_) (fun c17 e => ?_)
  · refine ⟨_, ld0 (Sub.refl _) (O.all 3 rfl) (T_api_Value.g0 e_4), _, rfl, ?_⟩
    refine split_eq_e e (fun c1 e => ?_) (fun c1 e => ?_)
    · refine ⟨_, ldk (k := 1) (Sub.refl _) (O.all 3 rfl) (T_api_Value.g1 e_4), _, rfl, ?_⟩
      refine ⟨_, ldk (k := 1) (Sub.refl _) (O.all 2 rfl) (T_api_Pat.g1 e_3), _, rfl, ?_⟩
      cases e
      exact ⟨_, _, _, _, O.pick [0, 1], rfl, rfl⟩
    · cases e
      exact ⟨_, _, _, _, O.pick [0, 1], rfl, rfl⟩
  · refine split_eq_e e (fun c16 e => ?_) (fun c16 e => ?_)
    · refine ⟨_, ld0 (Sub.refl _) (O.all 3 rfl) (T_api_Value.g0 e_4), _, rfl, ?_⟩
      refine split_eq_e e (fun c2 e => ?_) (fun c2 e => ?_)
      · refine ⟨_, ldk (k := 2) (Sub.refl _) (O.all 3 rfl) (T_api_Value.g2 e_4), _, rfl, ?_⟩
        refine ⟨_, ldk (k := 2) (Sub.refl _) (O.all 2 rfl) (T_api_Pat.g2 e_3), _, rfl, ?_⟩
        try rw [ba_list y_4.Text y_3.Text]
        cases e
        exact ⟨_, _, _, _, O.pick [0, 1], rfl, rfl⟩
      · cases e
        exact ⟨_, _, _, _, O.pick [0, 1], rfl, rfl⟩
    · refine split_eq_e e (fun c15 e => ?_) (fun c15 e => ?_)
      · refine ⟨_, ld0 (Sub.refl _) (O.all 3 rfl) (T_api_Value.g0 e_4), _, rfl, ?_⟩
        refine split_eq_e e (fun c14 e => ?_) (fun c14 e => ?_)
        · refine ⟨_, ldk (k := 2) (Sub.refl _) (O.all 3 rfl) (T_api_Value.g2 e_4), _, rfl, ?_⟩
          refine ⟨_, ldk (k := 2) (Sub.refl _) (O.all 2 rfl) (T_api_Pat.g2 e_3), _, rfl, ?_⟩
          try rw [ba_list y_4.Text y_3.Text]
          refine split_dec_e e (fun c13 e => ?_) (fun c13 e => ?_)
          · obtain ⟨A3, c4, q5, k6, r7⟩ := T_api_Value.g3 e_4
            refine ⟨_, ldk (k := 3) (Sub.refl _) (O.all 3 rfl) q5, _, _, _, rfl, ?_⟩
            obtain ⟨A8, c9, q10, k11, r12⟩ := T_api_Pat.g3 e_3
            refine ⟨_, ldk (k := 3) (Sub.refl _) (O.all 2 rfl) q10, _, _, _, rfl, ?_⟩
            exact (ih _ _ e) _ _ _ _ _ _ _ _ _ _ _ _ _ (O.pick [0, 1, 2, 3]).nm rfl e_3 e_4
          · exact (ih _ _ e) _ _ _ _ _ _ _ _ _ _ _ _ _ (O.pick [0, 1, 2, 3]).nm rfl e_3 e_4
        · exact (ih _ _ e) _ _ _ _ _ _ _ _ _ _ _ _ _ (O.pick [0, 1, 2, 3]).nm rfl e_3 e_4
      · cases e
        exact ⟨_, _, _, _, O.pick [0, 1], rfl, rfl⟩
set_option maxRecDepth 100000 in
theorem roadref3_Matches_k.step_j3 (go : (p : roadref3_Matches_k.Pt) → Option (Bool × (List T_api_Value))) (ih : ∀ p r, go p = some r → roadref3_Matches_k.I p r) (a_io2_0 : (List T_api_Value)) (y_3 : T_api_Pat) (y_4 : T_api_Value) (b_8 : Bool) (r : Bool × (List T_api_Value)) (e : roadref3_Matches_k.body go (.j3 a_io2_0 y_3 y_4 b_8) = some r) : roadref3_Matches_k.I (.j3 a_io2_0 y_3 y_4 b_8) r := by
  unfold roadref3_Matches_k.body at e
  intro W h0 m0 h m bk_io2 A_io2_0_0 n_io2_0_0 c_io2_0_0 bk_3 cs_3 bk_4 cs_4 O ne_io2_0_0 e_3 e_4
  subst ne_io2_0_0
  refine f30.j3_in ?_
  unfold f30.j3T
  exact (ih _ _ e) _ _ _ _ _ _ _ _ _ _ _ _ _ (O.pick [0, 1, 2, 3]).nm rfl e_3 e_4
set_option maxRecDepth 100000 in
theorem roadref3_Matches_k.step_l0 (go : (p : roadref3_Matches_k.Pt) → Option (Bool × (List T_api_Value))) (ih : ∀ p r, go p = some r → roadref3_Matches_k.I p r) (a_io2_0 : (List T_api_Value)) (y_3 : T_api_Pat) (y_4 : T_api_Value) (b_8 : Bool) (x_9 : Int) (r : Bool × (List T_api_Value)) (e : roadref3_Matches_k.body go (.l0 a_io2_0 y_3 y_4 b_8 x_9) = some r) : roadref3_Matches_k.I (.l0 a_io2_0 y_3 y_4 b_8 x_9) r := by
  unfold roadref3_Matches_k.body at e
  intro W h0 m0 h m bk_io2 A_io2_0_0 n_io2_0_0 c_io2_0_0 bk_3 cs_3 bk_4 cs_4 O ne_io2_0_0 e_3 e_4
  subst ne_io2_0_0
  refine f30.l0_in ?_
  unfold f30.l0T
  refine split_any_e e (fun c7 e => ?_) (fun c7 e => ?_)
  · obtain ⟨A1, c2, q3, k4, r5⟩ := T_api_Pat.g3 e_3
    refine ⟨_, ldk (k := 3) (Sub.refl _) (O.all 2 rfl) q3, _, _, _, rfl, ?_⟩
    refine split_dec_e e (fun c6 e => ?_) (fun c6 e => ?_)
    · exact (ih _ _ e) _ _ _ _ _ _ _ _ _ _ _ _ _ (O.pick [0, 1, 2, 3]).nm rfl e_3 e_4
    · cases e
      exact ⟨_, _, _, _, O.pick [0, 1], rfl, rfl⟩
  · cases e
    exact ⟨_, _, _, _, O.pick [0, 1], rfl, rfl⟩
set_option maxRecDepth 100000 in
theorem roadref3_Matches_k.step_j4 (go : (p : roadref3_Matches_k.Pt) → Option (Bool × (List T_api_Value))) (ih : ∀ p r, go p = some r → roadref3_Matches_k.I p r) (a_io2_0 : (List T_api_Value)) (y_3 : T_api_Pat) (y_4 : T_api_Value) (x_9 : Int) (r : Bool × (List T_api_Value)) (e : roadref3_Matches_k.body go (.j4 a_io2_0 y_3 y_4 x_9) = some r) : roadref3_Matches_k.I (.j4 a_io2_0 y_3 y_4 x_9) r := by
  unfold roadref3_Matches_k.body at e
  intro W h0 m0 h m bk_io2 A_io2_0_0 n_io2_0_0 c_io2_0_0 bk_3 cs_3 bk_4 cs_4 O ne_io2_0_0 e_3 e_4
  subst ne_io2_0_0
  refine f30.j4_in ?_
  unfold f30.j4T
  obtain ⟨A1, c2, q3, k4, r5⟩ := T_api_Pat.g3 e_3
  refine ⟨_, ldk (k := 3) (Sub.refl _) (O.all 2 rfl) q3, _, _, _, rfl, ?_⟩
  obtain ⟨y6, g7, e⟩ := bind_e e
  refine r5.addr rfl g7 fun a8 cs9 ha10 hc11 he12 => ?_
  refine ⟨_, ldAn O.s hc11 rfl, ?_⟩
  obtain ⟨A13, c14, q15, k16, r17⟩ := T_api_Value.g3 e_4
  refine ⟨_, ldk (k := 3) (Sub.refl _) (O.all 3 rfl) q15, _, _, _, rfl, ?_⟩
  obtain ⟨y18, g19, e⟩ := bind_e e
  refine r17.addr rfl g19 fun a20 cs21 ha22 hc23 he24 => ?_
  refine ⟨_, ldAn O.s hc23 rfl, ?_⟩
  obtain ⟨y25, g26, e⟩ := bind_e e
  obtain ⟨W31, P32, B33, C34⟩ := O.callC [0, 1]
  refine ((ih _ _ g26) _ _ _ _ _ _ _ _ _ P32 he12 he24 rfl).mono ?_
  rintro _ h27 ⟨m28, A_35_0, n_35_0, c_35_0, Q29, rfl, ne_35_0⟩
  have O37 := Hold.nm (B33 Q29)
  subst ne_35_0
  refine ⟨_, rfl, ?_⟩
  exact (ih _ _ e) _ _ _ _ _ _ _ _ _ _ _ _ _ (O37.pick [4, 5, 2, 3]).nm rfl (T_api_Pat.T.mono _ _ _ _ Q29.S.up e_3) (T_api_Value.T.mono _ _ _ _ Q29.S.up e_4)
theorem roadref3_Matches_k.all {p : roadref3_Matches_k.Pt} {r : (Bool × (List T_api_Value))} (e : roadref3_Matches_k.go p = some r) : roadref3_Matches_k.I p r := fixF_ind (β := fun _ => (Bool × (List T_api_Value))) roadref3_Matches_k.mono (I := roadref3_Matches_k.I) (fun go ih p r e => match p with
  | .f y_0 y_1 y_2 => roadref3_Matches_k.step_f go ih y_0 y_1 y_2 r e
  | .j0 a_io2_0 y_3 y_4 => roadref3_Matches_k.step_j0 go ih a_io2_0 y_3 y_4 r e
  | .j1 a_io2_0 y_3 y_4 x_7 x_28 b_29 => roadref3_Matches_k.step_j1 go ih a_io2_0 y_3 y_4 x_7 x_28 b_29 r e
  | .j2 a_io2_0 y_3 y_4 x_7 x_28 b_32 => roadref3_Matches_k.step_j2 go ih a_io2_0 y_3 y_4 x_7 x_28 b_32 r e
  | .j3 a_io2_0 y_3 y_4 b_8 => roadref3_Matches_k.step_j3 go ih a_io2_0 y_3 y_4 b_8 r e
  | .l0 a_io2_0 y_3 y_4 b_8 x_9 => roadref3_Matches_k.step_l0 go ih a_io2_0 y_3 y_4 b_8 x_9 r e
  | .j4 a_io2_0 y_3 y_4 x_9 => roadref3_Matches_k.step_j4 go ih a_io2_0 y_3 y_4 x_9 r e
  ) e
theorem roadref3_Matches.walk {W : Nat → Prop} {h m : Heap} {cs_0 : List Value} {cs_1 : List Value} {bkio2 : Nat} {A_2_0 : Option Addr} {n_2_0 : Nat} {c_2_0 : Nat} {y_0 : T_api_Pat} {y_1 : T_api_Value} {y_2 : (List T_api_Value)} (O : Hold W h m h m [rV bkio2 48 [(Value.slice A_2_0 n_2_0 c_2_0)], rR (aE T_api_Value.T) A_2_0 c_2_0 y_2]) (e_0 : T_api_Pat.E m y_0 cs_0) (e_1 : T_api_Value.E m y_1 cs_1) (ne_2_0 : n_2_0 = List.length y_2) {r : Bool × (List T_api_Value)} (e : roadref3_Matches y_0 y_1 y_2 = some r) : Run Try.prog 30 #[Value.agg cs_0.toArray, Value.agg cs_1.toArray, Value.pointer (some ⟨bkio2, 0, none⟩)] h (roadref3_Matches.post W bkio2 h m r) := roadref3_Matches_k.all (p := .f y_0 y_1 y_2) e W h m cs_0 cs_1 bkio2 A_2_0 n_2_0 c_2_0 O e_0 e_1 ne_2_0
def roadref3_SameValue.post (W : Nat → Prop) (h0 m0 : Heap) (r : Bool) (v : Value) (h : Heap) : Prop := ∃ m , Hold W h0 m0 h m [] ∧ v = .bool r
inductive roadref3_SameValue_k.Pt where
  | f (y_0 : T_api_Value) (y_1 : T_api_Value)
  | j0 (y_2 : T_api_Value) (y_3 : T_api_Value)
  | l0 (y_2 : T_api_Value) (y_3 : T_api_Value) (x_36 : Int) (x_37 : Int)
noncomputable def roadref3_SameValue_k.body (go : (p : roadref3_SameValue_k.Pt) → Option (Bool)) : (p : roadref3_SameValue_k.Pt) → Option (Bool)
  | .f y_0 y_1 => if y_0.Kind = y_1.Kind then (if y_0.Num = y_1.Num then (if y_0.Text = y_1.Text then (if (((List.length y_0.Args) : Nat) : Int) = (((List.length y_1.Args) : Nat) : Int) then ((go (.j0 y_0 y_1))) else (some (false))) else (some (false))) else (some (false))) else (some (false))
  | .j0 y_2 y_3 => (go (.l0 y_2 y_3 (((List.length y_2.Args) : Nat) : Int) (0 : Int)))
  | .l0 y_2 y_3 x_36 x_37 => if x_37 < x_36 then (Option.bind (gi y_2.Args x_37) fun y6 => Option.bind (gi y_3.Args x_37) fun y18 => Option.bind ((go (.f y6 y18))) fun y25 => if y25 = true then ((go (.l0 y_2 y_3 x_36 (IntKind.wrap .i64 (x_37 + (1 : Int)))))) else (some (false))) else (some (true))
theorem roadref3_SameValue_k.mono : MonoF (β := fun _ => (Bool)) roadref3_SameValue_k.body := fun f g hfg p => match p with
  | .f y_0 y_1 => LeO.ite (LeO.ite (LeO.ite (LeO.ite ((hfg _)) (LeO.refl _)) (LeO.refl _)) (LeO.refl _)) (LeO.refl _)
  | .j0 y_2 y_3 => (hfg _)
  | .l0 y_2 y_3 x_36 x_37 => LeO.ite (LeO.bind (LeO.refl _) fun y6 => LeO.bind (LeO.refl _) fun y18 => LeO.bind ((hfg _)) fun y25 => LeO.ite ((hfg _)) (LeO.refl _)) (LeO.refl _)
noncomputable def roadref3_SameValue_k.go (p : roadref3_SameValue_k.Pt) : Option (Bool) := fixF (β := fun _ => (Bool)) roadref3_SameValue_k.body p
noncomputable def roadref3_SameValue (y_0 : T_api_Value) (y_1 : T_api_Value) : Option (Bool) := roadref3_SameValue_k.go (.f y_0 y_1)
noncomputable def roadref3_SameValue.j0 (y_2 : T_api_Value) (y_3 : T_api_Value) : Option (Bool) := roadref3_SameValue_k.go (.j0 y_2 y_3)
noncomputable def roadref3_SameValue.l0 (y_2 : T_api_Value) (y_3 : T_api_Value) (x_36 : Int) (x_37 : Int) : Option (Bool) := roadref3_SameValue_k.go (.l0 y_2 y_3 x_36 x_37)
theorem roadref3_SameValue_eq (y_0 : T_api_Value) (y_1 : T_api_Value) : roadref3_SameValue y_0 y_1 = if y_0.Kind = y_1.Kind then (if y_0.Num = y_1.Num then (if y_0.Text = y_1.Text then (if (((List.length y_0.Args) : Nat) : Int) = (((List.length y_1.Args) : Nat) : Int) then ((roadref3_SameValue.j0 y_0 y_1)) else (some (false))) else (some (false))) else (some (false))) else (some (false)) := fixF_eq roadref3_SameValue_k.mono _
theorem roadref3_SameValue.j0_eq (y_2 : T_api_Value) (y_3 : T_api_Value) : roadref3_SameValue.j0 y_2 y_3 = (roadref3_SameValue.l0 y_2 y_3 (((List.length y_2.Args) : Nat) : Int) (0 : Int)) := fixF_eq roadref3_SameValue_k.mono _
theorem roadref3_SameValue.l0_eq (y_2 : T_api_Value) (y_3 : T_api_Value) (x_36 : Int) (x_37 : Int) : roadref3_SameValue.l0 y_2 y_3 x_36 x_37 = if x_37 < x_36 then (Option.bind (gi y_2.Args x_37) fun y6 => Option.bind (gi y_3.Args x_37) fun y18 => Option.bind ((roadref3_SameValue y6 y18)) fun y25 => if y25 = true then ((roadref3_SameValue.l0 y_2 y_3 x_36 (IntKind.wrap .i64 (x_37 + (1 : Int))))) else (some (false))) else (some (true)) := fixF_eq roadref3_SameValue_k.mono _
def roadref3_SameValue_k.I : (p : roadref3_SameValue_k.Pt) → (Bool) → Prop
  | .f y_0 y_1, r => ∀ (W : Nat → Prop) (h m : Heap) (cs_0 : List Value) (cs_1 : List Value) (O : Hold W h m h m []) (e_0 : T_api_Value.E m y_0 cs_0) (e_1 : T_api_Value.E m y_1 cs_1), Run Try.prog 86 #[Value.agg cs_0.toArray, Value.agg cs_1.toArray] h (roadref3_SameValue.post W h m r)
  | .j0 y_2 y_3, r => ∀ (W : Nat → Prop) (h0 m0 h m : Heap) (bk_2 : Nat) (cs_2 : List Value) (bk_3 : Nat) (cs_3 : List Value) (O : Hold W h0 m0 h m [rV bk_2 50 cs_2, rV bk_3 50 cs_3]) (e_2 : T_api_Value.E m y_2 cs_2) (e_3 : T_api_Value.E m y_3 cs_3), f86.j0 (roadref3_SameValue.post W h0 m0 r) (⟨bk_2, 0, none⟩ : Addr) (⟨bk_3, 0, none⟩ : Addr) h
  | .l0 y_2 y_3 x_36 x_37, r => ∀ (W : Nat → Prop) (h0 m0 h m : Heap) (bk_2 : Nat) (cs_2 : List Value) (bk_3 : Nat) (cs_3 : List Value) (O : Hold W h0 m0 h m [rV bk_2 50 cs_2, rV bk_3 50 cs_3]) (e_2 : T_api_Value.E m y_2 cs_2) (e_3 : T_api_Value.E m y_3 cs_3), f86.l0 (roadref3_SameValue.post W h0 m0 r) (⟨bk_2, 0, none⟩ : Addr) (⟨bk_3, 0, none⟩ : Addr) x_36 x_37 h
set_option maxHeartbeats 4000000 in
set_option maxRecDepth 100000 in
theorem roadref3_SameValue_k.step_f (go : (p : roadref3_SameValue_k.Pt) → Option (Bool)) (ih : ∀ p r, go p = some r → roadref3_SameValue_k.I p r) (y_0 : T_api_Value) (y_1 : T_api_Value) (r : Bool) (e : roadref3_SameValue_k.body go (.f y_0 y_1) = some r) : roadref3_SameValue_k.I (.f y_0 y_1) r := by
  unfold roadref3_SameValue_k.body at e
  intro W h m cs_0 cs_1 O e_0 e_1
  refine f86.run ?_
  unfold f86.runT
  refine O.new fun h1 x2 O3 => ?_
  refine O3.new fun h5 x6 O7 => ?_
  refine ⟨_, ld0 (Sub.refl _) (O7.all 0 rfl) (T_api_Value.g0 e_0), _, rfl, ?_⟩
  refine ⟨_, ld0 (Sub.refl _) (O7.all 1 rfl) (T_api_Value.g0 e_1), _, rfl, ?_⟩
  refine split_ne_e e (fun c27 e => ?_) (fun c27 e => ?_)
  · have O9 := O7.nm
    cases e
    exact ⟨_, O9.pick [], rfl⟩
  · refine ⟨_, ldk (k := 1) (Sub.refl _) (O7.all 0 rfl) (T_api_Value.g1 e_0), _, rfl, ?_⟩
    refine ⟨_, ldk (k := 1) (Sub.refl _) (O7.all 1 rfl) (T_api_Value.g1 e_1), _, rfl, ?_⟩
    refine split_ne_e e (fun c26 e => ?_) (fun c26 e => ?_)
    · have O10 := O7.nm
      cases e
      exact ⟨_, O10.pick [], rfl⟩
    · refine ⟨_, ldk (k := 2) (Sub.refl _) (O7.all 0 rfl) (T_api_Value.g2 e_0), _, rfl, ?_⟩
      refine ⟨_, ldk (k := 2) (Sub.refl _) (O7.all 1 rfl) (T_api_Value.g2 e_1), _, rfl, ?_⟩
      try rw [ba_list y_0.Text y_1.Text]
      refine split_not ?_
      refine split_dec_e e (fun c25 e => ?_) (fun c25 e => ?_)
      · obtain ⟨A11, c12, q13, k14, r15⟩ := T_api_Value.g3 e_0
        refine ⟨_, ldk (k := 3) (Sub.refl _) (O7.all 0 rfl) q13, _, _, _, rfl, ?_⟩
        obtain ⟨A16, c17, q18, k19, r20⟩ := T_api_Value.g3 e_1
        refine ⟨_, ldk (k := 3) (Sub.refl _) (O7.all 1 rfl) q18, _, _, _, rfl, ?_⟩
        refine split_ne_e e (fun c23 e => ?_) (fun c23 e => ?_)
        · have O21 := O7.nm
          cases e
          exact ⟨_, O21.pick [], rfl⟩
        · have O22 := O7.nm
          exact (ih _ _ e) _ _ _ _ _ _ _ _ _ (O22.pick [0, 1]).nm e_0 e_1
      · have O24 := O7.nm
        cases e
        exact ⟨_, O24.pick [], rfl⟩
set_option maxRecDepth 100000 in
theorem roadref3_SameValue_k.step_j0 (go : (p : roadref3_SameValue_k.Pt) → Option (Bool)) (ih : ∀ p r, go p = some r → roadref3_SameValue_k.I p r) (y_2 : T_api_Value) (y_3 : T_api_Value) (r : Bool) (e : roadref3_SameValue_k.body go (.j0 y_2 y_3) = some r) : roadref3_SameValue_k.I (.j0 y_2 y_3) r := by
  unfold roadref3_SameValue_k.body at e
  intro W h0 m0 h m bk_2 cs_2 bk_3 cs_3 O e_2 e_3
  refine f86.j0_in ?_
  unfold f86.j0T
  obtain ⟨A1, c2, q3, k4, r5⟩ := T_api_Value.g3 e_2
  refine ⟨_, ldk (k := 3) (Sub.refl _) (O.all 0 rfl) q3, _, _, _, rfl, ?_⟩
  exact (ih _ _ e) _ _ _ _ _ _ _ _ _ (O.pick [0, 1]).nm e_2 e_3
set_option maxRecDepth 100000 in
theorem roadref3_SameValue_k.step_l0 (go : (p : roadref3_SameValue_k.Pt) → Option (Bool)) (ih : ∀ p r, go p = some r → roadref3_SameValue_k.I p r) (y_2 : T_api_Value) (y_3 : T_api_Value) (x_36 : Int) (x_37 : Int) (r : Bool) (e : roadref3_SameValue_k.body go (.l0 y_2 y_3 x_36 x_37) = some r) : roadref3_SameValue_k.I (.l0 y_2 y_3 x_36 x_37) r := by
  unfold roadref3_SameValue_k.body at e
  intro W h0 m0 h m bk_2 cs_2 bk_3 cs_3 O e_2 e_3
  refine f86.l0_in ?_
  unfold f86.l0T
  refine split_dec_e e (fun c33 e => ?_) (fun c33 e => ?_)
  · obtain ⟨A1, c2, q3, k4, r5⟩ := T_api_Value.g3 e_2
    refine ⟨_, ldk (k := 3) (Sub.refl _) (O.all 0 rfl) q3, _, _, _, rfl, ?_⟩
    obtain ⟨y6, g7, e⟩ := bind_e e
    refine r5.addr rfl g7 fun a8 cs9 ha10 hc11 he12 => ?_
    refine ⟨_, ldAn O.s hc11 rfl, ?_⟩
    obtain ⟨A13, c14, q15, k16, r17⟩ := T_api_Value.g3 e_3
    refine ⟨_, ldk (k := 3) (Sub.refl _) (O.all 1 rfl) q15, _, _, _, rfl, ?_⟩
    obtain ⟨y18, g19, e⟩ := bind_e e
    refine r17.addr rfl g19 fun a20 cs21 ha22 hc23 he24 => ?_
    refine ⟨_, ldAn O.s hc23 rfl, ?_⟩
    obtain ⟨y25, g26, e⟩ := bind_e e
    refine ((ih _ _ g26) _ _ _ _ _ (Hold.start (W := No) O.s) he12 he24).mono ?_
    rintro _ h27 ⟨m28, Q29, rfl⟩
    have O31 := Hold.nm (O.retC Q29 vfs_nil)
    refine ⟨_, rfl, ?_⟩
    refine split_not ?_
    refine split_any_e e (fun c32 e => ?_) (fun c32 e => ?_)
    · exact (ih _ _ e) _ _ _ _ _ _ _ _ _ (O31.pick [0, 1]).nm e_2 e_3
    · cases e
      exact ⟨_, O31.pick [], rfl⟩
  · cases e
    exact ⟨_, O.pick [], rfl⟩
theorem roadref3_SameValue_k.all {p : roadref3_SameValue_k.Pt} {r : (Bool)} (e : roadref3_SameValue_k.go p = some r) : roadref3_SameValue_k.I p r := fixF_ind (β := fun _ => (Bool)) roadref3_SameValue_k.mono (I := roadref3_SameValue_k.I) (fun go ih p r e => match p with
  | .f y_0 y_1 => roadref3_SameValue_k.step_f go ih y_0 y_1 r e
  | .j0 y_2 y_3 => roadref3_SameValue_k.step_j0 go ih y_2 y_3 r e
  | .l0 y_2 y_3 x_36 x_37 => roadref3_SameValue_k.step_l0 go ih y_2 y_3 x_36 x_37 r e
  ) e
theorem roadref3_SameValue.walk {W : Nat → Prop} {h m : Heap} {cs_0 : List Value} {cs_1 : List Value} {y_0 : T_api_Value} {y_1 : T_api_Value} (O : Hold W h m h m []) (e_0 : T_api_Value.E m y_0 cs_0) (e_1 : T_api_Value.E m y_1 cs_1) {r : Bool} (e : roadref3_SameValue y_0 y_1 = some r) : Run Try.prog 86 #[Value.agg cs_0.toArray, Value.agg cs_1.toArray] h (roadref3_SameValue.post W h m r) := roadref3_SameValue_k.all (p := .f y_0 y_1) e W h m cs_0 cs_1 O e_0 e_1
def roadref3_SameValues.post (W : Nat → Prop) (h0 m0 : Heap) (r : Bool) (v : Value) (h : Heap) : Prop := ∃ m , Hold W h0 m0 h m [] ∧ v = .bool r
inductive roadref3_SameValues.l0_k.Pt where
  | l0 (a_0 : List T_api_Value) (a_1 : List T_api_Value) (x_12 : Int) (x_13 : Int)
noncomputable def roadref3_SameValues.l0_k.body (go : (p : roadref3_SameValues.l0_k.Pt) → Option (Bool)) : (p : roadref3_SameValues.l0_k.Pt) → Option (Bool)
  | .l0 a_0 a_1 x_12 x_13 => if x_13 < x_12 then (Option.bind (gi a_0 x_13) fun y1 => Option.bind (gi a_1 x_13) fun y8 => Option.bind (roadref3_SameValue y1 y8) fun y15 => if y15 = true then ((go (.l0 a_0 a_1 x_12 (IntKind.wrap .i64 (x_13 + (1 : Int)))))) else (some (false))) else (some (true))
theorem roadref3_SameValues.l0_k.mono : MonoF (β := fun _ => (Bool)) roadref3_SameValues.l0_k.body := fun f g hfg p => match p with
  | .l0 a_0 a_1 x_12 x_13 => LeO.ite (LeO.bind (LeO.refl _) fun y1 => LeO.bind (LeO.refl _) fun y8 => LeO.bind (LeO.refl _) fun y15 => LeO.ite ((hfg _)) (LeO.refl _)) (LeO.refl _)
noncomputable def roadref3_SameValues.l0_k.go (p : roadref3_SameValues.l0_k.Pt) : Option (Bool) := fixF (β := fun _ => (Bool)) roadref3_SameValues.l0_k.body p
noncomputable def roadref3_SameValues.l0 (a_0 : List T_api_Value) (a_1 : List T_api_Value) (x_12 : Int) (x_13 : Int) : Option (Bool) := roadref3_SameValues.l0_k.go (.l0 a_0 a_1 x_12 x_13)
theorem roadref3_SameValues.l0_eq (a_0 : List T_api_Value) (a_1 : List T_api_Value) (x_12 : Int) (x_13 : Int) : roadref3_SameValues.l0 a_0 a_1 x_12 x_13 = if x_13 < x_12 then (Option.bind (gi a_0 x_13) fun y1 => Option.bind (gi a_1 x_13) fun y8 => Option.bind (roadref3_SameValue y1 y8) fun y15 => if y15 = true then ((roadref3_SameValues.l0 a_0 a_1 x_12 (IntKind.wrap .i64 (x_13 + (1 : Int))))) else (some (false))) else (some (true)) := fixF_eq roadref3_SameValues.l0_k.mono _
def roadref3_SameValues.l0_k.I : (p : roadref3_SameValues.l0_k.Pt) → (Bool) → Prop
  | .l0 a_0 a_1 x_12 x_13, r => ∀ (W : Nat → Prop) (h0 m0 h m : Heap) (A_0 : Option Addr) (n_0 c_0 : Nat) (A_1 : Option Addr) (n_1 c_1 : Nat) (O : Hold W h0 m0 h m []) (ne_0 : n_0 = List.length a_0) (k_0 : List.length a_0 ≤ c_0) (r_0 : Rd 4 T_api_Value.E m A_0 a_0) (ne_1 : n_1 = List.length a_1) (k_1 : List.length a_1 ≤ c_1) (r_1 : Rd 4 T_api_Value.E m A_1 a_1), f31.l0 (roadref3_SameValues.post W h0 m0 r) A_0 n_0 c_0 A_1 n_1 c_1 x_12 x_13 h
set_option maxRecDepth 100000 in
theorem roadref3_SameValues.l0_k.step_l0 (go : (p : roadref3_SameValues.l0_k.Pt) → Option (Bool)) (ih : ∀ p r, go p = some r → roadref3_SameValues.l0_k.I p r) (a_0 : List T_api_Value) (a_1 : List T_api_Value) (x_12 : Int) (x_13 : Int) (r : Bool) (e : roadref3_SameValues.l0_k.body go (.l0 a_0 a_1 x_12 x_13) = some r) : roadref3_SameValues.l0_k.I (.l0 a_0 a_1 x_12 x_13) r := by
  unfold roadref3_SameValues.l0_k.body at e
  intro W h0 m0 h m A_0 n_0 c_0 A_1 n_1 c_1 O ne_0 k_0 r_0 ne_1 k_1 r_1
  subst ne_0
  subst ne_1
  refine f31.l0_in ?_
  unfold f31.l0T
  refine split_dec_e e (fun c23 e => ?_) (fun c23 e => ?_)
  · obtain ⟨y1, g2, e⟩ := bind_e e
    refine r_0.addr rfl g2 fun a3 cs4 ha5 hc6 he7 => ?_
    obtain ⟨y8, g9, e⟩ := bind_e e
    refine r_1.addr rfl g9 fun a10 cs11 ha12 hc13 he14 => ?_
    refine ⟨_, ldAn O.s hc6 rfl, ?_⟩
    refine ⟨_, ldAn O.s hc13 rfl, ?_⟩
    obtain ⟨y15, g16, e⟩ := bind_e e
    refine (roadref3_SameValue.walk (Hold.start (W := No) O.s) he7 he14 g16).mono ?_
    rintro _ h17 ⟨m18, Q19, rfl⟩
    have O21 := Hold.nm (O.retC Q19 vfs_nil)
    refine ⟨_, rfl, ?_⟩
    refine split_not ?_
    refine split_any_e e (fun c22 e => ?_) (fun c22 e => ?_)
    · exact (ih _ _ e) _ _ _ _ _ _ _ _ _ _ _ (O21.pick []).nm rfl k_0 r_0 rfl k_1 r_1
    · cases e
      exact ⟨_, O21.pick [], rfl⟩
  · cases e
    exact ⟨_, O.pick [], rfl⟩
theorem roadref3_SameValues.l0_k.all {p : roadref3_SameValues.l0_k.Pt} {r : (Bool)} (e : roadref3_SameValues.l0_k.go p = some r) : roadref3_SameValues.l0_k.I p r := fixF_ind (β := fun _ => (Bool)) roadref3_SameValues.l0_k.mono (I := roadref3_SameValues.l0_k.I) (fun go ih p r e => match p with
  | .l0 a_0 a_1 x_12 x_13 => roadref3_SameValues.l0_k.step_l0 go ih a_0 a_1 x_12 x_13 r e
  ) e
theorem roadref3_SameValues.l0.walk {W : Nat → Prop} {h0 m0 h m : Heap} {A_0 : Option Addr} {n_0 c_0 : Nat} {A_1 : Option Addr} {n_1 c_1 : Nat} {a_0 : List T_api_Value} {a_1 : List T_api_Value} {x_12 : Int} {x_13 : Int} (O : Hold W h0 m0 h m []) (ne_0 : n_0 = List.length a_0) (k_0 : List.length a_0 ≤ c_0) (r_0 : Rd 4 T_api_Value.E m A_0 a_0) (ne_1 : n_1 = List.length a_1) (k_1 : List.length a_1 ≤ c_1) (r_1 : Rd 4 T_api_Value.E m A_1 a_1) {r : Bool} (e : roadref3_SameValues.l0 a_0 a_1 x_12 x_13 = some r) : f31.l0 (roadref3_SameValues.post W h0 m0 r) A_0 n_0 c_0 A_1 n_1 c_1 x_12 x_13 h := roadref3_SameValues.l0_k.all (p := .l0 a_0 a_1 x_12 x_13) e W h0 m0 h m A_0 n_0 c_0 A_1 n_1 c_1 O ne_0 k_0 r_0 ne_1 k_1 r_1
noncomputable def roadref3_SameValues (a_0 : List T_api_Value) (a_1 : List T_api_Value) : Option (Bool) :=
  if (((List.length a_0) : Nat) : Int) = (((List.length a_1) : Nat) : Int) then ((roadref3_SameValues.l0 a_0 a_1 (((List.length a_0) : Nat) : Int) (0 : Int))) else (some (false))
set_option maxRecDepth 100000 in
theorem roadref3_SameValues.walk {W : Nat → Prop} {h m : Heap} {A_0 : Option Addr} {n_0 c_0 : Nat} {A_1 : Option Addr} {n_1 c_1 : Nat} {a_0 : List T_api_Value} {a_1 : List T_api_Value} (O : Hold W h m h m []) (ne_0 : n_0 = List.length a_0) (k_0 : List.length a_0 ≤ c_0) (r_0 : Rd 4 T_api_Value.E m A_0 a_0) (ne_1 : n_1 = List.length a_1) (k_1 : List.length a_1 ≤ c_1) (r_1 : Rd 4 T_api_Value.E m A_1 a_1) {r : Bool} (e : roadref3_SameValues a_0 a_1 = some r) : Run Try.prog 31 #[Value.slice A_0 n_0 c_0, Value.slice A_1 n_1 c_1] h (roadref3_SameValues.post W h m r) := by
  unfold roadref3_SameValues at e
  subst ne_0
  subst ne_1
  refine f31.run ?_
  unfold f31.runT
  refine split_ne_e e (fun c1 e => ?_) (fun c1 e => ?_)
  · cases e
    exact ⟨_, O.pick [], rfl⟩
  · exact roadref3_SameValues.l0.walk (O.pick []).nm rfl k_0 r_0 rfl k_1 r_1 e
def pick_First_1.post (W : Nat → Prop) (h0 m0 : Heap) (r : Bool) (v : Value) (h : Heap) : Prop := ∃ m , Hold W h0 m0 h m [] ∧ v = .bool r
noncomputable def pick_First_1 (y_0 : T_api_Pat) (y_1 : T_api_Value) : Option (Bool) :=
  Option.bind (pick_Fits y_0 y_1) fun y5 => some (y5.2)
set_option maxRecDepth 100000 in
theorem pick_First_1.walk {W : Nat → Prop} {h m : Heap} {cs_0 : List Value} {bk_1 : Nat} {y_0 : T_api_Pat} {y_1 : T_api_Value} (O : Hold W h m h m []) (e_0 : T_api_Pat.E m y_0 cs_0) (v_1 : VB T_api_Value.E m bk_1 y_1) {r : Bool} (e : pick_First_1 y_0 y_1 = some r) : Run Try.prog 87 #[Value.agg cs_0.toArray, Value.pointer (some ⟨bk_1, 0, none⟩)] h (pick_First_1.post W h m r) := by
  unfold pick_First_1 at e
  obtain ⟨cs_1, t_1, hb_1, nn_1, e_1⟩ := id v_1
  refine f87.run ?_
  unfold f87.runT
  refine O.new fun h1 x2 O3 => ?_
  refine ⟨_, ldAn (Sub.refl _) (O3.all 0 rfl) (T_api_Pat.T.len _ _ _ e_0), ?_⟩
  refine ⟨_, ldAn O3.s (Blk.all' hb_1) (T_api_Value.T.len _ _ _ e_1), ?_⟩
  obtain ⟨y5, g6, e⟩ := bind_e e
  refine (pick_Fits.walk (Hold.start (W := No) O3.s) e_0 e_1 g6).mono ?_
  rintro _ h7 ⟨m8, A11, n12, c13, Q9, rfl, ne14⟩
  have O16 := Hold.nm (O3.ret Q9)
  subst ne14
  refine ⟨_, _, _, _, rfl, ?_⟩
  cases e
  exact ⟨_, O16.pick [], rfl⟩
def pick_First.post (W : Nat → Prop) (h0 m0 : Heap) (r : Int) (v : Value) (h : Heap) : Prop := ∃ m , Hold W h0 m0 h m [] ∧ v = .int .i64 r
noncomputable def pick_First (a_0 : List T_api_Pat) (y_1 : T_api_Value) : Option (Int) :=
  Option.bind (slices_IndexFunc_81 a_0 (fun z18 => pick_First_1 z18 y_1)) fun y5 => some (y5)
set_option maxRecDepth 100000 in
theorem pick_First.walk {W : Nat → Prop} {h m : Heap} {A_0 : Option Addr} {n_0 c_0 : Nat} {cs_1 : List Value} {a_0 : List T_api_Pat} {y_1 : T_api_Value} (O : Hold W h m h m []) (ne_0 : n_0 = List.length a_0) (k_0 : List.length a_0 ≤ c_0) (r_0 : Rd 4 T_api_Pat.E m A_0 a_0) (e_1 : T_api_Value.E m y_1 cs_1) {r : Int} (e : pick_First a_0 y_1 = some r) : Run Try.prog 32 #[Value.slice A_0 n_0 c_0, Value.agg cs_1.toArray] h (pick_First.post W h m r) := by
  unfold pick_First at e
  subst ne_0
  refine f32.run ?_
  unfold f32.runT
  refine O.new fun h1 x2 O3 => ?_
  obtain ⟨y5, g6, e⟩ := bind_e e
  have O11 := O3.nm
  obtain ⟨m12, u13, s17, ⟨hb16, _⟩, B14, C15⟩ := O11.lend0 [0]
  refine (slices_IndexFunc_81.walk (Hold.start (W := No) s17) rfl k_0 (r_0.sub T_api_Pat.T u13) (fun h19 m20 u21 s22 y25 cs25 he25 r23 e24 => CallF.of [Value.agg cs25.toArray, Value.pointer (some ⟨(Array.size h), 0, none⟩)] f87.ok rfl ((pick_First_1.walk (Hold.start (W := No) s22) he25 (VB.sub (show VB T_api_Value.E _ _ _ from ⟨_, _, hb16, nn_len (T_api_Value.T.len _ _ _ e_1), (T_api_Value.T.mono _ _ _ _ u13 e_1)⟩) T_api_Value.T u21) e24).mono (fun _ _ h => let ⟨_, t, e⟩ := h; ⟨e, t.S.ext⟩))) g6).mono ?_
  rintro _ h7 ⟨m8, Q9, rfl⟩
  have O26 := Hold.nm (C15 Q9 vfs_nil)
  refine ⟨_, rfl, ?_⟩
  cases e
  exact ⟨_, O26.pick [], rfl⟩
def roadref3_FirstOf.post (W : Nat → Prop) (h0 m0 : Heap) (r : Int) (v : Value) (h : Heap) : Prop := ∃ m , Hold W h0 m0 h m [] ∧ v = .int .i64 r
inductive roadref3_FirstOf.l0_k.Pt where
  | l0 (y_3 : T_api_Value) (a_8 : List T_api_Pat) (x_9 : Int) (x_10 : Int)
noncomputable def roadref3_FirstOf.l0_k.body (go : (p : roadref3_FirstOf.l0_k.Pt) → Option (Int)) : (p : roadref3_FirstOf.l0_k.Pt) → Option (Int)
  | .l0 y_3 a_8 x_9 x_10 => if x_10 < x_9 then (Option.bind (gi a_8 x_10) fun y1 => Option.bind (roadref3_Matches y1 y_3 ([] : List T_api_Value)) fun y20 => if y20.1 = true then (some (x_10)) else ((go (.l0 y_3 a_8 x_9 (IntKind.wrap .i64 (x_10 + (1 : Int))))))) else (some ((-1 : Int)))
theorem roadref3_FirstOf.l0_k.mono : MonoF (β := fun _ => (Int)) roadref3_FirstOf.l0_k.body := fun f g hfg p => match p with
  | .l0 y_3 a_8 x_9 x_10 => LeO.ite (LeO.bind (LeO.refl _) fun y1 => LeO.bind (LeO.refl _) fun y20 => LeO.ite (LeO.refl _) ((hfg _))) (LeO.refl _)
noncomputable def roadref3_FirstOf.l0_k.go (p : roadref3_FirstOf.l0_k.Pt) : Option (Int) := fixF (β := fun _ => (Int)) roadref3_FirstOf.l0_k.body p
noncomputable def roadref3_FirstOf.l0 (y_3 : T_api_Value) (a_8 : List T_api_Pat) (x_9 : Int) (x_10 : Int) : Option (Int) := roadref3_FirstOf.l0_k.go (.l0 y_3 a_8 x_9 x_10)
theorem roadref3_FirstOf.l0_eq (y_3 : T_api_Value) (a_8 : List T_api_Pat) (x_9 : Int) (x_10 : Int) : roadref3_FirstOf.l0 y_3 a_8 x_9 x_10 = if x_10 < x_9 then (Option.bind (gi a_8 x_10) fun y1 => Option.bind (roadref3_Matches y1 y_3 ([] : List T_api_Value)) fun y20 => if y20.1 = true then (some (x_10)) else ((roadref3_FirstOf.l0 y_3 a_8 x_9 (IntKind.wrap .i64 (x_10 + (1 : Int)))))) else (some ((-1 : Int))) := fixF_eq roadref3_FirstOf.l0_k.mono _
def roadref3_FirstOf.l0_k.I : (p : roadref3_FirstOf.l0_k.Pt) → (Int) → Prop
  | .l0 y_3 a_8 x_9 x_10, r => ∀ (W : Nat → Prop) (h0 m0 h m : Heap) (bk_3 : Nat) (cs_3 : List Value) (A_8 : Option Addr) (n_8 c_8 : Nat) (O : Hold W h0 m0 h m [rV bk_3 50 cs_3]) (e_3 : T_api_Value.E m y_3 cs_3) (ne_8 : n_8 = List.length a_8) (k_8 : List.length a_8 ≤ c_8) (r_8 : Rd 4 T_api_Pat.E m A_8 a_8), f33.l0 (roadref3_FirstOf.post W h0 m0 r) (⟨bk_3, 0, none⟩ : Addr) A_8 n_8 c_8 x_9 x_10 h
set_option maxRecDepth 100000 in
theorem roadref3_FirstOf.l0_k.step_l0 (go : (p : roadref3_FirstOf.l0_k.Pt) → Option (Int)) (ih : ∀ p r, go p = some r → roadref3_FirstOf.l0_k.I p r) (y_3 : T_api_Value) (a_8 : List T_api_Pat) (x_9 : Int) (x_10 : Int) (r : Int) (e : roadref3_FirstOf.l0_k.body go (.l0 y_3 a_8 x_9 x_10) = some r) : roadref3_FirstOf.l0_k.I (.l0 y_3 a_8 x_9 x_10) r := by
  unfold roadref3_FirstOf.l0_k.body at e
  intro W h0 m0 h m bk_3 cs_3 A_8 n_8 c_8 O e_3 ne_8 k_8 r_8
  subst ne_8
  refine f33.l0_in ?_
  unfold f33.l0T
  refine split_dec_e e (fun c35 e => ?_) (fun c35 e => ?_)
  · obtain ⟨y1, g2, e⟩ := bind_e e
    refine r_8.addr rfl g2 fun a3 cs4 ha5 hc6 he7 => ?_
    refine ⟨_, ldAn O.s hc6 rfl, ?_⟩
    refine O.new fun h8 x9 O10 => ?_
    refine ⟨_, rfl, (T_api_Pat.T.len _ _ _ he7), ?_⟩
    refine O10.stA 1 rfl (T_api_Pat.T.len _ _ _ he7) (T_api_Pat.T.flat _ _ _ he7) fun h12 O13 => ?_
    refine O13.new fun h14 x15 O16 => ?_
    refine ⟨_, ldAn (Sub.refl _) (O16.all 1 rfl) (T_api_Pat.T.len _ _ _ he7), ?_⟩
    refine ⟨_, ldAn (Sub.refl _) (O16.all 0 rfl) (T_api_Value.T.len _ _ _ e_3), ?_⟩
    obtain ⟨y20, g21, e⟩ := bind_e e
    have O18 := O16.nil (aE T_api_Value.T) none
    have O26 := O18.nm
    obtain ⟨W27, P28, B29, C30⟩ := O26.callC [2, 3]
    refine (roadref3_Matches.walk (y_2 := ([] : List T_api_Value)) P28 he7 e_3 rfl g21).mono ?_
    rintro _ h22 ⟨m23, A_31_0, n_31_0, c_31_0, Q24, rfl, ne_31_0⟩
    have O33 := Hold.nm (B29 Q24)
    subst ne_31_0
    refine ⟨_, rfl, ?_⟩
    refine split_any_e e (fun c34 e => ?_) (fun c34 e => ?_)
    · cases e
      exact ⟨_, O33.pick [], rfl⟩
    · exact (ih _ _ e) _ _ _ _ _ _ _ _ _ _ (O33.pick [0]).nm (T_api_Value.T.mono _ _ _ _ Q24.S.up e_3) rfl k_8 (r_8.sub T_api_Pat.T Q24.S.up)
  · cases e
    exact ⟨_, O.pick [], rfl⟩
theorem roadref3_FirstOf.l0_k.all {p : roadref3_FirstOf.l0_k.Pt} {r : (Int)} (e : roadref3_FirstOf.l0_k.go p = some r) : roadref3_FirstOf.l0_k.I p r := fixF_ind (β := fun _ => (Int)) roadref3_FirstOf.l0_k.mono (I := roadref3_FirstOf.l0_k.I) (fun go ih p r e => match p with
  | .l0 y_3 a_8 x_9 x_10 => roadref3_FirstOf.l0_k.step_l0 go ih y_3 a_8 x_9 x_10 r e
  ) e
theorem roadref3_FirstOf.l0.walk {W : Nat → Prop} {h0 m0 h m : Heap} {bk_3 : Nat} {cs_3 : List Value} {A_8 : Option Addr} {n_8 c_8 : Nat} {y_3 : T_api_Value} {a_8 : List T_api_Pat} {x_9 : Int} {x_10 : Int} (O : Hold W h0 m0 h m [rV bk_3 50 cs_3]) (e_3 : T_api_Value.E m y_3 cs_3) (ne_8 : n_8 = List.length a_8) (k_8 : List.length a_8 ≤ c_8) (r_8 : Rd 4 T_api_Pat.E m A_8 a_8) {r : Int} (e : roadref3_FirstOf.l0 y_3 a_8 x_9 x_10 = some r) : f33.l0 (roadref3_FirstOf.post W h0 m0 r) (⟨bk_3, 0, none⟩ : Addr) A_8 n_8 c_8 x_9 x_10 h := roadref3_FirstOf.l0_k.all (p := .l0 y_3 a_8 x_9 x_10) e W h0 m0 h m bk_3 cs_3 A_8 n_8 c_8 O e_3 ne_8 k_8 r_8
noncomputable def roadref3_FirstOf (a_0 : List T_api_Pat) (y_1 : T_api_Value) : Option (Int) :=
  (roadref3_FirstOf.l0 y_1 a_0 (((List.length a_0) : Nat) : Int) (0 : Int))
set_option maxRecDepth 100000 in
theorem roadref3_FirstOf.walk {W : Nat → Prop} {h m : Heap} {A_0 : Option Addr} {n_0 c_0 : Nat} {cs_1 : List Value} {a_0 : List T_api_Pat} {y_1 : T_api_Value} (O : Hold W h m h m []) (ne_0 : n_0 = List.length a_0) (k_0 : List.length a_0 ≤ c_0) (r_0 : Rd 4 T_api_Pat.E m A_0 a_0) (e_1 : T_api_Value.E m y_1 cs_1) {r : Int} (e : roadref3_FirstOf a_0 y_1 = some r) : Run Try.prog 33 #[Value.slice A_0 n_0 c_0, Value.agg cs_1.toArray] h (roadref3_FirstOf.post W h m r) := by
  unfold roadref3_FirstOf at e
  subst ne_0
  refine f33.run ?_
  unfold f33.runT
  refine O.new fun h1 x2 O3 => ?_
  have O5 := O3.nm
  exact roadref3_FirstOf.l0.walk (O5.pick [0]).nm e_1 rfl k_0 r_0 e
def pick_Choose_1.post (W : Nat → Prop) (bkio2 : Nat) (h0 m0 : Heap) (r : Bool × Int) (v : Value) (h : Heap) : Prop := ∃ m csio2, Hold W h0 m0 h m [rV bkio2 3 csio2] ∧ v = .bool r.1 ∧ (eInt .i64) m r.2 csio2
noncomputable def pick_Choose_1 (y_0 : T_api_Value) (y_1 : (List T_api_Pat)) (y_2 : Int) : Option (Bool × Int) :=
  Option.bind (pick_First y_1 y_0) fun y5 => some ((decide (y5 ≥ (0 : Int))), y5)
set_option maxRecDepth 100000 in
theorem pick_Choose_1.walk {W : Nat → Prop} {h m : Heap} {cs_0 : List Value} {bk_1 : Nat} {bkio2 : Nat} {cs_2 : List Value} {y_0 : T_api_Value} {y_1 : (List T_api_Pat)} {y_2 : Int} (O : Hold W h m h m [rV bkio2 3 cs_2]) (e_0 : T_api_Value.E m y_0 cs_0) (v_1 : VB (eRow 4 T_api_Pat.E) m bk_1 y_1) (e_2 : (eInt .i64) m y_2 cs_2) {r : Bool × Int} (e : pick_Choose_1 y_0 y_1 y_2 = some r) : Run Try.prog 89 #[Value.agg cs_0.toArray, Value.pointer (some ⟨bk_1, 0, none⟩), Value.pointer (some ⟨bkio2, 0, none⟩)] h (pick_Choose_1.post W bkio2 h m r) := by
  unfold pick_Choose_1 at e
  obtain ⟨cs_1, t_1, hb_1, nn_1, e_1⟩ := id v_1
  obtain ⟨Ae_1_0, ce_1_0, rfl, ke_1_0, re_1_0⟩ := id e_1
  obtain rfl : cs_2 = [(Value.int .i64 y_2)] := e_2
  refine f89.run ?_
  unfold f89.runT
  refine O.new fun h1 x2 O3 => ?_
  refine ⟨_, ld0 O3.s (Blk.all' hb_1) rfl, _, _, _, rfl, ?_⟩
  refine ⟨_, ldAn (Sub.refl _) (O3.all 1 rfl) (T_api_Value.T.len _ _ _ e_0), ?_⟩
  obtain ⟨y5, g6, e⟩ := bind_e e
  refine (pick_First.walk (Hold.start (W := No) O3.s) rfl ke_1_0 re_1_0 e_0 g6).mono ?_
  rintro _ h7 ⟨m8, Q9, rfl⟩
  have O11 := Hold.nm (O3.retC Q9 vfs_nil)
  refine ⟨_, rfl, ?_⟩
  refine O11.st0 0 rfl (Nat.le_of_ble_eq_true rfl) trivial fun h12 O13 => ?_
  refine ⟨_, ld0 (Sub.refl _) (O13.all 0 rfl) rfl, _, rfl, ?_⟩
  have O14 := O13.nm
  cases e
  exact ⟨_, _, O14.pick [0], rfl, rfl⟩
def box_Check.post (W : Nat → Prop) (h0 m0 : Heap) (r : Int) (v : Value) (h : Heap) : Prop := ∃ m , Hold W h0 m0 h m [] ∧ v = .int .i64 r
inductive box_Check.l0_k.Pt where
  | l0 (a_23 : List T_api_Letter) (x_24 : Int) (x_25 : Int)
noncomputable def box_Check.l0_k.body (go : (p : box_Check.l0_k.Pt) → Option (Int)) : (p : box_Check.l0_k.Pt) → Option (Int)
  | .l0 a_23 x_24 x_25 => if x_25 < x_24 then (Option.bind (gi a_23 x_25) fun y1 => if y1.Kind = (1 : Int) then ((go (.l0 a_23 x_24 (IntKind.wrap .i64 (x_25 + (1 : Int)))))) else (if y1.Kind = (2 : Int) then ((go (.l0 a_23 x_24 (IntKind.wrap .i64 (x_25 + (1 : Int)))))) else (some ((3 : Int))))) else (some ((0 : Int)))
theorem box_Check.l0_k.mono : MonoF (β := fun _ => (Int)) box_Check.l0_k.body := fun f g hfg p => match p with
  | .l0 a_23 x_24 x_25 => LeO.ite (LeO.bind (LeO.refl _) fun y1 => LeO.ite ((hfg _)) (LeO.ite ((hfg _)) (LeO.refl _))) (LeO.refl _)
noncomputable def box_Check.l0_k.go (p : box_Check.l0_k.Pt) : Option (Int) := fixF (β := fun _ => (Int)) box_Check.l0_k.body p
noncomputable def box_Check.l0 (a_23 : List T_api_Letter) (x_24 : Int) (x_25 : Int) : Option (Int) := box_Check.l0_k.go (.l0 a_23 x_24 x_25)
theorem box_Check.l0_eq (a_23 : List T_api_Letter) (x_24 : Int) (x_25 : Int) : box_Check.l0 a_23 x_24 x_25 = if x_25 < x_24 then (Option.bind (gi a_23 x_25) fun y1 => if y1.Kind = (1 : Int) then ((box_Check.l0 a_23 x_24 (IntKind.wrap .i64 (x_25 + (1 : Int))))) else (if y1.Kind = (2 : Int) then ((box_Check.l0 a_23 x_24 (IntKind.wrap .i64 (x_25 + (1 : Int))))) else (some ((3 : Int))))) else (some ((0 : Int))) := fixF_eq box_Check.l0_k.mono _
def box_Check.l0_k.I : (p : box_Check.l0_k.Pt) → (Int) → Prop
  | .l0 a_23 x_24 x_25, r => ∀ (W : Nat → Prop) (h0 m0 h m : Heap) (A_23 : Option Addr) (n_23 c_23 : Nat) (O : Hold W h0 m0 h m []) (ne_23 : n_23 = List.length a_23) (k_23 : List.length a_23 ≤ c_23) (r_23 : Rd 9 T_api_Letter.E m A_23 a_23), f113.l0 (box_Check.post W h0 m0 r) A_23 n_23 c_23 x_24 x_25 h
set_option maxRecDepth 100000 in
theorem box_Check.l0_k.step_l0 (go : (p : box_Check.l0_k.Pt) → Option (Int)) (ih : ∀ p r, go p = some r → box_Check.l0_k.I p r) (a_23 : List T_api_Letter) (x_24 : Int) (x_25 : Int) (r : Int) (e : box_Check.l0_k.body go (.l0 a_23 x_24 x_25) = some r) : box_Check.l0_k.I (.l0 a_23 x_24 x_25) r := by
  unfold box_Check.l0_k.body at e
  intro W h0 m0 h m A_23 n_23 c_23 O ne_23 k_23 r_23
  subst ne_23
  refine f113.l0_in ?_
  unfold f113.l0T
  refine split_dec_e e (fun c19 e => ?_) (fun c19 e => ?_)
  · obtain ⟨y1, g2, e⟩ := bind_e e
    refine r_23.addr rfl g2 fun a3 cs4 ha5 hc6 he7 => ?_
    refine ⟨_, ldAn O.s hc6 rfl, ?_⟩
    refine O.new fun h8 x9 O10 => ?_
    refine ⟨_, rfl, (T_api_Letter.T.len _ _ _ he7), ?_⟩
    refine O10.stA 0 rfl (T_api_Letter.T.len _ _ _ he7) (T_api_Letter.T.flat _ _ _ he7) fun h12 O13 => ?_
    refine ⟨_, ld0 (Sub.refl _) (O13.all 0 rfl) (T_api_Letter.g0 he7), _, rfl, ?_⟩
    refine split_ne_e e (fun c18 e => ?_) (fun c18 e => ?_)
    · refine ⟨_, ld0 (Sub.refl _) (O13.all 0 rfl) (T_api_Letter.g0 he7), _, rfl, ?_⟩
      refine split_ne_e e (fun c16 e => ?_) (fun c16 e => ?_)
      · have O14 := O13.nm
        cases e
        exact ⟨_, O14.pick [], rfl⟩
      · have O15 := O13.nm
        exact (ih _ _ e) _ _ _ _ _ _ _ _ (O15.pick []).nm rfl k_23 r_23
    · have O17 := O13.nm
      exact (ih _ _ e) _ _ _ _ _ _ _ _ (O17.pick []).nm rfl k_23 r_23
  · cases e
    exact ⟨_, O.pick [], rfl⟩
theorem box_Check.l0_k.all {p : box_Check.l0_k.Pt} {r : (Int)} (e : box_Check.l0_k.go p = some r) : box_Check.l0_k.I p r := fixF_ind (β := fun _ => (Int)) box_Check.l0_k.mono (I := box_Check.l0_k.I) (fun go ih p r e => match p with
  | .l0 a_23 x_24 x_25 => box_Check.l0_k.step_l0 go ih a_23 x_24 x_25 r e
  ) e
theorem box_Check.l0.walk {W : Nat → Prop} {h0 m0 h m : Heap} {A_23 : Option Addr} {n_23 c_23 : Nat} {a_23 : List T_api_Letter} {x_24 : Int} {x_25 : Int} (O : Hold W h0 m0 h m []) (ne_23 : n_23 = List.length a_23) (k_23 : List.length a_23 ≤ c_23) (r_23 : Rd 9 T_api_Letter.E m A_23 a_23) {r : Int} (e : box_Check.l0 a_23 x_24 x_25 = some r) : f113.l0 (box_Check.post W h0 m0 r) A_23 n_23 c_23 x_24 x_25 h := box_Check.l0_k.all (p := .l0 a_23 x_24 x_25) e W h0 m0 h m A_23 n_23 c_23 O ne_23 k_23 r_23
noncomputable def box_Check.j0 (y_1 : T_box_Box) : Option (Int) :=
  (box_Check.l0 y_1.Letters (((List.length y_1.Letters) : Nat) : Int) (0 : Int))
set_option maxRecDepth 100000 in
theorem box_Check.j0.walk {W : Nat → Prop} {h0 m0 h m : Heap} {bk_1 : Nat} {cs_1 : List Value} {y_1 : T_box_Box} (O : Hold W h0 m0 h m [rV bk_1 46 cs_1]) (e_1 : T_box_Box.E m y_1 cs_1) {r : Int} (e : box_Check.j0 y_1 = some r) : f113.j0 (box_Check.post W h0 m0 r) (⟨bk_1, 0, none⟩ : Addr) h := by
  unfold box_Check.j0 at e
  refine f113.j0_in ?_
  unfold f113.j0T
  obtain ⟨A1, c2, q3, k4, r5⟩ := T_box_Box.g0 e_1
  refine ⟨_, ld0 (Sub.refl _) (O.all 0 rfl) q3, _, _, _, rfl, ?_⟩
  exact box_Check.l0.walk (O.pick []).nm rfl k4 r5 e
noncomputable def box_Check (y_0 : T_box_Box) : Option (Int) :=
  if (((List.length y_0.Letters) : Nat) : Int) > (60 : Int) then (some ((2 : Int))) else (if y_0.At < (0 : Int) then (some ((1 : Int))) else (if y_0.At > (((List.length y_0.Letters) : Nat) : Int) then (some ((1 : Int))) else ((box_Check.j0 y_0))))
set_option maxRecDepth 100000 in
theorem box_Check.walk {W : Nat → Prop} {h m : Heap} {cs_0 : List Value} {y_0 : T_box_Box} (O : Hold W h m h m []) (e_0 : T_box_Box.E m y_0 cs_0) {r : Int} (e : box_Check y_0 = some r) : Run Try.prog 113 #[Value.agg cs_0.toArray] h (box_Check.post W h m r) := by
  unfold box_Check at e
  refine f113.run ?_
  unfold f113.runT
  refine O.new fun h1 x2 O3 => ?_
  obtain ⟨A5, c6, q7, k8, r9⟩ := T_box_Box.g0 e_0
  refine ⟨_, ld0 (Sub.refl _) (O3.all 0 rfl) q7, _, _, _, rfl, ?_⟩
  refine split_dec_e e (fun c21 e => ?_) (fun c21 e => ?_)
  · have O10 := O3.nm
    cases e
    exact ⟨_, O10.pick [], rfl⟩
  · refine ⟨_, ldk (k := 1) (Sub.refl _) (O3.all 0 rfl) (T_box_Box.g1 e_0), _, rfl, ?_⟩
    refine split_dec_e e (fun c20 e => ?_) (fun c20 e => ?_)
    · have O11 := O3.nm
      cases e
      exact ⟨_, O11.pick [], rfl⟩
    · refine ⟨_, ldk (k := 1) (Sub.refl _) (O3.all 0 rfl) (T_box_Box.g1 e_0), _, rfl, ?_⟩
      obtain ⟨A12, c13, q14, k15, r16⟩ := T_box_Box.g0 e_0
      refine ⟨_, ld0 (Sub.refl _) (O3.all 0 rfl) q14, _, _, _, rfl, ?_⟩
      refine split_dec_e e (fun c19 e => ?_) (fun c19 e => ?_)
      · have O17 := O3.nm
        cases e
        exact ⟨_, O17.pick [], rfl⟩
      · have O18 := O3.nm
        exact box_Check.j0.walk (O18.pick [0]).nm e_0 e
def slices_Clone_114.post (W : Nat → Prop) (h0 m0 : Heap) (r : (List T_api_Letter)) (v : Value) (h : Heap) : Prop := ∃ m A0 n0 c0, Hold W h0 m0 h m [rR (aE T_api_Letter.T) A0 c0 r] ∧ v = .slice A0 n0 c0 ∧ n0 = List.length r
noncomputable def slices_Clone_114 (a0 : List T_api_Letter) : Option (List T_api_Letter) := ap 104 ([] : List T_api_Letter) a0
set_option maxRecDepth 100000 in
theorem slices_Clone_114.walk {W : Nat → Prop} {h m : Heap} {A0 : Option Addr} {n0 c0 : Nat} {a0 : List T_api_Letter} (O : Hold W h m h m []) (ne0 : n0 = List.length a0) (k0 : List.length a0 ≤ c0) (r0 : Rd 9 T_api_Letter.E m A0 a0) {r : List T_api_Letter} (e : slices_Clone_114 a0 = some r) : Run Try.prog 114 #[Value.slice A0 n0 c0] h (slices_Clone_114.post W h m r) := by
  unfold slices_Clone_114 at e
  subst ne0
  refine f114.run ?_
  unfold f114.runT
  cases A0 with
  | none =>
    refine split_t ?_
    obtain rfl := Rd.void r0
    obtain rfl : [] = r := by have := (ap_e e).2; simpa using this
    exact ⟨m, none, 0, 0, O.nil (aE T_api_Letter.T) none, rfl, rfl⟩
  | some a =>
    refine split_f ?_
    refine O.new fun h1 x1 O1 => ?_
    refine O1.appE0 T_api_Letter.T rfl rfl (r0.srcE T_api_Letter.T O1.s rfl) (by decide) e fun A4 c4 h4 x4 O4 => ?_
    refine ⟨_, _, _, rfl, ?_⟩
    exact ⟨m, _, _, _, O4.pick [1], rfl, rfl⟩
theorem slices_Clone_114.val (l : List T_api_Letter) (h : l.length * 104 ≤ 140737488355328) : slices_Clone_114 l = some l := ap_nil h
def box_Says.post (W : Nat → Prop) (h0 m0 : Heap) (r : T_api_Value) (v : Value) (h : Heap) : Prop := ∃ m cs0, Hold W h0 m0 h m [] ∧ v = .agg cs0.toArray ∧ T_api_Value.E m r cs0
noncomputable def box_Says (y_0 : T_api_Letter) : Option (T_api_Value) :=
  if y_0.Kind = (2 : Int) then (some ((T_api_Value.mk (5 : Int) (0 : Int) (ByteArray.mk #[68, 111, 119, 110]) ([(T_api_Value.mk (6 : Int) y_0.From (ByteArray.mk #[]) ([] : List T_api_Value)), (T_api_Value.mk (2 : Int) y_0.Num (ByteArray.mk #[]) ([] : List T_api_Value))] : List T_api_Value)))) else (Option.bind (box_Own y_0.Value_) fun y9 => some (y9))
set_option maxRecDepth 100000 in
theorem box_Says.walk {W : Nat → Prop} {h m : Heap} {cs_0 : List Value} {y_0 : T_api_Letter} (O : Hold W h m h m []) (e_0 : T_api_Letter.E m y_0 cs_0) {r : T_api_Value} (e : box_Says y_0 = some r) : Run Try.prog 115 #[Value.agg cs_0.toArray] h (box_Says.post W h m r) := by
  unfold box_Says at e
  refine f115.run ?_
  unfold f115.runT
  refine O.new fun h1 x2 O3 => ?_
  refine O3.new fun h5 x6 O7 => ?_
  refine ⟨_, ld0 (Sub.refl _) (O7.all 0 rfl) (T_api_Letter.g0 e_0), _, rfl, ?_⟩
  refine split_ne_e e (fun c35 e => ?_) (fun c35 e => ?_)
  · refine ⟨_, ldAkn (Sub.refl _) (O7.all 0 rfl) 5 4 (le_len (T_api_Letter.T.len _ _ _ e_0) (by decide)), ?_⟩
    obtain ⟨y9, g10, e⟩ := bind_e e
    refine (box_Own.walk (Hold.start (W := No) O7.s) (T_api_Letter.u5_50 e_0) g10).mono ?_
    rintro _ h11 ⟨m12, cs16, Q13, rfl, he17⟩
    have O18 := Hold.nm (O7.ret Q13)
    refine ⟨_, rfl, (T_api_Value.T.len _ _ _ he17), ?_⟩
    refine O18.stA 1 rfl (T_api_Value.T.len _ _ _ he17) (T_api_Value.T.flat _ _ _ he17) fun h19 O20 => ?_
    refine ⟨_, ldAn (Sub.refl _) (O20.all 1 rfl) (T_api_Value.T.len _ _ _ he17), ?_⟩
    have O21 := O20.nm
    cases e
    exact ⟨_, _, O21.pick [], rfl, he17⟩
  · refine ⟨_, ldk (k := 1) (Sub.refl _) (O7.all 0 rfl) (T_api_Letter.g1 e_0), _, rfl, ?_⟩
    refine ⟨_, ldk (k := 3) (Sub.refl _) (O7.all 0 rfl) (T_api_Letter.g3 e_0), _, rfl, ?_⟩
    refine ⟨[(Value.int .i64 (6 : Int)), (Value.int .i64 y_0.From), (Value.string (ByteArray.mk #[])), (Value.slice none 0 0)], rfl, rfl, ?_⟩
    refine ⟨[(Value.int .i64 (2 : Int)), (Value.int .i64 y_0.Num), (Value.string (ByteArray.mk #[])), (Value.slice none 0 0)], rfl, rfl, ?_⟩
    refine O7.new fun h22 x23 O24 => ?_
    refine ⟨_, rfl, rfl, ?_⟩
    refine O24.stA 1 rfl rfl (Flats.cons trivial (Flats.cons trivial (Flats.cons trivial (Flats.cons trivial Flats.nil)))) fun h26 O27 => ?_
    refine ⟨_, ldAn (Sub.refl _) (O27.all 1 rfl) rfl, ?_⟩
    have O28 := O27.rowE (l := ([(T_api_Value.mk (6 : Int) y_0.From (ByteArray.mk #[]) ([] : List T_api_Value)), (T_api_Value.mk (2 : Int) y_0.Num (ByteArray.mk #[]) ([] : List T_api_Value))] : List T_api_Value)) 2 rfl T_api_Value.T (show CsE _ _ _ _ _ from (CsE.cons (c1 := [(Value.int .i64 (6 : Int)), (Value.int .i64 y_0.From), (Value.string (ByteArray.mk #[])), (Value.slice none 0 0)]) (T_api_Value.iff.2 ⟨_, _, rfl, (by exact Nat.le_refl 0), Rd.nil⟩) rfl (CsE.cons (c1 := [(Value.int .i64 (2 : Int)), (Value.int .i64 y_0.Num), (Value.string (ByteArray.mk #[])), (Value.slice none 0 0)]) (T_api_Value.iff.2 ⟨_, _, rfl, (by exact Nat.le_refl 0), Rd.nil⟩) rfl CsE.nil))) rfl
    obtain ⟨m29, u30, ⟨r31, k32⟩, O33⟩ := O28.frz 2 rfl
    replace r31 : Rd 4 T_api_Value.E m29 (some ⟨(Array.size h5), 0, none⟩) ([(T_api_Value.mk (6 : Int) y_0.From (ByteArray.mk #[]) ([] : List T_api_Value)), (T_api_Value.mk (2 : Int) y_0.Num (ByteArray.mk #[]) ([] : List T_api_Value))] : List T_api_Value) := r31
    have O34 := O33.nm
    cases e
    exact ⟨_, _, O34.pick [], rfl, (T_api_Value.iff.2 ⟨_, _, rfl, k32, r31⟩)⟩
def slices_Delete_116.post (W : Nat → Prop) (h0 m0 : Heap) (r : (List T_api_Letter)) (v : Value) (h : Heap) : Prop := ∃ m A0 n0 c0, Hold W h0 m0 h m [rR (aE T_api_Letter.T) A0 c0 r] ∧ v = .slice A0 n0 c0 ∧ n0 = List.length r
noncomputable def slices_Delete_116 (a0 : List T_api_Letter) (x1 x2 : Int) : Option (List T_api_Letter) := if 0 ≤ x1 ∧ x1 ≤ x2 ∧ x2 ≤ ((List.length a0 : Nat) : Int) then some (List.take (Int.toNat x1) a0 ++ List.drop (Int.toNat x2) a0) else none
set_option maxRecDepth 100000 in
theorem slices_Delete_116.walk {W : Nat → Prop} {h m : Heap} {A0 : Option Addr} {n0 c0 : Nat} {a0 : List T_api_Letter} {x1 x2 : Int} (O : Hold W h m h m [rR (aE T_api_Letter.T) A0 c0 a0]) (ne0 : n0 = List.length a0) {r : List T_api_Letter} (e : slices_Delete_116 a0 x1 x2 = some r) : Run Try.prog 116 #[Value.slice A0 n0 c0, Value.int .i64 x1, Value.int .i64 x2] h (slices_Delete_116.post W h m r) := by
  unfold slices_Delete_116 at e
  subst ne0
  obtain ⟨g, e⟩ := guard_e e
  cases e
  refine f116.run ?_
  unfold f116.runT
  exact delete_ok (e := 59) (zv := (Value.agg #[(Value.int .i64 (0 : Int)), (Value.int .i64 (0 : Int)), (Value.int .i64 (0 : Int)), (Value.int .i64 (0 : Int)), (Value.string (ByteArray.mk #[])), (Value.int .i64 (0 : Int)), (Value.int .i64 (0 : Int)), (Value.string (ByteArray.mk #[])), (Value.slice none 0 0)])) (zp := (T_api_Letter.mk (0 : Int) (0 : Int) (0 : Int) (0 : Int) (ByteArray.mk #[]) (T_api_Value.mk (0 : Int) (0 : Int) (ByteArray.mk #[]) ([] : (List T_api_Value))))) O 0 rfl (by kernel_rfl) (by kernel_rfl) (show T_api_Letter.E m (T_api_Letter.mk (0 : Int) (0 : Int) (0 : Int) (0 : Int) (ByteArray.mk #[]) (T_api_Value.mk (0 : Int) (0 : Int) (ByteArray.mk #[]) ([] : (List T_api_Value)))) [(Value.int .i64 (0 : Int)), (Value.int .i64 (0 : Int)), (Value.int .i64 (0 : Int)), (Value.int .i64 (0 : Int)), (Value.string (ByteArray.mk #[])), (Value.int .i64 (0 : Int)), (Value.int .i64 (0 : Int)), (Value.string (ByteArray.mk #[])), (Value.slice none 0 0)] from (show T_api_Letter.E _ (T_api_Letter.mk (0 : Int) (0 : Int) (0 : Int) (0 : Int) (ByteArray.mk #[]) (T_api_Value.mk (0 : Int) (0 : Int) (ByteArray.mk #[]) ([] : List T_api_Value))) [(Value.int .i64 (0 : Int)), (Value.int .i64 (0 : Int)), (Value.int .i64 (0 : Int)), (Value.int .i64 (0 : Int)), (Value.string (ByteArray.mk #[])), (Value.int .i64 (0 : Int)), (Value.int .i64 (0 : Int)), (Value.string (ByteArray.mk #[])), (Value.slice none 0 0)] from ⟨_, _, rfl, (by exact Nat.le_refl 0), Rd.nil⟩)) g fun h' O' => ⟨m, _, _, _, O'.pick [0], rfl, rfl⟩
def pick_Take_s3.post (W : Nat → Prop) (bkio1021 : Nat) (h0 m0 : Heap) (r : T_box_Box × T_api_Letter × Bool × Int × Int) (v : Value) (h : Heap) : Prop := ∃ m cs0 cs1 csio1021, Hold W h0 m0 h m [rV bkio1021 3 csio1021] ∧ v = .tuple #[.agg cs0.toArray, .agg cs1.toArray, .bool r.2.2.1, .int .i64 r.2.2.2.1] ∧ T_box_Box.E m r.1 cs0 ∧ T_api_Letter.E m r.2.1 cs1 ∧ (eInt .i64) m r.2.2.2.2 csio1021
inductive pick_Take_s3.l0_k.Pt where
  | l0 (y_1_0 : (List T_api_Pat)) (y_io1021 : Int) (y_4 : T_box_Box) (y_5 : T_api_Letter) (a_9 : List T_api_Letter) (x_10 : Int)
noncomputable def pick_Take_s3.l0_k.body (go : (p : pick_Take_s3.l0_k.Pt) → Option (T_box_Box × T_api_Letter × Bool × Int × Int)) : (p : pick_Take_s3.l0_k.Pt) → Option (T_box_Box × T_api_Letter × Bool × Int × Int)
  | .l0 y_1_0 y_io1021 y_4 y_5 a_9 x_10 => if x_10 < (((List.length a_9) : Nat) : Int) then (Option.bind (gi a_9 x_10) fun y1 => Option.bind (box_Says y1) fun y14 => Option.bind (pick_Choose_1 y14 y_1_0 y_io1021) fun y24 => if y24.1 = true then (Option.bind (slices_Delete_116 a_9 x_10 (IntKind.wrap .i64 (x_10 + (1 : Int)))) fun y38 => some ((T_box_Box.mk y38 (0 : Int)), y1, true, (0 : Int), y24.2)) else ((go (.l0 y_1_0 y24.2 y_4 y_5 a_9 (IntKind.wrap .i64 (x_10 + (1 : Int))))))) else (some ((T_box_Box.mk a_9 (((List.length a_9) : Nat) : Int)), (T_api_Letter.mk (0 : Int) (0 : Int) (0 : Int) (0 : Int) (ByteArray.mk #[]) (T_api_Value.mk (0 : Int) (0 : Int) (ByteArray.mk #[]) ([] : List T_api_Value))), false, (0 : Int), y_io1021))
theorem pick_Take_s3.l0_k.mono : MonoF (β := fun _ => (T_box_Box × T_api_Letter × Bool × Int × Int)) pick_Take_s3.l0_k.body := fun f g hfg p => match p with
  | .l0 y_1_0 y_io1021 y_4 y_5 a_9 x_10 => LeO.ite (LeO.bind (LeO.refl _) fun y1 => LeO.bind (LeO.refl _) fun y14 => LeO.bind (LeO.refl _) fun y24 => LeO.ite (LeO.bind (LeO.refl _) fun y38 => LeO.refl _) ((hfg _))) (LeO.refl _)
noncomputable def pick_Take_s3.l0_k.go (p : pick_Take_s3.l0_k.Pt) : Option (T_box_Box × T_api_Letter × Bool × Int × Int) := fixF (β := fun _ => (T_box_Box × T_api_Letter × Bool × Int × Int)) pick_Take_s3.l0_k.body p
noncomputable def pick_Take_s3.l0 (y_1_0 : (List T_api_Pat)) (y_io1021 : Int) (y_4 : T_box_Box) (y_5 : T_api_Letter) (a_9 : List T_api_Letter) (x_10 : Int) : Option (T_box_Box × T_api_Letter × Bool × Int × Int) := pick_Take_s3.l0_k.go (.l0 y_1_0 y_io1021 y_4 y_5 a_9 x_10)
theorem pick_Take_s3.l0_eq (y_1_0 : (List T_api_Pat)) (y_io1021 : Int) (y_4 : T_box_Box) (y_5 : T_api_Letter) (a_9 : List T_api_Letter) (x_10 : Int) : pick_Take_s3.l0 y_1_0 y_io1021 y_4 y_5 a_9 x_10 = if x_10 < (((List.length a_9) : Nat) : Int) then (Option.bind (gi a_9 x_10) fun y1 => Option.bind (box_Says y1) fun y14 => Option.bind (pick_Choose_1 y14 y_1_0 y_io1021) fun y24 => if y24.1 = true then (Option.bind (slices_Delete_116 a_9 x_10 (IntKind.wrap .i64 (x_10 + (1 : Int)))) fun y38 => some ((T_box_Box.mk y38 (0 : Int)), y1, true, (0 : Int), y24.2)) else ((pick_Take_s3.l0 y_1_0 y24.2 y_4 y_5 a_9 (IntKind.wrap .i64 (x_10 + (1 : Int)))))) else (some ((T_box_Box.mk a_9 (((List.length a_9) : Nat) : Int)), (T_api_Letter.mk (0 : Int) (0 : Int) (0 : Int) (0 : Int) (ByteArray.mk #[]) (T_api_Value.mk (0 : Int) (0 : Int) (ByteArray.mk #[]) ([] : List T_api_Value))), false, (0 : Int), y_io1021)) := fixF_eq pick_Take_s3.l0_k.mono _
def pick_Take_s3.l0_k.I : (p : pick_Take_s3.l0_k.Pt) → (T_box_Box × T_api_Letter × Bool × Int × Int) → Prop
  | .l0 y_1_0 y_io1021 y_4 y_5 a_9 x_10, r => ∀ (W : Nat → Prop) (h0 m0 h m : Heap) (bk_1_0 : Nat) (bk_io1021 : Nat) (cs_io1021 : List Value) (bk_4 : Nat) (cs_4 : List Value) (bk_5 : Nat) (cs_5 : List Value) (A_9 : Option Addr) (n_9 c_9 : Nat) (O : Hold W h0 m0 h m [rV bk_io1021 3 cs_io1021, rV bk_4 46 cs_4, rV bk_5 59 cs_5, rR (aE T_api_Letter.T) A_9 c_9 a_9]) (v_1_0 : VB (eRow 4 T_api_Pat.E) m bk_1_0 y_1_0) (e_io1021 : (eInt .i64) m y_io1021 cs_io1021) (e_4 : T_box_Box.E m y_4 cs_4) (e_5 : T_api_Letter.E m y_5 cs_5) (ne_9 : n_9 = List.length a_9), f88.l0 (pick_Take_s3.post W bk_io1021 h0 m0 r) (Value.func (.func 89) #[] #[(Value.pointer (some ⟨bk_1_0, 0, none⟩)), (Value.pointer (some ⟨bk_io1021, 0, none⟩))]) (⟨bk_4, 0, none⟩ : Addr) (⟨bk_5, 0, none⟩ : Addr) A_9 n_9 c_9 x_10 h
set_option maxHeartbeats 4000000 in
set_option maxRecDepth 100000 in
theorem pick_Take_s3.l0_k.step_l0 (go : (p : pick_Take_s3.l0_k.Pt) → Option (T_box_Box × T_api_Letter × Bool × Int × Int)) (ih : ∀ p r, go p = some r → pick_Take_s3.l0_k.I p r) (y_1_0 : (List T_api_Pat)) (y_io1021 : Int) (y_4 : T_box_Box) (y_5 : T_api_Letter) (a_9 : List T_api_Letter) (x_10 : Int) (r : T_box_Box × T_api_Letter × Bool × Int × Int) (e : pick_Take_s3.l0_k.body go (.l0 y_1_0 y_io1021 y_4 y_5 a_9 x_10) = some r) : pick_Take_s3.l0_k.I (.l0 y_1_0 y_io1021 y_4 y_5 a_9 x_10) r := by
  unfold pick_Take_s3.l0_k.body at e
  intro W h0 m0 h m bk_1_0 bk_io1021 cs_io1021 bk_4 cs_4 bk_5 cs_5 A_9 n_9 c_9 O v_1_0 e_io1021 e_4 e_5 ne_9
  obtain ⟨cs_1_0, t_1_0, hb_1_0, nn_1_0, e_1_0⟩ := id v_1_0
  obtain ⟨Ae_1_0_0, ce_1_0_0, rfl, ke_1_0_0, re_1_0_0⟩ := id e_1_0
  obtain rfl : cs_io1021 = [(Value.int .i64 y_io1021)] := e_io1021
  subst ne_9
  refine f88.l0_in ?_
  unfold f88.l0T
  refine split_dec_e e (fun c147 e => ?_) (fun c147 e => ?_)
  · obtain ⟨y1, g2, e⟩ := bind_e e
    refine (O.os 3 rfl).addr rfl g2 fun a3 cs4 ha5 hc6 he7 => ?_
    refine ⟨_, ldAn (Sub.refl _) hc6 rfl, ?_⟩
    refine O.new fun h8 x9 O10 => ?_
    refine ⟨_, rfl, (T_api_Letter.T.len _ _ _ he7), ?_⟩
    refine O10.stA 4 rfl (T_api_Letter.T.len _ _ _ he7) (T_api_Letter.T.flat _ _ _ he7) fun h12 O13 => ?_
    refine ⟨_, ldAn (Sub.refl _) (O13.all 4 rfl) (T_api_Letter.T.len _ _ _ he7), ?_⟩
    obtain ⟨y14, g15, e⟩ := bind_e e
    refine (box_Says.walk (Hold.start (W := No) O13.s) he7 g15).mono ?_
    rintro _ h16 ⟨m17, cs21, Q18, rfl, he22⟩
    have O23 := Hold.nm (O13.ret Q18)
    obtain ⟨y24, g25, e⟩ := bind_e e
    refine CallF.of [(Value.agg (List.toArray cs21)), (Value.pointer (some ⟨bk_1_0, 0, none⟩)), (Value.pointer (some ⟨bk_io1021, 0, none⟩))] f89.ok rfl ?_
    obtain ⟨W30, P31, B32, C33⟩ := O23.callC [0]
    refine (pick_Choose_1.walk P31 he22 (v_1_0.sub (tell_row T_api_Pat.T) Q18.S.up) rfl g25).mono ?_
    rintro _ h26 ⟨m27, cs35, Q28, rfl, he36⟩
    have O37 := Hold.nm (C33 Q28 (vfs_cons rV_vf vfs_nil))
    obtain rfl : cs35 = [(Value.int .i64 y24.2)] := he36
    refine ⟨_, rfl, ?_⟩
    refine split_any_e e (fun c136 e => ?_) (fun c136 e => ?_)
    · obtain ⟨y38, g39, e⟩ := bind_e e
      refine ⟨?_, ?_⟩
      · obtain ⟨W70, P71, B72, C73⟩ := O37.callC [3]
        refine (slices_Delete_116.walk P71 rfl g39).mono ?_
        rintro _ h66 ⟨m67, A74, n75, c76, Q68, rfl, ne77⟩
        have O79 := Hold.nm (B72 Q68)
        subst ne77
        refine ⟨_, _, _, rfl, ?_⟩
        refine ⟨?_, ?_⟩
        · refine ⟨?_, ?_⟩
          · refine ⟨_, ldAn (Sub.refl _) (O79.all 4 rfl) (T_api_Letter.T.len _ _ _ he7), ?_⟩
            refine ⟨_, rfl, rfl, ?_⟩
            refine O79.stA 1 rfl ((T_box_Box.T.len _ _ _ e_4)).symm (Flats.cons trivial (Flats.cons trivial Flats.nil)) fun h80 O81 => ?_
            refine ⟨_, rfl, (T_api_Letter.T.len _ _ _ he7), ?_⟩
            refine O81.stA 2 rfl ((T_api_Letter.T.len _ _ _ he7).trans ((T_api_Letter.T.len _ _ _ e_5)).symm) (T_api_Letter.T.flat _ _ _ he7) fun h82 O83 => ?_
            refine ⟨_, ldAn (Sub.refl _) (O83.all 1 rfl) rfl, ?_⟩
            refine ⟨_, ldAn (Sub.refl _) (O83.all 2 rfl) (T_api_Letter.T.len _ _ _ he7), ?_⟩
            obtain ⟨m84, u85, ⟨r86, k87⟩, O88⟩ := O83.frz 6 rfl
            replace r86 : Rd 9 T_api_Letter.E m84 A74 y38 := r86
            have O89 := O88.nm
            cases e
            exact ⟨_, _, _, _, O89.pick [5], rfl, (show T_box_Box.E _ (T_box_Box.mk y38 (0 : Int)) [(Value.slice A74 (List.length y38) c76), (Value.int .i64 (0 : Int))] from ⟨_, _, rfl, k87, r86⟩), (T_api_Letter.T.mono _ _ _ _ (Q18.S.up.trans (Q68.S.up.trans u85)) he7), rfl⟩
          · refine ⟨_, rfl, rfl, ?_⟩
            refine O79.stA 1 rfl ((T_box_Box.T.len _ _ _ e_4)).symm (Flats.cons trivial (Flats.cons trivial Flats.nil)) fun h90 O91 => ?_
            refine ⟨_, ldAn (Sub.refl _) (O91.all 4 rfl) (T_api_Letter.T.len _ _ _ he7), ?_⟩
            refine ⟨_, rfl, (T_api_Letter.T.len _ _ _ he7), ?_⟩
            refine O91.stA 2 rfl ((T_api_Letter.T.len _ _ _ he7).trans ((T_api_Letter.T.len _ _ _ e_5)).symm) (T_api_Letter.T.flat _ _ _ he7) fun h92 O93 => ?_
            refine ⟨_, ldAn (Sub.refl _) (O93.all 1 rfl) rfl, ?_⟩
            refine ⟨_, ldAn (Sub.refl _) (O93.all 2 rfl) (T_api_Letter.T.len _ _ _ he7), ?_⟩
            obtain ⟨m94, u95, ⟨r96, k97⟩, O98⟩ := O93.frz 6 rfl
            replace r96 : Rd 9 T_api_Letter.E m94 A74 y38 := r96
            have O99 := O98.nm
            cases e
            exact ⟨_, _, _, _, O99.pick [5], rfl, (show T_box_Box.E _ (T_box_Box.mk y38 (0 : Int)) [(Value.slice A74 (List.length y38) c76), (Value.int .i64 (0 : Int))] from ⟨_, _, rfl, k97, r96⟩), (T_api_Letter.T.mono _ _ _ _ (Q18.S.up.trans (Q68.S.up.trans u95)) he7), rfl⟩
        · refine ⟨_, ldAn (Sub.refl _) (O79.all 4 rfl) (T_api_Letter.T.len _ _ _ he7), ?_⟩
          refine ⟨_, rfl, rfl, ?_⟩
          refine O79.stA 1 rfl ((T_box_Box.T.len _ _ _ e_4)).symm (Flats.cons trivial (Flats.cons trivial Flats.nil)) fun h100 O101 => ?_
          refine ⟨_, rfl, (T_api_Letter.T.len _ _ _ he7), ?_⟩
          refine O101.stA 2 rfl ((T_api_Letter.T.len _ _ _ he7).trans ((T_api_Letter.T.len _ _ _ e_5)).symm) (T_api_Letter.T.flat _ _ _ he7) fun h102 O103 => ?_
          refine ⟨_, ldAn (Sub.refl _) (O103.all 1 rfl) rfl, ?_⟩
          refine ⟨_, ldAn (Sub.refl _) (O103.all 2 rfl) (T_api_Letter.T.len _ _ _ he7), ?_⟩
          obtain ⟨m104, u105, ⟨r106, k107⟩, O108⟩ := O103.frz 6 rfl
          replace r106 : Rd 9 T_api_Letter.E m104 A74 y38 := r106
          have O109 := O108.nm
          cases e
          exact ⟨_, _, _, _, O109.pick [5], rfl, (show T_box_Box.E _ (T_box_Box.mk y38 (0 : Int)) [(Value.slice A74 (List.length y38) c76), (Value.int .i64 (0 : Int))] from ⟨_, _, rfl, k107, r106⟩), (T_api_Letter.T.mono _ _ _ _ (Q18.S.up.trans (Q68.S.up.trans u105)) he7), rfl⟩
      · refine ⟨_, ldAn (Sub.refl _) (O37.all 4 rfl) (T_api_Letter.T.len _ _ _ he7), ?_⟩
        obtain ⟨W116, P117, B118, C119⟩ := O37.callC [3]
        refine (slices_Delete_116.walk P117 rfl g39).mono ?_
        rintro _ h112 ⟨m113, A120, n121, c122, Q114, rfl, ne123⟩
        have O125 := Hold.nm (B118 Q114)
        subst ne123
        refine ⟨_, _, _, rfl, ?_⟩
        refine ⟨_, rfl, rfl, ?_⟩
        refine O125.stA 1 rfl ((T_box_Box.T.len _ _ _ e_4)).symm (Flats.cons trivial (Flats.cons trivial Flats.nil)) fun h126 O127 => ?_
        refine ⟨_, rfl, (T_api_Letter.T.len _ _ _ he7), ?_⟩
        refine O127.stA 2 rfl ((T_api_Letter.T.len _ _ _ he7).trans ((T_api_Letter.T.len _ _ _ e_5)).symm) (T_api_Letter.T.flat _ _ _ he7) fun h128 O129 => ?_
        refine ⟨_, ldAn (Sub.refl _) (O129.all 1 rfl) rfl, ?_⟩
        refine ⟨_, ldAn (Sub.refl _) (O129.all 2 rfl) (T_api_Letter.T.len _ _ _ he7), ?_⟩
        obtain ⟨m130, u131, ⟨r132, k133⟩, O134⟩ := O129.frz 6 rfl
        replace r132 : Rd 9 T_api_Letter.E m130 A120 y38 := r132
        have O135 := O134.nm
        cases e
        exact ⟨_, _, _, _, O135.pick [5], rfl, (show T_box_Box.E _ (T_box_Box.mk y38 (0 : Int)) [(Value.slice A120 (List.length y38) c122), (Value.int .i64 (0 : Int))] from ⟨_, _, rfl, k133, r132⟩), (T_api_Letter.T.mono _ _ _ _ (Q18.S.up.trans (Q114.S.up.trans u131)) he7), rfl⟩
    · exact (ih _ _ e) _ _ _ _ _ _ _ _ _ _ _ _ _ _ _ (O37.pick [5, 1, 2, 3]).nm (v_1_0.sub (tell_row T_api_Pat.T) Q18.S.up) rfl (T_box_Box.T.mono _ _ _ _ Q18.S.up e_4) (T_api_Letter.T.mono _ _ _ _ Q18.S.up e_5) rfl
  · refine ⟨_, rfl, rfl, ?_⟩
    refine O.stA 1 rfl ((T_box_Box.T.len _ _ _ e_4)).symm (Flats.cons trivial (Flats.cons trivial Flats.nil)) fun h137 O138 => ?_
    refine ⟨_, rfl, rfl, ?_⟩
    refine O138.stA 2 rfl ((T_api_Letter.T.len _ _ _ e_5)).symm (Flats.cons trivial (Flats.cons trivial (Flats.cons trivial (Flats.cons trivial (Flats.cons trivial (Flats.cons trivial (Flats.cons trivial (Flats.cons trivial (Flats.cons trivial Flats.nil))))))))) fun h139 O140 => ?_
    refine ⟨_, ldAn (Sub.refl _) (O140.all 1 rfl) rfl, ?_⟩
    refine ⟨_, ldAn (Sub.refl _) (O140.all 2 rfl) rfl, ?_⟩
    obtain ⟨m141, u142, ⟨r143, k144⟩, O145⟩ := O140.frz 3 rfl
    replace r143 : Rd 9 T_api_Letter.E m141 A_9 a_9 := r143
    have O146 := O145.nm
    cases e
    exact ⟨_, _, _, _, O146.pick [0], rfl, (show T_box_Box.E _ (T_box_Box.mk a_9 (((List.length a_9) : Nat) : Int)) [(Value.slice A_9 (List.length a_9) c_9), (Value.int .i64 (((List.length a_9) : Nat) : Int))] from ⟨_, _, rfl, k144, r143⟩), (show T_api_Letter.E _ (T_api_Letter.mk (0 : Int) (0 : Int) (0 : Int) (0 : Int) (ByteArray.mk #[]) (T_api_Value.mk (0 : Int) (0 : Int) (ByteArray.mk #[]) ([] : List T_api_Value))) [(Value.int .i64 (0 : Int)), (Value.int .i64 (0 : Int)), (Value.int .i64 (0 : Int)), (Value.int .i64 (0 : Int)), (Value.string (ByteArray.mk #[])), (Value.int .i64 (0 : Int)), (Value.int .i64 (0 : Int)), (Value.string (ByteArray.mk #[])), (Value.slice none 0 0)] from ⟨_, _, rfl, (by exact Nat.le_refl 0), Rd.nil⟩), rfl⟩
theorem pick_Take_s3.l0_k.all {p : pick_Take_s3.l0_k.Pt} {r : (T_box_Box × T_api_Letter × Bool × Int × Int)} (e : pick_Take_s3.l0_k.go p = some r) : pick_Take_s3.l0_k.I p r := fixF_ind (β := fun _ => (T_box_Box × T_api_Letter × Bool × Int × Int)) pick_Take_s3.l0_k.mono (I := pick_Take_s3.l0_k.I) (fun go ih p r e => match p with
  | .l0 y_1_0 y_io1021 y_4 y_5 a_9 x_10 => pick_Take_s3.l0_k.step_l0 go ih y_1_0 y_io1021 y_4 y_5 a_9 x_10 r e
  ) e
theorem pick_Take_s3.l0.walk {W : Nat → Prop} {h0 m0 h m : Heap} {bk_1_0 : Nat} {bk_io1021 : Nat} {cs_io1021 : List Value} {bk_4 : Nat} {cs_4 : List Value} {bk_5 : Nat} {cs_5 : List Value} {A_9 : Option Addr} {n_9 c_9 : Nat} {y_1_0 : (List T_api_Pat)} {y_io1021 : Int} {y_4 : T_box_Box} {y_5 : T_api_Letter} {a_9 : List T_api_Letter} {x_10 : Int} (O : Hold W h0 m0 h m [rV bk_io1021 3 cs_io1021, rV bk_4 46 cs_4, rV bk_5 59 cs_5, rR (aE T_api_Letter.T) A_9 c_9 a_9]) (v_1_0 : VB (eRow 4 T_api_Pat.E) m bk_1_0 y_1_0) (e_io1021 : (eInt .i64) m y_io1021 cs_io1021) (e_4 : T_box_Box.E m y_4 cs_4) (e_5 : T_api_Letter.E m y_5 cs_5) (ne_9 : n_9 = List.length a_9) {r : T_box_Box × T_api_Letter × Bool × Int × Int} (e : pick_Take_s3.l0 y_1_0 y_io1021 y_4 y_5 a_9 x_10 = some r) : f88.l0 (pick_Take_s3.post W bk_io1021 h0 m0 r) (Value.func (.func 89) #[] #[(Value.pointer (some ⟨bk_1_0, 0, none⟩)), (Value.pointer (some ⟨bk_io1021, 0, none⟩))]) (⟨bk_4, 0, none⟩ : Addr) (⟨bk_5, 0, none⟩ : Addr) A_9 n_9 c_9 x_10 h := pick_Take_s3.l0_k.all (p := .l0 y_1_0 y_io1021 y_4 y_5 a_9 x_10) e W h0 m0 h m bk_1_0 bk_io1021 cs_io1021 bk_4 cs_4 bk_5 cs_5 A_9 n_9 c_9 O v_1_0 e_io1021 e_4 e_5 ne_9
noncomputable def pick_Take_s3 (y_0 : T_box_Box) (y_1020 : (List T_api_Pat)) (y_1021 : Int) : Option (T_box_Box × T_api_Letter × Bool × Int × Int) :=
  Option.bind (box_Check y_0) fun y13 => if y13 = (0 : Int) then (Option.bind (slices_Clone_114 y_0.Letters) fun y30 => (pick_Take_s3.l0 y_1020 y_1021 (T_box_Box.mk ([] : List T_api_Letter) (0 : Int)) (T_api_Letter.mk (0 : Int) (0 : Int) (0 : Int) (0 : Int) (ByteArray.mk #[]) (T_api_Value.mk (0 : Int) (0 : Int) (ByteArray.mk #[]) ([] : List T_api_Value))) y30 y_0.At)) else (some ((T_box_Box.mk ([] : List T_api_Letter) (0 : Int)), (T_api_Letter.mk (0 : Int) (0 : Int) (0 : Int) (0 : Int) (ByteArray.mk #[]) (T_api_Value.mk (0 : Int) (0 : Int) (ByteArray.mk #[]) ([] : List T_api_Value))), false, y13, y_1021))
set_option maxRecDepth 100000 in
theorem pick_Take_s3.walk {W : Nat → Prop} {h m : Heap} {cs_0 : List Value} {bk_1020 : Nat} {bkio1021 : Nat} {cs_1021 : List Value} {y_0 : T_box_Box} {y_1020 : (List T_api_Pat)} {y_1021 : Int} (O : Hold W h m h m [rV bkio1021 3 cs_1021]) (e_0 : T_box_Box.E m y_0 cs_0) (v_1020 : VB (eRow 4 T_api_Pat.E) m bk_1020 y_1020) (e_1021 : (eInt .i64) m y_1021 cs_1021) {r : T_box_Box × T_api_Letter × Bool × Int × Int} (e : pick_Take_s3 y_0 y_1020 y_1021 = some r) : Run Try.prog 88 #[Value.agg cs_0.toArray, (Value.func (.func 89) #[] #[(Value.pointer (some ⟨bk_1020, 0, none⟩)), (Value.pointer (some ⟨bkio1021, 0, none⟩))])] h (pick_Take_s3.post W bkio1021 h m r) := by
  unfold pick_Take_s3 at e
  obtain ⟨cs_1020, t_1020, hb_1020, nn_1020, e_1020⟩ := id v_1020
  obtain ⟨Ae_1020_0, ce_1020_0, rfl, ke_1020_0, re_1020_0⟩ := id e_1020
  obtain rfl : cs_1021 = [(Value.int .i64 y_1021)] := e_1021
  refine f88.run ?_
  unfold f88.runT
  refine O.new fun h1 x2 O3 => ?_
  refine O3.new fun h5 x6 O7 => ?_
  refine O7.new fun h9 x10 O11 => ?_
  refine ⟨_, ldAn (Sub.refl _) (O11.all 1 rfl) (T_box_Box.T.len _ _ _ e_0), ?_⟩
  obtain ⟨y13, g14, e⟩ := bind_e e
  refine (box_Check.walk (Hold.start (W := No) O11.s) e_0 g14).mono ?_
  rintro _ h15 ⟨m16, Q17, rfl⟩
  have O19 := Hold.nm (O11.retC Q17 vfs_nil)
  refine ⟨_, rfl, ?_⟩
  refine split_ne_e e (fun c42 e => ?_) (fun c42 e => ?_)
  · refine ⟨_, rfl, rfl, ?_⟩
    refine O19.stA 2 rfl rfl (Flats.cons trivial (Flats.cons trivial Flats.nil)) fun h20 O21 => ?_
    refine ⟨_, rfl, rfl, ?_⟩
    refine O21.stA 3 rfl rfl (Flats.cons trivial (Flats.cons trivial (Flats.cons trivial (Flats.cons trivial (Flats.cons trivial (Flats.cons trivial (Flats.cons trivial (Flats.cons trivial (Flats.cons trivial Flats.nil))))))))) fun h22 O23 => ?_
    refine ⟨_, ldAn (Sub.refl _) (O23.all 2 rfl) rfl, ?_⟩
    refine ⟨_, ldAn (Sub.refl _) (O23.all 3 rfl) rfl, ?_⟩
    have O24 := O23.nm
    cases e
    exact ⟨_, _, _, _, O24.pick [0], rfl, (show T_box_Box.E _ (T_box_Box.mk ([] : List T_api_Letter) (0 : Int)) [(Value.slice none 0 0), (Value.int .i64 (0 : Int))] from ⟨_, _, rfl, (by exact Nat.le_refl 0), Rd.nil⟩), (show T_api_Letter.E _ (T_api_Letter.mk (0 : Int) (0 : Int) (0 : Int) (0 : Int) (ByteArray.mk #[]) (T_api_Value.mk (0 : Int) (0 : Int) (ByteArray.mk #[]) ([] : List T_api_Value))) [(Value.int .i64 (0 : Int)), (Value.int .i64 (0 : Int)), (Value.int .i64 (0 : Int)), (Value.int .i64 (0 : Int)), (Value.string (ByteArray.mk #[])), (Value.int .i64 (0 : Int)), (Value.int .i64 (0 : Int)), (Value.string (ByteArray.mk #[])), (Value.slice none 0 0)] from ⟨_, _, rfl, (by exact Nat.le_refl 0), Rd.nil⟩), rfl⟩
  · obtain ⟨A25, c26, q27, k28, r29⟩ := T_box_Box.g0 e_0
    refine ⟨_, ld0 (Sub.refl _) (O19.all 1 rfl) q27, _, _, _, rfl, ?_⟩
    obtain ⟨y30, g31, e⟩ := bind_e e
    refine (slices_Clone_114.walk (Hold.start (W := No) O19.s) rfl k28 r29 g31).mono ?_
    rintro _ h32 ⟨m33, A36, n37, c38, Q34, rfl, ne39⟩
    have O41 := Hold.nm (O19.ret Q34)
    subst ne39
    refine ⟨_, _, _, rfl, ?_⟩
    refine ⟨_, ldk (k := 1) (Sub.refl _) (O41.all 1 rfl) (T_box_Box.g1 e_0), _, rfl, ?_⟩
    exact pick_Take_s3.l0.walk (O41.pick [0, 2, 3, 4]).nm (v_1020.sub (tell_row T_api_Pat.T) Q34.S.up) rfl (show T_box_Box.E _ (T_box_Box.mk ([] : List T_api_Letter) (0 : Int)) [(Value.slice none 0 0), (Value.int .i64 (0 : Int))] from ⟨_, _, rfl, (by exact Nat.le_refl 0), Rd.nil⟩) (show T_api_Letter.E _ (T_api_Letter.mk (0 : Int) (0 : Int) (0 : Int) (0 : Int) (ByteArray.mk #[]) (T_api_Value.mk (0 : Int) (0 : Int) (ByteArray.mk #[]) ([] : List T_api_Value))) [(Value.int .i64 (0 : Int)), (Value.int .i64 (0 : Int)), (Value.int .i64 (0 : Int)), (Value.int .i64 (0 : Int)), (Value.string (ByteArray.mk #[])), (Value.int .i64 (0 : Int)), (Value.int .i64 (0 : Int)), (Value.string (ByteArray.mk #[])), (Value.slice none 0 0)] from ⟨_, _, rfl, (by exact Nat.le_refl 0), Rd.nil⟩) rfl e
def pick_Choose.post (W : Nat → Prop) (h0 m0 : Heap) (r : T_box_Box × T_api_Letter × Int × Int) (v : Value) (h : Heap) : Prop := ∃ m cs0 cs1, Hold W h0 m0 h m [] ∧ v = .tuple #[.agg cs0.toArray, .agg cs1.toArray, .int .i64 r.2.2.1, .int .i64 r.2.2.2] ∧ T_box_Box.E m r.1 cs0 ∧ T_api_Letter.E m r.2.1 cs1
noncomputable def pick_Choose.j1 (y_4 : T_box_Box) (y_5 : T_api_Letter) (y_8 : Int) (y_9 : T_box_Box) (y_10 : T_api_Letter) (x_12 : Int) : Option (T_box_Box × T_api_Letter × Int × Int) :=
  some (y_9, y_10, y_8, x_12)
set_option maxHeartbeats 4000000 in
set_option maxRecDepth 100000 in
theorem pick_Choose.j1.walk {W : Nat → Prop} {h0 m0 h m : Heap} {bk_4 : Nat} {cs_4 : List Value} {bk_5 : Nat} {cs_5 : List Value} {bk_8 : Nat} {cs_8 : List Value} {bk_9 : Nat} {cs_9 : List Value} {bk_10 : Nat} {cs_10 : List Value} {y_4 : T_box_Box} {y_5 : T_api_Letter} {y_8 : Int} {y_9 : T_box_Box} {y_10 : T_api_Letter} {x_12 : Int} (O : Hold W h0 m0 h m [rV bk_4 46 cs_4, rV bk_5 59 cs_5, rV bk_8 3 cs_8, rV bk_9 46 cs_9, rV bk_10 59 cs_10]) (e_4 : T_box_Box.E m y_4 cs_4) (e_5 : T_api_Letter.E m y_5 cs_5) (e_8 : (eInt .i64) m y_8 cs_8) (e_9 : T_box_Box.E m y_9 cs_9) (e_10 : T_api_Letter.E m y_10 cs_10) {r : T_box_Box × T_api_Letter × Int × Int} (e : pick_Choose.j1 y_4 y_5 y_8 y_9 y_10 x_12 = some r) : f34.j1 (pick_Choose.post W h0 m0 r) (⟨bk_4, 0, none⟩ : Addr) (⟨bk_5, 0, none⟩ : Addr) (⟨bk_8, 0, none⟩ : Addr) (⟨bk_9, 0, none⟩ : Addr) (⟨bk_10, 0, none⟩ : Addr) x_12 h := by
  unfold pick_Choose.j1 at e
  obtain rfl : cs_8 = [(Value.int .i64 y_8)] := e_8
  refine f34.j1_in ?_
  unfold f34.j1T
  refine ⟨_, ldAn (Sub.refl _) (O.all 3 rfl) (T_box_Box.T.len _ _ _ e_9), ?_⟩
  refine ⟨?_, ?_⟩
  · refine ⟨_, ldAn (Sub.refl _) (O.all 4 rfl) (T_api_Letter.T.len _ _ _ e_10), ?_⟩
    refine ⟨Ext.refl _, ?_⟩
    refine ⟨?_, ?_⟩
    · refine ⟨_, ld0 (Sub.refl _) (O.all 2 rfl) rfl, _, rfl, ?_⟩
      refine ⟨Ext.refl _, ?_⟩
      refine ⟨_, rfl, (T_box_Box.T.len _ _ _ e_9), ?_⟩
      refine O.stA 0 rfl ((T_box_Box.T.len _ _ _ e_9).trans ((T_box_Box.T.len _ _ _ e_4)).symm) (T_box_Box.T.flat _ _ _ e_9) fun h6 O7 => ?_
      refine ⟨_, rfl, (T_api_Letter.T.len _ _ _ e_10), ?_⟩
      refine O7.stA 1 rfl ((T_api_Letter.T.len _ _ _ e_10).trans ((T_api_Letter.T.len _ _ _ e_5)).symm) (T_api_Letter.T.flat _ _ _ e_10) fun h8 O9 => ?_
      refine ⟨_, ldAn (Sub.refl _) (O9.all 0 rfl) (T_box_Box.T.len _ _ _ e_9), ?_⟩
      refine ⟨_, ldAn (Sub.refl _) (O9.all 1 rfl) (T_api_Letter.T.len _ _ _ e_10), ?_⟩
      have O10 := O9.nm
      cases e
      exact ⟨_, _, _, O10.pick [], rfl, e_9, e_10⟩
    · refine ⟨_, rfl, (T_box_Box.T.len _ _ _ e_9), ?_⟩
      refine O.stA 0 rfl ((T_box_Box.T.len _ _ _ e_9).trans ((T_box_Box.T.len _ _ _ e_4)).symm) (T_box_Box.T.flat _ _ _ e_9) fun h11 O12 => ?_
      refine ⟨?_, ?_⟩
      · refine ⟨_, ld0 (Sub.refl _) (O12.all 2 rfl) rfl, _, rfl, ?_⟩
        refine ⟨Ext.refl _, ?_⟩
        refine ⟨_, rfl, (T_api_Letter.T.len _ _ _ e_10), ?_⟩
        refine O12.stA 1 rfl ((T_api_Letter.T.len _ _ _ e_10).trans ((T_api_Letter.T.len _ _ _ e_5)).symm) (T_api_Letter.T.flat _ _ _ e_10) fun h13 O14 => ?_
        refine ⟨_, ldAn (Sub.refl _) (O14.all 0 rfl) (T_box_Box.T.len _ _ _ e_9), ?_⟩
        refine ⟨_, ldAn (Sub.refl _) (O14.all 1 rfl) (T_api_Letter.T.len _ _ _ e_10), ?_⟩
        have O15 := O14.nm
        cases e
        exact ⟨_, _, _, O15.pick [], rfl, e_9, e_10⟩
      · refine ⟨_, rfl, (T_api_Letter.T.len _ _ _ e_10), ?_⟩
        refine O12.stA 1 rfl ((T_api_Letter.T.len _ _ _ e_10).trans ((T_api_Letter.T.len _ _ _ e_5)).symm) (T_api_Letter.T.flat _ _ _ e_10) fun h16 O17 => ?_
        refine ⟨_, ld0 (Sub.refl _) (O17.all 2 rfl) rfl, _, rfl, ?_⟩
        refine ⟨Ext.refl _, ?_⟩
        refine ⟨_, ldAn (Sub.refl _) (O17.all 0 rfl) (T_box_Box.T.len _ _ _ e_9), ?_⟩
        refine ⟨_, ldAn (Sub.refl _) (O17.all 1 rfl) (T_api_Letter.T.len _ _ _ e_10), ?_⟩
        have O18 := O17.nm
        cases e
        exact ⟨_, _, _, O18.pick [], rfl, e_9, e_10⟩
  · refine ⟨?_, ?_⟩
    · refine ⟨_, ld0 (Sub.refl _) (O.all 2 rfl) rfl, _, rfl, ?_⟩
      refine ⟨Ext.refl _, ?_⟩
      refine ⟨?_, ?_⟩
      · refine ⟨_, ldAn (Sub.refl _) (O.all 4 rfl) (T_api_Letter.T.len _ _ _ e_10), ?_⟩
        refine ⟨Ext.refl _, ?_⟩
        refine ⟨_, rfl, (T_box_Box.T.len _ _ _ e_9), ?_⟩
        refine O.stA 0 rfl ((T_box_Box.T.len _ _ _ e_9).trans ((T_box_Box.T.len _ _ _ e_4)).symm) (T_box_Box.T.flat _ _ _ e_9) fun h19 O20 => ?_
        refine ⟨_, rfl, (T_api_Letter.T.len _ _ _ e_10), ?_⟩
        refine O20.stA 1 rfl ((T_api_Letter.T.len _ _ _ e_10).trans ((T_api_Letter.T.len _ _ _ e_5)).symm) (T_api_Letter.T.flat _ _ _ e_10) fun h21 O22 => ?_
        refine ⟨_, ldAn (Sub.refl _) (O22.all 0 rfl) (T_box_Box.T.len _ _ _ e_9), ?_⟩
        refine ⟨_, ldAn (Sub.refl _) (O22.all 1 rfl) (T_api_Letter.T.len _ _ _ e_10), ?_⟩
        have O23 := O22.nm
        cases e
        exact ⟨_, _, _, O23.pick [], rfl, e_9, e_10⟩
      · refine ⟨_, rfl, (T_box_Box.T.len _ _ _ e_9), ?_⟩
        refine O.stA 0 rfl ((T_box_Box.T.len _ _ _ e_9).trans ((T_box_Box.T.len _ _ _ e_4)).symm) (T_box_Box.T.flat _ _ _ e_9) fun h24 O25 => ?_
        refine ⟨_, ldAn (Sub.refl _) (O25.all 4 rfl) (T_api_Letter.T.len _ _ _ e_10), ?_⟩
        refine ⟨Ext.refl _, ?_⟩
        refine ⟨_, rfl, (T_api_Letter.T.len _ _ _ e_10), ?_⟩
        refine O25.stA 1 rfl ((T_api_Letter.T.len _ _ _ e_10).trans ((T_api_Letter.T.len _ _ _ e_5)).symm) (T_api_Letter.T.flat _ _ _ e_10) fun h26 O27 => ?_
        refine ⟨_, ldAn (Sub.refl _) (O27.all 0 rfl) (T_box_Box.T.len _ _ _ e_9), ?_⟩
        refine ⟨_, ldAn (Sub.refl _) (O27.all 1 rfl) (T_api_Letter.T.len _ _ _ e_10), ?_⟩
        have O28 := O27.nm
        cases e
        exact ⟨_, _, _, O28.pick [], rfl, e_9, e_10⟩
    · refine ⟨_, rfl, (T_box_Box.T.len _ _ _ e_9), ?_⟩
      refine O.stA 0 rfl ((T_box_Box.T.len _ _ _ e_9).trans ((T_box_Box.T.len _ _ _ e_4)).symm) (T_box_Box.T.flat _ _ _ e_9) fun h29 O30 => ?_
      refine ⟨?_, ?_⟩
      · refine ⟨_, ldAn (Sub.refl _) (O30.all 4 rfl) (T_api_Letter.T.len _ _ _ e_10), ?_⟩
        refine ⟨Ext.refl _, ?_⟩
        refine ⟨?_, ?_⟩
        · refine ⟨_, ld0 (Sub.refl _) (O30.all 2 rfl) rfl, _, rfl, ?_⟩
          refine ⟨Ext.refl _, ?_⟩
          refine ⟨_, rfl, (T_api_Letter.T.len _ _ _ e_10), ?_⟩
          refine O30.stA 1 rfl ((T_api_Letter.T.len _ _ _ e_10).trans ((T_api_Letter.T.len _ _ _ e_5)).symm) (T_api_Letter.T.flat _ _ _ e_10) fun h31 O32 => ?_
          refine ⟨_, ldAn (Sub.refl _) (O32.all 0 rfl) (T_box_Box.T.len _ _ _ e_9), ?_⟩
          refine ⟨_, ldAn (Sub.refl _) (O32.all 1 rfl) (T_api_Letter.T.len _ _ _ e_10), ?_⟩
          have O33 := O32.nm
          cases e
          exact ⟨_, _, _, O33.pick [], rfl, e_9, e_10⟩
        · refine ⟨_, rfl, (T_api_Letter.T.len _ _ _ e_10), ?_⟩
          refine O30.stA 1 rfl ((T_api_Letter.T.len _ _ _ e_10).trans ((T_api_Letter.T.len _ _ _ e_5)).symm) (T_api_Letter.T.flat _ _ _ e_10) fun h34 O35 => ?_
          refine ⟨_, ld0 (Sub.refl _) (O35.all 2 rfl) rfl, _, rfl, ?_⟩
          refine ⟨Ext.refl _, ?_⟩
          refine ⟨_, ldAn (Sub.refl _) (O35.all 0 rfl) (T_box_Box.T.len _ _ _ e_9), ?_⟩
          refine ⟨_, ldAn (Sub.refl _) (O35.all 1 rfl) (T_api_Letter.T.len _ _ _ e_10), ?_⟩
          have O36 := O35.nm
          cases e
          exact ⟨_, _, _, O36.pick [], rfl, e_9, e_10⟩
      · refine ⟨_, ld0 (Sub.refl _) (O30.all 2 rfl) rfl, _, rfl, ?_⟩
        refine ⟨Ext.refl _, ?_⟩
        refine ⟨_, ldAn (Sub.refl _) (O30.all 4 rfl) (T_api_Letter.T.len _ _ _ e_10), ?_⟩
        refine ⟨Ext.refl _, ?_⟩
        refine ⟨_, rfl, (T_api_Letter.T.len _ _ _ e_10), ?_⟩
        refine O30.stA 1 rfl ((T_api_Letter.T.len _ _ _ e_10).trans ((T_api_Letter.T.len _ _ _ e_5)).symm) (T_api_Letter.T.flat _ _ _ e_10) fun h37 O38 => ?_
        refine ⟨_, ldAn (Sub.refl _) (O38.all 0 rfl) (T_box_Box.T.len _ _ _ e_9), ?_⟩
        refine ⟨_, ldAn (Sub.refl _) (O38.all 1 rfl) (T_api_Letter.T.len _ _ _ e_10), ?_⟩
        have O39 := O38.nm
        cases e
        exact ⟨_, _, _, O39.pick [], rfl, e_9, e_10⟩
noncomputable def pick_Choose.j0 (y_4 : T_box_Box) (y_5 : T_api_Letter) (y_8 : Int) (y_9 : T_box_Box) (y_10 : T_api_Letter) (x_12 : Int) : Option (T_box_Box × T_api_Letter × Int × Int) :=
  if x_12 = (0 : Int) then ((pick_Choose.j1 y_4 y_5 y_8 y_9 y_10 x_12)) else ((pick_Choose.j1 y_4 y_5 (0 : Int) y_9 y_10 x_12))
set_option maxRecDepth 100000 in
theorem pick_Choose.j0.walk {W : Nat → Prop} {h0 m0 h m : Heap} {bk_4 : Nat} {cs_4 : List Value} {bk_5 : Nat} {cs_5 : List Value} {bk_8 : Nat} {cs_8 : List Value} {bk_9 : Nat} {cs_9 : List Value} {bk_10 : Nat} {cs_10 : List Value} {y_4 : T_box_Box} {y_5 : T_api_Letter} {y_8 : Int} {y_9 : T_box_Box} {y_10 : T_api_Letter} {x_12 : Int} (O : Hold W h0 m0 h m [rV bk_4 46 cs_4, rV bk_5 59 cs_5, rV bk_8 3 cs_8, rV bk_9 46 cs_9, rV bk_10 59 cs_10]) (e_4 : T_box_Box.E m y_4 cs_4) (e_5 : T_api_Letter.E m y_5 cs_5) (e_8 : (eInt .i64) m y_8 cs_8) (e_9 : T_box_Box.E m y_9 cs_9) (e_10 : T_api_Letter.E m y_10 cs_10) {r : T_box_Box × T_api_Letter × Int × Int} (e : pick_Choose.j0 y_4 y_5 y_8 y_9 y_10 x_12 = some r) : f34.j0 (pick_Choose.post W h0 m0 r) (⟨bk_4, 0, none⟩ : Addr) (⟨bk_5, 0, none⟩ : Addr) (⟨bk_8, 0, none⟩ : Addr) (⟨bk_9, 0, none⟩ : Addr) (⟨bk_10, 0, none⟩ : Addr) x_12 h := by
  unfold pick_Choose.j0 at e
  obtain rfl : cs_8 = [(Value.int .i64 y_8)] := e_8
  refine f34.j0_in ?_
  unfold f34.j0T
  refine split_ne_e e (fun c4 e => ?_) (fun c4 e => ?_)
  · refine O.st0 2 rfl (Nat.le_of_ble_eq_true rfl) trivial fun h1 O2 => ?_
    have O3 := O2.nm
    exact pick_Choose.j1.walk (O3.pick [0, 1, 2, 3, 4]).nm e_4 e_5 rfl e_9 e_10 e
  · exact pick_Choose.j1.walk (O.pick [0, 1, 2, 3, 4]).nm e_4 e_5 rfl e_9 e_10 e
noncomputable def pick_Choose (y_0 : T_box_Box) (a_1 : List T_api_Pat) : Option (T_box_Box × T_api_Letter × Int × Int) :=
  Option.bind (pick_Take_s3 y_0 a_1 (-1 : Int)) fun y24 => if y24.2.2.1 = true then ((pick_Choose.j0 (T_box_Box.mk ([] : List T_api_Letter) (0 : Int)) (T_api_Letter.mk (0 : Int) (0 : Int) (0 : Int) (0 : Int) (ByteArray.mk #[]) (T_api_Value.mk (0 : Int) (0 : Int) (ByteArray.mk #[]) ([] : List T_api_Value))) y24.2.2.2.2 y24.1 y24.2.1 y24.2.2.2.1)) else ((pick_Choose.j0 (T_box_Box.mk ([] : List T_api_Letter) (0 : Int)) (T_api_Letter.mk (0 : Int) (0 : Int) (0 : Int) (0 : Int) (ByteArray.mk #[]) (T_api_Value.mk (0 : Int) (0 : Int) (ByteArray.mk #[]) ([] : List T_api_Value))) (-1 : Int) y24.1 y24.2.1 y24.2.2.2.1))
set_option maxRecDepth 100000 in
theorem pick_Choose.walk {W : Nat → Prop} {h m : Heap} {cs_0 : List Value} {A_1 : Option Addr} {n_1 c_1 : Nat} {y_0 : T_box_Box} {a_1 : List T_api_Pat} (O : Hold W h m h m []) (e_0 : T_box_Box.E m y_0 cs_0) (ne_1 : n_1 = List.length a_1) (k_1 : List.length a_1 ≤ c_1) (r_1 : Rd 4 T_api_Pat.E m A_1 a_1) {r : T_box_Box × T_api_Letter × Int × Int} (e : pick_Choose y_0 a_1 = some r) : Run Try.prog 34 #[Value.agg cs_0.toArray, Value.slice A_1 n_1 c_1] h (pick_Choose.post W h m r) := by
  unfold pick_Choose at e
  subst ne_1
  refine f34.run ?_
  unfold f34.runT
  refine O.new fun h1 x2 O3 => ?_
  refine O3.new fun h5 x6 O7 => ?_
  refine O7.new fun h9 x10 O11 => ?_
  refine O11.new fun h13 x14 O15 => ?_
  refine O15.new fun h17 x18 O19 => ?_
  have O21 := O19.nm
  refine O21.st0 4 rfl (Nat.le_of_ble_eq_true rfl) trivial fun h22 O23 => ?_
  refine ⟨_, ldAn (Sub.refl _) (O23.all 0 rfl) (T_box_Box.T.len _ _ _ e_0), ?_⟩
  obtain ⟨y24, g25, e⟩ := bind_e e
  have O30 := O23.nm
  obtain ⟨m31, W36, u32, P37, ⟨hb35, _⟩, B33, C34⟩ := O30.lend [4] [1]
  refine (pick_Take_s3.walk P37 (T_box_Box.T.mono _ _ _ _ u32 e_0) ⟨_, _, hb35, nn, ⟨_, _, rfl, k_1, (r_1.sub T_api_Pat.T u32)⟩⟩ rfl g25).mono ?_
  rintro _ h26 ⟨m27, cs39, cs42, cs45, Q28, rfl, he40, he43, he46⟩
  have O47 := Hold.nm (B33 Q28)
  obtain rfl : cs45 = [(Value.int .i64 y24.2.2.2.2)] := he46
  refine ⟨_, _, _, _, rfl, ?_⟩
  refine O47.new fun h48 x49 O50 => ?_
  refine O50.new fun h52 x53 O54 => ?_
  refine ⟨_, rfl, (T_box_Box.T.len _ _ _ he40), ?_⟩
  refine O54.stA 6 rfl (T_box_Box.T.len _ _ _ he40) (T_box_Box.T.flat _ _ _ he40) fun h56 O57 => ?_
  refine ⟨_, rfl, (T_api_Letter.T.len _ _ _ he43), ?_⟩
  refine O57.stA 7 rfl (T_api_Letter.T.len _ _ _ he43) (T_api_Letter.T.flat _ _ _ he43) fun h58 O59 => ?_
  refine split_not ?_
  refine split_any_e e (fun c64 e => ?_) (fun c64 e => ?_)
  · have O60 := O59.nm
    exact pick_Choose.j0.walk (O60.pick [2, 3, 5, 6, 7]).nm (show T_box_Box.E _ (T_box_Box.mk ([] : List T_api_Letter) (0 : Int)) [(Value.slice none 0 0), (Value.int .i64 (0 : Int))] from ⟨_, _, rfl, (by exact Nat.le_refl 0), Rd.nil⟩) (show T_api_Letter.E _ (T_api_Letter.mk (0 : Int) (0 : Int) (0 : Int) (0 : Int) (ByteArray.mk #[]) (T_api_Value.mk (0 : Int) (0 : Int) (ByteArray.mk #[]) ([] : List T_api_Value))) [(Value.int .i64 (0 : Int)), (Value.int .i64 (0 : Int)), (Value.int .i64 (0 : Int)), (Value.int .i64 (0 : Int)), (Value.string (ByteArray.mk #[])), (Value.int .i64 (0 : Int)), (Value.int .i64 (0 : Int)), (Value.string (ByteArray.mk #[])), (Value.slice none 0 0)] from ⟨_, _, rfl, (by exact Nat.le_refl 0), Rd.nil⟩) rfl he40 he43 e
  · refine O59.st0 5 rfl (Nat.le_of_ble_eq_true rfl) trivial fun h61 O62 => ?_
    have O63 := O62.nm
    exact pick_Choose.j0.walk (O63.pick [2, 3, 5, 6, 7]).nm (show T_box_Box.E _ (T_box_Box.mk ([] : List T_api_Letter) (0 : Int)) [(Value.slice none 0 0), (Value.int .i64 (0 : Int))] from ⟨_, _, rfl, (by exact Nat.le_refl 0), Rd.nil⟩) (show T_api_Letter.E _ (T_api_Letter.mk (0 : Int) (0 : Int) (0 : Int) (0 : Int) (ByteArray.mk #[]) (T_api_Value.mk (0 : Int) (0 : Int) (ByteArray.mk #[]) ([] : List T_api_Value))) [(Value.int .i64 (0 : Int)), (Value.int .i64 (0 : Int)), (Value.int .i64 (0 : Int)), (Value.int .i64 (0 : Int)), (Value.string (ByteArray.mk #[])), (Value.int .i64 (0 : Int)), (Value.int .i64 (0 : Int)), (Value.string (ByteArray.mk #[])), (Value.slice none 0 0)] from ⟨_, _, rfl, (by exact Nat.le_refl 0), Rd.nil⟩) rfl he40 he43 e
def roadref3_In.post (W : Nat → Prop) (h0 m0 : Heap) (r : Bool) (v : Value) (h : Heap) : Prop := ∃ m , Hold W h0 m0 h m [] ∧ v = .bool r
noncomputable def roadref3_In (x_0 : Int) (x_1 : Int) (x_2 : Int) : Option (Bool) :=
  if x_0 ≥ x_1 then (some ((decide (x_0 ≤ x_2)))) else (some (false))
set_option maxRecDepth 100000 in
theorem roadref3_In.walk {W : Nat → Prop} {h m : Heap} {x_0 : Int} {x_1 : Int} {x_2 : Int} (O : Hold W h m h m []) {r : Bool} (e : roadref3_In x_0 x_1 x_2 = some r) : Run Try.prog 58 #[Value.int .i64 x_0, Value.int .i64 x_1, Value.int .i64 x_2] h (roadref3_In.post W h m r) := by
  unfold roadref3_In at e
  refine f58.run ?_
  unfold f58.runT
  refine split_dec_e e (fun c1 e => ?_) (fun c1 e => ?_)
  · cases e
    exact ⟨_, O.pick [], rfl⟩
  · cases e
    exact ⟨_, O.pick [], rfl⟩
def roadref3_BoxFault.post (W : Nat → Prop) (h0 m0 : Heap) (r : Int) (v : Value) (h : Heap) : Prop := ∃ m , Hold W h0 m0 h m [] ∧ v = .int .i64 r
inductive roadref3_BoxFault.l0_k.Pt where
  | l0 (a_17 : List T_api_Letter) (x_18 : Int) (x_19 : Int)
noncomputable def roadref3_BoxFault.l0_k.body (go : (p : roadref3_BoxFault.l0_k.Pt) → Option (Int)) : (p : roadref3_BoxFault.l0_k.Pt) → Option (Int)
  | .l0 a_17 x_18 x_19 => if x_19 < x_18 then (Option.bind (gi a_17 x_19) fun y1 => Option.bind (roadref3_In y1.Kind (1 : Int) (2 : Int)) fun y14 => if y14 = true then ((go (.l0 a_17 x_18 (IntKind.wrap .i64 (x_19 + (1 : Int)))))) else (some ((3 : Int)))) else (some ((0 : Int)))
theorem roadref3_BoxFault.l0_k.mono : MonoF (β := fun _ => (Int)) roadref3_BoxFault.l0_k.body := fun f g hfg p => match p with
  | .l0 a_17 x_18 x_19 => LeO.ite (LeO.bind (LeO.refl _) fun y1 => LeO.bind (LeO.refl _) fun y14 => LeO.ite ((hfg _)) (LeO.refl _)) (LeO.refl _)
noncomputable def roadref3_BoxFault.l0_k.go (p : roadref3_BoxFault.l0_k.Pt) : Option (Int) := fixF (β := fun _ => (Int)) roadref3_BoxFault.l0_k.body p
noncomputable def roadref3_BoxFault.l0 (a_17 : List T_api_Letter) (x_18 : Int) (x_19 : Int) : Option (Int) := roadref3_BoxFault.l0_k.go (.l0 a_17 x_18 x_19)
theorem roadref3_BoxFault.l0_eq (a_17 : List T_api_Letter) (x_18 : Int) (x_19 : Int) : roadref3_BoxFault.l0 a_17 x_18 x_19 = if x_19 < x_18 then (Option.bind (gi a_17 x_19) fun y1 => Option.bind (roadref3_In y1.Kind (1 : Int) (2 : Int)) fun y14 => if y14 = true then ((roadref3_BoxFault.l0 a_17 x_18 (IntKind.wrap .i64 (x_19 + (1 : Int))))) else (some ((3 : Int)))) else (some ((0 : Int))) := fixF_eq roadref3_BoxFault.l0_k.mono _
def roadref3_BoxFault.l0_k.I : (p : roadref3_BoxFault.l0_k.Pt) → (Int) → Prop
  | .l0 a_17 x_18 x_19, r => ∀ (W : Nat → Prop) (h0 m0 h m : Heap) (A_17 : Option Addr) (n_17 c_17 : Nat) (O : Hold W h0 m0 h m []) (ne_17 : n_17 = List.length a_17) (k_17 : List.length a_17 ≤ c_17) (r_17 : Rd 9 T_api_Letter.E m A_17 a_17), f35.l0 (roadref3_BoxFault.post W h0 m0 r) A_17 n_17 c_17 x_18 x_19 h
set_option maxRecDepth 100000 in
theorem roadref3_BoxFault.l0_k.step_l0 (go : (p : roadref3_BoxFault.l0_k.Pt) → Option (Int)) (ih : ∀ p r, go p = some r → roadref3_BoxFault.l0_k.I p r) (a_17 : List T_api_Letter) (x_18 : Int) (x_19 : Int) (r : Int) (e : roadref3_BoxFault.l0_k.body go (.l0 a_17 x_18 x_19) = some r) : roadref3_BoxFault.l0_k.I (.l0 a_17 x_18 x_19) r := by
  unfold roadref3_BoxFault.l0_k.body at e
  intro W h0 m0 h m A_17 n_17 c_17 O ne_17 k_17 r_17
  subst ne_17
  refine f35.l0_in ?_
  unfold f35.l0T
  refine split_dec_e e (fun c22 e => ?_) (fun c22 e => ?_)
  · obtain ⟨y1, g2, e⟩ := bind_e e
    refine r_17.addr rfl g2 fun a3 cs4 ha5 hc6 he7 => ?_
    refine ⟨_, ldAn O.s hc6 rfl, ?_⟩
    refine O.new fun h8 x9 O10 => ?_
    refine ⟨_, rfl, (T_api_Letter.T.len _ _ _ he7), ?_⟩
    refine O10.stA 0 rfl (T_api_Letter.T.len _ _ _ he7) (T_api_Letter.T.flat _ _ _ he7) fun h12 O13 => ?_
    refine ⟨_, ld0 (Sub.refl _) (O13.all 0 rfl) (T_api_Letter.g0 he7), _, rfl, ?_⟩
    obtain ⟨y14, g15, e⟩ := bind_e e
    refine (roadref3_In.walk (Hold.start (W := No) O13.s)  g15).mono ?_
    rintro _ h16 ⟨m17, Q18, rfl⟩
    have O20 := Hold.nm (O13.retC Q18 vfs_nil)
    refine ⟨_, rfl, ?_⟩
    refine split_not ?_
    refine split_any_e e (fun c21 e => ?_) (fun c21 e => ?_)
    · exact (ih _ _ e) _ _ _ _ _ _ _ _ (O20.pick []).nm rfl k_17 r_17
    · cases e
      exact ⟨_, O20.pick [], rfl⟩
  · cases e
    exact ⟨_, O.pick [], rfl⟩
theorem roadref3_BoxFault.l0_k.all {p : roadref3_BoxFault.l0_k.Pt} {r : (Int)} (e : roadref3_BoxFault.l0_k.go p = some r) : roadref3_BoxFault.l0_k.I p r := fixF_ind (β := fun _ => (Int)) roadref3_BoxFault.l0_k.mono (I := roadref3_BoxFault.l0_k.I) (fun go ih p r e => match p with
  | .l0 a_17 x_18 x_19 => roadref3_BoxFault.l0_k.step_l0 go ih a_17 x_18 x_19 r e
  ) e
theorem roadref3_BoxFault.l0.walk {W : Nat → Prop} {h0 m0 h m : Heap} {A_17 : Option Addr} {n_17 c_17 : Nat} {a_17 : List T_api_Letter} {x_18 : Int} {x_19 : Int} (O : Hold W h0 m0 h m []) (ne_17 : n_17 = List.length a_17) (k_17 : List.length a_17 ≤ c_17) (r_17 : Rd 9 T_api_Letter.E m A_17 a_17) {r : Int} (e : roadref3_BoxFault.l0 a_17 x_18 x_19 = some r) : f35.l0 (roadref3_BoxFault.post W h0 m0 r) A_17 n_17 c_17 x_18 x_19 h := roadref3_BoxFault.l0_k.all (p := .l0 a_17 x_18 x_19) e W h0 m0 h m A_17 n_17 c_17 O ne_17 k_17 r_17
noncomputable def roadref3_BoxFault (y_0 : T_box_Box) : Option (Int) :=
  if (((List.length y_0.Letters) : Nat) : Int) > (60 : Int) then (some ((2 : Int))) else (Option.bind (roadref3_In y_0.At (0 : Int) (((List.length y_0.Letters) : Nat) : Int)) fun y16 => if y16 = true then ((roadref3_BoxFault.l0 y_0.Letters (((List.length y_0.Letters) : Nat) : Int) (0 : Int))) else (some ((1 : Int))))
set_option maxRecDepth 100000 in
theorem roadref3_BoxFault.walk {W : Nat → Prop} {h m : Heap} {cs_0 : List Value} {y_0 : T_box_Box} (O : Hold W h m h m []) (e_0 : T_box_Box.E m y_0 cs_0) {r : Int} (e : roadref3_BoxFault y_0 = some r) : Run Try.prog 35 #[Value.agg cs_0.toArray] h (roadref3_BoxFault.post W h m r) := by
  unfold roadref3_BoxFault at e
  refine f35.run ?_
  unfold f35.runT
  refine O.new fun h1 x2 O3 => ?_
  obtain ⟨A5, c6, q7, k8, r9⟩ := T_box_Box.g0 e_0
  refine ⟨_, ld0 (Sub.refl _) (O3.all 0 rfl) q7, _, _, _, rfl, ?_⟩
  refine split_dec_e e (fun c29 e => ?_) (fun c29 e => ?_)
  · have O10 := O3.nm
    cases e
    exact ⟨_, O10.pick [], rfl⟩
  · refine ⟨_, ldk (k := 1) (Sub.refl _) (O3.all 0 rfl) (T_box_Box.g1 e_0), _, rfl, ?_⟩
    obtain ⟨A11, c12, q13, k14, r15⟩ := T_box_Box.g0 e_0
    refine ⟨_, ld0 (Sub.refl _) (O3.all 0 rfl) q13, _, _, _, rfl, ?_⟩
    obtain ⟨y16, g17, e⟩ := bind_e e
    refine (roadref3_In.walk (Hold.start (W := No) O3.s)  g17).mono ?_
    rintro _ h18 ⟨m19, Q20, rfl⟩
    have O22 := Hold.nm (O3.retC Q20 vfs_nil)
    refine ⟨_, rfl, ?_⟩
    refine split_not ?_
    refine split_any_e e (fun c28 e => ?_) (fun c28 e => ?_)
    · obtain ⟨A23, c24, q25, k26, r27⟩ := T_box_Box.g0 e_0
      refine ⟨_, ld0 (Sub.refl _) (O22.all 0 rfl) q25, _, _, _, rfl, ?_⟩
      exact roadref3_BoxFault.l0.walk (O22.pick []).nm rfl k26 r27 e
    · cases e
      exact ⟨_, O22.pick [], rfl⟩
def roadref3_SameLetter.post (W : Nat → Prop) (h0 m0 : Heap) (r : Bool) (v : Value) (h : Heap) : Prop := ∃ m , Hold W h0 m0 h m [] ∧ v = .bool r
noncomputable def roadref3_SameLetter (y_0 : T_api_Letter) (y_1 : T_api_Letter) : Option (Bool) :=
  if y_0.Kind = y_1.Kind then (if y_0.From = y_1.From then (if y_0.To = y_1.To then (if y_0.Num = y_1.Num then (if y_0.Text = y_1.Text then (Option.bind (roadref3_SameValue y_0.Value_ y_1.Value_) fun y9 => some (y9)) else (some (false))) else (some (false))) else (some (false))) else (some (false))) else (some (false))
set_option maxHeartbeats 4000000 in
set_option maxRecDepth 100000 in
theorem roadref3_SameLetter.walk {W : Nat → Prop} {h m : Heap} {cs_0 : List Value} {cs_1 : List Value} {y_0 : T_api_Letter} {y_1 : T_api_Letter} (O : Hold W h m h m []) (e_0 : T_api_Letter.E m y_0 cs_0) (e_1 : T_api_Letter.E m y_1 cs_1) {r : Bool} (e : roadref3_SameLetter y_0 y_1 = some r) : Run Try.prog 37 #[Value.agg cs_0.toArray, Value.agg cs_1.toArray] h (roadref3_SameLetter.post W h m r) := by
  unfold roadref3_SameLetter at e
  refine f37.run ?_
  unfold f37.runT
  refine O.new fun h1 x2 O3 => ?_
  refine O3.new fun h5 x6 O7 => ?_
  refine ⟨_, ld0 (Sub.refl _) (O7.all 0 rfl) (T_api_Letter.g0 e_0), _, rfl, ?_⟩
  refine ⟨_, ld0 (Sub.refl _) (O7.all 1 rfl) (T_api_Letter.g0 e_1), _, rfl, ?_⟩
  refine split_eq_e e (fun c25 e => ?_) (fun c25 e => ?_)
  · refine ⟨_, ldk (k := 1) (Sub.refl _) (O7.all 0 rfl) (T_api_Letter.g1 e_0), _, rfl, ?_⟩
    refine ⟨_, ldk (k := 1) (Sub.refl _) (O7.all 1 rfl) (T_api_Letter.g1 e_1), _, rfl, ?_⟩
    refine split_eq_e e (fun c23 e => ?_) (fun c23 e => ?_)
    · refine ⟨_, ldk (k := 2) (Sub.refl _) (O7.all 0 rfl) (T_api_Letter.g2 e_0), _, rfl, ?_⟩
      refine ⟨_, ldk (k := 2) (Sub.refl _) (O7.all 1 rfl) (T_api_Letter.g2 e_1), _, rfl, ?_⟩
      refine split_eq_e e (fun c21 e => ?_) (fun c21 e => ?_)
      · refine ⟨_, ldk (k := 3) (Sub.refl _) (O7.all 0 rfl) (T_api_Letter.g3 e_0), _, rfl, ?_⟩
        refine ⟨_, ldk (k := 3) (Sub.refl _) (O7.all 1 rfl) (T_api_Letter.g3 e_1), _, rfl, ?_⟩
        refine split_eq_e e (fun c19 e => ?_) (fun c19 e => ?_)
        · refine ⟨_, ldk (k := 4) (Sub.refl _) (O7.all 0 rfl) (T_api_Letter.g4 e_0), _, rfl, ?_⟩
          refine ⟨_, ldk (k := 4) (Sub.refl _) (O7.all 1 rfl) (T_api_Letter.g4 e_1), _, rfl, ?_⟩
          try rw [ba_list y_0.Text y_1.Text]
          refine split_dec_e e (fun c17 e => ?_) (fun c17 e => ?_)
          · refine ⟨_, ldAkn (Sub.refl _) (O7.all 0 rfl) 5 4 (le_len (T_api_Letter.T.len _ _ _ e_0) (by decide)), ?_⟩
            refine ⟨_, ldAkn (Sub.refl _) (O7.all 1 rfl) 5 4 (le_len (T_api_Letter.T.len _ _ _ e_1) (by decide)), ?_⟩
            obtain ⟨y9, g10, e⟩ := bind_e e
            refine (roadref3_SameValue.walk (Hold.start (W := No) O7.s) (T_api_Letter.u5_50 e_0) (T_api_Letter.u5_50 e_1) g10).mono ?_
            rintro _ h11 ⟨m12, Q13, rfl⟩
            have O15 := Hold.nm (O7.retC Q13 vfs_nil)
            refine ⟨_, rfl, ?_⟩
            cases e
            exact ⟨_, O15.pick [], rfl⟩
          · have O16 := O7.nm
            cases e
            exact ⟨_, O16.pick [], rfl⟩
        · have O18 := O7.nm
          cases e
          exact ⟨_, O18.pick [], rfl⟩
      · have O20 := O7.nm
        cases e
        exact ⟨_, O20.pick [], rfl⟩
    · have O22 := O7.nm
      cases e
      exact ⟨_, O22.pick [], rfl⟩
  · have O24 := O7.nm
    cases e
    exact ⟨_, O24.pick [], rfl⟩
def roadref3_SameLetters.post (W : Nat → Prop) (h0 m0 : Heap) (r : Bool) (v : Value) (h : Heap) : Prop := ∃ m , Hold W h0 m0 h m [] ∧ v = .bool r
inductive roadref3_SameLetters.l0_k.Pt where
  | l0 (a_0 : List T_api_Letter) (a_1 : List T_api_Letter) (x_12 : Int) (x_13 : Int)
noncomputable def roadref3_SameLetters.l0_k.body (go : (p : roadref3_SameLetters.l0_k.Pt) → Option (Bool)) : (p : roadref3_SameLetters.l0_k.Pt) → Option (Bool)
  | .l0 a_0 a_1 x_12 x_13 => if x_13 < x_12 then (Option.bind (gi a_0 x_13) fun y1 => Option.bind (gi a_1 x_13) fun y8 => Option.bind (roadref3_SameLetter y1 y8) fun y15 => if y15 = true then ((go (.l0 a_0 a_1 x_12 (IntKind.wrap .i64 (x_13 + (1 : Int)))))) else (some (false))) else (some (true))
theorem roadref3_SameLetters.l0_k.mono : MonoF (β := fun _ => (Bool)) roadref3_SameLetters.l0_k.body := fun f g hfg p => match p with
  | .l0 a_0 a_1 x_12 x_13 => LeO.ite (LeO.bind (LeO.refl _) fun y1 => LeO.bind (LeO.refl _) fun y8 => LeO.bind (LeO.refl _) fun y15 => LeO.ite ((hfg _)) (LeO.refl _)) (LeO.refl _)
noncomputable def roadref3_SameLetters.l0_k.go (p : roadref3_SameLetters.l0_k.Pt) : Option (Bool) := fixF (β := fun _ => (Bool)) roadref3_SameLetters.l0_k.body p
noncomputable def roadref3_SameLetters.l0 (a_0 : List T_api_Letter) (a_1 : List T_api_Letter) (x_12 : Int) (x_13 : Int) : Option (Bool) := roadref3_SameLetters.l0_k.go (.l0 a_0 a_1 x_12 x_13)
theorem roadref3_SameLetters.l0_eq (a_0 : List T_api_Letter) (a_1 : List T_api_Letter) (x_12 : Int) (x_13 : Int) : roadref3_SameLetters.l0 a_0 a_1 x_12 x_13 = if x_13 < x_12 then (Option.bind (gi a_0 x_13) fun y1 => Option.bind (gi a_1 x_13) fun y8 => Option.bind (roadref3_SameLetter y1 y8) fun y15 => if y15 = true then ((roadref3_SameLetters.l0 a_0 a_1 x_12 (IntKind.wrap .i64 (x_13 + (1 : Int))))) else (some (false))) else (some (true)) := fixF_eq roadref3_SameLetters.l0_k.mono _
def roadref3_SameLetters.l0_k.I : (p : roadref3_SameLetters.l0_k.Pt) → (Bool) → Prop
  | .l0 a_0 a_1 x_12 x_13, r => ∀ (W : Nat → Prop) (h0 m0 h m : Heap) (A_0 : Option Addr) (n_0 c_0 : Nat) (A_1 : Option Addr) (n_1 c_1 : Nat) (O : Hold W h0 m0 h m []) (ne_0 : n_0 = List.length a_0) (k_0 : List.length a_0 ≤ c_0) (r_0 : Rd 9 T_api_Letter.E m A_0 a_0) (ne_1 : n_1 = List.length a_1) (k_1 : List.length a_1 ≤ c_1) (r_1 : Rd 9 T_api_Letter.E m A_1 a_1), f90.l0 (roadref3_SameLetters.post W h0 m0 r) A_0 n_0 c_0 A_1 n_1 c_1 x_12 x_13 h
set_option maxRecDepth 100000 in
theorem roadref3_SameLetters.l0_k.step_l0 (go : (p : roadref3_SameLetters.l0_k.Pt) → Option (Bool)) (ih : ∀ p r, go p = some r → roadref3_SameLetters.l0_k.I p r) (a_0 : List T_api_Letter) (a_1 : List T_api_Letter) (x_12 : Int) (x_13 : Int) (r : Bool) (e : roadref3_SameLetters.l0_k.body go (.l0 a_0 a_1 x_12 x_13) = some r) : roadref3_SameLetters.l0_k.I (.l0 a_0 a_1 x_12 x_13) r := by
  unfold roadref3_SameLetters.l0_k.body at e
  intro W h0 m0 h m A_0 n_0 c_0 A_1 n_1 c_1 O ne_0 k_0 r_0 ne_1 k_1 r_1
  subst ne_0
  subst ne_1
  refine f90.l0_in ?_
  unfold f90.l0T
  refine split_dec_e e (fun c23 e => ?_) (fun c23 e => ?_)
  · obtain ⟨y1, g2, e⟩ := bind_e e
    refine r_0.addr rfl g2 fun a3 cs4 ha5 hc6 he7 => ?_
    obtain ⟨y8, g9, e⟩ := bind_e e
    refine r_1.addr rfl g9 fun a10 cs11 ha12 hc13 he14 => ?_
    refine ⟨_, ldAn O.s hc6 rfl, ?_⟩
    refine ⟨_, ldAn O.s hc13 rfl, ?_⟩
    obtain ⟨y15, g16, e⟩ := bind_e e
    refine (roadref3_SameLetter.walk (Hold.start (W := No) O.s) he7 he14 g16).mono ?_
    rintro _ h17 ⟨m18, Q19, rfl⟩
    have O21 := Hold.nm (O.retC Q19 vfs_nil)
    refine ⟨_, rfl, ?_⟩
    refine split_not ?_
    refine split_any_e e (fun c22 e => ?_) (fun c22 e => ?_)
    · exact (ih _ _ e) _ _ _ _ _ _ _ _ _ _ _ (O21.pick []).nm rfl k_0 r_0 rfl k_1 r_1
    · cases e
      exact ⟨_, O21.pick [], rfl⟩
  · cases e
    exact ⟨_, O.pick [], rfl⟩
theorem roadref3_SameLetters.l0_k.all {p : roadref3_SameLetters.l0_k.Pt} {r : (Bool)} (e : roadref3_SameLetters.l0_k.go p = some r) : roadref3_SameLetters.l0_k.I p r := fixF_ind (β := fun _ => (Bool)) roadref3_SameLetters.l0_k.mono (I := roadref3_SameLetters.l0_k.I) (fun go ih p r e => match p with
  | .l0 a_0 a_1 x_12 x_13 => roadref3_SameLetters.l0_k.step_l0 go ih a_0 a_1 x_12 x_13 r e
  ) e
theorem roadref3_SameLetters.l0.walk {W : Nat → Prop} {h0 m0 h m : Heap} {A_0 : Option Addr} {n_0 c_0 : Nat} {A_1 : Option Addr} {n_1 c_1 : Nat} {a_0 : List T_api_Letter} {a_1 : List T_api_Letter} {x_12 : Int} {x_13 : Int} (O : Hold W h0 m0 h m []) (ne_0 : n_0 = List.length a_0) (k_0 : List.length a_0 ≤ c_0) (r_0 : Rd 9 T_api_Letter.E m A_0 a_0) (ne_1 : n_1 = List.length a_1) (k_1 : List.length a_1 ≤ c_1) (r_1 : Rd 9 T_api_Letter.E m A_1 a_1) {r : Bool} (e : roadref3_SameLetters.l0 a_0 a_1 x_12 x_13 = some r) : f90.l0 (roadref3_SameLetters.post W h0 m0 r) A_0 n_0 c_0 A_1 n_1 c_1 x_12 x_13 h := roadref3_SameLetters.l0_k.all (p := .l0 a_0 a_1 x_12 x_13) e W h0 m0 h m A_0 n_0 c_0 A_1 n_1 c_1 O ne_0 k_0 r_0 ne_1 k_1 r_1
noncomputable def roadref3_SameLetters (a_0 : List T_api_Letter) (a_1 : List T_api_Letter) : Option (Bool) :=
  if (((List.length a_0) : Nat) : Int) = (((List.length a_1) : Nat) : Int) then ((roadref3_SameLetters.l0 a_0 a_1 (((List.length a_0) : Nat) : Int) (0 : Int))) else (some (false))
set_option maxRecDepth 100000 in
theorem roadref3_SameLetters.walk {W : Nat → Prop} {h m : Heap} {A_0 : Option Addr} {n_0 c_0 : Nat} {A_1 : Option Addr} {n_1 c_1 : Nat} {a_0 : List T_api_Letter} {a_1 : List T_api_Letter} (O : Hold W h m h m []) (ne_0 : n_0 = List.length a_0) (k_0 : List.length a_0 ≤ c_0) (r_0 : Rd 9 T_api_Letter.E m A_0 a_0) (ne_1 : n_1 = List.length a_1) (k_1 : List.length a_1 ≤ c_1) (r_1 : Rd 9 T_api_Letter.E m A_1 a_1) {r : Bool} (e : roadref3_SameLetters a_0 a_1 = some r) : Run Try.prog 90 #[Value.slice A_0 n_0 c_0, Value.slice A_1 n_1 c_1] h (roadref3_SameLetters.post W h m r) := by
  unfold roadref3_SameLetters at e
  subst ne_0
  subst ne_1
  refine f90.run ?_
  unfold f90.runT
  refine split_ne_e e (fun c1 e => ?_) (fun c1 e => ?_)
  · cases e
    exact ⟨_, O.pick [], rfl⟩
  · exact roadref3_SameLetters.l0.walk (O.pick []).nm rfl k_0 r_0 rfl k_1 r_1 e
def roadref3_SameBox.post (W : Nat → Prop) (h0 m0 : Heap) (r : Bool) (v : Value) (h : Heap) : Prop := ∃ m , Hold W h0 m0 h m [] ∧ v = .bool r
noncomputable def roadref3_SameBox (y_0 : T_box_Box) (y_1 : T_box_Box) : Option (Bool) :=
  if y_0.At = y_1.At then (Option.bind (roadref3_SameLetters y_0.Letters y_1.Letters) fun y19 => some (y19)) else (some (false))
set_option maxRecDepth 100000 in
theorem roadref3_SameBox.walk {W : Nat → Prop} {h m : Heap} {cs_0 : List Value} {cs_1 : List Value} {y_0 : T_box_Box} {y_1 : T_box_Box} (O : Hold W h m h m []) (e_0 : T_box_Box.E m y_0 cs_0) (e_1 : T_box_Box.E m y_1 cs_1) {r : Bool} (e : roadref3_SameBox y_0 y_1 = some r) : Run Try.prog 36 #[Value.agg cs_0.toArray, Value.agg cs_1.toArray] h (roadref3_SameBox.post W h m r) := by
  unfold roadref3_SameBox at e
  refine f36.run ?_
  unfold f36.runT
  refine O.new fun h1 x2 O3 => ?_
  refine O3.new fun h5 x6 O7 => ?_
  refine ⟨_, ldk (k := 1) (Sub.refl _) (O7.all 0 rfl) (T_box_Box.g1 e_0), _, rfl, ?_⟩
  refine ⟨_, ldk (k := 1) (Sub.refl _) (O7.all 1 rfl) (T_box_Box.g1 e_1), _, rfl, ?_⟩
  refine split_eq_e e (fun c27 e => ?_) (fun c27 e => ?_)
  · obtain ⟨A9, c10, q11, k12, r13⟩ := T_box_Box.g0 e_0
    refine ⟨_, ld0 (Sub.refl _) (O7.all 0 rfl) q11, _, _, _, rfl, ?_⟩
    obtain ⟨A14, c15, q16, k17, r18⟩ := T_box_Box.g0 e_1
    refine ⟨_, ld0 (Sub.refl _) (O7.all 1 rfl) q16, _, _, _, rfl, ?_⟩
    obtain ⟨y19, g20, e⟩ := bind_e e
    refine (roadref3_SameLetters.walk (Hold.start (W := No) O7.s) rfl k12 r13 rfl k17 r18 g20).mono ?_
    rintro _ h21 ⟨m22, Q23, rfl⟩
    have O25 := Hold.nm (O7.retC Q23 vfs_nil)
    refine ⟨_, rfl, ?_⟩
    cases e
    exact ⟨_, O25.pick [], rfl⟩
  · have O26 := O7.nm
    cases e
    exact ⟨_, O26.pick [], rfl⟩
def roadref3_Message.post (W : Nat → Prop) (h0 m0 : Heap) (r : T_api_Value) (v : Value) (h : Heap) : Prop := ∃ m cs0, Hold W h0 m0 h m [] ∧ v = .agg cs0.toArray ∧ T_api_Value.E m r cs0
noncomputable def roadref3_Message (y_0 : T_api_Letter) : Option (T_api_Value) :=
  if y_0.Kind = (2 : Int) then (some ((T_api_Value.mk (5 : Int) (0 : Int) (ByteArray.mk #[68, 111, 119, 110]) ([(T_api_Value.mk (6 : Int) y_0.From (ByteArray.mk #[]) ([] : List T_api_Value)), (T_api_Value.mk (2 : Int) y_0.Num (ByteArray.mk #[]) ([] : List T_api_Value))] : List T_api_Value)))) else (some (y_0.Value_))
set_option maxRecDepth 100000 in
theorem roadref3_Message.walk {W : Nat → Prop} {h m : Heap} {cs_0 : List Value} {y_0 : T_api_Letter} (O : Hold W h m h m []) (e_0 : T_api_Letter.E m y_0 cs_0) {r : T_api_Value} (e : roadref3_Message y_0 = some r) : Run Try.prog 38 #[Value.agg cs_0.toArray] h (roadref3_Message.post W h m r) := by
  unfold roadref3_Message at e
  refine f38.run ?_
  unfold f38.runT
  refine O.new fun h1 x2 O3 => ?_
  refine O3.new fun h5 x6 O7 => ?_
  refine ⟨_, ld0 (Sub.refl _) (O7.all 0 rfl) (T_api_Letter.g0 e_0), _, rfl, ?_⟩
  refine split_eq_e e (fun c27 e => ?_) (fun c27 e => ?_)
  · refine ⟨_, ldk (k := 1) (Sub.refl _) (O7.all 0 rfl) (T_api_Letter.g1 e_0), _, rfl, ?_⟩
    refine ⟨_, ldk (k := 3) (Sub.refl _) (O7.all 0 rfl) (T_api_Letter.g3 e_0), _, rfl, ?_⟩
    refine ⟨[(Value.int .i64 (6 : Int)), (Value.int .i64 y_0.From), (Value.string (ByteArray.mk #[])), (Value.slice none 0 0)], rfl, rfl, ?_⟩
    refine ⟨[(Value.int .i64 (2 : Int)), (Value.int .i64 y_0.Num), (Value.string (ByteArray.mk #[])), (Value.slice none 0 0)], rfl, rfl, ?_⟩
    refine O7.new fun h9 x10 O11 => ?_
    refine ⟨_, rfl, rfl, ?_⟩
    refine O11.stA 1 rfl rfl (Flats.cons trivial (Flats.cons trivial (Flats.cons trivial (Flats.cons trivial Flats.nil)))) fun h13 O14 => ?_
    refine ⟨_, ldAn (Sub.refl _) (O14.all 1 rfl) rfl, ?_⟩
    have O15 := O14.rowE (l := ([(T_api_Value.mk (6 : Int) y_0.From (ByteArray.mk #[]) ([] : List T_api_Value)), (T_api_Value.mk (2 : Int) y_0.Num (ByteArray.mk #[]) ([] : List T_api_Value))] : List T_api_Value)) 2 rfl T_api_Value.T (show CsE _ _ _ _ _ from (CsE.cons (c1 := [(Value.int .i64 (6 : Int)), (Value.int .i64 y_0.From), (Value.string (ByteArray.mk #[])), (Value.slice none 0 0)]) (T_api_Value.iff.2 ⟨_, _, rfl, (by exact Nat.le_refl 0), Rd.nil⟩) rfl (CsE.cons (c1 := [(Value.int .i64 (2 : Int)), (Value.int .i64 y_0.Num), (Value.string (ByteArray.mk #[])), (Value.slice none 0 0)]) (T_api_Value.iff.2 ⟨_, _, rfl, (by exact Nat.le_refl 0), Rd.nil⟩) rfl CsE.nil))) rfl
    obtain ⟨m16, u17, ⟨r18, k19⟩, O20⟩ := O15.frz 2 rfl
    replace r18 : Rd 4 T_api_Value.E m16 (some ⟨(Array.size h5), 0, none⟩) ([(T_api_Value.mk (6 : Int) y_0.From (ByteArray.mk #[]) ([] : List T_api_Value)), (T_api_Value.mk (2 : Int) y_0.Num (ByteArray.mk #[]) ([] : List T_api_Value))] : List T_api_Value) := r18
    have O21 := O20.nm
    cases e
    exact ⟨_, _, O21.pick [], rfl, (T_api_Value.iff.2 ⟨_, _, rfl, k19, r18⟩)⟩
  · refine ⟨_, ldAkn (Sub.refl _) (O7.all 0 rfl) 5 4 (le_len (T_api_Letter.T.len _ _ _ e_0) (by decide)), ?_⟩
    refine ⟨_, rfl, (T_api_Value.T.len _ _ _ (T_api_Letter.u5_50 e_0)), ?_⟩
    refine O7.stAE 1 rfl (T_api_Value.T.len _ _ _ (T_api_Letter.u5_50 e_0)) (T_api_Value.T.flat _ _ _ (T_api_Letter.u5_50 e_0)) (T_api_Letter.u5_50 e_0) fun h22 cs24 e25 O23 => ?_
    refine ⟨_, ldAn (Sub.refl _) (O23.all 1 rfl) (T_api_Value.T.len _ _ _ e25), ?_⟩
    have O26 := O23.nm
    cases e
    exact ⟨_, _, O26.pick [], rfl, e25⟩
def slices_Grow_91.post (W : Nat → Prop) (h0 m0 : Heap) (r : (List T_api_Letter)) (v : Value) (h : Heap) : Prop := ∃ m A0 n0 c0, Hold W h0 m0 h m [rR (aE T_api_Letter.T) A0 c0 r] ∧ v = .slice A0 n0 c0 ∧ n0 = List.length r
noncomputable def slices_Grow_91 (x1 : Int) : Option (List T_api_Letter) := if gro 104 x1 = true then some [] else none
set_option maxRecDepth 100000 in
theorem slices_Grow_91.walk {W : Nat → Prop} {h m : Heap} {x1 : Int} (O : Hold W h m h m []) {r : List T_api_Letter} (e : slices_Grow_91 x1 = some r) : Run Try.prog 91 #[Value.slice none 0 0, Value.int .i64 x1] h (slices_Grow_91.post W h m r) := by
  unfold slices_Grow_91 at e
  have S : St No h m h m := .refl O.s
  obtain ⟨g, e⟩ := guard_e e
  cases e
  refine f91.run ?_
  unfold f91.runT
  refine split_dec (fun c => absurd c (by have := of_decide_eq_true (show decide _ = true from g); omega)) (fun _ => ?_)
  refine f91.j0_in ?_
  unfold f91.j0T
  exact grow_nil S rfl (by decide) g (fun A' c' h' o' x' => ⟨m, _, _, _, O.add (R := rR (aE T_api_Letter.T) A' c' []) (St.of_ext O.s x') o'.rowP o'.newNo, rfl, rfl⟩)
def slices_Concat_39.post (W : Nat → Prop) (h0 m0 : Heap) (r : (List T_api_Letter)) (v : Value) (h : Heap) : Prop := ∃ m A0 n0 c0, Hold W h0 m0 h m [rR (aE T_api_Letter.T) A0 c0 r] ∧ v = .slice A0 n0 c0 ∧ n0 = List.length r
inductive slices_Concat_39.l1_k.Pt where
  | l1 (a_6 : List T_api_Letter) (a_25 : List (List T_api_Letter)) (x_26 : Int) (x_27 : Int)
noncomputable def slices_Concat_39.l1_k.body (go : (p : slices_Concat_39.l1_k.Pt) → Option ((List T_api_Letter))) : (p : slices_Concat_39.l1_k.Pt) → Option ((List T_api_Letter))
  | .l1 a_6 a_25 x_26 x_27 => if x_27 < x_26 then (Option.bind (gi a_25 x_27) fun y1 => Option.bind (ap 104 a_6 y1) fun l8 => (go (.l1 l8 a_25 x_26 (IntKind.wrap .i64 (x_27 + (1 : Int)))))) else (some (a_6))
theorem slices_Concat_39.l1_k.mono : MonoF (β := fun _ => ((List T_api_Letter))) slices_Concat_39.l1_k.body := fun f g hfg p => match p with
  | .l1 a_6 a_25 x_26 x_27 => LeO.ite (LeO.bind (LeO.refl _) fun y1 => LeO.bind (LeO.refl _) fun l8 => (hfg _)) (LeO.refl _)
noncomputable def slices_Concat_39.l1_k.go (p : slices_Concat_39.l1_k.Pt) : Option ((List T_api_Letter)) := fixF (β := fun _ => ((List T_api_Letter))) slices_Concat_39.l1_k.body p
noncomputable def slices_Concat_39.l1 (a_6 : List T_api_Letter) (a_25 : List (List T_api_Letter)) (x_26 : Int) (x_27 : Int) : Option ((List T_api_Letter)) := slices_Concat_39.l1_k.go (.l1 a_6 a_25 x_26 x_27)
theorem slices_Concat_39.l1_eq (a_6 : List T_api_Letter) (a_25 : List (List T_api_Letter)) (x_26 : Int) (x_27 : Int) : slices_Concat_39.l1 a_6 a_25 x_26 x_27 = if x_27 < x_26 then (Option.bind (gi a_25 x_27) fun y1 => Option.bind (ap 104 a_6 y1) fun l8 => (slices_Concat_39.l1 l8 a_25 x_26 (IntKind.wrap .i64 (x_27 + (1 : Int))))) else (some (a_6)) := fixF_eq slices_Concat_39.l1_k.mono _
def slices_Concat_39.l1_k.I : (p : slices_Concat_39.l1_k.Pt) → ((List T_api_Letter)) → Prop
  | .l1 a_6 a_25 x_26 x_27, r => ∀ (W : Nat → Prop) (h0 m0 h m : Heap) (A_6 : Option Addr) (n_6 c_6 : Nat) (A_25 : Option Addr) (n_25 c_25 : Nat) (O : Hold W h0 m0 h m [rR (aE T_api_Letter.T) A_6 c_6 a_6]) (ne_6 : n_6 = List.length a_6) (ne_25 : n_25 = List.length a_25) (k_25 : List.length a_25 ≤ c_25) (r_25 : Rd 1 (eRow 9 T_api_Letter.E) m A_25 a_25), f39.l1 (slices_Concat_39.post W h0 m0 r) A_6 n_6 c_6 A_25 n_25 c_25 x_26 x_27 h
set_option maxRecDepth 100000 in
theorem slices_Concat_39.l1_k.step_l1 (go : (p : slices_Concat_39.l1_k.Pt) → Option ((List T_api_Letter))) (ih : ∀ p r, go p = some r → slices_Concat_39.l1_k.I p r) (a_6 : List T_api_Letter) (a_25 : List (List T_api_Letter)) (x_26 : Int) (x_27 : Int) (r : (List T_api_Letter)) (e : slices_Concat_39.l1_k.body go (.l1 a_6 a_25 x_26 x_27) = some r) : slices_Concat_39.l1_k.I (.l1 a_6 a_25 x_26 x_27) r := by
  unfold slices_Concat_39.l1_k.body at e
  intro W h0 m0 h m A_6 n_6 c_6 A_25 n_25 c_25 O ne_6 ne_25 k_25 r_25
  subst ne_6
  subst ne_25
  refine f39.l1_in ?_
  unfold f39.l1T
  refine split_dec_e e (fun c17 e => ?_) (fun c17 e => ?_)
  · obtain ⟨y1, g2, e⟩ := bind_e e
    refine r_25.addr rfl g2 fun a3 cs4 ha5 hc6 he7 => ?_
    obtain ⟨Acs4_0, ccs4_0, rfl, kcs4_0, rcs4_0⟩ := id he7
    refine ⟨_, ld0 O.s hc6 rfl, _, _, _, rfl, ?_⟩
    obtain ⟨l8, g9, e⟩ := bind_e e
    refine O.app 0 rfl rfl rfl (Rd.srcE rcs4_0 T_api_Letter.T O.s rfl) (by decide) g9 fun A10 c11 h12 O13 => ?_
    refine ⟨_, _, _, rfl, ?_⟩
    have O16 := O13.nm
    exact (ih _ _ e) _ _ _ _ _ _ _ _ _ _ _ (O16.pick [0]).nm rfl rfl k_25 r_25
  · cases e
    exact ⟨_, _, _, _, O.pick [0], rfl, rfl⟩
theorem slices_Concat_39.l1_k.all {p : slices_Concat_39.l1_k.Pt} {r : ((List T_api_Letter))} (e : slices_Concat_39.l1_k.go p = some r) : slices_Concat_39.l1_k.I p r := fixF_ind (β := fun _ => ((List T_api_Letter))) slices_Concat_39.l1_k.mono (I := slices_Concat_39.l1_k.I) (fun go ih p r e => match p with
  | .l1 a_6 a_25 x_26 x_27 => slices_Concat_39.l1_k.step_l1 go ih a_6 a_25 x_26 x_27 r e
  ) e
theorem slices_Concat_39.l1.walk {W : Nat → Prop} {h0 m0 h m : Heap} {A_6 : Option Addr} {n_6 c_6 : Nat} {A_25 : Option Addr} {n_25 c_25 : Nat} {a_6 : List T_api_Letter} {a_25 : List (List T_api_Letter)} {x_26 : Int} {x_27 : Int} (O : Hold W h0 m0 h m [rR (aE T_api_Letter.T) A_6 c_6 a_6]) (ne_6 : n_6 = List.length a_6) (ne_25 : n_25 = List.length a_25) (k_25 : List.length a_25 ≤ c_25) (r_25 : Rd 1 (eRow 9 T_api_Letter.E) m A_25 a_25) {r : (List T_api_Letter)} (e : slices_Concat_39.l1 a_6 a_25 x_26 x_27 = some r) : f39.l1 (slices_Concat_39.post W h0 m0 r) A_6 n_6 c_6 A_25 n_25 c_25 x_26 x_27 h := slices_Concat_39.l1_k.all (p := .l1 a_6 a_25 x_26 x_27) e W h0 m0 h m A_6 n_6 c_6 A_25 n_25 c_25 O ne_6 ne_25 k_25 r_25
inductive slices_Concat_39.l0_k.Pt where
  | l0 (a_0 : List (List T_api_Letter)) (x_3 : Int) (a_9 : List (List T_api_Letter)) (x_10 : Int) (x_11 : Int)
noncomputable def slices_Concat_39.l0_k.body (go : (p : slices_Concat_39.l0_k.Pt) → Option ((List T_api_Letter))) : (p : slices_Concat_39.l0_k.Pt) → Option ((List T_api_Letter))
  | .l0 a_0 x_3 a_9 x_10 x_11 => if x_11 < x_10 then (Option.bind (gi a_9 x_11) fun y1 => if (IntKind.wrap .i64 (x_3 + (((List.length y1) : Nat) : Int))) < (0 : Int) then ((none : Option _)) else ((go (.l0 a_0 (IntKind.wrap .i64 (x_3 + (((List.length y1) : Nat) : Int))) a_9 x_10 (IntKind.wrap .i64 (x_11 + (1 : Int))))))) else (Option.bind (slices_Grow_91 x_3) fun y9 => (slices_Concat_39.l1 y9 a_0 (((List.length a_0) : Nat) : Int) (0 : Int)))
theorem slices_Concat_39.l0_k.mono : MonoF (β := fun _ => ((List T_api_Letter))) slices_Concat_39.l0_k.body := fun f g hfg p => match p with
  | .l0 a_0 x_3 a_9 x_10 x_11 => LeO.ite (LeO.bind (LeO.refl _) fun y1 => LeO.ite (LeO.refl _) ((hfg _))) (LeO.bind (LeO.refl _) fun y9 => (LeO.refl _))
noncomputable def slices_Concat_39.l0_k.go (p : slices_Concat_39.l0_k.Pt) : Option ((List T_api_Letter)) := fixF (β := fun _ => ((List T_api_Letter))) slices_Concat_39.l0_k.body p
noncomputable def slices_Concat_39.l0 (a_0 : List (List T_api_Letter)) (x_3 : Int) (a_9 : List (List T_api_Letter)) (x_10 : Int) (x_11 : Int) : Option ((List T_api_Letter)) := slices_Concat_39.l0_k.go (.l0 a_0 x_3 a_9 x_10 x_11)
theorem slices_Concat_39.l0_eq (a_0 : List (List T_api_Letter)) (x_3 : Int) (a_9 : List (List T_api_Letter)) (x_10 : Int) (x_11 : Int) : slices_Concat_39.l0 a_0 x_3 a_9 x_10 x_11 = if x_11 < x_10 then (Option.bind (gi a_9 x_11) fun y1 => if (IntKind.wrap .i64 (x_3 + (((List.length y1) : Nat) : Int))) < (0 : Int) then ((none : Option _)) else ((slices_Concat_39.l0 a_0 (IntKind.wrap .i64 (x_3 + (((List.length y1) : Nat) : Int))) a_9 x_10 (IntKind.wrap .i64 (x_11 + (1 : Int)))))) else (Option.bind (slices_Grow_91 x_3) fun y9 => (slices_Concat_39.l1 y9 a_0 (((List.length a_0) : Nat) : Int) (0 : Int))) := fixF_eq slices_Concat_39.l0_k.mono _
def slices_Concat_39.l0_k.I : (p : slices_Concat_39.l0_k.Pt) → ((List T_api_Letter)) → Prop
  | .l0 a_0 x_3 a_9 x_10 x_11, r => ∀ (W : Nat → Prop) (h0 m0 h m : Heap) (A_0 : Option Addr) (n_0 c_0 : Nat) (A_9 : Option Addr) (n_9 c_9 : Nat) (O : Hold W h0 m0 h m []) (ne_0 : n_0 = List.length a_0) (k_0 : List.length a_0 ≤ c_0) (r_0 : Rd 1 (eRow 9 T_api_Letter.E) m A_0 a_0) (ne_9 : n_9 = List.length a_9) (k_9 : List.length a_9 ≤ c_9) (r_9 : Rd 1 (eRow 9 T_api_Letter.E) m A_9 a_9), f39.l0 (slices_Concat_39.post W h0 m0 r) A_0 n_0 c_0 x_3 A_9 n_9 c_9 x_10 x_11 h
set_option maxRecDepth 100000 in
theorem slices_Concat_39.l0_k.step_l0 (go : (p : slices_Concat_39.l0_k.Pt) → Option ((List T_api_Letter))) (ih : ∀ p r, go p = some r → slices_Concat_39.l0_k.I p r) (a_0 : List (List T_api_Letter)) (x_3 : Int) (a_9 : List (List T_api_Letter)) (x_10 : Int) (x_11 : Int) (r : (List T_api_Letter)) (e : slices_Concat_39.l0_k.body go (.l0 a_0 x_3 a_9 x_10 x_11) = some r) : slices_Concat_39.l0_k.I (.l0 a_0 x_3 a_9 x_10 x_11) r := by
  unfold slices_Concat_39.l0_k.body at e
  intro W h0 m0 h m A_0 n_0 c_0 A_9 n_9 c_9 O ne_0 k_0 r_0 ne_9 k_9 r_9
  subst ne_0
  subst ne_9
  refine f39.l0_in ?_
  unfold f39.l0T
  refine split_dec_e e (fun c21 e => ?_) (fun c21 e => ?_)
  · obtain ⟨y1, g2, e⟩ := bind_e e
    refine r_9.addr rfl g2 fun a3 cs4 ha5 hc6 he7 => ?_
    obtain ⟨Acs4_0, ccs4_0, rfl, kcs4_0, rcs4_0⟩ := id he7
    refine ⟨_, ld0 O.s hc6 rfl, _, _, _, rfl, ?_⟩
    refine split_dec_e e (fun c8 e => ?_) (fun c8 e => ?_)
    · cases e
    · exact (ih _ _ e) _ _ _ _ _ _ _ _ _ _ _ (O.pick []).nm rfl k_0 r_0 rfl k_9 r_9
  · obtain ⟨y9, g10, e⟩ := bind_e e
    refine (slices_Grow_91.walk (Hold.start (W := No) O.s)  g10).mono ?_
    rintro _ h11 ⟨m12, A15, n16, c17, Q13, rfl, ne18⟩
    have O20 := Hold.nm (O.ret Q13)
    subst ne18
    refine ⟨_, _, _, rfl, ?_⟩
    exact slices_Concat_39.l1.walk (O20.pick [0]).nm rfl rfl k_0 (r_0.sub (tell_row T_api_Letter.T) Q13.S.up) e
theorem slices_Concat_39.l0_k.all {p : slices_Concat_39.l0_k.Pt} {r : ((List T_api_Letter))} (e : slices_Concat_39.l0_k.go p = some r) : slices_Concat_39.l0_k.I p r := fixF_ind (β := fun _ => ((List T_api_Letter))) slices_Concat_39.l0_k.mono (I := slices_Concat_39.l0_k.I) (fun go ih p r e => match p with
  | .l0 a_0 x_3 a_9 x_10 x_11 => slices_Concat_39.l0_k.step_l0 go ih a_0 x_3 a_9 x_10 x_11 r e
  ) e
theorem slices_Concat_39.l0.walk {W : Nat → Prop} {h0 m0 h m : Heap} {A_0 : Option Addr} {n_0 c_0 : Nat} {A_9 : Option Addr} {n_9 c_9 : Nat} {a_0 : List (List T_api_Letter)} {x_3 : Int} {a_9 : List (List T_api_Letter)} {x_10 : Int} {x_11 : Int} (O : Hold W h0 m0 h m []) (ne_0 : n_0 = List.length a_0) (k_0 : List.length a_0 ≤ c_0) (r_0 : Rd 1 (eRow 9 T_api_Letter.E) m A_0 a_0) (ne_9 : n_9 = List.length a_9) (k_9 : List.length a_9 ≤ c_9) (r_9 : Rd 1 (eRow 9 T_api_Letter.E) m A_9 a_9) {r : (List T_api_Letter)} (e : slices_Concat_39.l0 a_0 x_3 a_9 x_10 x_11 = some r) : f39.l0 (slices_Concat_39.post W h0 m0 r) A_0 n_0 c_0 x_3 A_9 n_9 c_9 x_10 x_11 h := slices_Concat_39.l0_k.all (p := .l0 a_0 x_3 a_9 x_10 x_11) e W h0 m0 h m A_0 n_0 c_0 A_9 n_9 c_9 O ne_0 k_0 r_0 ne_9 k_9 r_9
noncomputable def slices_Concat_39 (a_0 : List (List T_api_Letter)) : Option ((List T_api_Letter)) :=
  (slices_Concat_39.l0 a_0 (0 : Int) a_0 (((List.length a_0) : Nat) : Int) (0 : Int))
set_option maxRecDepth 100000 in
theorem slices_Concat_39.walk {W : Nat → Prop} {h m : Heap} {A_0 : Option Addr} {n_0 c_0 : Nat} {a_0 : List (List T_api_Letter)} (O : Hold W h m h m []) (ne_0 : n_0 = List.length a_0) (k_0 : List.length a_0 ≤ c_0) (r_0 : Rd 1 (eRow 9 T_api_Letter.E) m A_0 a_0) {r : (List T_api_Letter)} (e : slices_Concat_39 a_0 = some r) : Run Try.prog 39 #[Value.slice A_0 n_0 c_0] h (slices_Concat_39.post W h m r) := by
  unfold slices_Concat_39 at e
  subst ne_0
  refine f39.run ?_
  unfold f39.runT
  exact slices_Concat_39.l0.walk (O.pick []).nm rfl k_0 r_0 rfl k_0 r_0 e
theorem slices_Concat_39.val (ls : List (List T_api_Letter)) (hl : ls.length ≤ 4611686018427387904) (hs : ls.flatten.length * 104 ≤ 140737488355328) : slices_Concat_39 ls = some ls.flatten := concat_val (B := 104) (by decide) (fun r a n i => slices_Concat_39.l1_eq r a n i) (fun a s b n i => slices_Concat_39.l0_eq a s b n i) (gr := slices_Grow_91) (fun _ => rfl) (fun _ => rfl) ls hl hs
end Go.Proofs.Ythnlhffpmlgmfaa.Fw

end
section
namespace Go.Proofs.Ythnlhffpmlgmfaa.Fw
open Go Go.Hw Go.Proofs
set_option linter.unusedVariables false
set_option synthInstance.maxHeartbeats 400000
set_option synthInstance.maxSize 1000
def roadlaw3_PickTells.post (W : Nat → Prop) (h0 m0 : Heap) (r : Bool) (v : Value) (h : Heap) : Prop := ∃ m , Hold W h0 m0 h m [] ∧ v = .bool r
inductive roadlaw3_PickTells.l1_k.Pt where
  | l1 (a_1 : List T_api_Pat) (y_3 : T_box_Box) (y_13 : T_box_Box) (y_14 : T_api_Letter) (x_15 : Int) (x_16 : Int) (x_18 : Int)
noncomputable def roadlaw3_PickTells.l1_k.body (go : (p : roadlaw3_PickTells.l1_k.Pt) → Option (Bool)) : (p : roadlaw3_PickTells.l1_k.Pt) → Option (Bool)
  | .l1 a_1 y_3 y_13 y_14 x_15 x_16 x_18 => if x_18 < (((List.length y_3.Letters) : Nat) : Int) then (Option.bind (gi y_3.Letters x_18) fun y11 => Option.bind (roadref3_Message y11) fun y18 => Option.bind (roadref3_FirstOf a_1 y18) fun y28 => if y28 ≥ (0 : Int) then (Option.bind (sls y_3.Letters (0 : Int) x_18) fun l40 => Option.bind (sls y_3.Letters (IntKind.wrap .i64 (x_18 + (1 : Int))) (((List.length y_3.Letters) : Nat) : Int)) fun l50 => Option.bind (slices_Concat_39 ([l40, l50] : List (List T_api_Letter))) fun y60 => Option.bind (roadref3_SameBox y_13 (T_box_Box.mk y60 (0 : Int))) fun y80 => if y80 = true then (Option.bind (gi y_3.Letters x_18) fun y99 => Option.bind (roadref3_SameLetter y_14 y99) fun y106 => if y106 = true then (if x_15 = y28 then (some ((x_16 == (0 : Int)))) else (some (false))) else (some (false))) else (some (false))) else ((go (.l1 a_1 y_3 y_13 y_14 x_15 x_16 (IntKind.wrap .i64 (x_18 + (1 : Int))))))) else (Option.bind (roadref3_SameBox y_13 (T_box_Box.mk y_3.Letters (((List.length y_3.Letters) : Nat) : Int))) fun y127 => if y127 = true then (Option.bind (roadref3_SameLetter y_14 (T_api_Letter.mk (0 : Int) (0 : Int) (0 : Int) (0 : Int) (ByteArray.mk #[]) (T_api_Value.mk (0 : Int) (0 : Int) (ByteArray.mk #[]) ([] : List T_api_Value)))) fun y134 => if y134 = true then (if x_15 = (-1 : Int) then (some ((x_16 == (0 : Int)))) else (some (false))) else (some (false))) else (some (false)))
theorem roadlaw3_PickTells.l1_k.mono : MonoF (β := fun _ => (Bool)) roadlaw3_PickTells.l1_k.body := fun f g hfg p => match p with
  | .l1 a_1 y_3 y_13 y_14 x_15 x_16 x_18 => LeO.ite (LeO.bind (LeO.refl _) fun y11 => LeO.bind (LeO.refl _) fun y18 => LeO.bind (LeO.refl _) fun y28 => LeO.ite (LeO.bind (LeO.refl _) fun l40 => LeO.bind (LeO.refl _) fun l50 => LeO.bind (LeO.refl _) fun y60 => LeO.bind (LeO.refl _) fun y80 => LeO.ite (LeO.bind (LeO.refl _) fun y99 => LeO.bind (LeO.refl _) fun y106 => LeO.ite (LeO.ite (LeO.refl _) (LeO.refl _)) (LeO.refl _)) (LeO.refl _)) ((hfg _))) (LeO.bind (LeO.refl _) fun y127 => LeO.ite (LeO.bind (LeO.refl _) fun y134 => LeO.ite (LeO.ite (LeO.refl _) (LeO.refl _)) (LeO.refl _)) (LeO.refl _))
noncomputable def roadlaw3_PickTells.l1_k.go (p : roadlaw3_PickTells.l1_k.Pt) : Option (Bool) := fixF (β := fun _ => (Bool)) roadlaw3_PickTells.l1_k.body p
noncomputable def roadlaw3_PickTells.l1 (a_1 : List T_api_Pat) (y_3 : T_box_Box) (y_13 : T_box_Box) (y_14 : T_api_Letter) (x_15 : Int) (x_16 : Int) (x_18 : Int) : Option (Bool) := roadlaw3_PickTells.l1_k.go (.l1 a_1 y_3 y_13 y_14 x_15 x_16 x_18)
theorem roadlaw3_PickTells.l1_eq (a_1 : List T_api_Pat) (y_3 : T_box_Box) (y_13 : T_box_Box) (y_14 : T_api_Letter) (x_15 : Int) (x_16 : Int) (x_18 : Int) : roadlaw3_PickTells.l1 a_1 y_3 y_13 y_14 x_15 x_16 x_18 = if x_18 < (((List.length y_3.Letters) : Nat) : Int) then (Option.bind (gi y_3.Letters x_18) fun y11 => Option.bind (roadref3_Message y11) fun y18 => Option.bind (roadref3_FirstOf a_1 y18) fun y28 => if y28 ≥ (0 : Int) then (Option.bind (sls y_3.Letters (0 : Int) x_18) fun l40 => Option.bind (sls y_3.Letters (IntKind.wrap .i64 (x_18 + (1 : Int))) (((List.length y_3.Letters) : Nat) : Int)) fun l50 => Option.bind (slices_Concat_39 ([l40, l50] : List (List T_api_Letter))) fun y60 => Option.bind (roadref3_SameBox y_13 (T_box_Box.mk y60 (0 : Int))) fun y80 => if y80 = true then (Option.bind (gi y_3.Letters x_18) fun y99 => Option.bind (roadref3_SameLetter y_14 y99) fun y106 => if y106 = true then (if x_15 = y28 then (some ((x_16 == (0 : Int)))) else (some (false))) else (some (false))) else (some (false))) else ((roadlaw3_PickTells.l1 a_1 y_3 y_13 y_14 x_15 x_16 (IntKind.wrap .i64 (x_18 + (1 : Int)))))) else (Option.bind (roadref3_SameBox y_13 (T_box_Box.mk y_3.Letters (((List.length y_3.Letters) : Nat) : Int))) fun y127 => if y127 = true then (Option.bind (roadref3_SameLetter y_14 (T_api_Letter.mk (0 : Int) (0 : Int) (0 : Int) (0 : Int) (ByteArray.mk #[]) (T_api_Value.mk (0 : Int) (0 : Int) (ByteArray.mk #[]) ([] : List T_api_Value)))) fun y134 => if y134 = true then (if x_15 = (-1 : Int) then (some ((x_16 == (0 : Int)))) else (some (false))) else (some (false))) else (some (false))) := fixF_eq roadlaw3_PickTells.l1_k.mono _
def roadlaw3_PickTells.l1_k.I : (p : roadlaw3_PickTells.l1_k.Pt) → (Bool) → Prop
  | .l1 a_1 y_3 y_13 y_14 x_15 x_16 x_18, r => ∀ (W : Nat → Prop) (h0 m0 h m : Heap) (A_1 : Option Addr) (n_1 c_1 : Nat) (bk_3 : Nat) (cs_3 : List Value) (bk_13 : Nat) (cs_13 : List Value) (bk_14 : Nat) (cs_14 : List Value) (O : Hold W h0 m0 h m [rV bk_3 46 cs_3, rV bk_13 46 cs_13, rV bk_14 59 cs_14]) (ne_1 : n_1 = List.length a_1) (k_1 : List.length a_1 ≤ c_1) (r_1 : Rd 4 T_api_Pat.E m A_1 a_1) (e_3 : T_box_Box.E m y_3 cs_3) (e_13 : T_box_Box.E m y_13 cs_13) (e_14 : T_api_Letter.E m y_14 cs_14), f5.l1 (roadlaw3_PickTells.post W h0 m0 r) A_1 n_1 c_1 (⟨bk_3, 0, none⟩ : Addr) (⟨bk_13, 0, none⟩ : Addr) (⟨bk_14, 0, none⟩ : Addr) x_15 x_16 x_18 h
set_option maxHeartbeats 4000000 in
set_option maxRecDepth 100000 in
theorem roadlaw3_PickTells.l1_k.step_l1 (go : (p : roadlaw3_PickTells.l1_k.Pt) → Option (Bool)) (ih : ∀ p r, go p = some r → roadlaw3_PickTells.l1_k.I p r) (a_1 : List T_api_Pat) (y_3 : T_box_Box) (y_13 : T_box_Box) (y_14 : T_api_Letter) (x_15 : Int) (x_16 : Int) (x_18 : Int) (r : Bool) (e : roadlaw3_PickTells.l1_k.body go (.l1 a_1 y_3 y_13 y_14 x_15 x_16 x_18) = some r) : roadlaw3_PickTells.l1_k.I (.l1 a_1 y_3 y_13 y_14 x_15 x_16 x_18) r := by
  unfold roadlaw3_PickTells.l1_k.body at e
  intro W h0 m0 h m A_1 n_1 c_1 bk_3 cs_3 bk_13 cs_13 bk_14 cs_14 O ne_1 k_1 r_1 e_3 e_13 e_14
  subst ne_1
  refine f5.l1_in ?_
  unfold f5.l1T
  obtain ⟨A1, c2, q3, k4, r5⟩ := T_box_Box.g0 e_3
  refine ⟨_, ld0 (Sub.refl _) (O.all 0 rfl) q3, _, _, _, rfl, ?_⟩
  refine split_dec_e e (fun c144 e => ?_) (fun c144 e => ?_)
  · obtain ⟨A6, c7, q8, k9, r10⟩ := T_box_Box.g0 e_3
    refine ⟨_, ld0 (Sub.refl _) (O.all 0 rfl) q8, _, _, _, rfl, ?_⟩
    obtain ⟨y11, g12, e⟩ := bind_e e
    refine r10.addr rfl g12 fun a13 cs14 ha15 hc16 he17 => ?_
    refine ⟨_, ldAn O.s hc16 rfl, ?_⟩
    obtain ⟨y18, g19, e⟩ := bind_e e
    refine (roadref3_Message.walk (Hold.start (W := No) O.s) he17 g19).mono ?_
    rintro _ h20 ⟨m21, cs25, Q22, rfl, he26⟩
    have O27 := Hold.nm (O.ret Q22)
    obtain ⟨y28, g29, e⟩ := bind_e e
    refine (roadref3_FirstOf.walk (Hold.start (W := No) O27.s) rfl k_1 (r_1.sub T_api_Pat.T Q22.S.up) he26 g29).mono ?_
    rintro _ h30 ⟨m31, Q32, rfl⟩
    have O34 := Hold.nm (O27.retC Q32 vfs_nil)
    refine ⟨_, rfl, ?_⟩
    refine split_dec_e e (fun c116 e => ?_) (fun c116 e => ?_)
    · refine ⟨_, ldAn (Sub.refl _) (O34.all 1 rfl) (T_box_Box.T.len _ _ _ e_13), ?_⟩
      obtain ⟨A35, c36, q37, k38, r39⟩ := T_box_Box.g0 e_3
      refine ⟨_, ld0 (Sub.refl _) (O34.all 0 rfl) q37, _, _, _, rfl, ?_⟩
      obtain ⟨l40, g41, e⟩ := bind_e e
      have q42 := sls_e g41
      refine ⟨q42.1, q42.2.1, cap_in q42.2.2.1 k38, ?_⟩
      try rw [q42.2.2.2.1]
      have k43 : List.length l40 ≤ (c36 - Int.toNat (0 : Int)) := sls_cap g41 k38
      have r44 := r39.sls g41 (le_mx q42.2.2.1 k38)
      obtain ⟨A45, c46, q47, k48, r49⟩ := T_box_Box.g0 e_3
      refine ⟨_, ld0 (Sub.refl _) (O34.all 0 rfl) q47, _, _, _, rfl, ?_⟩
      obtain ⟨l50, g51, e⟩ := bind_e e
      have q52 := sls_e g51
      refine ⟨q52.1, q52.2.1, cap_in q52.2.2.1 k48, ?_⟩
      try rw [q52.2.2.2.1]
      have k53 : List.length l50 ≤ (c46 - Int.toNat (IntKind.wrap .i64 (x_18 + (1 : Int)))) := sls_cap g51 k48
      have r54 := r49.sls g51 (le_mx q52.2.2.1 k48)
      refine O34.new fun h55 x56 O57 => ?_
      refine ⟨x56, ?_⟩
      obtain ⟨y60, g61, e⟩ := bind_e e
      have O59 := O57.rowE (l := ([l40, l50] : List (List T_api_Letter))) 3 rfl (tell_row T_api_Letter.T) (show CsE _ _ _ _ _ from (CsE.cons (c1 := [(Value.slice (sliceA A35 (Int.toNat (0 : Int)) c36 9) (List.length l40) (c36 - Int.toNat (0 : Int)))]) ⟨_, _, rfl, k43, (r44.sub T_api_Letter.T Q22.S.up)⟩ rfl (CsE.cons (c1 := [(Value.slice (sliceA A45 (Int.toNat (IntKind.wrap .i64 (x_18 + (1 : Int)))) c46 9) (List.length l50) (c46 - Int.toNat (IntKind.wrap .i64 (x_18 + (1 : Int)))))]) ⟨_, _, rfl, k53, (r54.sub T_api_Letter.T Q22.S.up)⟩ rfl CsE.nil))) rfl
      have O66 := O59.nm
      obtain ⟨m67, u68, s73, ⟨⟨r71, k72⟩, _⟩, B69, C70⟩ := O66.lend0 [3]
      replace r71 : Rd 1 (eRow 9 T_api_Letter.E) m67 (some ⟨(Array.size h30), 0, none⟩) ([l40, l50] : List (List T_api_Letter)) := r71
      replace k72 : List.length ([l40, l50] : List (List T_api_Letter)) ≤ 2 := k72
      refine (slices_Concat_39.walk (Hold.start (W := No) s73) rfl k72 r71 g61).mono ?_
      rintro _ h62 ⟨m63, A74, n75, c76, Q64, rfl, ne77⟩
      have O79 := Hold.nm (B69 Q64)
      subst ne77
      refine ⟨_, _, _, rfl, ?_⟩
      refine ⟨Q64.S.ext, ?_⟩
      refine ⟨Ext.refl _, ?_⟩
      obtain ⟨y80, g81, e⟩ := bind_e e
      obtain ⟨m86, u87, s92, ⟨⟨r90, k91⟩, _⟩, B88, C89⟩ := O79.lend0 [4]
      replace r90 : Rd 9 T_api_Letter.E m86 A74 y60 := r90
      replace k91 : List.length y60 ≤ c76 := k91
      refine (roadref3_SameBox.walk (Hold.start (W := No) s92) (T_box_Box.T.mono _ _ _ _ (Q22.S.up.trans (u68.trans (Q64.S.up.trans u87))) e_13) (show T_box_Box.E _ (T_box_Box.mk y60 (0 : Int)) [(Value.slice A74 (List.length y60) c76), (Value.int .i64 (0 : Int))] from ⟨_, _, rfl, k91, r90⟩) g81).mono ?_
      rintro _ h82 ⟨m83, Q84, rfl⟩
      have O93 := Hold.nm (C89 Q84 vfs_nil)
      refine ⟨_, rfl, ?_⟩
      refine ⟨Q84.S.ext, ?_⟩
      refine split_any_e e (fun c115 e => ?_) (fun c115 e => ?_)
      · refine ⟨_, ldAn (Sub.refl _) (O93.all 2 rfl) (T_api_Letter.T.len _ _ _ e_14), ?_⟩
        obtain ⟨A94, c95, q96, k97, r98⟩ := T_box_Box.g0 e_3
        refine ⟨_, ld0 (Sub.refl _) (O93.all 0 rfl) q96, _, _, _, rfl, ?_⟩
        obtain ⟨y99, g100, e⟩ := bind_e e
        refine (r98.sub T_api_Letter.T (Q22.S.up.trans (u68.trans Q64.S.up))).addr rfl g100 fun a101 cs102 ha103 hc104 he105 => ?_
        refine ⟨_, ldAn O93.s hc104 rfl, ?_⟩
        obtain ⟨y106, g107, e⟩ := bind_e e
        refine (roadref3_SameLetter.walk (Hold.start (W := No) O93.s) (T_api_Letter.T.mono _ _ _ _ (Q22.S.up.trans (u68.trans Q64.S.up)) e_14) he105 g107).mono ?_
        rintro _ h108 ⟨m109, Q110, rfl⟩
        have O112 := Hold.nm (O93.retC Q110 vfs_nil)
        refine ⟨_, rfl, ?_⟩
        refine split_any_e e (fun c114 e => ?_) (fun c114 e => ?_)
        · refine split_eq_e e (fun c113 e => ?_) (fun c113 e => ?_)
          · cases e
            exact ⟨_, O112.pick [], rfl⟩
          · cases e
            exact ⟨_, O112.pick [], rfl⟩
        · cases e
          exact ⟨_, O112.pick [], rfl⟩
      · cases e
        exact ⟨_, O93.pick [], rfl⟩
    · exact (ih _ _ e) _ _ _ _ _ _ _ _ _ _ _ _ _ _ (O34.pick [0, 1, 2]).nm rfl k_1 (r_1.sub T_api_Pat.T Q22.S.up) (T_box_Box.T.mono _ _ _ _ Q22.S.up e_3) (T_box_Box.T.mono _ _ _ _ Q22.S.up e_13) (T_api_Letter.T.mono _ _ _ _ Q22.S.up e_14)
  · refine ⟨_, ldAn (Sub.refl _) (O.all 1 rfl) (T_box_Box.T.len _ _ _ e_13), ?_⟩
    obtain ⟨A117, c118, q119, k120, r121⟩ := T_box_Box.g0 e_3
    refine ⟨_, ld0 (Sub.refl _) (O.all 0 rfl) q119, _, _, _, rfl, ?_⟩
    obtain ⟨A122, c123, q124, k125, r126⟩ := T_box_Box.g0 e_3
    refine ⟨_, ld0 (Sub.refl _) (O.all 0 rfl) q124, _, _, _, rfl, ?_⟩
    obtain ⟨y127, g128, e⟩ := bind_e e
    refine (roadref3_SameBox.walk (Hold.start (W := No) O.s) e_13 (show T_box_Box.E _ (T_box_Box.mk y_3.Letters (((List.length y_3.Letters) : Nat) : Int)) [(Value.slice A117 (List.length y_3.Letters) c118), (Value.int .i64 (((List.length y_3.Letters) : Nat) : Int))] from ⟨_, _, rfl, k120, r121⟩) g128).mono ?_
    rintro _ h129 ⟨m130, Q131, rfl⟩
    have O133 := Hold.nm (O.retC Q131 vfs_nil)
    refine ⟨_, rfl, ?_⟩
    refine split_any_e e (fun c143 e => ?_) (fun c143 e => ?_)
    · refine ⟨_, ldAn (Sub.refl _) (O133.all 2 rfl) (T_api_Letter.T.len _ _ _ e_14), ?_⟩
      obtain ⟨y134, g135, e⟩ := bind_e e
      refine (roadref3_SameLetter.walk (Hold.start (W := No) O133.s) e_14 (show T_api_Letter.E _ (T_api_Letter.mk (0 : Int) (0 : Int) (0 : Int) (0 : Int) (ByteArray.mk #[]) (T_api_Value.mk (0 : Int) (0 : Int) (ByteArray.mk #[]) ([] : List T_api_Value))) [(Value.int .i64 (0 : Int)), (Value.int .i64 (0 : Int)), (Value.int .i64 (0 : Int)), (Value.int .i64 (0 : Int)), (Value.string (ByteArray.mk #[])), (Value.int .i64 (0 : Int)), (Value.int .i64 (0 : Int)), (Value.string (ByteArray.mk #[])), (Value.slice none 0 0)] from ⟨_, _, rfl, (by exact Nat.le_refl 0), Rd.nil⟩) g135).mono ?_
      rintro _ h136 ⟨m137, Q138, rfl⟩
      have O140 := Hold.nm (O133.retC Q138 vfs_nil)
      refine ⟨_, rfl, ?_⟩
      refine split_any_e e (fun c142 e => ?_) (fun c142 e => ?_)
      · refine split_eq_e e (fun c141 e => ?_) (fun c141 e => ?_)
        · cases e
          exact ⟨_, O140.pick [], rfl⟩
        · cases e
          exact ⟨_, O140.pick [], rfl⟩
      · cases e
        exact ⟨_, O140.pick [], rfl⟩
    · cases e
      exact ⟨_, O133.pick [], rfl⟩
theorem roadlaw3_PickTells.l1_k.all {p : roadlaw3_PickTells.l1_k.Pt} {r : (Bool)} (e : roadlaw3_PickTells.l1_k.go p = some r) : roadlaw3_PickTells.l1_k.I p r := fixF_ind (β := fun _ => (Bool)) roadlaw3_PickTells.l1_k.mono (I := roadlaw3_PickTells.l1_k.I) (fun go ih p r e => match p with
  | .l1 a_1 y_3 y_13 y_14 x_15 x_16 x_18 => roadlaw3_PickTells.l1_k.step_l1 go ih a_1 y_3 y_13 y_14 x_15 x_16 x_18 r e
  ) e
theorem roadlaw3_PickTells.l1.walk {W : Nat → Prop} {h0 m0 h m : Heap} {A_1 : Option Addr} {n_1 c_1 : Nat} {bk_3 : Nat} {cs_3 : List Value} {bk_13 : Nat} {cs_13 : List Value} {bk_14 : Nat} {cs_14 : List Value} {a_1 : List T_api_Pat} {y_3 : T_box_Box} {y_13 : T_box_Box} {y_14 : T_api_Letter} {x_15 : Int} {x_16 : Int} {x_18 : Int} (O : Hold W h0 m0 h m [rV bk_3 46 cs_3, rV bk_13 46 cs_13, rV bk_14 59 cs_14]) (ne_1 : n_1 = List.length a_1) (k_1 : List.length a_1 ≤ c_1) (r_1 : Rd 4 T_api_Pat.E m A_1 a_1) (e_3 : T_box_Box.E m y_3 cs_3) (e_13 : T_box_Box.E m y_13 cs_13) (e_14 : T_api_Letter.E m y_14 cs_14) {r : Bool} (e : roadlaw3_PickTells.l1 a_1 y_3 y_13 y_14 x_15 x_16 x_18 = some r) : f5.l1 (roadlaw3_PickTells.post W h0 m0 r) A_1 n_1 c_1 (⟨bk_3, 0, none⟩ : Addr) (⟨bk_13, 0, none⟩ : Addr) (⟨bk_14, 0, none⟩ : Addr) x_15 x_16 x_18 h := roadlaw3_PickTells.l1_k.all (p := .l1 a_1 y_3 y_13 y_14 x_15 x_16 x_18) e W h0 m0 h m A_1 n_1 c_1 bk_3 cs_3 bk_13 cs_13 bk_14 cs_14 O ne_1 k_1 r_1 e_3 e_13 e_14
inductive roadlaw3_PickTells.l0_k.Pt where
  | l0 (a_1 : List T_api_Pat) (y_3 : T_box_Box) (y_5 : T_api_Value) (a_37 : List T_api_Pat) (x_38 : Int) (x_39 : Int)
  | j1 (a_1 : List T_api_Pat) (y_3 : T_box_Box) (y_5 : T_api_Value) (a_9 : List T_api_Value) (b_10 : Bool) (y_11 : (List T_api_Value)) (b_12 : Bool) (a_37 : List T_api_Pat) (x_38 : Int) (x_39 : Int)
noncomputable def roadlaw3_PickTells.l0_k.body (go : (p : roadlaw3_PickTells.l0_k.Pt) → Option (Bool)) : (p : roadlaw3_PickTells.l0_k.Pt) → Option (Bool)
  | .l0 a_1 y_3 y_5 a_37 x_38 x_39 => if x_39 < x_38 then (Option.bind (gi a_37 x_39) fun y1 => Option.bind (pick_Fits y1 y_5) fun y14 => Option.bind (roadref3_Matches y1 y_5 ([] : List T_api_Value)) fun y32 => if y32.1 = true then ((go (.j1 a_1 y_3 y_5 y14.1 y14.2 y32.2 y32.1 a_37 x_38 x_39))) else ((go (.j1 a_1 y_3 y_5 y14.1 y14.2 ([] : List T_api_Value) y32.1 a_37 x_38 x_39)))) else (Option.bind (pick_First a_1 y_5) fun y56 => Option.bind (roadref3_FirstOf a_1 y_5) fun y63 => if y56 = y63 then (Option.bind (pick_Choose y_3 a_1) fun y70 => Option.bind (roadref3_BoxFault y_3) fun y95 => if y95 = (0 : Int) then ((roadlaw3_PickTells.l1 a_1 y_3 y70.1 y70.2.1 y70.2.2.1 y70.2.2.2 y_3.At)) else (Option.bind (roadref3_SameBox y70.1 (T_box_Box.mk ([] : List T_api_Letter) (0 : Int))) fun y102 => if y102 = true then (Option.bind (roadref3_SameLetter y70.2.1 (T_api_Letter.mk (0 : Int) (0 : Int) (0 : Int) (0 : Int) (ByteArray.mk #[]) (T_api_Value.mk (0 : Int) (0 : Int) (ByteArray.mk #[]) ([] : List T_api_Value)))) fun y109 => if y109 = true then (if y70.2.2.1 = (0 : Int) then (some ((y70.2.2.2 == y95))) else (some (false))) else (some (false))) else (some (false)))) else (some (false)))
  | .j1 a_1 y_3 y_5 a_9 b_10 y_11 b_12 a_37 x_38 x_39 => if (b_10 == b_12) = true then (Option.bind (roadref3_SameValues a_9 y_11) fun y1 => if y1 = true then ((go (.l0 a_1 y_3 y_5 a_37 x_38 (IntKind.wrap .i64 (x_39 + (1 : Int)))))) else (some (false))) else (some (false))
theorem roadlaw3_PickTells.l0_k.mono : MonoF (β := fun _ => (Bool)) roadlaw3_PickTells.l0_k.body := fun f g hfg p => match p with
  | .l0 a_1 y_3 y_5 a_37 x_38 x_39 => LeO.ite (LeO.bind (LeO.refl _) fun y1 => LeO.bind (LeO.refl _) fun y14 => LeO.bind (LeO.refl _) fun y32 => LeO.ite ((hfg _)) ((hfg _))) (LeO.bind (LeO.refl _) fun y56 => LeO.bind (LeO.refl _) fun y63 => LeO.ite (LeO.bind (LeO.refl _) fun y70 => LeO.bind (LeO.refl _) fun y95 => LeO.ite ((LeO.refl _)) (LeO.bind (LeO.refl _) fun y102 => LeO.ite (LeO.bind (LeO.refl _) fun y109 => LeO.ite (LeO.ite (LeO.refl _) (LeO.refl _)) (LeO.refl _)) (LeO.refl _))) (LeO.refl _))
  | .j1 a_1 y_3 y_5 a_9 b_10 y_11 b_12 a_37 x_38 x_39 => LeO.ite (LeO.bind (LeO.refl _) fun y1 => LeO.ite ((hfg _)) (LeO.refl _)) (LeO.refl _)
noncomputable def roadlaw3_PickTells.l0_k.go (p : roadlaw3_PickTells.l0_k.Pt) : Option (Bool) := fixF (β := fun _ => (Bool)) roadlaw3_PickTells.l0_k.body p
noncomputable def roadlaw3_PickTells.l0 (a_1 : List T_api_Pat) (y_3 : T_box_Box) (y_5 : T_api_Value) (a_37 : List T_api_Pat) (x_38 : Int) (x_39 : Int) : Option (Bool) := roadlaw3_PickTells.l0_k.go (.l0 a_1 y_3 y_5 a_37 x_38 x_39)
noncomputable def roadlaw3_PickTells.j1 (a_1 : List T_api_Pat) (y_3 : T_box_Box) (y_5 : T_api_Value) (a_9 : List T_api_Value) (b_10 : Bool) (y_11 : (List T_api_Value)) (b_12 : Bool) (a_37 : List T_api_Pat) (x_38 : Int) (x_39 : Int) : Option (Bool) := roadlaw3_PickTells.l0_k.go (.j1 a_1 y_3 y_5 a_9 b_10 y_11 b_12 a_37 x_38 x_39)
theorem roadlaw3_PickTells.l0_eq (a_1 : List T_api_Pat) (y_3 : T_box_Box) (y_5 : T_api_Value) (a_37 : List T_api_Pat) (x_38 : Int) (x_39 : Int) : roadlaw3_PickTells.l0 a_1 y_3 y_5 a_37 x_38 x_39 = if x_39 < x_38 then (Option.bind (gi a_37 x_39) fun y1 => Option.bind (pick_Fits y1 y_5) fun y14 => Option.bind (roadref3_Matches y1 y_5 ([] : List T_api_Value)) fun y32 => if y32.1 = true then ((roadlaw3_PickTells.j1 a_1 y_3 y_5 y14.1 y14.2 y32.2 y32.1 a_37 x_38 x_39)) else ((roadlaw3_PickTells.j1 a_1 y_3 y_5 y14.1 y14.2 ([] : List T_api_Value) y32.1 a_37 x_38 x_39))) else (Option.bind (pick_First a_1 y_5) fun y56 => Option.bind (roadref3_FirstOf a_1 y_5) fun y63 => if y56 = y63 then (Option.bind (pick_Choose y_3 a_1) fun y70 => Option.bind (roadref3_BoxFault y_3) fun y95 => if y95 = (0 : Int) then ((roadlaw3_PickTells.l1 a_1 y_3 y70.1 y70.2.1 y70.2.2.1 y70.2.2.2 y_3.At)) else (Option.bind (roadref3_SameBox y70.1 (T_box_Box.mk ([] : List T_api_Letter) (0 : Int))) fun y102 => if y102 = true then (Option.bind (roadref3_SameLetter y70.2.1 (T_api_Letter.mk (0 : Int) (0 : Int) (0 : Int) (0 : Int) (ByteArray.mk #[]) (T_api_Value.mk (0 : Int) (0 : Int) (ByteArray.mk #[]) ([] : List T_api_Value)))) fun y109 => if y109 = true then (if y70.2.2.1 = (0 : Int) then (some ((y70.2.2.2 == y95))) else (some (false))) else (some (false))) else (some (false)))) else (some (false))) := fixF_eq roadlaw3_PickTells.l0_k.mono _
theorem roadlaw3_PickTells.j1_eq (a_1 : List T_api_Pat) (y_3 : T_box_Box) (y_5 : T_api_Value) (a_9 : List T_api_Value) (b_10 : Bool) (y_11 : (List T_api_Value)) (b_12 : Bool) (a_37 : List T_api_Pat) (x_38 : Int) (x_39 : Int) : roadlaw3_PickTells.j1 a_1 y_3 y_5 a_9 b_10 y_11 b_12 a_37 x_38 x_39 = if (b_10 == b_12) = true then (Option.bind (roadref3_SameValues a_9 y_11) fun y1 => if y1 = true then ((roadlaw3_PickTells.l0 a_1 y_3 y_5 a_37 x_38 (IntKind.wrap .i64 (x_39 + (1 : Int))))) else (some (false))) else (some (false)) := fixF_eq roadlaw3_PickTells.l0_k.mono _
def roadlaw3_PickTells.l0_k.I : (p : roadlaw3_PickTells.l0_k.Pt) → (Bool) → Prop
  | .l0 a_1 y_3 y_5 a_37 x_38 x_39, r => ∀ (W : Nat → Prop) (h0 m0 h m : Heap) (A_1 : Option Addr) (n_1 c_1 : Nat) (bk_3 : Nat) (cs_3 : List Value) (bk_5 : Nat) (cs_5 : List Value) (A_37 : Option Addr) (n_37 c_37 : Nat) (O : Hold W h0 m0 h m [rV bk_3 46 cs_3, rV bk_5 50 cs_5]) (ne_1 : n_1 = List.length a_1) (k_1 : List.length a_1 ≤ c_1) (r_1 : Rd 4 T_api_Pat.E m A_1 a_1) (e_3 : T_box_Box.E m y_3 cs_3) (e_5 : T_api_Value.E m y_5 cs_5) (ne_37 : n_37 = List.length a_37) (k_37 : List.length a_37 ≤ c_37) (r_37 : Rd 4 T_api_Pat.E m A_37 a_37), f5.l0 (roadlaw3_PickTells.post W h0 m0 r) A_1 n_1 c_1 (⟨bk_3, 0, none⟩ : Addr) (⟨bk_5, 0, none⟩ : Addr) A_37 n_37 c_37 x_38 x_39 h
  | .j1 a_1 y_3 y_5 a_9 b_10 y_11 b_12 a_37 x_38 x_39, r => ∀ (W : Nat → Prop) (h0 m0 h m : Heap) (A_1 : Option Addr) (n_1 c_1 : Nat) (bk_3 : Nat) (cs_3 : List Value) (bk_5 : Nat) (cs_5 : List Value) (A_9 : Option Addr) (n_9 c_9 : Nat) (bk_11 : Nat) (cs_11 : List Value) (A_37 : Option Addr) (n_37 c_37 : Nat) (O : Hold W h0 m0 h m [rV bk_3 46 cs_3, rV bk_5 50 cs_5, rR (aE T_api_Value.T) A_9 c_9 a_9, rV bk_11 48 cs_11]) (ne_1 : n_1 = List.length a_1) (k_1 : List.length a_1 ≤ c_1) (r_1 : Rd 4 T_api_Pat.E m A_1 a_1) (e_3 : T_box_Box.E m y_3 cs_3) (e_5 : T_api_Value.E m y_5 cs_5) (ne_9 : n_9 = List.length a_9) (e_11 : (eRow 4 T_api_Value.E) m y_11 cs_11) (ne_37 : n_37 = List.length a_37) (k_37 : List.length a_37 ≤ c_37) (r_37 : Rd 4 T_api_Pat.E m A_37 a_37), f5.j1 (roadlaw3_PickTells.post W h0 m0 r) A_1 n_1 c_1 (⟨bk_3, 0, none⟩ : Addr) (⟨bk_5, 0, none⟩ : Addr) A_9 n_9 c_9 b_10 (⟨bk_11, 0, none⟩ : Addr) b_12 A_37 n_37 c_37 x_38 x_39 h
set_option maxHeartbeats 4000000 in
set_option maxRecDepth 100000 in
theorem roadlaw3_PickTells.l0_k.step_l0 (go : (p : roadlaw3_PickTells.l0_k.Pt) → Option (Bool)) (ih : ∀ p r, go p = some r → roadlaw3_PickTells.l0_k.I p r) (a_1 : List T_api_Pat) (y_3 : T_box_Box) (y_5 : T_api_Value) (a_37 : List T_api_Pat) (x_38 : Int) (x_39 : Int) (r : Bool) (e : roadlaw3_PickTells.l0_k.body go (.l0 a_1 y_3 y_5 a_37 x_38 x_39) = some r) : roadlaw3_PickTells.l0_k.I (.l0 a_1 y_3 y_5 a_37 x_38 x_39) r := by
  unfold roadlaw3_PickTells.l0_k.body at e
  intro W h0 m0 h m A_1 n_1 c_1 bk_3 cs_3 bk_5 cs_5 A_37 n_37 c_37 O ne_1 k_1 r_1 e_3 e_5 ne_37 k_37 r_37
  subst ne_1
  subst ne_37
  refine f5.l0_in ?_
  unfold f5.l0T
  refine split_dec_e e (fun c121 e => ?_) (fun c121 e => ?_)
  · obtain ⟨y1, g2, e⟩ := bind_e e
    refine r_37.addr rfl g2 fun a3 cs4 ha5 hc6 he7 => ?_
    refine ⟨_, ldAn O.s hc6 rfl, ?_⟩
    refine O.new fun h8 x9 O10 => ?_
    refine ⟨_, rfl, (T_api_Pat.T.len _ _ _ he7), ?_⟩
    refine O10.stA 2 rfl (T_api_Pat.T.len _ _ _ he7) (T_api_Pat.T.flat _ _ _ he7) fun h12 O13 => ?_
    refine ⟨_, ldAn (Sub.refl _) (O13.all 2 rfl) (T_api_Pat.T.len _ _ _ he7), ?_⟩
    refine ⟨_, ldAn (Sub.refl _) (O13.all 1 rfl) (T_api_Value.T.len _ _ _ e_5), ?_⟩
    obtain ⟨y14, g15, e⟩ := bind_e e
    refine (pick_Fits.walk (Hold.start (W := No) O13.s) he7 e_5 g15).mono ?_
    rintro _ h16 ⟨m17, A20, n21, c22, Q18, rfl, ne23⟩
    have O25 := Hold.nm (O13.ret Q18)
    subst ne23
    refine ⟨_, _, _, _, rfl, ?_⟩
    refine O25.new fun h26 x27 O28 => ?_
    refine ⟨_, ldAn (Sub.refl _) (O28.all 2 rfl) (T_api_Pat.T.len _ _ _ he7), ?_⟩
    refine ⟨_, ldAn (Sub.refl _) (O28.all 1 rfl) (T_api_Value.T.len _ _ _ e_5), ?_⟩
    obtain ⟨y32, g33, e⟩ := bind_e e
    have O30 := O28.nil (aE T_api_Value.T) none
    have O38 := O30.nm
    obtain ⟨W39, P40, B41, C42⟩ := O38.callC [4, 5]
    refine (roadref3_Matches.walk (y_2 := ([] : List T_api_Value)) P40 (T_api_Pat.T.mono _ _ _ _ Q18.S.up he7) (T_api_Value.T.mono _ _ _ _ Q18.S.up e_5) rfl g33).mono ?_
    rintro _ h34 ⟨m35, A_43_0, n_43_0, c_43_0, Q36, rfl, ne_43_0⟩
    have O45 := Hold.nm (B41 Q36)
    subst ne_43_0
    refine ⟨_, rfl, ?_⟩
    refine split_not ?_
    refine split_any_e e (fun c55 e => ?_) (fun c55 e => ?_)
    · obtain ⟨m46, u47, ⟨r48, k49⟩, O50⟩ := O45.frz 7 rfl
      replace r48 : Rd 4 T_api_Value.E m46 A_43_0 y32.2 := r48
      have O51 := O50.nm
      exact (ih _ _ e) _ _ _ _ _ _ _ _ _ _ _ _ _ _ _ _ _ _ _ _ (O51.pick [0, 1, 3, 6]).nm rfl k_1 (r_1.sub T_api_Pat.T (Q18.S.up.trans (Q36.S.up.trans u47))) (T_box_Box.T.mono _ _ _ _ (Q18.S.up.trans (Q36.S.up.trans u47)) e_3) (T_api_Value.T.mono _ _ _ _ (Q18.S.up.trans (Q36.S.up.trans u47)) e_5) rfl ⟨_, _, rfl, k49, r48⟩ rfl k_37 (r_37.sub T_api_Pat.T (Q18.S.up.trans (Q36.S.up.trans u47)))
    · refine O45.st0 6 rfl (Nat.le_of_ble_eq_true rfl) trivial fun h52 O53 => ?_
      have O54 := O53.nm
      exact (ih _ _ e) _ _ _ _ _ _ _ _ _ _ _ _ _ _ _ _ _ _ _ _ (O54.pick [0, 1, 3, 6]).nm rfl k_1 (r_1.sub T_api_Pat.T (Q18.S.up.trans Q36.S.up)) (T_box_Box.T.mono _ _ _ _ (Q18.S.up.trans Q36.S.up) e_3) (T_api_Value.T.mono _ _ _ _ (Q18.S.up.trans Q36.S.up) e_5) rfl ⟨_, _, rfl, (by exact Nat.le_refl 0), Rd.nil⟩ rfl k_37 (r_37.sub T_api_Pat.T (Q18.S.up.trans Q36.S.up))
  · refine ⟨_, ldAn (Sub.refl _) (O.all 1 rfl) (T_api_Value.T.len _ _ _ e_5), ?_⟩
    refine ⟨_, ldAn (Sub.refl _) (O.all 1 rfl) (T_api_Value.T.len _ _ _ e_5), ?_⟩
    obtain ⟨y56, g57, e⟩ := bind_e e
    refine (pick_First.walk (Hold.start (W := No) O.s) rfl k_1 r_1 e_5 g57).mono ?_
    rintro _ h58 ⟨m59, Q60, rfl⟩
    have O62 := Hold.nm (O.retC Q60 vfs_nil)
    refine ⟨_, rfl, ?_⟩
    refine ⟨Q60.S.ext, ?_⟩
    obtain ⟨y63, g64, e⟩ := bind_e e
    refine (roadref3_FirstOf.walk (Hold.start (W := No) O62.s) rfl k_1 r_1 e_5 g64).mono ?_
    rintro _ h65 ⟨m66, Q67, rfl⟩
    have O69 := Hold.nm (O62.retC Q67 vfs_nil)
    refine ⟨_, rfl, ?_⟩
    refine split_ne_e e (fun c120 e => ?_) (fun c120 e => ?_)
    · cases e
      exact ⟨_, O69.pick [], rfl⟩
    · refine ⟨_, ldAn (Sub.refl _) (O69.all 0 rfl) (T_box_Box.T.len _ _ _ e_3), ?_⟩
      obtain ⟨y70, g71, e⟩ := bind_e e
      refine (pick_Choose.walk (Hold.start (W := No) O69.s) e_3 rfl k_1 r_1 g71).mono ?_
      rintro _ h72 ⟨m73, cs77, cs80, Q74, rfl, he78, he81⟩
      have O82 := Hold.nm (O69.ret Q74)
      refine ⟨_, _, _, _, rfl, ?_⟩
      refine O82.new fun h83 x84 O85 => ?_
      refine O85.new fun h87 x88 O89 => ?_
      refine ⟨_, rfl, (T_box_Box.T.len _ _ _ he78), ?_⟩
      refine O89.stA 2 rfl (T_box_Box.T.len _ _ _ he78) (T_box_Box.T.flat _ _ _ he78) fun h91 O92 => ?_
      refine ⟨_, rfl, (T_api_Letter.T.len _ _ _ he81), ?_⟩
      refine O92.stA 3 rfl (T_api_Letter.T.len _ _ _ he81) (T_api_Letter.T.flat _ _ _ he81) fun h93 O94 => ?_
      refine ⟨_, ldAn (Sub.refl _) (O94.all 0 rfl) (T_box_Box.T.len _ _ _ e_3), ?_⟩
      obtain ⟨y95, g96, e⟩ := bind_e e
      refine (roadref3_BoxFault.walk (Hold.start (W := No) O94.s) (T_box_Box.T.mono _ _ _ _ Q74.S.up e_3) g96).mono ?_
      rintro _ h97 ⟨m98, Q99, rfl⟩
      have O101 := Hold.nm (O94.retC Q99 vfs_nil)
      refine ⟨_, rfl, ?_⟩
      refine split_ne_e e (fun c119 e => ?_) (fun c119 e => ?_)
      · refine ⟨_, ldAn (Sub.refl _) (O101.all 2 rfl) (T_box_Box.T.len _ _ _ he78), ?_⟩
        obtain ⟨y102, g103, e⟩ := bind_e e
        refine (roadref3_SameBox.walk (Hold.start (W := No) O101.s) he78 (show T_box_Box.E _ (T_box_Box.mk ([] : List T_api_Letter) (0 : Int)) [(Value.slice none 0 0), (Value.int .i64 (0 : Int))] from ⟨_, _, rfl, (by exact Nat.le_refl 0), Rd.nil⟩) g103).mono ?_
        rintro _ h104 ⟨m105, Q106, rfl⟩
        have O108 := Hold.nm (O101.retC Q106 vfs_nil)
        refine ⟨_, rfl, ?_⟩
        refine split_any_e e (fun c118 e => ?_) (fun c118 e => ?_)
        · refine ⟨_, ldAn (Sub.refl _) (O108.all 3 rfl) (T_api_Letter.T.len _ _ _ he81), ?_⟩
          obtain ⟨y109, g110, e⟩ := bind_e e
          refine (roadref3_SameLetter.walk (Hold.start (W := No) O108.s) he81 (show T_api_Letter.E _ (T_api_Letter.mk (0 : Int) (0 : Int) (0 : Int) (0 : Int) (ByteArray.mk #[]) (T_api_Value.mk (0 : Int) (0 : Int) (ByteArray.mk #[]) ([] : List T_api_Value))) [(Value.int .i64 (0 : Int)), (Value.int .i64 (0 : Int)), (Value.int .i64 (0 : Int)), (Value.int .i64 (0 : Int)), (Value.string (ByteArray.mk #[])), (Value.int .i64 (0 : Int)), (Value.int .i64 (0 : Int)), (Value.string (ByteArray.mk #[])), (Value.slice none 0 0)] from ⟨_, _, rfl, (by exact Nat.le_refl 0), Rd.nil⟩) g110).mono ?_
          rintro _ h111 ⟨m112, Q113, rfl⟩
          have O115 := Hold.nm (O108.retC Q113 vfs_nil)
          refine ⟨_, rfl, ?_⟩
          refine split_any_e e (fun c117 e => ?_) (fun c117 e => ?_)
          · refine split_eq_e e (fun c116 e => ?_) (fun c116 e => ?_)
            · cases e
              exact ⟨_, O115.pick [], rfl⟩
            · cases e
              exact ⟨_, O115.pick [], rfl⟩
          · cases e
            exact ⟨_, O115.pick [], rfl⟩
        · cases e
          exact ⟨_, O108.pick [], rfl⟩
      · refine ⟨_, ldk (k := 1) (Sub.refl _) (O101.all 0 rfl) (T_box_Box.g1 e_3), _, rfl, ?_⟩
        exact roadlaw3_PickTells.l1.walk (O101.pick [0, 2, 3]).nm rfl k_1 (r_1.sub T_api_Pat.T Q74.S.up) (T_box_Box.T.mono _ _ _ _ Q74.S.up e_3) he78 he81 e
set_option maxRecDepth 100000 in
theorem roadlaw3_PickTells.l0_k.step_j1 (go : (p : roadlaw3_PickTells.l0_k.Pt) → Option (Bool)) (ih : ∀ p r, go p = some r → roadlaw3_PickTells.l0_k.I p r) (a_1 : List T_api_Pat) (y_3 : T_box_Box) (y_5 : T_api_Value) (a_9 : List T_api_Value) (b_10 : Bool) (y_11 : (List T_api_Value)) (b_12 : Bool) (a_37 : List T_api_Pat) (x_38 : Int) (x_39 : Int) (r : Bool) (e : roadlaw3_PickTells.l0_k.body go (.j1 a_1 y_3 y_5 a_9 b_10 y_11 b_12 a_37 x_38 x_39) = some r) : roadlaw3_PickTells.l0_k.I (.j1 a_1 y_3 y_5 a_9 b_10 y_11 b_12 a_37 x_38 x_39) r := by
  unfold roadlaw3_PickTells.l0_k.body at e
  intro W h0 m0 h m A_1 n_1 c_1 bk_3 cs_3 bk_5 cs_5 A_9 n_9 c_9 bk_11 cs_11 A_37 n_37 c_37 O ne_1 k_1 r_1 e_3 e_5 ne_9 e_11 ne_37 k_37 r_37
  subst ne_1
  subst ne_9
  obtain ⟨Ae_11_0, ce_11_0, rfl, ke_11_0, re_11_0⟩ := id e_11
  subst ne_37
  refine f5.j1_in ?_
  unfold f5.j1T
  refine split_not ?_
  refine split_any_e e (fun c16 e => ?_) (fun c16 e => ?_)
  · refine ⟨_, ld0 (Sub.refl _) (O.all 3 rfl) rfl, _, _, _, rfl, ?_⟩
    obtain ⟨y1, g2, e⟩ := bind_e e
    obtain ⟨m7, u8, s13, ⟨⟨r11, k12⟩, _⟩, B9, C10⟩ := O.lend0 [2]
    replace r11 : Rd 4 T_api_Value.E m7 A_9 a_9 := r11
    replace k12 : List.length a_9 ≤ c_9 := k12
    refine (roadref3_SameValues.walk (Hold.start (W := No) s13) rfl k12 r11 rfl ke_11_0 (re_11_0.sub T_api_Value.T u8) g2).mono ?_
    rintro _ h3 ⟨m4, Q5, rfl⟩
    have O14 := Hold.nm (C10 Q5 vfs_nil)
    refine ⟨_, rfl, ?_⟩
    refine split_not ?_
    refine split_any_e e (fun c15 e => ?_) (fun c15 e => ?_)
    · exact (ih _ _ e) _ _ _ _ _ _ _ _ _ _ _ _ _ _ _ (O14.pick [0, 1]).nm rfl k_1 r_1 e_3 e_5 rfl k_37 r_37
    · cases e
      exact ⟨_, O14.pick [], rfl⟩
  · cases e
    exact ⟨_, O.pick [], rfl⟩
theorem roadlaw3_PickTells.l0_k.all {p : roadlaw3_PickTells.l0_k.Pt} {r : (Bool)} (e : roadlaw3_PickTells.l0_k.go p = some r) : roadlaw3_PickTells.l0_k.I p r := fixF_ind (β := fun _ => (Bool)) roadlaw3_PickTells.l0_k.mono (I := roadlaw3_PickTells.l0_k.I) (fun go ih p r e => match p with
  | .l0 a_1 y_3 y_5 a_37 x_38 x_39 => roadlaw3_PickTells.l0_k.step_l0 go ih a_1 y_3 y_5 a_37 x_38 x_39 r e
  | .j1 a_1 y_3 y_5 a_9 b_10 y_11 b_12 a_37 x_38 x_39 => roadlaw3_PickTells.l0_k.step_j1 go ih a_1 y_3 y_5 a_9 b_10 y_11 b_12 a_37 x_38 x_39 r e
  ) e
theorem roadlaw3_PickTells.l0.walk {W : Nat → Prop} {h0 m0 h m : Heap} {A_1 : Option Addr} {n_1 c_1 : Nat} {bk_3 : Nat} {cs_3 : List Value} {bk_5 : Nat} {cs_5 : List Value} {A_37 : Option Addr} {n_37 c_37 : Nat} {a_1 : List T_api_Pat} {y_3 : T_box_Box} {y_5 : T_api_Value} {a_37 : List T_api_Pat} {x_38 : Int} {x_39 : Int} (O : Hold W h0 m0 h m [rV bk_3 46 cs_3, rV bk_5 50 cs_5]) (ne_1 : n_1 = List.length a_1) (k_1 : List.length a_1 ≤ c_1) (r_1 : Rd 4 T_api_Pat.E m A_1 a_1) (e_3 : T_box_Box.E m y_3 cs_3) (e_5 : T_api_Value.E m y_5 cs_5) (ne_37 : n_37 = List.length a_37) (k_37 : List.length a_37 ≤ c_37) (r_37 : Rd 4 T_api_Pat.E m A_37 a_37) {r : Bool} (e : roadlaw3_PickTells.l0 a_1 y_3 y_5 a_37 x_38 x_39 = some r) : f5.l0 (roadlaw3_PickTells.post W h0 m0 r) A_1 n_1 c_1 (⟨bk_3, 0, none⟩ : Addr) (⟨bk_5, 0, none⟩ : Addr) A_37 n_37 c_37 x_38 x_39 h := roadlaw3_PickTells.l0_k.all (p := .l0 a_1 y_3 y_5 a_37 x_38 x_39) e W h0 m0 h m A_1 n_1 c_1 bk_3 cs_3 bk_5 cs_5 A_37 n_37 c_37 O ne_1 k_1 r_1 e_3 e_5 ne_37 k_37 r_37
noncomputable def roadlaw3_PickTells.j0 (a_1 : List T_api_Pat) (y_3 : T_box_Box) (y_5 : T_api_Value) : Option (Bool) :=
  (roadlaw3_PickTells.l0 a_1 y_3 y_5 a_1 (((List.length a_1) : Nat) : Int) (0 : Int))
set_option maxRecDepth 100000 in
theorem roadlaw3_PickTells.j0.walk {W : Nat → Prop} {h0 m0 h m : Heap} {A_1 : Option Addr} {n_1 c_1 : Nat} {bk_3 : Nat} {cs_3 : List Value} {bk_5 : Nat} {cs_5 : List Value} {a_1 : List T_api_Pat} {y_3 : T_box_Box} {y_5 : T_api_Value} (O : Hold W h0 m0 h m [rV bk_3 46 cs_3, rV bk_5 50 cs_5]) (ne_1 : n_1 = List.length a_1) (k_1 : List.length a_1 ≤ c_1) (r_1 : Rd 4 T_api_Pat.E m A_1 a_1) (e_3 : T_box_Box.E m y_3 cs_3) (e_5 : T_api_Value.E m y_5 cs_5) {r : Bool} (e : roadlaw3_PickTells.j0 a_1 y_3 y_5 = some r) : f5.j0 (roadlaw3_PickTells.post W h0 m0 r) A_1 n_1 c_1 (⟨bk_3, 0, none⟩ : Addr) (⟨bk_5, 0, none⟩ : Addr) h := by
  unfold roadlaw3_PickTells.j0 at e
  subst ne_1
  refine f5.j0_in ?_
  unfold f5.j0T
  exact roadlaw3_PickTells.l0.walk (O.pick [0, 1]).nm rfl k_1 r_1 e_3 e_5 rfl k_1 r_1 e
noncomputable def roadlaw3_PickTells (y_0 : T_box_Box) (a_1 : List T_api_Pat) (y_2 : T_api_Value) : Option (Bool) :=
  Option.bind (roadlaw3_flat y_2) fun y9 => if y9 = true then (if (((List.length a_1) : Nat) : Int) > (30 : Int) then (some (true)) else (Option.bind (slices_ContainsFunc_24 a_1 (fun z22 => roadlaw3_PickTells_1 z22)) fun y16 => if y16 = true then (some (true)) else (Option.bind (slices_ContainsFunc_27 y_0.Letters (fun z42 => roadlaw3_PickTells_2 z42)) fun y36 => if y36 = true then (some (true)) else ((roadlaw3_PickTells.j0 a_1 y_0 y_2))))) else (some (true))
set_option maxHeartbeats 4000000 in
set_option maxRecDepth 100000 in
theorem roadlaw3_PickTells.walk {W : Nat → Prop} {h m : Heap} {cs_0 : List Value} {A_1 : Option Addr} {n_1 c_1 : Nat} {cs_2 : List Value} {y_0 : T_box_Box} {a_1 : List T_api_Pat} {y_2 : T_api_Value} (O : Hold W h m h m []) (e_0 : T_box_Box.E m y_0 cs_0) (ne_1 : n_1 = List.length a_1) (k_1 : List.length a_1 ≤ c_1) (r_1 : Rd 4 T_api_Pat.E m A_1 a_1) (e_2 : T_api_Value.E m y_2 cs_2) {r : Bool} (e : roadlaw3_PickTells y_0 a_1 y_2 = some r) : Run Try.prog 5 #[Value.agg cs_0.toArray, Value.slice A_1 n_1 c_1, Value.agg cs_2.toArray] h (roadlaw3_PickTells.post W h m r) := by
  unfold roadlaw3_PickTells at e
  subst ne_1
  refine f5.run ?_
  unfold f5.runT
  refine O.new fun h1 x2 O3 => ?_
  refine O3.new fun h5 x6 O7 => ?_
  refine ⟨_, ldAn (Sub.refl _) (O7.all 1 rfl) (T_api_Value.T.len _ _ _ e_2), ?_⟩
  obtain ⟨y9, g10, e⟩ := bind_e e
  refine (roadlaw3_flat.walk (Hold.start (W := No) O7.s) e_2 g10).mono ?_
  rintro _ h11 ⟨m12, Q13, rfl⟩
  have O15 := Hold.nm (O7.retC Q13 vfs_nil)
  refine ⟨_, rfl, ?_⟩
  refine split_not ?_
  refine split_any_e e (fun c54 e => ?_) (fun c54 e => ?_)
  · refine split_dec_e e (fun c53 e => ?_) (fun c53 e => ?_)
    · cases e
      exact ⟨_, O15.pick [], rfl⟩
    · obtain ⟨y16, g17, e⟩ := bind_e e
      refine (slices_ContainsFunc_24.walk (Hold.start (W := No) O15.s) rfl k_1 r_1 (fun h23 m24 u25 s26 y29 cs29 he29 r27 e28 => CallF.of [Value.agg cs29.toArray] f25.ok rfl ((roadlaw3_PickTells_1.walk (Hold.start (W := No) s26) he29 e28).mono (fun _ _ h => let ⟨_, t, e⟩ := h; ⟨e, t.S.ext⟩))) g17).mono ?_
      rintro _ h18 ⟨m19, Q20, rfl⟩
      have O30 := Hold.nm (O15.retC Q20 vfs_nil)
      refine ⟨_, rfl, ?_⟩
      refine split_any_e e (fun c52 e => ?_) (fun c52 e => ?_)
      · cases e
        exact ⟨_, O30.pick [], rfl⟩
      · obtain ⟨A31, c32, q33, k34, r35⟩ := T_box_Box.g0 e_0
        refine ⟨_, ld0 (Sub.refl _) (O30.all 0 rfl) q33, _, _, _, rfl, ?_⟩
        obtain ⟨y36, g37, e⟩ := bind_e e
        refine (slices_ContainsFunc_27.walk (Hold.start (W := No) O30.s) rfl k34 r35 (fun h43 m44 u45 s46 y49 cs49 he49 r47 e48 => CallF.of [Value.agg cs49.toArray] f28.ok rfl ((roadlaw3_PickTells_2.walk (Hold.start (W := No) s46) he49 e48).mono (fun _ _ h => let ⟨_, t, e⟩ := h; ⟨e, t.S.ext⟩))) g37).mono ?_
        rintro _ h38 ⟨m39, Q40, rfl⟩
        have O50 := Hold.nm (O30.retC Q40 vfs_nil)
        refine ⟨_, rfl, ?_⟩
        refine split_any_e e (fun c51 e => ?_) (fun c51 e => ?_)
        · cases e
          exact ⟨_, O50.pick [], rfl⟩
        · exact roadlaw3_PickTells.j0.walk (O50.pick [0, 1]).nm rfl k_1 r_1 e_0 e_2 e
  · cases e
    exact ⟨_, O15.pick [], rfl⟩
end Go.Proofs.Ythnlhffpmlgmfaa.Fw

end
