/- Part 4: what the law KindSays needs, put together out of texts of this session. -/
import Derived.Test.YtdlihfedhojdgaaDoorZKindSaysc
section
namespace Go.Proofs.YtdlihfedhojdgaaDoor.Fw
open Go Go.Hw Go.Proofs
set_option linter.unusedVariables false
set_option synthInstance.maxHeartbeats 400000
set_option synthInstance.maxSize 1000
abbrev TB (m : Heap) : Prop := TBg 0 m
structure T_api_Type where
  Kind : Int
  Name : ByteArray
  Args : (List T_api_Type)
def T_api_Type.E (h : Heap) : T_api_Type → List Value → Prop
  | ⟨f0, f1, f2⟩, cs => ∃ A2 c2, cs = [.int .i64 f0, .string f1, .slice A2 f2.length c2] ∧ f2.length ≤ c2 ∧ (∀ i (hi : i < f2.length), ∃ a ds, A2 = some a ∧ cellsH h (a.add (i * 3)) 0 3 = some ds ∧ T_api_Type.E h f2[i] ds)
  termination_by x => SizeOf.sizeOf x
  decreasing_by
    all_goals
      have h1 := List.sizeOf_lt_of_mem (List.getElem_mem hi)
      first
      | (simp_all; omega)
theorem T_api_Type.iff {h : Heap} {x : T_api_Type} {cs : List Value} : T_api_Type.E h x cs ↔ ∃ A2 c2, cs = [.int .i64 x.Kind, .string x.Name, .slice A2 x.Args.length c2] ∧ x.Args.length ≤ c2 ∧ Rd 3 T_api_Type.E h A2 x.Args := by
  cases x
  rw [T_api_Type.E]
  exact Iff.rfl
theorem T_api_Type.mono {m h : Heap} (s : Sub m h) : ∀ (x : T_api_Type) (cs : List Value), T_api_Type.E m x cs → T_api_Type.E h x cs
  | ⟨f0, f1, f2⟩, cs, e => by
    rw [T_api_Type.E] at e ⊢
    obtain ⟨A2, c2, h1, k2, r2⟩ := e
    exact ⟨A2, c2, h1, k2, fun i hi => let ⟨a, ds, h1, h2, h3⟩ := r2 i hi; ⟨a, ds, h1, s.cells _ _ h2, T_api_Type.mono s _ _ h3⟩⟩
  termination_by x => SizeOf.sizeOf x
  decreasing_by
    all_goals
      have h1 := List.sizeOf_lt_of_mem (List.getElem_mem hi)
      first
      | (simp_all; omega)
theorem T_api_Type.T : Tell 3 T_api_Type.E := ⟨fun _ _ x cs s e => T_api_Type.mono s x cs e, by intro h x cs e; obtain ⟨A2, c2, rfl, k2, r2⟩ := T_api_Type.iff.1 e; rfl, by intro h x cs e; obtain ⟨A2, c2, rfl, k2, r2⟩ := T_api_Type.iff.1 e; exact Flats.cons trivial (Flats.cons trivial (Flats.cons trivial Flats.nil))⟩
def T_api_Type.Q : T_api_Type → Prop
  | ⟨f0, f1, f2⟩ => (-9223372036854775808 ≤ f0 ∧ f0 ≤ 9223372036854775807) ∧ (f1.size ≤ 140737488351232) ∧ (f2.length * 48 ≤ 140737488351232 ∧ ∀ i (hi : i < f2.length), T_api_Type.Q f2[i])
  termination_by x => SizeOf.sizeOf x
  decreasing_by
    all_goals
      have h1 := List.sizeOf_lt_of_mem (List.getElem_mem hi)
      first
      | (simp_all; omega)
theorem T_api_Type.Q_iff {x : T_api_Type} : T_api_Type.Q x ↔ (-9223372036854775808 ≤ x.Kind ∧ x.Kind ≤ 9223372036854775807) ∧ (x.Name.size ≤ 140737488351232) ∧ (x.Args.length * 48 ≤ 140737488351232 ∧ ∀ a ∈ x.Args, T_api_Type.Q a) := by
  obtain ⟨f0, f1, f2⟩ := x
  rw [T_api_Type.Q]
  show _ ↔ (-9223372036854775808 ≤ f0 ∧ f0 ≤ 9223372036854775807) ∧ (f1.size ≤ 140737488351232) ∧ (f2.length * 48 ≤ 140737488351232 ∧ ∀ a ∈ f2, T_api_Type.Q a)
  rw [← forall_get (l := f2) (p := T_api_Type.Q)]
theorem T_api_Type.tells {H : Type} {enc : TypeId × Value → H} {W : World} : Tells enc Tryd.prog W 25 T_api_Type.E T_api_Type.Q := tells_rec fun N ih => tellsU_map (tellsU_struct (t := 25) (fs := [(3, 0), (9, 1), (23, 2)]) (T := 3) (by kernel_rfl) (by kernel_rfl) (tfU_cons (s := 1) (f := 3) (by kernel_rfl) (Tells.up (tells_i64 (t := 3) (by kernel_rfl))) (tfU_cons (s := 1) (f := 9) (by kernel_rfl) (Tells.up (tells_strL (t := 9) (by kernel_rfl))) (tfU_cons (s := 1) (f := 23) (by kernel_rfl) (tellsU_slice (t := 23) (e := 25) (sz := 3) (B := 48) (by kernel_rfl) (by kernel_rfl) (by kernel_rfl) ih) tfU_nil)))) (by
  rintro ⟨x0, x1, x2, ⟨⟩⟩ cs e q
  obtain ⟨c0, r0, rfl, e0, c1, r1, rfl, e1, c2, r2, rfl, e2, eN⟩ := e
  obtain rfl : c0 = [.int .i64 x0] := e0
  obtain rfl : c1 = [.string x1] := e1
  obtain ⟨A2, k2, rfl, l2, R2⟩ := e2
  obtain rfl : r2 = [] := eN
  exact ⟨⟨x0, x1, x2⟩, T_api_Type.iff.2 ⟨_, _, rfl, l2, R2⟩, T_api_Type.Q_iff.2 ⟨q.1, q.2.1, q.2.2.1⟩⟩)
def T_api_Type.bulk : T_api_Type → Nat
  | ⟨f0, f1, f2⟩ => (1 + ((f1.size + 1) + (((f2.attach.map fun y => T_api_Type.bulk y.1).sum + 1) + (0)))) + 1
  termination_by x => SizeOf.sizeOf x
  decreasing_by
    all_goals
      have h1 := List.sizeOf_lt_of_mem y.2
      first
      | (simp_all; omega)
theorem T_api_Type.bulk_eq (x : T_api_Type) : T_api_Type.bulk x = (1 + ((x.Name.size + 1) + (((List.map T_api_Type.bulk x.Args).sum + 1) + (0)))) + 1 := by
  obtain ⟨f0, f1, f2⟩ := x
  rw [T_api_Type.bulk]
  rw [(List.attach_map_val : (f2.attach.map fun i => T_api_Type.bulk i.1) = f2.map T_api_Type.bulk)]
theorem T_api_Type.kt {H : Type} {bk : DataW H → Nat} {enc : TypeId × Value → H} {W : World} {N : Nat} (M : Measure bk) : KT N bk enc Tryd.prog W 25 T_api_Type.E T_api_Type.bulk := kt_rec (fun N ih => kt_map (kt_struct M (t := 25) (fs := [(3, 0), (9, 1), (23, 2)]) (T := 3) (by kernel_rfl) (by kernel_rfl) (ktf_cons (s := 1) (f := 3) (by kernel_rfl) (tell_int .i64) (kt_one M) (ktf_cons (s := 1) (f := 9) (by kernel_rfl) tell_str (kt_str (t := 9) M (by kernel_rfl)) (ktf_cons (s := 1) (f := 23) (by kernel_rfl) (tell_row T_api_Type.T) (kt_slice M (t := 23) (e := 25) (sz := 3) (by kernel_rfl) (by kernel_rfl) ih) ktf_nil)))) (fun x cs e => by
  obtain ⟨A2, c2, rfl, k2, r2⟩ := T_api_Type.iff.1 e
  exact ⟨(x.Kind, x.Name, x.Args, ()), ⟨[.int .i64 x.Kind], _, rfl, rfl, ⟨[.string x.Name], _, rfl, rfl, ⟨[.slice A2 x.Args.length c2], _, rfl, ⟨_, _, rfl, k2, r2⟩, rfl⟩⟩⟩, by rw [T_api_Type.bulk_eq]; exact Nat.le_refl _⟩)) N
structure T_api_Use where
  Name : ByteArray
  Low : Int
  High : Int
def T_api_Use.E (h : Heap) (x : T_api_Use) (cs : List Value) : Prop := cs = [.string x.Name, .int .i64 x.Low, .int .i64 x.High]
theorem T_api_Use.T : Tell 3 T_api_Use.E := ⟨by rintro m h x _ s rfl; exact rfl, by rintro h x _ rfl; rfl, by rintro h x _ rfl; exact Flats.cons trivial (Flats.cons trivial (Flats.cons trivial Flats.nil))⟩
def T_api_Use.Q (x : T_api_Use) : Prop := (x.Name.size ≤ 140737488351232) ∧ (-9223372036854775808 ≤ x.Low ∧ x.Low ≤ 9223372036854775807) ∧ (-9223372036854775808 ≤ x.High ∧ x.High ≤ 9223372036854775807)
theorem T_api_Use.tells {H : Type} {enc : TypeId × Value → H} {W : World} : Tells enc Tryd.prog W 161 T_api_Use.E T_api_Use.Q := tells_map (tells_struct (t := 161) (fs := [(9, 0), (3, 1), (3, 2)]) (T := 3) (by kernel_rfl) (by kernel_rfl) (tf_cons (s := 1) (f := 9) (by kernel_rfl) (tells_strL (t := 9) (by kernel_rfl)) (tf_cons (s := 1) (f := 3) (by kernel_rfl) (tells_i64 (t := 3) (by kernel_rfl)) (tf_cons (s := 1) (f := 3) (by kernel_rfl) (tells_i64 (t := 3) (by kernel_rfl)) tf_nil)))) (by
  rintro ⟨x0, x1, x2, ⟨⟩⟩ cs e q
  obtain ⟨c0, r0, rfl, e0, c1, r1, rfl, e1, c2, r2, rfl, e2, eN⟩ := e
  obtain rfl : c0 = [.string x0] := e0
  obtain rfl : c1 = [.int .i64 x1] := e1
  obtain rfl : c2 = [.int .i64 x2] := e2
  obtain rfl : r2 = [] := eN
  exact ⟨⟨x0, x1, x2⟩, rfl, q.1, q.2.1, q.2.2.1⟩)
def T_api_Use.bulk (x : T_api_Use) : Nat := ((x.Name.size + 1) + (1 + (1 + (0)))) + 1
theorem T_api_Use.kt {H : Type} {bk : DataW H → Nat} {enc : TypeId × Value → H} {W : World} {N : Nat} (M : Measure bk) : KT N bk enc Tryd.prog W 161 T_api_Use.E T_api_Use.bulk := kt_down (kt_map (kt_struct M (t := 161) (fs := [(9, 0), (3, 1), (3, 2)]) (T := 3) (by kernel_rfl) (by kernel_rfl) (ktf_cons (s := 1) (f := 9) (by kernel_rfl) tell_str (kt_str (t := 9) M (by kernel_rfl)) (ktf_cons (s := 1) (f := 3) (by kernel_rfl) (tell_int .i64) (kt_one M) (ktf_cons (s := 1) (f := 3) (by kernel_rfl) (tell_int .i64) (kt_one M) ktf_nil)))) (fun x cs e => by
  obtain rfl := e
  exact ⟨(x.Name, x.Low, x.High, ()), ⟨[.string x.Name], _, rfl, rfl, ⟨[.int .i64 x.Low], _, rfl, rfl, ⟨[.int .i64 x.High], _, rfl, rfl, rfl⟩⟩⟩, Nat.le_refl _⟩))
structure T_api_Make where
  Name : ByteArray
  Args : (List T_api_Type)
def T_api_Make.E (h : Heap) (x : T_api_Make) (cs : List Value) : Prop := ∃ A1 c1, cs = [.string x.Name, .slice A1 x.Args.length c1] ∧ x.Args.length ≤ c1 ∧ Rd 3 T_api_Type.E h A1 x.Args
theorem T_api_Make.T : Tell 2 T_api_Make.E := ⟨by rintro m h x _ s ⟨A1, c1, rfl, k1, r1⟩; exact ⟨_, _, rfl, k1, r1.sub T_api_Type.T s⟩, by rintro h x _ ⟨A1, c1, rfl, k1, r1⟩; rfl, by rintro h x _ ⟨A1, c1, rfl, k1, r1⟩; exact Flats.cons trivial (Flats.cons trivial Flats.nil)⟩
def T_api_Make.Q (x : T_api_Make) : Prop := (x.Name.size ≤ 140737488351232) ∧ (x.Args.length * 48 ≤ 140737488351232 ∧ ∀ a ∈ x.Args, (T_api_Type.Q a))
theorem T_api_Make.tells {H : Type} {enc : TypeId × Value → H} {W : World} : Tells enc Tryd.prog W 90 T_api_Make.E T_api_Make.Q := tells_map (tells_struct (t := 90) (fs := [(9, 0), (23, 1)]) (T := 2) (by kernel_rfl) (by kernel_rfl) (tf_cons (s := 1) (f := 9) (by kernel_rfl) (tells_strL (t := 9) (by kernel_rfl)) (tf_cons (s := 1) (f := 23) (by kernel_rfl) (tells_sliceL (t := 23) (e := 25) (sz := 3) (B := 48) (by kernel_rfl) (by kernel_rfl) (by kernel_rfl) T_api_Type.tells) tf_nil))) (by
  rintro ⟨x0, x1, ⟨⟩⟩ cs e q
  obtain ⟨c0, r0, rfl, e0, c1, r1, rfl, e1, eN⟩ := e
  obtain rfl : c0 = [.string x0] := e0
  obtain ⟨A1, k1, rfl, l1, R1⟩ := e1
  obtain rfl : r1 = [] := eN
  exact ⟨⟨x0, x1⟩, ⟨_, _, rfl, l1, R1⟩, q.1, q.2.1⟩)
def T_api_Make.bulk (x : T_api_Make) : Nat := ((x.Name.size + 1) + (((List.map T_api_Type.bulk x.Args).sum + 1) + (0))) + 1
theorem T_api_Make.kt {H : Type} {bk : DataW H → Nat} {enc : TypeId × Value → H} {W : World} {N : Nat} (M : Measure bk) : KT N bk enc Tryd.prog W 90 T_api_Make.E T_api_Make.bulk := kt_down (kt_map (kt_struct M (t := 90) (fs := [(9, 0), (23, 1)]) (T := 2) (by kernel_rfl) (by kernel_rfl) (ktf_cons (s := 1) (f := 9) (by kernel_rfl) tell_str (kt_str (t := 9) M (by kernel_rfl)) (ktf_cons (s := 1) (f := 23) (by kernel_rfl) (tell_row T_api_Type.T) (kt_slice M (t := 23) (e := 25) (sz := 3) (by kernel_rfl) (by kernel_rfl) (T_api_Type.kt M)) ktf_nil))) (fun x cs e => by
  obtain ⟨A1, c1, rfl, k1, r1⟩ := e
  exact ⟨(x.Name, x.Args, ()), ⟨[.string x.Name], _, rfl, rfl, ⟨[.slice A1 x.Args.length c1], _, rfl, ⟨_, _, rfl, k1, r1⟩, rfl⟩⟩, Nat.le_refl _⟩))
structure T_api_Data where
  Name : ByteArray
  Params : (List ByteArray)
  Makes : (List T_api_Make)
def T_api_Data.E (h : Heap) (x : T_api_Data) (cs : List Value) : Prop := ∃ A1 c1 A2 c2, cs = [.string x.Name, .slice A1 x.Params.length c1, .slice A2 x.Makes.length c2] ∧ x.Params.length ≤ c1 ∧ Rd 1 eStr h A1 x.Params ∧ x.Makes.length ≤ c2 ∧ Rd 2 T_api_Make.E h A2 x.Makes
theorem T_api_Data.T : Tell 3 T_api_Data.E := ⟨by rintro m h x _ s ⟨A1, c1, A2, c2, rfl, k1, r1, k2, r2⟩; exact ⟨_, _, _, _, rfl, k1, r1.sub tell_str s, k2, r2.sub T_api_Make.T s⟩, by rintro h x _ ⟨A1, c1, A2, c2, rfl, k1, r1, k2, r2⟩; rfl, by rintro h x _ ⟨A1, c1, A2, c2, rfl, k1, r1, k2, r2⟩; exact Flats.cons trivial (Flats.cons trivial (Flats.cons trivial Flats.nil))⟩
def T_api_Data.Q (x : T_api_Data) : Prop := (x.Name.size ≤ 140737488351232) ∧ (x.Params.length * 16 ≤ 140737488351232 ∧ ∀ a ∈ x.Params, (a.size ≤ 140737488351232)) ∧ (x.Makes.length * 40 ≤ 140737488351232 ∧ ∀ a ∈ x.Makes, (T_api_Make.Q a))
theorem T_api_Data.tells {H : Type} {enc : TypeId × Value → H} {W : World} : Tells enc Tryd.prog W 63 T_api_Data.E T_api_Data.Q := tells_map (tells_struct (t := 63) (fs := [(9, 0), (22, 1), (61, 2)]) (T := 3) (by kernel_rfl) (by kernel_rfl) (tf_cons (s := 1) (f := 9) (by kernel_rfl) (tells_strL (t := 9) (by kernel_rfl)) (tf_cons (s := 1) (f := 22) (by kernel_rfl) (tells_sliceL (t := 22) (e := 9) (sz := 1) (B := 16) (by kernel_rfl) (by kernel_rfl) (by kernel_rfl) (tells_strL (t := 9) (by kernel_rfl))) (tf_cons (s := 1) (f := 61) (by kernel_rfl) (tells_sliceL (t := 61) (e := 90) (sz := 2) (B := 40) (by kernel_rfl) (by kernel_rfl) (by kernel_rfl) T_api_Make.tells) tf_nil)))) (by
  rintro ⟨x0, x1, x2, ⟨⟩⟩ cs e q
  obtain ⟨c0, r0, rfl, e0, c1, r1, rfl, e1, c2, r2, rfl, e2, eN⟩ := e
  obtain rfl : c0 = [.string x0] := e0
  obtain ⟨A1, k1, rfl, l1, R1⟩ := e1
  obtain ⟨A2, k2, rfl, l2, R2⟩ := e2
  obtain rfl : r2 = [] := eN
  exact ⟨⟨x0, x1, x2⟩, ⟨_, _, _, _, rfl, l1, R1, l2, R2⟩, q.1, q.2.1, q.2.2.1⟩)
def T_api_Data.bulk (x : T_api_Data) : Nat := ((x.Name.size + 1) + (((List.map (fun s : ByteArray => s.size + 1) x.Params).sum + 1) + (((List.map T_api_Make.bulk x.Makes).sum + 1) + (0)))) + 1
theorem T_api_Data.kt {H : Type} {bk : DataW H → Nat} {enc : TypeId × Value → H} {W : World} {N : Nat} (M : Measure bk) : KT N bk enc Tryd.prog W 63 T_api_Data.E T_api_Data.bulk := kt_down (kt_map (kt_struct M (t := 63) (fs := [(9, 0), (22, 1), (61, 2)]) (T := 3) (by kernel_rfl) (by kernel_rfl) (ktf_cons (s := 1) (f := 9) (by kernel_rfl) tell_str (kt_str (t := 9) M (by kernel_rfl)) (ktf_cons (s := 1) (f := 22) (by kernel_rfl) (tell_row tell_str) (kt_slice M (t := 22) (e := 9) (sz := 1) (by kernel_rfl) (by kernel_rfl) (kt_str (t := 9) M (by kernel_rfl))) (ktf_cons (s := 1) (f := 61) (by kernel_rfl) (tell_row T_api_Make.T) (kt_slice M (t := 61) (e := 90) (sz := 2) (by kernel_rfl) (by kernel_rfl) (T_api_Make.kt M)) ktf_nil)))) (fun x cs e => by
  obtain ⟨A1, c1, A2, c2, rfl, k1, r1, k2, r2⟩ := e
  exact ⟨(x.Name, x.Params, x.Makes, ()), ⟨[.string x.Name], _, rfl, rfl, ⟨[.slice A1 x.Params.length c1], _, rfl, ⟨_, _, rfl, k1, r1⟩, ⟨[.slice A2 x.Makes.length c2], _, rfl, ⟨_, _, rfl, k2, r2⟩, rfl⟩⟩⟩, Nat.le_refl _⟩))
structure T_api_Pat where
  Kind : Int
  Num : Int
  Text : ByteArray
  Args : (List T_api_Pat)
def T_api_Pat.E (h : Heap) : T_api_Pat → List Value → Prop
  | ⟨f0, f1, f2, f3⟩, cs => ∃ A3 c3, cs = [.int .i64 f0, .int .i64 f1, .string f2, .slice A3 f3.length c3] ∧ f3.length ≤ c3 ∧ (∀ i (hi : i < f3.length), ∃ a ds, A3 = some a ∧ cellsH h (a.add (i * 4)) 0 4 = some ds ∧ T_api_Pat.E h f3[i] ds)
  termination_by x => SizeOf.sizeOf x
  decreasing_by
    all_goals
      have h1 := List.sizeOf_lt_of_mem (List.getElem_mem hi)
      first
      | (simp_all; omega)
theorem T_api_Pat.iff {h : Heap} {x : T_api_Pat} {cs : List Value} : T_api_Pat.E h x cs ↔ ∃ A3 c3, cs = [.int .i64 x.Kind, .int .i64 x.Num, .string x.Text, .slice A3 x.Args.length c3] ∧ x.Args.length ≤ c3 ∧ Rd 4 T_api_Pat.E h A3 x.Args := by
  cases x
  rw [T_api_Pat.E]
  exact Iff.rfl
theorem T_api_Pat.mono {m h : Heap} (s : Sub m h) : ∀ (x : T_api_Pat) (cs : List Value), T_api_Pat.E m x cs → T_api_Pat.E h x cs
  | ⟨f0, f1, f2, f3⟩, cs, e => by
    rw [T_api_Pat.E] at e ⊢
    obtain ⟨A3, c3, h1, k3, r3⟩ := e
    exact ⟨A3, c3, h1, k3, fun i hi => let ⟨a, ds, h1, h2, h3⟩ := r3 i hi; ⟨a, ds, h1, s.cells _ _ h2, T_api_Pat.mono s _ _ h3⟩⟩
  termination_by x => SizeOf.sizeOf x
  decreasing_by
    all_goals
      have h1 := List.sizeOf_lt_of_mem (List.getElem_mem hi)
      first
      | (simp_all; omega)
theorem T_api_Pat.T : Tell 4 T_api_Pat.E := ⟨fun _ _ x cs s e => T_api_Pat.mono s x cs e, by intro h x cs e; obtain ⟨A3, c3, rfl, k3, r3⟩ := T_api_Pat.iff.1 e; rfl, by intro h x cs e; obtain ⟨A3, c3, rfl, k3, r3⟩ := T_api_Pat.iff.1 e; exact Flats.cons trivial (Flats.cons trivial (Flats.cons trivial (Flats.cons trivial Flats.nil)))⟩
def T_api_Pat.Q : T_api_Pat → Prop
  | ⟨f0, f1, f2, f3⟩ => (-9223372036854775808 ≤ f0 ∧ f0 ≤ 9223372036854775807) ∧ (-9223372036854775808 ≤ f1 ∧ f1 ≤ 9223372036854775807) ∧ (f2.size ≤ 140737488351232) ∧ (f3.length * 56 ≤ 140737488351232 ∧ ∀ i (hi : i < f3.length), T_api_Pat.Q f3[i])
  termination_by x => SizeOf.sizeOf x
  decreasing_by
    all_goals
      have h1 := List.sizeOf_lt_of_mem (List.getElem_mem hi)
      first
      | (simp_all; omega)
theorem T_api_Pat.Q_iff {x : T_api_Pat} : T_api_Pat.Q x ↔ (-9223372036854775808 ≤ x.Kind ∧ x.Kind ≤ 9223372036854775807) ∧ (-9223372036854775808 ≤ x.Num ∧ x.Num ≤ 9223372036854775807) ∧ (x.Text.size ≤ 140737488351232) ∧ (x.Args.length * 56 ≤ 140737488351232 ∧ ∀ a ∈ x.Args, T_api_Pat.Q a) := by
  obtain ⟨f0, f1, f2, f3⟩ := x
  rw [T_api_Pat.Q]
  show _ ↔ (-9223372036854775808 ≤ f0 ∧ f0 ≤ 9223372036854775807) ∧ (-9223372036854775808 ≤ f1 ∧ f1 ≤ 9223372036854775807) ∧ (f2.size ≤ 140737488351232) ∧ (f3.length * 56 ≤ 140737488351232 ∧ ∀ a ∈ f3, T_api_Pat.Q a)
  rw [← forall_get (l := f3) (p := T_api_Pat.Q)]
theorem T_api_Pat.tells {H : Type} {enc : TypeId × Value → H} {W : World} : Tells enc Tryd.prog W 117 T_api_Pat.E T_api_Pat.Q := tells_rec fun N ih => tellsU_map (tellsU_struct (t := 117) (fs := [(3, 0), (3, 1), (9, 2), (115, 3)]) (T := 4) (by kernel_rfl) (by kernel_rfl) (tfU_cons (s := 1) (f := 3) (by kernel_rfl) (Tells.up (tells_i64 (t := 3) (by kernel_rfl))) (tfU_cons (s := 1) (f := 3) (by kernel_rfl) (Tells.up (tells_i64 (t := 3) (by kernel_rfl))) (tfU_cons (s := 1) (f := 9) (by kernel_rfl) (Tells.up (tells_strL (t := 9) (by kernel_rfl))) (tfU_cons (s := 1) (f := 115) (by kernel_rfl) (tellsU_slice (t := 115) (e := 117) (sz := 4) (B := 56) (by kernel_rfl) (by kernel_rfl) (by kernel_rfl) ih) tfU_nil))))) (by
  rintro ⟨x0, x1, x2, x3, ⟨⟩⟩ cs e q
  obtain ⟨c0, r0, rfl, e0, c1, r1, rfl, e1, c2, r2, rfl, e2, c3, r3, rfl, e3, eN⟩ := e
  obtain rfl : c0 = [.int .i64 x0] := e0
  obtain rfl : c1 = [.int .i64 x1] := e1
  obtain rfl : c2 = [.string x2] := e2
  obtain ⟨A3, k3, rfl, l3, R3⟩ := e3
  obtain rfl : r3 = [] := eN
  exact ⟨⟨x0, x1, x2, x3⟩, T_api_Pat.iff.2 ⟨_, _, rfl, l3, R3⟩, T_api_Pat.Q_iff.2 ⟨q.1, q.2.1, q.2.2.1, q.2.2.2.1⟩⟩)
def T_api_Pat.bulk : T_api_Pat → Nat
  | ⟨f0, f1, f2, f3⟩ => (1 + (1 + ((f2.size + 1) + (((f3.attach.map fun y => T_api_Pat.bulk y.1).sum + 1) + (0))))) + 1
  termination_by x => SizeOf.sizeOf x
  decreasing_by
    all_goals
      have h1 := List.sizeOf_lt_of_mem y.2
      first
      | (simp_all; omega)
theorem T_api_Pat.bulk_eq (x : T_api_Pat) : T_api_Pat.bulk x = (1 + (1 + ((x.Text.size + 1) + (((List.map T_api_Pat.bulk x.Args).sum + 1) + (0))))) + 1 := by
  obtain ⟨f0, f1, f2, f3⟩ := x
  rw [T_api_Pat.bulk]
  rw [(List.attach_map_val : (f3.attach.map fun i => T_api_Pat.bulk i.1) = f3.map T_api_Pat.bulk)]
theorem T_api_Pat.kt {H : Type} {bk : DataW H → Nat} {enc : TypeId × Value → H} {W : World} {N : Nat} (M : Measure bk) : KT N bk enc Tryd.prog W 117 T_api_Pat.E T_api_Pat.bulk := kt_rec (fun N ih => kt_map (kt_struct M (t := 117) (fs := [(3, 0), (3, 1), (9, 2), (115, 3)]) (T := 4) (by kernel_rfl) (by kernel_rfl) (ktf_cons (s := 1) (f := 3) (by kernel_rfl) (tell_int .i64) (kt_one M) (ktf_cons (s := 1) (f := 3) (by kernel_rfl) (tell_int .i64) (kt_one M) (ktf_cons (s := 1) (f := 9) (by kernel_rfl) tell_str (kt_str (t := 9) M (by kernel_rfl)) (ktf_cons (s := 1) (f := 115) (by kernel_rfl) (tell_row T_api_Pat.T) (kt_slice M (t := 115) (e := 117) (sz := 4) (by kernel_rfl) (by kernel_rfl) ih) ktf_nil))))) (fun x cs e => by
  obtain ⟨A3, c3, rfl, k3, r3⟩ := T_api_Pat.iff.1 e
  exact ⟨(x.Kind, x.Num, x.Text, x.Args, ()), ⟨[.int .i64 x.Kind], _, rfl, rfl, ⟨[.int .i64 x.Num], _, rfl, rfl, ⟨[.string x.Text], _, rfl, rfl, ⟨[.slice A3 x.Args.length c3], _, rfl, ⟨_, _, rfl, k3, r3⟩, rfl⟩⟩⟩⟩, by rw [T_api_Pat.bulk_eq]; exact Nat.le_refl _⟩)) N
mutual
structure T_api_Expr where
  Kind : Int
  Num : Int
  Text : ByteArray
  Names : (List ByteArray)
  Types : (List T_api_Type)
  Args : (List T_api_Expr)
  Arms : (List T_api_Arm)
  At : Int
structure T_api_Arm where
  Pat : T_api_Pat
  Body : T_api_Expr
end
theorem T_api_Arm.lt_Body (x : T_api_Arm) : SizeOf.sizeOf x.Body < SizeOf.sizeOf x := by cases x; simp; omega
def T_api_Expr.E (h : Heap) : T_api_Expr → List Value → Prop
  | ⟨f0, f1, f2, f3, f4, f5, f6, f7⟩, cs => ∃ A3 c3 A4 c4 A5 c5 A6 c6, cs = [.int .i64 f0, .int .i64 f1, .string f2, .slice A3 f3.length c3, .slice A4 f4.length c4, .slice A5 f5.length c5, .slice A6 f6.length c6, .int .i64 f7] ∧ f3.length ≤ c3 ∧ Rd 1 eStr h A3 f3 ∧ f4.length ≤ c4 ∧ Rd 3 T_api_Type.E h A4 f4 ∧ f5.length ≤ c5 ∧ (∀ i (hi : i < f5.length), ∃ a ds, A5 = some a ∧ cellsH h (a.add (i * 8)) 0 8 = some ds ∧ T_api_Expr.E h f5[i] ds) ∧ f6.length ≤ c6 ∧ (∀ i (hi : i < f6.length), ∃ a ds, A6 = some a ∧ cellsH h (a.add (i * 12)) 0 12 = some ds ∧ ∃ d0 d1, ds = d0 ++ d1 ∧ T_api_Pat.E h f6[i].Pat d0 ∧ T_api_Expr.E h f6[i].Body d1)
  termination_by x => SizeOf.sizeOf x
  decreasing_by
    all_goals
      have h1 := List.sizeOf_lt_of_mem (List.getElem_mem hi)
      first
      | (simp_all; omega)
      | (have h2 := T_api_Arm.lt_Body (f6[i]'hi); simp_all; omega)
def T_api_Arm.E (h : Heap) (x : T_api_Arm) (cs : List Value) : Prop := ∃ d0 d1, cs = d0 ++ d1 ∧ T_api_Pat.E h x.Pat d0 ∧ T_api_Expr.E h x.Body d1
theorem T_api_Expr.iff {h : Heap} {x : T_api_Expr} {cs : List Value} : T_api_Expr.E h x cs ↔ ∃ A3 c3 A4 c4 A5 c5 A6 c6, cs = [.int .i64 x.Kind, .int .i64 x.Num, .string x.Text, .slice A3 x.Names.length c3, .slice A4 x.Types.length c4, .slice A5 x.Args.length c5, .slice A6 x.Arms.length c6, .int .i64 x.At] ∧ x.Names.length ≤ c3 ∧ Rd 1 eStr h A3 x.Names ∧ x.Types.length ≤ c4 ∧ Rd 3 T_api_Type.E h A4 x.Types ∧ x.Args.length ≤ c5 ∧ Rd 8 T_api_Expr.E h A5 x.Args ∧ x.Arms.length ≤ c6 ∧ Rd 12 T_api_Arm.E h A6 x.Arms := by
  cases x
  rw [T_api_Expr.E]
  exact Iff.rfl
theorem T_api_Expr.mono {m h : Heap} (s : Sub m h) : ∀ (x : T_api_Expr) (cs : List Value), T_api_Expr.E m x cs → T_api_Expr.E h x cs
  | ⟨f0, f1, f2, f3, f4, f5, f6, f7⟩, cs, e => by
    rw [T_api_Expr.E] at e ⊢
    obtain ⟨A3, c3, A4, c4, A5, c5, A6, c6, h1, k3, r3, k4, r4, k5, r5, k6, r6⟩ := e
    exact ⟨A3, c3, A4, c4, A5, c5, A6, c6, h1, k3, r3.sub tell_str s, k4, r4.sub T_api_Type.T s, k5, fun i hi => let ⟨a, ds, h1, h2, h3⟩ := r5 i hi; ⟨a, ds, h1, s.cells _ _ h2, T_api_Expr.mono s _ _ h3⟩, k6, fun i hi => let ⟨a, ds, h1, h2, d0, d1, h4, e0, e1⟩ := r6 i hi; ⟨a, ds, h1, s.cells _ _ h2, d0, d1, h4, T_api_Pat.T.mono _ _ _ _ s e0, T_api_Expr.mono s _ _ e1⟩⟩
  termination_by x => SizeOf.sizeOf x
  decreasing_by
    all_goals
      have h1 := List.sizeOf_lt_of_mem (List.getElem_mem hi)
      first
      | (simp_all; omega)
      | (have h2 := T_api_Arm.lt_Body (f6[i]'hi); simp_all; omega)
theorem T_api_Expr.T : Tell 8 T_api_Expr.E := ⟨fun _ _ x cs s e => T_api_Expr.mono s x cs e, by intro h x cs e; obtain ⟨A3, c3, A4, c4, A5, c5, A6, c6, rfl, k3, r3, k4, r4, k5, r5, k6, r6⟩ := T_api_Expr.iff.1 e; rfl, by intro h x cs e; obtain ⟨A3, c3, A4, c4, A5, c5, A6, c6, rfl, k3, r3, k4, r4, k5, r5, k6, r6⟩ := T_api_Expr.iff.1 e; exact Flats.cons trivial (Flats.cons trivial (Flats.cons trivial (Flats.cons trivial (Flats.cons trivial (Flats.cons trivial (Flats.cons trivial (Flats.cons trivial Flats.nil)))))))⟩
theorem T_api_Arm.iff {h : Heap} {x : T_api_Arm} {cs : List Value} : T_api_Arm.E h x cs ↔ ∃ A3 c3 A7 c7 A8 c8 A9 c9 A10 c10, cs = [.int .i64 x.Pat.Kind, .int .i64 x.Pat.Num, .string x.Pat.Text, .slice A3 x.Pat.Args.length c3, .int .i64 x.Body.Kind, .int .i64 x.Body.Num, .string x.Body.Text, .slice A7 x.Body.Names.length c7, .slice A8 x.Body.Types.length c8, .slice A9 x.Body.Args.length c9, .slice A10 x.Body.Arms.length c10, .int .i64 x.Body.At] ∧ x.Pat.Args.length ≤ c3 ∧ Rd 4 T_api_Pat.E h A3 x.Pat.Args ∧ x.Body.Names.length ≤ c7 ∧ Rd 1 eStr h A7 x.Body.Names ∧ x.Body.Types.length ≤ c8 ∧ Rd 3 T_api_Type.E h A8 x.Body.Types ∧ x.Body.Args.length ≤ c9 ∧ Rd 8 T_api_Expr.E h A9 x.Body.Args ∧ x.Body.Arms.length ≤ c10 ∧ Rd 12 T_api_Arm.E h A10 x.Body.Arms := by
  constructor
  · rintro ⟨d0, d1, rfl, e0, e1⟩
    obtain ⟨A3, c3, rfl, k3, r3⟩ := T_api_Pat.iff.1 e0
    obtain ⟨A7, c7, A8, c8, A9, c9, A10, c10, rfl, k7, r7, k8, r8, k9, r9, k10, r10⟩ := T_api_Expr.iff.1 e1
    exact ⟨A3, c3, A7, c7, A8, c8, A9, c9, A10, c10, rfl, k3, r3, k7, r7, k8, r8, k9, r9, k10, r10⟩
  · rintro ⟨A3, c3, A7, c7, A8, c8, A9, c9, A10, c10, rfl, k3, r3, k7, r7, k8, r8, k9, r9, k10, r10⟩
    exact ⟨[.int .i64 x.Pat.Kind, .int .i64 x.Pat.Num, .string x.Pat.Text, .slice A3 x.Pat.Args.length c3], [.int .i64 x.Body.Kind, .int .i64 x.Body.Num, .string x.Body.Text, .slice A7 x.Body.Names.length c7, .slice A8 x.Body.Types.length c8, .slice A9 x.Body.Args.length c9, .slice A10 x.Body.Arms.length c10, .int .i64 x.Body.At], rfl, T_api_Pat.iff.2 ⟨A3, c3, rfl, k3, r3⟩, T_api_Expr.iff.2 ⟨A7, c7, A8, c8, A9, c9, A10, c10, rfl, k7, r7, k8, r8, k9, r9, k10, r10⟩⟩
theorem T_api_Arm.T : Tell 12 T_api_Arm.E := ⟨by rintro m h x _ s ⟨d0, d1, rfl, e0, e1⟩; exact ⟨d0, d1, rfl, T_api_Pat.T.mono _ _ _ _ s e0, T_api_Expr.T.mono _ _ _ _ s e1⟩, by intro h x cs e; obtain ⟨A3, c3, A7, c7, A8, c8, A9, c9, A10, c10, rfl, k3, r3, k7, r7, k8, r8, k9, r9, k10, r10⟩ := T_api_Arm.iff.1 e; rfl, by intro h x cs e; obtain ⟨A3, c3, A7, c7, A8, c8, A9, c9, A10, c10, rfl, k3, r3, k7, r7, k8, r8, k9, r9, k10, r10⟩ := T_api_Arm.iff.1 e; exact Flats.cons trivial (Flats.cons trivial (Flats.cons trivial (Flats.cons trivial (Flats.cons trivial (Flats.cons trivial (Flats.cons trivial (Flats.cons trivial (Flats.cons trivial (Flats.cons trivial (Flats.cons trivial (Flats.cons trivial Flats.nil)))))))))))⟩
def T_api_Expr.Q : T_api_Expr → Prop
  | ⟨f0, f1, f2, f3, f4, f5, f6, f7⟩ => (-9223372036854775808 ≤ f0 ∧ f0 ≤ 9223372036854775807) ∧ (-9223372036854775808 ≤ f1 ∧ f1 ≤ 9223372036854775807) ∧ (f2.size ≤ 140737488351232) ∧ (f3.length * 16 ≤ 140737488351232 ∧ ∀ a ∈ f3, (a.size ≤ 140737488351232)) ∧ (f4.length * 48 ≤ 140737488351232 ∧ ∀ a ∈ f4, (T_api_Type.Q a)) ∧ (f5.length * 136 ≤ 140737488351232 ∧ ∀ i (hi : i < f5.length), T_api_Expr.Q f5[i]) ∧ (f6.length * 192 ≤ 140737488351232 ∧ ∀ i (hi : i < f6.length), (T_api_Pat.Q f6[i].Pat) ∧ (T_api_Expr.Q f6[i].Body)) ∧ (-9223372036854775808 ≤ f7 ∧ f7 ≤ 9223372036854775807)
  termination_by x => SizeOf.sizeOf x
  decreasing_by
    all_goals
      have h1 := List.sizeOf_lt_of_mem (List.getElem_mem hi)
      first
      | (simp_all; omega)
      | (have h2 := T_api_Arm.lt_Body (f6[i]'hi); simp_all; omega)
def T_api_Arm.Q (x : T_api_Arm) : Prop := (T_api_Pat.Q x.Pat) ∧ (T_api_Expr.Q x.Body)
theorem T_api_Expr.Q_iff {x : T_api_Expr} : T_api_Expr.Q x ↔ (-9223372036854775808 ≤ x.Kind ∧ x.Kind ≤ 9223372036854775807) ∧ (-9223372036854775808 ≤ x.Num ∧ x.Num ≤ 9223372036854775807) ∧ (x.Text.size ≤ 140737488351232) ∧ (x.Names.length * 16 ≤ 140737488351232 ∧ ∀ a ∈ x.Names, (a.size ≤ 140737488351232)) ∧ (x.Types.length * 48 ≤ 140737488351232 ∧ ∀ a ∈ x.Types, (T_api_Type.Q a)) ∧ (x.Args.length * 136 ≤ 140737488351232 ∧ ∀ a ∈ x.Args, T_api_Expr.Q a) ∧ (x.Arms.length * 192 ≤ 140737488351232 ∧ ∀ a ∈ x.Arms, T_api_Arm.Q a) ∧ (-9223372036854775808 ≤ x.At ∧ x.At ≤ 9223372036854775807) := by
  obtain ⟨f0, f1, f2, f3, f4, f5, f6, f7⟩ := x
  rw [T_api_Expr.Q]
  show _ ↔ (-9223372036854775808 ≤ f0 ∧ f0 ≤ 9223372036854775807) ∧ (-9223372036854775808 ≤ f1 ∧ f1 ≤ 9223372036854775807) ∧ (f2.size ≤ 140737488351232) ∧ (f3.length * 16 ≤ 140737488351232 ∧ ∀ a ∈ f3, (a.size ≤ 140737488351232)) ∧ (f4.length * 48 ≤ 140737488351232 ∧ ∀ a ∈ f4, (T_api_Type.Q a)) ∧ (f5.length * 136 ≤ 140737488351232 ∧ ∀ a ∈ f5, T_api_Expr.Q a) ∧ (f6.length * 192 ≤ 140737488351232 ∧ ∀ a ∈ f6, T_api_Arm.Q a) ∧ (-9223372036854775808 ≤ f7 ∧ f7 ≤ 9223372036854775807)
  rw [← forall_get (l := f5) (p := T_api_Expr.Q), ← forall_get (l := f6) (p := T_api_Arm.Q)]
  exact Iff.rfl
theorem T_api_Arm.tellsU {H : Type} {enc : TypeId × Value → H} {W : World} {N : Nat} (ih : TellsU N enc Tryd.prog W 87 T_api_Expr.E T_api_Expr.Q) : TellsU (N + 1) enc Tryd.prog W 119 T_api_Arm.E T_api_Arm.Q := tellsU_map (tellsU_struct (t := 119) (fs := [(117, 0), (87, 4)]) (T := 12) (by kernel_rfl) (by kernel_rfl) (tfU_cons (s := 4) (f := 117) (by kernel_rfl) (Tells.up T_api_Pat.tells) (tfU_cons (s := 8) (f := 87) (by kernel_rfl) ih tfU_nil))) (by
  rintro ⟨x0, x1, ⟨⟩⟩ cs e q
  obtain ⟨c0, r0, rfl, e0, c1, r1, rfl, e1, eN⟩ := e
  obtain rfl : r1 = [] := eN
  exact ⟨⟨x0, x1⟩, ⟨_, _, by simp, e0, e1⟩, q.1, q.2.1⟩)
theorem T_api_Expr.tells {H : Type} {enc : TypeId × Value → H} {W : World} : Tells enc Tryd.prog W 87 T_api_Expr.E T_api_Expr.Q := tells_rec fun N ih => tellsU_map (tellsU_struct (t := 87) (fs := [(3, 0), (3, 1), (9, 2), (22, 3), (23, 4), (83, 5), (85, 6), (3, 7)]) (T := 8) (by kernel_rfl) (by kernel_rfl) (tfU_cons (s := 1) (f := 3) (by kernel_rfl) (Tells.up (tells_i64 (t := 3) (by kernel_rfl))) (tfU_cons (s := 1) (f := 3) (by kernel_rfl) (Tells.up (tells_i64 (t := 3) (by kernel_rfl))) (tfU_cons (s := 1) (f := 9) (by kernel_rfl) (Tells.up (tells_strL (t := 9) (by kernel_rfl))) (tfU_cons (s := 1) (f := 22) (by kernel_rfl) (Tells.up (tells_sliceL (t := 22) (e := 9) (sz := 1) (B := 16) (by kernel_rfl) (by kernel_rfl) (by kernel_rfl) (tells_strL (t := 9) (by kernel_rfl)))) (tfU_cons (s := 1) (f := 23) (by kernel_rfl) (Tells.up (tells_sliceL (t := 23) (e := 25) (sz := 3) (B := 48) (by kernel_rfl) (by kernel_rfl) (by kernel_rfl) T_api_Type.tells)) (tfU_cons (s := 1) (f := 83) (by kernel_rfl) (tellsU_slice (t := 83) (e := 87) (sz := 8) (B := 136) (by kernel_rfl) (by kernel_rfl) (by kernel_rfl) ih) (tfU_cons (s := 1) (f := 85) (by kernel_rfl) (tellsU_slice (t := 85) (e := 119) (sz := 12) (B := 192) (by kernel_rfl) (by kernel_rfl) (by kernel_rfl) (tellsU_down (T_api_Arm.tellsU ih))) (tfU_cons (s := 1) (f := 3) (by kernel_rfl) (Tells.up (tells_i64 (t := 3) (by kernel_rfl))) tfU_nil))))))))) (by
  rintro ⟨x0, x1, x2, x3, x4, x5, x6, x7, ⟨⟩⟩ cs e q
  obtain ⟨c0, r0, rfl, e0, c1, r1, rfl, e1, c2, r2, rfl, e2, c3, r3, rfl, e3, c4, r4, rfl, e4, c5, r5, rfl, e5, c6, r6, rfl, e6, c7, r7, rfl, e7, eN⟩ := e
  obtain rfl : c0 = [.int .i64 x0] := e0
  obtain rfl : c1 = [.int .i64 x1] := e1
  obtain rfl : c2 = [.string x2] := e2
  obtain ⟨A3, k3, rfl, l3, R3⟩ := e3
  obtain ⟨A4, k4, rfl, l4, R4⟩ := e4
  obtain ⟨A5, k5, rfl, l5, R5⟩ := e5
  obtain ⟨A6, k6, rfl, l6, R6⟩ := e6
  obtain rfl : c7 = [.int .i64 x7] := e7
  obtain rfl : r7 = [] := eN
  exact ⟨⟨x0, x1, x2, x3, x4, x5, x6, x7⟩, T_api_Expr.iff.2 ⟨_, _, _, _, _, _, _, _, rfl, l3, R3, l4, R4, l5, R5, l6, R6⟩, T_api_Expr.Q_iff.2 ⟨q.1, q.2.1, q.2.2.1, q.2.2.2.1, q.2.2.2.2.1, q.2.2.2.2.2.1, q.2.2.2.2.2.2.1, q.2.2.2.2.2.2.2.1⟩⟩)
def T_api_Expr.bulk : T_api_Expr → Nat
  | ⟨f0, f1, f2, f3, f4, f5, f6, f7⟩ => (1 + (1 + ((f2.size + 1) + (((List.map (fun s : ByteArray => s.size + 1) f3).sum + 1) + (((List.map T_api_Type.bulk f4).sum + 1) + (((f5.attach.map fun y => T_api_Expr.bulk y.1).sum + 1) + (((f6.attach.map fun y => ((T_api_Pat.bulk y.1.Pat) + ((T_api_Expr.bulk y.1.Body) + (0))) + 1).sum + 1) + (1 + (0))))))))) + 1
  termination_by x => SizeOf.sizeOf x
  decreasing_by
    all_goals
      have h1 := List.sizeOf_lt_of_mem y.2
      first
      | (simp_all; omega)
      | (have h2 := T_api_Arm.lt_Body y.1; simp_all; omega)
def T_api_Arm.bulk (x : T_api_Arm) : Nat := ((T_api_Pat.bulk x.Pat) + ((T_api_Expr.bulk x.Body) + (0))) + 1
theorem T_api_Expr.bulk_eq (x : T_api_Expr) : T_api_Expr.bulk x = (1 + (1 + ((x.Text.size + 1) + (((List.map (fun s : ByteArray => s.size + 1) x.Names).sum + 1) + (((List.map T_api_Type.bulk x.Types).sum + 1) + (((List.map T_api_Expr.bulk x.Args).sum + 1) + (((List.map T_api_Arm.bulk x.Arms).sum + 1) + (1 + (0))))))))) + 1 := by
  obtain ⟨f0, f1, f2, f3, f4, f5, f6, f7⟩ := x
  rw [T_api_Expr.bulk]
  rw [(List.attach_map_val : (f5.attach.map fun i => T_api_Expr.bulk i.1) = f5.map T_api_Expr.bulk)]
  rw [show (f6.attach.map fun y => ((T_api_Pat.bulk y.1.Pat) + ((T_api_Expr.bulk y.1.Body) + (0))) + 1) = (f6.attach.map fun y => T_api_Arm.bulk y.1) from rfl, (List.attach_map_val : (f6.attach.map fun i => T_api_Arm.bulk i.1) = f6.map T_api_Arm.bulk)]
theorem T_api_Arm.ktU {H : Type} {bk : DataW H → Nat} {enc : TypeId × Value → H} {W : World} {N : Nat} (M : Measure bk) (ih : KT N bk enc Tryd.prog W 87 T_api_Expr.E T_api_Expr.bulk) : KT (N + 1) bk enc Tryd.prog W 119 T_api_Arm.E T_api_Arm.bulk := kt_map (kt_struct M (t := 119) (fs := [(117, 0), (87, 4)]) (T := 12) (by kernel_rfl) (by kernel_rfl) (ktf_cons (s := 4) (f := 117) (by kernel_rfl) T_api_Pat.T (T_api_Pat.kt M) (ktf_cons (s := 8) (f := 87) (by kernel_rfl) T_api_Expr.T ih ktf_nil))) (fun x cs e => by
  obtain ⟨d0, d1, rfl, e0, e1⟩ := e
  exact ⟨(x.Pat, x.Body, ()), ⟨d0, _, rfl, e0, ⟨d1, _, (List.append_nil _).symm, e1, rfl⟩⟩, Nat.le_refl _⟩)
theorem T_api_Expr.kt {H : Type} {bk : DataW H → Nat} {enc : TypeId × Value → H} {W : World} {N : Nat} (M : Measure bk) : KT N bk enc Tryd.prog W 87 T_api_Expr.E T_api_Expr.bulk := kt_rec (fun N ih => kt_map (kt_struct M (t := 87) (fs := [(3, 0), (3, 1), (9, 2), (22, 3), (23, 4), (83, 5), (85, 6), (3, 7)]) (T := 8) (by kernel_rfl) (by kernel_rfl) (ktf_cons (s := 1) (f := 3) (by kernel_rfl) (tell_int .i64) (kt_one M) (ktf_cons (s := 1) (f := 3) (by kernel_rfl) (tell_int .i64) (kt_one M) (ktf_cons (s := 1) (f := 9) (by kernel_rfl) tell_str (kt_str (t := 9) M (by kernel_rfl)) (ktf_cons (s := 1) (f := 22) (by kernel_rfl) (tell_row tell_str) (kt_slice M (t := 22) (e := 9) (sz := 1) (by kernel_rfl) (by kernel_rfl) (kt_str (t := 9) M (by kernel_rfl))) (ktf_cons (s := 1) (f := 23) (by kernel_rfl) (tell_row T_api_Type.T) (kt_slice M (t := 23) (e := 25) (sz := 3) (by kernel_rfl) (by kernel_rfl) (T_api_Type.kt M)) (ktf_cons (s := 1) (f := 83) (by kernel_rfl) (tell_row T_api_Expr.T) (kt_slice M (t := 83) (e := 87) (sz := 8) (by kernel_rfl) (by kernel_rfl) ih) (ktf_cons (s := 1) (f := 85) (by kernel_rfl) (tell_row T_api_Arm.T) (kt_slice M (t := 85) (e := 119) (sz := 12) (by kernel_rfl) (by kernel_rfl) (kt_down (T_api_Arm.ktU M ih))) (ktf_cons (s := 1) (f := 3) (by kernel_rfl) (tell_int .i64) (kt_one M) ktf_nil))))))))) (fun x cs e => by
  obtain ⟨A3, c3, A4, c4, A5, c5, A6, c6, rfl, k3, r3, k4, r4, k5, r5, k6, r6⟩ := T_api_Expr.iff.1 e
  exact ⟨(x.Kind, x.Num, x.Text, x.Names, x.Types, x.Args, x.Arms, x.At, ()), ⟨[.int .i64 x.Kind], _, rfl, rfl, ⟨[.int .i64 x.Num], _, rfl, rfl, ⟨[.string x.Text], _, rfl, rfl, ⟨[.slice A3 x.Names.length c3], _, rfl, ⟨_, _, rfl, k3, r3⟩, ⟨[.slice A4 x.Types.length c4], _, rfl, ⟨_, _, rfl, k4, r4⟩, ⟨[.slice A5 x.Args.length c5], _, rfl, ⟨_, _, rfl, k5, r5⟩, ⟨[.slice A6 x.Arms.length c6], _, rfl, ⟨_, _, rfl, k6, r6⟩, ⟨[.int .i64 x.At], _, rfl, rfl, rfl⟩⟩⟩⟩⟩⟩⟩⟩, by rw [T_api_Expr.bulk_eq]; exact Nat.le_refl _⟩)) N
structure T_api_Func where
  Name : ByteArray
  Params : (List ByteArray)
  Names : (List ByteArray)
  Types : (List T_api_Type)
  Out : T_api_Type
  Body : T_api_Expr
def T_api_Func.E (h : Heap) (x : T_api_Func) (cs : List Value) : Prop := ∃ A1 c1 A2 c2 A3 c3 A6 c6 A10 c10 A11 c11 A12 c12 A13 c13, cs = [.string x.Name, .slice A1 x.Params.length c1, .slice A2 x.Names.length c2, .slice A3 x.Types.length c3, .int .i64 x.Out.Kind, .string x.Out.Name, .slice A6 x.Out.Args.length c6, .int .i64 x.Body.Kind, .int .i64 x.Body.Num, .string x.Body.Text, .slice A10 x.Body.Names.length c10, .slice A11 x.Body.Types.length c11, .slice A12 x.Body.Args.length c12, .slice A13 x.Body.Arms.length c13, .int .i64 x.Body.At] ∧ x.Params.length ≤ c1 ∧ Rd 1 eStr h A1 x.Params ∧ x.Names.length ≤ c2 ∧ Rd 1 eStr h A2 x.Names ∧ x.Types.length ≤ c3 ∧ Rd 3 T_api_Type.E h A3 x.Types ∧ x.Out.Args.length ≤ c6 ∧ Rd 3 T_api_Type.E h A6 x.Out.Args ∧ x.Body.Names.length ≤ c10 ∧ Rd 1 eStr h A10 x.Body.Names ∧ x.Body.Types.length ≤ c11 ∧ Rd 3 T_api_Type.E h A11 x.Body.Types ∧ x.Body.Args.length ≤ c12 ∧ Rd 8 T_api_Expr.E h A12 x.Body.Args ∧ x.Body.Arms.length ≤ c13 ∧ Rd 12 T_api_Arm.E h A13 x.Body.Arms
theorem T_api_Func.T : Tell 15 T_api_Func.E := ⟨by rintro m h x _ s ⟨A1, c1, A2, c2, A3, c3, A6, c6, A10, c10, A11, c11, A12, c12, A13, c13, rfl, k1, r1, k2, r2, k3, r3, k6, r6, k10, r10, k11, r11, k12, r12, k13, r13⟩; exact ⟨_, _, _, _, _, _, _, _, _, _, _, _, _, _, _, _, rfl, k1, r1.sub tell_str s, k2, r2.sub tell_str s, k3, r3.sub T_api_Type.T s, k6, r6.sub T_api_Type.T s, k10, r10.sub tell_str s, k11, r11.sub T_api_Type.T s, k12, r12.sub T_api_Expr.T s, k13, r13.sub T_api_Arm.T s⟩, by rintro h x _ ⟨A1, c1, A2, c2, A3, c3, A6, c6, A10, c10, A11, c11, A12, c12, A13, c13, rfl, k1, r1, k2, r2, k3, r3, k6, r6, k10, r10, k11, r11, k12, r12, k13, r13⟩; rfl, by rintro h x _ ⟨A1, c1, A2, c2, A3, c3, A6, c6, A10, c10, A11, c11, A12, c12, A13, c13, rfl, k1, r1, k2, r2, k3, r3, k6, r6, k10, r10, k11, r11, k12, r12, k13, r13⟩; exact Flats.cons trivial (Flats.cons trivial (Flats.cons trivial (Flats.cons trivial (Flats.cons trivial (Flats.cons trivial (Flats.cons trivial (Flats.cons trivial (Flats.cons trivial (Flats.cons trivial (Flats.cons trivial (Flats.cons trivial (Flats.cons trivial (Flats.cons trivial (Flats.cons trivial Flats.nil))))))))))))))⟩
def T_api_Func.Q (x : T_api_Func) : Prop := (x.Name.size ≤ 140737488351232) ∧ (x.Params.length * 16 ≤ 140737488351232 ∧ ∀ a ∈ x.Params, (a.size ≤ 140737488351232)) ∧ (x.Names.length * 16 ≤ 140737488351232 ∧ ∀ a ∈ x.Names, (a.size ≤ 140737488351232)) ∧ (x.Types.length * 48 ≤ 140737488351232 ∧ ∀ a ∈ x.Types, (T_api_Type.Q a)) ∧ (T_api_Type.Q x.Out) ∧ (T_api_Expr.Q x.Body)
theorem T_api_Func.tells {H : Type} {enc : TypeId × Value → H} {W : World} : Tells enc Tryd.prog W 101 T_api_Func.E T_api_Func.Q := tells_map (tells_struct (t := 101) (fs := [(9, 0), (22, 1), (22, 2), (23, 3), (25, 4), (87, 7)]) (T := 15) (by kernel_rfl) (by kernel_rfl) (tf_cons (s := 1) (f := 9) (by kernel_rfl) (tells_strL (t := 9) (by kernel_rfl)) (tf_cons (s := 1) (f := 22) (by kernel_rfl) (tells_sliceL (t := 22) (e := 9) (sz := 1) (B := 16) (by kernel_rfl) (by kernel_rfl) (by kernel_rfl) (tells_strL (t := 9) (by kernel_rfl))) (tf_cons (s := 1) (f := 22) (by kernel_rfl) (tells_sliceL (t := 22) (e := 9) (sz := 1) (B := 16) (by kernel_rfl) (by kernel_rfl) (by kernel_rfl) (tells_strL (t := 9) (by kernel_rfl))) (tf_cons (s := 1) (f := 23) (by kernel_rfl) (tells_sliceL (t := 23) (e := 25) (sz := 3) (B := 48) (by kernel_rfl) (by kernel_rfl) (by kernel_rfl) T_api_Type.tells) (tf_cons (s := 3) (f := 25) (by kernel_rfl) T_api_Type.tells (tf_cons (s := 8) (f := 87) (by kernel_rfl) T_api_Expr.tells tf_nil))))))) (by
  rintro ⟨x0, x1, x2, x3, x4, x5, ⟨⟩⟩ cs e q
  obtain ⟨c0, r0, rfl, e0, c1, r1, rfl, e1, c2, r2, rfl, e2, c3, r3, rfl, e3, c4, r4, rfl, e4, c5, r5, rfl, e5, eN⟩ := e
  obtain rfl : c0 = [.string x0] := e0
  obtain ⟨A1, k1, rfl, l1, R1⟩ := e1
  obtain ⟨A2, k2, rfl, l2, R2⟩ := e2
  obtain ⟨A3, k3, rfl, l3, R3⟩ := e3
  obtain ⟨A4_2, k4_2, rfl, l4_2, R4_2⟩ := T_api_Type.iff.1 e4
  obtain ⟨A5_3, k5_3, A5_4, k5_4, A5_5, k5_5, A5_6, k5_6, rfl, l5_3, R5_3, l5_4, R5_4, l5_5, R5_5, l5_6, R5_6⟩ := T_api_Expr.iff.1 e5
  obtain rfl : r5 = [] := eN
  exact ⟨⟨x0, x1, x2, x3, x4, x5⟩, ⟨_, _, _, _, _, _, _, _, _, _, _, _, _, _, _, _, rfl, l1, R1, l2, R2, l3, R3, l4_2, R4_2, l5_3, R5_3, l5_4, R5_4, l5_5, R5_5, l5_6, R5_6⟩, q.1, q.2.1, q.2.2.1, q.2.2.2.1, q.2.2.2.2.1, q.2.2.2.2.2.1⟩)
def T_api_Func.bulk (x : T_api_Func) : Nat := ((x.Name.size + 1) + (((List.map (fun s : ByteArray => s.size + 1) x.Params).sum + 1) + (((List.map (fun s : ByteArray => s.size + 1) x.Names).sum + 1) + (((List.map T_api_Type.bulk x.Types).sum + 1) + ((T_api_Type.bulk x.Out) + ((T_api_Expr.bulk x.Body) + (0))))))) + 1
theorem T_api_Func.kt {H : Type} {bk : DataW H → Nat} {enc : TypeId × Value → H} {W : World} {N : Nat} (M : Measure bk) : KT N bk enc Tryd.prog W 101 T_api_Func.E T_api_Func.bulk := kt_down (kt_map (kt_struct M (t := 101) (fs := [(9, 0), (22, 1), (22, 2), (23, 3), (25, 4), (87, 7)]) (T := 15) (by kernel_rfl) (by kernel_rfl) (ktf_cons (s := 1) (f := 9) (by kernel_rfl) tell_str (kt_str (t := 9) M (by kernel_rfl)) (ktf_cons (s := 1) (f := 22) (by kernel_rfl) (tell_row tell_str) (kt_slice M (t := 22) (e := 9) (sz := 1) (by kernel_rfl) (by kernel_rfl) (kt_str (t := 9) M (by kernel_rfl))) (ktf_cons (s := 1) (f := 22) (by kernel_rfl) (tell_row tell_str) (kt_slice M (t := 22) (e := 9) (sz := 1) (by kernel_rfl) (by kernel_rfl) (kt_str (t := 9) M (by kernel_rfl))) (ktf_cons (s := 1) (f := 23) (by kernel_rfl) (tell_row T_api_Type.T) (kt_slice M (t := 23) (e := 25) (sz := 3) (by kernel_rfl) (by kernel_rfl) (T_api_Type.kt M)) (ktf_cons (s := 3) (f := 25) (by kernel_rfl) T_api_Type.T (T_api_Type.kt M) (ktf_cons (s := 8) (f := 87) (by kernel_rfl) T_api_Expr.T (T_api_Expr.kt M) ktf_nil))))))) (fun x cs e => by
  obtain ⟨A1, c1, A2, c2, A3, c3, A4_2, c4_2, A5_3, c5_3, A5_4, c5_4, A5_5, c5_5, A5_6, c5_6, rfl, k1, r1, k2, r2, k3, r3, k4_2, r4_2, k5_3, r5_3, k5_4, r5_4, k5_5, r5_5, k5_6, r5_6⟩ := e
  exact ⟨(x.Name, x.Params, x.Names, x.Types, x.Out, x.Body, ()), ⟨[.string x.Name], _, rfl, rfl, ⟨[.slice A1 x.Params.length c1], _, rfl, ⟨_, _, rfl, k1, r1⟩, ⟨[.slice A2 x.Names.length c2], _, rfl, ⟨_, _, rfl, k2, r2⟩, ⟨[.slice A3 x.Types.length c3], _, rfl, ⟨_, _, rfl, k3, r3⟩, ⟨[.int .i64 x.Out.Kind, .string x.Out.Name, .slice A4_2 x.Out.Args.length c4_2], _, rfl, T_api_Type.iff.2 ⟨_, _, rfl, k4_2, r4_2⟩, ⟨[.int .i64 x.Body.Kind, .int .i64 x.Body.Num, .string x.Body.Text, .slice A5_3 x.Body.Names.length c5_3, .slice A5_4 x.Body.Types.length c5_4, .slice A5_5 x.Body.Args.length c5_5, .slice A5_6 x.Body.Arms.length c5_6, .int .i64 x.Body.At], _, rfl, T_api_Expr.iff.2 ⟨_, _, _, _, _, _, _, _, rfl, k5_3, r5_3, k5_4, r5_4, k5_5, r5_5, k5_6, r5_6⟩, rfl⟩⟩⟩⟩⟩⟩, Nat.le_refl _⟩))
structure T_api_Trait where
  Name : ByteArray
  Funcs : (List T_api_Func)
def T_api_Trait.E (h : Heap) (x : T_api_Trait) (cs : List Value) : Prop := ∃ A1 c1, cs = [.string x.Name, .slice A1 x.Funcs.length c1] ∧ x.Funcs.length ≤ c1 ∧ Rd 15 T_api_Func.E h A1 x.Funcs
theorem T_api_Trait.T : Tell 2 T_api_Trait.E := ⟨by rintro m h x _ s ⟨A1, c1, rfl, k1, r1⟩; exact ⟨_, _, rfl, k1, r1.sub T_api_Func.T s⟩, by rintro h x _ ⟨A1, c1, rfl, k1, r1⟩; rfl, by rintro h x _ ⟨A1, c1, rfl, k1, r1⟩; exact Flats.cons trivial (Flats.cons trivial Flats.nil)⟩
def T_api_Trait.Q (x : T_api_Trait) : Prop := (x.Name.size ≤ 140737488351232) ∧ (x.Funcs.length * 272 ≤ 140737488351232 ∧ ∀ a ∈ x.Funcs, (T_api_Func.Q a))
theorem T_api_Trait.tells {H : Type} {enc : TypeId × Value → H} {W : World} : Tells enc Tryd.prog W 92 T_api_Trait.E T_api_Trait.Q := tells_map (tells_struct (t := 92) (fs := [(9, 0), (51, 1)]) (T := 2) (by kernel_rfl) (by kernel_rfl) (tf_cons (s := 1) (f := 9) (by kernel_rfl) (tells_strL (t := 9) (by kernel_rfl)) (tf_cons (s := 1) (f := 51) (by kernel_rfl) (tells_sliceL (t := 51) (e := 101) (sz := 15) (B := 272) (by kernel_rfl) (by kernel_rfl) (by kernel_rfl) T_api_Func.tells) tf_nil))) (by
  rintro ⟨x0, x1, ⟨⟩⟩ cs e q
  obtain ⟨c0, r0, rfl, e0, c1, r1, rfl, e1, eN⟩ := e
  obtain rfl : c0 = [.string x0] := e0
  obtain ⟨A1, k1, rfl, l1, R1⟩ := e1
  obtain rfl : r1 = [] := eN
  exact ⟨⟨x0, x1⟩, ⟨_, _, rfl, l1, R1⟩, q.1, q.2.1⟩)
def T_api_Trait.bulk (x : T_api_Trait) : Nat := ((x.Name.size + 1) + (((List.map T_api_Func.bulk x.Funcs).sum + 1) + (0))) + 1
theorem T_api_Trait.kt {H : Type} {bk : DataW H → Nat} {enc : TypeId × Value → H} {W : World} {N : Nat} (M : Measure bk) : KT N bk enc Tryd.prog W 92 T_api_Trait.E T_api_Trait.bulk := kt_down (kt_map (kt_struct M (t := 92) (fs := [(9, 0), (51, 1)]) (T := 2) (by kernel_rfl) (by kernel_rfl) (ktf_cons (s := 1) (f := 9) (by kernel_rfl) tell_str (kt_str (t := 9) M (by kernel_rfl)) (ktf_cons (s := 1) (f := 51) (by kernel_rfl) (tell_row T_api_Func.T) (kt_slice M (t := 51) (e := 101) (sz := 15) (by kernel_rfl) (by kernel_rfl) (T_api_Func.kt M)) ktf_nil))) (fun x cs e => by
  obtain ⟨A1, c1, rfl, k1, r1⟩ := e
  exact ⟨(x.Name, x.Funcs, ()), ⟨[.string x.Name], _, rfl, rfl, ⟨[.slice A1 x.Funcs.length c1], _, rfl, ⟨_, _, rfl, k1, r1⟩, rfl⟩⟩, Nat.le_refl _⟩))
structure T_api_Impl where
  Trait : ByteArray
  For : ByteArray
  Funcs : (List T_api_Func)
def T_api_Impl.E (h : Heap) (x : T_api_Impl) (cs : List Value) : Prop := ∃ A2 c2, cs = [.string x.Trait, .string x.For, .slice A2 x.Funcs.length c2] ∧ x.Funcs.length ≤ c2 ∧ Rd 15 T_api_Func.E h A2 x.Funcs
theorem T_api_Impl.T : Tell 3 T_api_Impl.E := ⟨by rintro m h x _ s ⟨A2, c2, rfl, k2, r2⟩; exact ⟨_, _, rfl, k2, r2.sub T_api_Func.T s⟩, by rintro h x _ ⟨A2, c2, rfl, k2, r2⟩; rfl, by rintro h x _ ⟨A2, c2, rfl, k2, r2⟩; exact Flats.cons trivial (Flats.cons trivial (Flats.cons trivial Flats.nil))⟩
def T_api_Impl.Q (x : T_api_Impl) : Prop := (x.Trait.size ≤ 140737488351232) ∧ (x.For.size ≤ 140737488351232) ∧ (x.Funcs.length * 272 ≤ 140737488351232 ∧ ∀ a ∈ x.Funcs, (T_api_Func.Q a))
theorem T_api_Impl.tells {H : Type} {enc : TypeId × Value → H} {W : World} : Tells enc Tryd.prog W 95 T_api_Impl.E T_api_Impl.Q := tells_map (tells_struct (t := 95) (fs := [(9, 0), (9, 1), (51, 2)]) (T := 3) (by kernel_rfl) (by kernel_rfl) (tf_cons (s := 1) (f := 9) (by kernel_rfl) (tells_strL (t := 9) (by kernel_rfl)) (tf_cons (s := 1) (f := 9) (by kernel_rfl) (tells_strL (t := 9) (by kernel_rfl)) (tf_cons (s := 1) (f := 51) (by kernel_rfl) (tells_sliceL (t := 51) (e := 101) (sz := 15) (B := 272) (by kernel_rfl) (by kernel_rfl) (by kernel_rfl) T_api_Func.tells) tf_nil)))) (by
  rintro ⟨x0, x1, x2, ⟨⟩⟩ cs e q
  obtain ⟨c0, r0, rfl, e0, c1, r1, rfl, e1, c2, r2, rfl, e2, eN⟩ := e
  obtain rfl : c0 = [.string x0] := e0
  obtain rfl : c1 = [.string x1] := e1
  obtain ⟨A2, k2, rfl, l2, R2⟩ := e2
  obtain rfl : r2 = [] := eN
  exact ⟨⟨x0, x1, x2⟩, ⟨_, _, rfl, l2, R2⟩, q.1, q.2.1, q.2.2.1⟩)
def T_api_Impl.bulk (x : T_api_Impl) : Nat := ((x.Trait.size + 1) + ((x.For.size + 1) + (((List.map T_api_Func.bulk x.Funcs).sum + 1) + (0)))) + 1
theorem T_api_Impl.kt {H : Type} {bk : DataW H → Nat} {enc : TypeId × Value → H} {W : World} {N : Nat} (M : Measure bk) : KT N bk enc Tryd.prog W 95 T_api_Impl.E T_api_Impl.bulk := kt_down (kt_map (kt_struct M (t := 95) (fs := [(9, 0), (9, 1), (51, 2)]) (T := 3) (by kernel_rfl) (by kernel_rfl) (ktf_cons (s := 1) (f := 9) (by kernel_rfl) tell_str (kt_str (t := 9) M (by kernel_rfl)) (ktf_cons (s := 1) (f := 9) (by kernel_rfl) tell_str (kt_str (t := 9) M (by kernel_rfl)) (ktf_cons (s := 1) (f := 51) (by kernel_rfl) (tell_row T_api_Func.T) (kt_slice M (t := 51) (e := 101) (sz := 15) (by kernel_rfl) (by kernel_rfl) (T_api_Func.kt M)) ktf_nil)))) (fun x cs e => by
  obtain ⟨A2, c2, rfl, k2, r2⟩ := e
  exact ⟨(x.Trait, x.For, x.Funcs, ()), ⟨[.string x.Trait], _, rfl, rfl, ⟨[.string x.For], _, rfl, rfl, ⟨[.slice A2 x.Funcs.length c2], _, rfl, ⟨_, _, rfl, k2, r2⟩, rfl⟩⟩⟩, Nat.le_refl _⟩))
structure T_api_Actor where
  Name : ByteArray
  Names : (List ByteArray)
  Types : (List T_api_Type)
  Msg : T_api_Type
  Body : T_api_Expr
def T_api_Actor.E (h : Heap) (x : T_api_Actor) (cs : List Value) : Prop := ∃ A1 c1 A2 c2 A5 c5 A9 c9 A10 c10 A11 c11 A12 c12, cs = [.string x.Name, .slice A1 x.Names.length c1, .slice A2 x.Types.length c2, .int .i64 x.Msg.Kind, .string x.Msg.Name, .slice A5 x.Msg.Args.length c5, .int .i64 x.Body.Kind, .int .i64 x.Body.Num, .string x.Body.Text, .slice A9 x.Body.Names.length c9, .slice A10 x.Body.Types.length c10, .slice A11 x.Body.Args.length c11, .slice A12 x.Body.Arms.length c12, .int .i64 x.Body.At] ∧ x.Names.length ≤ c1 ∧ Rd 1 eStr h A1 x.Names ∧ x.Types.length ≤ c2 ∧ Rd 3 T_api_Type.E h A2 x.Types ∧ x.Msg.Args.length ≤ c5 ∧ Rd 3 T_api_Type.E h A5 x.Msg.Args ∧ x.Body.Names.length ≤ c9 ∧ Rd 1 eStr h A9 x.Body.Names ∧ x.Body.Types.length ≤ c10 ∧ Rd 3 T_api_Type.E h A10 x.Body.Types ∧ x.Body.Args.length ≤ c11 ∧ Rd 8 T_api_Expr.E h A11 x.Body.Args ∧ x.Body.Arms.length ≤ c12 ∧ Rd 12 T_api_Arm.E h A12 x.Body.Arms
theorem T_api_Actor.T : Tell 14 T_api_Actor.E := ⟨by rintro m h x _ s ⟨A1, c1, A2, c2, A5, c5, A9, c9, A10, c10, A11, c11, A12, c12, rfl, k1, r1, k2, r2, k5, r5, k9, r9, k10, r10, k11, r11, k12, r12⟩; exact ⟨_, _, _, _, _, _, _, _, _, _, _, _, _, _, rfl, k1, r1.sub tell_str s, k2, r2.sub T_api_Type.T s, k5, r5.sub T_api_Type.T s, k9, r9.sub tell_str s, k10, r10.sub T_api_Type.T s, k11, r11.sub T_api_Expr.T s, k12, r12.sub T_api_Arm.T s⟩, by rintro h x _ ⟨A1, c1, A2, c2, A5, c5, A9, c9, A10, c10, A11, c11, A12, c12, rfl, k1, r1, k2, r2, k5, r5, k9, r9, k10, r10, k11, r11, k12, r12⟩; rfl, by rintro h x _ ⟨A1, c1, A2, c2, A5, c5, A9, c9, A10, c10, A11, c11, A12, c12, rfl, k1, r1, k2, r2, k5, r5, k9, r9, k10, r10, k11, r11, k12, r12⟩; exact Flats.cons trivial (Flats.cons trivial (Flats.cons trivial (Flats.cons trivial (Flats.cons trivial (Flats.cons trivial (Flats.cons trivial (Flats.cons trivial (Flats.cons trivial (Flats.cons trivial (Flats.cons trivial (Flats.cons trivial (Flats.cons trivial (Flats.cons trivial Flats.nil)))))))))))))⟩
def T_api_Actor.Q (x : T_api_Actor) : Prop := (x.Name.size ≤ 140737488351232) ∧ (x.Names.length * 16 ≤ 140737488351232 ∧ ∀ a ∈ x.Names, (a.size ≤ 140737488351232)) ∧ (x.Types.length * 48 ≤ 140737488351232 ∧ ∀ a ∈ x.Types, (T_api_Type.Q a)) ∧ (T_api_Type.Q x.Msg) ∧ (T_api_Expr.Q x.Body)
theorem T_api_Actor.tells {H : Type} {enc : TypeId × Value → H} {W : World} : Tells enc Tryd.prog W 97 T_api_Actor.E T_api_Actor.Q := tells_map (tells_struct (t := 97) (fs := [(9, 0), (22, 1), (23, 2), (25, 3), (87, 6)]) (T := 14) (by kernel_rfl) (by kernel_rfl) (tf_cons (s := 1) (f := 9) (by kernel_rfl) (tells_strL (t := 9) (by kernel_rfl)) (tf_cons (s := 1) (f := 22) (by kernel_rfl) (tells_sliceL (t := 22) (e := 9) (sz := 1) (B := 16) (by kernel_rfl) (by kernel_rfl) (by kernel_rfl) (tells_strL (t := 9) (by kernel_rfl))) (tf_cons (s := 1) (f := 23) (by kernel_rfl) (tells_sliceL (t := 23) (e := 25) (sz := 3) (B := 48) (by kernel_rfl) (by kernel_rfl) (by kernel_rfl) T_api_Type.tells) (tf_cons (s := 3) (f := 25) (by kernel_rfl) T_api_Type.tells (tf_cons (s := 8) (f := 87) (by kernel_rfl) T_api_Expr.tells tf_nil)))))) (by
  rintro ⟨x0, x1, x2, x3, x4, ⟨⟩⟩ cs e q
  obtain ⟨c0, r0, rfl, e0, c1, r1, rfl, e1, c2, r2, rfl, e2, c3, r3, rfl, e3, c4, r4, rfl, e4, eN⟩ := e
  obtain rfl : c0 = [.string x0] := e0
  obtain ⟨A1, k1, rfl, l1, R1⟩ := e1
  obtain ⟨A2, k2, rfl, l2, R2⟩ := e2
  obtain ⟨A3_2, k3_2, rfl, l3_2, R3_2⟩ := T_api_Type.iff.1 e3
  obtain ⟨A4_3, k4_3, A4_4, k4_4, A4_5, k4_5, A4_6, k4_6, rfl, l4_3, R4_3, l4_4, R4_4, l4_5, R4_5, l4_6, R4_6⟩ := T_api_Expr.iff.1 e4
  obtain rfl : r4 = [] := eN
  exact ⟨⟨x0, x1, x2, x3, x4⟩, ⟨_, _, _, _, _, _, _, _, _, _, _, _, _, _, rfl, l1, R1, l2, R2, l3_2, R3_2, l4_3, R4_3, l4_4, R4_4, l4_5, R4_5, l4_6, R4_6⟩, q.1, q.2.1, q.2.2.1, q.2.2.2.1, q.2.2.2.2.1⟩)
def T_api_Actor.bulk (x : T_api_Actor) : Nat := ((x.Name.size + 1) + (((List.map (fun s : ByteArray => s.size + 1) x.Names).sum + 1) + (((List.map T_api_Type.bulk x.Types).sum + 1) + ((T_api_Type.bulk x.Msg) + ((T_api_Expr.bulk x.Body) + (0)))))) + 1
theorem T_api_Actor.kt {H : Type} {bk : DataW H → Nat} {enc : TypeId × Value → H} {W : World} {N : Nat} (M : Measure bk) : KT N bk enc Tryd.prog W 97 T_api_Actor.E T_api_Actor.bulk := kt_down (kt_map (kt_struct M (t := 97) (fs := [(9, 0), (22, 1), (23, 2), (25, 3), (87, 6)]) (T := 14) (by kernel_rfl) (by kernel_rfl) (ktf_cons (s := 1) (f := 9) (by kernel_rfl) tell_str (kt_str (t := 9) M (by kernel_rfl)) (ktf_cons (s := 1) (f := 22) (by kernel_rfl) (tell_row tell_str) (kt_slice M (t := 22) (e := 9) (sz := 1) (by kernel_rfl) (by kernel_rfl) (kt_str (t := 9) M (by kernel_rfl))) (ktf_cons (s := 1) (f := 23) (by kernel_rfl) (tell_row T_api_Type.T) (kt_slice M (t := 23) (e := 25) (sz := 3) (by kernel_rfl) (by kernel_rfl) (T_api_Type.kt M)) (ktf_cons (s := 3) (f := 25) (by kernel_rfl) T_api_Type.T (T_api_Type.kt M) (ktf_cons (s := 8) (f := 87) (by kernel_rfl) T_api_Expr.T (T_api_Expr.kt M) ktf_nil)))))) (fun x cs e => by
  obtain ⟨A1, c1, A2, c2, A3_2, c3_2, A4_3, c4_3, A4_4, c4_4, A4_5, c4_5, A4_6, c4_6, rfl, k1, r1, k2, r2, k3_2, r3_2, k4_3, r4_3, k4_4, r4_4, k4_5, r4_5, k4_6, r4_6⟩ := e
  exact ⟨(x.Name, x.Names, x.Types, x.Msg, x.Body, ()), ⟨[.string x.Name], _, rfl, rfl, ⟨[.slice A1 x.Names.length c1], _, rfl, ⟨_, _, rfl, k1, r1⟩, ⟨[.slice A2 x.Types.length c2], _, rfl, ⟨_, _, rfl, k2, r2⟩, ⟨[.int .i64 x.Msg.Kind, .string x.Msg.Name, .slice A3_2 x.Msg.Args.length c3_2], _, rfl, T_api_Type.iff.2 ⟨_, _, rfl, k3_2, r3_2⟩, ⟨[.int .i64 x.Body.Kind, .int .i64 x.Body.Num, .string x.Body.Text, .slice A4_3 x.Body.Names.length c4_3, .slice A4_4 x.Body.Types.length c4_4, .slice A4_5 x.Body.Args.length c4_5, .slice A4_6 x.Body.Arms.length c4_6, .int .i64 x.Body.At], _, rfl, T_api_Expr.iff.2 ⟨_, _, _, _, _, _, _, _, rfl, k4_3, r4_3, k4_4, r4_4, k4_5, r4_5, k4_6, r4_6⟩, rfl⟩⟩⟩⟩⟩, Nat.le_refl _⟩))
structure T_api_Program where
  Name : ByteArray
  Version : Int
  Uses : (List T_api_Use)
  Datas : (List T_api_Data)
  Traits : (List T_api_Trait)
  Impls : (List T_api_Impl)
  Funcs : (List T_api_Func)
  Actors : (List T_api_Actor)
def T_api_Program.E (h : Heap) (x : T_api_Program) (cs : List Value) : Prop := ∃ A2 c2 A3 c3 A4 c4 A5 c5 A6 c6 A7 c7, cs = [.string x.Name, .int .i64 x.Version, .slice A2 x.Uses.length c2, .slice A3 x.Datas.length c3, .slice A4 x.Traits.length c4, .slice A5 x.Impls.length c5, .slice A6 x.Funcs.length c6, .slice A7 x.Actors.length c7] ∧ x.Uses.length ≤ c2 ∧ Rd 3 T_api_Use.E h A2 x.Uses ∧ x.Datas.length ≤ c3 ∧ Rd 3 T_api_Data.E h A3 x.Datas ∧ x.Traits.length ≤ c4 ∧ Rd 2 T_api_Trait.E h A4 x.Traits ∧ x.Impls.length ≤ c5 ∧ Rd 3 T_api_Impl.E h A5 x.Impls ∧ x.Funcs.length ≤ c6 ∧ Rd 15 T_api_Func.E h A6 x.Funcs ∧ x.Actors.length ≤ c7 ∧ Rd 14 T_api_Actor.E h A7 x.Actors
theorem T_api_Program.T : Tell 8 T_api_Program.E := ⟨by rintro m h x _ s ⟨A2, c2, A3, c3, A4, c4, A5, c5, A6, c6, A7, c7, rfl, k2, r2, k3, r3, k4, r4, k5, r5, k6, r6, k7, r7⟩; exact ⟨_, _, _, _, _, _, _, _, _, _, _, _, rfl, k2, r2.sub T_api_Use.T s, k3, r3.sub T_api_Data.T s, k4, r4.sub T_api_Trait.T s, k5, r5.sub T_api_Impl.T s, k6, r6.sub T_api_Func.T s, k7, r7.sub T_api_Actor.T s⟩, by rintro h x _ ⟨A2, c2, A3, c3, A4, c4, A5, c5, A6, c6, A7, c7, rfl, k2, r2, k3, r3, k4, r4, k5, r5, k6, r6, k7, r7⟩; rfl, by rintro h x _ ⟨A2, c2, A3, c3, A4, c4, A5, c5, A6, c6, A7, c7, rfl, k2, r2, k3, r3, k4, r4, k5, r5, k6, r6, k7, r7⟩; exact Flats.cons trivial (Flats.cons trivial (Flats.cons trivial (Flats.cons trivial (Flats.cons trivial (Flats.cons trivial (Flats.cons trivial (Flats.cons trivial Flats.nil)))))))⟩
def T_api_Program.Q (x : T_api_Program) : Prop := (x.Name.size ≤ 140737488351232) ∧ (-9223372036854775808 ≤ x.Version ∧ x.Version ≤ 9223372036854775807) ∧ (x.Uses.length * 32 ≤ 140737488351232 ∧ ∀ a ∈ x.Uses, (T_api_Use.Q a)) ∧ (x.Datas.length * 64 ≤ 140737488351232 ∧ ∀ a ∈ x.Datas, (T_api_Data.Q a)) ∧ (x.Traits.length * 40 ≤ 140737488351232 ∧ ∀ a ∈ x.Traits, (T_api_Trait.Q a)) ∧ (x.Impls.length * 56 ≤ 140737488351232 ∧ ∀ a ∈ x.Impls, (T_api_Impl.Q a)) ∧ (x.Funcs.length * 272 ≤ 140737488351232 ∧ ∀ a ∈ x.Funcs, (T_api_Func.Q a)) ∧ (x.Actors.length * 248 ≤ 140737488351232 ∧ ∀ a ∈ x.Actors, (T_api_Actor.Q a))
theorem T_api_Program.tells {H : Type} {enc : TypeId × Value → H} {W : World} : Tells enc Tryd.prog W 54 T_api_Program.E T_api_Program.Q := tells_map (tells_struct (t := 54) (fs := [(9, 0), (3, 1), (47, 2), (48, 3), (49, 4), (50, 5), (51, 6), (52, 7)]) (T := 8) (by kernel_rfl) (by kernel_rfl) (tf_cons (s := 1) (f := 9) (by kernel_rfl) (tells_strL (t := 9) (by kernel_rfl)) (tf_cons (s := 1) (f := 3) (by kernel_rfl) (tells_i64 (t := 3) (by kernel_rfl)) (tf_cons (s := 1) (f := 47) (by kernel_rfl) (tells_sliceL (t := 47) (e := 161) (sz := 3) (B := 32) (by kernel_rfl) (by kernel_rfl) (by kernel_rfl) T_api_Use.tells) (tf_cons (s := 1) (f := 48) (by kernel_rfl) (tells_sliceL (t := 48) (e := 63) (sz := 3) (B := 64) (by kernel_rfl) (by kernel_rfl) (by kernel_rfl) T_api_Data.tells) (tf_cons (s := 1) (f := 49) (by kernel_rfl) (tells_sliceL (t := 49) (e := 92) (sz := 2) (B := 40) (by kernel_rfl) (by kernel_rfl) (by kernel_rfl) T_api_Trait.tells) (tf_cons (s := 1) (f := 50) (by kernel_rfl) (tells_sliceL (t := 50) (e := 95) (sz := 3) (B := 56) (by kernel_rfl) (by kernel_rfl) (by kernel_rfl) T_api_Impl.tells) (tf_cons (s := 1) (f := 51) (by kernel_rfl) (tells_sliceL (t := 51) (e := 101) (sz := 15) (B := 272) (by kernel_rfl) (by kernel_rfl) (by kernel_rfl) T_api_Func.tells) (tf_cons (s := 1) (f := 52) (by kernel_rfl) (tells_sliceL (t := 52) (e := 97) (sz := 14) (B := 248) (by kernel_rfl) (by kernel_rfl) (by kernel_rfl) T_api_Actor.tells) tf_nil))))))))) (by
  rintro ⟨x0, x1, x2, x3, x4, x5, x6, x7, ⟨⟩⟩ cs e q
  obtain ⟨c0, r0, rfl, e0, c1, r1, rfl, e1, c2, r2, rfl, e2, c3, r3, rfl, e3, c4, r4, rfl, e4, c5, r5, rfl, e5, c6, r6, rfl, e6, c7, r7, rfl, e7, eN⟩ := e
  obtain rfl : c0 = [.string x0] := e0
  obtain rfl : c1 = [.int .i64 x1] := e1
  obtain ⟨A2, k2, rfl, l2, R2⟩ := e2
  obtain ⟨A3, k3, rfl, l3, R3⟩ := e3
  obtain ⟨A4, k4, rfl, l4, R4⟩ := e4
  obtain ⟨A5, k5, rfl, l5, R5⟩ := e5
  obtain ⟨A6, k6, rfl, l6, R6⟩ := e6
  obtain ⟨A7, k7, rfl, l7, R7⟩ := e7
  obtain rfl : r7 = [] := eN
  exact ⟨⟨x0, x1, x2, x3, x4, x5, x6, x7⟩, ⟨_, _, _, _, _, _, _, _, _, _, _, _, rfl, l2, R2, l3, R3, l4, R4, l5, R5, l6, R6, l7, R7⟩, q.1, q.2.1, q.2.2.1, q.2.2.2.1, q.2.2.2.2.1, q.2.2.2.2.2.1, q.2.2.2.2.2.2.1, q.2.2.2.2.2.2.2.1⟩)
def T_api_Program.bulk (x : T_api_Program) : Nat := ((x.Name.size + 1) + (1 + (((List.map T_api_Use.bulk x.Uses).sum + 1) + (((List.map T_api_Data.bulk x.Datas).sum + 1) + (((List.map T_api_Trait.bulk x.Traits).sum + 1) + (((List.map T_api_Impl.bulk x.Impls).sum + 1) + (((List.map T_api_Func.bulk x.Funcs).sum + 1) + (((List.map T_api_Actor.bulk x.Actors).sum + 1) + (0))))))))) + 1
theorem T_api_Program.kt {H : Type} {bk : DataW H → Nat} {enc : TypeId × Value → H} {W : World} {N : Nat} (M : Measure bk) : KT N bk enc Tryd.prog W 54 T_api_Program.E T_api_Program.bulk := kt_down (kt_map (kt_struct M (t := 54) (fs := [(9, 0), (3, 1), (47, 2), (48, 3), (49, 4), (50, 5), (51, 6), (52, 7)]) (T := 8) (by kernel_rfl) (by kernel_rfl) (ktf_cons (s := 1) (f := 9) (by kernel_rfl) tell_str (kt_str (t := 9) M (by kernel_rfl)) (ktf_cons (s := 1) (f := 3) (by kernel_rfl) (tell_int .i64) (kt_one M) (ktf_cons (s := 1) (f := 47) (by kernel_rfl) (tell_row T_api_Use.T) (kt_slice M (t := 47) (e := 161) (sz := 3) (by kernel_rfl) (by kernel_rfl) (T_api_Use.kt M)) (ktf_cons (s := 1) (f := 48) (by kernel_rfl) (tell_row T_api_Data.T) (kt_slice M (t := 48) (e := 63) (sz := 3) (by kernel_rfl) (by kernel_rfl) (T_api_Data.kt M)) (ktf_cons (s := 1) (f := 49) (by kernel_rfl) (tell_row T_api_Trait.T) (kt_slice M (t := 49) (e := 92) (sz := 2) (by kernel_rfl) (by kernel_rfl) (T_api_Trait.kt M)) (ktf_cons (s := 1) (f := 50) (by kernel_rfl) (tell_row T_api_Impl.T) (kt_slice M (t := 50) (e := 95) (sz := 3) (by kernel_rfl) (by kernel_rfl) (T_api_Impl.kt M)) (ktf_cons (s := 1) (f := 51) (by kernel_rfl) (tell_row T_api_Func.T) (kt_slice M (t := 51) (e := 101) (sz := 15) (by kernel_rfl) (by kernel_rfl) (T_api_Func.kt M)) (ktf_cons (s := 1) (f := 52) (by kernel_rfl) (tell_row T_api_Actor.T) (kt_slice M (t := 52) (e := 97) (sz := 14) (by kernel_rfl) (by kernel_rfl) (T_api_Actor.kt M)) ktf_nil))))))))) (fun x cs e => by
  obtain ⟨A2, c2, A3, c3, A4, c4, A5, c5, A6, c6, A7, c7, rfl, k2, r2, k3, r3, k4, r4, k5, r5, k6, r6, k7, r7⟩ := e
  exact ⟨(x.Name, x.Version, x.Uses, x.Datas, x.Traits, x.Impls, x.Funcs, x.Actors, ()), ⟨[.string x.Name], _, rfl, rfl, ⟨[.int .i64 x.Version], _, rfl, rfl, ⟨[.slice A2 x.Uses.length c2], _, rfl, ⟨_, _, rfl, k2, r2⟩, ⟨[.slice A3 x.Datas.length c3], _, rfl, ⟨_, _, rfl, k3, r3⟩, ⟨[.slice A4 x.Traits.length c4], _, rfl, ⟨_, _, rfl, k4, r4⟩, ⟨[.slice A5 x.Impls.length c5], _, rfl, ⟨_, _, rfl, k5, r5⟩, ⟨[.slice A6 x.Funcs.length c6], _, rfl, ⟨_, _, rfl, k6, r6⟩, ⟨[.slice A7 x.Actors.length c7], _, rfl, ⟨_, _, rfl, k7, r7⟩, rfl⟩⟩⟩⟩⟩⟩⟩⟩, Nat.le_refl _⟩))
structure T_roadref2_Wrong where
  E_ : Int
  At : Int
def T_roadref2_Wrong.E (h : Heap) (x : T_roadref2_Wrong) (cs : List Value) : Prop := cs = [.int .i64 x.E_, .int .i64 x.At]
theorem T_roadref2_Wrong.T : Tell 2 T_roadref2_Wrong.E := ⟨by rintro m h x _ s rfl; exact rfl, by rintro h x _ rfl; rfl, by rintro h x _ rfl; exact Flats.cons trivial (Flats.cons trivial Flats.nil)⟩
theorem T_roadref2_Wrong.keep {m h : Heap} {x : T_roadref2_Wrong} {cs : List Value} (e : T_roadref2_Wrong.E m x cs) : T_roadref2_Wrong.E h x cs := e
theorem T_api_Type.g0 {m : Heap} {x : T_api_Type} {cs : List Value} (e : T_api_Type.E m x cs) : cs[0]? = some (Value.int .i64 x.Kind) := by
  obtain ⟨A2, c2, rfl, k2, r2⟩ := T_api_Type.iff.1 e
  exact rfl
theorem T_api_Type.g2 {m : Heap} {x : T_api_Type} {cs : List Value} (e : T_api_Type.E m x cs) : ∃ A c, cs[2]? = some (.slice A (List.length x.Args) c) ∧ List.length x.Args ≤ c ∧ Rd 3 T_api_Type.E m A x.Args := by
  obtain ⟨A2, c2, rfl, k2, r2⟩ := T_api_Type.iff.1 e
  exact ⟨_, _, rfl, k2, r2⟩
theorem T_api_Type.g1 {m : Heap} {x : T_api_Type} {cs : List Value} (e : T_api_Type.E m x cs) : cs[1]? = some (Value.string x.Name) := by
  obtain ⟨A2, c2, rfl, k2, r2⟩ := T_api_Type.iff.1 e
  exact rfl
theorem T_api_Program.g5 {m : Heap} {x : T_api_Program} {cs : List Value} (e : T_api_Program.E m x cs) : ∃ A c, cs[5]? = some (.slice A (List.length x.Impls) c) ∧ List.length x.Impls ≤ c ∧ Rd 3 T_api_Impl.E m A x.Impls := by
  obtain ⟨A2, c2, A3, c3, A4, c4, A5, c5, A6, c6, A7, c7, rfl, k2, r2, k3, r3, k4, r4, k5, r5, k6, r6, k7, r7⟩ := e
  exact ⟨_, _, rfl, k5, r5⟩
theorem T_api_Impl.g2 {m : Heap} {x : T_api_Impl} {cs : List Value} (e : T_api_Impl.E m x cs) : ∃ A c, cs[2]? = some (.slice A (List.length x.Funcs) c) ∧ List.length x.Funcs ≤ c ∧ Rd 15 T_api_Func.E m A x.Funcs := by
  obtain ⟨A2, c2, rfl, k2, r2⟩ := e
  exact ⟨_, _, rfl, k2, r2⟩
theorem T_api_Program.g6 {m : Heap} {x : T_api_Program} {cs : List Value} (e : T_api_Program.E m x cs) : ∃ A c, cs[6]? = some (.slice A (List.length x.Funcs) c) ∧ List.length x.Funcs ≤ c ∧ Rd 15 T_api_Func.E m A x.Funcs := by
  obtain ⟨A2, c2, A3, c3, A4, c4, A5, c5, A6, c6, A7, c7, rfl, k2, r2, k3, r3, k4, r4, k5, r5, k6, r6, k7, r7⟩ := e
  exact ⟨_, _, rfl, k6, r6⟩
theorem T_api_Func.u7_87 {m : Heap} {x : T_api_Func} {cs : List Value} (e : T_api_Func.E m x cs) : T_api_Expr.E m x.Body (List.take 8 (List.drop 7 cs)) := by
  obtain ⟨A1, c1, A2, c2, A3, c3, A6, c6, A10, c10, A11, c11, A12, c12, A13, c13, rfl, k1, r1, k2, r2, k3, r3, k6, r6, k10, r10, k11, r11, k12, r12, k13, r13⟩ := e
  exact (T_api_Expr.iff.2 ⟨_, _, _, _, _, _, _, _, rfl, k10, r10, k11, r11, k12, r12, k13, r13⟩)
theorem T_api_Program.g7 {m : Heap} {x : T_api_Program} {cs : List Value} (e : T_api_Program.E m x cs) : ∃ A c, cs[7]? = some (.slice A (List.length x.Actors) c) ∧ List.length x.Actors ≤ c ∧ Rd 14 T_api_Actor.E m A x.Actors := by
  obtain ⟨A2, c2, A3, c3, A4, c4, A5, c5, A6, c6, A7, c7, rfl, k2, r2, k3, r3, k4, r4, k5, r5, k6, r6, k7, r7⟩ := e
  exact ⟨_, _, rfl, k7, r7⟩
theorem T_api_Actor.u6_87 {m : Heap} {x : T_api_Actor} {cs : List Value} (e : T_api_Actor.E m x cs) : T_api_Expr.E m x.Body (List.take 8 (List.drop 6 cs)) := by
  obtain ⟨A1, c1, A2, c2, A5, c5, A9, c9, A10, c10, A11, c11, A12, c12, rfl, k1, r1, k2, r2, k5, r5, k9, r9, k10, r10, k11, r11, k12, r12⟩ := e
  exact (T_api_Expr.iff.2 ⟨_, _, _, _, _, _, _, _, rfl, k9, r9, k10, r10, k11, r11, k12, r12⟩)
theorem T_api_Expr.g6 {m : Heap} {x : T_api_Expr} {cs : List Value} (e : T_api_Expr.E m x cs) : ∃ A c, cs[6]? = some (.slice A (List.length x.Arms) c) ∧ List.length x.Arms ≤ c ∧ Rd 12 T_api_Arm.E m A x.Arms := by
  obtain ⟨A3, c3, A4, c4, A5, c5, A6, c6, rfl, k3, r3, k4, r4, k5, r5, k6, r6⟩ := T_api_Expr.iff.1 e
  exact ⟨_, _, rfl, k6, r6⟩
theorem T_api_Arm.u4_87 {m : Heap} {x : T_api_Arm} {cs : List Value} (e : T_api_Arm.E m x cs) : T_api_Expr.E m x.Body (List.take 8 (List.drop 4 cs)) := by
  obtain ⟨A3, c3, A7, c7, A8, c8, A9, c9, A10, c10, rfl, k3, r3, k7, r7, k8, r8, k9, r9, k10, r10⟩ := T_api_Arm.iff.1 e
  exact (T_api_Expr.iff.2 ⟨_, _, _, _, _, _, _, _, rfl, k7, r7, k8, r8, k9, r9, k10, r10⟩)
theorem T_api_Expr.g5 {m : Heap} {x : T_api_Expr} {cs : List Value} (e : T_api_Expr.E m x cs) : ∃ A c, cs[5]? = some (.slice A (List.length x.Args) c) ∧ List.length x.Args ≤ c ∧ Rd 8 T_api_Expr.E m A x.Args := by
  obtain ⟨A3, c3, A4, c4, A5, c5, A6, c6, rfl, k3, r3, k4, r4, k5, r5, k6, r6⟩ := T_api_Expr.iff.1 e
  exact ⟨_, _, rfl, k5, r5⟩
theorem T_api_Pat.g3 {m : Heap} {x : T_api_Pat} {cs : List Value} (e : T_api_Pat.E m x cs) : ∃ A c, cs[3]? = some (.slice A (List.length x.Args) c) ∧ List.length x.Args ≤ c ∧ Rd 4 T_api_Pat.E m A x.Args := by
  obtain ⟨A3, c3, rfl, k3, r3⟩ := T_api_Pat.iff.1 e
  exact ⟨_, _, rfl, k3, r3⟩
theorem T_api_Arm.u0_117 {m : Heap} {x : T_api_Arm} {cs : List Value} (e : T_api_Arm.E m x cs) : T_api_Pat.E m x.Pat (List.take 4 (List.drop 0 cs)) := by
  obtain ⟨A3, c3, A7, c7, A8, c8, A9, c9, A10, c10, rfl, k3, r3, k7, r7, k8, r8, k9, r9, k10, r10⟩ := T_api_Arm.iff.1 e
  exact (T_api_Pat.iff.2 ⟨_, _, rfl, k3, r3⟩)
theorem T_api_Program.g3 {m : Heap} {x : T_api_Program} {cs : List Value} (e : T_api_Program.E m x cs) : ∃ A c, cs[3]? = some (.slice A (List.length x.Datas) c) ∧ List.length x.Datas ≤ c ∧ Rd 3 T_api_Data.E m A x.Datas := by
  obtain ⟨A2, c2, A3, c3, A4, c4, A5, c5, A6, c6, A7, c7, rfl, k2, r2, k3, r3, k4, r4, k5, r5, k6, r6, k7, r7⟩ := e
  exact ⟨_, _, rfl, k3, r3⟩
theorem T_api_Data.g0 {m : Heap} {x : T_api_Data} {cs : List Value} (e : T_api_Data.E m x cs) : cs[0]? = some (Value.string x.Name) := by
  obtain ⟨A1, c1, A2, c2, rfl, k1, r1, k2, r2⟩ := e
  exact rfl
theorem T_api_Data.g1 {m : Heap} {x : T_api_Data} {cs : List Value} (e : T_api_Data.E m x cs) : ∃ A c, cs[1]? = some (.slice A (List.length x.Params) c) ∧ List.length x.Params ≤ c ∧ Rd 1 eStr m A x.Params := by
  obtain ⟨A1, c1, A2, c2, rfl, k1, r1, k2, r2⟩ := e
  exact ⟨_, _, rfl, k1, r1⟩
theorem T_api_Expr.g4 {m : Heap} {x : T_api_Expr} {cs : List Value} (e : T_api_Expr.E m x cs) : ∃ A c, cs[4]? = some (.slice A (List.length x.Types) c) ∧ List.length x.Types ≤ c ∧ Rd 3 T_api_Type.E m A x.Types := by
  obtain ⟨A3, c3, A4, c4, A5, c5, A6, c6, rfl, k3, r3, k4, r4, k5, r5, k6, r6⟩ := T_api_Expr.iff.1 e
  exact ⟨_, _, rfl, k4, r4⟩
theorem T_api_Expr.g7 {m : Heap} {x : T_api_Expr} {cs : List Value} (e : T_api_Expr.E m x cs) : cs[7]? = some (Value.int .i64 x.At) := by
  obtain ⟨A3, c3, A4, c4, A5, c5, A6, c6, rfl, k3, r3, k4, r4, k5, r5, k6, r6⟩ := T_api_Expr.iff.1 e
  exact rfl
theorem T_api_Func.g1 {m : Heap} {x : T_api_Func} {cs : List Value} (e : T_api_Func.E m x cs) : ∃ A c, cs[1]? = some (.slice A (List.length x.Params) c) ∧ List.length x.Params ≤ c ∧ Rd 1 eStr m A x.Params := by
  obtain ⟨A1, c1, A2, c2, A3, c3, A6, c6, A10, c10, A11, c11, A12, c12, A13, c13, rfl, k1, r1, k2, r2, k3, r3, k6, r6, k10, r10, k11, r11, k12, r12, k13, r13⟩ := e
  exact ⟨_, _, rfl, k1, r1⟩
theorem T_api_Func.g3 {m : Heap} {x : T_api_Func} {cs : List Value} (e : T_api_Func.E m x cs) : ∃ A c, cs[3]? = some (.slice A (List.length x.Types) c) ∧ List.length x.Types ≤ c ∧ Rd 3 T_api_Type.E m A x.Types := by
  obtain ⟨A1, c1, A2, c2, A3, c3, A6, c6, A10, c10, A11, c11, A12, c12, A13, c13, rfl, k1, r1, k2, r2, k3, r3, k6, r6, k10, r10, k11, r11, k12, r12, k13, r13⟩ := e
  exact ⟨_, _, rfl, k3, r3⟩
theorem T_api_Func.u4_25 {m : Heap} {x : T_api_Func} {cs : List Value} (e : T_api_Func.E m x cs) : T_api_Type.E m x.Out (List.take 3 (List.drop 4 cs)) := by
  obtain ⟨A1, c1, A2, c2, A3, c3, A6, c6, A10, c10, A11, c11, A12, c12, A13, c13, rfl, k1, r1, k2, r2, k3, r3, k6, r6, k10, r10, k11, r11, k12, r12, k13, r13⟩ := e
  exact (T_api_Type.iff.2 ⟨_, _, rfl, k6, r6⟩)
theorem T_api_Func.g7 {m : Heap} {x : T_api_Func} {cs : List Value} (e : T_api_Func.E m x cs) : cs[7]? = some (Value.int .i64 x.Body.Kind) := by
  obtain ⟨A1, c1, A2, c2, A3, c3, A6, c6, A10, c10, A11, c11, A12, c12, A13, c13, rfl, k1, r1, k2, r2, k3, r3, k6, r6, k10, r10, k11, r11, k12, r12, k13, r13⟩ := e
  exact rfl
theorem T_api_Data.g2 {m : Heap} {x : T_api_Data} {cs : List Value} (e : T_api_Data.E m x cs) : ∃ A c, cs[2]? = some (.slice A (List.length x.Makes) c) ∧ List.length x.Makes ≤ c ∧ Rd 2 T_api_Make.E m A x.Makes := by
  obtain ⟨A1, c1, A2, c2, rfl, k1, r1, k2, r2⟩ := e
  exact ⟨_, _, rfl, k2, r2⟩
theorem T_api_Program.g4 {m : Heap} {x : T_api_Program} {cs : List Value} (e : T_api_Program.E m x cs) : ∃ A c, cs[4]? = some (.slice A (List.length x.Traits) c) ∧ List.length x.Traits ≤ c ∧ Rd 2 T_api_Trait.E m A x.Traits := by
  obtain ⟨A2, c2, A3, c3, A4, c4, A5, c5, A6, c6, A7, c7, rfl, k2, r2, k3, r3, k4, r4, k5, r5, k6, r6, k7, r7⟩ := e
  exact ⟨_, _, rfl, k4, r4⟩
theorem T_api_Make.g1 {m : Heap} {x : T_api_Make} {cs : List Value} (e : T_api_Make.E m x cs) : ∃ A c, cs[1]? = some (.slice A (List.length x.Args) c) ∧ List.length x.Args ≤ c ∧ Rd 3 T_api_Type.E m A x.Args := by
  obtain ⟨A1, c1, rfl, k1, r1⟩ := e
  exact ⟨_, _, rfl, k1, r1⟩
theorem T_api_Trait.g1 {m : Heap} {x : T_api_Trait} {cs : List Value} (e : T_api_Trait.E m x cs) : ∃ A c, cs[1]? = some (.slice A (List.length x.Funcs) c) ∧ List.length x.Funcs ≤ c ∧ Rd 15 T_api_Func.E m A x.Funcs := by
  obtain ⟨A1, c1, rfl, k1, r1⟩ := e
  exact ⟨_, _, rfl, k1, r1⟩
theorem T_api_Actor.g2 {m : Heap} {x : T_api_Actor} {cs : List Value} (e : T_api_Actor.E m x cs) : ∃ A c, cs[2]? = some (.slice A (List.length x.Types) c) ∧ List.length x.Types ≤ c ∧ Rd 3 T_api_Type.E m A x.Types := by
  obtain ⟨A1, c1, A2, c2, A5, c5, A9, c9, A10, c10, A11, c11, A12, c12, rfl, k1, r1, k2, r2, k5, r5, k9, r9, k10, r10, k11, r11, k12, r12⟩ := e
  exact ⟨_, _, rfl, k2, r2⟩
theorem T_api_Actor.u3_25 {m : Heap} {x : T_api_Actor} {cs : List Value} (e : T_api_Actor.E m x cs) : T_api_Type.E m x.Msg (List.take 3 (List.drop 3 cs)) := by
  obtain ⟨A1, c1, A2, c2, A5, c5, A9, c9, A10, c10, A11, c11, A12, c12, rfl, k1, r1, k2, r2, k5, r5, k9, r9, k10, r10, k11, r11, k12, r12⟩ := e
  exact (T_api_Type.iff.2 ⟨_, _, rfl, k5, r5⟩)
theorem T_roadref2_Wrong.g0 {m : Heap} {x : T_roadref2_Wrong} {cs : List Value} (e : T_roadref2_Wrong.E m x cs) : cs[0]? = some (Value.int .i64 x.E_) := by
  obtain rfl := e
  exact rfl
theorem T_roadref2_Wrong.g1 {m : Heap} {x : T_roadref2_Wrong} {cs : List Value} (e : T_roadref2_Wrong.E m x cs) : cs[1]? = some (Value.int .i64 x.At) := by
  obtain rfl := e
  exact rfl
def strconv_Itoa.post (W : Nat → Prop) (h0 m0 : Heap) (r : ByteArray) (v : Value) (h : Heap) : Prop := ∃ m , Hold W h0 m0 h m [] ∧ v = .string r
noncomputable def strconv_Itoa (x0 : Int) : Option ByteArray := if -9223372036854775808 ≤ x0 ∧ x0 ≤ 9223372036854775807 then some (itoaB x0) else none
set_option maxRecDepth 100000 in
theorem strconv_Itoa.walk {W : Nat → Prop} {h m : Heap} {x0 : Int} (O : Hold W h m h m []) (tab : TB m) {r : ByteArray} (e : strconv_Itoa x0 = some r) : Run Tryd.prog 16 #[Value.int .i64 x0] h (strconv_Itoa.post W h m r) := by
  unfold strconv_Itoa at e
  exact (itoa_run (by kernel_rfl) Tryd.strconv_Itoa O tab e).mono fun v h' hp => hp
def roadref2_nums.post (W : Nat → Prop) (h0 m0 : Heap) (r : ByteArray) (v : Value) (h : Heap) : Prop := ∃ m , Hold W h0 m0 h m [] ∧ v = .string r
inductive roadref2_nums.l0_k.Pt where
  | l0 (s_3 : ByteArray) (a_6 : List Int) (x_7 : Int) (x_8 : Int)
noncomputable def roadref2_nums.l0_k.body (go : (p : roadref2_nums.l0_k.Pt) → Option (ByteArray)) : (p : roadref2_nums.l0_k.Pt) → Option (ByteArray)
  | .l0 s_3 a_6 x_7 x_8 => if x_8 < x_7 then (Option.bind (gi a_6 x_8) fun y1 => Option.bind (strconv_Itoa y1) fun y8 => if ByteArray.size y8 + ByteArray.size (ByteArray.mk #[44]) ≤ 9223372036854775807 then (if ByteArray.size s_3 + ByteArray.size (y8 ++ (ByteArray.mk #[44])) ≤ 9223372036854775807 then ((go (.l0 (s_3 ++ (y8 ++ (ByteArray.mk #[44]))) a_6 x_7 (IntKind.wrap .i64 (x_8 + (1 : Int)))))) else none) else none) else (some (s_3))
theorem roadref2_nums.l0_k.mono : MonoF (β := fun _ => (ByteArray)) roadref2_nums.l0_k.body := fun f g hfg p => match p with
  | .l0 s_3 a_6 x_7 x_8 => LeO.ite (LeO.bind (LeO.refl _) fun y1 => LeO.bind (LeO.refl _) fun y8 => LeO.ite (LeO.ite ((hfg _)) (LeO.refl _)) (LeO.refl _)) (LeO.refl _)
noncomputable def roadref2_nums.l0_k.go (p : roadref2_nums.l0_k.Pt) : Option (ByteArray) := fixF (β := fun _ => (ByteArray)) roadref2_nums.l0_k.body p
noncomputable def roadref2_nums.l0 (s_3 : ByteArray) (a_6 : List Int) (x_7 : Int) (x_8 : Int) : Option (ByteArray) := roadref2_nums.l0_k.go (.l0 s_3 a_6 x_7 x_8)
theorem roadref2_nums.l0_eq (s_3 : ByteArray) (a_6 : List Int) (x_7 : Int) (x_8 : Int) : roadref2_nums.l0 s_3 a_6 x_7 x_8 = if x_8 < x_7 then (Option.bind (gi a_6 x_8) fun y1 => Option.bind (strconv_Itoa y1) fun y8 => if ByteArray.size y8 + ByteArray.size (ByteArray.mk #[44]) ≤ 9223372036854775807 then (if ByteArray.size s_3 + ByteArray.size (y8 ++ (ByteArray.mk #[44])) ≤ 9223372036854775807 then ((roadref2_nums.l0 (s_3 ++ (y8 ++ (ByteArray.mk #[44]))) a_6 x_7 (IntKind.wrap .i64 (x_8 + (1 : Int))))) else none) else none) else (some (s_3)) := fixF_eq roadref2_nums.l0_k.mono _
def roadref2_nums.l0_k.I : (p : roadref2_nums.l0_k.Pt) → (ByteArray) → Prop
  | .l0 s_3 a_6 x_7 x_8, r => ∀ (W : Nat → Prop) (h0 m0 h m : Heap) (A_6 : Option Addr) (n_6 c_6 : Nat) (O : Hold W h0 m0 h m []) (ne_6 : n_6 = List.length a_6) (k_6 : List.length a_6 ≤ c_6) (r_6 : Rd 1 (eInt .i64) m A_6 a_6) (tab : TB m), f35.l0 (roadref2_nums.post W h0 m0 r) s_3 A_6 n_6 c_6 x_7 x_8 h
set_option maxRecDepth 100000 in
theorem roadref2_nums.l0_k.step_l0 (go : (p : roadref2_nums.l0_k.Pt) → Option (ByteArray)) (ih : ∀ p r, go p = some r → roadref2_nums.l0_k.I p r) (s_3 : ByteArray) (a_6 : List Int) (x_7 : Int) (x_8 : Int) (r : ByteArray) (e : roadref2_nums.l0_k.body go (.l0 s_3 a_6 x_7 x_8) = some r) : roadref2_nums.l0_k.I (.l0 s_3 a_6 x_7 x_8) r := by
  unfold roadref2_nums.l0_k.body at e
  intro W h0 m0 h m A_6 n_6 c_6 O ne_6 k_6 r_6 tab
  subst ne_6
  refine f35.l0_in ?_
  unfold f35.l0T
  refine split_dec_e e (fun c17 e => ?_) (fun c17 e => ?_)
  · obtain ⟨y1, g2, e⟩ := bind_e e
    refine r_6.addr rfl g2 fun a3 cs4 ha5 hc6 he7 => ?_
    obtain rfl : cs4 = [(Value.int .i64 y1)] := he7
    refine ⟨_, ld0 O.s hc6 rfl, _, rfl, ?_⟩
    obtain ⟨y8, g9, e⟩ := bind_e e
    refine (strconv_Itoa.walk (Hold.start (W := No) O.s) tab g9).mono ?_
    rintro _ h10 ⟨m11, Q12, rfl⟩
    have O14 := Hold.nm (O.retC Q12 vfs_nil)
    refine ⟨_, rfl, ?_⟩
    obtain ⟨g15, e⟩ := guard_e e
    refine ⟨g15, ?_⟩
    obtain ⟨g16, e⟩ := guard_e e
    refine ⟨g16, ?_⟩
    exact (ih _ _ e) _ _ _ _ _ _ _ _ (O14.pick []).nm rfl k_6 r_6 tab
  · cases e
    exact ⟨_, O.pick [], rfl⟩
theorem roadref2_nums.l0_k.all {p : roadref2_nums.l0_k.Pt} {r : (ByteArray)} (e : roadref2_nums.l0_k.go p = some r) : roadref2_nums.l0_k.I p r := fixF_ind (β := fun _ => (ByteArray)) roadref2_nums.l0_k.mono (I := roadref2_nums.l0_k.I) (fun go ih p r e => match p with
  | .l0 s_3 a_6 x_7 x_8 => roadref2_nums.l0_k.step_l0 go ih s_3 a_6 x_7 x_8 r e
  ) e
theorem roadref2_nums.l0.walk {W : Nat → Prop} {h0 m0 h m : Heap} {A_6 : Option Addr} {n_6 c_6 : Nat} {s_3 : ByteArray} {a_6 : List Int} {x_7 : Int} {x_8 : Int} (O : Hold W h0 m0 h m []) (ne_6 : n_6 = List.length a_6) (k_6 : List.length a_6 ≤ c_6) (r_6 : Rd 1 (eInt .i64) m A_6 a_6) (tab : TB m) {r : ByteArray} (e : roadref2_nums.l0 s_3 a_6 x_7 x_8 = some r) : f35.l0 (roadref2_nums.post W h0 m0 r) s_3 A_6 n_6 c_6 x_7 x_8 h := roadref2_nums.l0_k.all (p := .l0 s_3 a_6 x_7 x_8) e W h0 m0 h m A_6 n_6 c_6 O ne_6 k_6 r_6 tab
noncomputable def roadref2_nums (a_0 : List Int) : Option (ByteArray) :=
  (roadref2_nums.l0 (ByteArray.mk #[]) a_0 (((List.length a_0) : Nat) : Int) (0 : Int))
set_option maxRecDepth 100000 in
theorem roadref2_nums.walk {W : Nat → Prop} {h m : Heap} {A_0 : Option Addr} {n_0 c_0 : Nat} {a_0 : List Int} (O : Hold W h m h m []) (ne_0 : n_0 = List.length a_0) (k_0 : List.length a_0 ≤ c_0) (r_0 : Rd 1 (eInt .i64) m A_0 a_0) (tab : TB m) {r : ByteArray} (e : roadref2_nums a_0 = some r) : Run Tryd.prog 35 #[Value.slice A_0 n_0 c_0] h (roadref2_nums.post W h m r) := by
  unfold roadref2_nums at e
  subst ne_0
  refine f35.run ?_
  unfold f35.runT
  exact roadref2_nums.l0.walk (O.pick []).nm rfl k_0 r_0 tab e
def roadref2_texts.post (W : Nat → Prop) (h0 m0 : Heap) (r : ByteArray) (v : Value) (h : Heap) : Prop := ∃ m , Hold W h0 m0 h m [] ∧ v = .string r
inductive roadref2_texts.l0_k.Pt where
  | l0 (s_3 : ByteArray) (a_6 : List ByteArray) (x_7 : Int) (x_8 : Int)
noncomputable def roadref2_texts.l0_k.body (go : (p : roadref2_texts.l0_k.Pt) → Option (ByteArray)) : (p : roadref2_texts.l0_k.Pt) → Option (ByteArray)
  | .l0 s_3 a_6 x_7 x_8 => if x_8 < x_7 then (Option.bind (gi a_6 x_8) fun y1 => Option.bind (roadref2_nums ([((ByteArray.size y1 : Nat) : Int)] : List Int)) fun y13 => if ByteArray.size y13 + ByteArray.size y1 ≤ 9223372036854775807 then (if ByteArray.size s_3 + ByteArray.size (y13 ++ y1) ≤ 9223372036854775807 then ((go (.l0 (s_3 ++ (y13 ++ y1)) a_6 x_7 (IntKind.wrap .i64 (x_8 + (1 : Int)))))) else none) else none) else (some (s_3))
theorem roadref2_texts.l0_k.mono : MonoF (β := fun _ => (ByteArray)) roadref2_texts.l0_k.body := fun f g hfg p => match p with
  | .l0 s_3 a_6 x_7 x_8 => LeO.ite (LeO.bind (LeO.refl _) fun y1 => LeO.bind (LeO.refl _) fun y13 => LeO.ite (LeO.ite ((hfg _)) (LeO.refl _)) (LeO.refl _)) (LeO.refl _)
noncomputable def roadref2_texts.l0_k.go (p : roadref2_texts.l0_k.Pt) : Option (ByteArray) := fixF (β := fun _ => (ByteArray)) roadref2_texts.l0_k.body p
noncomputable def roadref2_texts.l0 (s_3 : ByteArray) (a_6 : List ByteArray) (x_7 : Int) (x_8 : Int) : Option (ByteArray) := roadref2_texts.l0_k.go (.l0 s_3 a_6 x_7 x_8)
theorem roadref2_texts.l0_eq (s_3 : ByteArray) (a_6 : List ByteArray) (x_7 : Int) (x_8 : Int) : roadref2_texts.l0 s_3 a_6 x_7 x_8 = if x_8 < x_7 then (Option.bind (gi a_6 x_8) fun y1 => Option.bind (roadref2_nums ([((ByteArray.size y1 : Nat) : Int)] : List Int)) fun y13 => if ByteArray.size y13 + ByteArray.size y1 ≤ 9223372036854775807 then (if ByteArray.size s_3 + ByteArray.size (y13 ++ y1) ≤ 9223372036854775807 then ((roadref2_texts.l0 (s_3 ++ (y13 ++ y1)) a_6 x_7 (IntKind.wrap .i64 (x_8 + (1 : Int))))) else none) else none) else (some (s_3)) := fixF_eq roadref2_texts.l0_k.mono _
def roadref2_texts.l0_k.I : (p : roadref2_texts.l0_k.Pt) → (ByteArray) → Prop
  | .l0 s_3 a_6 x_7 x_8, r => ∀ (W : Nat → Prop) (h0 m0 h m : Heap) (A_6 : Option Addr) (n_6 c_6 : Nat) (O : Hold W h0 m0 h m []) (ne_6 : n_6 = List.length a_6) (k_6 : List.length a_6 ≤ c_6) (r_6 : Rd 1 eStr m A_6 a_6) (tab : TB m), f36.l0 (roadref2_texts.post W h0 m0 r) s_3 A_6 n_6 c_6 x_7 x_8 h
set_option maxRecDepth 100000 in
theorem roadref2_texts.l0_k.step_l0 (go : (p : roadref2_texts.l0_k.Pt) → Option (ByteArray)) (ih : ∀ p r, go p = some r → roadref2_texts.l0_k.I p r) (s_3 : ByteArray) (a_6 : List ByteArray) (x_7 : Int) (x_8 : Int) (r : ByteArray) (e : roadref2_texts.l0_k.body go (.l0 s_3 a_6 x_7 x_8) = some r) : roadref2_texts.l0_k.I (.l0 s_3 a_6 x_7 x_8) r := by
  unfold roadref2_texts.l0_k.body at e
  intro W h0 m0 h m A_6 n_6 c_6 O ne_6 k_6 r_6 tab
  subst ne_6
  refine f36.l0_in ?_
  unfold f36.l0T
  refine split_dec_e e (fun c30 e => ?_) (fun c30 e => ?_)
  · obtain ⟨y1, g2, e⟩ := bind_e e
    refine r_6.addr rfl g2 fun a3 cs4 ha5 hc6 he7 => ?_
    obtain rfl : cs4 = [(Value.string y1)] := he7
    refine ⟨_, ld0 O.s hc6 rfl, _, rfl, ?_⟩
    refine O.new fun h8 x9 O10 => ?_
    obtain ⟨y13, g14, e⟩ := bind_e e
    have O12 := O10.rowE (l := ([((ByteArray.size y1 : Nat) : Int)] : List Int)) 0 rfl (tell_int .i64) (show CsE _ _ _ _ _ from (CsE.cons (c1 := [(Value.int .i64 ((ByteArray.size y1 : Nat) : Int))]) rfl rfl CsE.nil)) rfl
    have O19 := O12.nm
    obtain ⟨m20, u21, s26, ⟨⟨r24, k25⟩, _⟩, B22, C23⟩ := O19.lend0 [0]
    replace r24 : Rd 1 (eInt .i64) m20 (some ⟨(Array.size h), 0, none⟩) ([((ByteArray.size y1 : Nat) : Int)] : List Int) := r24
    replace k25 : List.length ([((ByteArray.size y1 : Nat) : Int)] : List Int) ≤ 1 := k25
    refine (roadref2_nums.walk (Hold.start (W := No) s26) rfl k25 r24 (TBg.sub tab u21) g14).mono ?_
    rintro _ h15 ⟨m16, Q17, rfl⟩
    have O27 := Hold.nm (C23 Q17 vfs_nil)
    refine ⟨_, rfl, ?_⟩
    obtain ⟨g28, e⟩ := guard_e e
    refine ⟨g28, ?_⟩
    obtain ⟨g29, e⟩ := guard_e e
    refine ⟨g29, ?_⟩
    exact (ih _ _ e) _ _ _ _ _ _ _ _ (O27.pick []).nm rfl k_6 r_6 tab
  · cases e
    exact ⟨_, O.pick [], rfl⟩
theorem roadref2_texts.l0_k.all {p : roadref2_texts.l0_k.Pt} {r : (ByteArray)} (e : roadref2_texts.l0_k.go p = some r) : roadref2_texts.l0_k.I p r := fixF_ind (β := fun _ => (ByteArray)) roadref2_texts.l0_k.mono (I := roadref2_texts.l0_k.I) (fun go ih p r e => match p with
  | .l0 s_3 a_6 x_7 x_8 => roadref2_texts.l0_k.step_l0 go ih s_3 a_6 x_7 x_8 r e
  ) e
theorem roadref2_texts.l0.walk {W : Nat → Prop} {h0 m0 h m : Heap} {A_6 : Option Addr} {n_6 c_6 : Nat} {s_3 : ByteArray} {a_6 : List ByteArray} {x_7 : Int} {x_8 : Int} (O : Hold W h0 m0 h m []) (ne_6 : n_6 = List.length a_6) (k_6 : List.length a_6 ≤ c_6) (r_6 : Rd 1 eStr m A_6 a_6) (tab : TB m) {r : ByteArray} (e : roadref2_texts.l0 s_3 a_6 x_7 x_8 = some r) : f36.l0 (roadref2_texts.post W h0 m0 r) s_3 A_6 n_6 c_6 x_7 x_8 h := roadref2_texts.l0_k.all (p := .l0 s_3 a_6 x_7 x_8) e W h0 m0 h m A_6 n_6 c_6 O ne_6 k_6 r_6 tab
noncomputable def roadref2_texts (a_0 : List ByteArray) : Option (ByteArray) :=
  (roadref2_texts.l0 (ByteArray.mk #[]) a_0 (((List.length a_0) : Nat) : Int) (0 : Int))
set_option maxRecDepth 100000 in
theorem roadref2_texts.walk {W : Nat → Prop} {h m : Heap} {A_0 : Option Addr} {n_0 c_0 : Nat} {a_0 : List ByteArray} (O : Hold W h m h m []) (ne_0 : n_0 = List.length a_0) (k_0 : List.length a_0 ≤ c_0) (r_0 : Rd 1 eStr m A_0 a_0) (tab : TB m) {r : ByteArray} (e : roadref2_texts a_0 = some r) : Run Tryd.prog 36 #[Value.slice A_0 n_0 c_0] h (roadref2_texts.post W h m r) := by
  unfold roadref2_texts at e
  subst ne_0
  refine f36.run ?_
  unfold f36.runT
  exact roadref2_texts.l0.walk (O.pick []).nm rfl k_0 r_0 tab e
def roadref2_TypeMark.post (W : Nat → Prop) (h0 m0 : Heap) (r : ByteArray) (v : Value) (h : Heap) : Prop := ∃ m , Hold W h0 m0 h m [] ∧ v = .string r
inductive roadref2_TypeMark_k.Pt where
  | f (y_0 : T_api_Type)
  | j0 (y_1 : T_api_Type) (s_3 : ByteArray)
  | l0 (s_3 : ByteArray) (a_19 : List T_api_Type) (x_20 : Int) (x_21 : Int)
noncomputable def roadref2_TypeMark_k.body (go : (p : roadref2_TypeMark_k.Pt) → Option (ByteArray)) : (p : roadref2_TypeMark_k.Pt) → Option (ByteArray)
  | .f y_0 => Option.bind (roadref2_nums ([y_0.Kind, (((List.length y_0.Args) : Nat) : Int)] : List Int)) fun y15 => Option.bind (roadref2_texts ([y_0.Name] : List ByteArray)) fun y35 => if ByteArray.size y15 + ByteArray.size y35 ≤ 9223372036854775807 then ((go (.j0 y_0 (y15 ++ y35)))) else none
  | .j0 y_1 s_3 => (go (.l0 s_3 y_1.Args (((List.length y_1.Args) : Nat) : Int) (0 : Int)))
  | .l0 s_3 a_19 x_20 x_21 => if x_21 < x_20 then (Option.bind (gi a_19 x_21) fun y1 => Option.bind ((go (.f y1))) fun y14 => if ByteArray.size s_3 + ByteArray.size y14 ≤ 9223372036854775807 then ((go (.l0 (s_3 ++ y14) a_19 x_20 (IntKind.wrap .i64 (x_21 + (1 : Int)))))) else none) else (some (s_3))
theorem roadref2_TypeMark_k.mono : MonoF (β := fun _ => (ByteArray)) roadref2_TypeMark_k.body := fun f g hfg p => match p with
  | .f y_0 => LeO.bind (LeO.refl _) fun y15 => LeO.bind (LeO.refl _) fun y35 => LeO.ite ((hfg _)) (LeO.refl _)
  | .j0 y_1 s_3 => (hfg _)
  | .l0 s_3 a_19 x_20 x_21 => LeO.ite (LeO.bind (LeO.refl _) fun y1 => LeO.bind ((hfg _)) fun y14 => LeO.ite ((hfg _)) (LeO.refl _)) (LeO.refl _)
noncomputable def roadref2_TypeMark_k.go (p : roadref2_TypeMark_k.Pt) : Option (ByteArray) := fixF (β := fun _ => (ByteArray)) roadref2_TypeMark_k.body p
noncomputable def roadref2_TypeMark (y_0 : T_api_Type) : Option (ByteArray) := roadref2_TypeMark_k.go (.f y_0)
noncomputable def roadref2_TypeMark.j0 (y_1 : T_api_Type) (s_3 : ByteArray) : Option (ByteArray) := roadref2_TypeMark_k.go (.j0 y_1 s_3)
noncomputable def roadref2_TypeMark.l0 (s_3 : ByteArray) (a_19 : List T_api_Type) (x_20 : Int) (x_21 : Int) : Option (ByteArray) := roadref2_TypeMark_k.go (.l0 s_3 a_19 x_20 x_21)
theorem roadref2_TypeMark_eq (y_0 : T_api_Type) : roadref2_TypeMark y_0 = Option.bind (roadref2_nums ([y_0.Kind, (((List.length y_0.Args) : Nat) : Int)] : List Int)) fun y15 => Option.bind (roadref2_texts ([y_0.Name] : List ByteArray)) fun y35 => if ByteArray.size y15 + ByteArray.size y35 ≤ 9223372036854775807 then ((roadref2_TypeMark.j0 y_0 (y15 ++ y35))) else none := fixF_eq roadref2_TypeMark_k.mono _
theorem roadref2_TypeMark.j0_eq (y_1 : T_api_Type) (s_3 : ByteArray) : roadref2_TypeMark.j0 y_1 s_3 = (roadref2_TypeMark.l0 s_3 y_1.Args (((List.length y_1.Args) : Nat) : Int) (0 : Int)) := fixF_eq roadref2_TypeMark_k.mono _
theorem roadref2_TypeMark.l0_eq (s_3 : ByteArray) (a_19 : List T_api_Type) (x_20 : Int) (x_21 : Int) : roadref2_TypeMark.l0 s_3 a_19 x_20 x_21 = if x_21 < x_20 then (Option.bind (gi a_19 x_21) fun y1 => Option.bind ((roadref2_TypeMark y1)) fun y14 => if ByteArray.size s_3 + ByteArray.size y14 ≤ 9223372036854775807 then ((roadref2_TypeMark.l0 (s_3 ++ y14) a_19 x_20 (IntKind.wrap .i64 (x_21 + (1 : Int))))) else none) else (some (s_3)) := fixF_eq roadref2_TypeMark_k.mono _
def roadref2_TypeMark_k.I : (p : roadref2_TypeMark_k.Pt) → (ByteArray) → Prop
  | .f y_0, r => ∀ (W : Nat → Prop) (h m : Heap) (cs_0 : List Value) (O : Hold W h m h m []) (e_0 : T_api_Type.E m y_0 cs_0) (tab : TB m), Run Tryd.prog 10 #[Value.agg cs_0.toArray] h (roadref2_TypeMark.post W h m r)
  | .j0 y_1 s_3, r => ∀ (W : Nat → Prop) (h0 m0 h m : Heap) (bk_1 : Nat) (cs_1 : List Value) (O : Hold W h0 m0 h m [rV bk_1 25 cs_1]) (e_1 : T_api_Type.E m y_1 cs_1) (tab : TB m), f10.j0 (roadref2_TypeMark.post W h0 m0 r) (⟨bk_1, 0, none⟩ : Addr) s_3 h
  | .l0 s_3 a_19 x_20 x_21, r => ∀ (W : Nat → Prop) (h0 m0 h m : Heap) (A_19 : Option Addr) (n_19 c_19 : Nat) (O : Hold W h0 m0 h m []) (ne_19 : n_19 = List.length a_19) (k_19 : List.length a_19 ≤ c_19) (r_19 : Rd 3 T_api_Type.E m A_19 a_19) (tab : TB m), f10.l0 (roadref2_TypeMark.post W h0 m0 r) s_3 A_19 n_19 c_19 x_20 x_21 h
set_option maxHeartbeats 4000000 in
set_option maxRecDepth 100000 in
theorem roadref2_TypeMark_k.step_f (go : (p : roadref2_TypeMark_k.Pt) → Option (ByteArray)) (ih : ∀ p r, go p = some r → roadref2_TypeMark_k.I p r) (y_0 : T_api_Type) (r : ByteArray) (e : roadref2_TypeMark_k.body go (.f y_0) = some r) : roadref2_TypeMark_k.I (.f y_0) r := by
  unfold roadref2_TypeMark_k.body at e
  intro W h m cs_0 O e_0 tab
  refine f10.run ?_
  unfold f10.runT
  refine O.new fun h1 x2 O3 => ?_
  refine ⟨_, ld0 (Sub.refl _) (O3.all 0 rfl) (T_api_Type.g0 e_0), _, rfl, ?_⟩
  obtain ⟨A5, c6, q7, k8, r9⟩ := T_api_Type.g2 e_0
  refine ⟨_, ldk (k := 2) (Sub.refl _) (O3.all 0 rfl) q7, _, _, _, rfl, ?_⟩
  obtain ⟨y15, g16, e⟩ := bind_e e
  obtain ⟨y35, g36, e⟩ := bind_e e
  refine ⟨?_, ?_⟩
  · refine O3.new fun h51 x52 O53 => ?_
    refine ⟨?_, ?_⟩
    · have O55 := O53.rowE (l := ([y_0.Kind, (((List.length y_0.Args) : Nat) : Int)] : List Int)) 1 rfl (tell_int .i64) (show CsE _ _ _ _ _ from (CsE.cons (c1 := [(Value.int .i64 y_0.Kind)]) rfl rfl (CsE.cons (c1 := [(Value.int .i64 (((List.length y_0.Args) : Nat) : Int))]) rfl rfl CsE.nil))) rfl
      have O62 := O55.nm
      obtain ⟨m63, u64, s69, ⟨⟨r67, k68⟩, _⟩, B65, C66⟩ := O62.lend0 [1]
      replace r67 : Rd 1 (eInt .i64) m63 (some ⟨(Array.size h1), 0, none⟩) ([y_0.Kind, (((List.length y_0.Args) : Nat) : Int)] : List Int) := r67
      replace k68 : List.length ([y_0.Kind, (((List.length y_0.Args) : Nat) : Int)] : List Int) ≤ 2 := k68
      refine (roadref2_nums.walk (Hold.start (W := No) s69) rfl k68 r67 (TBg.sub tab u64) g16).mono ?_
      rintro _ h58 ⟨m59, Q60, rfl⟩
      have O70 := Hold.nm (C66 Q60 vfs_nil)
      refine ⟨_, rfl, ?_⟩
      refine ⟨_, ldk (k := 1) (Sub.refl _) (O70.all 0 rfl) (T_api_Type.g1 e_0), _, rfl, ?_⟩
      refine ⟨Ext.refl _, ?_⟩
      refine O70.new fun h71 x72 O73 => ?_
      refine ⟨x72, ?_⟩
      have O75 := O73.rowE (l := ([y_0.Name] : List ByteArray)) 2 rfl tell_str (show CsE _ _ _ _ _ from (CsE.cons (c1 := [(Value.string y_0.Name)]) rfl rfl CsE.nil)) rfl
      have O82 := O75.nm
      obtain ⟨m83, u84, s89, ⟨⟨r87, k88⟩, _⟩, B85, C86⟩ := O82.lend0 [2]
      replace r87 : Rd 1 eStr m83 (some ⟨(Array.size h58), 0, none⟩) ([y_0.Name] : List ByteArray) := r87
      replace k88 : List.length ([y_0.Name] : List ByteArray) ≤ 1 := k88
      refine (roadref2_texts.walk (Hold.start (W := No) s89) rfl k88 r87 (TBg.sub tab u84) g36).mono ?_
      rintro _ h78 ⟨m79, Q80, rfl⟩
      have O90 := Hold.nm (C86 Q80 vfs_nil)
      refine ⟨_, rfl, ?_⟩
      obtain ⟨g91, e⟩ := guard_e e
      refine ⟨g91, ?_⟩
      exact (ih _ _ e) _ _ _ _ _ _ _ (O90.pick [0]).nm e_0 tab
    · refine ⟨_, ldk (k := 1) (Sub.refl _) (O53.all 0 rfl) (T_api_Type.g1 e_0), _, rfl, ?_⟩
      refine ⟨Ext.refl _, ?_⟩
      refine ⟨?_, ?_⟩
      · have O92 := O53.rowE (l := ([y_0.Kind, (((List.length y_0.Args) : Nat) : Int)] : List Int)) 1 rfl (tell_int .i64) (show CsE _ _ _ _ _ from (CsE.cons (c1 := [(Value.int .i64 y_0.Kind)]) rfl rfl (CsE.cons (c1 := [(Value.int .i64 (((List.length y_0.Args) : Nat) : Int))]) rfl rfl CsE.nil))) rfl
        have O99 := O92.nm
        obtain ⟨m100, u101, s106, ⟨⟨r104, k105⟩, _⟩, B102, C103⟩ := O99.lend0 [1]
        replace r104 : Rd 1 (eInt .i64) m100 (some ⟨(Array.size h1), 0, none⟩) ([y_0.Kind, (((List.length y_0.Args) : Nat) : Int)] : List Int) := r104
        replace k105 : List.length ([y_0.Kind, (((List.length y_0.Args) : Nat) : Int)] : List Int) ≤ 2 := k105
        refine (roadref2_nums.walk (Hold.start (W := No) s106) rfl k105 r104 (TBg.sub tab u101) g16).mono ?_
        rintro _ h95 ⟨m96, Q97, rfl⟩
        have O107 := Hold.nm (C103 Q97 vfs_nil)
        refine ⟨_, rfl, ?_⟩
        refine O107.new fun h108 x109 O110 => ?_
        refine ⟨x109, ?_⟩
        have O112 := O110.rowE (l := ([y_0.Name] : List ByteArray)) 2 rfl tell_str (show CsE _ _ _ _ _ from (CsE.cons (c1 := [(Value.string y_0.Name)]) rfl rfl CsE.nil)) rfl
        have O119 := O112.nm
        obtain ⟨m120, u121, s126, ⟨⟨r124, k125⟩, _⟩, B122, C123⟩ := O119.lend0 [2]
        replace r124 : Rd 1 eStr m120 (some ⟨(Array.size h95), 0, none⟩) ([y_0.Name] : List ByteArray) := r124
        replace k125 : List.length ([y_0.Name] : List ByteArray) ≤ 1 := k125
        refine (roadref2_texts.walk (Hold.start (W := No) s126) rfl k125 r124 (TBg.sub tab u121) g36).mono ?_
        rintro _ h115 ⟨m116, Q117, rfl⟩
        have O127 := Hold.nm (C123 Q117 vfs_nil)
        refine ⟨_, rfl, ?_⟩
        obtain ⟨g128, e⟩ := guard_e e
        refine ⟨g128, ?_⟩
        exact (ih _ _ e) _ _ _ _ _ _ _ (O127.pick [0]).nm e_0 tab
      · refine O53.new fun h129 x130 O131 => ?_
        refine ⟨x130, ?_⟩
        have O133 := O131.rowE (l := ([y_0.Kind, (((List.length y_0.Args) : Nat) : Int)] : List Int)) 1 rfl (tell_int .i64) (show CsE _ _ _ _ _ from (CsE.cons (c1 := [(Value.int .i64 y_0.Kind)]) rfl rfl (CsE.cons (c1 := [(Value.int .i64 (((List.length y_0.Args) : Nat) : Int))]) rfl rfl CsE.nil))) rfl
        have O140 := O133.nm
        obtain ⟨m141, u142, s147, ⟨⟨r145, k146⟩, _⟩, B143, C144⟩ := O140.lend0 [1]
        replace r145 : Rd 1 (eInt .i64) m141 (some ⟨(Array.size h1), 0, none⟩) ([y_0.Kind, (((List.length y_0.Args) : Nat) : Int)] : List Int) := r145
        replace k146 : List.length ([y_0.Kind, (((List.length y_0.Args) : Nat) : Int)] : List Int) ≤ 2 := k146
        refine (roadref2_nums.walk (Hold.start (W := No) s147) rfl k146 r145 (TBg.sub tab u142) g16).mono ?_
        rintro _ h136 ⟨m137, Q138, rfl⟩
        have O148 := Hold.nm (C144 Q138 vfs_nil)
        refine ⟨_, rfl, ?_⟩
        have O149 := O148.rowE (l := ([y_0.Name] : List ByteArray)) 2 rfl tell_str (show CsE _ _ _ _ _ from (CsE.cons (c1 := [(Value.string y_0.Name)]) rfl rfl CsE.nil)) rfl
        have O156 := O149.nm
        obtain ⟨m157, u158, s163, ⟨⟨r161, k162⟩, _⟩, B159, C160⟩ := O156.lend0 [2]
        replace r161 : Rd 1 eStr m157 (some ⟨(Array.size h51), 0, none⟩) ([y_0.Name] : List ByteArray) := r161
        replace k162 : List.length ([y_0.Name] : List ByteArray) ≤ 1 := k162
        refine (roadref2_texts.walk (Hold.start (W := No) s163) rfl k162 r161 (TBg.sub tab u158) g36).mono ?_
        rintro _ h152 ⟨m153, Q154, rfl⟩
        have O164 := Hold.nm (C160 Q154 vfs_nil)
        refine ⟨_, rfl, ?_⟩
        obtain ⟨g165, e⟩ := guard_e e
        refine ⟨g165, ?_⟩
        exact (ih _ _ e) _ _ _ _ _ _ _ (O164.pick [0]).nm e_0 tab
  · refine ⟨_, ldk (k := 1) (Sub.refl _) (O3.all 0 rfl) (T_api_Type.g1 e_0), _, rfl, ?_⟩
    refine ⟨Ext.refl _, ?_⟩
    refine ⟨?_, ?_⟩
    · refine O3.new fun h166 x167 O168 => ?_
      refine ⟨?_, ?_⟩
      · have O170 := O168.rowE (l := ([y_0.Kind, (((List.length y_0.Args) : Nat) : Int)] : List Int)) 1 rfl (tell_int .i64) (show CsE _ _ _ _ _ from (CsE.cons (c1 := [(Value.int .i64 y_0.Kind)]) rfl rfl (CsE.cons (c1 := [(Value.int .i64 (((List.length y_0.Args) : Nat) : Int))]) rfl rfl CsE.nil))) rfl
        have O177 := O170.nm
        obtain ⟨m178, u179, s184, ⟨⟨r182, k183⟩, _⟩, B180, C181⟩ := O177.lend0 [1]
        replace r182 : Rd 1 (eInt .i64) m178 (some ⟨(Array.size h1), 0, none⟩) ([y_0.Kind, (((List.length y_0.Args) : Nat) : Int)] : List Int) := r182
        replace k183 : List.length ([y_0.Kind, (((List.length y_0.Args) : Nat) : Int)] : List Int) ≤ 2 := k183
        refine (roadref2_nums.walk (Hold.start (W := No) s184) rfl k183 r182 (TBg.sub tab u179) g16).mono ?_
        rintro _ h173 ⟨m174, Q175, rfl⟩
        have O185 := Hold.nm (C181 Q175 vfs_nil)
        refine ⟨_, rfl, ?_⟩
        refine O185.new fun h186 x187 O188 => ?_
        refine ⟨x187, ?_⟩
        have O190 := O188.rowE (l := ([y_0.Name] : List ByteArray)) 2 rfl tell_str (show CsE _ _ _ _ _ from (CsE.cons (c1 := [(Value.string y_0.Name)]) rfl rfl CsE.nil)) rfl
        have O197 := O190.nm
        obtain ⟨m198, u199, s204, ⟨⟨r202, k203⟩, _⟩, B200, C201⟩ := O197.lend0 [2]
        replace r202 : Rd 1 eStr m198 (some ⟨(Array.size h173), 0, none⟩) ([y_0.Name] : List ByteArray) := r202
        replace k203 : List.length ([y_0.Name] : List ByteArray) ≤ 1 := k203
        refine (roadref2_texts.walk (Hold.start (W := No) s204) rfl k203 r202 (TBg.sub tab u199) g36).mono ?_
        rintro _ h193 ⟨m194, Q195, rfl⟩
        have O205 := Hold.nm (C201 Q195 vfs_nil)
        refine ⟨_, rfl, ?_⟩
        obtain ⟨g206, e⟩ := guard_e e
        refine ⟨g206, ?_⟩
        exact (ih _ _ e) _ _ _ _ _ _ _ (O205.pick [0]).nm e_0 tab
      · refine O168.new fun h207 x208 O209 => ?_
        refine ⟨x208, ?_⟩
        have O211 := O209.rowE (l := ([y_0.Kind, (((List.length y_0.Args) : Nat) : Int)] : List Int)) 1 rfl (tell_int .i64) (show CsE _ _ _ _ _ from (CsE.cons (c1 := [(Value.int .i64 y_0.Kind)]) rfl rfl (CsE.cons (c1 := [(Value.int .i64 (((List.length y_0.Args) : Nat) : Int))]) rfl rfl CsE.nil))) rfl
        have O218 := O211.nm
        obtain ⟨m219, u220, s225, ⟨⟨r223, k224⟩, _⟩, B221, C222⟩ := O218.lend0 [1]
        replace r223 : Rd 1 (eInt .i64) m219 (some ⟨(Array.size h1), 0, none⟩) ([y_0.Kind, (((List.length y_0.Args) : Nat) : Int)] : List Int) := r223
        replace k224 : List.length ([y_0.Kind, (((List.length y_0.Args) : Nat) : Int)] : List Int) ≤ 2 := k224
        refine (roadref2_nums.walk (Hold.start (W := No) s225) rfl k224 r223 (TBg.sub tab u220) g16).mono ?_
        rintro _ h214 ⟨m215, Q216, rfl⟩
        have O226 := Hold.nm (C222 Q216 vfs_nil)
        refine ⟨_, rfl, ?_⟩
        have O227 := O226.rowE (l := ([y_0.Name] : List ByteArray)) 2 rfl tell_str (show CsE _ _ _ _ _ from (CsE.cons (c1 := [(Value.string y_0.Name)]) rfl rfl CsE.nil)) rfl
        have O234 := O227.nm
        obtain ⟨m235, u236, s241, ⟨⟨r239, k240⟩, _⟩, B237, C238⟩ := O234.lend0 [2]
        replace r239 : Rd 1 eStr m235 (some ⟨(Array.size h166), 0, none⟩) ([y_0.Name] : List ByteArray) := r239
        replace k240 : List.length ([y_0.Name] : List ByteArray) ≤ 1 := k240
        refine (roadref2_texts.walk (Hold.start (W := No) s241) rfl k240 r239 (TBg.sub tab u236) g36).mono ?_
        rintro _ h230 ⟨m231, Q232, rfl⟩
        have O242 := Hold.nm (C238 Q232 vfs_nil)
        refine ⟨_, rfl, ?_⟩
        obtain ⟨g243, e⟩ := guard_e e
        refine ⟨g243, ?_⟩
        exact (ih _ _ e) _ _ _ _ _ _ _ (O242.pick [0]).nm e_0 tab
    · refine O3.new fun h244 x245 O246 => ?_
      refine ⟨x245, ?_⟩
      refine O246.new fun h248 x249 O250 => ?_
      have O252 := O250.rowE (l := ([y_0.Kind, (((List.length y_0.Args) : Nat) : Int)] : List Int)) 2 rfl (tell_int .i64) (show CsE _ _ _ _ _ from (CsE.cons (c1 := [(Value.int .i64 y_0.Kind)]) rfl rfl (CsE.cons (c1 := [(Value.int .i64 (((List.length y_0.Args) : Nat) : Int))]) rfl rfl CsE.nil))) rfl
      have O259 := O252.nm
      obtain ⟨m260, u261, s266, ⟨⟨r264, k265⟩, _⟩, B262, C263⟩ := O259.lend0 [2]
      replace r264 : Rd 1 (eInt .i64) m260 (some ⟨(Array.size h244), 0, none⟩) ([y_0.Kind, (((List.length y_0.Args) : Nat) : Int)] : List Int) := r264
      replace k265 : List.length ([y_0.Kind, (((List.length y_0.Args) : Nat) : Int)] : List Int) ≤ 2 := k265
      refine (roadref2_nums.walk (Hold.start (W := No) s266) rfl k265 r264 (TBg.sub tab u261) g16).mono ?_
      rintro _ h255 ⟨m256, Q257, rfl⟩
      have O267 := Hold.nm (C263 Q257 vfs_nil)
      refine ⟨_, rfl, ?_⟩
      have O268 := O267.rowE (l := ([y_0.Name] : List ByteArray)) 1 rfl tell_str (show CsE _ _ _ _ _ from (CsE.cons (c1 := [(Value.string y_0.Name)]) rfl rfl CsE.nil)) rfl
      have O275 := O268.nm
      obtain ⟨m276, u277, s282, ⟨⟨r280, k281⟩, _⟩, B278, C279⟩ := O275.lend0 [1]
      replace r280 : Rd 1 eStr m276 (some ⟨(Array.size h1), 0, none⟩) ([y_0.Name] : List ByteArray) := r280
      replace k281 : List.length ([y_0.Name] : List ByteArray) ≤ 1 := k281
      refine (roadref2_texts.walk (Hold.start (W := No) s282) rfl k281 r280 (TBg.sub tab u277) g36).mono ?_
      rintro _ h271 ⟨m272, Q273, rfl⟩
      have O283 := Hold.nm (C279 Q273 vfs_nil)
      refine ⟨_, rfl, ?_⟩
      obtain ⟨g284, e⟩ := guard_e e
      refine ⟨g284, ?_⟩
      exact (ih _ _ e) _ _ _ _ _ _ _ (O283.pick [0]).nm e_0 tab
set_option maxRecDepth 100000 in
theorem roadref2_TypeMark_k.step_j0 (go : (p : roadref2_TypeMark_k.Pt) → Option (ByteArray)) (ih : ∀ p r, go p = some r → roadref2_TypeMark_k.I p r) (y_1 : T_api_Type) (s_3 : ByteArray) (r : ByteArray) (e : roadref2_TypeMark_k.body go (.j0 y_1 s_3) = some r) : roadref2_TypeMark_k.I (.j0 y_1 s_3) r := by
  unfold roadref2_TypeMark_k.body at e
  intro W h0 m0 h m bk_1 cs_1 O e_1 tab
  refine f10.j0_in ?_
  unfold f10.j0T
  obtain ⟨A1, c2, q3, k4, r5⟩ := T_api_Type.g2 e_1
  refine ⟨_, ldk (k := 2) (Sub.refl _) (O.all 0 rfl) q3, _, _, _, rfl, ?_⟩
  exact (ih _ _ e) _ _ _ _ _ _ _ _ (O.pick []).nm rfl k4 r5 tab
set_option maxRecDepth 100000 in
theorem roadref2_TypeMark_k.step_l0 (go : (p : roadref2_TypeMark_k.Pt) → Option (ByteArray)) (ih : ∀ p r, go p = some r → roadref2_TypeMark_k.I p r) (s_3 : ByteArray) (a_19 : List T_api_Type) (x_20 : Int) (x_21 : Int) (r : ByteArray) (e : roadref2_TypeMark_k.body go (.l0 s_3 a_19 x_20 x_21) = some r) : roadref2_TypeMark_k.I (.l0 s_3 a_19 x_20 x_21) r := by
  unfold roadref2_TypeMark_k.body at e
  intro W h0 m0 h m A_19 n_19 c_19 O ne_19 k_19 r_19 tab
  subst ne_19
  refine f10.l0_in ?_
  unfold f10.l0T
  refine split_dec_e e (fun c22 e => ?_) (fun c22 e => ?_)
  · obtain ⟨y1, g2, e⟩ := bind_e e
    refine r_19.addr rfl g2 fun a3 cs4 ha5 hc6 he7 => ?_
    refine ⟨_, ldAn O.s hc6 rfl, ?_⟩
    refine O.new fun h8 x9 O10 => ?_
    refine ⟨_, rfl, (T_api_Type.T.len _ _ _ he7), ?_⟩
    refine O10.stA 0 rfl (T_api_Type.T.len _ _ _ he7) (T_api_Type.T.flat _ _ _ he7) fun h12 O13 => ?_
    refine ⟨_, ldAn (Sub.refl _) (O13.all 0 rfl) (T_api_Type.T.len _ _ _ he7), ?_⟩
    obtain ⟨y14, g15, e⟩ := bind_e e
    refine ((ih _ _ g15) _ _ _ _ (Hold.start (W := No) O13.s) he7 tab).mono ?_
    rintro _ h16 ⟨m17, Q18, rfl⟩
    have O20 := Hold.nm (O13.retC Q18 vfs_nil)
    refine ⟨_, rfl, ?_⟩
    obtain ⟨g21, e⟩ := guard_e e
    refine ⟨g21, ?_⟩
    exact (ih _ _ e) _ _ _ _ _ _ _ _ (O20.pick []).nm rfl k_19 r_19 tab
  · cases e
    exact ⟨_, O.pick [], rfl⟩
theorem roadref2_TypeMark_k.all {p : roadref2_TypeMark_k.Pt} {r : (ByteArray)} (e : roadref2_TypeMark_k.go p = some r) : roadref2_TypeMark_k.I p r := fixF_ind (β := fun _ => (ByteArray)) roadref2_TypeMark_k.mono (I := roadref2_TypeMark_k.I) (fun go ih p r e => match p with
  | .f y_0 => roadref2_TypeMark_k.step_f go ih y_0 r e
  | .j0 y_1 s_3 => roadref2_TypeMark_k.step_j0 go ih y_1 s_3 r e
  | .l0 s_3 a_19 x_20 x_21 => roadref2_TypeMark_k.step_l0 go ih s_3 a_19 x_20 x_21 r e
  ) e
theorem roadref2_TypeMark.walk {W : Nat → Prop} {h m : Heap} {cs_0 : List Value} {y_0 : T_api_Type} (O : Hold W h m h m []) (e_0 : T_api_Type.E m y_0 cs_0) (tab : TB m) {r : ByteArray} (e : roadref2_TypeMark y_0 = some r) : Run Tryd.prog 10 #[Value.agg cs_0.toArray] h (roadref2_TypeMark.post W h m r) := roadref2_TypeMark_k.all (p := .f y_0) e W h m cs_0 O e_0 tab
def slices_Index_33.post (W : Nat → Prop) (h0 m0 : Heap) (r : Int) (v : Value) (h : Heap) : Prop := ∃ m , Hold W h0 m0 h m [] ∧ v = .int .i64 r
inductive slices_Index_33.l0_k.Pt where
  | l0 (a_0 : List ByteArray) (s_1 : ByteArray) (x_7 : Int) (x_8 : Int)
noncomputable def slices_Index_33.l0_k.body (go : (p : slices_Index_33.l0_k.Pt) → Option (Int)) : (p : slices_Index_33.l0_k.Pt) → Option (Int)
  | .l0 a_0 s_1 x_7 x_8 => if x_8 < x_7 then (Option.bind (gi a_0 x_8) fun y1 => if s_1 = y1 then (some (x_8)) else ((go (.l0 a_0 s_1 x_7 (IntKind.wrap .i64 (x_8 + (1 : Int))))))) else (some ((-1 : Int)))
theorem slices_Index_33.l0_k.mono : MonoF (β := fun _ => (Int)) slices_Index_33.l0_k.body := fun f g hfg p => match p with
  | .l0 a_0 s_1 x_7 x_8 => LeO.ite (LeO.bind (LeO.refl _) fun y1 => LeO.ite (LeO.refl _) ((hfg _))) (LeO.refl _)
noncomputable def slices_Index_33.l0_k.go (p : slices_Index_33.l0_k.Pt) : Option (Int) := fixF (β := fun _ => (Int)) slices_Index_33.l0_k.body p
noncomputable def slices_Index_33.l0 (a_0 : List ByteArray) (s_1 : ByteArray) (x_7 : Int) (x_8 : Int) : Option (Int) := slices_Index_33.l0_k.go (.l0 a_0 s_1 x_7 x_8)
theorem slices_Index_33.l0_eq (a_0 : List ByteArray) (s_1 : ByteArray) (x_7 : Int) (x_8 : Int) : slices_Index_33.l0 a_0 s_1 x_7 x_8 = if x_8 < x_7 then (Option.bind (gi a_0 x_8) fun y1 => if s_1 = y1 then (some (x_8)) else ((slices_Index_33.l0 a_0 s_1 x_7 (IntKind.wrap .i64 (x_8 + (1 : Int)))))) else (some ((-1 : Int))) := fixF_eq slices_Index_33.l0_k.mono _
def slices_Index_33.l0_k.I : (p : slices_Index_33.l0_k.Pt) → (Int) → Prop
  | .l0 a_0 s_1 x_7 x_8, r => ∀ (W : Nat → Prop) (h0 m0 h m : Heap) (A_0 : Option Addr) (n_0 c_0 : Nat) (O : Hold W h0 m0 h m []) (ne_0 : n_0 = List.length a_0) (k_0 : List.length a_0 ≤ c_0) (r_0 : Rd 1 eStr m A_0 a_0), f33.l0 (slices_Index_33.post W h0 m0 r) A_0 n_0 c_0 s_1 x_7 x_8 h
set_option maxRecDepth 100000 in
theorem slices_Index_33.l0_k.step_l0 (go : (p : slices_Index_33.l0_k.Pt) → Option (Int)) (ih : ∀ p r, go p = some r → slices_Index_33.l0_k.I p r) (a_0 : List ByteArray) (s_1 : ByteArray) (x_7 : Int) (x_8 : Int) (r : Int) (e : slices_Index_33.l0_k.body go (.l0 a_0 s_1 x_7 x_8) = some r) : slices_Index_33.l0_k.I (.l0 a_0 s_1 x_7 x_8) r := by
  unfold slices_Index_33.l0_k.body at e
  intro W h0 m0 h m A_0 n_0 c_0 O ne_0 k_0 r_0
  subst ne_0
  refine f33.l0_in ?_
  unfold f33.l0T
  refine split_dec_e e (fun c9 e => ?_) (fun c9 e => ?_)
  · obtain ⟨y1, g2, e⟩ := bind_e e
    refine r_0.addr rfl g2 fun a3 cs4 ha5 hc6 he7 => ?_
    obtain rfl : cs4 = [(Value.string y1)] := he7
    refine ⟨_, ld0 O.s hc6 rfl, _, rfl, ?_⟩
    try rw [ba_list s_1 y1]
    refine split_dec_e e (fun c8 e => ?_) (fun c8 e => ?_)
    · cases e
      exact ⟨_, O.pick [], rfl⟩
    · exact (ih _ _ e) _ _ _ _ _ _ _ _ (O.pick []).nm rfl k_0 r_0
  · cases e
    exact ⟨_, O.pick [], rfl⟩
theorem slices_Index_33.l0_k.all {p : slices_Index_33.l0_k.Pt} {r : (Int)} (e : slices_Index_33.l0_k.go p = some r) : slices_Index_33.l0_k.I p r := fixF_ind (β := fun _ => (Int)) slices_Index_33.l0_k.mono (I := slices_Index_33.l0_k.I) (fun go ih p r e => match p with
  | .l0 a_0 s_1 x_7 x_8 => slices_Index_33.l0_k.step_l0 go ih a_0 s_1 x_7 x_8 r e
  ) e
theorem slices_Index_33.l0.walk {W : Nat → Prop} {h0 m0 h m : Heap} {A_0 : Option Addr} {n_0 c_0 : Nat} {a_0 : List ByteArray} {s_1 : ByteArray} {x_7 : Int} {x_8 : Int} (O : Hold W h0 m0 h m []) (ne_0 : n_0 = List.length a_0) (k_0 : List.length a_0 ≤ c_0) (r_0 : Rd 1 eStr m A_0 a_0) {r : Int} (e : slices_Index_33.l0 a_0 s_1 x_7 x_8 = some r) : f33.l0 (slices_Index_33.post W h0 m0 r) A_0 n_0 c_0 s_1 x_7 x_8 h := slices_Index_33.l0_k.all (p := .l0 a_0 s_1 x_7 x_8) e W h0 m0 h m A_0 n_0 c_0 O ne_0 k_0 r_0
noncomputable def slices_Index_33 (a_0 : List ByteArray) (s_1 : ByteArray) : Option (Int) :=
  (slices_Index_33.l0 a_0 s_1 (((List.length a_0) : Nat) : Int) (0 : Int))
set_option maxRecDepth 100000 in
theorem slices_Index_33.walk {W : Nat → Prop} {h m : Heap} {A_0 : Option Addr} {n_0 c_0 : Nat} {a_0 : List ByteArray} {s_1 : ByteArray} (O : Hold W h m h m []) (ne_0 : n_0 = List.length a_0) (k_0 : List.length a_0 ≤ c_0) (r_0 : Rd 1 eStr m A_0 a_0) {r : Int} (e : slices_Index_33 a_0 s_1 = some r) : Run Tryd.prog 33 #[Value.slice A_0 n_0 c_0, Value.string s_1] h (slices_Index_33.post W h m r) := by
  unfold slices_Index_33 at e
  subst ne_0
  refine f33.run ?_
  unfold f33.runT
  exact slices_Index_33.l0.walk (O.pick []).nm rfl k_0 r_0 e
theorem slices_Index_33.val {l : List ByteArray} (v : ByteArray) (hl : l.length ≤ 4611686018427387904) : slices_Index_33 l v = some (idxOf (fun y => decide (v = y)) l) := index_val (fun a p n i => slices_Index_33.l0_eq a p n i) v hl
def roadref2_Swap.post (W : Nat → Prop) (h0 m0 : Heap) (r : T_api_Type) (v : Value) (h : Heap) : Prop := ∃ m cs0, Hold W h0 m0 h m [] ∧ v = .agg cs0.toArray ∧ T_api_Type.E m r cs0
inductive roadref2_Swap_k.Pt where
  | f (y_0 : T_api_Type) (a_1 : List ByteArray) (a_2 : List T_api_Type)
  | j1 (a_1 : List ByteArray) (a_2 : List T_api_Type) (y_3 : T_api_Type) (y_6 : T_api_Type) (x_7 : Int) (b_27 : Bool)
  | j0 (a_1 : List ByteArray) (a_2 : List T_api_Type) (y_3 : T_api_Type) (y_6 : T_api_Type)
  | l0 (a_1 : List ByteArray) (a_2 : List T_api_Type) (y_6 : T_api_Type) (x_8_0 : Int) (s_8_1 : ByteArray) (a_8_2 : (List T_api_Type)) (a_39 : List T_api_Type) (x_40 : Int) (x_41 : Int)
noncomputable def roadref2_Swap_k.body (go : (p : roadref2_Swap_k.Pt) → Option (T_api_Type)) : (p : roadref2_Swap_k.Pt) → Option (T_api_Type)
  | .f y_0 a_1 a_2 => Option.bind (slices_Index_33 a_1 y_0.Name) fun y9 => if y_0.Kind = (5 : Int) then (if y9 ≥ (0 : Int) then ((go (.j1 a_1 a_2 y_0 (T_api_Type.mk (0 : Int) (ByteArray.mk #[]) ([] : List T_api_Type)) y9 (decide (y9 < (((List.length a_2) : Nat) : Int)))))) else ((go (.j1 a_1 a_2 y_0 (T_api_Type.mk (0 : Int) (ByteArray.mk #[]) ([] : List T_api_Type)) y9 false)))) else ((go (.j1 a_1 a_2 y_0 (T_api_Type.mk (0 : Int) (ByteArray.mk #[]) ([] : List T_api_Type)) y9 false)))
  | .j1 a_1 a_2 y_3 y_6 x_7 b_27 => if b_27 = true then (Option.bind (gi a_2 x_7) fun y1 => Option.bind ((go (.f y1 ([] : List ByteArray) ([] : List T_api_Type)))) fun y8 => some (y8)) else ((go (.j0 a_1 a_2 y_3 y_6)))
  | .j0 a_1 a_2 y_3 y_6 => (go (.l0 a_1 a_2 y_6 y_3.Kind y_3.Name ([] : List T_api_Type) y_3.Args (((List.length y_3.Args) : Nat) : Int) (0 : Int)))
  | .l0 a_1 a_2 y_6 x_8_0 s_8_1 a_8_2 a_39 x_40 x_41 => if x_41 < x_40 then (Option.bind (gi a_39 x_41) fun y1 => Option.bind ((go (.f y1 a_1 a_2))) fun y14 => Option.bind (ap 48 a_8_2 ([y14] : List T_api_Type)) fun l29 => (go (.l0 a_1 a_2 y_6 x_8_0 s_8_1 l29 a_39 x_40 (IntKind.wrap .i64 (x_41 + (1 : Int)))))) else (some ((T_api_Type.mk x_8_0 s_8_1 a_8_2)))
theorem roadref2_Swap_k.mono : MonoF (β := fun _ => (T_api_Type)) roadref2_Swap_k.body := fun f g hfg p => match p with
  | .f y_0 a_1 a_2 => LeO.bind (LeO.refl _) fun y9 => LeO.ite (LeO.ite ((hfg _)) ((hfg _))) ((hfg _))
  | .j1 a_1 a_2 y_3 y_6 x_7 b_27 => LeO.ite (LeO.bind (LeO.refl _) fun y1 => LeO.bind ((hfg _)) fun y8 => LeO.refl _) ((hfg _))
  | .j0 a_1 a_2 y_3 y_6 => (hfg _)
  | .l0 a_1 a_2 y_6 x_8_0 s_8_1 a_8_2 a_39 x_40 x_41 => LeO.ite (LeO.bind (LeO.refl _) fun y1 => LeO.bind ((hfg _)) fun y14 => LeO.bind (LeO.refl _) fun l29 => (hfg _)) (LeO.refl _)
noncomputable def roadref2_Swap_k.go (p : roadref2_Swap_k.Pt) : Option (T_api_Type) := fixF (β := fun _ => (T_api_Type)) roadref2_Swap_k.body p
noncomputable def roadref2_Swap (y_0 : T_api_Type) (a_1 : List ByteArray) (a_2 : List T_api_Type) : Option (T_api_Type) := roadref2_Swap_k.go (.f y_0 a_1 a_2)
noncomputable def roadref2_Swap.j1 (a_1 : List ByteArray) (a_2 : List T_api_Type) (y_3 : T_api_Type) (y_6 : T_api_Type) (x_7 : Int) (b_27 : Bool) : Option (T_api_Type) := roadref2_Swap_k.go (.j1 a_1 a_2 y_3 y_6 x_7 b_27)
noncomputable def roadref2_Swap.j0 (a_1 : List ByteArray) (a_2 : List T_api_Type) (y_3 : T_api_Type) (y_6 : T_api_Type) : Option (T_api_Type) := roadref2_Swap_k.go (.j0 a_1 a_2 y_3 y_6)
noncomputable def roadref2_Swap.l0 (a_1 : List ByteArray) (a_2 : List T_api_Type) (y_6 : T_api_Type) (x_8_0 : Int) (s_8_1 : ByteArray) (a_8_2 : (List T_api_Type)) (a_39 : List T_api_Type) (x_40 : Int) (x_41 : Int) : Option (T_api_Type) := roadref2_Swap_k.go (.l0 a_1 a_2 y_6 x_8_0 s_8_1 a_8_2 a_39 x_40 x_41)
theorem roadref2_Swap_eq (y_0 : T_api_Type) (a_1 : List ByteArray) (a_2 : List T_api_Type) : roadref2_Swap y_0 a_1 a_2 = Option.bind (slices_Index_33 a_1 y_0.Name) fun y9 => if y_0.Kind = (5 : Int) then (if y9 ≥ (0 : Int) then ((roadref2_Swap.j1 a_1 a_2 y_0 (T_api_Type.mk (0 : Int) (ByteArray.mk #[]) ([] : List T_api_Type)) y9 (decide (y9 < (((List.length a_2) : Nat) : Int))))) else ((roadref2_Swap.j1 a_1 a_2 y_0 (T_api_Type.mk (0 : Int) (ByteArray.mk #[]) ([] : List T_api_Type)) y9 false))) else ((roadref2_Swap.j1 a_1 a_2 y_0 (T_api_Type.mk (0 : Int) (ByteArray.mk #[]) ([] : List T_api_Type)) y9 false)) := fixF_eq roadref2_Swap_k.mono _
theorem roadref2_Swap.j1_eq (a_1 : List ByteArray) (a_2 : List T_api_Type) (y_3 : T_api_Type) (y_6 : T_api_Type) (x_7 : Int) (b_27 : Bool) : roadref2_Swap.j1 a_1 a_2 y_3 y_6 x_7 b_27 = if b_27 = true then (Option.bind (gi a_2 x_7) fun y1 => Option.bind ((roadref2_Swap y1 ([] : List ByteArray) ([] : List T_api_Type))) fun y8 => some (y8)) else ((roadref2_Swap.j0 a_1 a_2 y_3 y_6)) := fixF_eq roadref2_Swap_k.mono _
theorem roadref2_Swap.j0_eq (a_1 : List ByteArray) (a_2 : List T_api_Type) (y_3 : T_api_Type) (y_6 : T_api_Type) : roadref2_Swap.j0 a_1 a_2 y_3 y_6 = (roadref2_Swap.l0 a_1 a_2 y_6 y_3.Kind y_3.Name ([] : List T_api_Type) y_3.Args (((List.length y_3.Args) : Nat) : Int) (0 : Int)) := fixF_eq roadref2_Swap_k.mono _
theorem roadref2_Swap.l0_eq (a_1 : List ByteArray) (a_2 : List T_api_Type) (y_6 : T_api_Type) (x_8_0 : Int) (s_8_1 : ByteArray) (a_8_2 : (List T_api_Type)) (a_39 : List T_api_Type) (x_40 : Int) (x_41 : Int) : roadref2_Swap.l0 a_1 a_2 y_6 x_8_0 s_8_1 a_8_2 a_39 x_40 x_41 = if x_41 < x_40 then (Option.bind (gi a_39 x_41) fun y1 => Option.bind ((roadref2_Swap y1 a_1 a_2)) fun y14 => Option.bind (ap 48 a_8_2 ([y14] : List T_api_Type)) fun l29 => (roadref2_Swap.l0 a_1 a_2 y_6 x_8_0 s_8_1 l29 a_39 x_40 (IntKind.wrap .i64 (x_41 + (1 : Int))))) else (some ((T_api_Type.mk x_8_0 s_8_1 a_8_2))) := fixF_eq roadref2_Swap_k.mono _
def roadref2_Swap_k.I : (p : roadref2_Swap_k.Pt) → (T_api_Type) → Prop
  | .f y_0 a_1 a_2, r => ∀ (W : Nat → Prop) (h m : Heap) (cs_0 : List Value) (A_1 : Option Addr) (n_1 c_1 : Nat) (A_2 : Option Addr) (n_2 c_2 : Nat) (O : Hold W h m h m []) (e_0 : T_api_Type.E m y_0 cs_0) (ne_1 : n_1 = List.length a_1) (k_1 : List.length a_1 ≤ c_1) (r_1 : Rd 1 eStr m A_1 a_1) (ne_2 : n_2 = List.length a_2) (k_2 : List.length a_2 ≤ c_2) (r_2 : Rd 3 T_api_Type.E m A_2 a_2), Run Tryd.prog 13 #[Value.agg cs_0.toArray, Value.slice A_1 n_1 c_1, Value.slice A_2 n_2 c_2] h (roadref2_Swap.post W h m r)
  | .j1 a_1 a_2 y_3 y_6 x_7 b_27, r => ∀ (W : Nat → Prop) (h0 m0 h m : Heap) (A_1 : Option Addr) (n_1 c_1 : Nat) (A_2 : Option Addr) (n_2 c_2 : Nat) (bk_3 : Nat) (cs_3 : List Value) (bk_6 : Nat) (cs_6 : List Value) (O : Hold W h0 m0 h m [rV bk_3 25 cs_3, rV bk_6 25 cs_6]) (ne_1 : n_1 = List.length a_1) (k_1 : List.length a_1 ≤ c_1) (r_1 : Rd 1 eStr m A_1 a_1) (ne_2 : n_2 = List.length a_2) (k_2 : List.length a_2 ≤ c_2) (r_2 : Rd 3 T_api_Type.E m A_2 a_2) (e_3 : T_api_Type.E m y_3 cs_3) (e_6 : T_api_Type.E m y_6 cs_6), f13.j1 (roadref2_Swap.post W h0 m0 r) A_1 n_1 c_1 A_2 n_2 c_2 (⟨bk_3, 0, none⟩ : Addr) (⟨bk_6, 0, none⟩ : Addr) x_7 b_27 h
  | .j0 a_1 a_2 y_3 y_6, r => ∀ (W : Nat → Prop) (h0 m0 h m : Heap) (A_1 : Option Addr) (n_1 c_1 : Nat) (A_2 : Option Addr) (n_2 c_2 : Nat) (bk_3 : Nat) (cs_3 : List Value) (bk_6 : Nat) (cs_6 : List Value) (O : Hold W h0 m0 h m [rV bk_3 25 cs_3, rV bk_6 25 cs_6]) (ne_1 : n_1 = List.length a_1) (k_1 : List.length a_1 ≤ c_1) (r_1 : Rd 1 eStr m A_1 a_1) (ne_2 : n_2 = List.length a_2) (k_2 : List.length a_2 ≤ c_2) (r_2 : Rd 3 T_api_Type.E m A_2 a_2) (e_3 : T_api_Type.E m y_3 cs_3) (e_6 : T_api_Type.E m y_6 cs_6), f13.j0 (roadref2_Swap.post W h0 m0 r) A_1 n_1 c_1 A_2 n_2 c_2 (⟨bk_3, 0, none⟩ : Addr) (⟨bk_6, 0, none⟩ : Addr) h
  | .l0 a_1 a_2 y_6 x_8_0 s_8_1 a_8_2 a_39 x_40 x_41, r => ∀ (W : Nat → Prop) (h0 m0 h m : Heap) (A_1 : Option Addr) (n_1 c_1 : Nat) (A_2 : Option Addr) (n_2 c_2 : Nat) (bk_6 : Nat) (cs_6 : List Value) (bk_8 : Nat) (A_8_2_0 : Option Addr) (n_8_2_0 : Nat) (c_8_2_0 : Nat) (A_39 : Option Addr) (n_39 c_39 : Nat) (O : Hold W h0 m0 h m [rV bk_6 25 cs_6, rV bk_8 25 [(Value.int .i64 x_8_0), (Value.string s_8_1), (Value.slice A_8_2_0 n_8_2_0 c_8_2_0)], rR (aE T_api_Type.T) A_8_2_0 c_8_2_0 a_8_2]) (ne_1 : n_1 = List.length a_1) (k_1 : List.length a_1 ≤ c_1) (r_1 : Rd 1 eStr m A_1 a_1) (ne_2 : n_2 = List.length a_2) (k_2 : List.length a_2 ≤ c_2) (r_2 : Rd 3 T_api_Type.E m A_2 a_2) (e_6 : T_api_Type.E m y_6 cs_6) (ne_8_2_0 : n_8_2_0 = List.length a_8_2) (ne_39 : n_39 = List.length a_39) (k_39 : List.length a_39 ≤ c_39) (r_39 : Rd 3 T_api_Type.E m A_39 a_39), f13.l0 (roadref2_Swap.post W h0 m0 r) A_1 n_1 c_1 A_2 n_2 c_2 (⟨bk_6, 0, none⟩ : Addr) (⟨bk_8, 0, none⟩ : Addr) A_39 n_39 c_39 x_40 x_41 h
set_option maxRecDepth 100000 in
theorem roadref2_Swap_k.step_f (go : (p : roadref2_Swap_k.Pt) → Option (T_api_Type)) (ih : ∀ p r, go p = some r → roadref2_Swap_k.I p r) (y_0 : T_api_Type) (a_1 : List ByteArray) (a_2 : List T_api_Type) (r : T_api_Type) (e : roadref2_Swap_k.body go (.f y_0 a_1 a_2) = some r) : roadref2_Swap_k.I (.f y_0 a_1 a_2) r := by
  unfold roadref2_Swap_k.body at e
  intro W h m cs_0 A_1 n_1 c_1 A_2 n_2 c_2 O e_0 ne_1 k_1 r_1 ne_2 k_2 r_2
  subst ne_1
  subst ne_2
  refine f13.run ?_
  unfold f13.runT
  refine O.new fun h1 x2 O3 => ?_
  refine O3.new fun h5 x6 O7 => ?_
  refine ⟨_, ldk (k := 1) (Sub.refl _) (O7.all 0 rfl) (T_api_Type.g1 e_0), _, rfl, ?_⟩
  obtain ⟨y9, g10, e⟩ := bind_e e
  refine (slices_Index_33.walk (Hold.start (W := No) O7.s) rfl k_1 r_1 g10).mono ?_
  rintro _ h11 ⟨m12, Q13, rfl⟩
  have O15 := Hold.nm (O7.retC Q13 vfs_nil)
  refine ⟨_, rfl, ?_⟩
  refine ⟨_, ld0 (Sub.refl _) (O15.all 0 rfl) (T_api_Type.g0 e_0), _, rfl, ?_⟩
  refine split_eq_e e (fun c17 e => ?_) (fun c17 e => ?_)
  · refine split_dec_e e (fun c16 e => ?_) (fun c16 e => ?_)
    · exact (ih _ _ e) _ _ _ _ _ _ _ _ _ _ _ _ _ _ _ (O15.pick [0, 1]).nm rfl k_1 r_1 rfl k_2 r_2 e_0 (T_api_Type.iff.2 ⟨_, _, rfl, (by exact Nat.le_refl 0), Rd.nil⟩)
    · exact (ih _ _ e) _ _ _ _ _ _ _ _ _ _ _ _ _ _ _ (O15.pick [0, 1]).nm rfl k_1 r_1 rfl k_2 r_2 e_0 (T_api_Type.iff.2 ⟨_, _, rfl, (by exact Nat.le_refl 0), Rd.nil⟩)
  · exact (ih _ _ e) _ _ _ _ _ _ _ _ _ _ _ _ _ _ _ (O15.pick [0, 1]).nm rfl k_1 r_1 rfl k_2 r_2 e_0 (T_api_Type.iff.2 ⟨_, _, rfl, (by exact Nat.le_refl 0), Rd.nil⟩)
set_option maxRecDepth 100000 in
theorem roadref2_Swap_k.step_j1 (go : (p : roadref2_Swap_k.Pt) → Option (T_api_Type)) (ih : ∀ p r, go p = some r → roadref2_Swap_k.I p r) (a_1 : List ByteArray) (a_2 : List T_api_Type) (y_3 : T_api_Type) (y_6 : T_api_Type) (x_7 : Int) (b_27 : Bool) (r : T_api_Type) (e : roadref2_Swap_k.body go (.j1 a_1 a_2 y_3 y_6 x_7 b_27) = some r) : roadref2_Swap_k.I (.j1 a_1 a_2 y_3 y_6 x_7 b_27) r := by
  unfold roadref2_Swap_k.body at e
  intro W h0 m0 h m A_1 n_1 c_1 A_2 n_2 c_2 bk_3 cs_3 bk_6 cs_6 O ne_1 k_1 r_1 ne_2 k_2 r_2 e_3 e_6
  subst ne_1
  subst ne_2
  refine f13.j1_in ?_
  unfold f13.j1T
  refine split_any_e e (fun c21 e => ?_) (fun c21 e => ?_)
  · obtain ⟨y1, g2, e⟩ := bind_e e
    refine r_2.addr rfl g2 fun a3 cs4 ha5 hc6 he7 => ?_
    refine ⟨_, ldAn O.s hc6 rfl, ?_⟩
    obtain ⟨y8, g9, e⟩ := bind_e e
    refine ((ih _ _ g9) _ _ _ _ _ _ _ _ _ _ (Hold.start (W := No) O.s) he7 rfl (by exact Nat.le_refl 0) Rd.nil rfl (by exact Nat.le_refl 0) Rd.nil).mono ?_
    rintro _ h10 ⟨m11, cs15, Q12, rfl, he16⟩
    have O17 := Hold.nm (O.ret Q12)
    refine ⟨_, rfl, (T_api_Type.T.len _ _ _ he16), ?_⟩
    refine O17.stA 1 rfl ((T_api_Type.T.len _ _ _ he16).trans ((T_api_Type.T.len _ _ _ e_6)).symm) (T_api_Type.T.flat _ _ _ he16) fun h18 O19 => ?_
    refine ⟨_, ldAn (Sub.refl _) (O19.all 1 rfl) (T_api_Type.T.len _ _ _ he16), ?_⟩
    have O20 := O19.nm
    cases e
    exact ⟨_, _, O20.pick [], rfl, he16⟩
  · exact (ih _ _ e) _ _ _ _ _ _ _ _ _ _ _ _ _ _ _ (O.pick [0, 1]).nm rfl k_1 r_1 rfl k_2 r_2 e_3 e_6
set_option maxRecDepth 100000 in
theorem roadref2_Swap_k.step_j0 (go : (p : roadref2_Swap_k.Pt) → Option (T_api_Type)) (ih : ∀ p r, go p = some r → roadref2_Swap_k.I p r) (a_1 : List ByteArray) (a_2 : List T_api_Type) (y_3 : T_api_Type) (y_6 : T_api_Type) (r : T_api_Type) (e : roadref2_Swap_k.body go (.j0 a_1 a_2 y_3 y_6) = some r) : roadref2_Swap_k.I (.j0 a_1 a_2 y_3 y_6) r := by
  unfold roadref2_Swap_k.body at e
  intro W h0 m0 h m A_1 n_1 c_1 A_2 n_2 c_2 bk_3 cs_3 bk_6 cs_6 O ne_1 k_1 r_1 ne_2 k_2 r_2 e_3 e_6
  subst ne_1
  subst ne_2
  refine f13.j0_in ?_
  unfold f13.j0T
  refine ⟨_, ld0 (Sub.refl _) (O.all 0 rfl) (T_api_Type.g0 e_3), _, rfl, ?_⟩
  refine ⟨_, ldk (k := 1) (Sub.refl _) (O.all 0 rfl) (T_api_Type.g1 e_3), _, rfl, ?_⟩
  refine O.new fun h1 x2 O3 => ?_
  refine ⟨_, rfl, rfl, ?_⟩
  refine O3.stA 2 rfl rfl (Flats.cons trivial (Flats.cons trivial (Flats.cons trivial Flats.nil))) fun h5 O6 => ?_
  obtain ⟨A7, c8, q9, k10, r11⟩ := T_api_Type.g2 e_3
  refine ⟨_, ldk (k := 2) (Sub.refl _) (O6.all 0 rfl) q9, _, _, _, rfl, ?_⟩
  have O12 := O6.nil (aE T_api_Type.T) none
  have O14 := O12.nm
  exact (ih _ _ e) _ _ _ _ _ _ _ _ _ _ _ _ _ _ _ _ _ _ _ _ (O14.pick [1, 2, 3]).nm rfl k_1 r_1 rfl k_2 r_2 e_6 rfl rfl k10 r11
set_option maxHeartbeats 4000000 in
set_option maxRecDepth 100000 in
theorem roadref2_Swap_k.step_l0 (go : (p : roadref2_Swap_k.Pt) → Option (T_api_Type)) (ih : ∀ p r, go p = some r → roadref2_Swap_k.I p r) (a_1 : List ByteArray) (a_2 : List T_api_Type) (y_6 : T_api_Type) (x_8_0 : Int) (s_8_1 : ByteArray) (a_8_2 : (List T_api_Type)) (a_39 : List T_api_Type) (x_40 : Int) (x_41 : Int) (r : T_api_Type) (e : roadref2_Swap_k.body go (.l0 a_1 a_2 y_6 x_8_0 s_8_1 a_8_2 a_39 x_40 x_41) = some r) : roadref2_Swap_k.I (.l0 a_1 a_2 y_6 x_8_0 s_8_1 a_8_2 a_39 x_40 x_41) r := by
  unfold roadref2_Swap_k.body at e
  intro W h0 m0 h m A_1 n_1 c_1 A_2 n_2 c_2 bk_6 cs_6 bk_8 A_8_2_0 n_8_2_0 c_8_2_0 A_39 n_39 c_39 O ne_1 k_1 r_1 ne_2 k_2 r_2 e_6 ne_8_2_0 ne_39 k_39 r_39
  subst ne_1
  subst ne_2
  subst ne_8_2_0
  subst ne_39
  refine f13.l0_in ?_
  unfold f13.l0T
  refine split_dec_e e (fun c49 e => ?_) (fun c49 e => ?_)
  · obtain ⟨y1, g2, e⟩ := bind_e e
    refine r_39.addr rfl g2 fun a3 cs4 ha5 hc6 he7 => ?_
    refine ⟨_, ldAn O.s hc6 rfl, ?_⟩
    refine O.new fun h8 x9 O10 => ?_
    refine ⟨_, rfl, (T_api_Type.T.len _ _ _ he7), ?_⟩
    refine O10.stA 3 rfl (T_api_Type.T.len _ _ _ he7) (T_api_Type.T.flat _ _ _ he7) fun h12 O13 => ?_
    refine ⟨_, ldk (k := 2) (Sub.refl _) (O13.all 1 rfl) rfl, _, _, _, rfl, ?_⟩
    refine ⟨_, ldAn (Sub.refl _) (O13.all 3 rfl) (T_api_Type.T.len _ _ _ he7), ?_⟩
    obtain ⟨y14, g15, e⟩ := bind_e e
    refine ((ih _ _ g15) _ _ _ _ _ _ _ _ _ _ (Hold.start (W := No) O13.s) he7 rfl k_1 r_1 rfl k_2 r_2).mono ?_
    rintro _ h16 ⟨m17, cs21, Q18, rfl, he22⟩
    have O23 := Hold.nm (O13.ret Q18)
    refine ⟨Q18.S.ext, ?_⟩
    refine ⟨cs21, rfl, (T_api_Type.T.len _ _ _ he22), ?_⟩
    refine O23.new fun h24 x25 O26 => ?_
    have O28 := O26.recell 4 rfl (cs' := cs21 ++ []) rfl
    refine ⟨x25, ?_⟩
    obtain ⟨l29, g30, e⟩ := bind_e e
    have O37 := O28.rowE (l := ([y14] : List T_api_Type)) 4 rfl T_api_Type.T (show CsE _ _ _ _ _ from (CsE.cons he22 (T_api_Type.T.len _ _ _ he22) CsE.nil)) rfl
    refine O37.app 2 rfl rfl rfl ((O37.os 4 rfl).srcE rfl) (by decide) g30 fun A31 c32 h33 O34 => ?_
    refine ⟨_, _, _, rfl, ?_⟩
    refine O34.st 1 rfl 2 (Nat.le_of_ble_eq_true rfl) trivial fun h38 O39 => ?_
    have O40 := O39.nm
    exact (ih _ _ e) _ _ _ _ _ _ _ _ _ _ _ _ _ _ _ _ _ _ _ _ (O40.pick [0, 1, 2]).nm rfl k_1 (r_1.sub tell_str Q18.S.up) rfl k_2 (r_2.sub T_api_Type.T Q18.S.up) (T_api_Type.T.mono _ _ _ _ Q18.S.up e_6) rfl rfl k_39 (r_39.sub T_api_Type.T Q18.S.up)
  · refine ⟨_, ldAn (Sub.refl _) (O.all 1 rfl) rfl, ?_⟩
    refine ⟨_, rfl, rfl, ?_⟩
    refine O.stA 0 rfl ((T_api_Type.T.len _ _ _ e_6)).symm (Flats.cons trivial (Flats.cons trivial (Flats.cons trivial Flats.nil))) fun h41 O42 => ?_
    refine ⟨_, ldAn (Sub.refl _) (O42.all 0 rfl) rfl, ?_⟩
    obtain ⟨m43, u44, ⟨r45, k46⟩, O47⟩ := O42.frz 2 rfl
    replace r45 : Rd 3 T_api_Type.E m43 A_8_2_0 a_8_2 := r45
    have O48 := O47.nm
    cases e
    exact ⟨_, _, O48.pick [], rfl, (T_api_Type.iff.2 ⟨_, _, rfl, k46, r45⟩)⟩
theorem roadref2_Swap_k.all {p : roadref2_Swap_k.Pt} {r : (T_api_Type)} (e : roadref2_Swap_k.go p = some r) : roadref2_Swap_k.I p r := fixF_ind (β := fun _ => (T_api_Type)) roadref2_Swap_k.mono (I := roadref2_Swap_k.I) (fun go ih p r e => match p with
  | .f y_0 a_1 a_2 => roadref2_Swap_k.step_f go ih y_0 a_1 a_2 r e
  | .j1 a_1 a_2 y_3 y_6 x_7 b_27 => roadref2_Swap_k.step_j1 go ih a_1 a_2 y_3 y_6 x_7 b_27 r e
  | .j0 a_1 a_2 y_3 y_6 => roadref2_Swap_k.step_j0 go ih a_1 a_2 y_3 y_6 r e
  | .l0 a_1 a_2 y_6 x_8_0 s_8_1 a_8_2 a_39 x_40 x_41 => roadref2_Swap_k.step_l0 go ih a_1 a_2 y_6 x_8_0 s_8_1 a_8_2 a_39 x_40 x_41 r e
  ) e
theorem roadref2_Swap.walk {W : Nat → Prop} {h m : Heap} {cs_0 : List Value} {A_1 : Option Addr} {n_1 c_1 : Nat} {A_2 : Option Addr} {n_2 c_2 : Nat} {y_0 : T_api_Type} {a_1 : List ByteArray} {a_2 : List T_api_Type} (O : Hold W h m h m []) (e_0 : T_api_Type.E m y_0 cs_0) (ne_1 : n_1 = List.length a_1) (k_1 : List.length a_1 ≤ c_1) (r_1 : Rd 1 eStr m A_1 a_1) (ne_2 : n_2 = List.length a_2) (k_2 : List.length a_2 ≤ c_2) (r_2 : Rd 3 T_api_Type.E m A_2 a_2) {r : T_api_Type} (e : roadref2_Swap y_0 a_1 a_2 = some r) : Run Tryd.prog 13 #[Value.agg cs_0.toArray, Value.slice A_1 n_1 c_1, Value.slice A_2 n_2 c_2] h (roadref2_Swap.post W h m r) := roadref2_Swap_k.all (p := .f y_0 a_1 a_2) e W h m cs_0 A_1 n_1 c_1 A_2 n_2 c_2 O e_0 ne_1 k_1 r_1 ne_2 k_2 r_2
def roadref2_FunsOf.post (W : Nat → Prop) (h0 m0 : Heap) (r : (List T_api_Func)) (v : Value) (h : Heap) : Prop := ∃ m A0 n0 c0, Hold W h0 m0 h m [rR (aE T_api_Func.T) A0 c0 r] ∧ v = .slice A0 n0 c0 ∧ n0 = List.length r
inductive roadref2_FunsOf.l0_k.Pt where
  | l0 (y_1 : T_api_Program) (a_3 : List T_api_Func) (a_7 : List T_api_Impl) (x_8 : Int) (x_9 : Int)
noncomputable def roadref2_FunsOf.l0_k.body (go : (p : roadref2_FunsOf.l0_k.Pt) → Option ((List T_api_Func))) : (p : roadref2_FunsOf.l0_k.Pt) → Option ((List T_api_Func))
  | .l0 y_1 a_3 a_7 x_8 x_9 => if x_9 < x_8 then (Option.bind (gi a_7 x_9) fun y1 => Option.bind (ap 272 a_3 y1.Funcs) fun l19 => (go (.l0 y_1 l19 a_7 x_8 (IntKind.wrap .i64 (x_9 + (1 : Int)))))) else (Option.bind (ap 272 a_3 y_1.Funcs) fun l33 => some (l33))
theorem roadref2_FunsOf.l0_k.mono : MonoF (β := fun _ => ((List T_api_Func))) roadref2_FunsOf.l0_k.body := fun f g hfg p => match p with
  | .l0 y_1 a_3 a_7 x_8 x_9 => LeO.ite (LeO.bind (LeO.refl _) fun y1 => LeO.bind (LeO.refl _) fun l19 => (hfg _)) (LeO.bind (LeO.refl _) fun l33 => LeO.refl _)
noncomputable def roadref2_FunsOf.l0_k.go (p : roadref2_FunsOf.l0_k.Pt) : Option ((List T_api_Func)) := fixF (β := fun _ => ((List T_api_Func))) roadref2_FunsOf.l0_k.body p
noncomputable def roadref2_FunsOf.l0 (y_1 : T_api_Program) (a_3 : List T_api_Func) (a_7 : List T_api_Impl) (x_8 : Int) (x_9 : Int) : Option ((List T_api_Func)) := roadref2_FunsOf.l0_k.go (.l0 y_1 a_3 a_7 x_8 x_9)
theorem roadref2_FunsOf.l0_eq (y_1 : T_api_Program) (a_3 : List T_api_Func) (a_7 : List T_api_Impl) (x_8 : Int) (x_9 : Int) : roadref2_FunsOf.l0 y_1 a_3 a_7 x_8 x_9 = if x_9 < x_8 then (Option.bind (gi a_7 x_9) fun y1 => Option.bind (ap 272 a_3 y1.Funcs) fun l19 => (roadref2_FunsOf.l0 y_1 l19 a_7 x_8 (IntKind.wrap .i64 (x_9 + (1 : Int))))) else (Option.bind (ap 272 a_3 y_1.Funcs) fun l33 => some (l33)) := fixF_eq roadref2_FunsOf.l0_k.mono _
def roadref2_FunsOf.l0_k.I : (p : roadref2_FunsOf.l0_k.Pt) → ((List T_api_Func)) → Prop
  | .l0 y_1 a_3 a_7 x_8 x_9, r => ∀ (W : Nat → Prop) (h0 m0 h m : Heap) (bk_1 : Nat) (cs_1 : List Value) (A_3 : Option Addr) (n_3 c_3 : Nat) (A_7 : Option Addr) (n_7 c_7 : Nat) (O : Hold W h0 m0 h m [rV bk_1 54 cs_1, rR (aE T_api_Func.T) A_3 c_3 a_3]) (e_1 : T_api_Program.E m y_1 cs_1) (ne_3 : n_3 = List.length a_3) (ne_7 : n_7 = List.length a_7) (k_7 : List.length a_7 ≤ c_7) (r_7 : Rd 3 T_api_Impl.E m A_7 a_7), f45.l0 (roadref2_FunsOf.post W h0 m0 r) (⟨bk_1, 0, none⟩ : Addr) A_3 n_3 c_3 A_7 n_7 c_7 x_8 x_9 h
set_option maxRecDepth 100000 in
theorem roadref2_FunsOf.l0_k.step_l0 (go : (p : roadref2_FunsOf.l0_k.Pt) → Option ((List T_api_Func))) (ih : ∀ p r, go p = some r → roadref2_FunsOf.l0_k.I p r) (y_1 : T_api_Program) (a_3 : List T_api_Func) (a_7 : List T_api_Impl) (x_8 : Int) (x_9 : Int) (r : (List T_api_Func)) (e : roadref2_FunsOf.l0_k.body go (.l0 y_1 a_3 a_7 x_8 x_9) = some r) : roadref2_FunsOf.l0_k.I (.l0 y_1 a_3 a_7 x_8 x_9) r := by
  unfold roadref2_FunsOf.l0_k.body at e
  intro W h0 m0 h m bk_1 cs_1 A_3 n_3 c_3 A_7 n_7 c_7 O e_1 ne_3 ne_7 k_7 r_7
  subst ne_3
  subst ne_7
  refine f45.l0_in ?_
  unfold f45.l0T
  refine split_dec_e e (fun c42 e => ?_) (fun c42 e => ?_)
  · obtain ⟨y1, g2, e⟩ := bind_e e
    refine r_7.addr rfl g2 fun a3 cs4 ha5 hc6 he7 => ?_
    refine ⟨_, ldAn O.s hc6 rfl, ?_⟩
    refine O.new fun h8 x9 O10 => ?_
    refine ⟨_, rfl, (T_api_Impl.T.len _ _ _ he7), ?_⟩
    refine O10.stA 2 rfl (T_api_Impl.T.len _ _ _ he7) (T_api_Impl.T.flat _ _ _ he7) fun h12 O13 => ?_
    obtain ⟨A14, c15, q16, k17, r18⟩ := T_api_Impl.g2 he7
    refine ⟨_, ldk (k := 2) (Sub.refl _) (O13.all 2 rfl) q16, _, _, _, rfl, ?_⟩
    obtain ⟨l19, g20, e⟩ := bind_e e
    refine O13.app 1 rfl rfl rfl (Rd.srcE r18 T_api_Func.T O13.s rfl) (by decide) g20 fun A21 c22 h23 O24 => ?_
    refine ⟨_, _, _, rfl, ?_⟩
    have O27 := O24.nm
    exact (ih _ _ e) _ _ _ _ _ _ _ _ _ _ _ _ _ (O27.pick [0, 1]).nm e_1 rfl rfl k_7 r_7
  · obtain ⟨A28, c29, q30, k31, r32⟩ := T_api_Program.g6 e_1
    refine ⟨_, ldk (k := 6) (Sub.refl _) (O.all 0 rfl) q30, _, _, _, rfl, ?_⟩
    obtain ⟨l33, g34, e⟩ := bind_e e
    refine O.app 1 rfl rfl rfl (Rd.srcE r32 T_api_Func.T O.s rfl) (by decide) g34 fun A35 c36 h37 O38 => ?_
    refine ⟨_, _, _, rfl, ?_⟩
    have O41 := O38.nm
    cases e
    exact ⟨_, _, _, _, O41.pick [1], rfl, rfl⟩
theorem roadref2_FunsOf.l0_k.all {p : roadref2_FunsOf.l0_k.Pt} {r : ((List T_api_Func))} (e : roadref2_FunsOf.l0_k.go p = some r) : roadref2_FunsOf.l0_k.I p r := fixF_ind (β := fun _ => ((List T_api_Func))) roadref2_FunsOf.l0_k.mono (I := roadref2_FunsOf.l0_k.I) (fun go ih p r e => match p with
  | .l0 y_1 a_3 a_7 x_8 x_9 => roadref2_FunsOf.l0_k.step_l0 go ih y_1 a_3 a_7 x_8 x_9 r e
  ) e
theorem roadref2_FunsOf.l0.walk {W : Nat → Prop} {h0 m0 h m : Heap} {bk_1 : Nat} {cs_1 : List Value} {A_3 : Option Addr} {n_3 c_3 : Nat} {A_7 : Option Addr} {n_7 c_7 : Nat} {y_1 : T_api_Program} {a_3 : List T_api_Func} {a_7 : List T_api_Impl} {x_8 : Int} {x_9 : Int} (O : Hold W h0 m0 h m [rV bk_1 54 cs_1, rR (aE T_api_Func.T) A_3 c_3 a_3]) (e_1 : T_api_Program.E m y_1 cs_1) (ne_3 : n_3 = List.length a_3) (ne_7 : n_7 = List.length a_7) (k_7 : List.length a_7 ≤ c_7) (r_7 : Rd 3 T_api_Impl.E m A_7 a_7) {r : (List T_api_Func)} (e : roadref2_FunsOf.l0 y_1 a_3 a_7 x_8 x_9 = some r) : f45.l0 (roadref2_FunsOf.post W h0 m0 r) (⟨bk_1, 0, none⟩ : Addr) A_3 n_3 c_3 A_7 n_7 c_7 x_8 x_9 h := roadref2_FunsOf.l0_k.all (p := .l0 y_1 a_3 a_7 x_8 x_9) e W h0 m0 h m bk_1 cs_1 A_3 n_3 c_3 A_7 n_7 c_7 O e_1 ne_3 ne_7 k_7 r_7
noncomputable def roadref2_FunsOf (y_0 : T_api_Program) : Option ((List T_api_Func)) :=
  (roadref2_FunsOf.l0 y_0 ([] : List T_api_Func) y_0.Impls (((List.length y_0.Impls) : Nat) : Int) (0 : Int))
set_option maxRecDepth 100000 in
theorem roadref2_FunsOf.walk {W : Nat → Prop} {h m : Heap} {cs_0 : List Value} {y_0 : T_api_Program} (O : Hold W h m h m []) (e_0 : T_api_Program.E m y_0 cs_0) {r : (List T_api_Func)} (e : roadref2_FunsOf y_0 = some r) : Run Tryd.prog 45 #[Value.agg cs_0.toArray] h (roadref2_FunsOf.post W h m r) := by
  unfold roadref2_FunsOf at e
  refine f45.run ?_
  unfold f45.runT
  refine O.new fun h1 x2 O3 => ?_
  obtain ⟨A5, c6, q7, k8, r9⟩ := T_api_Program.g5 e_0
  refine ⟨_, ldk (k := 5) (Sub.refl _) (O3.all 0 rfl) q7, _, _, _, rfl, ?_⟩
  have O10 := O3.nil (aE T_api_Func.T) none
  have O12 := O10.nm
  exact roadref2_FunsOf.l0.walk (O12.pick [0, 1]).nm e_0 rfl rfl k8 r9 e
def roadref2_BodiesOf.post (W : Nat → Prop) (h0 m0 : Heap) (r : (List T_api_Expr)) (v : Value) (h : Heap) : Prop := ∃ m A0 n0 c0, Hold W h0 m0 h m [rR (aE T_api_Expr.T) A0 c0 r] ∧ v = .slice A0 n0 c0 ∧ n0 = List.length r
inductive roadref2_BodiesOf.l1_k.Pt where
  | l1 (a_3 : List T_api_Expr) (a_22 : List T_api_Actor) (x_23 : Int) (x_24 : Int)
noncomputable def roadref2_BodiesOf.l1_k.body (go : (p : roadref2_BodiesOf.l1_k.Pt) → Option ((List T_api_Expr))) : (p : roadref2_BodiesOf.l1_k.Pt) → Option ((List T_api_Expr))
  | .l1 a_3 a_22 x_23 x_24 => if x_24 < x_23 then (Option.bind (gi a_22 x_24) fun y1 => Option.bind (ap 136 a_3 ([y1.Body] : List T_api_Expr)) fun l19 => (go (.l1 l19 a_22 x_23 (IntKind.wrap .i64 (x_24 + (1 : Int)))))) else (some (a_3))
theorem roadref2_BodiesOf.l1_k.mono : MonoF (β := fun _ => ((List T_api_Expr))) roadref2_BodiesOf.l1_k.body := fun f g hfg p => match p with
  | .l1 a_3 a_22 x_23 x_24 => LeO.ite (LeO.bind (LeO.refl _) fun y1 => LeO.bind (LeO.refl _) fun l19 => (hfg _)) (LeO.refl _)
noncomputable def roadref2_BodiesOf.l1_k.go (p : roadref2_BodiesOf.l1_k.Pt) : Option ((List T_api_Expr)) := fixF (β := fun _ => ((List T_api_Expr))) roadref2_BodiesOf.l1_k.body p
noncomputable def roadref2_BodiesOf.l1 (a_3 : List T_api_Expr) (a_22 : List T_api_Actor) (x_23 : Int) (x_24 : Int) : Option ((List T_api_Expr)) := roadref2_BodiesOf.l1_k.go (.l1 a_3 a_22 x_23 x_24)
theorem roadref2_BodiesOf.l1_eq (a_3 : List T_api_Expr) (a_22 : List T_api_Actor) (x_23 : Int) (x_24 : Int) : roadref2_BodiesOf.l1 a_3 a_22 x_23 x_24 = if x_24 < x_23 then (Option.bind (gi a_22 x_24) fun y1 => Option.bind (ap 136 a_3 ([y1.Body] : List T_api_Expr)) fun l19 => (roadref2_BodiesOf.l1 l19 a_22 x_23 (IntKind.wrap .i64 (x_24 + (1 : Int))))) else (some (a_3)) := fixF_eq roadref2_BodiesOf.l1_k.mono _
def roadref2_BodiesOf.l1_k.I : (p : roadref2_BodiesOf.l1_k.Pt) → ((List T_api_Expr)) → Prop
  | .l1 a_3 a_22 x_23 x_24, r => ∀ (W : Nat → Prop) (h0 m0 h m : Heap) (A_3 : Option Addr) (n_3 c_3 : Nat) (A_22 : Option Addr) (n_22 c_22 : Nat) (O : Hold W h0 m0 h m [rR (aE T_api_Expr.T) A_3 c_3 a_3]) (ne_3 : n_3 = List.length a_3) (ne_22 : n_22 = List.length a_22) (k_22 : List.length a_22 ≤ c_22) (r_22 : Rd 14 T_api_Actor.E m A_22 a_22), f39.l1 (roadref2_BodiesOf.post W h0 m0 r) A_3 n_3 c_3 A_22 n_22 c_22 x_23 x_24 h
set_option maxRecDepth 100000 in
theorem roadref2_BodiesOf.l1_k.step_l1 (go : (p : roadref2_BodiesOf.l1_k.Pt) → Option ((List T_api_Expr))) (ih : ∀ p r, go p = some r → roadref2_BodiesOf.l1_k.I p r) (a_3 : List T_api_Expr) (a_22 : List T_api_Actor) (x_23 : Int) (x_24 : Int) (r : (List T_api_Expr)) (e : roadref2_BodiesOf.l1_k.body go (.l1 a_3 a_22 x_23 x_24) = some r) : roadref2_BodiesOf.l1_k.I (.l1 a_3 a_22 x_23 x_24) r := by
  unfold roadref2_BodiesOf.l1_k.body at e
  intro W h0 m0 h m A_3 n_3 c_3 A_22 n_22 c_22 O ne_3 ne_22 k_22 r_22
  subst ne_3
  subst ne_22
  refine f39.l1_in ?_
  unfold f39.l1T
  refine split_dec_e e (fun c29 e => ?_) (fun c29 e => ?_)
  · obtain ⟨y1, g2, e⟩ := bind_e e
    refine r_22.addr rfl g2 fun a3 cs4 ha5 hc6 he7 => ?_
    refine ⟨_, ldAn O.s hc6 rfl, ?_⟩
    refine O.new fun h8 x9 O10 => ?_
    refine ⟨_, rfl, (T_api_Actor.T.len _ _ _ he7), ?_⟩
    refine O10.stA 1 rfl (T_api_Actor.T.len _ _ _ he7) (T_api_Actor.T.flat _ _ _ he7) fun h12 O13 => ?_
    refine ⟨_, ldAkn (Sub.refl _) (O13.all 1 rfl) 6 8 (le_len (T_api_Actor.T.len _ _ _ he7) (by decide)), ?_⟩
    refine ⟨(List.take 8 (List.drop 6 cs4)), rfl, (T_api_Expr.T.len _ _ _ (T_api_Actor.u6_87 he7)), ?_⟩
    refine O13.new fun h14 x15 O16 => ?_
    have O18 := O16.recell 2 rfl (cs' := (List.take 8 (List.drop 6 cs4)) ++ []) rfl
    obtain ⟨l19, g20, e⟩ := bind_e e
    have O27 := O18.rowE (l := ([y1.Body] : List T_api_Expr)) 2 rfl T_api_Expr.T (show CsE _ _ _ _ _ from (CsE.cons (T_api_Actor.u6_87 he7) (T_api_Expr.T.len _ _ _ (T_api_Actor.u6_87 he7)) CsE.nil)) rfl
    refine O27.app 0 rfl rfl rfl ((O27.os 2 rfl).srcE rfl) (by decide) g20 fun A21 c22 h23 O24 => ?_
    refine ⟨_, _, _, rfl, ?_⟩
    have O28 := O24.nm
    exact (ih _ _ e) _ _ _ _ _ _ _ _ _ _ _ (O28.pick [0]).nm rfl rfl k_22 r_22
  · cases e
    exact ⟨_, _, _, _, O.pick [0], rfl, rfl⟩
theorem roadref2_BodiesOf.l1_k.all {p : roadref2_BodiesOf.l1_k.Pt} {r : ((List T_api_Expr))} (e : roadref2_BodiesOf.l1_k.go p = some r) : roadref2_BodiesOf.l1_k.I p r := fixF_ind (β := fun _ => ((List T_api_Expr))) roadref2_BodiesOf.l1_k.mono (I := roadref2_BodiesOf.l1_k.I) (fun go ih p r e => match p with
  | .l1 a_3 a_22 x_23 x_24 => roadref2_BodiesOf.l1_k.step_l1 go ih a_3 a_22 x_23 x_24 r e
  ) e
theorem roadref2_BodiesOf.l1.walk {W : Nat → Prop} {h0 m0 h m : Heap} {A_3 : Option Addr} {n_3 c_3 : Nat} {A_22 : Option Addr} {n_22 c_22 : Nat} {a_3 : List T_api_Expr} {a_22 : List T_api_Actor} {x_23 : Int} {x_24 : Int} (O : Hold W h0 m0 h m [rR (aE T_api_Expr.T) A_3 c_3 a_3]) (ne_3 : n_3 = List.length a_3) (ne_22 : n_22 = List.length a_22) (k_22 : List.length a_22 ≤ c_22) (r_22 : Rd 14 T_api_Actor.E m A_22 a_22) {r : (List T_api_Expr)} (e : roadref2_BodiesOf.l1 a_3 a_22 x_23 x_24 = some r) : f39.l1 (roadref2_BodiesOf.post W h0 m0 r) A_3 n_3 c_3 A_22 n_22 c_22 x_23 x_24 h := roadref2_BodiesOf.l1_k.all (p := .l1 a_3 a_22 x_23 x_24) e W h0 m0 h m A_3 n_3 c_3 A_22 n_22 c_22 O ne_3 ne_22 k_22 r_22
inductive roadref2_BodiesOf.l0_k.Pt where
  | l0 (y_1 : T_api_Program) (a_3 : List T_api_Expr) (a_9 : List T_api_Func) (x_10 : Int) (x_11 : Int)
noncomputable def roadref2_BodiesOf.l0_k.body (go : (p : roadref2_BodiesOf.l0_k.Pt) → Option ((List T_api_Expr))) : (p : roadref2_BodiesOf.l0_k.Pt) → Option ((List T_api_Expr))
  | .l0 y_1 a_3 a_9 x_10 x_11 => if x_11 < x_10 then (Option.bind (gi a_9 x_11) fun y1 => Option.bind (ap 136 a_3 ([y1.Body] : List T_api_Expr)) fun l19 => (go (.l0 y_1 l19 a_9 x_10 (IntKind.wrap .i64 (x_11 + (1 : Int)))))) else ((roadref2_BodiesOf.l1 a_3 y_1.Actors (((List.length y_1.Actors) : Nat) : Int) (0 : Int)))
theorem roadref2_BodiesOf.l0_k.mono : MonoF (β := fun _ => ((List T_api_Expr))) roadref2_BodiesOf.l0_k.body := fun f g hfg p => match p with
  | .l0 y_1 a_3 a_9 x_10 x_11 => LeO.ite (LeO.bind (LeO.refl _) fun y1 => LeO.bind (LeO.refl _) fun l19 => (hfg _)) ((LeO.refl _))
noncomputable def roadref2_BodiesOf.l0_k.go (p : roadref2_BodiesOf.l0_k.Pt) : Option ((List T_api_Expr)) := fixF (β := fun _ => ((List T_api_Expr))) roadref2_BodiesOf.l0_k.body p
noncomputable def roadref2_BodiesOf.l0 (y_1 : T_api_Program) (a_3 : List T_api_Expr) (a_9 : List T_api_Func) (x_10 : Int) (x_11 : Int) : Option ((List T_api_Expr)) := roadref2_BodiesOf.l0_k.go (.l0 y_1 a_3 a_9 x_10 x_11)
theorem roadref2_BodiesOf.l0_eq (y_1 : T_api_Program) (a_3 : List T_api_Expr) (a_9 : List T_api_Func) (x_10 : Int) (x_11 : Int) : roadref2_BodiesOf.l0 y_1 a_3 a_9 x_10 x_11 = if x_11 < x_10 then (Option.bind (gi a_9 x_11) fun y1 => Option.bind (ap 136 a_3 ([y1.Body] : List T_api_Expr)) fun l19 => (roadref2_BodiesOf.l0 y_1 l19 a_9 x_10 (IntKind.wrap .i64 (x_11 + (1 : Int))))) else ((roadref2_BodiesOf.l1 a_3 y_1.Actors (((List.length y_1.Actors) : Nat) : Int) (0 : Int))) := fixF_eq roadref2_BodiesOf.l0_k.mono _
def roadref2_BodiesOf.l0_k.I : (p : roadref2_BodiesOf.l0_k.Pt) → ((List T_api_Expr)) → Prop
  | .l0 y_1 a_3 a_9 x_10 x_11, r => ∀ (W : Nat → Prop) (h0 m0 h m : Heap) (bk_1 : Nat) (cs_1 : List Value) (A_3 : Option Addr) (n_3 c_3 : Nat) (A_9 : Option Addr) (n_9 c_9 : Nat) (O : Hold W h0 m0 h m [rV bk_1 54 cs_1, rR (aE T_api_Expr.T) A_3 c_3 a_3, rR (aE T_api_Func.T) A_9 c_9 a_9]) (e_1 : T_api_Program.E m y_1 cs_1) (ne_3 : n_3 = List.length a_3) (ne_9 : n_9 = List.length a_9), f39.l0 (roadref2_BodiesOf.post W h0 m0 r) (⟨bk_1, 0, none⟩ : Addr) A_3 n_3 c_3 A_9 n_9 c_9 x_10 x_11 h
set_option maxRecDepth 100000 in
theorem roadref2_BodiesOf.l0_k.step_l0 (go : (p : roadref2_BodiesOf.l0_k.Pt) → Option ((List T_api_Expr))) (ih : ∀ p r, go p = some r → roadref2_BodiesOf.l0_k.I p r) (y_1 : T_api_Program) (a_3 : List T_api_Expr) (a_9 : List T_api_Func) (x_10 : Int) (x_11 : Int) (r : (List T_api_Expr)) (e : roadref2_BodiesOf.l0_k.body go (.l0 y_1 a_3 a_9 x_10 x_11) = some r) : roadref2_BodiesOf.l0_k.I (.l0 y_1 a_3 a_9 x_10 x_11) r := by
  unfold roadref2_BodiesOf.l0_k.body at e
  intro W h0 m0 h m bk_1 cs_1 A_3 n_3 c_3 A_9 n_9 c_9 O e_1 ne_3 ne_9
  subst ne_3
  subst ne_9
  refine f39.l0_in ?_
  unfold f39.l0T
  refine split_dec_e e (fun c34 e => ?_) (fun c34 e => ?_)
  · obtain ⟨y1, g2, e⟩ := bind_e e
    refine (O.os 2 rfl).addr rfl g2 fun a3 cs4 ha5 hc6 he7 => ?_
    refine ⟨_, ldAn (Sub.refl _) hc6 rfl, ?_⟩
    refine O.new fun h8 x9 O10 => ?_
    refine ⟨_, rfl, (T_api_Func.T.len _ _ _ he7), ?_⟩
    refine O10.stA 3 rfl (T_api_Func.T.len _ _ _ he7) (T_api_Func.T.flat _ _ _ he7) fun h12 O13 => ?_
    refine ⟨_, ldAkn (Sub.refl _) (O13.all 3 rfl) 7 8 (le_len (T_api_Func.T.len _ _ _ he7) (by decide)), ?_⟩
    refine ⟨(List.take 8 (List.drop 7 cs4)), rfl, (T_api_Expr.T.len _ _ _ (T_api_Func.u7_87 he7)), ?_⟩
    refine O13.new fun h14 x15 O16 => ?_
    have O18 := O16.recell 4 rfl (cs' := (List.take 8 (List.drop 7 cs4)) ++ []) rfl
    obtain ⟨l19, g20, e⟩ := bind_e e
    have O27 := O18.rowE (l := ([y1.Body] : List T_api_Expr)) 4 rfl T_api_Expr.T (show CsE _ _ _ _ _ from (CsE.cons (T_api_Func.u7_87 he7) (T_api_Expr.T.len _ _ _ (T_api_Func.u7_87 he7)) CsE.nil)) rfl
    refine O27.app 1 rfl rfl rfl ((O27.os 4 rfl).srcE rfl) (by decide) g20 fun A21 c22 h23 O24 => ?_
    refine ⟨_, _, _, rfl, ?_⟩
    have O28 := O24.nm
    exact (ih _ _ e) _ _ _ _ _ _ _ _ _ _ _ _ _ (O28.pick [0, 1, 2]).nm e_1 rfl rfl
  · obtain ⟨A29, c30, q31, k32, r33⟩ := T_api_Program.g7 e_1
    refine ⟨_, ldk (k := 7) (Sub.refl _) (O.all 0 rfl) q31, _, _, _, rfl, ?_⟩
    exact roadref2_BodiesOf.l1.walk (O.pick [1]).nm rfl rfl k32 r33 e
theorem roadref2_BodiesOf.l0_k.all {p : roadref2_BodiesOf.l0_k.Pt} {r : ((List T_api_Expr))} (e : roadref2_BodiesOf.l0_k.go p = some r) : roadref2_BodiesOf.l0_k.I p r := fixF_ind (β := fun _ => ((List T_api_Expr))) roadref2_BodiesOf.l0_k.mono (I := roadref2_BodiesOf.l0_k.I) (fun go ih p r e => match p with
  | .l0 y_1 a_3 a_9 x_10 x_11 => roadref2_BodiesOf.l0_k.step_l0 go ih y_1 a_3 a_9 x_10 x_11 r e
  ) e
theorem roadref2_BodiesOf.l0.walk {W : Nat → Prop} {h0 m0 h m : Heap} {bk_1 : Nat} {cs_1 : List Value} {A_3 : Option Addr} {n_3 c_3 : Nat} {A_9 : Option Addr} {n_9 c_9 : Nat} {y_1 : T_api_Program} {a_3 : List T_api_Expr} {a_9 : List T_api_Func} {x_10 : Int} {x_11 : Int} (O : Hold W h0 m0 h m [rV bk_1 54 cs_1, rR (aE T_api_Expr.T) A_3 c_3 a_3, rR (aE T_api_Func.T) A_9 c_9 a_9]) (e_1 : T_api_Program.E m y_1 cs_1) (ne_3 : n_3 = List.length a_3) (ne_9 : n_9 = List.length a_9) {r : (List T_api_Expr)} (e : roadref2_BodiesOf.l0 y_1 a_3 a_9 x_10 x_11 = some r) : f39.l0 (roadref2_BodiesOf.post W h0 m0 r) (⟨bk_1, 0, none⟩ : Addr) A_3 n_3 c_3 A_9 n_9 c_9 x_10 x_11 h := roadref2_BodiesOf.l0_k.all (p := .l0 y_1 a_3 a_9 x_10 x_11) e W h0 m0 h m bk_1 cs_1 A_3 n_3 c_3 A_9 n_9 c_9 O e_1 ne_3 ne_9
noncomputable def roadref2_BodiesOf (y_0 : T_api_Program) : Option ((List T_api_Expr)) :=
  Option.bind (roadref2_FunsOf y_0) fun y5 => (roadref2_BodiesOf.l0 y_0 ([] : List T_api_Expr) y5 (((List.length y5) : Nat) : Int) (0 : Int))
set_option maxRecDepth 100000 in
theorem roadref2_BodiesOf.walk {W : Nat → Prop} {h m : Heap} {cs_0 : List Value} {y_0 : T_api_Program} (O : Hold W h m h m []) (e_0 : T_api_Program.E m y_0 cs_0) {r : (List T_api_Expr)} (e : roadref2_BodiesOf y_0 = some r) : Run Tryd.prog 39 #[Value.agg cs_0.toArray] h (roadref2_BodiesOf.post W h m r) := by
  unfold roadref2_BodiesOf at e
  refine f39.run ?_
  unfold f39.runT
  refine O.new fun h1 x2 O3 => ?_
  refine ⟨_, ldAn (Sub.refl _) (O3.all 0 rfl) (T_api_Program.T.len _ _ _ e_0), ?_⟩
  obtain ⟨y5, g6, e⟩ := bind_e e
  refine (roadref2_FunsOf.walk (Hold.start (W := No) O3.s) e_0 g6).mono ?_
  rintro _ h7 ⟨m8, A11, n12, c13, Q9, rfl, ne14⟩
  have O16 := Hold.nm (O3.ret Q9)
  subst ne14
  refine ⟨_, _, _, rfl, ?_⟩
  have O17 := O16.nil (aE T_api_Expr.T) none
  have O19 := O17.nm
  exact roadref2_BodiesOf.l0.walk (O19.pick [0, 2, 1]).nm (T_api_Program.T.mono _ _ _ _ Q9.S.up e_0) rfl rfl e
def roadref2_All.post (W : Nat → Prop) (h0 m0 : Heap) (r : (List T_api_Expr)) (v : Value) (h : Heap) : Prop := ∃ m A0 n0 c0, Hold W h0 m0 h m [rR (aE T_api_Expr.T) A0 c0 r] ∧ v = .slice A0 n0 c0 ∧ n0 = List.length r
inductive roadref2_All.l0_k.Pt where
  | l0 (a_3 : List T_api_Expr) (a_4 : List T_api_Expr)
  | l1 (a_3 : List T_api_Expr) (a_4 : List T_api_Expr) (y_5 : T_api_Expr) (x_6 : Int)
  | l2 (a_3 : List T_api_Expr) (a_4 : List T_api_Expr) (y_5 : T_api_Expr) (x_7 : Int)
noncomputable def roadref2_All.l0_k.body (go : (p : roadref2_All.l0_k.Pt) → Option ((List T_api_Expr))) : (p : roadref2_All.l0_k.Pt) → Option ((List T_api_Expr))
  | .l0 a_3 a_4 => if (((List.length a_3) : Nat) : Int) > (0 : Int) then (Option.bind (gi a_3 (IntKind.wrap .i64 ((((List.length a_3) : Nat) : Int) - (1 : Int)))) fun y1 => Option.bind (sls a_3 (0 : Int) (IntKind.wrap .i64 ((((List.length a_3) : Nat) : Int) - (1 : Int)))) fun l14 => Option.bind (ap 136 a_4 ([y1] : List T_api_Expr)) fun l22 => (go (.l1 l14 l22 y1 (IntKind.wrap .i64 ((((List.length y1.Arms) : Nat) : Int) - (1 : Int)))))) else (some (a_4))
  | .l1 a_3 a_4 y_5 x_6 => if x_6 ≥ (0 : Int) then (Option.bind (gi y_5.Arms x_6) fun y6 => Option.bind (ap 136 a_3 ([y6.Body] : List T_api_Expr)) fun l18 => (go (.l1 l18 a_4 y_5 (IntKind.wrap .i64 (x_6 - (1 : Int)))))) else ((go (.l2 a_3 a_4 y_5 (IntKind.wrap .i64 ((((List.length y_5.Args) : Nat) : Int) - (1 : Int))))))
  | .l2 a_3 a_4 y_5 x_7 => if x_7 ≥ (0 : Int) then (Option.bind (gi y_5.Args x_7) fun y6 => Option.bind (ap 136 a_3 ([y6] : List T_api_Expr)) fun l18 => (go (.l2 l18 a_4 y_5 (IntKind.wrap .i64 (x_7 - (1 : Int)))))) else ((go (.l0 a_3 a_4)))
theorem roadref2_All.l0_k.mono : MonoF (β := fun _ => ((List T_api_Expr))) roadref2_All.l0_k.body := fun f g hfg p => match p with
  | .l0 a_3 a_4 => LeO.ite (LeO.bind (LeO.refl _) fun y1 => LeO.bind (LeO.refl _) fun l14 => LeO.bind (LeO.refl _) fun l22 => (hfg _)) (LeO.refl _)
  | .l1 a_3 a_4 y_5 x_6 => LeO.ite (LeO.bind (LeO.refl _) fun y6 => LeO.bind (LeO.refl _) fun l18 => (hfg _)) ((hfg _))
  | .l2 a_3 a_4 y_5 x_7 => LeO.ite (LeO.bind (LeO.refl _) fun y6 => LeO.bind (LeO.refl _) fun l18 => (hfg _)) ((hfg _))
noncomputable def roadref2_All.l0_k.go (p : roadref2_All.l0_k.Pt) : Option ((List T_api_Expr)) := fixF (β := fun _ => ((List T_api_Expr))) roadref2_All.l0_k.body p
noncomputable def roadref2_All.l0 (a_3 : List T_api_Expr) (a_4 : List T_api_Expr) : Option ((List T_api_Expr)) := roadref2_All.l0_k.go (.l0 a_3 a_4)
noncomputable def roadref2_All.l1 (a_3 : List T_api_Expr) (a_4 : List T_api_Expr) (y_5 : T_api_Expr) (x_6 : Int) : Option ((List T_api_Expr)) := roadref2_All.l0_k.go (.l1 a_3 a_4 y_5 x_6)
noncomputable def roadref2_All.l2 (a_3 : List T_api_Expr) (a_4 : List T_api_Expr) (y_5 : T_api_Expr) (x_7 : Int) : Option ((List T_api_Expr)) := roadref2_All.l0_k.go (.l2 a_3 a_4 y_5 x_7)
theorem roadref2_All.l0_eq (a_3 : List T_api_Expr) (a_4 : List T_api_Expr) : roadref2_All.l0 a_3 a_4 = if (((List.length a_3) : Nat) : Int) > (0 : Int) then (Option.bind (gi a_3 (IntKind.wrap .i64 ((((List.length a_3) : Nat) : Int) - (1 : Int)))) fun y1 => Option.bind (sls a_3 (0 : Int) (IntKind.wrap .i64 ((((List.length a_3) : Nat) : Int) - (1 : Int)))) fun l14 => Option.bind (ap 136 a_4 ([y1] : List T_api_Expr)) fun l22 => (roadref2_All.l1 l14 l22 y1 (IntKind.wrap .i64 ((((List.length y1.Arms) : Nat) : Int) - (1 : Int))))) else (some (a_4)) := fixF_eq roadref2_All.l0_k.mono _
theorem roadref2_All.l1_eq (a_3 : List T_api_Expr) (a_4 : List T_api_Expr) (y_5 : T_api_Expr) (x_6 : Int) : roadref2_All.l1 a_3 a_4 y_5 x_6 = if x_6 ≥ (0 : Int) then (Option.bind (gi y_5.Arms x_6) fun y6 => Option.bind (ap 136 a_3 ([y6.Body] : List T_api_Expr)) fun l18 => (roadref2_All.l1 l18 a_4 y_5 (IntKind.wrap .i64 (x_6 - (1 : Int))))) else ((roadref2_All.l2 a_3 a_4 y_5 (IntKind.wrap .i64 ((((List.length y_5.Args) : Nat) : Int) - (1 : Int))))) := fixF_eq roadref2_All.l0_k.mono _
theorem roadref2_All.l2_eq (a_3 : List T_api_Expr) (a_4 : List T_api_Expr) (y_5 : T_api_Expr) (x_7 : Int) : roadref2_All.l2 a_3 a_4 y_5 x_7 = if x_7 ≥ (0 : Int) then (Option.bind (gi y_5.Args x_7) fun y6 => Option.bind (ap 136 a_3 ([y6] : List T_api_Expr)) fun l18 => (roadref2_All.l2 l18 a_4 y_5 (IntKind.wrap .i64 (x_7 - (1 : Int))))) else ((roadref2_All.l0 a_3 a_4)) := fixF_eq roadref2_All.l0_k.mono _
def roadref2_All.l0_k.I : (p : roadref2_All.l0_k.Pt) → ((List T_api_Expr)) → Prop
  | .l0 a_3 a_4, r => ∀ (W : Nat → Prop) (h0 m0 h m : Heap) (A_3 : Option Addr) (n_3 c_3 : Nat) (A_4 : Option Addr) (n_4 c_4 : Nat) (O : Hold W h0 m0 h m [rR (aE T_api_Expr.T) A_3 c_3 a_3, rR (aE T_api_Expr.T) A_4 c_4 a_4]) (ne_3 : n_3 = List.length a_3) (ne_4 : n_4 = List.length a_4), f53.l0 (roadref2_All.post W h0 m0 r) A_3 n_3 c_3 A_4 n_4 c_4 h
  | .l1 a_3 a_4 y_5 x_6, r => ∀ (W : Nat → Prop) (h0 m0 h m : Heap) (A_3 : Option Addr) (n_3 c_3 : Nat) (A_4 : Option Addr) (n_4 c_4 : Nat) (bk_5 : Nat) (cs_5 : List Value) (O : Hold W h0 m0 h m [rR (aE T_api_Expr.T) A_3 c_3 a_3, rR (aE T_api_Expr.T) A_4 c_4 a_4, rV bk_5 87 cs_5]) (ne_3 : n_3 = List.length a_3) (ne_4 : n_4 = List.length a_4) (e_5 : T_api_Expr.E m y_5 cs_5), f53.l1 (roadref2_All.post W h0 m0 r) A_3 n_3 c_3 A_4 n_4 c_4 (⟨bk_5, 0, none⟩ : Addr) x_6 h
  | .l2 a_3 a_4 y_5 x_7, r => ∀ (W : Nat → Prop) (h0 m0 h m : Heap) (A_3 : Option Addr) (n_3 c_3 : Nat) (A_4 : Option Addr) (n_4 c_4 : Nat) (bk_5 : Nat) (cs_5 : List Value) (O : Hold W h0 m0 h m [rR (aE T_api_Expr.T) A_3 c_3 a_3, rR (aE T_api_Expr.T) A_4 c_4 a_4, rV bk_5 87 cs_5]) (ne_3 : n_3 = List.length a_3) (ne_4 : n_4 = List.length a_4) (e_5 : T_api_Expr.E m y_5 cs_5), f53.l2 (roadref2_All.post W h0 m0 r) A_3 n_3 c_3 A_4 n_4 c_4 (⟨bk_5, 0, none⟩ : Addr) x_7 h
set_option maxRecDepth 100000 in
theorem roadref2_All.l0_k.step_l0 (go : (p : roadref2_All.l0_k.Pt) → Option ((List T_api_Expr))) (ih : ∀ p r, go p = some r → roadref2_All.l0_k.I p r) (a_3 : List T_api_Expr) (a_4 : List T_api_Expr) (r : (List T_api_Expr)) (e : roadref2_All.l0_k.body go (.l0 a_3 a_4) = some r) : roadref2_All.l0_k.I (.l0 a_3 a_4) r := by
  unfold roadref2_All.l0_k.body at e
  intro W h0 m0 h m A_3 n_3 c_3 A_4 n_4 c_4 O ne_3 ne_4
  subst ne_3
  subst ne_4
  refine f53.l0_in ?_
  unfold f53.l0T
  refine split_dec_e e (fun c40 e => ?_) (fun c40 e => ?_)
  · obtain ⟨y1, g2, e⟩ := bind_e e
    refine (O.os 0 rfl).addr rfl g2 fun a3 cs4 ha5 hc6 he7 => ?_
    refine ⟨_, ldAn (Sub.refl _) hc6 rfl, ?_⟩
    refine O.new fun h8 x9 O10 => ?_
    refine ⟨_, rfl, (T_api_Expr.T.len _ _ _ he7), ?_⟩
    refine O10.stA 2 rfl (T_api_Expr.T.len _ _ _ he7) (T_api_Expr.T.flat _ _ _ he7) fun h12 O13 => ?_
    obtain ⟨l14, g15, e⟩ := bind_e e
    have q16 := sls_e g15
    refine ⟨q16.1, q16.2.1, cap_in q16.2.2.1 (O13.cap 0 rfl), ?_⟩
    try rw [q16.2.2.2.1]
    refine ⟨_, ldAn (Sub.refl _) (O13.all 2 rfl) (T_api_Expr.T.len _ _ _ he7), ?_⟩
    refine ⟨cs4, rfl, (T_api_Expr.T.len _ _ _ he7), ?_⟩
    refine O13.new fun h17 x18 O19 => ?_
    have O21 := O19.recell 3 rfl (cs' := cs4 ++ []) rfl
    obtain ⟨l22, g23, e⟩ := bind_e e
    have O30 := O21.rowE (l := ([y1] : List T_api_Expr)) 3 rfl T_api_Expr.T (show CsE _ _ _ _ _ from (CsE.cons he7 (T_api_Expr.T.len _ _ _ he7) CsE.nil)) rfl
    refine O30.app 1 rfl rfl rfl ((O30.os 3 rfl).srcE rfl) (by decide) g23 fun A24 c25 h26 O27 => ?_
    refine ⟨_, _, _, rfl, ?_⟩
    have O31 := O27.nm
    obtain ⟨A32, c33, q34, k35, r36⟩ := T_api_Expr.g6 he7
    refine ⟨_, ldk (k := 6) (Sub.refl _) (O31.all 2 rfl) q34, _, _, _, rfl, ?_⟩
    have O37 := O31.sls 0 rfl g15
    have O39 := O37.nm
    exact (ih _ _ e) _ _ _ _ _ _ _ _ _ _ _ _ _ (O39.pick [0, 1, 2]).nm rfl rfl he7
  · cases e
    exact ⟨_, _, _, _, O.pick [1], rfl, rfl⟩
set_option maxRecDepth 100000 in
theorem roadref2_All.l0_k.step_l1 (go : (p : roadref2_All.l0_k.Pt) → Option ((List T_api_Expr))) (ih : ∀ p r, go p = some r → roadref2_All.l0_k.I p r) (a_3 : List T_api_Expr) (a_4 : List T_api_Expr) (y_5 : T_api_Expr) (x_6 : Int) (r : (List T_api_Expr)) (e : roadref2_All.l0_k.body go (.l1 a_3 a_4 y_5 x_6) = some r) : roadref2_All.l0_k.I (.l1 a_3 a_4 y_5 x_6) r := by
  unfold roadref2_All.l0_k.body at e
  intro W h0 m0 h m A_3 n_3 c_3 A_4 n_4 c_4 bk_5 cs_5 O ne_3 ne_4 e_5
  subst ne_3
  subst ne_4
  refine f53.l1_in ?_
  unfold f53.l1T
  refine split_dec_e e (fun c33 e => ?_) (fun c33 e => ?_)
  · obtain ⟨A1, c2, q3, k4, r5⟩ := T_api_Expr.g6 e_5
    refine ⟨_, ldk (k := 6) (Sub.refl _) (O.all 2 rfl) q3, _, _, _, rfl, ?_⟩
    obtain ⟨y6, g7, e⟩ := bind_e e
    refine r5.addr rfl g7 fun a8 cs9 ha10 hc11 he12 => ?_
    refine ⟨_, ldAkn O.s hc11 4 8 (Nat.le_of_ble_eq_true rfl), ?_⟩
    refine ⟨(List.take 8 (List.drop 4 cs9)), rfl, (T_api_Expr.T.len _ _ _ (T_api_Arm.u4_87 he12)), ?_⟩
    refine O.new fun h13 x14 O15 => ?_
    have O17 := O15.recell 3 rfl (cs' := (List.take 8 (List.drop 4 cs9)) ++ []) rfl
    obtain ⟨l18, g19, e⟩ := bind_e e
    have O26 := O17.rowE (l := ([y6.Body] : List T_api_Expr)) 3 rfl T_api_Expr.T (show CsE _ _ _ _ _ from (CsE.cons (T_api_Arm.u4_87 he12) (T_api_Expr.T.len _ _ _ (T_api_Arm.u4_87 he12)) CsE.nil)) rfl
    refine O26.app 0 rfl rfl rfl ((O26.os 3 rfl).srcE rfl) (by decide) g19 fun A20 c21 h22 O23 => ?_
    refine ⟨_, _, _, rfl, ?_⟩
    have O27 := O23.nm
    exact (ih _ _ e) _ _ _ _ _ _ _ _ _ _ _ _ _ (O27.pick [0, 1, 2]).nm rfl rfl e_5
  · obtain ⟨A28, c29, q30, k31, r32⟩ := T_api_Expr.g5 e_5
    refine ⟨_, ldk (k := 5) (Sub.refl _) (O.all 2 rfl) q30, _, _, _, rfl, ?_⟩
    exact (ih _ _ e) _ _ _ _ _ _ _ _ _ _ _ _ _ (O.pick [0, 1, 2]).nm rfl rfl e_5
set_option maxRecDepth 100000 in
theorem roadref2_All.l0_k.step_l2 (go : (p : roadref2_All.l0_k.Pt) → Option ((List T_api_Expr))) (ih : ∀ p r, go p = some r → roadref2_All.l0_k.I p r) (a_3 : List T_api_Expr) (a_4 : List T_api_Expr) (y_5 : T_api_Expr) (x_7 : Int) (r : (List T_api_Expr)) (e : roadref2_All.l0_k.body go (.l2 a_3 a_4 y_5 x_7) = some r) : roadref2_All.l0_k.I (.l2 a_3 a_4 y_5 x_7) r := by
  unfold roadref2_All.l0_k.body at e
  intro W h0 m0 h m A_3 n_3 c_3 A_4 n_4 c_4 bk_5 cs_5 O ne_3 ne_4 e_5
  subst ne_3
  subst ne_4
  refine f53.l2_in ?_
  unfold f53.l2T
  refine split_dec_e e (fun c28 e => ?_) (fun c28 e => ?_)
  · obtain ⟨A1, c2, q3, k4, r5⟩ := T_api_Expr.g5 e_5
    refine ⟨_, ldk (k := 5) (Sub.refl _) (O.all 2 rfl) q3, _, _, _, rfl, ?_⟩
    obtain ⟨y6, g7, e⟩ := bind_e e
    refine r5.addr rfl g7 fun a8 cs9 ha10 hc11 he12 => ?_
    refine ⟨_, ldAn O.s hc11 rfl, ?_⟩
    refine ⟨cs9, rfl, (T_api_Expr.T.len _ _ _ he12), ?_⟩
    refine O.new fun h13 x14 O15 => ?_
    have O17 := O15.recell 3 rfl (cs' := cs9 ++ []) rfl
    obtain ⟨l18, g19, e⟩ := bind_e e
    have O26 := O17.rowE (l := ([y6] : List T_api_Expr)) 3 rfl T_api_Expr.T (show CsE _ _ _ _ _ from (CsE.cons he12 (T_api_Expr.T.len _ _ _ he12) CsE.nil)) rfl
    refine O26.app 0 rfl rfl rfl ((O26.os 3 rfl).srcE rfl) (by decide) g19 fun A20 c21 h22 O23 => ?_
    refine ⟨_, _, _, rfl, ?_⟩
    have O27 := O23.nm
    exact (ih _ _ e) _ _ _ _ _ _ _ _ _ _ _ _ _ (O27.pick [0, 1, 2]).nm rfl rfl e_5
  · exact (ih _ _ e) _ _ _ _ _ _ _ _ _ _ _ (O.pick [0, 1]).nm rfl rfl
theorem roadref2_All.l0_k.all {p : roadref2_All.l0_k.Pt} {r : ((List T_api_Expr))} (e : roadref2_All.l0_k.go p = some r) : roadref2_All.l0_k.I p r := fixF_ind (β := fun _ => ((List T_api_Expr))) roadref2_All.l0_k.mono (I := roadref2_All.l0_k.I) (fun go ih p r e => match p with
  | .l0 a_3 a_4 => roadref2_All.l0_k.step_l0 go ih a_3 a_4 r e
  | .l1 a_3 a_4 y_5 x_6 => roadref2_All.l0_k.step_l1 go ih a_3 a_4 y_5 x_6 r e
  | .l2 a_3 a_4 y_5 x_7 => roadref2_All.l0_k.step_l2 go ih a_3 a_4 y_5 x_7 r e
  ) e
theorem roadref2_All.l0.walk {W : Nat → Prop} {h0 m0 h m : Heap} {A_3 : Option Addr} {n_3 c_3 : Nat} {A_4 : Option Addr} {n_4 c_4 : Nat} {a_3 : List T_api_Expr} {a_4 : List T_api_Expr} (O : Hold W h0 m0 h m [rR (aE T_api_Expr.T) A_3 c_3 a_3, rR (aE T_api_Expr.T) A_4 c_4 a_4]) (ne_3 : n_3 = List.length a_3) (ne_4 : n_4 = List.length a_4) {r : (List T_api_Expr)} (e : roadref2_All.l0 a_3 a_4 = some r) : f53.l0 (roadref2_All.post W h0 m0 r) A_3 n_3 c_3 A_4 n_4 c_4 h := roadref2_All.l0_k.all (p := .l0 a_3 a_4) e W h0 m0 h m A_3 n_3 c_3 A_4 n_4 c_4 O ne_3 ne_4
noncomputable def roadref2_All (y_0 : T_api_Expr) : Option ((List T_api_Expr)) :=
  (roadref2_All.l0 ([y_0] : List T_api_Expr) ([] : List T_api_Expr))
set_option maxRecDepth 100000 in
theorem roadref2_All.walk {W : Nat → Prop} {h m : Heap} {cs_0 : List Value} {y_0 : T_api_Expr} (O : Hold W h m h m []) (e_0 : T_api_Expr.E m y_0 cs_0) {r : (List T_api_Expr)} (e : roadref2_All y_0 = some r) : Run Tryd.prog 53 #[Value.agg cs_0.toArray] h (roadref2_All.post W h m r) := by
  unfold roadref2_All at e
  refine f53.run ?_
  unfold f53.runT
  refine O.new fun h1 x2 O3 => ?_
  refine ⟨_, ldAn (Sub.refl _) (O3.all 0 rfl) (T_api_Expr.T.len _ _ _ e_0), ?_⟩
  refine ⟨cs_0, rfl, (T_api_Expr.T.len _ _ _ e_0), ?_⟩
  refine O3.new fun h5 x6 O7 => ?_
  have O9 := O7.recell 1 rfl (cs' := cs_0 ++ []) rfl
  have O10 := O9.rowE (l := ([y_0] : List T_api_Expr)) 1 rfl T_api_Expr.T (show CsE _ _ _ _ _ from (CsE.cons e_0 (T_api_Expr.T.len _ _ _ e_0) CsE.nil)) rfl
  have O11 := O10.nil (aE T_api_Expr.T) none
  have O13 := O11.nm
  exact roadref2_All.l0.walk (O13.pick [1, 2]).nm rfl rfl e
def roadref2_pats.post (W : Nat → Prop) (h0 m0 : Heap) (r : (List T_api_Pat)) (v : Value) (h : Heap) : Prop := ∃ m A0 n0 c0, Hold W h0 m0 h m [rR (aE T_api_Pat.T) A0 c0 r] ∧ v = .slice A0 n0 c0 ∧ n0 = List.length r
inductive roadref2_pats.l0_k.Pt where
  | l0 (a_3 : List T_api_Pat) (x_4 : Int)
noncomputable def roadref2_pats.l0_k.body (go : (p : roadref2_pats.l0_k.Pt) → Option ((List T_api_Pat))) : (p : roadref2_pats.l0_k.Pt) → Option ((List T_api_Pat))
  | .l0 a_3 x_4 => if x_4 < (((List.length a_3) : Nat) : Int) then (Option.bind (gi a_3 x_4) fun y1 => Option.bind (ap 56 a_3 y1.Args) fun l13 => (go (.l0 l13 (IntKind.wrap .i64 (x_4 + (1 : Int)))))) else (some (a_3))
theorem roadref2_pats.l0_k.mono : MonoF (β := fun _ => ((List T_api_Pat))) roadref2_pats.l0_k.body := fun f g hfg p => match p with
  | .l0 a_3 x_4 => LeO.ite (LeO.bind (LeO.refl _) fun y1 => LeO.bind (LeO.refl _) fun l13 => (hfg _)) (LeO.refl _)
noncomputable def roadref2_pats.l0_k.go (p : roadref2_pats.l0_k.Pt) : Option ((List T_api_Pat)) := fixF (β := fun _ => ((List T_api_Pat))) roadref2_pats.l0_k.body p
noncomputable def roadref2_pats.l0 (a_3 : List T_api_Pat) (x_4 : Int) : Option ((List T_api_Pat)) := roadref2_pats.l0_k.go (.l0 a_3 x_4)
theorem roadref2_pats.l0_eq (a_3 : List T_api_Pat) (x_4 : Int) : roadref2_pats.l0 a_3 x_4 = if x_4 < (((List.length a_3) : Nat) : Int) then (Option.bind (gi a_3 x_4) fun y1 => Option.bind (ap 56 a_3 y1.Args) fun l13 => (roadref2_pats.l0 l13 (IntKind.wrap .i64 (x_4 + (1 : Int))))) else (some (a_3)) := fixF_eq roadref2_pats.l0_k.mono _
def roadref2_pats.l0_k.I : (p : roadref2_pats.l0_k.Pt) → ((List T_api_Pat)) → Prop
  | .l0 a_3 x_4, r => ∀ (W : Nat → Prop) (h0 m0 h m : Heap) (A_3 : Option Addr) (n_3 c_3 : Nat) (O : Hold W h0 m0 h m [rR (aE T_api_Pat.T) A_3 c_3 a_3]) (ne_3 : n_3 = List.length a_3), f54.l0 (roadref2_pats.post W h0 m0 r) A_3 n_3 c_3 x_4 h
set_option maxRecDepth 100000 in
theorem roadref2_pats.l0_k.step_l0 (go : (p : roadref2_pats.l0_k.Pt) → Option ((List T_api_Pat))) (ih : ∀ p r, go p = some r → roadref2_pats.l0_k.I p r) (a_3 : List T_api_Pat) (x_4 : Int) (r : (List T_api_Pat)) (e : roadref2_pats.l0_k.body go (.l0 a_3 x_4) = some r) : roadref2_pats.l0_k.I (.l0 a_3 x_4) r := by
  unfold roadref2_pats.l0_k.body at e
  intro W h0 m0 h m A_3 n_3 c_3 O ne_3
  subst ne_3
  refine f54.l0_in ?_
  unfold f54.l0T
  refine split_dec_e e (fun c22 e => ?_) (fun c22 e => ?_)
  · obtain ⟨y1, g2, e⟩ := bind_e e
    refine (O.os 0 rfl).addr rfl g2 fun a3 cs4 ha5 hc6 he7 => ?_
    obtain ⟨A8, c9, q10, k11, r12⟩ := T_api_Pat.g3 he7
    refine ⟨_, ldk (k := 3) (Sub.refl _) hc6 q10, _, _, _, rfl, ?_⟩
    obtain ⟨l13, g14, e⟩ := bind_e e
    refine O.app 0 rfl rfl rfl (Rd.srcE r12 T_api_Pat.T O.s rfl) (by decide) g14 fun A15 c16 h17 O18 => ?_
    refine ⟨_, _, _, rfl, ?_⟩
    have O21 := O18.nm
    exact (ih _ _ e) _ _ _ _ _ _ _ _ (O21.pick [0]).nm rfl
  · cases e
    exact ⟨_, _, _, _, O.pick [0], rfl, rfl⟩
theorem roadref2_pats.l0_k.all {p : roadref2_pats.l0_k.Pt} {r : ((List T_api_Pat))} (e : roadref2_pats.l0_k.go p = some r) : roadref2_pats.l0_k.I p r := fixF_ind (β := fun _ => ((List T_api_Pat))) roadref2_pats.l0_k.mono (I := roadref2_pats.l0_k.I) (fun go ih p r e => match p with
  | .l0 a_3 x_4 => roadref2_pats.l0_k.step_l0 go ih a_3 x_4 r e
  ) e
theorem roadref2_pats.l0.walk {W : Nat → Prop} {h0 m0 h m : Heap} {A_3 : Option Addr} {n_3 c_3 : Nat} {a_3 : List T_api_Pat} {x_4 : Int} (O : Hold W h0 m0 h m [rR (aE T_api_Pat.T) A_3 c_3 a_3]) (ne_3 : n_3 = List.length a_3) {r : (List T_api_Pat)} (e : roadref2_pats.l0 a_3 x_4 = some r) : f54.l0 (roadref2_pats.post W h0 m0 r) A_3 n_3 c_3 x_4 h := roadref2_pats.l0_k.all (p := .l0 a_3 x_4) e W h0 m0 h m A_3 n_3 c_3 O ne_3
noncomputable def roadref2_pats (y_0 : T_api_Pat) : Option ((List T_api_Pat)) :=
  (roadref2_pats.l0 ([y_0] : List T_api_Pat) (0 : Int))
set_option maxRecDepth 100000 in
theorem roadref2_pats.walk {W : Nat → Prop} {h m : Heap} {cs_0 : List Value} {y_0 : T_api_Pat} (O : Hold W h m h m []) (e_0 : T_api_Pat.E m y_0 cs_0) {r : (List T_api_Pat)} (e : roadref2_pats y_0 = some r) : Run Tryd.prog 54 #[Value.agg cs_0.toArray] h (roadref2_pats.post W h m r) := by
  unfold roadref2_pats at e
  refine f54.run ?_
  unfold f54.runT
  refine O.new fun h1 x2 O3 => ?_
  refine ⟨_, ldAn (Sub.refl _) (O3.all 0 rfl) (T_api_Pat.T.len _ _ _ e_0), ?_⟩
  refine ⟨cs_0, rfl, (T_api_Pat.T.len _ _ _ e_0), ?_⟩
  refine O3.new fun h5 x6 O7 => ?_
  have O9 := O7.recell 1 rfl (cs' := cs_0 ++ []) rfl
  have O10 := O9.rowE (l := ([y_0] : List T_api_Pat)) 1 rfl T_api_Pat.T (show CsE _ _ _ _ _ from (CsE.cons e_0 (T_api_Pat.T.len _ _ _ e_0) CsE.nil)) rfl
  have O11 := O10.nm
  exact roadref2_pats.l0.walk (O11.pick [1]).nm rfl e
def roadref2_SizeOf.post (W : Nat → Prop) (h0 m0 : Heap) (r : Int) (v : Value) (h : Heap) : Prop := ∃ m , Hold W h0 m0 h m [] ∧ v = .int .i64 r
inductive roadref2_SizeOf.l0_k.Pt where
  | l0 (x_3 : Int) (a_9 : List T_api_Expr) (x_10 : Int) (x_11 : Int)
  | l1 (x_3 : Int) (a_9 : List T_api_Expr) (x_10 : Int) (x_11 : Int) (a_18 : List T_api_Arm) (x_19 : Int) (x_20 : Int)
noncomputable def roadref2_SizeOf.l0_k.body (go : (p : roadref2_SizeOf.l0_k.Pt) → Option (Int)) : (p : roadref2_SizeOf.l0_k.Pt) → Option (Int)
  | .l0 x_3 a_9 x_10 x_11 => if x_11 < x_10 then (Option.bind (gi a_9 x_11) fun y1 => (go (.l1 (IntKind.wrap .i64 (x_3 + (1 : Int))) a_9 x_10 x_11 y1.Arms (((List.length y1.Arms) : Nat) : Int) (0 : Int)))) else (some (x_3))
  | .l1 x_3 a_9 x_10 x_11 a_18 x_19 x_20 => if x_20 < x_19 then (Option.bind (gi a_18 x_20) fun y1 => Option.bind (roadref2_pats y1.Pat) fun y14 => (go (.l1 (IntKind.wrap .i64 (x_3 + (((List.length y14) : Nat) : Int))) a_9 x_10 x_11 a_18 x_19 (IntKind.wrap .i64 (x_20 + (1 : Int)))))) else ((go (.l0 x_3 a_9 x_10 (IntKind.wrap .i64 (x_11 + (1 : Int))))))
theorem roadref2_SizeOf.l0_k.mono : MonoF (β := fun _ => (Int)) roadref2_SizeOf.l0_k.body := fun f g hfg p => match p with
  | .l0 x_3 a_9 x_10 x_11 => LeO.ite (LeO.bind (LeO.refl _) fun y1 => (hfg _)) (LeO.refl _)
  | .l1 x_3 a_9 x_10 x_11 a_18 x_19 x_20 => LeO.ite (LeO.bind (LeO.refl _) fun y1 => LeO.bind (LeO.refl _) fun y14 => (hfg _)) ((hfg _))
noncomputable def roadref2_SizeOf.l0_k.go (p : roadref2_SizeOf.l0_k.Pt) : Option (Int) := fixF (β := fun _ => (Int)) roadref2_SizeOf.l0_k.body p
noncomputable def roadref2_SizeOf.l0 (x_3 : Int) (a_9 : List T_api_Expr) (x_10 : Int) (x_11 : Int) : Option (Int) := roadref2_SizeOf.l0_k.go (.l0 x_3 a_9 x_10 x_11)
noncomputable def roadref2_SizeOf.l1 (x_3 : Int) (a_9 : List T_api_Expr) (x_10 : Int) (x_11 : Int) (a_18 : List T_api_Arm) (x_19 : Int) (x_20 : Int) : Option (Int) := roadref2_SizeOf.l0_k.go (.l1 x_3 a_9 x_10 x_11 a_18 x_19 x_20)
theorem roadref2_SizeOf.l0_eq (x_3 : Int) (a_9 : List T_api_Expr) (x_10 : Int) (x_11 : Int) : roadref2_SizeOf.l0 x_3 a_9 x_10 x_11 = if x_11 < x_10 then (Option.bind (gi a_9 x_11) fun y1 => (roadref2_SizeOf.l1 (IntKind.wrap .i64 (x_3 + (1 : Int))) a_9 x_10 x_11 y1.Arms (((List.length y1.Arms) : Nat) : Int) (0 : Int))) else (some (x_3)) := fixF_eq roadref2_SizeOf.l0_k.mono _
theorem roadref2_SizeOf.l1_eq (x_3 : Int) (a_9 : List T_api_Expr) (x_10 : Int) (x_11 : Int) (a_18 : List T_api_Arm) (x_19 : Int) (x_20 : Int) : roadref2_SizeOf.l1 x_3 a_9 x_10 x_11 a_18 x_19 x_20 = if x_20 < x_19 then (Option.bind (gi a_18 x_20) fun y1 => Option.bind (roadref2_pats y1.Pat) fun y14 => (roadref2_SizeOf.l1 (IntKind.wrap .i64 (x_3 + (((List.length y14) : Nat) : Int))) a_9 x_10 x_11 a_18 x_19 (IntKind.wrap .i64 (x_20 + (1 : Int))))) else ((roadref2_SizeOf.l0 x_3 a_9 x_10 (IntKind.wrap .i64 (x_11 + (1 : Int))))) := fixF_eq roadref2_SizeOf.l0_k.mono _
def roadref2_SizeOf.l0_k.I : (p : roadref2_SizeOf.l0_k.Pt) → (Int) → Prop
  | .l0 x_3 a_9 x_10 x_11, r => ∀ (W : Nat → Prop) (h0 m0 h m : Heap) (A_9 : Option Addr) (n_9 c_9 : Nat) (O : Hold W h0 m0 h m [rR (aE T_api_Expr.T) A_9 c_9 a_9]) (ne_9 : n_9 = List.length a_9), f40.l0 (roadref2_SizeOf.post W h0 m0 r) x_3 A_9 n_9 c_9 x_10 x_11 h
  | .l1 x_3 a_9 x_10 x_11 a_18 x_19 x_20, r => ∀ (W : Nat → Prop) (h0 m0 h m : Heap) (A_9 : Option Addr) (n_9 c_9 : Nat) (A_18 : Option Addr) (n_18 c_18 : Nat) (O : Hold W h0 m0 h m [rR (aE T_api_Expr.T) A_9 c_9 a_9]) (ne_9 : n_9 = List.length a_9) (ne_18 : n_18 = List.length a_18) (k_18 : List.length a_18 ≤ c_18) (r_18 : Rd 12 T_api_Arm.E m A_18 a_18), f40.l1 (roadref2_SizeOf.post W h0 m0 r) x_3 A_9 n_9 c_9 x_10 x_11 A_18 n_18 c_18 x_19 x_20 h
set_option maxRecDepth 100000 in
theorem roadref2_SizeOf.l0_k.step_l0 (go : (p : roadref2_SizeOf.l0_k.Pt) → Option (Int)) (ih : ∀ p r, go p = some r → roadref2_SizeOf.l0_k.I p r) (x_3 : Int) (a_9 : List T_api_Expr) (x_10 : Int) (x_11 : Int) (r : Int) (e : roadref2_SizeOf.l0_k.body go (.l0 x_3 a_9 x_10 x_11) = some r) : roadref2_SizeOf.l0_k.I (.l0 x_3 a_9 x_10 x_11) r := by
  unfold roadref2_SizeOf.l0_k.body at e
  intro W h0 m0 h m A_9 n_9 c_9 O ne_9
  subst ne_9
  refine f40.l0_in ?_
  unfold f40.l0T
  refine split_dec_e e (fun c20 e => ?_) (fun c20 e => ?_)
  · obtain ⟨y1, g2, e⟩ := bind_e e
    refine (O.os 0 rfl).addr rfl g2 fun a3 cs4 ha5 hc6 he7 => ?_
    refine ⟨_, ldAn (Sub.refl _) hc6 rfl, ?_⟩
    refine O.new fun h8 x9 O10 => ?_
    refine ⟨_, rfl, (T_api_Expr.T.len _ _ _ he7), ?_⟩
    refine O10.stA 1 rfl (T_api_Expr.T.len _ _ _ he7) (T_api_Expr.T.flat _ _ _ he7) fun h12 O13 => ?_
    obtain ⟨A14, c15, q16, k17, r18⟩ := T_api_Expr.g6 he7
    refine ⟨_, ldk (k := 6) (Sub.refl _) (O13.all 1 rfl) q16, _, _, _, rfl, ?_⟩
    have O19 := O13.nm
    exact (ih _ _ e) _ _ _ _ _ _ _ _ _ _ _ (O19.pick [0]).nm rfl rfl k17 r18
  · cases e
    exact ⟨_, O.pick [], rfl⟩
set_option maxRecDepth 100000 in
theorem roadref2_SizeOf.l0_k.step_l1 (go : (p : roadref2_SizeOf.l0_k.Pt) → Option (Int)) (ih : ∀ p r, go p = some r → roadref2_SizeOf.l0_k.I p r) (x_3 : Int) (a_9 : List T_api_Expr) (x_10 : Int) (x_11 : Int) (a_18 : List T_api_Arm) (x_19 : Int) (x_20 : Int) (r : Int) (e : roadref2_SizeOf.l0_k.body go (.l1 x_3 a_9 x_10 x_11 a_18 x_19 x_20) = some r) : roadref2_SizeOf.l0_k.I (.l1 x_3 a_9 x_10 x_11 a_18 x_19 x_20) r := by
  unfold roadref2_SizeOf.l0_k.body at e
  intro W h0 m0 h m A_9 n_9 c_9 A_18 n_18 c_18 O ne_9 ne_18 k_18 r_18
  subst ne_9
  subst ne_18
  refine f40.l1_in ?_
  unfold f40.l1T
  refine split_dec_e e (fun c26 e => ?_) (fun c26 e => ?_)
  · obtain ⟨y1, g2, e⟩ := bind_e e
    refine r_18.addr rfl g2 fun a3 cs4 ha5 hc6 he7 => ?_
    refine ⟨_, ldAn O.s hc6 rfl, ?_⟩
    refine O.new fun h8 x9 O10 => ?_
    refine ⟨_, rfl, (T_api_Arm.T.len _ _ _ he7), ?_⟩
    refine O10.stA 1 rfl (T_api_Arm.T.len _ _ _ he7) (T_api_Arm.T.flat _ _ _ he7) fun h12 O13 => ?_
    refine ⟨_, ldA0n (Sub.refl _) (O13.all 1 rfl) 4 (le_len (T_api_Arm.T.len _ _ _ he7) (by decide)), ?_⟩
    obtain ⟨y14, g15, e⟩ := bind_e e
    refine (roadref2_pats.walk (Hold.start (W := No) O13.s) (T_api_Arm.u0_117 he7) g15).mono ?_
    rintro _ h16 ⟨m17, A20, n21, c22, Q18, rfl, ne23⟩
    have O25 := Hold.nm (O13.ret Q18)
    subst ne23
    refine ⟨_, _, _, rfl, ?_⟩
    exact (ih _ _ e) _ _ _ _ _ _ _ _ _ _ _ (O25.pick [0]).nm rfl rfl k_18 (r_18.sub T_api_Arm.T Q18.S.up)
  · exact (ih _ _ e) _ _ _ _ _ _ _ _ (O.pick [0]).nm rfl
theorem roadref2_SizeOf.l0_k.all {p : roadref2_SizeOf.l0_k.Pt} {r : (Int)} (e : roadref2_SizeOf.l0_k.go p = some r) : roadref2_SizeOf.l0_k.I p r := fixF_ind (β := fun _ => (Int)) roadref2_SizeOf.l0_k.mono (I := roadref2_SizeOf.l0_k.I) (fun go ih p r e => match p with
  | .l0 x_3 a_9 x_10 x_11 => roadref2_SizeOf.l0_k.step_l0 go ih x_3 a_9 x_10 x_11 r e
  | .l1 x_3 a_9 x_10 x_11 a_18 x_19 x_20 => roadref2_SizeOf.l0_k.step_l1 go ih x_3 a_9 x_10 x_11 a_18 x_19 x_20 r e
  ) e
theorem roadref2_SizeOf.l0.walk {W : Nat → Prop} {h0 m0 h m : Heap} {A_9 : Option Addr} {n_9 c_9 : Nat} {x_3 : Int} {a_9 : List T_api_Expr} {x_10 : Int} {x_11 : Int} (O : Hold W h0 m0 h m [rR (aE T_api_Expr.T) A_9 c_9 a_9]) (ne_9 : n_9 = List.length a_9) {r : Int} (e : roadref2_SizeOf.l0 x_3 a_9 x_10 x_11 = some r) : f40.l0 (roadref2_SizeOf.post W h0 m0 r) x_3 A_9 n_9 c_9 x_10 x_11 h := roadref2_SizeOf.l0_k.all (p := .l0 x_3 a_9 x_10 x_11) e W h0 m0 h m A_9 n_9 c_9 O ne_9
noncomputable def roadref2_SizeOf (y_0 : T_api_Expr) : Option (Int) :=
  Option.bind (roadref2_All y_0) fun y5 => (roadref2_SizeOf.l0 (0 : Int) y5 (((List.length y5) : Nat) : Int) (0 : Int))
set_option maxRecDepth 100000 in
theorem roadref2_SizeOf.walk {W : Nat → Prop} {h m : Heap} {cs_0 : List Value} {y_0 : T_api_Expr} (O : Hold W h m h m []) (e_0 : T_api_Expr.E m y_0 cs_0) {r : Int} (e : roadref2_SizeOf y_0 = some r) : Run Tryd.prog 40 #[Value.agg cs_0.toArray] h (roadref2_SizeOf.post W h m r) := by
  unfold roadref2_SizeOf at e
  refine f40.run ?_
  unfold f40.runT
  refine O.new fun h1 x2 O3 => ?_
  refine ⟨_, ldAn (Sub.refl _) (O3.all 0 rfl) (T_api_Expr.T.len _ _ _ e_0), ?_⟩
  obtain ⟨y5, g6, e⟩ := bind_e e
  refine (roadref2_All.walk (Hold.start (W := No) O3.s) e_0 g6).mono ?_
  rintro _ h7 ⟨m8, A11, n12, c13, Q9, rfl, ne14⟩
  have O16 := Hold.nm (O3.ret Q9)
  subst ne14
  refine ⟨_, _, _, rfl, ?_⟩
  exact roadref2_SizeOf.l0.walk (O16.pick [1]).nm rfl e
def roadlaw2_small.post (W : Nat → Prop) (h0 m0 : Heap) (r : Bool) (v : Value) (h : Heap) : Prop := ∃ m , Hold W h0 m0 h m [] ∧ v = .bool r
inductive roadlaw2_small.l0_k.Pt where
  | l0 (x_3 : Int) (a_7 : List T_api_Expr) (x_8 : Int) (x_9 : Int)
noncomputable def roadlaw2_small.l0_k.body (go : (p : roadlaw2_small.l0_k.Pt) → Option (Bool)) : (p : roadlaw2_small.l0_k.Pt) → Option (Bool)
  | .l0 x_3 a_7 x_8 x_9 => if x_9 < x_8 then (Option.bind (gi a_7 x_9) fun y1 => Option.bind (roadref2_SizeOf y1) fun y14 => (go (.l0 (IntKind.wrap .i64 (x_3 + y14)) a_7 x_8 (IntKind.wrap .i64 (x_9 + (1 : Int)))))) else (some ((decide (x_3 ≤ (400 : Int)))))
theorem roadlaw2_small.l0_k.mono : MonoF (β := fun _ => (Bool)) roadlaw2_small.l0_k.body := fun f g hfg p => match p with
  | .l0 x_3 a_7 x_8 x_9 => LeO.ite (LeO.bind (LeO.refl _) fun y1 => LeO.bind (LeO.refl _) fun y14 => (hfg _)) (LeO.refl _)
noncomputable def roadlaw2_small.l0_k.go (p : roadlaw2_small.l0_k.Pt) : Option (Bool) := fixF (β := fun _ => (Bool)) roadlaw2_small.l0_k.body p
noncomputable def roadlaw2_small.l0 (x_3 : Int) (a_7 : List T_api_Expr) (x_8 : Int) (x_9 : Int) : Option (Bool) := roadlaw2_small.l0_k.go (.l0 x_3 a_7 x_8 x_9)
theorem roadlaw2_small.l0_eq (x_3 : Int) (a_7 : List T_api_Expr) (x_8 : Int) (x_9 : Int) : roadlaw2_small.l0 x_3 a_7 x_8 x_9 = if x_9 < x_8 then (Option.bind (gi a_7 x_9) fun y1 => Option.bind (roadref2_SizeOf y1) fun y14 => (roadlaw2_small.l0 (IntKind.wrap .i64 (x_3 + y14)) a_7 x_8 (IntKind.wrap .i64 (x_9 + (1 : Int))))) else (some ((decide (x_3 ≤ (400 : Int))))) := fixF_eq roadlaw2_small.l0_k.mono _
def roadlaw2_small.l0_k.I : (p : roadlaw2_small.l0_k.Pt) → (Bool) → Prop
  | .l0 x_3 a_7 x_8 x_9, r => ∀ (W : Nat → Prop) (h0 m0 h m : Heap) (A_7 : Option Addr) (n_7 c_7 : Nat) (O : Hold W h0 m0 h m [rR (aE T_api_Expr.T) A_7 c_7 a_7]) (ne_7 : n_7 = List.length a_7), f20.l0 (roadlaw2_small.post W h0 m0 r) x_3 A_7 n_7 c_7 x_8 x_9 h
set_option maxRecDepth 100000 in
theorem roadlaw2_small.l0_k.step_l0 (go : (p : roadlaw2_small.l0_k.Pt) → Option (Bool)) (ih : ∀ p r, go p = some r → roadlaw2_small.l0_k.I p r) (x_3 : Int) (a_7 : List T_api_Expr) (x_8 : Int) (x_9 : Int) (r : Bool) (e : roadlaw2_small.l0_k.body go (.l0 x_3 a_7 x_8 x_9) = some r) : roadlaw2_small.l0_k.I (.l0 x_3 a_7 x_8 x_9) r := by
  unfold roadlaw2_small.l0_k.body at e
  intro W h0 m0 h m A_7 n_7 c_7 O ne_7
  subst ne_7
  refine f20.l0_in ?_
  unfold f20.l0T
  refine split_dec_e e (fun c21 e => ?_) (fun c21 e => ?_)
  · obtain ⟨y1, g2, e⟩ := bind_e e
    refine (O.os 0 rfl).addr rfl g2 fun a3 cs4 ha5 hc6 he7 => ?_
    refine ⟨_, ldAn (Sub.refl _) hc6 rfl, ?_⟩
    refine O.new fun h8 x9 O10 => ?_
    refine ⟨_, rfl, (T_api_Expr.T.len _ _ _ he7), ?_⟩
    refine O10.stA 1 rfl (T_api_Expr.T.len _ _ _ he7) (T_api_Expr.T.flat _ _ _ he7) fun h12 O13 => ?_
    refine ⟨_, ldAn (Sub.refl _) (O13.all 1 rfl) (T_api_Expr.T.len _ _ _ he7), ?_⟩
    obtain ⟨y14, g15, e⟩ := bind_e e
    refine (roadref2_SizeOf.walk (Hold.start (W := No) O13.s) he7 g15).mono ?_
    rintro _ h16 ⟨m17, Q18, rfl⟩
    have O20 := Hold.nm (O13.retC Q18 vfs_nil)
    refine ⟨_, rfl, ?_⟩
    exact (ih _ _ e) _ _ _ _ _ _ _ _ (O20.pick [0]).nm rfl
  · cases e
    exact ⟨_, O.pick [], rfl⟩
theorem roadlaw2_small.l0_k.all {p : roadlaw2_small.l0_k.Pt} {r : (Bool)} (e : roadlaw2_small.l0_k.go p = some r) : roadlaw2_small.l0_k.I p r := fixF_ind (β := fun _ => (Bool)) roadlaw2_small.l0_k.mono (I := roadlaw2_small.l0_k.I) (fun go ih p r e => match p with
  | .l0 x_3 a_7 x_8 x_9 => roadlaw2_small.l0_k.step_l0 go ih x_3 a_7 x_8 x_9 r e
  ) e
theorem roadlaw2_small.l0.walk {W : Nat → Prop} {h0 m0 h m : Heap} {A_7 : Option Addr} {n_7 c_7 : Nat} {x_3 : Int} {a_7 : List T_api_Expr} {x_8 : Int} {x_9 : Int} (O : Hold W h0 m0 h m [rR (aE T_api_Expr.T) A_7 c_7 a_7]) (ne_7 : n_7 = List.length a_7) {r : Bool} (e : roadlaw2_small.l0 x_3 a_7 x_8 x_9 = some r) : f20.l0 (roadlaw2_small.post W h0 m0 r) x_3 A_7 n_7 c_7 x_8 x_9 h := roadlaw2_small.l0_k.all (p := .l0 x_3 a_7 x_8 x_9) e W h0 m0 h m A_7 n_7 c_7 O ne_7
noncomputable def roadlaw2_small (y_0 : T_api_Program) : Option (Bool) :=
  Option.bind (roadref2_BodiesOf y_0) fun y5 => (roadlaw2_small.l0 (0 : Int) y5 (((List.length y5) : Nat) : Int) (0 : Int))
set_option maxRecDepth 100000 in
theorem roadlaw2_small.walk {W : Nat → Prop} {h m : Heap} {cs_0 : List Value} {y_0 : T_api_Program} (O : Hold W h m h m []) (e_0 : T_api_Program.E m y_0 cs_0) {r : Bool} (e : roadlaw2_small y_0 = some r) : Run Tryd.prog 20 #[Value.agg cs_0.toArray] h (roadlaw2_small.post W h m r) := by
  unfold roadlaw2_small at e
  refine f20.run ?_
  unfold f20.runT
  refine O.new fun h1 x2 O3 => ?_
  refine ⟨_, ldAn (Sub.refl _) (O3.all 0 rfl) (T_api_Program.T.len _ _ _ e_0), ?_⟩
  obtain ⟨y5, g6, e⟩ := bind_e e
  refine (roadref2_BodiesOf.walk (Hold.start (W := No) O3.s) e_0 g6).mono ?_
  rintro _ h7 ⟨m8, A11, n12, c13, Q9, rfl, ne14⟩
  have O16 := Hold.nm (O3.ret Q9)
  subst ne14
  refine ⟨_, _, _, rfl, ?_⟩
  exact roadlaw2_small.l0.walk (O16.pick [1]).nm rfl e
def slices_Contains_6.post (W : Nat → Prop) (h0 m0 : Heap) (r : Bool) (v : Value) (h : Heap) : Prop := ∃ m , Hold W h0 m0 h m [] ∧ v = .bool r
noncomputable def slices_Contains_6 (a_0 : List ByteArray) (s_1 : ByteArray) : Option (Bool) :=
  Option.bind (slices_Index_33 a_0 s_1) fun y1 => some ((decide (y1 ≥ (0 : Int))))
set_option maxRecDepth 100000 in
theorem slices_Contains_6.walk {W : Nat → Prop} {h m : Heap} {A_0 : Option Addr} {n_0 c_0 : Nat} {a_0 : List ByteArray} {s_1 : ByteArray} (O : Hold W h m h m []) (ne_0 : n_0 = List.length a_0) (k_0 : List.length a_0 ≤ c_0) (r_0 : Rd 1 eStr m A_0 a_0) {r : Bool} (e : slices_Contains_6 a_0 s_1 = some r) : Run Tryd.prog 6 #[Value.slice A_0 n_0 c_0, Value.string s_1] h (slices_Contains_6.post W h m r) := by
  unfold slices_Contains_6 at e
  subst ne_0
  refine f6.run ?_
  unfold f6.runT
  obtain ⟨y1, g2, e⟩ := bind_e e
  refine (slices_Index_33.walk (Hold.start (W := No) O.s) rfl k_0 r_0 g2).mono ?_
  rintro _ h3 ⟨m4, Q5, rfl⟩
  have O7 := Hold.nm (O.retC Q5 vfs_nil)
  refine ⟨_, rfl, ?_⟩
  cases e
  exact ⟨_, O7.pick [], rfl⟩
theorem slices_Contains_6.val {l : List ByteArray} (v : ByteArray) (hl : l.length ≤ 4611686018427387904) : slices_Contains_6 l v = some (l.any fun y => decide (v = y)) := contains_any (fun a p n i => slices_Index_33.l0_eq a p n i) (fun _ _ => rfl) (fun _ _ => rfl) v hl
def kind_Data.post (W : Nat → Prop) (h0 m0 : Heap) (r : T_api_Data × Int) (v : Value) (h : Heap) : Prop := ∃ m cs0, Hold W h0 m0 h m [] ∧ v = .tuple #[.agg cs0.toArray, .int .i64 r.2] ∧ T_api_Data.E m r.1 cs0
inductive kind_Data.l0_k.Pt where
  | l0 (s_1 : ByteArray) (y_4 : T_api_Data) (a_9 : List T_api_Data) (x_10 : Int) (x_11 : Int)
noncomputable def kind_Data.l0_k.body (go : (p : kind_Data.l0_k.Pt) → Option (T_api_Data × Int)) : (p : kind_Data.l0_k.Pt) → Option (T_api_Data × Int)
  | .l0 s_1 y_4 a_9 x_10 x_11 => if x_11 < x_10 then (Option.bind (gi a_9 x_11) fun y1 => if y1.Name = s_1 then (some (y1, (0 : Int))) else ((go (.l0 s_1 y_4 a_9 x_10 (IntKind.wrap .i64 (x_11 + (1 : Int))))))) else (some ((T_api_Data.mk (ByteArray.mk #[]) ([] : List ByteArray) ([] : List T_api_Make)), (11 : Int)))
theorem kind_Data.l0_k.mono : MonoF (β := fun _ => (T_api_Data × Int)) kind_Data.l0_k.body := fun f g hfg p => match p with
  | .l0 s_1 y_4 a_9 x_10 x_11 => LeO.ite (LeO.bind (LeO.refl _) fun y1 => LeO.ite (LeO.refl _) ((hfg _))) (LeO.refl _)
noncomputable def kind_Data.l0_k.go (p : kind_Data.l0_k.Pt) : Option (T_api_Data × Int) := fixF (β := fun _ => (T_api_Data × Int)) kind_Data.l0_k.body p
noncomputable def kind_Data.l0 (s_1 : ByteArray) (y_4 : T_api_Data) (a_9 : List T_api_Data) (x_10 : Int) (x_11 : Int) : Option (T_api_Data × Int) := kind_Data.l0_k.go (.l0 s_1 y_4 a_9 x_10 x_11)
theorem kind_Data.l0_eq (s_1 : ByteArray) (y_4 : T_api_Data) (a_9 : List T_api_Data) (x_10 : Int) (x_11 : Int) : kind_Data.l0 s_1 y_4 a_9 x_10 x_11 = if x_11 < x_10 then (Option.bind (gi a_9 x_11) fun y1 => if y1.Name = s_1 then (some (y1, (0 : Int))) else ((kind_Data.l0 s_1 y_4 a_9 x_10 (IntKind.wrap .i64 (x_11 + (1 : Int)))))) else (some ((T_api_Data.mk (ByteArray.mk #[]) ([] : List ByteArray) ([] : List T_api_Make)), (11 : Int))) := fixF_eq kind_Data.l0_k.mono _
def kind_Data.l0_k.I : (p : kind_Data.l0_k.Pt) → (T_api_Data × Int) → Prop
  | .l0 s_1 y_4 a_9 x_10 x_11, r => ∀ (W : Nat → Prop) (h0 m0 h m : Heap) (bk_4 : Nat) (cs_4 : List Value) (A_9 : Option Addr) (n_9 c_9 : Nat) (O : Hold W h0 m0 h m [rV bk_4 63 cs_4]) (e_4 : T_api_Data.E m y_4 cs_4) (ne_9 : n_9 = List.length a_9) (k_9 : List.length a_9 ≤ c_9) (r_9 : Rd 3 T_api_Data.E m A_9 a_9), f23.l0 (kind_Data.post W h0 m0 r) s_1 (⟨bk_4, 0, none⟩ : Addr) A_9 n_9 c_9 x_10 x_11 h
set_option maxRecDepth 100000 in
theorem kind_Data.l0_k.step_l0 (go : (p : kind_Data.l0_k.Pt) → Option (T_api_Data × Int)) (ih : ∀ p r, go p = some r → kind_Data.l0_k.I p r) (s_1 : ByteArray) (y_4 : T_api_Data) (a_9 : List T_api_Data) (x_10 : Int) (x_11 : Int) (r : T_api_Data × Int) (e : kind_Data.l0_k.body go (.l0 s_1 y_4 a_9 x_10 x_11) = some r) : kind_Data.l0_k.I (.l0 s_1 y_4 a_9 x_10 x_11) r := by
  unfold kind_Data.l0_k.body at e
  intro W h0 m0 h m bk_4 cs_4 A_9 n_9 c_9 O e_4 ne_9 k_9 r_9
  subst ne_9
  refine f23.l0_in ?_
  unfold f23.l0T
  refine split_dec_e e (fun c22 e => ?_) (fun c22 e => ?_)
  · obtain ⟨y1, g2, e⟩ := bind_e e
    refine r_9.addr rfl g2 fun a3 cs4 ha5 hc6 he7 => ?_
    refine ⟨_, ldAn O.s hc6 rfl, ?_⟩
    refine O.new fun h8 x9 O10 => ?_
    refine ⟨_, rfl, (T_api_Data.T.len _ _ _ he7), ?_⟩
    refine O10.stA 1 rfl (T_api_Data.T.len _ _ _ he7) (T_api_Data.T.flat _ _ _ he7) fun h12 O13 => ?_
    refine ⟨_, ld0 (Sub.refl _) (O13.all 1 rfl) (T_api_Data.g0 he7), _, rfl, ?_⟩
    try rw [ba_list y1.Name s_1]
    refine split_dec_e e (fun c18 e => ?_) (fun c18 e => ?_)
    · refine ⟨_, ldAn (Sub.refl _) (O13.all 1 rfl) (T_api_Data.T.len _ _ _ he7), ?_⟩
      refine ⟨_, rfl, (T_api_Data.T.len _ _ _ he7), ?_⟩
      refine O13.stA 0 rfl ((T_api_Data.T.len _ _ _ he7).trans ((T_api_Data.T.len _ _ _ e_4)).symm) (T_api_Data.T.flat _ _ _ he7) fun h14 O15 => ?_
      refine ⟨_, ldAn (Sub.refl _) (O15.all 0 rfl) (T_api_Data.T.len _ _ _ he7), ?_⟩
      have O16 := O15.nm
      cases e
      exact ⟨_, _, O16.pick [], rfl, he7⟩
    · have O17 := O13.nm
      exact (ih _ _ e) _ _ _ _ _ _ _ _ _ _ (O17.pick [0]).nm e_4 rfl k_9 r_9
  · refine ⟨_, rfl, rfl, ?_⟩
    refine O.stA 0 rfl ((T_api_Data.T.len _ _ _ e_4)).symm (Flats.cons trivial (Flats.cons trivial (Flats.cons trivial Flats.nil))) fun h19 O20 => ?_
    refine ⟨_, ldAn (Sub.refl _) (O20.all 0 rfl) rfl, ?_⟩
    have O21 := O20.nm
    cases e
    exact ⟨_, _, O21.pick [], rfl, (show T_api_Data.E _ (T_api_Data.mk (ByteArray.mk #[]) ([] : List ByteArray) ([] : List T_api_Make)) [(Value.string (ByteArray.mk #[])), (Value.slice none 0 0), (Value.slice none 0 0)] from ⟨_, _, _, _, rfl, (by exact Nat.le_refl 0), Rd.nil, (by exact Nat.le_refl 0), Rd.nil⟩)⟩
theorem kind_Data.l0_k.all {p : kind_Data.l0_k.Pt} {r : (T_api_Data × Int)} (e : kind_Data.l0_k.go p = some r) : kind_Data.l0_k.I p r := fixF_ind (β := fun _ => (T_api_Data × Int)) kind_Data.l0_k.mono (I := kind_Data.l0_k.I) (fun go ih p r e => match p with
  | .l0 s_1 y_4 a_9 x_10 x_11 => kind_Data.l0_k.step_l0 go ih s_1 y_4 a_9 x_10 x_11 r e
  ) e
theorem kind_Data.l0.walk {W : Nat → Prop} {h0 m0 h m : Heap} {bk_4 : Nat} {cs_4 : List Value} {A_9 : Option Addr} {n_9 c_9 : Nat} {s_1 : ByteArray} {y_4 : T_api_Data} {a_9 : List T_api_Data} {x_10 : Int} {x_11 : Int} (O : Hold W h0 m0 h m [rV bk_4 63 cs_4]) (e_4 : T_api_Data.E m y_4 cs_4) (ne_9 : n_9 = List.length a_9) (k_9 : List.length a_9 ≤ c_9) (r_9 : Rd 3 T_api_Data.E m A_9 a_9) {r : T_api_Data × Int} (e : kind_Data.l0 s_1 y_4 a_9 x_10 x_11 = some r) : f23.l0 (kind_Data.post W h0 m0 r) s_1 (⟨bk_4, 0, none⟩ : Addr) A_9 n_9 c_9 x_10 x_11 h := kind_Data.l0_k.all (p := .l0 s_1 y_4 a_9 x_10 x_11) e W h0 m0 h m bk_4 cs_4 A_9 n_9 c_9 O e_4 ne_9 k_9 r_9
noncomputable def kind_Data (y_0 : T_api_Program) (s_1 : ByteArray) : Option (T_api_Data × Int) :=
  (kind_Data.l0 s_1 (T_api_Data.mk (ByteArray.mk #[]) ([] : List ByteArray) ([] : List T_api_Make)) y_0.Datas (((List.length y_0.Datas) : Nat) : Int) (0 : Int))
set_option maxRecDepth 100000 in
theorem kind_Data.walk {W : Nat → Prop} {h m : Heap} {cs_0 : List Value} {y_0 : T_api_Program} {s_1 : ByteArray} (O : Hold W h m h m []) (e_0 : T_api_Program.E m y_0 cs_0) {r : T_api_Data × Int} (e : kind_Data y_0 s_1 = some r) : Run Tryd.prog 23 #[Value.agg cs_0.toArray, Value.string s_1] h (kind_Data.post W h m r) := by
  unfold kind_Data at e
  refine f23.run ?_
  unfold f23.runT
  refine O.new fun h1 x2 O3 => ?_
  refine O3.new fun h5 x6 O7 => ?_
  obtain ⟨A9, c10, q11, k12, r13⟩ := T_api_Program.g3 e_0
  refine ⟨_, ldk (k := 3) (Sub.refl _) (O7.all 0 rfl) q11, _, _, _, rfl, ?_⟩
  have O14 := O7.nm
  exact kind_Data.l0.walk (O14.pick [1]).nm (show T_api_Data.E _ (T_api_Data.mk (ByteArray.mk #[]) ([] : List ByteArray) ([] : List T_api_Make)) [(Value.string (ByteArray.mk #[])), (Value.slice none 0 0), (Value.slice none 0 0)] from ⟨_, _, _, _, rfl, (by exact Nat.le_refl 0), Rd.nil, (by exact Nat.le_refl 0), Rd.nil⟩) rfl k12 r13 e
def kind_Type.post (W : Nat → Prop) (h0 m0 : Heap) (r : Int) (v : Value) (h : Heap) : Prop := ∃ m , Hold W h0 m0 h m [] ∧ v = .int .i64 r
def kind_Types.post (W : Nat → Prop) (h0 m0 : Heap) (r : Int) (v : Value) (h : Heap) : Prop := ∃ m , Hold W h0 m0 h m [] ∧ v = .int .i64 r
inductive kind_Type_k.Pt where
  | f_26 (y_0 : T_api_Program) (a_1 : List ByteArray) (y_2 : T_api_Type)
  | j0_26 (a_1 : List ByteArray) (y_3 : T_api_Program) (y_5 : T_api_Type)
  | f_28 (y_0 : T_api_Program) (a_1 : List ByteArray) (a_2 : List T_api_Type)
  | l0_28 (a_1 : List ByteArray) (y_3 : T_api_Program) (a_10 : List T_api_Type) (x_11 : Int) (x_12 : Int)
noncomputable def kind_Type_k.body (go : (p : kind_Type_k.Pt) → Option (Int)) : (p : kind_Type_k.Pt) → Option (Int)
  | .f_26 y_0 a_1 y_2 => if y_2.Kind = (5 : Int) then (Option.bind (slices_Contains_6 a_1 y_2.Name) fun y9 => if y9 = true then ((go (.j0_26 a_1 y_0 y_2))) else (some ((11 : Int)))) else (if y_2.Kind = (6 : Int) then (Option.bind (kind_Data y_0 y_2.Name) fun y17 => if y17.2 = (0 : Int) then (if (((List.length y17.1.Params) : Nat) : Int) = (((List.length y_2.Args) : Nat) : Int) then ((go (.j0_26 a_1 y_0 y_2))) else (some ((13 : Int)))) else (some (y17.2))) else ((go (.j0_26 a_1 y_0 y_2))))
  | .j0_26 a_1 y_3 y_5 => Option.bind ((go (.f_28 y_3 a_1 y_5.Args))) fun y6 => some (y6)
  | .f_28 y_0 a_1 a_2 => (go (.l0_28 a_1 y_0 a_2 (((List.length a_2) : Nat) : Int) (0 : Int)))
  | .l0_28 a_1 y_3 a_10 x_11 x_12 => if x_12 < x_11 then (Option.bind (gi a_10 x_12) fun y1 => Option.bind ((go (.f_26 y_3 a_1 y1))) fun y14 => if y14 = (0 : Int) then ((go (.l0_28 a_1 y_3 a_10 x_11 (IntKind.wrap .i64 (x_12 + (1 : Int)))))) else (some (y14))) else (some ((0 : Int)))
theorem kind_Type_k.mono : MonoF (β := fun _ => (Int)) kind_Type_k.body := fun f g hfg p => match p with
  | .f_26 y_0 a_1 y_2 => LeO.ite (LeO.bind (LeO.refl _) fun y9 => LeO.ite ((hfg _)) (LeO.refl _)) (LeO.ite (LeO.bind (LeO.refl _) fun y17 => LeO.ite (LeO.ite ((hfg _)) (LeO.refl _)) (LeO.refl _)) ((hfg _)))
  | .j0_26 a_1 y_3 y_5 => LeO.bind ((hfg _)) fun y6 => LeO.refl _
  | .f_28 y_0 a_1 a_2 => (hfg _)
  | .l0_28 a_1 y_3 a_10 x_11 x_12 => LeO.ite (LeO.bind (LeO.refl _) fun y1 => LeO.bind ((hfg _)) fun y14 => LeO.ite ((hfg _)) (LeO.refl _)) (LeO.refl _)
noncomputable def kind_Type_k.go (p : kind_Type_k.Pt) : Option (Int) := fixF (β := fun _ => (Int)) kind_Type_k.body p
noncomputable def kind_Type (y_0 : T_api_Program) (a_1 : List ByteArray) (y_2 : T_api_Type) : Option (Int) := kind_Type_k.go (.f_26 y_0 a_1 y_2)
noncomputable def kind_Type.j0 (a_1 : List ByteArray) (y_3 : T_api_Program) (y_5 : T_api_Type) : Option (Int) := kind_Type_k.go (.j0_26 a_1 y_3 y_5)
noncomputable def kind_Types (y_0 : T_api_Program) (a_1 : List ByteArray) (a_2 : List T_api_Type) : Option (Int) := kind_Type_k.go (.f_28 y_0 a_1 a_2)
noncomputable def kind_Types.l0 (a_1 : List ByteArray) (y_3 : T_api_Program) (a_10 : List T_api_Type) (x_11 : Int) (x_12 : Int) : Option (Int) := kind_Type_k.go (.l0_28 a_1 y_3 a_10 x_11 x_12)
theorem kind_Type_eq (y_0 : T_api_Program) (a_1 : List ByteArray) (y_2 : T_api_Type) : kind_Type y_0 a_1 y_2 = if y_2.Kind = (5 : Int) then (Option.bind (slices_Contains_6 a_1 y_2.Name) fun y9 => if y9 = true then ((kind_Type.j0 a_1 y_0 y_2)) else (some ((11 : Int)))) else (if y_2.Kind = (6 : Int) then (Option.bind (kind_Data y_0 y_2.Name) fun y17 => if y17.2 = (0 : Int) then (if (((List.length y17.1.Params) : Nat) : Int) = (((List.length y_2.Args) : Nat) : Int) then ((kind_Type.j0 a_1 y_0 y_2)) else (some ((13 : Int)))) else (some (y17.2))) else ((kind_Type.j0 a_1 y_0 y_2))) := fixF_eq kind_Type_k.mono _
theorem kind_Type.j0_eq (a_1 : List ByteArray) (y_3 : T_api_Program) (y_5 : T_api_Type) : kind_Type.j0 a_1 y_3 y_5 = Option.bind ((kind_Types y_3 a_1 y_5.Args)) fun y6 => some (y6) := fixF_eq kind_Type_k.mono _
theorem kind_Types_eq (y_0 : T_api_Program) (a_1 : List ByteArray) (a_2 : List T_api_Type) : kind_Types y_0 a_1 a_2 = (kind_Types.l0 a_1 y_0 a_2 (((List.length a_2) : Nat) : Int) (0 : Int)) := fixF_eq kind_Type_k.mono _
theorem kind_Types.l0_eq (a_1 : List ByteArray) (y_3 : T_api_Program) (a_10 : List T_api_Type) (x_11 : Int) (x_12 : Int) : kind_Types.l0 a_1 y_3 a_10 x_11 x_12 = if x_12 < x_11 then (Option.bind (gi a_10 x_12) fun y1 => Option.bind ((kind_Type y_3 a_1 y1)) fun y14 => if y14 = (0 : Int) then ((kind_Types.l0 a_1 y_3 a_10 x_11 (IntKind.wrap .i64 (x_12 + (1 : Int))))) else (some (y14))) else (some ((0 : Int))) := fixF_eq kind_Type_k.mono _
def kind_Type_k.I : (p : kind_Type_k.Pt) → (Int) → Prop
  | .f_26 y_0 a_1 y_2, r => ∀ (W : Nat → Prop) (h m : Heap) (cs_0 : List Value) (A_1 : Option Addr) (n_1 c_1 : Nat) (cs_2 : List Value) (O : Hold W h m h m []) (e_0 : T_api_Program.E m y_0 cs_0) (ne_1 : n_1 = List.length a_1) (k_1 : List.length a_1 ≤ c_1) (r_1 : Rd 1 eStr m A_1 a_1) (e_2 : T_api_Type.E m y_2 cs_2), Run Tryd.prog 26 #[Value.agg cs_0.toArray, Value.slice A_1 n_1 c_1, Value.agg cs_2.toArray] h (kind_Type.post W h m r)
  | .j0_26 a_1 y_3 y_5, r => ∀ (W : Nat → Prop) (h0 m0 h m : Heap) (A_1 : Option Addr) (n_1 c_1 : Nat) (bk_3 : Nat) (cs_3 : List Value) (bk_5 : Nat) (cs_5 : List Value) (O : Hold W h0 m0 h m [rV bk_3 54 cs_3, rV bk_5 25 cs_5]) (ne_1 : n_1 = List.length a_1) (k_1 : List.length a_1 ≤ c_1) (r_1 : Rd 1 eStr m A_1 a_1) (e_3 : T_api_Program.E m y_3 cs_3) (e_5 : T_api_Type.E m y_5 cs_5), f26.j0 (kind_Type.post W h0 m0 r) A_1 n_1 c_1 (⟨bk_3, 0, none⟩ : Addr) (⟨bk_5, 0, none⟩ : Addr) h
  | .f_28 y_0 a_1 a_2, r => ∀ (W : Nat → Prop) (h m : Heap) (cs_0 : List Value) (A_1 : Option Addr) (n_1 c_1 : Nat) (A_2 : Option Addr) (n_2 c_2 : Nat) (O : Hold W h m h m []) (e_0 : T_api_Program.E m y_0 cs_0) (ne_1 : n_1 = List.length a_1) (k_1 : List.length a_1 ≤ c_1) (r_1 : Rd 1 eStr m A_1 a_1) (ne_2 : n_2 = List.length a_2) (k_2 : List.length a_2 ≤ c_2) (r_2 : Rd 3 T_api_Type.E m A_2 a_2), Run Tryd.prog 28 #[Value.agg cs_0.toArray, Value.slice A_1 n_1 c_1, Value.slice A_2 n_2 c_2] h (kind_Types.post W h m r)
  | .l0_28 a_1 y_3 a_10 x_11 x_12, r => ∀ (W : Nat → Prop) (h0 m0 h m : Heap) (A_1 : Option Addr) (n_1 c_1 : Nat) (bk_3 : Nat) (cs_3 : List Value) (A_10 : Option Addr) (n_10 c_10 : Nat) (O : Hold W h0 m0 h m [rV bk_3 54 cs_3]) (ne_1 : n_1 = List.length a_1) (k_1 : List.length a_1 ≤ c_1) (r_1 : Rd 1 eStr m A_1 a_1) (e_3 : T_api_Program.E m y_3 cs_3) (ne_10 : n_10 = List.length a_10) (k_10 : List.length a_10 ≤ c_10) (r_10 : Rd 3 T_api_Type.E m A_10 a_10), f28.l0 (kind_Types.post W h0 m0 r) A_1 n_1 c_1 (⟨bk_3, 0, none⟩ : Addr) A_10 n_10 c_10 x_11 x_12 h
set_option maxHeartbeats 4000000 in
set_option maxRecDepth 100000 in
theorem kind_Type_k.step_f_26 (go : (p : kind_Type_k.Pt) → Option (Int)) (ih : ∀ p r, go p = some r → kind_Type_k.I p r) (y_0 : T_api_Program) (a_1 : List ByteArray) (y_2 : T_api_Type) (r : Int) (e : kind_Type_k.body go (.f_26 y_0 a_1 y_2) = some r) : kind_Type_k.I (.f_26 y_0 a_1 y_2) r := by
  unfold kind_Type_k.body at e
  intro W h m cs_0 A_1 n_1 c_1 cs_2 O e_0 ne_1 k_1 r_1 e_2
  subst ne_1
  refine f26.run ?_
  unfold f26.runT
  refine O.new fun h1 x2 O3 => ?_
  refine O3.new fun h5 x6 O7 => ?_
  refine ⟨_, ld0 (Sub.refl _) (O7.all 1 rfl) (T_api_Type.g0 e_2), _, rfl, ?_⟩
  refine split_eq_e e (fun c50 e => ?_) (fun c50 e => ?_)
  · refine ⟨_, ldk (k := 1) (Sub.refl _) (O7.all 1 rfl) (T_api_Type.g1 e_2), _, rfl, ?_⟩
    obtain ⟨y9, g10, e⟩ := bind_e e
    refine (slices_Contains_6.walk (Hold.start (W := No) O7.s) rfl k_1 r_1 g10).mono ?_
    rintro _ h11 ⟨m12, Q13, rfl⟩
    have O15 := Hold.nm (O7.retC Q13 vfs_nil)
    refine ⟨_, rfl, ?_⟩
    refine split_not ?_
    refine split_any_e e (fun c16 e => ?_) (fun c16 e => ?_)
    · exact (ih _ _ e) _ _ _ _ _ _ _ _ _ _ _ _ (O15.pick [0, 1]).nm rfl k_1 r_1 e_0 e_2
    · cases e
      exact ⟨_, O15.pick [], rfl⟩
  · refine split_eq_e e (fun c49 e => ?_) (fun c49 e => ?_)
    · refine ⟨_, ldAn (Sub.refl _) (O7.all 0 rfl) (T_api_Program.T.len _ _ _ e_0), ?_⟩
      refine ⟨_, ldk (k := 1) (Sub.refl _) (O7.all 1 rfl) (T_api_Type.g1 e_2), _, rfl, ?_⟩
      obtain ⟨y17, g18, e⟩ := bind_e e
      refine (kind_Data.walk (Hold.start (W := No) O7.s) e_0 g18).mono ?_
      rintro _ h19 ⟨m20, cs24, Q21, rfl, he25⟩
      have O26 := Hold.nm (O7.ret Q21)
      refine ⟨_, _, rfl, ?_⟩
      refine O26.new fun h27 x28 O29 => ?_
      refine ⟨_, rfl, (T_api_Data.T.len _ _ _ he25), ?_⟩
      refine O29.stA 2 rfl (T_api_Data.T.len _ _ _ he25) (T_api_Data.T.flat _ _ _ he25) fun h31 O32 => ?_
      refine split_ne_e e (fun c47 e => ?_) (fun c47 e => ?_)
      · have O33 := O32.nm
        cases e
        exact ⟨_, O33.pick [], rfl⟩
      · obtain ⟨A34, c35, q36, k37, r38⟩ := T_api_Data.g1 he25
        refine ⟨_, ldk (k := 1) (Sub.refl _) (O32.all 2 rfl) q36, _, _, _, rfl, ?_⟩
        obtain ⟨A39, c40, q41, k42, r43⟩ := T_api_Type.g2 e_2
        refine ⟨_, ldk (k := 2) (Sub.refl _) (O32.all 1 rfl) q41, _, _, _, rfl, ?_⟩
        refine split_ne_e e (fun c46 e => ?_) (fun c46 e => ?_)
        · have O44 := O32.nm
          cases e
          exact ⟨_, O44.pick [], rfl⟩
        · have O45 := O32.nm
          exact (ih _ _ e) _ _ _ _ _ _ _ _ _ _ _ _ (O45.pick [0, 1]).nm rfl k_1 (r_1.sub tell_str Q21.S.up) (T_api_Program.T.mono _ _ _ _ Q21.S.up e_0) (T_api_Type.T.mono _ _ _ _ Q21.S.up e_2)
    · have O48 := O7.nm
      exact (ih _ _ e) _ _ _ _ _ _ _ _ _ _ _ _ (O48.pick [0, 1]).nm rfl k_1 r_1 e_0 e_2
set_option maxRecDepth 100000 in
theorem kind_Type_k.step_j0_26 (go : (p : kind_Type_k.Pt) → Option (Int)) (ih : ∀ p r, go p = some r → kind_Type_k.I p r) (a_1 : List ByteArray) (y_3 : T_api_Program) (y_5 : T_api_Type) (r : Int) (e : kind_Type_k.body go (.j0_26 a_1 y_3 y_5) = some r) : kind_Type_k.I (.j0_26 a_1 y_3 y_5) r := by
  unfold kind_Type_k.body at e
  intro W h0 m0 h m A_1 n_1 c_1 bk_3 cs_3 bk_5 cs_5 O ne_1 k_1 r_1 e_3 e_5
  subst ne_1
  refine f26.j0_in ?_
  unfold f26.j0T
  refine ⟨_, ldAn (Sub.refl _) (O.all 0 rfl) (T_api_Program.T.len _ _ _ e_3), ?_⟩
  obtain ⟨A1, c2, q3, k4, r5⟩ := T_api_Type.g2 e_5
  refine ⟨_, ldk (k := 2) (Sub.refl _) (O.all 1 rfl) q3, _, _, _, rfl, ?_⟩
  obtain ⟨y6, g7, e⟩ := bind_e e
  refine ((ih _ _ g7) _ _ _ _ _ _ _ _ _ _ (Hold.start (W := No) O.s) e_3 rfl k_1 r_1 rfl k4 r5).mono ?_
  rintro _ h8 ⟨m9, Q10, rfl⟩
  have O12 := Hold.nm (O.retC Q10 vfs_nil)
  refine ⟨_, rfl, ?_⟩
  cases e
  exact ⟨_, O12.pick [], rfl⟩
set_option maxRecDepth 100000 in
theorem kind_Type_k.step_f_28 (go : (p : kind_Type_k.Pt) → Option (Int)) (ih : ∀ p r, go p = some r → kind_Type_k.I p r) (y_0 : T_api_Program) (a_1 : List ByteArray) (a_2 : List T_api_Type) (r : Int) (e : kind_Type_k.body go (.f_28 y_0 a_1 a_2) = some r) : kind_Type_k.I (.f_28 y_0 a_1 a_2) r := by
  unfold kind_Type_k.body at e
  intro W h m cs_0 A_1 n_1 c_1 A_2 n_2 c_2 O e_0 ne_1 k_1 r_1 ne_2 k_2 r_2
  subst ne_1
  subst ne_2
  refine f28.run ?_
  unfold f28.runT
  refine O.new fun h1 x2 O3 => ?_
  have O5 := O3.nm
  exact (ih _ _ e) _ _ _ _ _ _ _ _ _ _ _ _ _ (O5.pick [0]).nm rfl k_1 r_1 e_0 rfl k_2 r_2
set_option maxRecDepth 100000 in
theorem kind_Type_k.step_l0_28 (go : (p : kind_Type_k.Pt) → Option (Int)) (ih : ∀ p r, go p = some r → kind_Type_k.I p r) (a_1 : List ByteArray) (y_3 : T_api_Program) (a_10 : List T_api_Type) (x_11 : Int) (x_12 : Int) (r : Int) (e : kind_Type_k.body go (.l0_28 a_1 y_3 a_10 x_11 x_12) = some r) : kind_Type_k.I (.l0_28 a_1 y_3 a_10 x_11 x_12) r := by
  unfold kind_Type_k.body at e
  intro W h0 m0 h m A_1 n_1 c_1 bk_3 cs_3 A_10 n_10 c_10 O ne_1 k_1 r_1 e_3 ne_10 k_10 r_10
  subst ne_1
  subst ne_10
  refine f28.l0_in ?_
  unfold f28.l0T
  refine split_dec_e e (fun c22 e => ?_) (fun c22 e => ?_)
  · obtain ⟨y1, g2, e⟩ := bind_e e
    refine r_10.addr rfl g2 fun a3 cs4 ha5 hc6 he7 => ?_
    refine ⟨_, ldAn O.s hc6 rfl, ?_⟩
    refine O.new fun h8 x9 O10 => ?_
    refine ⟨_, rfl, (T_api_Type.T.len _ _ _ he7), ?_⟩
    refine O10.stA 1 rfl (T_api_Type.T.len _ _ _ he7) (T_api_Type.T.flat _ _ _ he7) fun h12 O13 => ?_
    refine ⟨_, ldAn (Sub.refl _) (O13.all 0 rfl) (T_api_Program.T.len _ _ _ e_3), ?_⟩
    refine ⟨_, ldAn (Sub.refl _) (O13.all 1 rfl) (T_api_Type.T.len _ _ _ he7), ?_⟩
    obtain ⟨y14, g15, e⟩ := bind_e e
    refine ((ih _ _ g15) _ _ _ _ _ _ _ _ (Hold.start (W := No) O13.s) e_3 rfl k_1 r_1 he7).mono ?_
    rintro _ h16 ⟨m17, Q18, rfl⟩
    have O20 := Hold.nm (O13.retC Q18 vfs_nil)
    refine ⟨_, rfl, ?_⟩
    refine split_ne_e e (fun c21 e => ?_) (fun c21 e => ?_)
    · cases e
      exact ⟨_, O20.pick [], rfl⟩
    · exact (ih _ _ e) _ _ _ _ _ _ _ _ _ _ _ _ _ (O20.pick [0]).nm rfl k_1 r_1 e_3 rfl k_10 r_10
  · cases e
    exact ⟨_, O.pick [], rfl⟩
theorem kind_Type_k.all {p : kind_Type_k.Pt} {r : (Int)} (e : kind_Type_k.go p = some r) : kind_Type_k.I p r := fixF_ind (β := fun _ => (Int)) kind_Type_k.mono (I := kind_Type_k.I) (fun go ih p r e => match p with
  | .f_26 y_0 a_1 y_2 => kind_Type_k.step_f_26 go ih y_0 a_1 y_2 r e
  | .j0_26 a_1 y_3 y_5 => kind_Type_k.step_j0_26 go ih a_1 y_3 y_5 r e
  | .f_28 y_0 a_1 a_2 => kind_Type_k.step_f_28 go ih y_0 a_1 a_2 r e
  | .l0_28 a_1 y_3 a_10 x_11 x_12 => kind_Type_k.step_l0_28 go ih a_1 y_3 a_10 x_11 x_12 r e
  ) e
theorem kind_Type.walk {W : Nat → Prop} {h m : Heap} {cs_0 : List Value} {A_1 : Option Addr} {n_1 c_1 : Nat} {cs_2 : List Value} {y_0 : T_api_Program} {a_1 : List ByteArray} {y_2 : T_api_Type} (O : Hold W h m h m []) (e_0 : T_api_Program.E m y_0 cs_0) (ne_1 : n_1 = List.length a_1) (k_1 : List.length a_1 ≤ c_1) (r_1 : Rd 1 eStr m A_1 a_1) (e_2 : T_api_Type.E m y_2 cs_2) {r : Int} (e : kind_Type y_0 a_1 y_2 = some r) : Run Tryd.prog 26 #[Value.agg cs_0.toArray, Value.slice A_1 n_1 c_1, Value.agg cs_2.toArray] h (kind_Type.post W h m r) := kind_Type_k.all (p := .f_26 y_0 a_1 y_2) e W h m cs_0 A_1 n_1 c_1 cs_2 O e_0 ne_1 k_1 r_1 e_2
theorem kind_Types.walk {W : Nat → Prop} {h m : Heap} {cs_0 : List Value} {A_1 : Option Addr} {n_1 c_1 : Nat} {A_2 : Option Addr} {n_2 c_2 : Nat} {y_0 : T_api_Program} {a_1 : List ByteArray} {a_2 : List T_api_Type} (O : Hold W h m h m []) (e_0 : T_api_Program.E m y_0 cs_0) (ne_1 : n_1 = List.length a_1) (k_1 : List.length a_1 ≤ c_1) (r_1 : Rd 1 eStr m A_1 a_1) (ne_2 : n_2 = List.length a_2) (k_2 : List.length a_2 ≤ c_2) (r_2 : Rd 3 T_api_Type.E m A_2 a_2) {r : Int} (e : kind_Types y_0 a_1 a_2 = some r) : Run Tryd.prog 28 #[Value.agg cs_0.toArray, Value.slice A_1 n_1 c_1, Value.slice A_2 n_2 c_2] h (kind_Types.post W h m r) := kind_Type_k.all (p := .f_28 y_0 a_1 a_2) e W h m cs_0 A_1 n_1 c_1 A_2 n_2 c_2 O e_0 ne_1 k_1 r_1 ne_2 k_2 r_2
def slices_Clone_42.post (W : Nat → Prop) (h0 m0 : Heap) (r : (List T_api_Type)) (v : Value) (h : Heap) : Prop := ∃ m A0 n0 c0, Hold W h0 m0 h m [rR (aE T_api_Type.T) A0 c0 r] ∧ v = .slice A0 n0 c0 ∧ n0 = List.length r
noncomputable def slices_Clone_42 (a0 : List T_api_Type) : Option (List T_api_Type) := ap 48 ([] : List T_api_Type) a0
set_option maxRecDepth 100000 in
theorem slices_Clone_42.walk {W : Nat → Prop} {h m : Heap} {A0 : Option Addr} {n0 c0 : Nat} {a0 : List T_api_Type} (O : Hold W h m h m []) (ne0 : n0 = List.length a0) (k0 : List.length a0 ≤ c0) (r0 : Rd 3 T_api_Type.E m A0 a0) {r : List T_api_Type} (e : slices_Clone_42 a0 = some r) : Run Tryd.prog 42 #[Value.slice A0 n0 c0] h (slices_Clone_42.post W h m r) := by
  unfold slices_Clone_42 at e
  subst ne0
  refine f42.run ?_
  unfold f42.runT
  cases A0 with
  | none =>
    refine split_t ?_
    obtain rfl := Rd.void r0
    obtain rfl : [] = r := by have := (ap_e e).2; simpa using this
    exact ⟨m, none, 0, 0, O.nil (aE T_api_Type.T) none, rfl, rfl⟩
  | some a =>
    refine split_f ?_
    refine O.new fun h1 x1 O1 => ?_
    refine O1.appE0 T_api_Type.T rfl rfl (r0.srcE T_api_Type.T O1.s rfl) (by decide) e fun A4 c4 h4 x4 O4 => ?_
    refine ⟨_, _, _, rfl, ?_⟩
    exact ⟨m, _, _, _, O4.pick [1], rfl, rfl⟩
theorem slices_Clone_42.val (l : List T_api_Type) (h : l.length * 48 ≤ 140737488355328) : slices_Clone_42 l = some l := ap_nil h
def slices_Clone_73.post (W : Nat → Prop) (h0 m0 : Heap) (r : (List T_api_Expr)) (v : Value) (h : Heap) : Prop := ∃ m A0 n0 c0, Hold W h0 m0 h m [rR (aE T_api_Expr.T) A0 c0 r] ∧ v = .slice A0 n0 c0 ∧ n0 = List.length r
noncomputable def slices_Clone_73 (a0 : List T_api_Expr) : Option (List T_api_Expr) := ap 136 ([] : List T_api_Expr) a0
set_option maxRecDepth 100000 in
theorem slices_Clone_73.walk {W : Nat → Prop} {h m : Heap} {A0 : Option Addr} {n0 c0 : Nat} {a0 : List T_api_Expr} (O : Hold W h m h m []) (ne0 : n0 = List.length a0) (k0 : List.length a0 ≤ c0) (r0 : Rd 8 T_api_Expr.E m A0 a0) {r : List T_api_Expr} (e : slices_Clone_73 a0 = some r) : Run Tryd.prog 73 #[Value.slice A0 n0 c0] h (slices_Clone_73.post W h m r) := by
  unfold slices_Clone_73 at e
  subst ne0
  refine f73.run ?_
  unfold f73.runT
  cases A0 with
  | none =>
    refine split_t ?_
    obtain rfl := Rd.void r0
    obtain rfl : [] = r := by have := (ap_e e).2; simpa using this
    exact ⟨m, none, 0, 0, O.nil (aE T_api_Expr.T) none, rfl, rfl⟩
  | some a =>
    refine split_f ?_
    refine O.new fun h1 x1 O1 => ?_
    refine O1.appE0 T_api_Expr.T rfl rfl (r0.srcE T_api_Expr.T O1.s rfl) (by decide) e fun A4 c4 h4 x4 O4 => ?_
    refine ⟨_, _, _, rfl, ?_⟩
    exact ⟨m, _, _, _, O4.pick [1], rfl, rfl⟩
def tree_Parts.post (W : Nat → Prop) (h0 m0 : Heap) (r : (List T_api_Expr)) (v : Value) (h : Heap) : Prop := ∃ m A0 n0 c0, Hold W h0 m0 h m [rR (aE T_api_Expr.T) A0 c0 r] ∧ v = .slice A0 n0 c0 ∧ n0 = List.length r
inductive tree_Parts.l0_k.Pt where
  | l0 (a_3 : List T_api_Expr) (a_10 : List T_api_Arm) (x_11 : Int) (x_12 : Int)
noncomputable def tree_Parts.l0_k.body (go : (p : tree_Parts.l0_k.Pt) → Option ((List T_api_Expr))) : (p : tree_Parts.l0_k.Pt) → Option ((List T_api_Expr))
  | .l0 a_3 a_10 x_11 x_12 => if x_12 < x_11 then (Option.bind (gi a_10 x_12) fun y1 => Option.bind (ap 136 a_3 ([y1.Body] : List T_api_Expr)) fun l19 => (go (.l0 l19 a_10 x_11 (IntKind.wrap .i64 (x_12 + (1 : Int)))))) else (some (a_3))
theorem tree_Parts.l0_k.mono : MonoF (β := fun _ => ((List T_api_Expr))) tree_Parts.l0_k.body := fun f g hfg p => match p with
  | .l0 a_3 a_10 x_11 x_12 => LeO.ite (LeO.bind (LeO.refl _) fun y1 => LeO.bind (LeO.refl _) fun l19 => (hfg _)) (LeO.refl _)
noncomputable def tree_Parts.l0_k.go (p : tree_Parts.l0_k.Pt) : Option ((List T_api_Expr)) := fixF (β := fun _ => ((List T_api_Expr))) tree_Parts.l0_k.body p
noncomputable def tree_Parts.l0 (a_3 : List T_api_Expr) (a_10 : List T_api_Arm) (x_11 : Int) (x_12 : Int) : Option ((List T_api_Expr)) := tree_Parts.l0_k.go (.l0 a_3 a_10 x_11 x_12)
theorem tree_Parts.l0_eq (a_3 : List T_api_Expr) (a_10 : List T_api_Arm) (x_11 : Int) (x_12 : Int) : tree_Parts.l0 a_3 a_10 x_11 x_12 = if x_12 < x_11 then (Option.bind (gi a_10 x_12) fun y1 => Option.bind (ap 136 a_3 ([y1.Body] : List T_api_Expr)) fun l19 => (tree_Parts.l0 l19 a_10 x_11 (IntKind.wrap .i64 (x_12 + (1 : Int))))) else (some (a_3)) := fixF_eq tree_Parts.l0_k.mono _
def tree_Parts.l0_k.I : (p : tree_Parts.l0_k.Pt) → ((List T_api_Expr)) → Prop
  | .l0 a_3 a_10 x_11 x_12, r => ∀ (W : Nat → Prop) (h0 m0 h m : Heap) (A_3 : Option Addr) (n_3 c_3 : Nat) (A_10 : Option Addr) (n_10 c_10 : Nat) (O : Hold W h0 m0 h m [rR (aE T_api_Expr.T) A_3 c_3 a_3]) (ne_3 : n_3 = List.length a_3) (ne_10 : n_10 = List.length a_10) (k_10 : List.length a_10 ≤ c_10) (r_10 : Rd 12 T_api_Arm.E m A_10 a_10), f66.l0 (tree_Parts.post W h0 m0 r) A_3 n_3 c_3 A_10 n_10 c_10 x_11 x_12 h
set_option maxRecDepth 100000 in
theorem tree_Parts.l0_k.step_l0 (go : (p : tree_Parts.l0_k.Pt) → Option ((List T_api_Expr))) (ih : ∀ p r, go p = some r → tree_Parts.l0_k.I p r) (a_3 : List T_api_Expr) (a_10 : List T_api_Arm) (x_11 : Int) (x_12 : Int) (r : (List T_api_Expr)) (e : tree_Parts.l0_k.body go (.l0 a_3 a_10 x_11 x_12) = some r) : tree_Parts.l0_k.I (.l0 a_3 a_10 x_11 x_12) r := by
  unfold tree_Parts.l0_k.body at e
  intro W h0 m0 h m A_3 n_3 c_3 A_10 n_10 c_10 O ne_3 ne_10 k_10 r_10
  subst ne_3
  subst ne_10
  refine f66.l0_in ?_
  unfold f66.l0T
  refine split_dec_e e (fun c29 e => ?_) (fun c29 e => ?_)
  · obtain ⟨y1, g2, e⟩ := bind_e e
    refine r_10.addr rfl g2 fun a3 cs4 ha5 hc6 he7 => ?_
    refine ⟨_, ldAn O.s hc6 rfl, ?_⟩
    refine O.new fun h8 x9 O10 => ?_
    refine ⟨_, rfl, (T_api_Arm.T.len _ _ _ he7), ?_⟩
    refine O10.stA 1 rfl (T_api_Arm.T.len _ _ _ he7) (T_api_Arm.T.flat _ _ _ he7) fun h12 O13 => ?_
    refine ⟨_, ldAkn (Sub.refl _) (O13.all 1 rfl) 4 8 (le_len (T_api_Arm.T.len _ _ _ he7) (by decide)), ?_⟩
    refine ⟨(List.take 8 (List.drop 4 cs4)), rfl, (T_api_Expr.T.len _ _ _ (T_api_Arm.u4_87 he7)), ?_⟩
    refine O13.new fun h14 x15 O16 => ?_
    have O18 := O16.recell 2 rfl (cs' := (List.take 8 (List.drop 4 cs4)) ++ []) rfl
    obtain ⟨l19, g20, e⟩ := bind_e e
    have O27 := O18.rowE (l := ([y1.Body] : List T_api_Expr)) 2 rfl T_api_Expr.T (show CsE _ _ _ _ _ from (CsE.cons (T_api_Arm.u4_87 he7) (T_api_Expr.T.len _ _ _ (T_api_Arm.u4_87 he7)) CsE.nil)) rfl
    refine O27.app 0 rfl rfl rfl ((O27.os 2 rfl).srcE rfl) (by decide) g20 fun A21 c22 h23 O24 => ?_
    refine ⟨_, _, _, rfl, ?_⟩
    have O28 := O24.nm
    exact (ih _ _ e) _ _ _ _ _ _ _ _ _ _ _ (O28.pick [0]).nm rfl rfl k_10 r_10
  · cases e
    exact ⟨_, _, _, _, O.pick [0], rfl, rfl⟩
theorem tree_Parts.l0_k.all {p : tree_Parts.l0_k.Pt} {r : ((List T_api_Expr))} (e : tree_Parts.l0_k.go p = some r) : tree_Parts.l0_k.I p r := fixF_ind (β := fun _ => ((List T_api_Expr))) tree_Parts.l0_k.mono (I := tree_Parts.l0_k.I) (fun go ih p r e => match p with
  | .l0 a_3 a_10 x_11 x_12 => tree_Parts.l0_k.step_l0 go ih a_3 a_10 x_11 x_12 r e
  ) e
theorem tree_Parts.l0.walk {W : Nat → Prop} {h0 m0 h m : Heap} {A_3 : Option Addr} {n_3 c_3 : Nat} {A_10 : Option Addr} {n_10 c_10 : Nat} {a_3 : List T_api_Expr} {a_10 : List T_api_Arm} {x_11 : Int} {x_12 : Int} (O : Hold W h0 m0 h m [rR (aE T_api_Expr.T) A_3 c_3 a_3]) (ne_3 : n_3 = List.length a_3) (ne_10 : n_10 = List.length a_10) (k_10 : List.length a_10 ≤ c_10) (r_10 : Rd 12 T_api_Arm.E m A_10 a_10) {r : (List T_api_Expr)} (e : tree_Parts.l0 a_3 a_10 x_11 x_12 = some r) : f66.l0 (tree_Parts.post W h0 m0 r) A_3 n_3 c_3 A_10 n_10 c_10 x_11 x_12 h := tree_Parts.l0_k.all (p := .l0 a_3 a_10 x_11 x_12) e W h0 m0 h m A_3 n_3 c_3 A_10 n_10 c_10 O ne_3 ne_10 k_10 r_10
noncomputable def tree_Parts (y_0 : T_api_Expr) : Option ((List T_api_Expr)) :=
  Option.bind (slices_Clone_73 y_0.Args) fun y10 => (tree_Parts.l0 y10 y_0.Arms (((List.length y_0.Arms) : Nat) : Int) (0 : Int))
set_option maxRecDepth 100000 in
theorem tree_Parts.walk {W : Nat → Prop} {h m : Heap} {cs_0 : List Value} {y_0 : T_api_Expr} (O : Hold W h m h m []) (e_0 : T_api_Expr.E m y_0 cs_0) {r : (List T_api_Expr)} (e : tree_Parts y_0 = some r) : Run Tryd.prog 66 #[Value.agg cs_0.toArray] h (tree_Parts.post W h m r) := by
  unfold tree_Parts at e
  refine f66.run ?_
  unfold f66.runT
  refine O.new fun h1 x2 O3 => ?_
  obtain ⟨A5, c6, q7, k8, r9⟩ := T_api_Expr.g5 e_0
  refine ⟨_, ldk (k := 5) (Sub.refl _) (O3.all 0 rfl) q7, _, _, _, rfl, ?_⟩
  obtain ⟨y10, g11, e⟩ := bind_e e
  refine (slices_Clone_73.walk (Hold.start (W := No) O3.s) rfl k8 r9 g11).mono ?_
  rintro _ h12 ⟨m13, A16, n17, c18, Q14, rfl, ne19⟩
  have O21 := Hold.nm (O3.ret Q14)
  subst ne19
  refine ⟨_, _, _, rfl, ?_⟩
  obtain ⟨A22, c23, q24, k25, r26⟩ := T_api_Expr.g6 e_0
  refine ⟨_, ldk (k := 6) (Sub.refl _) (O21.all 0 rfl) q24, _, _, _, rfl, ?_⟩
  exact tree_Parts.l0.walk (O21.pick [1]).nm rfl rfl k25 (r26.sub T_api_Arm.T Q14.S.up) e
def tree_Walk.post (W : Nat → Prop) (h0 m0 : Heap) (r : (List T_api_Expr)) (v : Value) (h : Heap) : Prop := ∃ m A0 n0 c0, Hold W h0 m0 h m [rR (aE T_api_Expr.T) A0 c0 r] ∧ v = .slice A0 n0 c0 ∧ n0 = List.length r
inductive tree_Walk_k.Pt where
  | f (y_0 : T_api_Expr)
  | l0 (a_3 : List T_api_Expr) (a_9 : List T_api_Expr) (x_10 : Int) (x_11 : Int)
noncomputable def tree_Walk_k.body (go : (p : tree_Walk_k.Pt) → Option ((List T_api_Expr))) : (p : tree_Walk_k.Pt) → Option ((List T_api_Expr))
  | .f y_0 => Option.bind (tree_Parts y_0) fun y10 => (go (.l0 ([y_0] : List T_api_Expr) y10 (((List.length y10) : Nat) : Int) (0 : Int)))
  | .l0 a_3 a_9 x_10 x_11 => if x_11 < x_10 then (Option.bind (gi a_9 x_11) fun y1 => Option.bind ((go (.f y1))) fun y14 => Option.bind (ap 136 a_3 y14) fun l26 => (go (.l0 l26 a_9 x_10 (IntKind.wrap .i64 (x_11 + (1 : Int)))))) else (some (a_3))
theorem tree_Walk_k.mono : MonoF (β := fun _ => ((List T_api_Expr))) tree_Walk_k.body := fun f g hfg p => match p with
  | .f y_0 => LeO.bind (LeO.refl _) fun y10 => (hfg _)
  | .l0 a_3 a_9 x_10 x_11 => LeO.ite (LeO.bind (LeO.refl _) fun y1 => LeO.bind ((hfg _)) fun y14 => LeO.bind (LeO.refl _) fun l26 => (hfg _)) (LeO.refl _)
noncomputable def tree_Walk_k.go (p : tree_Walk_k.Pt) : Option ((List T_api_Expr)) := fixF (β := fun _ => ((List T_api_Expr))) tree_Walk_k.body p
noncomputable def tree_Walk (y_0 : T_api_Expr) : Option ((List T_api_Expr)) := tree_Walk_k.go (.f y_0)
noncomputable def tree_Walk.l0 (a_3 : List T_api_Expr) (a_9 : List T_api_Expr) (x_10 : Int) (x_11 : Int) : Option ((List T_api_Expr)) := tree_Walk_k.go (.l0 a_3 a_9 x_10 x_11)
theorem tree_Walk_eq (y_0 : T_api_Expr) : tree_Walk y_0 = Option.bind (tree_Parts y_0) fun y10 => (tree_Walk.l0 ([y_0] : List T_api_Expr) y10 (((List.length y10) : Nat) : Int) (0 : Int)) := fixF_eq tree_Walk_k.mono _
theorem tree_Walk.l0_eq (a_3 : List T_api_Expr) (a_9 : List T_api_Expr) (x_10 : Int) (x_11 : Int) : tree_Walk.l0 a_3 a_9 x_10 x_11 = if x_11 < x_10 then (Option.bind (gi a_9 x_11) fun y1 => Option.bind ((tree_Walk y1)) fun y14 => Option.bind (ap 136 a_3 y14) fun l26 => (tree_Walk.l0 l26 a_9 x_10 (IntKind.wrap .i64 (x_11 + (1 : Int))))) else (some (a_3)) := fixF_eq tree_Walk_k.mono _
def tree_Walk_k.I : (p : tree_Walk_k.Pt) → ((List T_api_Expr)) → Prop
  | .f y_0, r => ∀ (W : Nat → Prop) (h m : Heap) (cs_0 : List Value) (O : Hold W h m h m []) (e_0 : T_api_Expr.E m y_0 cs_0), Run Tryd.prog 56 #[Value.agg cs_0.toArray] h (tree_Walk.post W h m r)
  | .l0 a_3 a_9 x_10 x_11, r => ∀ (W : Nat → Prop) (h0 m0 h m : Heap) (A_3 : Option Addr) (n_3 c_3 : Nat) (A_9 : Option Addr) (n_9 c_9 : Nat) (O : Hold W h0 m0 h m [rR (aE T_api_Expr.T) A_3 c_3 a_3, rR (aE T_api_Expr.T) A_9 c_9 a_9]) (ne_3 : n_3 = List.length a_3) (ne_9 : n_9 = List.length a_9), f56.l0 (tree_Walk.post W h0 m0 r) A_3 n_3 c_3 A_9 n_9 c_9 x_10 x_11 h
set_option maxRecDepth 100000 in
theorem tree_Walk_k.step_f (go : (p : tree_Walk_k.Pt) → Option ((List T_api_Expr))) (ih : ∀ p r, go p = some r → tree_Walk_k.I p r) (y_0 : T_api_Expr) (r : (List T_api_Expr)) (e : tree_Walk_k.body go (.f y_0) = some r) : tree_Walk_k.I (.f y_0) r := by
  unfold tree_Walk_k.body at e
  intro W h m cs_0 O e_0
  refine f56.run ?_
  unfold f56.runT
  refine O.new fun h1 x2 O3 => ?_
  refine ⟨_, ldAn (Sub.refl _) (O3.all 0 rfl) (T_api_Expr.T.len _ _ _ e_0), ?_⟩
  refine ⟨cs_0, rfl, (T_api_Expr.T.len _ _ _ e_0), ?_⟩
  refine O3.new fun h5 x6 O7 => ?_
  have O9 := O7.recell 1 rfl (cs' := cs_0 ++ []) rfl
  refine ⟨_, ldAn (Sub.refl _) (O9.all 0 rfl) (T_api_Expr.T.len _ _ _ e_0), ?_⟩
  obtain ⟨y10, g11, e⟩ := bind_e e
  refine (tree_Parts.walk (Hold.start (W := No) O9.s) e_0 g11).mono ?_
  rintro _ h12 ⟨m13, A16, n17, c18, Q14, rfl, ne19⟩
  have O21 := Hold.nm (O9.ret Q14)
  subst ne19
  refine ⟨_, _, _, rfl, ?_⟩
  have O22 := O21.rowE (l := ([y_0] : List T_api_Expr)) 1 rfl T_api_Expr.T (show CsE _ _ _ _ _ from (CsE.cons (T_api_Expr.T.mono _ _ _ _ Q14.S.up e_0) (T_api_Expr.T.len _ _ _ (T_api_Expr.T.mono _ _ _ _ Q14.S.up e_0)) CsE.nil)) rfl
  have O23 := O22.nm
  exact (ih _ _ e) _ _ _ _ _ _ _ _ _ _ _ (O23.pick [1, 2]).nm rfl rfl
set_option maxRecDepth 100000 in
theorem tree_Walk_k.step_l0 (go : (p : tree_Walk_k.Pt) → Option ((List T_api_Expr))) (ih : ∀ p r, go p = some r → tree_Walk_k.I p r) (a_3 : List T_api_Expr) (a_9 : List T_api_Expr) (x_10 : Int) (x_11 : Int) (r : (List T_api_Expr)) (e : tree_Walk_k.body go (.l0 a_3 a_9 x_10 x_11) = some r) : tree_Walk_k.I (.l0 a_3 a_9 x_10 x_11) r := by
  unfold tree_Walk_k.body at e
  intro W h0 m0 h m A_3 n_3 c_3 A_9 n_9 c_9 O ne_3 ne_9
  subst ne_3
  subst ne_9
  refine f56.l0_in ?_
  unfold f56.l0T
  refine split_dec_e e (fun c35 e => ?_) (fun c35 e => ?_)
  · obtain ⟨y1, g2, e⟩ := bind_e e
    refine (O.os 1 rfl).addr rfl g2 fun a3 cs4 ha5 hc6 he7 => ?_
    refine ⟨_, ldAn (Sub.refl _) hc6 rfl, ?_⟩
    refine O.new fun h8 x9 O10 => ?_
    refine ⟨_, rfl, (T_api_Expr.T.len _ _ _ he7), ?_⟩
    refine O10.stA 2 rfl (T_api_Expr.T.len _ _ _ he7) (T_api_Expr.T.flat _ _ _ he7) fun h12 O13 => ?_
    refine ⟨_, ldAn (Sub.refl _) (O13.all 2 rfl) (T_api_Expr.T.len _ _ _ he7), ?_⟩
    obtain ⟨y14, g15, e⟩ := bind_e e
    refine ((ih _ _ g15) _ _ _ _ (Hold.start (W := No) O13.s) he7).mono ?_
    rintro _ h16 ⟨m17, A20, n21, c22, Q18, rfl, ne23⟩
    have O25 := Hold.nm (O13.ret Q18)
    subst ne23
    refine ⟨_, _, _, rfl, ?_⟩
    obtain ⟨l26, g27, e⟩ := bind_e e
    refine O25.app 0 rfl rfl rfl ((O25.os 3 rfl).srcE rfl) (by decide) g27 fun A28 c29 h30 O31 => ?_
    refine ⟨_, _, _, rfl, ?_⟩
    have O34 := O31.nm
    exact (ih _ _ e) _ _ _ _ _ _ _ _ _ _ _ (O34.pick [0, 1]).nm rfl rfl
  · cases e
    exact ⟨_, _, _, _, O.pick [0], rfl, rfl⟩
theorem tree_Walk_k.all {p : tree_Walk_k.Pt} {r : ((List T_api_Expr))} (e : tree_Walk_k.go p = some r) : tree_Walk_k.I p r := fixF_ind (β := fun _ => ((List T_api_Expr))) tree_Walk_k.mono (I := tree_Walk_k.I) (fun go ih p r e => match p with
  | .f y_0 => tree_Walk_k.step_f go ih y_0 r e
  | .l0 a_3 a_9 x_10 x_11 => tree_Walk_k.step_l0 go ih a_3 a_9 x_10 x_11 r e
  ) e
theorem tree_Walk.walk {W : Nat → Prop} {h m : Heap} {cs_0 : List Value} {y_0 : T_api_Expr} (O : Hold W h m h m []) (e_0 : T_api_Expr.E m y_0 cs_0) {r : (List T_api_Expr)} (e : tree_Walk y_0 = some r) : Run Tryd.prog 56 #[Value.agg cs_0.toArray] h (tree_Walk.post W h m r) := tree_Walk_k.all (p := .f y_0) e W h m cs_0 O e_0
def kind_body.post (W : Nat → Prop) (h0 m0 : Heap) (r : Int × Int) (v : Value) (h : Heap) : Prop := ∃ m , Hold W h0 m0 h m [] ∧ v = .tuple #[.int .i64 r.1, .int .i64 r.2]
inductive kind_body.l0_k.Pt where
  | l0 (a_1 : List ByteArray) (y_3 : T_api_Program) (a_12 : List T_api_Expr) (x_13 : Int) (x_14 : Int)
noncomputable def kind_body.l0_k.body (go : (p : kind_body.l0_k.Pt) → Option (Int × Int)) : (p : kind_body.l0_k.Pt) → Option (Int × Int)
  | .l0 a_1 y_3 a_12 x_13 x_14 => if x_14 < x_13 then (Option.bind (gi a_12 x_14) fun y1 => Option.bind (kind_Types y_3 a_1 y1.Types) fun y19 => if y19 = (0 : Int) then ((go (.l0 a_1 y_3 a_12 x_13 (IntKind.wrap .i64 (x_14 + (1 : Int)))))) else (some (y19, y1.At))) else (some ((0 : Int), (0 : Int)))
theorem kind_body.l0_k.mono : MonoF (β := fun _ => (Int × Int)) kind_body.l0_k.body := fun f g hfg p => match p with
  | .l0 a_1 y_3 a_12 x_13 x_14 => LeO.ite (LeO.bind (LeO.refl _) fun y1 => LeO.bind (LeO.refl _) fun y19 => LeO.ite ((hfg _)) (LeO.refl _)) (LeO.refl _)
noncomputable def kind_body.l0_k.go (p : kind_body.l0_k.Pt) : Option (Int × Int) := fixF (β := fun _ => (Int × Int)) kind_body.l0_k.body p
noncomputable def kind_body.l0 (a_1 : List ByteArray) (y_3 : T_api_Program) (a_12 : List T_api_Expr) (x_13 : Int) (x_14 : Int) : Option (Int × Int) := kind_body.l0_k.go (.l0 a_1 y_3 a_12 x_13 x_14)
theorem kind_body.l0_eq (a_1 : List ByteArray) (y_3 : T_api_Program) (a_12 : List T_api_Expr) (x_13 : Int) (x_14 : Int) : kind_body.l0 a_1 y_3 a_12 x_13 x_14 = if x_14 < x_13 then (Option.bind (gi a_12 x_14) fun y1 => Option.bind (kind_Types y_3 a_1 y1.Types) fun y19 => if y19 = (0 : Int) then ((kind_body.l0 a_1 y_3 a_12 x_13 (IntKind.wrap .i64 (x_14 + (1 : Int))))) else (some (y19, y1.At))) else (some ((0 : Int), (0 : Int))) := fixF_eq kind_body.l0_k.mono _
def kind_body.l0_k.I : (p : kind_body.l0_k.Pt) → (Int × Int) → Prop
  | .l0 a_1 y_3 a_12 x_13 x_14, r => ∀ (W : Nat → Prop) (h0 m0 h m : Heap) (A_1 : Option Addr) (n_1 c_1 : Nat) (bk_3 : Nat) (cs_3 : List Value) (A_12 : Option Addr) (n_12 c_12 : Nat) (O : Hold W h0 m0 h m [rV bk_3 54 cs_3, rR (aE T_api_Expr.T) A_12 c_12 a_12]) (ne_1 : n_1 = List.length a_1) (k_1 : List.length a_1 ≤ c_1) (r_1 : Rd 1 eStr m A_1 a_1) (e_3 : T_api_Program.E m y_3 cs_3) (ne_12 : n_12 = List.length a_12), f43.l0 (kind_body.post W h0 m0 r) A_1 n_1 c_1 (⟨bk_3, 0, none⟩ : Addr) A_12 n_12 c_12 x_13 x_14 h
set_option maxRecDepth 100000 in
theorem kind_body.l0_k.step_l0 (go : (p : kind_body.l0_k.Pt) → Option (Int × Int)) (ih : ∀ p r, go p = some r → kind_body.l0_k.I p r) (a_1 : List ByteArray) (y_3 : T_api_Program) (a_12 : List T_api_Expr) (x_13 : Int) (x_14 : Int) (r : Int × Int) (e : kind_body.l0_k.body go (.l0 a_1 y_3 a_12 x_13 x_14) = some r) : kind_body.l0_k.I (.l0 a_1 y_3 a_12 x_13 x_14) r := by
  unfold kind_body.l0_k.body at e
  intro W h0 m0 h m A_1 n_1 c_1 bk_3 cs_3 A_12 n_12 c_12 O ne_1 k_1 r_1 e_3 ne_12
  subst ne_1
  subst ne_12
  refine f43.l0_in ?_
  unfold f43.l0T
  refine split_dec_e e (fun c27 e => ?_) (fun c27 e => ?_)
  · obtain ⟨y1, g2, e⟩ := bind_e e
    refine (O.os 1 rfl).addr rfl g2 fun a3 cs4 ha5 hc6 he7 => ?_
    refine ⟨_, ldAn (Sub.refl _) hc6 rfl, ?_⟩
    refine O.new fun h8 x9 O10 => ?_
    refine ⟨_, rfl, (T_api_Expr.T.len _ _ _ he7), ?_⟩
    refine O10.stA 2 rfl (T_api_Expr.T.len _ _ _ he7) (T_api_Expr.T.flat _ _ _ he7) fun h12 O13 => ?_
    refine ⟨_, ldAn (Sub.refl _) (O13.all 0 rfl) (T_api_Program.T.len _ _ _ e_3), ?_⟩
    obtain ⟨A14, c15, q16, k17, r18⟩ := T_api_Expr.g4 he7
    refine ⟨_, ldk (k := 4) (Sub.refl _) (O13.all 2 rfl) q16, _, _, _, rfl, ?_⟩
    obtain ⟨y19, g20, e⟩ := bind_e e
    refine (kind_Types.walk (Hold.start (W := No) O13.s) e_3 rfl k_1 r_1 rfl k17 r18 g20).mono ?_
    rintro _ h21 ⟨m22, Q23, rfl⟩
    have O25 := Hold.nm (O13.retC Q23 vfs_nil)
    refine ⟨_, rfl, ?_⟩
    refine split_ne_e e (fun c26 e => ?_) (fun c26 e => ?_)
    · refine ⟨_, ldk (k := 7) (Sub.refl _) (O25.all 2 rfl) (T_api_Expr.g7 he7), _, rfl, ?_⟩
      cases e
      exact ⟨_, O25.pick [], rfl⟩
    · exact (ih _ _ e) _ _ _ _ _ _ _ _ _ _ _ _ _ (O25.pick [0, 1]).nm rfl k_1 r_1 e_3 rfl
  · cases e
    exact ⟨_, O.pick [], rfl⟩
theorem kind_body.l0_k.all {p : kind_body.l0_k.Pt} {r : (Int × Int)} (e : kind_body.l0_k.go p = some r) : kind_body.l0_k.I p r := fixF_ind (β := fun _ => (Int × Int)) kind_body.l0_k.mono (I := kind_body.l0_k.I) (fun go ih p r e => match p with
  | .l0 a_1 y_3 a_12 x_13 x_14 => kind_body.l0_k.step_l0 go ih a_1 y_3 a_12 x_13 x_14 r e
  ) e
theorem kind_body.l0.walk {W : Nat → Prop} {h0 m0 h m : Heap} {A_1 : Option Addr} {n_1 c_1 : Nat} {bk_3 : Nat} {cs_3 : List Value} {A_12 : Option Addr} {n_12 c_12 : Nat} {a_1 : List ByteArray} {y_3 : T_api_Program} {a_12 : List T_api_Expr} {x_13 : Int} {x_14 : Int} (O : Hold W h0 m0 h m [rV bk_3 54 cs_3, rR (aE T_api_Expr.T) A_12 c_12 a_12]) (ne_1 : n_1 = List.length a_1) (k_1 : List.length a_1 ≤ c_1) (r_1 : Rd 1 eStr m A_1 a_1) (e_3 : T_api_Program.E m y_3 cs_3) (ne_12 : n_12 = List.length a_12) {r : Int × Int} (e : kind_body.l0 a_1 y_3 a_12 x_13 x_14 = some r) : f43.l0 (kind_body.post W h0 m0 r) A_1 n_1 c_1 (⟨bk_3, 0, none⟩ : Addr) A_12 n_12 c_12 x_13 x_14 h := kind_body.l0_k.all (p := .l0 a_1 y_3 a_12 x_13 x_14) e W h0 m0 h m A_1 n_1 c_1 bk_3 cs_3 A_12 n_12 c_12 O ne_1 k_1 r_1 e_3 ne_12
noncomputable def kind_body (y_0 : T_api_Program) (a_1 : List ByteArray) (y_2 : T_api_Expr) : Option (Int × Int) :=
  Option.bind (tree_Walk y_2) fun y9 => (kind_body.l0 a_1 y_0 y9 (((List.length y9) : Nat) : Int) (0 : Int))
set_option maxRecDepth 100000 in
theorem kind_body.walk {W : Nat → Prop} {h m : Heap} {cs_0 : List Value} {A_1 : Option Addr} {n_1 c_1 : Nat} {cs_2 : List Value} {y_0 : T_api_Program} {a_1 : List ByteArray} {y_2 : T_api_Expr} (O : Hold W h m h m []) (e_0 : T_api_Program.E m y_0 cs_0) (ne_1 : n_1 = List.length a_1) (k_1 : List.length a_1 ≤ c_1) (r_1 : Rd 1 eStr m A_1 a_1) (e_2 : T_api_Expr.E m y_2 cs_2) {r : Int × Int} (e : kind_body y_0 a_1 y_2 = some r) : Run Tryd.prog 43 #[Value.agg cs_0.toArray, Value.slice A_1 n_1 c_1, Value.agg cs_2.toArray] h (kind_body.post W h m r) := by
  unfold kind_body at e
  subst ne_1
  refine f43.run ?_
  unfold f43.runT
  refine O.new fun h1 x2 O3 => ?_
  refine O3.new fun h5 x6 O7 => ?_
  refine ⟨_, ldAn (Sub.refl _) (O7.all 1 rfl) (T_api_Expr.T.len _ _ _ e_2), ?_⟩
  obtain ⟨y9, g10, e⟩ := bind_e e
  refine (tree_Walk.walk (Hold.start (W := No) O7.s) e_2 g10).mono ?_
  rintro _ h11 ⟨m12, A15, n16, c17, Q13, rfl, ne18⟩
  have O20 := Hold.nm (O7.ret Q13)
  subst ne18
  refine ⟨_, _, _, rfl, ?_⟩
  exact kind_body.l0.walk (O20.pick [0, 2]).nm rfl k_1 (r_1.sub tell_str Q13.S.up) (T_api_Program.T.mono _ _ _ _ Q13.S.up e_0) rfl e
def slices_Clone_55.post (W : Nat → Prop) (h0 m0 : Heap) (r : (List ByteArray)) (v : Value) (h : Heap) : Prop := ∃ m A0 n0 c0, Hold W h0 m0 h m [rR (aE tell_str) A0 c0 r] ∧ v = .slice A0 n0 c0 ∧ n0 = List.length r
noncomputable def slices_Clone_55 (a0 : List ByteArray) : Option (List ByteArray) := ap 16 ([] : List ByteArray) a0
set_option maxRecDepth 100000 in
theorem slices_Clone_55.walk {W : Nat → Prop} {h m : Heap} {A0 : Option Addr} {n0 c0 : Nat} {a0 : List ByteArray} (O : Hold W h m h m []) (ne0 : n0 = List.length a0) (k0 : List.length a0 ≤ c0) (r0 : Rd 1 eStr m A0 a0) {r : List ByteArray} (e : slices_Clone_55 a0 = some r) : Run Tryd.prog 55 #[Value.slice A0 n0 c0] h (slices_Clone_55.post W h m r) := by
  unfold slices_Clone_55 at e
  subst ne0
  refine f55.run ?_
  unfold f55.runT
  cases A0 with
  | none =>
    refine split_t ?_
    obtain rfl := Rd.void r0
    obtain rfl : [] = r := by have := (ap_e e).2; simpa using this
    exact ⟨m, none, 0, 0, O.nil (aE tell_str) none, rfl, rfl⟩
  | some a =>
    refine split_f ?_
    refine O.new fun h1 x1 O1 => ?_
    refine O1.appE0 tell_str rfl rfl (r0.srcE tell_str O1.s rfl) (by decide) e fun A4 c4 h4 x4 O4 => ?_
    refine ⟨_, _, _, rfl, ?_⟩
    exact ⟨m, _, _, _, O4.pick [1], rfl, rfl⟩
theorem slices_Clone_55.val (l : List ByteArray) (h : l.length * 16 ≤ 140737488355328) : slices_Clone_55 l = some l := ap_nil h
end Go.Proofs.YtdlihfedhojdgaaDoor.Fw

end
