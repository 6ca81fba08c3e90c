/- Data of the given program, and pure functions of its functions, with the walks. Printed by a program of this session. -/
import Derived.Test.YtilmfjdagnbbaabFwEffectSays
import Derived.Test.YtilmfjdagnbbaabHwWa
namespace Go.Proofs.Ytilmfjdagnbbaab.Fw
open Go Go.Hw Go.Proofs
set_option linter.unusedVariables false

structure T_api_Use where
  Name : ByteArray
  Low : Int
  High : Int
def T_api_Use.E (h : Heap) (x : T_api_Use) (cs : List Value) : Prop := cs = [.string x.Name, .int .i64 x.Low, .int .i64 x.High]
theorem T_api_Use.T : Tell 3 T_api_Use.E := ⟨by rintro m h x _ s rfl; exact rfl, by rintro h x _ rfl; rfl, by rintro h x _ rfl; exact Flats.cons trivial (Flats.cons trivial (Flats.cons trivial Flats.nil))⟩
theorem T_api_Use.keep {m h : Heap} {x : T_api_Use} {cs : List Value} (e : T_api_Use.E m x cs) : T_api_Use.E h x cs := e
def T_api_Use.Q (x : T_api_Use) : Prop := (x.Name.size ≤ 140737488351232) ∧ (-9223372036854775808 ≤ x.Low ∧ x.Low ≤ 9223372036854775807) ∧ (-9223372036854775808 ≤ x.High ∧ x.High ≤ 9223372036854775807)
theorem T_api_Use.tells {H : Type} {enc : TypeId × Value → H} {W : World} : Tells enc Try.prog W 294 T_api_Use.E T_api_Use.Q := tells_map (tells_struct (t := 294) (fs := [(9, 0), (3, 1), (3, 2)]) (T := 3) (by kernel_rfl) (by kernel_rfl) (tf_cons (s := 1) (f := 9) (by kernel_rfl) (tells_strL (t := 9) (by kernel_rfl)) (tf_cons (s := 1) (f := 3) (by kernel_rfl) (tells_i64 (t := 3) (by kernel_rfl)) (tf_cons (s := 1) (f := 3) (by kernel_rfl) (tells_i64 (t := 3) (by kernel_rfl)) tf_nil)))) (by
  rintro ⟨x0, x1, x2, ⟨⟩⟩ cs e q
  obtain ⟨c0, r0, rfl, e0, c1, r1, rfl, e1, c2, r2, rfl, e2, eN⟩ := e
  obtain rfl : c0 = [.string x0] := e0
  obtain rfl : c1 = [.int .i64 x1] := e1
  obtain rfl : c2 = [.int .i64 x2] := e2
  obtain rfl : r2 = [] := eN
  exact ⟨⟨x0, x1, x2⟩, rfl, q.1, q.2.1, q.2.2.1⟩)
def T_api_Use.bulk (x : T_api_Use) : Nat := ((x.Name.size + 1) + (1 + (1 + (0)))) + 1
theorem T_api_Use.kt {H : Type} {bk : DataW H → Nat} {enc : TypeId × Value → H} {W : World} {N : Nat} (M : Measure bk) : KT N bk enc Try.prog W 294 T_api_Use.E T_api_Use.bulk := kt_down (kt_map (kt_struct M (t := 294) (fs := [(9, 0), (3, 1), (3, 2)]) (T := 3) (by kernel_rfl) (by kernel_rfl) (ktf_cons (s := 1) (f := 9) (by kernel_rfl) tell_str (kt_str (t := 9) M (by kernel_rfl)) (ktf_cons (s := 1) (f := 3) (by kernel_rfl) (tell_int .i64) (kt_one M) (ktf_cons (s := 1) (f := 3) (by kernel_rfl) (tell_int .i64) (kt_one M) ktf_nil)))) (fun x cs e => by
  obtain rfl := e
  exact ⟨(x.Name, x.Low, x.High, ()), ⟨[.string x.Name], _, rfl, rfl, ⟨[.int .i64 x.Low], _, rfl, rfl, ⟨[.int .i64 x.High], _, rfl, rfl, rfl⟩⟩⟩, Nat.le_refl _⟩))
structure T_api_Type where
  Kind : Int
  Name : ByteArray
  Args : (List T_api_Type)
def T_api_Type.E (h : Heap) : T_api_Type → List Value → Prop
  | ⟨f0, f1, f2⟩, cs => ∃ A2 c2, cs = [.int .i64 f0, .string f1, .slice A2 f2.length c2] ∧ f2.length ≤ c2 ∧ (∀ i (hi : i < f2.length), ∃ a ds, A2 = some a ∧ cellsH h (a.add (i * 3)) 0 3 = some ds ∧ T_api_Type.E h f2[i] ds)
  termination_by x => SizeOf.sizeOf x
  decreasing_by
    all_goals
      have h1 := List.sizeOf_lt_of_mem (List.getElem_mem hi)
      first
      | (simp_all; omega)
theorem T_api_Type.iff {h : Heap} {x : T_api_Type} {cs : List Value} : T_api_Type.E h x cs ↔ ∃ A2 c2, cs = [.int .i64 x.Kind, .string x.Name, .slice A2 x.Args.length c2] ∧ x.Args.length ≤ c2 ∧ Rd 3 T_api_Type.E h A2 x.Args := by
  cases x
  rw [T_api_Type.E]
  exact Iff.rfl
theorem T_api_Type.mono {m h : Heap} (s : Sub m h) : ∀ (x : T_api_Type) (cs : List Value), T_api_Type.E m x cs → T_api_Type.E h x cs
  | ⟨f0, f1, f2⟩, cs, e => by
    rw [T_api_Type.E] at e ⊢
    obtain ⟨A2, c2, h1, k2, r2⟩ := e
    exact ⟨A2, c2, h1, k2, fun i hi => let ⟨a, ds, h1, h2, h3⟩ := r2 i hi; ⟨a, ds, h1, s.cells _ _ h2, T_api_Type.mono s _ _ h3⟩⟩
  termination_by x => SizeOf.sizeOf x
  decreasing_by
    all_goals
      have h1 := List.sizeOf_lt_of_mem (List.getElem_mem hi)
      first
      | (simp_all; omega)
theorem T_api_Type.T : Tell 3 T_api_Type.E := ⟨fun _ _ x cs s e => T_api_Type.mono s x cs e, by intro h x cs e; obtain ⟨A2, c2, rfl, k2, r2⟩ := T_api_Type.iff.1 e; rfl, by intro h x cs e; obtain ⟨A2, c2, rfl, k2, r2⟩ := T_api_Type.iff.1 e; exact Flats.cons trivial (Flats.cons trivial (Flats.cons trivial Flats.nil))⟩
def T_api_Type.Q : T_api_Type → Prop
  | ⟨f0, f1, f2⟩ => (-9223372036854775808 ≤ f0 ∧ f0 ≤ 9223372036854775807) ∧ (f1.size ≤ 140737488351232) ∧ (f2.length * 48 ≤ 140737488351232 ∧ ∀ i (hi : i < f2.length), T_api_Type.Q f2[i])
  termination_by x => SizeOf.sizeOf x
  decreasing_by
    all_goals
      have h1 := List.sizeOf_lt_of_mem (List.getElem_mem hi)
      first
      | (simp_all; omega)
theorem T_api_Type.Q_iff {x : T_api_Type} : T_api_Type.Q x ↔ (-9223372036854775808 ≤ x.Kind ∧ x.Kind ≤ 9223372036854775807) ∧ (x.Name.size ≤ 140737488351232) ∧ (x.Args.length * 48 ≤ 140737488351232 ∧ ∀ a ∈ x.Args, T_api_Type.Q a) := by
  obtain ⟨f0, f1, f2⟩ := x
  rw [T_api_Type.Q]
  show _ ↔ (-9223372036854775808 ≤ f0 ∧ f0 ≤ 9223372036854775807) ∧ (f1.size ≤ 140737488351232) ∧ (f2.length * 48 ≤ 140737488351232 ∧ ∀ a ∈ f2, T_api_Type.Q a)
  rw [← forall_get (l := f2) (p := T_api_Type.Q)]
theorem T_api_Type.tells {H : Type} {enc : TypeId × Value → H} {W : World} : Tells enc Try.prog W 67 T_api_Type.E T_api_Type.Q := tells_rec fun N ih => tellsU_map (tellsU_struct (t := 67) (fs := [(3, 0), (9, 1), (65, 2)]) (T := 3) (by kernel_rfl) (by kernel_rfl) (tfU_cons (s := 1) (f := 3) (by kernel_rfl) (Tells.up (tells_i64 (t := 3) (by kernel_rfl))) (tfU_cons (s := 1) (f := 9) (by kernel_rfl) (Tells.up (tells_strL (t := 9) (by kernel_rfl))) (tfU_cons (s := 1) (f := 65) (by kernel_rfl) (tellsU_slice (t := 65) (e := 67) (sz := 3) (B := 48) (by kernel_rfl) (by kernel_rfl) (by kernel_rfl) ih) tfU_nil)))) (by
  rintro ⟨x0, x1, x2, ⟨⟩⟩ cs e q
  obtain ⟨c0, r0, rfl, e0, c1, r1, rfl, e1, c2, r2, rfl, e2, eN⟩ := e
  obtain rfl : c0 = [.int .i64 x0] := e0
  obtain rfl : c1 = [.string x1] := e1
  obtain ⟨A2, k2, rfl, l2, R2⟩ := e2
  obtain rfl : r2 = [] := eN
  exact ⟨⟨x0, x1, x2⟩, T_api_Type.iff.2 ⟨_, _, rfl, l2, R2⟩, T_api_Type.Q_iff.2 ⟨q.1, q.2.1, q.2.2.1⟩⟩)
def T_api_Type.bulk : T_api_Type → Nat
  | ⟨f0, f1, f2⟩ => (1 + ((f1.size + 1) + (((f2.attach.map fun y => T_api_Type.bulk y.1).sum + 1) + (0)))) + 1
  termination_by x => SizeOf.sizeOf x
  decreasing_by
    all_goals
      have h1 := List.sizeOf_lt_of_mem y.2
      first
      | (simp_all; omega)
theorem T_api_Type.bulk_eq (x : T_api_Type) : T_api_Type.bulk x = (1 + ((x.Name.size + 1) + (((List.map T_api_Type.bulk x.Args).sum + 1) + (0)))) + 1 := by
  obtain ⟨f0, f1, f2⟩ := x
  rw [T_api_Type.bulk]
  rw [(List.attach_map_val : (f2.attach.map fun i => T_api_Type.bulk i.1) = f2.map T_api_Type.bulk)]
theorem T_api_Type.kt {H : Type} {bk : DataW H → Nat} {enc : TypeId × Value → H} {W : World} {N : Nat} (M : Measure bk) : KT N bk enc Try.prog W 67 T_api_Type.E T_api_Type.bulk := kt_rec (fun N ih => kt_map (kt_struct M (t := 67) (fs := [(3, 0), (9, 1), (65, 2)]) (T := 3) (by kernel_rfl) (by kernel_rfl) (ktf_cons (s := 1) (f := 3) (by kernel_rfl) (tell_int .i64) (kt_one M) (ktf_cons (s := 1) (f := 9) (by kernel_rfl) tell_str (kt_str (t := 9) M (by kernel_rfl)) (ktf_cons (s := 1) (f := 65) (by kernel_rfl) (tell_row T_api_Type.T) (kt_slice M (t := 65) (e := 67) (sz := 3) (by kernel_rfl) (by kernel_rfl) ih) ktf_nil)))) (fun x cs e => by
  obtain ⟨A2, c2, rfl, k2, r2⟩ := T_api_Type.iff.1 e
  exact ⟨(x.Kind, x.Name, x.Args, ()), ⟨[.int .i64 x.Kind], _, rfl, rfl, ⟨[.string x.Name], _, rfl, rfl, ⟨[.slice A2 x.Args.length c2], _, rfl, ⟨_, _, rfl, k2, r2⟩, rfl⟩⟩⟩, by rw [T_api_Type.bulk_eq]; exact Nat.le_refl _⟩)) N
structure T_api_Make where
  Name : ByteArray
  Args : (List T_api_Type)
def T_api_Make.E (h : Heap) (x : T_api_Make) (cs : List Value) : Prop := ∃ A1 c1, cs = [.string x.Name, .slice A1 x.Args.length c1] ∧ x.Args.length ≤ c1 ∧ Rd 3 T_api_Type.E h A1 x.Args
theorem T_api_Make.T : Tell 2 T_api_Make.E := ⟨by rintro m h x _ s ⟨A1, c1, rfl, k1, r1⟩; exact ⟨_, _, rfl, k1, r1.sub T_api_Type.T s⟩, by rintro h x _ ⟨A1, c1, rfl, k1, r1⟩; rfl, by rintro h x _ ⟨A1, c1, rfl, k1, r1⟩; exact Flats.cons trivial (Flats.cons trivial Flats.nil)⟩
def T_api_Make.Q (x : T_api_Make) : Prop := (x.Name.size ≤ 140737488351232) ∧ (x.Args.length * 48 ≤ 140737488351232 ∧ ∀ a ∈ x.Args, (T_api_Type.Q a))
theorem T_api_Make.tells {H : Type} {enc : TypeId × Value → H} {W : World} : Tells enc Try.prog W 302 T_api_Make.E T_api_Make.Q := tells_map (tells_struct (t := 302) (fs := [(9, 0), (65, 1)]) (T := 2) (by kernel_rfl) (by kernel_rfl) (tf_cons (s := 1) (f := 9) (by kernel_rfl) (tells_strL (t := 9) (by kernel_rfl)) (tf_cons (s := 1) (f := 65) (by kernel_rfl) (tells_sliceL (t := 65) (e := 67) (sz := 3) (B := 48) (by kernel_rfl) (by kernel_rfl) (by kernel_rfl) T_api_Type.tells) tf_nil))) (by
  rintro ⟨x0, x1, ⟨⟩⟩ cs e q
  obtain ⟨c0, r0, rfl, e0, c1, r1, rfl, e1, eN⟩ := e
  obtain rfl : c0 = [.string x0] := e0
  obtain ⟨A1, k1, rfl, l1, R1⟩ := e1
  obtain rfl : r1 = [] := eN
  exact ⟨⟨x0, x1⟩, ⟨_, _, rfl, l1, R1⟩, q.1, q.2.1⟩)
def T_api_Make.bulk (x : T_api_Make) : Nat := ((x.Name.size + 1) + (((List.map T_api_Type.bulk x.Args).sum + 1) + (0))) + 1
theorem T_api_Make.kt {H : Type} {bk : DataW H → Nat} {enc : TypeId × Value → H} {W : World} {N : Nat} (M : Measure bk) : KT N bk enc Try.prog W 302 T_api_Make.E T_api_Make.bulk := kt_down (kt_map (kt_struct M (t := 302) (fs := [(9, 0), (65, 1)]) (T := 2) (by kernel_rfl) (by kernel_rfl) (ktf_cons (s := 1) (f := 9) (by kernel_rfl) tell_str (kt_str (t := 9) M (by kernel_rfl)) (ktf_cons (s := 1) (f := 65) (by kernel_rfl) (tell_row T_api_Type.T) (kt_slice M (t := 65) (e := 67) (sz := 3) (by kernel_rfl) (by kernel_rfl) (T_api_Type.kt M)) ktf_nil))) (fun x cs e => by
  obtain ⟨A1, c1, rfl, k1, r1⟩ := e
  exact ⟨(x.Name, x.Args, ()), ⟨[.string x.Name], _, rfl, rfl, ⟨[.slice A1 x.Args.length c1], _, rfl, ⟨_, _, rfl, k1, r1⟩, rfl⟩⟩, Nat.le_refl _⟩))
structure T_api_Data where
  Name : ByteArray
  Params : (List ByteArray)
  Makes : (List T_api_Make)
def T_api_Data.E (h : Heap) (x : T_api_Data) (cs : List Value) : Prop := ∃ A1 c1 A2 c2, cs = [.string x.Name, .slice A1 x.Params.length c1, .slice A2 x.Makes.length c2] ∧ x.Params.length ≤ c1 ∧ Rd 1 eStr h A1 x.Params ∧ x.Makes.length ≤ c2 ∧ Rd 2 T_api_Make.E h A2 x.Makes
theorem T_api_Data.T : Tell 3 T_api_Data.E := ⟨by rintro m h x _ s ⟨A1, c1, A2, c2, rfl, k1, r1, k2, r2⟩; exact ⟨_, _, _, _, rfl, k1, r1.sub tell_str s, k2, r2.sub T_api_Make.T s⟩, by rintro h x _ ⟨A1, c1, A2, c2, rfl, k1, r1, k2, r2⟩; rfl, by rintro h x _ ⟨A1, c1, A2, c2, rfl, k1, r1, k2, r2⟩; exact Flats.cons trivial (Flats.cons trivial (Flats.cons trivial Flats.nil))⟩
def T_api_Data.Q (x : T_api_Data) : Prop := (x.Name.size ≤ 140737488351232) ∧ (x.Params.length * 16 ≤ 140737488351232 ∧ ∀ a ∈ x.Params, (a.size ≤ 140737488351232)) ∧ (x.Makes.length * 40 ≤ 140737488351232 ∧ ∀ a ∈ x.Makes, (T_api_Make.Q a))
theorem T_api_Data.tells {H : Type} {enc : TypeId × Value → H} {W : World} : Tells enc Try.prog W 297 T_api_Data.E T_api_Data.Q := tells_map (tells_struct (t := 297) (fs := [(9, 0), (64, 1), (295, 2)]) (T := 3) (by kernel_rfl) (by kernel_rfl) (tf_cons (s := 1) (f := 9) (by kernel_rfl) (tells_strL (t := 9) (by kernel_rfl)) (tf_cons (s := 1) (f := 64) (by kernel_rfl) (tells_sliceL (t := 64) (e := 9) (sz := 1) (B := 16) (by kernel_rfl) (by kernel_rfl) (by kernel_rfl) (tells_strL (t := 9) (by kernel_rfl))) (tf_cons (s := 1) (f := 295) (by kernel_rfl) (tells_sliceL (t := 295) (e := 302) (sz := 2) (B := 40) (by kernel_rfl) (by kernel_rfl) (by kernel_rfl) T_api_Make.tells) tf_nil)))) (by
  rintro ⟨x0, x1, x2, ⟨⟩⟩ cs e q
  obtain ⟨c0, r0, rfl, e0, c1, r1, rfl, e1, c2, r2, rfl, e2, eN⟩ := e
  obtain rfl : c0 = [.string x0] := e0
  obtain ⟨A1, k1, rfl, l1, R1⟩ := e1
  obtain ⟨A2, k2, rfl, l2, R2⟩ := e2
  obtain rfl : r2 = [] := eN
  exact ⟨⟨x0, x1, x2⟩, ⟨_, _, _, _, rfl, l1, R1, l2, R2⟩, q.1, q.2.1, q.2.2.1⟩)
def T_api_Data.bulk (x : T_api_Data) : Nat := ((x.Name.size + 1) + (((List.map (fun s : ByteArray => s.size + 1) x.Params).sum + 1) + (((List.map T_api_Make.bulk x.Makes).sum + 1) + (0)))) + 1
theorem T_api_Data.kt {H : Type} {bk : DataW H → Nat} {enc : TypeId × Value → H} {W : World} {N : Nat} (M : Measure bk) : KT N bk enc Try.prog W 297 T_api_Data.E T_api_Data.bulk := kt_down (kt_map (kt_struct M (t := 297) (fs := [(9, 0), (64, 1), (295, 2)]) (T := 3) (by kernel_rfl) (by kernel_rfl) (ktf_cons (s := 1) (f := 9) (by kernel_rfl) tell_str (kt_str (t := 9) M (by kernel_rfl)) (ktf_cons (s := 1) (f := 64) (by kernel_rfl) (tell_row tell_str) (kt_slice M (t := 64) (e := 9) (sz := 1) (by kernel_rfl) (by kernel_rfl) (kt_str (t := 9) M (by kernel_rfl))) (ktf_cons (s := 1) (f := 295) (by kernel_rfl) (tell_row T_api_Make.T) (kt_slice M (t := 295) (e := 302) (sz := 2) (by kernel_rfl) (by kernel_rfl) (T_api_Make.kt M)) ktf_nil)))) (fun x cs e => by
  obtain ⟨A1, c1, A2, c2, rfl, k1, r1, k2, r2⟩ := e
  exact ⟨(x.Name, x.Params, x.Makes, ()), ⟨[.string x.Name], _, rfl, rfl, ⟨[.slice A1 x.Params.length c1], _, rfl, ⟨_, _, rfl, k1, r1⟩, ⟨[.slice A2 x.Makes.length c2], _, rfl, ⟨_, _, rfl, k2, r2⟩, rfl⟩⟩⟩, Nat.le_refl _⟩))
structure T_api_Pat where
  Kind : Int
  Num : Int
  Text : ByteArray
  Args : (List T_api_Pat)
def T_api_Pat.E (h : Heap) : T_api_Pat → List Value → Prop
  | ⟨f0, f1, f2, f3⟩, cs => ∃ A3 c3, cs = [.int .i64 f0, .int .i64 f1, .string f2, .slice A3 f3.length c3] ∧ f3.length ≤ c3 ∧ (∀ i (hi : i < f3.length), ∃ a ds, A3 = some a ∧ cellsH h (a.add (i * 4)) 0 4 = some ds ∧ T_api_Pat.E h f3[i] ds)
  termination_by x => SizeOf.sizeOf x
  decreasing_by
    all_goals
      have h1 := List.sizeOf_lt_of_mem (List.getElem_mem hi)
      first
      | (simp_all; omega)
theorem T_api_Pat.iff {h : Heap} {x : T_api_Pat} {cs : List Value} : T_api_Pat.E h x cs ↔ ∃ A3 c3, cs = [.int .i64 x.Kind, .int .i64 x.Num, .string x.Text, .slice A3 x.Args.length c3] ∧ x.Args.length ≤ c3 ∧ Rd 4 T_api_Pat.E h A3 x.Args := by
  cases x
  rw [T_api_Pat.E]
  exact Iff.rfl
theorem T_api_Pat.mono {m h : Heap} (s : Sub m h) : ∀ (x : T_api_Pat) (cs : List Value), T_api_Pat.E m x cs → T_api_Pat.E h x cs
  | ⟨f0, f1, f2, f3⟩, cs, e => by
    rw [T_api_Pat.E] at e ⊢
    obtain ⟨A3, c3, h1, k3, r3⟩ := e
    exact ⟨A3, c3, h1, k3, fun i hi => let ⟨a, ds, h1, h2, h3⟩ := r3 i hi; ⟨a, ds, h1, s.cells _ _ h2, T_api_Pat.mono s _ _ h3⟩⟩
  termination_by x => SizeOf.sizeOf x
  decreasing_by
    all_goals
      have h1 := List.sizeOf_lt_of_mem (List.getElem_mem hi)
      first
      | (simp_all; omega)
theorem T_api_Pat.T : Tell 4 T_api_Pat.E := ⟨fun _ _ x cs s e => T_api_Pat.mono s x cs e, by intro h x cs e; obtain ⟨A3, c3, rfl, k3, r3⟩ := T_api_Pat.iff.1 e; rfl, by intro h x cs e; obtain ⟨A3, c3, rfl, k3, r3⟩ := T_api_Pat.iff.1 e; exact Flats.cons trivial (Flats.cons trivial (Flats.cons trivial (Flats.cons trivial Flats.nil)))⟩
def T_api_Pat.Q : T_api_Pat → Prop
  | ⟨f0, f1, f2, f3⟩ => (-9223372036854775808 ≤ f0 ∧ f0 ≤ 9223372036854775807) ∧ (-9223372036854775808 ≤ f1 ∧ f1 ≤ 9223372036854775807) ∧ (f2.size ≤ 140737488351232) ∧ (f3.length * 56 ≤ 140737488351232 ∧ ∀ i (hi : i < f3.length), T_api_Pat.Q f3[i])
  termination_by x => SizeOf.sizeOf x
  decreasing_by
    all_goals
      have h1 := List.sizeOf_lt_of_mem (List.getElem_mem hi)
      first
      | (simp_all; omega)
theorem T_api_Pat.Q_iff {x : T_api_Pat} : T_api_Pat.Q x ↔ (-9223372036854775808 ≤ x.Kind ∧ x.Kind ≤ 9223372036854775807) ∧ (-9223372036854775808 ≤ x.Num ∧ x.Num ≤ 9223372036854775807) ∧ (x.Text.size ≤ 140737488351232) ∧ (x.Args.length * 56 ≤ 140737488351232 ∧ ∀ a ∈ x.Args, T_api_Pat.Q a) := by
  obtain ⟨f0, f1, f2, f3⟩ := x
  rw [T_api_Pat.Q]
  show _ ↔ (-9223372036854775808 ≤ f0 ∧ f0 ≤ 9223372036854775807) ∧ (-9223372036854775808 ≤ f1 ∧ f1 ≤ 9223372036854775807) ∧ (f2.size ≤ 140737488351232) ∧ (f3.length * 56 ≤ 140737488351232 ∧ ∀ a ∈ f3, T_api_Pat.Q a)
  rw [← forall_get (l := f3) (p := T_api_Pat.Q)]
theorem T_api_Pat.tells {H : Type} {enc : TypeId × Value → H} {W : World} : Tells enc Try.prog W 244 T_api_Pat.E T_api_Pat.Q := tells_rec fun N ih => tellsU_map (tellsU_struct (t := 244) (fs := [(3, 0), (3, 1), (9, 2), (242, 3)]) (T := 4) (by kernel_rfl) (by kernel_rfl) (tfU_cons (s := 1) (f := 3) (by kernel_rfl) (Tells.up (tells_i64 (t := 3) (by kernel_rfl))) (tfU_cons (s := 1) (f := 3) (by kernel_rfl) (Tells.up (tells_i64 (t := 3) (by kernel_rfl))) (tfU_cons (s := 1) (f := 9) (by kernel_rfl) (Tells.up (tells_strL (t := 9) (by kernel_rfl))) (tfU_cons (s := 1) (f := 242) (by kernel_rfl) (tellsU_slice (t := 242) (e := 244) (sz := 4) (B := 56) (by kernel_rfl) (by kernel_rfl) (by kernel_rfl) ih) tfU_nil))))) (by
  rintro ⟨x0, x1, x2, x3, ⟨⟩⟩ cs e q
  obtain ⟨c0, r0, rfl, e0, c1, r1, rfl, e1, c2, r2, rfl, e2, c3, r3, rfl, e3, eN⟩ := e
  obtain rfl : c0 = [.int .i64 x0] := e0
  obtain rfl : c1 = [.int .i64 x1] := e1
  obtain rfl : c2 = [.string x2] := e2
  obtain ⟨A3, k3, rfl, l3, R3⟩ := e3
  obtain rfl : r3 = [] := eN
  exact ⟨⟨x0, x1, x2, x3⟩, T_api_Pat.iff.2 ⟨_, _, rfl, l3, R3⟩, T_api_Pat.Q_iff.2 ⟨q.1, q.2.1, q.2.2.1, q.2.2.2.1⟩⟩)
def T_api_Pat.bulk : T_api_Pat → Nat
  | ⟨f0, f1, f2, f3⟩ => (1 + (1 + ((f2.size + 1) + (((f3.attach.map fun y => T_api_Pat.bulk y.1).sum + 1) + (0))))) + 1
  termination_by x => SizeOf.sizeOf x
  decreasing_by
    all_goals
      have h1 := List.sizeOf_lt_of_mem y.2
      first
      | (simp_all; omega)
theorem T_api_Pat.bulk_eq (x : T_api_Pat) : T_api_Pat.bulk x = (1 + (1 + ((x.Text.size + 1) + (((List.map T_api_Pat.bulk x.Args).sum + 1) + (0))))) + 1 := by
  obtain ⟨f0, f1, f2, f3⟩ := x
  rw [T_api_Pat.bulk]
  rw [(List.attach_map_val : (f3.attach.map fun i => T_api_Pat.bulk i.1) = f3.map T_api_Pat.bulk)]
theorem T_api_Pat.kt {H : Type} {bk : DataW H → Nat} {enc : TypeId × Value → H} {W : World} {N : Nat} (M : Measure bk) : KT N bk enc Try.prog W 244 T_api_Pat.E T_api_Pat.bulk := kt_rec (fun N ih => kt_map (kt_struct M (t := 244) (fs := [(3, 0), (3, 1), (9, 2), (242, 3)]) (T := 4) (by kernel_rfl) (by kernel_rfl) (ktf_cons (s := 1) (f := 3) (by kernel_rfl) (tell_int .i64) (kt_one M) (ktf_cons (s := 1) (f := 3) (by kernel_rfl) (tell_int .i64) (kt_one M) (ktf_cons (s := 1) (f := 9) (by kernel_rfl) tell_str (kt_str (t := 9) M (by kernel_rfl)) (ktf_cons (s := 1) (f := 242) (by kernel_rfl) (tell_row T_api_Pat.T) (kt_slice M (t := 242) (e := 244) (sz := 4) (by kernel_rfl) (by kernel_rfl) ih) ktf_nil))))) (fun x cs e => by
  obtain ⟨A3, c3, rfl, k3, r3⟩ := T_api_Pat.iff.1 e
  exact ⟨(x.Kind, x.Num, x.Text, x.Args, ()), ⟨[.int .i64 x.Kind], _, rfl, rfl, ⟨[.int .i64 x.Num], _, rfl, rfl, ⟨[.string x.Text], _, rfl, rfl, ⟨[.slice A3 x.Args.length c3], _, rfl, ⟨_, _, rfl, k3, r3⟩, rfl⟩⟩⟩⟩, by rw [T_api_Pat.bulk_eq]; exact Nat.le_refl _⟩)) N
mutual
structure T_api_Expr where
  Kind : Int
  Num : Int
  Text : ByteArray
  Names : (List ByteArray)
  Types : (List T_api_Type)
  Args : (List T_api_Expr)
  Arms : (List T_api_Arm)
  At : Int
structure T_api_Arm where
  Pat : T_api_Pat
  Body : T_api_Expr
end
theorem T_api_Arm.lt_Body (x : T_api_Arm) : SizeOf.sizeOf x.Body < SizeOf.sizeOf x := by cases x; simp; omega
def T_api_Expr.E (h : Heap) : T_api_Expr → List Value → Prop
  | ⟨f0, f1, f2, f3, f4, f5, f6, f7⟩, cs => ∃ A3 c3 A4 c4 A5 c5 A6 c6, cs = [.int .i64 f0, .int .i64 f1, .string f2, .slice A3 f3.length c3, .slice A4 f4.length c4, .slice A5 f5.length c5, .slice A6 f6.length c6, .int .i64 f7] ∧ f3.length ≤ c3 ∧ Rd 1 eStr h A3 f3 ∧ f4.length ≤ c4 ∧ Rd 3 T_api_Type.E h A4 f4 ∧ f5.length ≤ c5 ∧ (∀ i (hi : i < f5.length), ∃ a ds, A5 = some a ∧ cellsH h (a.add (i * 8)) 0 8 = some ds ∧ T_api_Expr.E h f5[i] ds) ∧ f6.length ≤ c6 ∧ (∀ i (hi : i < f6.length), ∃ a ds, A6 = some a ∧ cellsH h (a.add (i * 12)) 0 12 = some ds ∧ ∃ d0 d1, ds = d0 ++ d1 ∧ T_api_Pat.E h f6[i].Pat d0 ∧ T_api_Expr.E h f6[i].Body d1)
  termination_by x => SizeOf.sizeOf x
  decreasing_by
    all_goals
      have h1 := List.sizeOf_lt_of_mem (List.getElem_mem hi)
      first
      | (simp_all; omega)
      | (have h2 := T_api_Arm.lt_Body (f6[i]'hi); simp_all; omega)
def T_api_Arm.E (h : Heap) (x : T_api_Arm) (cs : List Value) : Prop := ∃ d0 d1, cs = d0 ++ d1 ∧ T_api_Pat.E h x.Pat d0 ∧ T_api_Expr.E h x.Body d1
theorem T_api_Expr.iff {h : Heap} {x : T_api_Expr} {cs : List Value} : T_api_Expr.E h x cs ↔ ∃ A3 c3 A4 c4 A5 c5 A6 c6, cs = [.int .i64 x.Kind, .int .i64 x.Num, .string x.Text, .slice A3 x.Names.length c3, .slice A4 x.Types.length c4, .slice A5 x.Args.length c5, .slice A6 x.Arms.length c6, .int .i64 x.At] ∧ x.Names.length ≤ c3 ∧ Rd 1 eStr h A3 x.Names ∧ x.Types.length ≤ c4 ∧ Rd 3 T_api_Type.E h A4 x.Types ∧ x.Args.length ≤ c5 ∧ Rd 8 T_api_Expr.E h A5 x.Args ∧ x.Arms.length ≤ c6 ∧ Rd 12 T_api_Arm.E h A6 x.Arms := by
  cases x
  rw [T_api_Expr.E]
  exact Iff.rfl
theorem T_api_Expr.mono {m h : Heap} (s : Sub m h) : ∀ (x : T_api_Expr) (cs : List Value), T_api_Expr.E m x cs → T_api_Expr.E h x cs
  | ⟨f0, f1, f2, f3, f4, f5, f6, f7⟩, cs, e => by
    rw [T_api_Expr.E] at e ⊢
    obtain ⟨A3, c3, A4, c4, A5, c5, A6, c6, h1, k3, r3, k4, r4, k5, r5, k6, r6⟩ := e
    exact ⟨A3, c3, A4, c4, A5, c5, A6, c6, h1, k3, r3.sub tell_str s, k4, r4.sub T_api_Type.T s, k5, fun i hi => let ⟨a, ds, h1, h2, h3⟩ := r5 i hi; ⟨a, ds, h1, s.cells _ _ h2, T_api_Expr.mono s _ _ h3⟩, k6, fun i hi => let ⟨a, ds, h1, h2, d0, d1, h4, e0, e1⟩ := r6 i hi; ⟨a, ds, h1, s.cells _ _ h2, d0, d1, h4, T_api_Pat.T.mono _ _ _ _ s e0, T_api_Expr.mono s _ _ e1⟩⟩
  termination_by x => SizeOf.sizeOf x
  decreasing_by
    all_goals
      have h1 := List.sizeOf_lt_of_mem (List.getElem_mem hi)
      first
      | (simp_all; omega)
      | (have h2 := T_api_Arm.lt_Body (f6[i]'hi); simp_all; omega)
theorem T_api_Expr.T : Tell 8 T_api_Expr.E := ⟨fun _ _ x cs s e => T_api_Expr.mono s x cs e, by intro h x cs e; obtain ⟨A3, c3, A4, c4, A5, c5, A6, c6, rfl, k3, r3, k4, r4, k5, r5, k6, r6⟩ := T_api_Expr.iff.1 e; rfl, by intro h x cs e; obtain ⟨A3, c3, A4, c4, A5, c5, A6, c6, rfl, k3, r3, k4, r4, k5, r5, k6, r6⟩ := T_api_Expr.iff.1 e; exact Flats.cons trivial (Flats.cons trivial (Flats.cons trivial (Flats.cons trivial (Flats.cons trivial (Flats.cons trivial (Flats.cons trivial (Flats.cons trivial Flats.nil)))))))⟩
theorem T_api_Arm.iff {h : Heap} {x : T_api_Arm} {cs : List Value} : T_api_Arm.E h x cs ↔ ∃ A3 c3 A7 c7 A8 c8 A9 c9 A10 c10, cs = [.int .i64 x.Pat.Kind, .int .i64 x.Pat.Num, .string x.Pat.Text, .slice A3 x.Pat.Args.length c3, .int .i64 x.Body.Kind, .int .i64 x.Body.Num, .string x.Body.Text, .slice A7 x.Body.Names.length c7, .slice A8 x.Body.Types.length c8, .slice A9 x.Body.Args.length c9, .slice A10 x.Body.Arms.length c10, .int .i64 x.Body.At] ∧ x.Pat.Args.length ≤ c3 ∧ Rd 4 T_api_Pat.E h A3 x.Pat.Args ∧ x.Body.Names.length ≤ c7 ∧ Rd 1 eStr h A7 x.Body.Names ∧ x.Body.Types.length ≤ c8 ∧ Rd 3 T_api_Type.E h A8 x.Body.Types ∧ x.Body.Args.length ≤ c9 ∧ Rd 8 T_api_Expr.E h A9 x.Body.Args ∧ x.Body.Arms.length ≤ c10 ∧ Rd 12 T_api_Arm.E h A10 x.Body.Arms := by
  constructor
  · rintro ⟨d0, d1, rfl, e0, e1⟩
    obtain ⟨A3, c3, rfl, k3, r3⟩ := T_api_Pat.iff.1 e0
    obtain ⟨A7, c7, A8, c8, A9, c9, A10, c10, rfl, k7, r7, k8, r8, k9, r9, k10, r10⟩ := T_api_Expr.iff.1 e1
    exact ⟨A3, c3, A7, c7, A8, c8, A9, c9, A10, c10, rfl, k3, r3, k7, r7, k8, r8, k9, r9, k10, r10⟩
  · rintro ⟨A3, c3, A7, c7, A8, c8, A9, c9, A10, c10, rfl, k3, r3, k7, r7, k8, r8, k9, r9, k10, r10⟩
    exact ⟨[.int .i64 x.Pat.Kind, .int .i64 x.Pat.Num, .string x.Pat.Text, .slice A3 x.Pat.Args.length c3], [.int .i64 x.Body.Kind, .int .i64 x.Body.Num, .string x.Body.Text, .slice A7 x.Body.Names.length c7, .slice A8 x.Body.Types.length c8, .slice A9 x.Body.Args.length c9, .slice A10 x.Body.Arms.length c10, .int .i64 x.Body.At], rfl, T_api_Pat.iff.2 ⟨A3, c3, rfl, k3, r3⟩, T_api_Expr.iff.2 ⟨A7, c7, A8, c8, A9, c9, A10, c10, rfl, k7, r7, k8, r8, k9, r9, k10, r10⟩⟩
theorem T_api_Arm.T : Tell 12 T_api_Arm.E := ⟨by rintro m h x _ s ⟨d0, d1, rfl, e0, e1⟩; exact ⟨d0, d1, rfl, T_api_Pat.T.mono _ _ _ _ s e0, T_api_Expr.T.mono _ _ _ _ s e1⟩, by intro h x cs e; obtain ⟨A3, c3, A7, c7, A8, c8, A9, c9, A10, c10, rfl, k3, r3, k7, r7, k8, r8, k9, r9, k10, r10⟩ := T_api_Arm.iff.1 e; rfl, by intro h x cs e; obtain ⟨A3, c3, A7, c7, A8, c8, A9, c9, A10, c10, rfl, k3, r3, k7, r7, k8, r8, k9, r9, k10, r10⟩ := T_api_Arm.iff.1 e; exact Flats.cons trivial (Flats.cons trivial (Flats.cons trivial (Flats.cons trivial (Flats.cons trivial (Flats.cons trivial (Flats.cons trivial (Flats.cons trivial (Flats.cons trivial (Flats.cons trivial (Flats.cons trivial (Flats.cons trivial Flats.nil)))))))))))⟩
def T_api_Expr.Q : T_api_Expr → Prop
  | ⟨f0, f1, f2, f3, f4, f5, f6, f7⟩ => (-9223372036854775808 ≤ f0 ∧ f0 ≤ 9223372036854775807) ∧ (-9223372036854775808 ≤ f1 ∧ f1 ≤ 9223372036854775807) ∧ (f2.size ≤ 140737488351232) ∧ (f3.length * 16 ≤ 140737488351232 ∧ ∀ a ∈ f3, (a.size ≤ 140737488351232)) ∧ (f4.length * 48 ≤ 140737488351232 ∧ ∀ a ∈ f4, (T_api_Type.Q a)) ∧ (f5.length * 136 ≤ 140737488351232 ∧ ∀ i (hi : i < f5.length), T_api_Expr.Q f5[i]) ∧ (f6.length * 192 ≤ 140737488351232 ∧ ∀ i (hi : i < f6.length), (T_api_Pat.Q f6[i].Pat) ∧ (T_api_Expr.Q f6[i].Body)) ∧ (-9223372036854775808 ≤ f7 ∧ f7 ≤ 9223372036854775807)
  termination_by x => SizeOf.sizeOf x
  decreasing_by
    all_goals
      have h1 := List.sizeOf_lt_of_mem (List.getElem_mem hi)
      first
      | (simp_all; omega)
      | (have h2 := T_api_Arm.lt_Body (f6[i]'hi); simp_all; omega)
def T_api_Arm.Q (x : T_api_Arm) : Prop := (T_api_Pat.Q x.Pat) ∧ (T_api_Expr.Q x.Body)
theorem T_api_Expr.Q_iff {x : T_api_Expr} : T_api_Expr.Q x ↔ (-9223372036854775808 ≤ x.Kind ∧ x.Kind ≤ 9223372036854775807) ∧ (-9223372036854775808 ≤ x.Num ∧ x.Num ≤ 9223372036854775807) ∧ (x.Text.size ≤ 140737488351232) ∧ (x.Names.length * 16 ≤ 140737488351232 ∧ ∀ a ∈ x.Names, (a.size ≤ 140737488351232)) ∧ (x.Types.length * 48 ≤ 140737488351232 ∧ ∀ a ∈ x.Types, (T_api_Type.Q a)) ∧ (x.Args.length * 136 ≤ 140737488351232 ∧ ∀ a ∈ x.Args, T_api_Expr.Q a) ∧ (x.Arms.length * 192 ≤ 140737488351232 ∧ ∀ a ∈ x.Arms, T_api_Arm.Q a) ∧ (-9223372036854775808 ≤ x.At ∧ x.At ≤ 9223372036854775807) := by
  obtain ⟨f0, f1, f2, f3, f4, f5, f6, f7⟩ := x
  rw [T_api_Expr.Q]
  show _ ↔ (-9223372036854775808 ≤ f0 ∧ f0 ≤ 9223372036854775807) ∧ (-9223372036854775808 ≤ f1 ∧ f1 ≤ 9223372036854775807) ∧ (f2.size ≤ 140737488351232) ∧ (f3.length * 16 ≤ 140737488351232 ∧ ∀ a ∈ f3, (a.size ≤ 140737488351232)) ∧ (f4.length * 48 ≤ 140737488351232 ∧ ∀ a ∈ f4, (T_api_Type.Q a)) ∧ (f5.length * 136 ≤ 140737488351232 ∧ ∀ a ∈ f5, T_api_Expr.Q a) ∧ (f6.length * 192 ≤ 140737488351232 ∧ ∀ a ∈ f6, T_api_Arm.Q a) ∧ (-9223372036854775808 ≤ f7 ∧ f7 ≤ 9223372036854775807)
  rw [← forall_get (l := f5) (p := T_api_Expr.Q), ← forall_get (l := f6) (p := T_api_Arm.Q)]
  exact Iff.rfl
theorem T_api_Arm.tellsU {H : Type} {enc : TypeId × Value → H} {W : World} {N : Nat} (ih : TellsU N enc Try.prog W 71 T_api_Expr.E T_api_Expr.Q) : TellsU (N + 1) enc Try.prog W 246 T_api_Arm.E T_api_Arm.Q := tellsU_map (tellsU_struct (t := 246) (fs := [(244, 0), (71, 4)]) (T := 12) (by kernel_rfl) (by kernel_rfl) (tfU_cons (s := 4) (f := 244) (by kernel_rfl) (Tells.up T_api_Pat.tells) (tfU_cons (s := 8) (f := 71) (by kernel_rfl) ih tfU_nil))) (by
  rintro ⟨x0, x1, ⟨⟩⟩ cs e q
  obtain ⟨c0, r0, rfl, e0, c1, r1, rfl, e1, eN⟩ := e
  obtain rfl : r1 = [] := eN
  exact ⟨⟨x0, x1⟩, ⟨_, _, by simp, e0, e1⟩, q.1, q.2.1⟩)
theorem T_api_Expr.tells {H : Type} {enc : TypeId × Value → H} {W : World} : Tells enc Try.prog W 71 T_api_Expr.E T_api_Expr.Q := tells_rec fun N ih => tellsU_map (tellsU_struct (t := 71) (fs := [(3, 0), (3, 1), (9, 2), (64, 3), (65, 4), (68, 5), (69, 6), (3, 7)]) (T := 8) (by kernel_rfl) (by kernel_rfl) (tfU_cons (s := 1) (f := 3) (by kernel_rfl) (Tells.up (tells_i64 (t := 3) (by kernel_rfl))) (tfU_cons (s := 1) (f := 3) (by kernel_rfl) (Tells.up (tells_i64 (t := 3) (by kernel_rfl))) (tfU_cons (s := 1) (f := 9) (by kernel_rfl) (Tells.up (tells_strL (t := 9) (by kernel_rfl))) (tfU_cons (s := 1) (f := 64) (by kernel_rfl) (Tells.up (tells_sliceL (t := 64) (e := 9) (sz := 1) (B := 16) (by kernel_rfl) (by kernel_rfl) (by kernel_rfl) (tells_strL (t := 9) (by kernel_rfl)))) (tfU_cons (s := 1) (f := 65) (by kernel_rfl) (Tells.up (tells_sliceL (t := 65) (e := 67) (sz := 3) (B := 48) (by kernel_rfl) (by kernel_rfl) (by kernel_rfl) T_api_Type.tells)) (tfU_cons (s := 1) (f := 68) (by kernel_rfl) (tellsU_slice (t := 68) (e := 71) (sz := 8) (B := 136) (by kernel_rfl) (by kernel_rfl) (by kernel_rfl) ih) (tfU_cons (s := 1) (f := 69) (by kernel_rfl) (tellsU_slice (t := 69) (e := 246) (sz := 12) (B := 192) (by kernel_rfl) (by kernel_rfl) (by kernel_rfl) (tellsU_down (T_api_Arm.tellsU ih))) (tfU_cons (s := 1) (f := 3) (by kernel_rfl) (Tells.up (tells_i64 (t := 3) (by kernel_rfl))) tfU_nil))))))))) (by
  rintro ⟨x0, x1, x2, x3, x4, x5, x6, x7, ⟨⟩⟩ cs e q
  obtain ⟨c0, r0, rfl, e0, c1, r1, rfl, e1, c2, r2, rfl, e2, c3, r3, rfl, e3, c4, r4, rfl, e4, c5, r5, rfl, e5, c6, r6, rfl, e6, c7, r7, rfl, e7, eN⟩ := e
  obtain rfl : c0 = [.int .i64 x0] := e0
  obtain rfl : c1 = [.int .i64 x1] := e1
  obtain rfl : c2 = [.string x2] := e2
  obtain ⟨A3, k3, rfl, l3, R3⟩ := e3
  obtain ⟨A4, k4, rfl, l4, R4⟩ := e4
  obtain ⟨A5, k5, rfl, l5, R5⟩ := e5
  obtain ⟨A6, k6, rfl, l6, R6⟩ := e6
  obtain rfl : c7 = [.int .i64 x7] := e7
  obtain rfl : r7 = [] := eN
  exact ⟨⟨x0, x1, x2, x3, x4, x5, x6, x7⟩, T_api_Expr.iff.2 ⟨_, _, _, _, _, _, _, _, rfl, l3, R3, l4, R4, l5, R5, l6, R6⟩, T_api_Expr.Q_iff.2 ⟨q.1, q.2.1, q.2.2.1, q.2.2.2.1, q.2.2.2.2.1, q.2.2.2.2.2.1, q.2.2.2.2.2.2.1, q.2.2.2.2.2.2.2.1⟩⟩)
theorem T_api_Arm.tells {H : Type} {enc : TypeId × Value → H} {W : World} : Tells enc Try.prog W 246 T_api_Arm.E T_api_Arm.Q := fun fuel => T_api_Arm.tellsU (N := fuel) (Tells.up T_api_Expr.tells) fuel (Nat.lt_succ_self _)
def T_api_Expr.bulk : T_api_Expr → Nat
  | ⟨f0, f1, f2, f3, f4, f5, f6, f7⟩ => (1 + (1 + ((f2.size + 1) + (((List.map (fun s : ByteArray => s.size + 1) f3).sum + 1) + (((List.map T_api_Type.bulk f4).sum + 1) + (((f5.attach.map fun y => T_api_Expr.bulk y.1).sum + 1) + (((f6.attach.map fun y => ((T_api_Pat.bulk y.1.Pat) + ((T_api_Expr.bulk y.1.Body) + (0))) + 1).sum + 1) + (1 + (0))))))))) + 1
  termination_by x => SizeOf.sizeOf x
  decreasing_by
    all_goals
      have h1 := List.sizeOf_lt_of_mem y.2
      first
      | (simp_all; omega)
      | (have h2 := T_api_Arm.lt_Body y.1; simp_all; omega)
def T_api_Arm.bulk (x : T_api_Arm) : Nat := ((T_api_Pat.bulk x.Pat) + ((T_api_Expr.bulk x.Body) + (0))) + 1
theorem T_api_Expr.bulk_eq (x : T_api_Expr) : T_api_Expr.bulk x = (1 + (1 + ((x.Text.size + 1) + (((List.map (fun s : ByteArray => s.size + 1) x.Names).sum + 1) + (((List.map T_api_Type.bulk x.Types).sum + 1) + (((List.map T_api_Expr.bulk x.Args).sum + 1) + (((List.map T_api_Arm.bulk x.Arms).sum + 1) + (1 + (0))))))))) + 1 := by
  obtain ⟨f0, f1, f2, f3, f4, f5, f6, f7⟩ := x
  rw [T_api_Expr.bulk]
  rw [(List.attach_map_val : (f5.attach.map fun i => T_api_Expr.bulk i.1) = f5.map T_api_Expr.bulk)]
  rw [show (f6.attach.map fun y => ((T_api_Pat.bulk y.1.Pat) + ((T_api_Expr.bulk y.1.Body) + (0))) + 1) = (f6.attach.map fun y => T_api_Arm.bulk y.1) from rfl, (List.attach_map_val : (f6.attach.map fun i => T_api_Arm.bulk i.1) = f6.map T_api_Arm.bulk)]
theorem T_api_Arm.ktU {H : Type} {bk : DataW H → Nat} {enc : TypeId × Value → H} {W : World} {N : Nat} (M : Measure bk) (ih : KT N bk enc Try.prog W 71 T_api_Expr.E T_api_Expr.bulk) : KT (N + 1) bk enc Try.prog W 246 T_api_Arm.E T_api_Arm.bulk := kt_map (kt_struct M (t := 246) (fs := [(244, 0), (71, 4)]) (T := 12) (by kernel_rfl) (by kernel_rfl) (ktf_cons (s := 4) (f := 244) (by kernel_rfl) T_api_Pat.T (T_api_Pat.kt M) (ktf_cons (s := 8) (f := 71) (by kernel_rfl) T_api_Expr.T ih ktf_nil))) (fun x cs e => by
  obtain ⟨d0, d1, rfl, e0, e1⟩ := e
  exact ⟨(x.Pat, x.Body, ()), ⟨d0, _, rfl, e0, ⟨d1, _, (List.append_nil _).symm, e1, rfl⟩⟩, Nat.le_refl _⟩)
theorem T_api_Expr.kt {H : Type} {bk : DataW H → Nat} {enc : TypeId × Value → H} {W : World} {N : Nat} (M : Measure bk) : KT N bk enc Try.prog W 71 T_api_Expr.E T_api_Expr.bulk := kt_rec (fun N ih => kt_map (kt_struct M (t := 71) (fs := [(3, 0), (3, 1), (9, 2), (64, 3), (65, 4), (68, 5), (69, 6), (3, 7)]) (T := 8) (by kernel_rfl) (by kernel_rfl) (ktf_cons (s := 1) (f := 3) (by kernel_rfl) (tell_int .i64) (kt_one M) (ktf_cons (s := 1) (f := 3) (by kernel_rfl) (tell_int .i64) (kt_one M) (ktf_cons (s := 1) (f := 9) (by kernel_rfl) tell_str (kt_str (t := 9) M (by kernel_rfl)) (ktf_cons (s := 1) (f := 64) (by kernel_rfl) (tell_row tell_str) (kt_slice M (t := 64) (e := 9) (sz := 1) (by kernel_rfl) (by kernel_rfl) (kt_str (t := 9) M (by kernel_rfl))) (ktf_cons (s := 1) (f := 65) (by kernel_rfl) (tell_row T_api_Type.T) (kt_slice M (t := 65) (e := 67) (sz := 3) (by kernel_rfl) (by kernel_rfl) (T_api_Type.kt M)) (ktf_cons (s := 1) (f := 68) (by kernel_rfl) (tell_row T_api_Expr.T) (kt_slice M (t := 68) (e := 71) (sz := 8) (by kernel_rfl) (by kernel_rfl) ih) (ktf_cons (s := 1) (f := 69) (by kernel_rfl) (tell_row T_api_Arm.T) (kt_slice M (t := 69) (e := 246) (sz := 12) (by kernel_rfl) (by kernel_rfl) (kt_down (T_api_Arm.ktU M ih))) (ktf_cons (s := 1) (f := 3) (by kernel_rfl) (tell_int .i64) (kt_one M) ktf_nil))))))))) (fun x cs e => by
  obtain ⟨A3, c3, A4, c4, A5, c5, A6, c6, rfl, k3, r3, k4, r4, k5, r5, k6, r6⟩ := T_api_Expr.iff.1 e
  exact ⟨(x.Kind, x.Num, x.Text, x.Names, x.Types, x.Args, x.Arms, x.At, ()), ⟨[.int .i64 x.Kind], _, rfl, rfl, ⟨[.int .i64 x.Num], _, rfl, rfl, ⟨[.string x.Text], _, rfl, rfl, ⟨[.slice A3 x.Names.length c3], _, rfl, ⟨_, _, rfl, k3, r3⟩, ⟨[.slice A4 x.Types.length c4], _, rfl, ⟨_, _, rfl, k4, r4⟩, ⟨[.slice A5 x.Args.length c5], _, rfl, ⟨_, _, rfl, k5, r5⟩, ⟨[.slice A6 x.Arms.length c6], _, rfl, ⟨_, _, rfl, k6, r6⟩, ⟨[.int .i64 x.At], _, rfl, rfl, rfl⟩⟩⟩⟩⟩⟩⟩⟩, by rw [T_api_Expr.bulk_eq]; exact Nat.le_refl _⟩)) N
theorem T_api_Arm.kt {H : Type} {bk : DataW H → Nat} {enc : TypeId × Value → H} {W : World} {N : Nat} (M : Measure bk) : KT N bk enc Try.prog W 246 T_api_Arm.E T_api_Arm.bulk := kt_down (T_api_Arm.ktU M (T_api_Expr.kt M))
structure T_api_Func where
  Name : ByteArray
  Params : (List ByteArray)
  Names : (List ByteArray)
  Types : (List T_api_Type)
  Out : T_api_Type
  Body : T_api_Expr
def T_api_Func.E (h : Heap) (x : T_api_Func) (cs : List Value) : Prop := ∃ A1 c1 A2 c2 A3 c3 A6 c6 A10 c10 A11 c11 A12 c12 A13 c13, cs = [.string x.Name, .slice A1 x.Params.length c1, .slice A2 x.Names.length c2, .slice A3 x.Types.length c3, .int .i64 x.Out.Kind, .string x.Out.Name, .slice A6 x.Out.Args.length c6, .int .i64 x.Body.Kind, .int .i64 x.Body.Num, .string x.Body.Text, .slice A10 x.Body.Names.length c10, .slice A11 x.Body.Types.length c11, .slice A12 x.Body.Args.length c12, .slice A13 x.Body.Arms.length c13, .int .i64 x.Body.At] ∧ x.Params.length ≤ c1 ∧ Rd 1 eStr h A1 x.Params ∧ x.Names.length ≤ c2 ∧ Rd 1 eStr h A2 x.Names ∧ x.Types.length ≤ c3 ∧ Rd 3 T_api_Type.E h A3 x.Types ∧ x.Out.Args.length ≤ c6 ∧ Rd 3 T_api_Type.E h A6 x.Out.Args ∧ x.Body.Names.length ≤ c10 ∧ Rd 1 eStr h A10 x.Body.Names ∧ x.Body.Types.length ≤ c11 ∧ Rd 3 T_api_Type.E h A11 x.Body.Types ∧ x.Body.Args.length ≤ c12 ∧ Rd 8 T_api_Expr.E h A12 x.Body.Args ∧ x.Body.Arms.length ≤ c13 ∧ Rd 12 T_api_Arm.E h A13 x.Body.Arms
theorem T_api_Func.T : Tell 15 T_api_Func.E := ⟨by rintro m h x _ s ⟨A1, c1, A2, c2, A3, c3, A6, c6, A10, c10, A11, c11, A12, c12, A13, c13, rfl, k1, r1, k2, r2, k3, r3, k6, r6, k10, r10, k11, r11, k12, r12, k13, r13⟩; exact ⟨_, _, _, _, _, _, _, _, _, _, _, _, _, _, _, _, rfl, k1, r1.sub tell_str s, k2, r2.sub tell_str s, k3, r3.sub T_api_Type.T s, k6, r6.sub T_api_Type.T s, k10, r10.sub tell_str s, k11, r11.sub T_api_Type.T s, k12, r12.sub T_api_Expr.T s, k13, r13.sub T_api_Arm.T s⟩, by rintro h x _ ⟨A1, c1, A2, c2, A3, c3, A6, c6, A10, c10, A11, c11, A12, c12, A13, c13, rfl, k1, r1, k2, r2, k3, r3, k6, r6, k10, r10, k11, r11, k12, r12, k13, r13⟩; rfl, by rintro h x _ ⟨A1, c1, A2, c2, A3, c3, A6, c6, A10, c10, A11, c11, A12, c12, A13, c13, rfl, k1, r1, k2, r2, k3, r3, k6, r6, k10, r10, k11, r11, k12, r12, k13, r13⟩; exact Flats.cons trivial (Flats.cons trivial (Flats.cons trivial (Flats.cons trivial (Flats.cons trivial (Flats.cons trivial (Flats.cons trivial (Flats.cons trivial (Flats.cons trivial (Flats.cons trivial (Flats.cons trivial (Flats.cons trivial (Flats.cons trivial (Flats.cons trivial (Flats.cons trivial Flats.nil))))))))))))))⟩
def T_api_Func.Q (x : T_api_Func) : Prop := (x.Name.size ≤ 140737488351232) ∧ (x.Params.length * 16 ≤ 140737488351232 ∧ ∀ a ∈ x.Params, (a.size ≤ 140737488351232)) ∧ (x.Names.length * 16 ≤ 140737488351232 ∧ ∀ a ∈ x.Names, (a.size ≤ 140737488351232)) ∧ (x.Types.length * 48 ≤ 140737488351232 ∧ ∀ a ∈ x.Types, (T_api_Type.Q a)) ∧ (T_api_Type.Q x.Out) ∧ (T_api_Expr.Q x.Body)
theorem T_api_Func.tells {H : Type} {enc : TypeId × Value → H} {W : World} : Tells enc Try.prog W 73 T_api_Func.E T_api_Func.Q := tells_map (tells_struct (t := 73) (fs := [(9, 0), (64, 1), (64, 2), (65, 3), (67, 4), (71, 7)]) (T := 15) (by kernel_rfl) (by kernel_rfl) (tf_cons (s := 1) (f := 9) (by kernel_rfl) (tells_strL (t := 9) (by kernel_rfl)) (tf_cons (s := 1) (f := 64) (by kernel_rfl) (tells_sliceL (t := 64) (e := 9) (sz := 1) (B := 16) (by kernel_rfl) (by kernel_rfl) (by kernel_rfl) (tells_strL (t := 9) (by kernel_rfl))) (tf_cons (s := 1) (f := 64) (by kernel_rfl) (tells_sliceL (t := 64) (e := 9) (sz := 1) (B := 16) (by kernel_rfl) (by kernel_rfl) (by kernel_rfl) (tells_strL (t := 9) (by kernel_rfl))) (tf_cons (s := 1) (f := 65) (by kernel_rfl) (tells_sliceL (t := 65) (e := 67) (sz := 3) (B := 48) (by kernel_rfl) (by kernel_rfl) (by kernel_rfl) T_api_Type.tells) (tf_cons (s := 3) (f := 67) (by kernel_rfl) T_api_Type.tells (tf_cons (s := 8) (f := 71) (by kernel_rfl) T_api_Expr.tells tf_nil))))))) (by
  rintro ⟨x0, x1, x2, x3, x4, x5, ⟨⟩⟩ cs e q
  obtain ⟨c0, r0, rfl, e0, c1, r1, rfl, e1, c2, r2, rfl, e2, c3, r3, rfl, e3, c4, r4, rfl, e4, c5, r5, rfl, e5, eN⟩ := e
  obtain rfl : c0 = [.string x0] := e0
  obtain ⟨A1, k1, rfl, l1, R1⟩ := e1
  obtain ⟨A2, k2, rfl, l2, R2⟩ := e2
  obtain ⟨A3, k3, rfl, l3, R3⟩ := e3
  obtain ⟨A4_2, k4_2, rfl, l4_2, R4_2⟩ := T_api_Type.iff.1 e4
  obtain ⟨A5_3, k5_3, A5_4, k5_4, A5_5, k5_5, A5_6, k5_6, rfl, l5_3, R5_3, l5_4, R5_4, l5_5, R5_5, l5_6, R5_6⟩ := T_api_Expr.iff.1 e5
  obtain rfl : r5 = [] := eN
  exact ⟨⟨x0, x1, x2, x3, x4, x5⟩, ⟨_, _, _, _, _, _, _, _, _, _, _, _, _, _, _, _, rfl, l1, R1, l2, R2, l3, R3, l4_2, R4_2, l5_3, R5_3, l5_4, R5_4, l5_5, R5_5, l5_6, R5_6⟩, q.1, q.2.1, q.2.2.1, q.2.2.2.1, q.2.2.2.2.1, q.2.2.2.2.2.1⟩)
def T_api_Func.bulk (x : T_api_Func) : Nat := ((x.Name.size + 1) + (((List.map (fun s : ByteArray => s.size + 1) x.Params).sum + 1) + (((List.map (fun s : ByteArray => s.size + 1) x.Names).sum + 1) + (((List.map T_api_Type.bulk x.Types).sum + 1) + ((T_api_Type.bulk x.Out) + ((T_api_Expr.bulk x.Body) + (0))))))) + 1
theorem T_api_Func.kt {H : Type} {bk : DataW H → Nat} {enc : TypeId × Value → H} {W : World} {N : Nat} (M : Measure bk) : KT N bk enc Try.prog W 73 T_api_Func.E T_api_Func.bulk := kt_down (kt_map (kt_struct M (t := 73) (fs := [(9, 0), (64, 1), (64, 2), (65, 3), (67, 4), (71, 7)]) (T := 15) (by kernel_rfl) (by kernel_rfl) (ktf_cons (s := 1) (f := 9) (by kernel_rfl) tell_str (kt_str (t := 9) M (by kernel_rfl)) (ktf_cons (s := 1) (f := 64) (by kernel_rfl) (tell_row tell_str) (kt_slice M (t := 64) (e := 9) (sz := 1) (by kernel_rfl) (by kernel_rfl) (kt_str (t := 9) M (by kernel_rfl))) (ktf_cons (s := 1) (f := 64) (by kernel_rfl) (tell_row tell_str) (kt_slice M (t := 64) (e := 9) (sz := 1) (by kernel_rfl) (by kernel_rfl) (kt_str (t := 9) M (by kernel_rfl))) (ktf_cons (s := 1) (f := 65) (by kernel_rfl) (tell_row T_api_Type.T) (kt_slice M (t := 65) (e := 67) (sz := 3) (by kernel_rfl) (by kernel_rfl) (T_api_Type.kt M)) (ktf_cons (s := 3) (f := 67) (by kernel_rfl) T_api_Type.T (T_api_Type.kt M) (ktf_cons (s := 8) (f := 71) (by kernel_rfl) T_api_Expr.T (T_api_Expr.kt M) ktf_nil))))))) (fun x cs e => by
  obtain ⟨A1, c1, A2, c2, A3, c3, A4_2, c4_2, A5_3, c5_3, A5_4, c5_4, A5_5, c5_5, A5_6, c5_6, rfl, k1, r1, k2, r2, k3, r3, k4_2, r4_2, k5_3, r5_3, k5_4, r5_4, k5_5, r5_5, k5_6, r5_6⟩ := e
  exact ⟨(x.Name, x.Params, x.Names, x.Types, x.Out, x.Body, ()), ⟨[.string x.Name], _, rfl, rfl, ⟨[.slice A1 x.Params.length c1], _, rfl, ⟨_, _, rfl, k1, r1⟩, ⟨[.slice A2 x.Names.length c2], _, rfl, ⟨_, _, rfl, k2, r2⟩, ⟨[.slice A3 x.Types.length c3], _, rfl, ⟨_, _, rfl, k3, r3⟩, ⟨[.int .i64 x.Out.Kind, .string x.Out.Name, .slice A4_2 x.Out.Args.length c4_2], _, rfl, T_api_Type.iff.2 ⟨_, _, rfl, k4_2, r4_2⟩, ⟨[.int .i64 x.Body.Kind, .int .i64 x.Body.Num, .string x.Body.Text, .slice A5_3 x.Body.Names.length c5_3, .slice A5_4 x.Body.Types.length c5_4, .slice A5_5 x.Body.Args.length c5_5, .slice A5_6 x.Body.Arms.length c5_6, .int .i64 x.Body.At], _, rfl, T_api_Expr.iff.2 ⟨_, _, _, _, _, _, _, _, rfl, k5_3, r5_3, k5_4, r5_4, k5_5, r5_5, k5_6, r5_6⟩, rfl⟩⟩⟩⟩⟩⟩, Nat.le_refl _⟩))
structure T_api_Trait where
  Name : ByteArray
  Funcs : (List T_api_Func)
def T_api_Trait.E (h : Heap) (x : T_api_Trait) (cs : List Value) : Prop := ∃ A1 c1, cs = [.string x.Name, .slice A1 x.Funcs.length c1] ∧ x.Funcs.length ≤ c1 ∧ Rd 15 T_api_Func.E h A1 x.Funcs
theorem T_api_Trait.T : Tell 2 T_api_Trait.E := ⟨by rintro m h x _ s ⟨A1, c1, rfl, k1, r1⟩; exact ⟨_, _, rfl, k1, r1.sub T_api_Func.T s⟩, by rintro h x _ ⟨A1, c1, rfl, k1, r1⟩; rfl, by rintro h x _ ⟨A1, c1, rfl, k1, r1⟩; exact Flats.cons trivial (Flats.cons trivial Flats.nil)⟩
def T_api_Trait.Q (x : T_api_Trait) : Prop := (x.Name.size ≤ 140737488351232) ∧ (x.Funcs.length * 272 ≤ 140737488351232 ∧ ∀ a ∈ x.Funcs, (T_api_Func.Q a))
theorem T_api_Trait.tells {H : Type} {enc : TypeId × Value → H} {W : World} : Tells enc Try.prog W 299 T_api_Trait.E T_api_Trait.Q := tells_map (tells_struct (t := 299) (fs := [(9, 0), (50, 1)]) (T := 2) (by kernel_rfl) (by kernel_rfl) (tf_cons (s := 1) (f := 9) (by kernel_rfl) (tells_strL (t := 9) (by kernel_rfl)) (tf_cons (s := 1) (f := 50) (by kernel_rfl) (tells_sliceL (t := 50) (e := 73) (sz := 15) (B := 272) (by kernel_rfl) (by kernel_rfl) (by kernel_rfl) T_api_Func.tells) tf_nil))) (by
  rintro ⟨x0, x1, ⟨⟩⟩ cs e q
  obtain ⟨c0, r0, rfl, e0, c1, r1, rfl, e1, eN⟩ := e
  obtain rfl : c0 = [.string x0] := e0
  obtain ⟨A1, k1, rfl, l1, R1⟩ := e1
  obtain rfl : r1 = [] := eN
  exact ⟨⟨x0, x1⟩, ⟨_, _, rfl, l1, R1⟩, q.1, q.2.1⟩)
def T_api_Trait.bulk (x : T_api_Trait) : Nat := ((x.Name.size + 1) + (((List.map T_api_Func.bulk x.Funcs).sum + 1) + (0))) + 1
theorem T_api_Trait.kt {H : Type} {bk : DataW H → Nat} {enc : TypeId × Value → H} {W : World} {N : Nat} (M : Measure bk) : KT N bk enc Try.prog W 299 T_api_Trait.E T_api_Trait.bulk := kt_down (kt_map (kt_struct M (t := 299) (fs := [(9, 0), (50, 1)]) (T := 2) (by kernel_rfl) (by kernel_rfl) (ktf_cons (s := 1) (f := 9) (by kernel_rfl) tell_str (kt_str (t := 9) M (by kernel_rfl)) (ktf_cons (s := 1) (f := 50) (by kernel_rfl) (tell_row T_api_Func.T) (kt_slice M (t := 50) (e := 73) (sz := 15) (by kernel_rfl) (by kernel_rfl) (T_api_Func.kt M)) ktf_nil))) (fun x cs e => by
  obtain ⟨A1, c1, rfl, k1, r1⟩ := e
  exact ⟨(x.Name, x.Funcs, ()), ⟨[.string x.Name], _, rfl, rfl, ⟨[.slice A1 x.Funcs.length c1], _, rfl, ⟨_, _, rfl, k1, r1⟩, rfl⟩⟩, Nat.le_refl _⟩))
structure T_api_Impl where
  Trait : ByteArray
  For : ByteArray
  Funcs : (List T_api_Func)
def T_api_Impl.E (h : Heap) (x : T_api_Impl) (cs : List Value) : Prop := ∃ A2 c2, cs = [.string x.Trait, .string x.For, .slice A2 x.Funcs.length c2] ∧ x.Funcs.length ≤ c2 ∧ Rd 15 T_api_Func.E h A2 x.Funcs
theorem T_api_Impl.T : Tell 3 T_api_Impl.E := ⟨by rintro m h x _ s ⟨A2, c2, rfl, k2, r2⟩; exact ⟨_, _, rfl, k2, r2.sub T_api_Func.T s⟩, by rintro h x _ ⟨A2, c2, rfl, k2, r2⟩; rfl, by rintro h x _ ⟨A2, c2, rfl, k2, r2⟩; exact Flats.cons trivial (Flats.cons trivial (Flats.cons trivial Flats.nil))⟩
def T_api_Impl.Q (x : T_api_Impl) : Prop := (x.Trait.size ≤ 140737488351232) ∧ (x.For.size ≤ 140737488351232) ∧ (x.Funcs.length * 272 ≤ 140737488351232 ∧ ∀ a ∈ x.Funcs, (T_api_Func.Q a))
theorem T_api_Impl.tells {H : Type} {enc : TypeId × Value → H} {W : World} : Tells enc Try.prog W 181 T_api_Impl.E T_api_Impl.Q := tells_map (tells_struct (t := 181) (fs := [(9, 0), (9, 1), (50, 2)]) (T := 3) (by kernel_rfl) (by kernel_rfl) (tf_cons (s := 1) (f := 9) (by kernel_rfl) (tells_strL (t := 9) (by kernel_rfl)) (tf_cons (s := 1) (f := 9) (by kernel_rfl) (tells_strL (t := 9) (by kernel_rfl)) (tf_cons (s := 1) (f := 50) (by kernel_rfl) (tells_sliceL (t := 50) (e := 73) (sz := 15) (B := 272) (by kernel_rfl) (by kernel_rfl) (by kernel_rfl) T_api_Func.tells) tf_nil)))) (by
  rintro ⟨x0, x1, x2, ⟨⟩⟩ cs e q
  obtain ⟨c0, r0, rfl, e0, c1, r1, rfl, e1, c2, r2, rfl, e2, eN⟩ := e
  obtain rfl : c0 = [.string x0] := e0
  obtain rfl : c1 = [.string x1] := e1
  obtain ⟨A2, k2, rfl, l2, R2⟩ := e2
  obtain rfl : r2 = [] := eN
  exact ⟨⟨x0, x1, x2⟩, ⟨_, _, rfl, l2, R2⟩, q.1, q.2.1, q.2.2.1⟩)
def T_api_Impl.bulk (x : T_api_Impl) : Nat := ((x.Trait.size + 1) + ((x.For.size + 1) + (((List.map T_api_Func.bulk x.Funcs).sum + 1) + (0)))) + 1
theorem T_api_Impl.kt {H : Type} {bk : DataW H → Nat} {enc : TypeId × Value → H} {W : World} {N : Nat} (M : Measure bk) : KT N bk enc Try.prog W 181 T_api_Impl.E T_api_Impl.bulk := kt_down (kt_map (kt_struct M (t := 181) (fs := [(9, 0), (9, 1), (50, 2)]) (T := 3) (by kernel_rfl) (by kernel_rfl) (ktf_cons (s := 1) (f := 9) (by kernel_rfl) tell_str (kt_str (t := 9) M (by kernel_rfl)) (ktf_cons (s := 1) (f := 9) (by kernel_rfl) tell_str (kt_str (t := 9) M (by kernel_rfl)) (ktf_cons (s := 1) (f := 50) (by kernel_rfl) (tell_row T_api_Func.T) (kt_slice M (t := 50) (e := 73) (sz := 15) (by kernel_rfl) (by kernel_rfl) (T_api_Func.kt M)) ktf_nil)))) (fun x cs e => by
  obtain ⟨A2, c2, rfl, k2, r2⟩ := e
  exact ⟨(x.Trait, x.For, x.Funcs, ()), ⟨[.string x.Trait], _, rfl, rfl, ⟨[.string x.For], _, rfl, rfl, ⟨[.slice A2 x.Funcs.length c2], _, rfl, ⟨_, _, rfl, k2, r2⟩, rfl⟩⟩⟩, Nat.le_refl _⟩))
structure T_api_Actor where
  Name : ByteArray
  Names : (List ByteArray)
  Types : (List T_api_Type)
  Msg : T_api_Type
  Body : T_api_Expr
def T_api_Actor.E (h : Heap) (x : T_api_Actor) (cs : List Value) : Prop := ∃ A1 c1 A2 c2 A5 c5 A9 c9 A10 c10 A11 c11 A12 c12, cs = [.string x.Name, .slice A1 x.Names.length c1, .slice A2 x.Types.length c2, .int .i64 x.Msg.Kind, .string x.Msg.Name, .slice A5 x.Msg.Args.length c5, .int .i64 x.Body.Kind, .int .i64 x.Body.Num, .string x.Body.Text, .slice A9 x.Body.Names.length c9, .slice A10 x.Body.Types.length c10, .slice A11 x.Body.Args.length c11, .slice A12 x.Body.Arms.length c12, .int .i64 x.Body.At] ∧ x.Names.length ≤ c1 ∧ Rd 1 eStr h A1 x.Names ∧ x.Types.length ≤ c2 ∧ Rd 3 T_api_Type.E h A2 x.Types ∧ x.Msg.Args.length ≤ c5 ∧ Rd 3 T_api_Type.E h A5 x.Msg.Args ∧ x.Body.Names.length ≤ c9 ∧ Rd 1 eStr h A9 x.Body.Names ∧ x.Body.Types.length ≤ c10 ∧ Rd 3 T_api_Type.E h A10 x.Body.Types ∧ x.Body.Args.length ≤ c11 ∧ Rd 8 T_api_Expr.E h A11 x.Body.Args ∧ x.Body.Arms.length ≤ c12 ∧ Rd 12 T_api_Arm.E h A12 x.Body.Arms
theorem T_api_Actor.T : Tell 14 T_api_Actor.E := ⟨by rintro m h x _ s ⟨A1, c1, A2, c2, A5, c5, A9, c9, A10, c10, A11, c11, A12, c12, rfl, k1, r1, k2, r2, k5, r5, k9, r9, k10, r10, k11, r11, k12, r12⟩; exact ⟨_, _, _, _, _, _, _, _, _, _, _, _, _, _, rfl, k1, r1.sub tell_str s, k2, r2.sub T_api_Type.T s, k5, r5.sub T_api_Type.T s, k9, r9.sub tell_str s, k10, r10.sub T_api_Type.T s, k11, r11.sub T_api_Expr.T s, k12, r12.sub T_api_Arm.T s⟩, by rintro h x _ ⟨A1, c1, A2, c2, A5, c5, A9, c9, A10, c10, A11, c11, A12, c12, rfl, k1, r1, k2, r2, k5, r5, k9, r9, k10, r10, k11, r11, k12, r12⟩; rfl, by rintro h x _ ⟨A1, c1, A2, c2, A5, c5, A9, c9, A10, c10, A11, c11, A12, c12, rfl, k1, r1, k2, r2, k5, r5, k9, r9, k10, r10, k11, r11, k12, r12⟩; exact Flats.cons trivial (Flats.cons trivial (Flats.cons trivial (Flats.cons trivial (Flats.cons trivial (Flats.cons trivial (Flats.cons trivial (Flats.cons trivial (Flats.cons trivial (Flats.cons trivial (Flats.cons trivial (Flats.cons trivial (Flats.cons trivial (Flats.cons trivial Flats.nil)))))))))))))⟩
def T_api_Actor.Q (x : T_api_Actor) : Prop := (x.Name.size ≤ 140737488351232) ∧ (x.Names.length * 16 ≤ 140737488351232 ∧ ∀ a ∈ x.Names, (a.size ≤ 140737488351232)) ∧ (x.Types.length * 48 ≤ 140737488351232 ∧ ∀ a ∈ x.Types, (T_api_Type.Q a)) ∧ (T_api_Type.Q x.Msg) ∧ (T_api_Expr.Q x.Body)
theorem T_api_Actor.tells {H : Type} {enc : TypeId × Value → H} {W : World} : Tells enc Try.prog W 186 T_api_Actor.E T_api_Actor.Q := tells_map (tells_struct (t := 186) (fs := [(9, 0), (64, 1), (65, 2), (67, 3), (71, 6)]) (T := 14) (by kernel_rfl) (by kernel_rfl) (tf_cons (s := 1) (f := 9) (by kernel_rfl) (tells_strL (t := 9) (by kernel_rfl)) (tf_cons (s := 1) (f := 64) (by kernel_rfl) (tells_sliceL (t := 64) (e := 9) (sz := 1) (B := 16) (by kernel_rfl) (by kernel_rfl) (by kernel_rfl) (tells_strL (t := 9) (by kernel_rfl))) (tf_cons (s := 1) (f := 65) (by kernel_rfl) (tells_sliceL (t := 65) (e := 67) (sz := 3) (B := 48) (by kernel_rfl) (by kernel_rfl) (by kernel_rfl) T_api_Type.tells) (tf_cons (s := 3) (f := 67) (by kernel_rfl) T_api_Type.tells (tf_cons (s := 8) (f := 71) (by kernel_rfl) T_api_Expr.tells tf_nil)))))) (by
  rintro ⟨x0, x1, x2, x3, x4, ⟨⟩⟩ cs e q
  obtain ⟨c0, r0, rfl, e0, c1, r1, rfl, e1, c2, r2, rfl, e2, c3, r3, rfl, e3, c4, r4, rfl, e4, eN⟩ := e
  obtain rfl : c0 = [.string x0] := e0
  obtain ⟨A1, k1, rfl, l1, R1⟩ := e1
  obtain ⟨A2, k2, rfl, l2, R2⟩ := e2
  obtain ⟨A3_2, k3_2, rfl, l3_2, R3_2⟩ := T_api_Type.iff.1 e3
  obtain ⟨A4_3, k4_3, A4_4, k4_4, A4_5, k4_5, A4_6, k4_6, rfl, l4_3, R4_3, l4_4, R4_4, l4_5, R4_5, l4_6, R4_6⟩ := T_api_Expr.iff.1 e4
  obtain rfl : r4 = [] := eN
  exact ⟨⟨x0, x1, x2, x3, x4⟩, ⟨_, _, _, _, _, _, _, _, _, _, _, _, _, _, rfl, l1, R1, l2, R2, l3_2, R3_2, l4_3, R4_3, l4_4, R4_4, l4_5, R4_5, l4_6, R4_6⟩, q.1, q.2.1, q.2.2.1, q.2.2.2.1, q.2.2.2.2.1⟩)
def T_api_Actor.bulk (x : T_api_Actor) : Nat := ((x.Name.size + 1) + (((List.map (fun s : ByteArray => s.size + 1) x.Names).sum + 1) + (((List.map T_api_Type.bulk x.Types).sum + 1) + ((T_api_Type.bulk x.Msg) + ((T_api_Expr.bulk x.Body) + (0)))))) + 1
theorem T_api_Actor.kt {H : Type} {bk : DataW H → Nat} {enc : TypeId × Value → H} {W : World} {N : Nat} (M : Measure bk) : KT N bk enc Try.prog W 186 T_api_Actor.E T_api_Actor.bulk := kt_down (kt_map (kt_struct M (t := 186) (fs := [(9, 0), (64, 1), (65, 2), (67, 3), (71, 6)]) (T := 14) (by kernel_rfl) (by kernel_rfl) (ktf_cons (s := 1) (f := 9) (by kernel_rfl) tell_str (kt_str (t := 9) M (by kernel_rfl)) (ktf_cons (s := 1) (f := 64) (by kernel_rfl) (tell_row tell_str) (kt_slice M (t := 64) (e := 9) (sz := 1) (by kernel_rfl) (by kernel_rfl) (kt_str (t := 9) M (by kernel_rfl))) (ktf_cons (s := 1) (f := 65) (by kernel_rfl) (tell_row T_api_Type.T) (kt_slice M (t := 65) (e := 67) (sz := 3) (by kernel_rfl) (by kernel_rfl) (T_api_Type.kt M)) (ktf_cons (s := 3) (f := 67) (by kernel_rfl) T_api_Type.T (T_api_Type.kt M) (ktf_cons (s := 8) (f := 71) (by kernel_rfl) T_api_Expr.T (T_api_Expr.kt M) ktf_nil)))))) (fun x cs e => by
  obtain ⟨A1, c1, A2, c2, A3_2, c3_2, A4_3, c4_3, A4_4, c4_4, A4_5, c4_5, A4_6, c4_6, rfl, k1, r1, k2, r2, k3_2, r3_2, k4_3, r4_3, k4_4, r4_4, k4_5, r4_5, k4_6, r4_6⟩ := e
  exact ⟨(x.Name, x.Names, x.Types, x.Msg, x.Body, ()), ⟨[.string x.Name], _, rfl, rfl, ⟨[.slice A1 x.Names.length c1], _, rfl, ⟨_, _, rfl, k1, r1⟩, ⟨[.slice A2 x.Types.length c2], _, rfl, ⟨_, _, rfl, k2, r2⟩, ⟨[.int .i64 x.Msg.Kind, .string x.Msg.Name, .slice A3_2 x.Msg.Args.length c3_2], _, rfl, T_api_Type.iff.2 ⟨_, _, rfl, k3_2, r3_2⟩, ⟨[.int .i64 x.Body.Kind, .int .i64 x.Body.Num, .string x.Body.Text, .slice A4_3 x.Body.Names.length c4_3, .slice A4_4 x.Body.Types.length c4_4, .slice A4_5 x.Body.Args.length c4_5, .slice A4_6 x.Body.Arms.length c4_6, .int .i64 x.Body.At], _, rfl, T_api_Expr.iff.2 ⟨_, _, _, _, _, _, _, _, rfl, k4_3, r4_3, k4_4, r4_4, k4_5, r4_5, k4_6, r4_6⟩, rfl⟩⟩⟩⟩⟩, Nat.le_refl _⟩))
structure T_api_Program where
  Name : ByteArray
  Version : Int
  Uses : (List T_api_Use)
  Datas : (List T_api_Data)
  Traits : (List T_api_Trait)
  Impls : (List T_api_Impl)
  Funcs : (List T_api_Func)
  Actors : (List T_api_Actor)
def T_api_Program.E (h : Heap) (x : T_api_Program) (cs : List Value) : Prop := ∃ A2 c2 A3 c3 A4 c4 A5 c5 A6 c6 A7 c7, cs = [.string x.Name, .int .i64 x.Version, .slice A2 x.Uses.length c2, .slice A3 x.Datas.length c3, .slice A4 x.Traits.length c4, .slice A5 x.Impls.length c5, .slice A6 x.Funcs.length c6, .slice A7 x.Actors.length c7] ∧ x.Uses.length ≤ c2 ∧ Rd 3 T_api_Use.E h A2 x.Uses ∧ x.Datas.length ≤ c3 ∧ Rd 3 T_api_Data.E h A3 x.Datas ∧ x.Traits.length ≤ c4 ∧ Rd 2 T_api_Trait.E h A4 x.Traits ∧ x.Impls.length ≤ c5 ∧ Rd 3 T_api_Impl.E h A5 x.Impls ∧ x.Funcs.length ≤ c6 ∧ Rd 15 T_api_Func.E h A6 x.Funcs ∧ x.Actors.length ≤ c7 ∧ Rd 14 T_api_Actor.E h A7 x.Actors
theorem T_api_Program.T : Tell 8 T_api_Program.E := ⟨by rintro m h x _ s ⟨A2, c2, A3, c3, A4, c4, A5, c5, A6, c6, A7, c7, rfl, k2, r2, k3, r3, k4, r4, k5, r5, k6, r6, k7, r7⟩; exact ⟨_, _, _, _, _, _, _, _, _, _, _, _, rfl, k2, r2.sub T_api_Use.T s, k3, r3.sub T_api_Data.T s, k4, r4.sub T_api_Trait.T s, k5, r5.sub T_api_Impl.T s, k6, r6.sub T_api_Func.T s, k7, r7.sub T_api_Actor.T s⟩, by rintro h x _ ⟨A2, c2, A3, c3, A4, c4, A5, c5, A6, c6, A7, c7, rfl, k2, r2, k3, r3, k4, r4, k5, r5, k6, r6, k7, r7⟩; rfl, by rintro h x _ ⟨A2, c2, A3, c3, A4, c4, A5, c5, A6, c6, A7, c7, rfl, k2, r2, k3, r3, k4, r4, k5, r5, k6, r6, k7, r7⟩; exact Flats.cons trivial (Flats.cons trivial (Flats.cons trivial (Flats.cons trivial (Flats.cons trivial (Flats.cons trivial (Flats.cons trivial (Flats.cons trivial Flats.nil)))))))⟩
def T_api_Program.Q (x : T_api_Program) : Prop := (x.Name.size ≤ 140737488351232) ∧ (-9223372036854775808 ≤ x.Version ∧ x.Version ≤ 9223372036854775807) ∧ (x.Uses.length * 32 ≤ 140737488351232 ∧ ∀ a ∈ x.Uses, (T_api_Use.Q a)) ∧ (x.Datas.length * 64 ≤ 140737488351232 ∧ ∀ a ∈ x.Datas, (T_api_Data.Q a)) ∧ (x.Traits.length * 40 ≤ 140737488351232 ∧ ∀ a ∈ x.Traits, (T_api_Trait.Q a)) ∧ (x.Impls.length * 56 ≤ 140737488351232 ∧ ∀ a ∈ x.Impls, (T_api_Impl.Q a)) ∧ (x.Funcs.length * 272 ≤ 140737488351232 ∧ ∀ a ∈ x.Funcs, (T_api_Func.Q a)) ∧ (x.Actors.length * 248 ≤ 140737488351232 ∧ ∀ a ∈ x.Actors, (T_api_Actor.Q a))
theorem T_api_Program.tells {H : Type} {enc : TypeId × Value → H} {W : World} : Tells enc Try.prog W 53 T_api_Program.E T_api_Program.Q := tells_map (tells_struct (t := 53) (fs := [(9, 0), (3, 1), (46, 2), (47, 3), (48, 4), (49, 5), (50, 6), (51, 7)]) (T := 8) (by kernel_rfl) (by kernel_rfl) (tf_cons (s := 1) (f := 9) (by kernel_rfl) (tells_strL (t := 9) (by kernel_rfl)) (tf_cons (s := 1) (f := 3) (by kernel_rfl) (tells_i64 (t := 3) (by kernel_rfl)) (tf_cons (s := 1) (f := 46) (by kernel_rfl) (tells_sliceL (t := 46) (e := 294) (sz := 3) (B := 32) (by kernel_rfl) (by kernel_rfl) (by kernel_rfl) T_api_Use.tells) (tf_cons (s := 1) (f := 47) (by kernel_rfl) (tells_sliceL (t := 47) (e := 297) (sz := 3) (B := 64) (by kernel_rfl) (by kernel_rfl) (by kernel_rfl) T_api_Data.tells) (tf_cons (s := 1) (f := 48) (by kernel_rfl) (tells_sliceL (t := 48) (e := 299) (sz := 2) (B := 40) (by kernel_rfl) (by kernel_rfl) (by kernel_rfl) T_api_Trait.tells) (tf_cons (s := 1) (f := 49) (by kernel_rfl) (tells_sliceL (t := 49) (e := 181) (sz := 3) (B := 56) (by kernel_rfl) (by kernel_rfl) (by kernel_rfl) T_api_Impl.tells) (tf_cons (s := 1) (f := 50) (by kernel_rfl) (tells_sliceL (t := 50) (e := 73) (sz := 15) (B := 272) (by kernel_rfl) (by kernel_rfl) (by kernel_rfl) T_api_Func.tells) (tf_cons (s := 1) (f := 51) (by kernel_rfl) (tells_sliceL (t := 51) (e := 186) (sz := 14) (B := 248) (by kernel_rfl) (by kernel_rfl) (by kernel_rfl) T_api_Actor.tells) tf_nil))))))))) (by
  rintro ⟨x0, x1, x2, x3, x4, x5, x6, x7, ⟨⟩⟩ cs e q
  obtain ⟨c0, r0, rfl, e0, c1, r1, rfl, e1, c2, r2, rfl, e2, c3, r3, rfl, e3, c4, r4, rfl, e4, c5, r5, rfl, e5, c6, r6, rfl, e6, c7, r7, rfl, e7, eN⟩ := e
  obtain rfl : c0 = [.string x0] := e0
  obtain rfl : c1 = [.int .i64 x1] := e1
  obtain ⟨A2, k2, rfl, l2, R2⟩ := e2
  obtain ⟨A3, k3, rfl, l3, R3⟩ := e3
  obtain ⟨A4, k4, rfl, l4, R4⟩ := e4
  obtain ⟨A5, k5, rfl, l5, R5⟩ := e5
  obtain ⟨A6, k6, rfl, l6, R6⟩ := e6
  obtain ⟨A7, k7, rfl, l7, R7⟩ := e7
  obtain rfl : r7 = [] := eN
  exact ⟨⟨x0, x1, x2, x3, x4, x5, x6, x7⟩, ⟨_, _, _, _, _, _, _, _, _, _, _, _, rfl, l2, R2, l3, R3, l4, R4, l5, R5, l6, R6, l7, R7⟩, q.1, q.2.1, q.2.2.1, q.2.2.2.1, q.2.2.2.2.1, q.2.2.2.2.2.1, q.2.2.2.2.2.2.1, q.2.2.2.2.2.2.2.1⟩)
def T_api_Program.bulk (x : T_api_Program) : Nat := ((x.Name.size + 1) + (1 + (((List.map T_api_Use.bulk x.Uses).sum + 1) + (((List.map T_api_Data.bulk x.Datas).sum + 1) + (((List.map T_api_Trait.bulk x.Traits).sum + 1) + (((List.map T_api_Impl.bulk x.Impls).sum + 1) + (((List.map T_api_Func.bulk x.Funcs).sum + 1) + (((List.map T_api_Actor.bulk x.Actors).sum + 1) + (0))))))))) + 1
theorem T_api_Program.kt {H : Type} {bk : DataW H → Nat} {enc : TypeId × Value → H} {W : World} {N : Nat} (M : Measure bk) : KT N bk enc Try.prog W 53 T_api_Program.E T_api_Program.bulk := kt_down (kt_map (kt_struct M (t := 53) (fs := [(9, 0), (3, 1), (46, 2), (47, 3), (48, 4), (49, 5), (50, 6), (51, 7)]) (T := 8) (by kernel_rfl) (by kernel_rfl) (ktf_cons (s := 1) (f := 9) (by kernel_rfl) tell_str (kt_str (t := 9) M (by kernel_rfl)) (ktf_cons (s := 1) (f := 3) (by kernel_rfl) (tell_int .i64) (kt_one M) (ktf_cons (s := 1) (f := 46) (by kernel_rfl) (tell_row T_api_Use.T) (kt_slice M (t := 46) (e := 294) (sz := 3) (by kernel_rfl) (by kernel_rfl) (T_api_Use.kt M)) (ktf_cons (s := 1) (f := 47) (by kernel_rfl) (tell_row T_api_Data.T) (kt_slice M (t := 47) (e := 297) (sz := 3) (by kernel_rfl) (by kernel_rfl) (T_api_Data.kt M)) (ktf_cons (s := 1) (f := 48) (by kernel_rfl) (tell_row T_api_Trait.T) (kt_slice M (t := 48) (e := 299) (sz := 2) (by kernel_rfl) (by kernel_rfl) (T_api_Trait.kt M)) (ktf_cons (s := 1) (f := 49) (by kernel_rfl) (tell_row T_api_Impl.T) (kt_slice M (t := 49) (e := 181) (sz := 3) (by kernel_rfl) (by kernel_rfl) (T_api_Impl.kt M)) (ktf_cons (s := 1) (f := 50) (by kernel_rfl) (tell_row T_api_Func.T) (kt_slice M (t := 50) (e := 73) (sz := 15) (by kernel_rfl) (by kernel_rfl) (T_api_Func.kt M)) (ktf_cons (s := 1) (f := 51) (by kernel_rfl) (tell_row T_api_Actor.T) (kt_slice M (t := 51) (e := 186) (sz := 14) (by kernel_rfl) (by kernel_rfl) (T_api_Actor.kt M)) ktf_nil))))))))) (fun x cs e => by
  obtain ⟨A2, c2, A3, c3, A4, c4, A5, c5, A6, c6, A7, c7, rfl, k2, r2, k3, r3, k4, r4, k5, r5, k6, r6, k7, r7⟩ := e
  exact ⟨(x.Name, x.Version, x.Uses, x.Datas, x.Traits, x.Impls, x.Funcs, x.Actors, ()), ⟨[.string x.Name], _, rfl, rfl, ⟨[.int .i64 x.Version], _, rfl, rfl, ⟨[.slice A2 x.Uses.length c2], _, rfl, ⟨_, _, rfl, k2, r2⟩, ⟨[.slice A3 x.Datas.length c3], _, rfl, ⟨_, _, rfl, k3, r3⟩, ⟨[.slice A4 x.Traits.length c4], _, rfl, ⟨_, _, rfl, k4, r4⟩, ⟨[.slice A5 x.Impls.length c5], _, rfl, ⟨_, _, rfl, k5, r5⟩, ⟨[.slice A6 x.Funcs.length c6], _, rfl, ⟨_, _, rfl, k6, r6⟩, ⟨[.slice A7 x.Actors.length c7], _, rfl, ⟨_, _, rfl, k7, r7⟩, rfl⟩⟩⟩⟩⟩⟩⟩⟩, Nat.le_refl _⟩))
structure T_roadref2_Wrong where
  E_ : Int
  At : Int
def T_roadref2_Wrong.E (h : Heap) (x : T_roadref2_Wrong) (cs : List Value) : Prop := cs = [.int .i64 x.E_, .int .i64 x.At]
theorem T_roadref2_Wrong.T : Tell 2 T_roadref2_Wrong.E := ⟨by rintro m h x _ s rfl; exact rfl, by rintro h x _ rfl; rfl, by rintro h x _ rfl; exact Flats.cons trivial (Flats.cons trivial Flats.nil)⟩
theorem T_roadref2_Wrong.keep {m h : Heap} {x : T_roadref2_Wrong} {cs : List Value} (e : T_roadref2_Wrong.E m x cs) : T_roadref2_Wrong.E h x cs := e
def T_roadref2_Wrong.Q (x : T_roadref2_Wrong) : Prop := (-9223372036854775808 ≤ x.E_ ∧ x.E_ ≤ 9223372036854775807) ∧ (-9223372036854775808 ≤ x.At ∧ x.At ≤ 9223372036854775807)
theorem T_roadref2_Wrong.tells {H : Type} {enc : TypeId × Value → H} {W : World} : Tells enc Try.prog W 58 T_roadref2_Wrong.E T_roadref2_Wrong.Q := tells_map (tells_struct (t := 58) (fs := [(25, 0), (3, 1)]) (T := 2) (by kernel_rfl) (by kernel_rfl) (tf_cons (s := 1) (f := 25) (by kernel_rfl) (tells_i64 (t := 25) (by kernel_rfl)) (tf_cons (s := 1) (f := 3) (by kernel_rfl) (tells_i64 (t := 3) (by kernel_rfl)) tf_nil))) (by
  rintro ⟨x0, x1, ⟨⟩⟩ cs e q
  obtain ⟨c0, r0, rfl, e0, c1, r1, rfl, e1, eN⟩ := e
  obtain rfl : c0 = [.int .i64 x0] := e0
  obtain rfl : c1 = [.int .i64 x1] := e1
  obtain rfl : r1 = [] := eN
  exact ⟨⟨x0, x1⟩, rfl, q.1, q.2.1⟩)
def T_roadref2_Wrong.bulk (x : T_roadref2_Wrong) : Nat := (1 + (1 + (0))) + 1
theorem T_roadref2_Wrong.kt {H : Type} {bk : DataW H → Nat} {enc : TypeId × Value → H} {W : World} {N : Nat} (M : Measure bk) : KT N bk enc Try.prog W 58 T_roadref2_Wrong.E T_roadref2_Wrong.bulk := kt_down (kt_map (kt_struct M (t := 58) (fs := [(25, 0), (3, 1)]) (T := 2) (by kernel_rfl) (by kernel_rfl) (ktf_cons (s := 1) (f := 25) (by kernel_rfl) (tell_int .i64) (kt_one M) (ktf_cons (s := 1) (f := 3) (by kernel_rfl) (tell_int .i64) (kt_one M) ktf_nil))) (fun x cs e => by
  obtain rfl := e
  exact ⟨(x.E_, x.At, ()), ⟨[.int .i64 x.E_], _, rfl, rfl, ⟨[.int .i64 x.At], _, rfl, rfl, rfl⟩⟩, Nat.le_refl _⟩))

/-! ### 31 roadstead/roadref2.FunsOf -/
def roadref2_FunsOf.post (W : Nat → Prop) (h0 m0 : Heap) (r : (List T_api_Func)) (v : Value) (h : Heap) : Prop := ∃ m A0 n0 c0, St W h0 m0 h m ∧ v = .slice A0 n0 c0 ∧ n0 = r.length ∧ OS W h0 15 T_api_Func.E h m A0 r c0
inductive roadref2_FunsOf.l0_k.Pt where
  | l0 (y1 : T_api_Program) (a3 : List T_api_Func) (a7 : List T_api_Impl) (x8 : Int) (x9 : Int)
noncomputable def roadref2_FunsOf.l0_k.body (go : (p : roadref2_FunsOf.l0_k.Pt) → Option ((List T_api_Func))) : (p : roadref2_FunsOf.l0_k.Pt) → Option ((List T_api_Func))
  | .l0 y1 a3 a7 x8 x9 => if x9 < x8 then (Option.bind (gi a7 x9) fun y8 => Option.bind (ap 272 a3 y8.Funcs) fun l31 => (go (.l0 y1 l31 a7 x8 (IntKind.wrap .i64 (x9 + (1 : Int)))))) else (Option.bind (ap 272 a3 y1.Funcs) fun l45 => some (l45))
theorem roadref2_FunsOf.l0_k.mono : MonoF (β := fun _ => ((List T_api_Func))) roadref2_FunsOf.l0_k.body := fun f g hfg p => match p with
  | .l0 y1 a3 a7 x8 x9 => LeO.ite (LeO.bind (LeO.refl _) fun y8 => LeO.bind (LeO.refl _) fun l31 => (hfg _)) (LeO.bind (LeO.refl _) fun l45 => LeO.refl _)
noncomputable def roadref2_FunsOf.l0_k.go (p : roadref2_FunsOf.l0_k.Pt) : Option ((List T_api_Func)) := fixF (β := fun _ => ((List T_api_Func))) roadref2_FunsOf.l0_k.body p
noncomputable def roadref2_FunsOf.l0 (y1 : T_api_Program) (a3 : List T_api_Func) (a7 : List T_api_Impl) (x8 : Int) (x9 : Int) : Option ((List T_api_Func)) := roadref2_FunsOf.l0_k.go (.l0 y1 a3 a7 x8 x9)
theorem roadref2_FunsOf.l0_eq (y1 : T_api_Program) (a3 : List T_api_Func) (a7 : List T_api_Impl) (x8 : Int) (x9 : Int) : roadref2_FunsOf.l0 y1 a3 a7 x8 x9 = if x9 < x8 then (Option.bind (gi a7 x9) fun y8 => Option.bind (ap 272 a3 y8.Funcs) fun l31 => (roadref2_FunsOf.l0 y1 l31 a7 x8 (IntKind.wrap .i64 (x9 + (1 : Int))))) else (Option.bind (ap 272 a3 y1.Funcs) fun l45 => some (l45)) := fixF_eq roadref2_FunsOf.l0_k.mono _
def roadref2_FunsOf.l0_k.I : (p : roadref2_FunsOf.l0_k.Pt) → ((List T_api_Func)) → Prop
  | .l0 y1 a3 a7 x8 x9, r => ∀ (h0 m0 h m : Heap) (bk1 : Nat) (cs1 : List Value) (A3 : Option Addr) (n3 c3 : Nat) (A7 : Option Addr) (n7 c7 : Nat) (S : St No h0 m0 h m) (o1 : OB No h0 h m bk1 cs1 53) (e1 : T_api_Program.E m y1 cs1) (ne3 : n3 = List.length a3) (o3 : OS No h0 15 T_api_Func.E h m A3 a3 c3) (ne7 : n7 = List.length a7) (k7 : List.length a7 ≤ c7) (r7 : Rd 3 T_api_Impl.E m A7 a7) (d0_1 : Dj (fb bk1) (fp A3 c3)), f31.l0 (roadref2_FunsOf.post No h0 m0 r) (⟨bk1, 0, none⟩ : Addr) A3 n3 c3 A7 n7 c7 x8 x9 h
set_option maxRecDepth 100000 in
theorem roadref2_FunsOf.l0_k.step_l0 (go : (p : roadref2_FunsOf.l0_k.Pt) → Option ((List T_api_Func))) (ih : ∀ p r, go p = some r → roadref2_FunsOf.l0_k.I p r) (y1 : T_api_Program) (a3 : List T_api_Func) (a7 : List T_api_Impl) (x8 : Int) (x9 : Int) (r : (List T_api_Func)) (e : roadref2_FunsOf.l0_k.body go (.l0 y1 a3 a7 x8 x9) = some r) : roadref2_FunsOf.l0_k.I (.l0 y1 a3 a7 x8 x9) r := by
  unfold roadref2_FunsOf.l0_k.body at e
  intro h0 m0 h m bk1 cs1 A3 n3 c3 A7 n7 c7 S o1 e1 ne3 o3 ne7 k7 r7 d0_1
  obtain ⟨Ae1_2, ce1_2, Ae1_3, ce1_3, Ae1_4, ce1_4, Ae1_5, ce1_5, Ae1_6, ce1_6, Ae1_7, ce1_7, rfl, ke1_2, re1_2, ke1_3, re1_3, ke1_4, re1_4, ke1_5, re1_5, ke1_6, re1_6, ke1_7, re1_7⟩ := e1
  subst ne3
  subst ne7
  refine f31.l0_in ?_
  unfold f31.l0T
  refine split_dec_e e (fun c57 e => ?_) (fun c57 e => ?_)
  · obtain ⟨y8, g9, e⟩ := bind_e e
    refine r7.addr rfl g9 fun a10 cs11 ha12 hc13 he14 => ?_
    obtain ⟨Aa10_2, ca10_2, rfl, ka10_2, ra10_2⟩ := he14
    refine ⟨_, ldA S.s hc13, ?_⟩
    refine new_in S fun h15 o16 x17 => ?_
    have d20 : Dj (fb bk1) (fb (Array.size h)) := Dj.new o1.lt
    have d21 : Dj (fp A3 c3) (fb (Array.size h)) := Dj.new o3.lt
    have o22 := o1.ext x17
    have o23 := o3.ext T_api_Func.T S.s x17
    have S18 := S.ext' x17
    have o16 : OB _ _ h15 _ (Array.size h) [(Value.string (ByteArray.mk #[])), (Value.string (ByteArray.mk #[])), (Value.slice none 0 0)] 181 := o16
    obtain ⟨h24, w25, o26, t27⟩ := o16.stA S18.s [(Value.string y8.Trait), (Value.string y8.For), (Value.slice Aa10_2 (List.length y8.Funcs) ca10_2)] rfl (Flats.cons trivial (Flats.cons trivial (Flats.cons trivial Flats.nil)))
    refine ⟨[(Value.string y8.Trait), (Value.string y8.For), (Value.slice Aa10_2 (List.length y8.Funcs) ca10_2)], rfl, rfl, h24, w25, ?_⟩
    have o26 : OB _ _ h24 _ (Array.size h) [(Value.string y8.Trait), (Value.string y8.For), (Value.slice Aa10_2 (List.length y8.Funcs) ca10_2)] 181 := o26
    have S28 := S18.then t27 (fun i _ hi => o16.wr i hi)
    have o29 := o22.step t27 (d20).symm
    have o30 := o23.step T_api_Func.T t27 (d21).symm
    refine ⟨_, ldk (k := 2) (Sub.refl _) o26.all rfl, _, _, _, rfl, ?_⟩
    obtain ⟨l31, g32, e⟩ := bind_e e
    refine o30.app T_api_Func.T S28 rfl rfl (Rd.srcE ra10_2 T_api_Func.T S28.s rfl) (by decide) g32 fun A33 c34 h35 o36 t37 n38 => ?_
    refine ⟨_, _, _, rfl, ?_⟩
    have d40 : Dj (fb bk1) (fp A33 c34) := Dj.app d0_1 o29.lt n38
    have d41 : Dj (fb (Array.size h)) (fp A33 c34) := Dj.app (d21).symm o26.lt n38
    have S42 := S28.then t37 (fun i _ hi => o30.wr i hi)
    have o43 := o29.step t37 (d0_1).symm
    have o44 := o26.step t37 d21
    exact (ih _ _ e) _ _ _ _ _ _ _ _ _ _ _ _ S42 o43 (show T_api_Program.E _ y1 [(Value.string y1.Name), (Value.int .i64 y1.Version), (Value.slice Ae1_2 (List.length y1.Uses) ce1_2), (Value.slice Ae1_3 (List.length y1.Datas) ce1_3), (Value.slice Ae1_4 (List.length y1.Traits) ce1_4), (Value.slice Ae1_5 (List.length y1.Impls) ce1_5), (Value.slice Ae1_6 (List.length y1.Funcs) ce1_6), (Value.slice Ae1_7 (List.length y1.Actors) ce1_7)] from ⟨_, _, _, _, _, _, _, _, _, _, _, _, rfl, ke1_2, re1_2, ke1_3, re1_3, ke1_4, re1_4, ke1_5, re1_5, ke1_6, re1_6, ke1_7, re1_7⟩) rfl o36 rfl k7 r7 d40
  · refine ⟨_, ldk (k := 6) (Sub.refl _) o1.all rfl, _, _, _, rfl, ?_⟩
    obtain ⟨l45, g46, e⟩ := bind_e e
    refine o3.app T_api_Func.T S rfl rfl (Rd.srcE re1_6 T_api_Func.T S.s rfl) (by decide) g46 fun A47 c48 h49 o50 t51 n52 => ?_
    refine ⟨_, _, _, rfl, ?_⟩
    have d54 : Dj (fb bk1) (fp A47 c48) := Dj.app d0_1 o1.lt n52
    have S55 := S.then t51 (fun i _ hi => o3.wr i hi)
    have o56 := o1.step t51 (d0_1).symm
    cases e
    exact ⟨_, _, _, _, S55, rfl, rfl, o50⟩
theorem roadref2_FunsOf.l0_k.all {p : roadref2_FunsOf.l0_k.Pt} {r : ((List T_api_Func))} (e : roadref2_FunsOf.l0_k.go p = some r) : roadref2_FunsOf.l0_k.I p r := fixF_ind (β := fun _ => ((List T_api_Func))) roadref2_FunsOf.l0_k.mono (I := roadref2_FunsOf.l0_k.I) (fun go ih p r e => match p with
  | .l0 y1 a3 a7 x8 x9 => roadref2_FunsOf.l0_k.step_l0 go ih y1 a3 a7 x8 x9 r e
  ) e
theorem roadref2_FunsOf.l0.walk {h0 m0 h m : Heap} {bk1 : Nat} {cs1 : List Value} {A3 : Option Addr} {n3 c3 : Nat} {A7 : Option Addr} {n7 c7 : Nat} {y1 : T_api_Program} {a3 : List T_api_Func} {a7 : List T_api_Impl} {x8 : Int} {x9 : Int} (S : St No h0 m0 h m) (o1 : OB No h0 h m bk1 cs1 53) (e1 : T_api_Program.E m y1 cs1) (ne3 : n3 = List.length a3) (o3 : OS No h0 15 T_api_Func.E h m A3 a3 c3) (ne7 : n7 = List.length a7) (k7 : List.length a7 ≤ c7) (r7 : Rd 3 T_api_Impl.E m A7 a7) (d0_1 : Dj (fb bk1) (fp A3 c3)) {r : (List T_api_Func)} (e : roadref2_FunsOf.l0 y1 a3 a7 x8 x9 = some r) : f31.l0 (roadref2_FunsOf.post No h0 m0 r) (⟨bk1, 0, none⟩ : Addr) A3 n3 c3 A7 n7 c7 x8 x9 h := roadref2_FunsOf.l0_k.all (p := .l0 y1 a3 a7 x8 x9) e h0 m0 h m bk1 cs1 A3 n3 c3 A7 n7 c7 S o1 e1 ne3 o3 ne7 k7 r7 d0_1

noncomputable def roadref2_FunsOf (y0 : T_api_Program) : Option ((List T_api_Func)) :=
  (roadref2_FunsOf.l0 y0 ([] : List T_api_Func) y0.Impls (((List.length y0.Impls) : Nat) : Int) (0 : Int))
set_option maxRecDepth 100000 in
theorem roadref2_FunsOf.walk {h m : Heap} {cs0 : List Value} {y0 : T_api_Program} (s : Sub m h) (e0 : T_api_Program.E m y0 cs0) {r : (List T_api_Func)} (e : roadref2_FunsOf y0 = some r) : Run Try.prog 31 #[Value.agg cs0.toArray] h (roadref2_FunsOf.post No h m r) := by
  unfold roadref2_FunsOf at e
  obtain ⟨Ae0_2, ce0_2, Ae0_3, ce0_3, Ae0_4, ce0_4, Ae0_5, ce0_5, Ae0_6, ce0_6, Ae0_7, ce0_7, rfl, ke0_2, re0_2, ke0_3, re0_3, ke0_4, re0_4, ke0_5, re0_5, ke0_6, re0_6, ke0_7, re0_7⟩ := e0
  have S : St No h m h m := .refl s
  refine f31.run ?_
  unfold f31.runT
  refine new_in S fun h1 o2 x3 => ?_
  have S4 := S.ext' x3
  have o2 : OB _ _ h1 _ (Array.size h) [(Value.string y0.Name), (Value.int .i64 y0.Version), (Value.slice Ae0_2 (List.length y0.Uses) ce0_2), (Value.slice Ae0_3 (List.length y0.Datas) ce0_3), (Value.slice Ae0_4 (List.length y0.Traits) ce0_4), (Value.slice Ae0_5 (List.length y0.Impls) ce0_5), (Value.slice Ae0_6 (List.length y0.Funcs) ce0_6), (Value.slice Ae0_7 (List.length y0.Actors) ce0_7)] 53 := o2
  refine ⟨_, ldk (k := 5) (Sub.refl _) o2.all rfl, _, _, _, rfl, ?_⟩
  have o7 : OS No h 15 T_api_Func.E h1 m none ([] : List T_api_Func) 0 := .inl ⟨rfl, rfl⟩
  exact roadref2_FunsOf.l0.walk S4 o2 (show T_api_Program.E _ y0 [(Value.string y0.Name), (Value.int .i64 y0.Version), (Value.slice Ae0_2 (List.length y0.Uses) ce0_2), (Value.slice Ae0_3 (List.length y0.Datas) ce0_3), (Value.slice Ae0_4 (List.length y0.Traits) ce0_4), (Value.slice Ae0_5 (List.length y0.Impls) ce0_5), (Value.slice Ae0_6 (List.length y0.Funcs) ce0_6), (Value.slice Ae0_7 (List.length y0.Actors) ce0_7)] from ⟨_, _, _, _, _, _, _, _, _, _, _, _, rfl, ke0_2, re0_2, ke0_3, re0_3, ke0_4, re0_4, ke0_5, re0_5, ke0_6, re0_6, ke0_7, re0_7⟩) rfl o7 rfl ke0_5 re0_5 (show Dj (fb (Array.size h)) (fp none 0) from Dj.nil) e

/-! ### 33 roadstead/roadref2.BodiesOf -/
def roadref2_BodiesOf.post (W : Nat → Prop) (h0 m0 : Heap) (r : (List T_api_Expr)) (v : Value) (h : Heap) : Prop := ∃ m A0 n0 c0, St W h0 m0 h m ∧ v = .slice A0 n0 c0 ∧ n0 = r.length ∧ OS W h0 8 T_api_Expr.E h m A0 r c0
inductive roadref2_BodiesOf.l1_k.Pt where
  | l1 (a3 : List T_api_Expr) (a22 : List T_api_Actor) (x23 : Int) (x24 : Int)
noncomputable def roadref2_BodiesOf.l1_k.body (go : (p : roadref2_BodiesOf.l1_k.Pt) → Option ((List T_api_Expr))) : (p : roadref2_BodiesOf.l1_k.Pt) → Option ((List T_api_Expr))
  | .l1 a3 a22 x23 x24 => if x24 < x23 then (Option.bind (gi a22 x24) fun y82 => Option.bind (ap 136 a3 ([y82.Body] : List T_api_Expr)) fun l112 => (go (.l1 l112 a22 x23 (IntKind.wrap .i64 (x24 + (1 : Int)))))) else (some (a3))
theorem roadref2_BodiesOf.l1_k.mono : MonoF (β := fun _ => ((List T_api_Expr))) roadref2_BodiesOf.l1_k.body := fun f g hfg p => match p with
  | .l1 a3 a22 x23 x24 => LeO.ite (LeO.bind (LeO.refl _) fun y82 => LeO.bind (LeO.refl _) fun l112 => (hfg _)) (LeO.refl _)
noncomputable def roadref2_BodiesOf.l1_k.go (p : roadref2_BodiesOf.l1_k.Pt) : Option ((List T_api_Expr)) := fixF (β := fun _ => ((List T_api_Expr))) roadref2_BodiesOf.l1_k.body p
noncomputable def roadref2_BodiesOf.l1 (a3 : List T_api_Expr) (a22 : List T_api_Actor) (x23 : Int) (x24 : Int) : Option ((List T_api_Expr)) := roadref2_BodiesOf.l1_k.go (.l1 a3 a22 x23 x24)
theorem roadref2_BodiesOf.l1_eq (a3 : List T_api_Expr) (a22 : List T_api_Actor) (x23 : Int) (x24 : Int) : roadref2_BodiesOf.l1 a3 a22 x23 x24 = if x24 < x23 then (Option.bind (gi a22 x24) fun y82 => Option.bind (ap 136 a3 ([y82.Body] : List T_api_Expr)) fun l112 => (roadref2_BodiesOf.l1 l112 a22 x23 (IntKind.wrap .i64 (x24 + (1 : Int))))) else (some (a3)) := fixF_eq roadref2_BodiesOf.l1_k.mono _
def roadref2_BodiesOf.l1_k.I : (p : roadref2_BodiesOf.l1_k.Pt) → ((List T_api_Expr)) → Prop
  | .l1 a3 a22 x23 x24, r => ∀ (h0 m0 h m : Heap) (A3 : Option Addr) (n3 c3 : Nat) (A22 : Option Addr) (n22 c22 : Nat) (S : St No h0 m0 h m) (ne3 : n3 = List.length a3) (o3 : OS No h0 8 T_api_Expr.E h m A3 a3 c3) (ne22 : n22 = List.length a22) (k22 : List.length a22 ≤ c22) (r22 : Rd 14 T_api_Actor.E m A22 a22), f33.l1 (roadref2_BodiesOf.post No h0 m0 r) A3 n3 c3 A22 n22 c22 x23 x24 h
set_option maxRecDepth 100000 in
theorem roadref2_BodiesOf.l1_k.step_l1 (go : (p : roadref2_BodiesOf.l1_k.Pt) → Option ((List T_api_Expr))) (ih : ∀ p r, go p = some r → roadref2_BodiesOf.l1_k.I p r) (a3 : List T_api_Expr) (a22 : List T_api_Actor) (x23 : Int) (x24 : Int) (r : (List T_api_Expr)) (e : roadref2_BodiesOf.l1_k.body go (.l1 a3 a22 x23 x24) = some r) : roadref2_BodiesOf.l1_k.I (.l1 a3 a22 x23 x24) r := by
  unfold roadref2_BodiesOf.l1_k.body at e
  intro h0 m0 h m A3 n3 c3 A22 n22 c22 S ne3 o3 ne22 k22 r22
  subst ne3
  subst ne22
  refine f33.l1_in ?_
  unfold f33.l1T
  refine split_dec_e e (fun c126 e => ?_) (fun c126 e => ?_)
  · obtain ⟨y82, g83, e⟩ := bind_e e
    refine r22.addr rfl g83 fun a84 cs85 ha86 hc87 he88 => ?_
    obtain ⟨Aa84_1, ca84_1, Aa84_2, ca84_2, Aa84_5, ca84_5, Aa84_9, ca84_9, Aa84_10, ca84_10, Aa84_11, ca84_11, Aa84_12, ca84_12, rfl, ka84_1, ra84_1, ka84_2, ra84_2, ka84_5, ra84_5, ka84_9, ra84_9, ka84_10, ra84_10, ka84_11, ra84_11, ka84_12, ra84_12⟩ := he88
    refine ⟨_, ldA S.s hc87, ?_⟩
    refine new_in S fun h89 o90 x91 => ?_
    have d94 : Dj (fp A3 c3) (fb (Array.size h)) := Dj.new o3.lt
    have o95 := o3.ext T_api_Expr.T S.s x91
    have S92 := S.ext' x91
    have o90 : OB _ _ h89 _ (Array.size h) [(Value.string (ByteArray.mk #[])), (Value.slice none 0 0), (Value.slice none 0 0), (Value.int .i64 (0 : Int)), (Value.string (ByteArray.mk #[])), (Value.slice none 0 0), (Value.int .i64 (0 : Int)), (Value.int .i64 (0 : Int)), (Value.string (ByteArray.mk #[])), (Value.slice none 0 0), (Value.slice none 0 0), (Value.slice none 0 0), (Value.slice none 0 0), (Value.int .i64 (0 : Int))] 186 := o90
    obtain ⟨h96, w97, o98, t99⟩ := o90.stA S92.s [(Value.string y82.Name), (Value.slice Aa84_1 (List.length y82.Names) ca84_1), (Value.slice Aa84_2 (List.length y82.Types) ca84_2), (Value.int .i64 y82.Msg.Kind), (Value.string y82.Msg.Name), (Value.slice Aa84_5 (List.length y82.Msg.Args) ca84_5), (Value.int .i64 y82.Body.Kind), (Value.int .i64 y82.Body.Num), (Value.string y82.Body.Text), (Value.slice Aa84_9 (List.length y82.Body.Names) ca84_9), (Value.slice Aa84_10 (List.length y82.Body.Types) ca84_10), (Value.slice Aa84_11 (List.length y82.Body.Args) ca84_11), (Value.slice Aa84_12 (List.length y82.Body.Arms) ca84_12), (Value.int .i64 y82.Body.At)] rfl (Flats.cons trivial (Flats.cons trivial (Flats.cons trivial (Flats.cons trivial (Flats.cons trivial (Flats.cons trivial (Flats.cons trivial (Flats.cons trivial (Flats.cons trivial (Flats.cons trivial (Flats.cons trivial (Flats.cons trivial (Flats.cons trivial (Flats.cons trivial Flats.nil))))))))))))))
    refine ⟨[(Value.string y82.Name), (Value.slice Aa84_1 (List.length y82.Names) ca84_1), (Value.slice Aa84_2 (List.length y82.Types) ca84_2), (Value.int .i64 y82.Msg.Kind), (Value.string y82.Msg.Name), (Value.slice Aa84_5 (List.length y82.Msg.Args) ca84_5), (Value.int .i64 y82.Body.Kind), (Value.int .i64 y82.Body.Num), (Value.string y82.Body.Text), (Value.slice Aa84_9 (List.length y82.Body.Names) ca84_9), (Value.slice Aa84_10 (List.length y82.Body.Types) ca84_10), (Value.slice Aa84_11 (List.length y82.Body.Args) ca84_11), (Value.slice Aa84_12 (List.length y82.Body.Arms) ca84_12), (Value.int .i64 y82.Body.At)], rfl, rfl, h96, w97, ?_⟩
    have o98 : OB _ _ h96 _ (Array.size h) [(Value.string y82.Name), (Value.slice Aa84_1 (List.length y82.Names) ca84_1), (Value.slice Aa84_2 (List.length y82.Types) ca84_2), (Value.int .i64 y82.Msg.Kind), (Value.string y82.Msg.Name), (Value.slice Aa84_5 (List.length y82.Msg.Args) ca84_5), (Value.int .i64 y82.Body.Kind), (Value.int .i64 y82.Body.Num), (Value.string y82.Body.Text), (Value.slice Aa84_9 (List.length y82.Body.Names) ca84_9), (Value.slice Aa84_10 (List.length y82.Body.Types) ca84_10), (Value.slice Aa84_11 (List.length y82.Body.Args) ca84_11), (Value.slice Aa84_12 (List.length y82.Body.Arms) ca84_12), (Value.int .i64 y82.Body.At)] 186 := o98
    have S100 := S92.then t99 (fun i _ hi => o90.wr i hi)
    have o101 := o95.step T_api_Expr.T t99 (d94).symm
    refine ⟨(Value.agg #[(Value.int .i64 y82.Body.Kind), (Value.int .i64 y82.Body.Num), (Value.string y82.Body.Text), (Value.slice Aa84_9 (List.length y82.Body.Names) ca84_9), (Value.slice Aa84_10 (List.length y82.Body.Types) ca84_10), (Value.slice Aa84_11 (List.length y82.Body.Args) ca84_11), (Value.slice Aa84_12 (List.length y82.Body.Arms) ca84_12), (Value.int .i64 y82.Body.At)]), ldAk (k := 6) (j := 8) (Sub.refl _) o98.all (Nat.le_of_ble_eq_true rfl), ?_⟩
    refine ⟨[(Value.int .i64 y82.Body.Kind), (Value.int .i64 y82.Body.Num), (Value.string y82.Body.Text), (Value.slice Aa84_9 (List.length y82.Body.Names) ca84_9), (Value.slice Aa84_10 (List.length y82.Body.Types) ca84_10), (Value.slice Aa84_11 (List.length y82.Body.Args) ca84_11), (Value.slice Aa84_12 (List.length y82.Body.Arms) ca84_12), (Value.int .i64 y82.Body.At)], rfl, rfl, ?_⟩
    refine new_in S100 fun h102 o103 x104 => ?_
    have d107 : Dj (fp A3 c3) (fb (Array.size h96)) := Dj.new o101.lt
    have d108 : Dj (fb (Array.size h)) (fb (Array.size h96)) := Dj.new o98.lt
    have o109 := o101.ext T_api_Expr.T S100.s x104
    have o110 := o98.ext x104
    have S105 := S100.ext' x104
    have o103 : OB _ _ h102 _ (Array.size h96) [(Value.int .i64 y82.Body.Kind), (Value.int .i64 y82.Body.Num), (Value.string y82.Body.Text), (Value.slice Aa84_9 (List.length y82.Body.Names) ca84_9), (Value.slice Aa84_10 (List.length y82.Body.Types) ca84_10), (Value.slice Aa84_11 (List.length y82.Body.Args) ca84_11), (Value.slice Aa84_12 (List.length y82.Body.Arms) ca84_12), (Value.int .i64 y82.Body.At)] 71 := o103
    have o111 : OS _ _ 8 T_api_Expr.E h102 m (some ⟨(Array.size h96), 0, none⟩) ([y82.Body] : List T_api_Expr) 1 := OB.row o103 (CsE.cons (c1 := [(Value.int .i64 y82.Body.Kind), (Value.int .i64 y82.Body.Num), (Value.string y82.Body.Text), (Value.slice Aa84_9 (List.length y82.Body.Names) ca84_9), (Value.slice Aa84_10 (List.length y82.Body.Types) ca84_10), (Value.slice Aa84_11 (List.length y82.Body.Args) ca84_11), (Value.slice Aa84_12 (List.length y82.Body.Arms) ca84_12), (Value.int .i64 y82.Body.At)]) (T_api_Expr.iff.2 ⟨_, _, _, _, _, _, _, _, rfl, ka84_9, ra84_9, ka84_10, ra84_10, ka84_11, ra84_11, ka84_12, ra84_12⟩) rfl CsE.nil) rfl
    obtain ⟨l112, g113, e⟩ := bind_e e
    refine o109.app T_api_Expr.T S105 rfl rfl (o111.srcE rfl) (by decide) g113 fun A114 c115 h116 o117 t118 n119 => ?_
    refine ⟨_, _, _, rfl, ?_⟩
    have d121 : Dj (fb (Array.size h)) (fp A114 c115) := Dj.app (d94).symm o110.lt n119
    have d122 : Dj (fp (some ⟨(Array.size h96), 0, none⟩) 1) (fp A114 c115) := Dj.app ((d107.row)).symm o111.lt n119
    have S123 := S105.then t118 (fun i _ hi => o109.wr i hi)
    have o124 := o110.step t118 d94
    have o125 := o111.step T_api_Expr.T t118 (d107.row)
    exact (ih _ _ e) _ _ _ _ _ _ _ _ _ _ S123 rfl o117 rfl k22 r22
  · cases e
    exact ⟨_, _, _, _, S, rfl, rfl, o3⟩
theorem roadref2_BodiesOf.l1_k.all {p : roadref2_BodiesOf.l1_k.Pt} {r : ((List T_api_Expr))} (e : roadref2_BodiesOf.l1_k.go p = some r) : roadref2_BodiesOf.l1_k.I p r := fixF_ind (β := fun _ => ((List T_api_Expr))) roadref2_BodiesOf.l1_k.mono (I := roadref2_BodiesOf.l1_k.I) (fun go ih p r e => match p with
  | .l1 a3 a22 x23 x24 => roadref2_BodiesOf.l1_k.step_l1 go ih a3 a22 x23 x24 r e
  ) e
theorem roadref2_BodiesOf.l1.walk {h0 m0 h m : Heap} {A3 : Option Addr} {n3 c3 : Nat} {A22 : Option Addr} {n22 c22 : Nat} {a3 : List T_api_Expr} {a22 : List T_api_Actor} {x23 : Int} {x24 : Int} (S : St No h0 m0 h m) (ne3 : n3 = List.length a3) (o3 : OS No h0 8 T_api_Expr.E h m A3 a3 c3) (ne22 : n22 = List.length a22) (k22 : List.length a22 ≤ c22) (r22 : Rd 14 T_api_Actor.E m A22 a22) {r : (List T_api_Expr)} (e : roadref2_BodiesOf.l1 a3 a22 x23 x24 = some r) : f33.l1 (roadref2_BodiesOf.post No h0 m0 r) A3 n3 c3 A22 n22 c22 x23 x24 h := roadref2_BodiesOf.l1_k.all (p := .l1 a3 a22 x23 x24) e h0 m0 h m A3 n3 c3 A22 n22 c22 S ne3 o3 ne22 k22 r22

inductive roadref2_BodiesOf.l0_k.Pt where
  | l0 (y1 : T_api_Program) (a3 : List T_api_Expr) (a9 : List T_api_Func) (x10 : Int) (x11 : Int)
noncomputable def roadref2_BodiesOf.l0_k.body (go : (p : roadref2_BodiesOf.l0_k.Pt) → Option ((List T_api_Expr))) : (p : roadref2_BodiesOf.l0_k.Pt) → Option ((List T_api_Expr))
  | .l0 y1 a3 a9 x10 x11 => if x11 < x10 then (Option.bind (gi a9 x11) fun y23 => Option.bind (ap 136 a3 ([y23.Body] : List T_api_Expr)) fun l63 => (go (.l0 y1 l63 a9 x10 (IntKind.wrap .i64 (x11 + (1 : Int)))))) else ((roadref2_BodiesOf.l1 a3 y1.Actors (((List.length y1.Actors) : Nat) : Int) (0 : Int)))
theorem roadref2_BodiesOf.l0_k.mono : MonoF (β := fun _ => ((List T_api_Expr))) roadref2_BodiesOf.l0_k.body := fun f g hfg p => match p with
  | .l0 y1 a3 a9 x10 x11 => LeO.ite (LeO.bind (LeO.refl _) fun y23 => LeO.bind (LeO.refl _) fun l63 => (hfg _)) ((LeO.refl _))
noncomputable def roadref2_BodiesOf.l0_k.go (p : roadref2_BodiesOf.l0_k.Pt) : Option ((List T_api_Expr)) := fixF (β := fun _ => ((List T_api_Expr))) roadref2_BodiesOf.l0_k.body p
noncomputable def roadref2_BodiesOf.l0 (y1 : T_api_Program) (a3 : List T_api_Expr) (a9 : List T_api_Func) (x10 : Int) (x11 : Int) : Option ((List T_api_Expr)) := roadref2_BodiesOf.l0_k.go (.l0 y1 a3 a9 x10 x11)
theorem roadref2_BodiesOf.l0_eq (y1 : T_api_Program) (a3 : List T_api_Expr) (a9 : List T_api_Func) (x10 : Int) (x11 : Int) : roadref2_BodiesOf.l0 y1 a3 a9 x10 x11 = if x11 < x10 then (Option.bind (gi a9 x11) fun y23 => Option.bind (ap 136 a3 ([y23.Body] : List T_api_Expr)) fun l63 => (roadref2_BodiesOf.l0 y1 l63 a9 x10 (IntKind.wrap .i64 (x11 + (1 : Int))))) else ((roadref2_BodiesOf.l1 a3 y1.Actors (((List.length y1.Actors) : Nat) : Int) (0 : Int))) := fixF_eq roadref2_BodiesOf.l0_k.mono _
def roadref2_BodiesOf.l0_k.I : (p : roadref2_BodiesOf.l0_k.Pt) → ((List T_api_Expr)) → Prop
  | .l0 y1 a3 a9 x10 x11, r => ∀ (h0 m0 h m : Heap) (bk1 : Nat) (cs1 : List Value) (A3 : Option Addr) (n3 c3 : Nat) (A9 : Option Addr) (n9 c9 : Nat) (S : St No h0 m0 h m) (o1 : OB No h0 h m bk1 cs1 53) (e1 : T_api_Program.E m y1 cs1) (ne3 : n3 = List.length a3) (o3 : OS No h0 8 T_api_Expr.E h m A3 a3 c3) (ne9 : n9 = List.length a9) (o9 : OS No h0 15 T_api_Func.E h m A9 a9 c9) (d0_1 : Dj (fb bk1) (fp A3 c3)) (d0_2 : Dj (fb bk1) (fp A9 c9)) (d1_2 : Dj (fp A3 c3) (fp A9 c9)), f33.l0 (roadref2_BodiesOf.post No h0 m0 r) (⟨bk1, 0, none⟩ : Addr) A3 n3 c3 A9 n9 c9 x10 x11 h
set_option maxRecDepth 100000 in
theorem roadref2_BodiesOf.l0_k.step_l0 (go : (p : roadref2_BodiesOf.l0_k.Pt) → Option ((List T_api_Expr))) (ih : ∀ p r, go p = some r → roadref2_BodiesOf.l0_k.I p r) (y1 : T_api_Program) (a3 : List T_api_Expr) (a9 : List T_api_Func) (x10 : Int) (x11 : Int) (r : (List T_api_Expr)) (e : roadref2_BodiesOf.l0_k.body go (.l0 y1 a3 a9 x10 x11) = some r) : roadref2_BodiesOf.l0_k.I (.l0 y1 a3 a9 x10 x11) r := by
  unfold roadref2_BodiesOf.l0_k.body at e
  intro h0 m0 h m bk1 cs1 A3 n3 c3 A9 n9 c9 S o1 e1 ne3 o3 ne9 o9 d0_1 d0_2 d1_2
  obtain ⟨Ae1_2, ce1_2, Ae1_3, ce1_3, Ae1_4, ce1_4, Ae1_5, ce1_5, Ae1_6, ce1_6, Ae1_7, ce1_7, rfl, ke1_2, re1_2, ke1_3, re1_3, ke1_4, re1_4, ke1_5, re1_5, ke1_6, re1_6, ke1_7, re1_7⟩ := e1
  subst ne3
  subst ne9
  refine f33.l0_in ?_
  unfold f33.l0T
  refine split_dec_e e (fun c81 e => ?_) (fun c81 e => ?_)
  · obtain ⟨y23, g24, e⟩ := bind_e e
    refine o9.addr rfl g24 fun a25 cs26 ha27 hc28 he29 => ?_
    obtain ⟨Aa25_1, ca25_1, Aa25_2, ca25_2, Aa25_3, ca25_3, Aa25_6, ca25_6, Aa25_10, ca25_10, Aa25_11, ca25_11, Aa25_12, ca25_12, Aa25_13, ca25_13, rfl, ka25_1, ra25_1, ka25_2, ra25_2, ka25_3, ra25_3, ka25_6, ra25_6, ka25_10, ra25_10, ka25_11, ra25_11, ka25_12, ra25_12, ka25_13, ra25_13⟩ := he29
    refine ⟨_, ldA (Sub.refl _) hc28, ?_⟩
    refine new_in S fun h30 o31 x32 => ?_
    have d35 : Dj (fb bk1) (fb (Array.size h)) := Dj.new o1.lt
    have d36 : Dj (fp A3 c3) (fb (Array.size h)) := Dj.new o3.lt
    have d37 : Dj (fp A9 c9) (fb (Array.size h)) := Dj.new o9.lt
    have o38 := o1.ext x32
    have o39 := o3.ext T_api_Expr.T S.s x32
    have o40 := o9.ext T_api_Func.T S.s x32
    have S33 := S.ext' x32
    have o31 : OB _ _ h30 _ (Array.size h) [(Value.string (ByteArray.mk #[])), (Value.slice none 0 0), (Value.slice none 0 0), (Value.slice none 0 0), (Value.int .i64 (0 : Int)), (Value.string (ByteArray.mk #[])), (Value.slice none 0 0), (Value.int .i64 (0 : Int)), (Value.int .i64 (0 : Int)), (Value.string (ByteArray.mk #[])), (Value.slice none 0 0), (Value.slice none 0 0), (Value.slice none 0 0), (Value.slice none 0 0), (Value.int .i64 (0 : Int))] 73 := o31
    obtain ⟨h41, w42, o43, t44⟩ := o31.stA S33.s [(Value.string y23.Name), (Value.slice Aa25_1 (List.length y23.Params) ca25_1), (Value.slice Aa25_2 (List.length y23.Names) ca25_2), (Value.slice Aa25_3 (List.length y23.Types) ca25_3), (Value.int .i64 y23.Out.Kind), (Value.string y23.Out.Name), (Value.slice Aa25_6 (List.length y23.Out.Args) ca25_6), (Value.int .i64 y23.Body.Kind), (Value.int .i64 y23.Body.Num), (Value.string y23.Body.Text), (Value.slice Aa25_10 (List.length y23.Body.Names) ca25_10), (Value.slice Aa25_11 (List.length y23.Body.Types) ca25_11), (Value.slice Aa25_12 (List.length y23.Body.Args) ca25_12), (Value.slice Aa25_13 (List.length y23.Body.Arms) ca25_13), (Value.int .i64 y23.Body.At)] rfl (Flats.cons trivial (Flats.cons trivial (Flats.cons trivial (Flats.cons trivial (Flats.cons trivial (Flats.cons trivial (Flats.cons trivial (Flats.cons trivial (Flats.cons trivial (Flats.cons trivial (Flats.cons trivial (Flats.cons trivial (Flats.cons trivial (Flats.cons trivial (Flats.cons trivial Flats.nil)))))))))))))))
    refine ⟨[(Value.string y23.Name), (Value.slice Aa25_1 (List.length y23.Params) ca25_1), (Value.slice Aa25_2 (List.length y23.Names) ca25_2), (Value.slice Aa25_3 (List.length y23.Types) ca25_3), (Value.int .i64 y23.Out.Kind), (Value.string y23.Out.Name), (Value.slice Aa25_6 (List.length y23.Out.Args) ca25_6), (Value.int .i64 y23.Body.Kind), (Value.int .i64 y23.Body.Num), (Value.string y23.Body.Text), (Value.slice Aa25_10 (List.length y23.Body.Names) ca25_10), (Value.slice Aa25_11 (List.length y23.Body.Types) ca25_11), (Value.slice Aa25_12 (List.length y23.Body.Args) ca25_12), (Value.slice Aa25_13 (List.length y23.Body.Arms) ca25_13), (Value.int .i64 y23.Body.At)], rfl, rfl, h41, w42, ?_⟩
    have o43 : OB _ _ h41 _ (Array.size h) [(Value.string y23.Name), (Value.slice Aa25_1 (List.length y23.Params) ca25_1), (Value.slice Aa25_2 (List.length y23.Names) ca25_2), (Value.slice Aa25_3 (List.length y23.Types) ca25_3), (Value.int .i64 y23.Out.Kind), (Value.string y23.Out.Name), (Value.slice Aa25_6 (List.length y23.Out.Args) ca25_6), (Value.int .i64 y23.Body.Kind), (Value.int .i64 y23.Body.Num), (Value.string y23.Body.Text), (Value.slice Aa25_10 (List.length y23.Body.Names) ca25_10), (Value.slice Aa25_11 (List.length y23.Body.Types) ca25_11), (Value.slice Aa25_12 (List.length y23.Body.Args) ca25_12), (Value.slice Aa25_13 (List.length y23.Body.Arms) ca25_13), (Value.int .i64 y23.Body.At)] 73 := o43
    have S45 := S33.then t44 (fun i _ hi => o31.wr i hi)
    have o46 := o38.step t44 (d35).symm
    have o47 := o39.step T_api_Expr.T t44 (d36).symm
    have o48 := o40.step T_api_Func.T t44 (d37).symm
    refine ⟨(Value.agg #[(Value.int .i64 y23.Body.Kind), (Value.int .i64 y23.Body.Num), (Value.string y23.Body.Text), (Value.slice Aa25_10 (List.length y23.Body.Names) ca25_10), (Value.slice Aa25_11 (List.length y23.Body.Types) ca25_11), (Value.slice Aa25_12 (List.length y23.Body.Args) ca25_12), (Value.slice Aa25_13 (List.length y23.Body.Arms) ca25_13), (Value.int .i64 y23.Body.At)]), ldAk (k := 7) (j := 8) (Sub.refl _) o43.all (Nat.le_of_ble_eq_true rfl), ?_⟩
    refine ⟨[(Value.int .i64 y23.Body.Kind), (Value.int .i64 y23.Body.Num), (Value.string y23.Body.Text), (Value.slice Aa25_10 (List.length y23.Body.Names) ca25_10), (Value.slice Aa25_11 (List.length y23.Body.Types) ca25_11), (Value.slice Aa25_12 (List.length y23.Body.Args) ca25_12), (Value.slice Aa25_13 (List.length y23.Body.Arms) ca25_13), (Value.int .i64 y23.Body.At)], rfl, rfl, ?_⟩
    refine new_in S45 fun h49 o50 x51 => ?_
    have d54 : Dj (fb bk1) (fb (Array.size h41)) := Dj.new o46.lt
    have d55 : Dj (fp A3 c3) (fb (Array.size h41)) := Dj.new o47.lt
    have d56 : Dj (fp A9 c9) (fb (Array.size h41)) := Dj.new o48.lt
    have d57 : Dj (fb (Array.size h)) (fb (Array.size h41)) := Dj.new o43.lt
    have o58 := o46.ext x51
    have o59 := o47.ext T_api_Expr.T S45.s x51
    have o60 := o48.ext T_api_Func.T S45.s x51
    have o61 := o43.ext x51
    have S52 := S45.ext' x51
    have o50 : OB _ _ h49 _ (Array.size h41) [(Value.int .i64 y23.Body.Kind), (Value.int .i64 y23.Body.Num), (Value.string y23.Body.Text), (Value.slice Aa25_10 (List.length y23.Body.Names) ca25_10), (Value.slice Aa25_11 (List.length y23.Body.Types) ca25_11), (Value.slice Aa25_12 (List.length y23.Body.Args) ca25_12), (Value.slice Aa25_13 (List.length y23.Body.Arms) ca25_13), (Value.int .i64 y23.Body.At)] 71 := o50
    have o62 : OS _ _ 8 T_api_Expr.E h49 m (some ⟨(Array.size h41), 0, none⟩) ([y23.Body] : List T_api_Expr) 1 := OB.row o50 (CsE.cons (c1 := [(Value.int .i64 y23.Body.Kind), (Value.int .i64 y23.Body.Num), (Value.string y23.Body.Text), (Value.slice Aa25_10 (List.length y23.Body.Names) ca25_10), (Value.slice Aa25_11 (List.length y23.Body.Types) ca25_11), (Value.slice Aa25_12 (List.length y23.Body.Args) ca25_12), (Value.slice Aa25_13 (List.length y23.Body.Arms) ca25_13), (Value.int .i64 y23.Body.At)]) (T_api_Expr.iff.2 ⟨_, _, _, _, _, _, _, _, rfl, ka25_10, ra25_10, ka25_11, ra25_11, ka25_12, ra25_12, ka25_13, ra25_13⟩) rfl CsE.nil) rfl
    obtain ⟨l63, g64, e⟩ := bind_e e
    refine o59.app T_api_Expr.T S52 rfl rfl (o62.srcE rfl) (by decide) g64 fun A65 c66 h67 o68 t69 n70 => ?_
    refine ⟨_, _, _, rfl, ?_⟩
    have d72 : Dj (fb bk1) (fp A65 c66) := Dj.app d0_1 o58.lt n70
    have d73 : Dj (fp A9 c9) (fp A65 c66) := Dj.app (d1_2).symm o60.lt n70
    have d74 : Dj (fb (Array.size h)) (fp A65 c66) := Dj.app (d36).symm o61.lt n70
    have d75 : Dj (fp (some ⟨(Array.size h41), 0, none⟩) 1) (fp A65 c66) := Dj.app ((d55.row)).symm o62.lt n70
    have S76 := S52.then t69 (fun i _ hi => o59.wr i hi)
    have o77 := o58.step t69 (d0_1).symm
    have o78 := o60.step T_api_Func.T t69 d1_2
    have o79 := o61.step t69 d36
    have o80 := o62.step T_api_Expr.T t69 (d55.row)
    exact (ih _ _ e) _ _ _ _ _ _ _ _ _ _ _ _ S76 o77 (show T_api_Program.E _ y1 [(Value.string y1.Name), (Value.int .i64 y1.Version), (Value.slice Ae1_2 (List.length y1.Uses) ce1_2), (Value.slice Ae1_3 (List.length y1.Datas) ce1_3), (Value.slice Ae1_4 (List.length y1.Traits) ce1_4), (Value.slice Ae1_5 (List.length y1.Impls) ce1_5), (Value.slice Ae1_6 (List.length y1.Funcs) ce1_6), (Value.slice Ae1_7 (List.length y1.Actors) ce1_7)] from ⟨_, _, _, _, _, _, _, _, _, _, _, _, rfl, ke1_2, re1_2, ke1_3, re1_3, ke1_4, re1_4, ke1_5, re1_5, ke1_6, re1_6, ke1_7, re1_7⟩) rfl o68 rfl o78 d72 d0_2 (d73).symm
  · refine ⟨_, ldk (k := 7) (Sub.refl _) o1.all rfl, _, _, _, rfl, ?_⟩
    exact roadref2_BodiesOf.l1.walk S rfl o3 rfl ke1_7 re1_7 e
theorem roadref2_BodiesOf.l0_k.all {p : roadref2_BodiesOf.l0_k.Pt} {r : ((List T_api_Expr))} (e : roadref2_BodiesOf.l0_k.go p = some r) : roadref2_BodiesOf.l0_k.I p r := fixF_ind (β := fun _ => ((List T_api_Expr))) roadref2_BodiesOf.l0_k.mono (I := roadref2_BodiesOf.l0_k.I) (fun go ih p r e => match p with
  | .l0 y1 a3 a9 x10 x11 => roadref2_BodiesOf.l0_k.step_l0 go ih y1 a3 a9 x10 x11 r e
  ) e
theorem roadref2_BodiesOf.l0.walk {h0 m0 h m : Heap} {bk1 : Nat} {cs1 : List Value} {A3 : Option Addr} {n3 c3 : Nat} {A9 : Option Addr} {n9 c9 : Nat} {y1 : T_api_Program} {a3 : List T_api_Expr} {a9 : List T_api_Func} {x10 : Int} {x11 : Int} (S : St No h0 m0 h m) (o1 : OB No h0 h m bk1 cs1 53) (e1 : T_api_Program.E m y1 cs1) (ne3 : n3 = List.length a3) (o3 : OS No h0 8 T_api_Expr.E h m A3 a3 c3) (ne9 : n9 = List.length a9) (o9 : OS No h0 15 T_api_Func.E h m A9 a9 c9) (d0_1 : Dj (fb bk1) (fp A3 c3)) (d0_2 : Dj (fb bk1) (fp A9 c9)) (d1_2 : Dj (fp A3 c3) (fp A9 c9)) {r : (List T_api_Expr)} (e : roadref2_BodiesOf.l0 y1 a3 a9 x10 x11 = some r) : f33.l0 (roadref2_BodiesOf.post No h0 m0 r) (⟨bk1, 0, none⟩ : Addr) A3 n3 c3 A9 n9 c9 x10 x11 h := roadref2_BodiesOf.l0_k.all (p := .l0 y1 a3 a9 x10 x11) e h0 m0 h m bk1 cs1 A3 n3 c3 A9 n9 c9 S o1 e1 ne3 o3 ne9 o9 d0_1 d0_2 d1_2

noncomputable def roadref2_BodiesOf (y0 : T_api_Program) : Option ((List T_api_Expr)) :=
  Option.bind (roadref2_FunsOf y0) fun y6 => (roadref2_BodiesOf.l0 y0 ([] : List T_api_Expr) y6 (((List.length y6) : Nat) : Int) (0 : Int))
set_option maxRecDepth 100000 in
theorem roadref2_BodiesOf.walk {h m : Heap} {cs0 : List Value} {y0 : T_api_Program} (s : Sub m h) (e0 : T_api_Program.E m y0 cs0) {r : (List T_api_Expr)} (e : roadref2_BodiesOf y0 = some r) : Run Try.prog 33 #[Value.agg cs0.toArray] h (roadref2_BodiesOf.post No h m r) := by
  unfold roadref2_BodiesOf at e
  obtain ⟨Ae0_2, ce0_2, Ae0_3, ce0_3, Ae0_4, ce0_4, Ae0_5, ce0_5, Ae0_6, ce0_6, Ae0_7, ce0_7, rfl, ke0_2, re0_2, ke0_3, re0_3, ke0_4, re0_4, ke0_5, re0_5, ke0_6, re0_6, ke0_7, re0_7⟩ := e0
  have S : St No h m h m := .refl s
  refine f33.run ?_
  unfold f33.runT
  refine new_in S fun h1 o2 x3 => ?_
  have S4 := S.ext' x3
  have o2 : OB _ _ h1 _ (Array.size h) [(Value.string y0.Name), (Value.int .i64 y0.Version), (Value.slice Ae0_2 (List.length y0.Uses) ce0_2), (Value.slice Ae0_3 (List.length y0.Datas) ce0_3), (Value.slice Ae0_4 (List.length y0.Traits) ce0_4), (Value.slice Ae0_5 (List.length y0.Impls) ce0_5), (Value.slice Ae0_6 (List.length y0.Funcs) ce0_6), (Value.slice Ae0_7 (List.length y0.Actors) ce0_7)] 53 := o2
  refine ⟨_, ldA (Sub.refl _) o2.all, ?_⟩
  obtain ⟨y6, g7, e⟩ := bind_e e
  refine (roadref2_FunsOf.walk S4.s (show T_api_Program.E _ y0 [(Value.string y0.Name), (Value.int .i64 y0.Version), (Value.slice Ae0_2 (List.length y0.Uses) ce0_2), (Value.slice Ae0_3 (List.length y0.Datas) ce0_3), (Value.slice Ae0_4 (List.length y0.Traits) ce0_4), (Value.slice Ae0_5 (List.length y0.Impls) ce0_5), (Value.slice Ae0_6 (List.length y0.Funcs) ce0_6), (Value.slice Ae0_7 (List.length y0.Actors) ce0_7)] from ⟨_, _, _, _, _, _, _, _, _, _, _, _, rfl, ke0_2, re0_2, ke0_3, re0_3, ke0_4, re0_4, ke0_5, re0_5, ke0_6, re0_6, ke0_7, re0_7⟩) g7).mono ?_
  rintro _ h8 ⟨m9, A11, n12, c13, T10, rfl, ne14, o15⟩
  subst ne14
  have S17 := S4.grow T10
  have o18 := o2.step T10 Dj.no
  have d20 : Dj (fb (Array.size h)) (fp A11 c13) := fun i h1 h2 => absurd (o2.lt i h1) (Nat.not_lt.2 ((o15.new i h2).elim (fun h => h.elim) id))
  have o19 := o15.take S4 (fun _ h => h.elim)
  refine ⟨_, _, _, rfl, ?_⟩
  have o22 : OS No h 8 T_api_Expr.E h8 m9 none ([] : List T_api_Expr) 0 := .inl ⟨rfl, rfl⟩
  exact roadref2_BodiesOf.l0.walk S17 o18 (show T_api_Program.E _ y0 [(Value.string y0.Name), (Value.int .i64 y0.Version), (Value.slice Ae0_2 (List.length y0.Uses) ce0_2), (Value.slice Ae0_3 (List.length y0.Datas) ce0_3), (Value.slice Ae0_4 (List.length y0.Traits) ce0_4), (Value.slice Ae0_5 (List.length y0.Impls) ce0_5), (Value.slice Ae0_6 (List.length y0.Funcs) ce0_6), (Value.slice Ae0_7 (List.length y0.Actors) ce0_7)] from ⟨_, _, _, _, _, _, _, _, _, _, _, _, rfl, ke0_2, (re0_2.sub T_api_Use.T T10.up), ke0_3, (re0_3.sub T_api_Data.T T10.up), ke0_4, (re0_4.sub T_api_Trait.T T10.up), ke0_5, (re0_5.sub T_api_Impl.T T10.up), ke0_6, (re0_6.sub T_api_Func.T T10.up), ke0_7, (re0_7.sub T_api_Actor.T T10.up)⟩) rfl o22 rfl o19 (show Dj (fb (Array.size h)) (fp none 0) from Dj.nil) d20 ((show Dj (fp A11 c13) (fp none 0) from Dj.nil)).symm e

/-! ### 90 roadstead/roadref2.All -/
def roadref2_All.post (W : Nat → Prop) (h0 m0 : Heap) (r : (List T_api_Expr)) (v : Value) (h : Heap) : Prop := ∃ m A0 n0 c0, St W h0 m0 h m ∧ v = .slice A0 n0 c0 ∧ n0 = r.length ∧ OS W h0 8 T_api_Expr.E h m A0 r c0
inductive roadref2_All.l0_k.Pt where
  | l0 (a3 : List T_api_Expr) (a4 : List T_api_Expr)
  | l1 (a3 : List T_api_Expr) (a4 : List T_api_Expr) (y5 : T_api_Expr) (x6 : Int)
  | l2 (a3 : List T_api_Expr) (a4 : List T_api_Expr) (y5 : T_api_Expr) (x7 : Int)
noncomputable def roadref2_All.l0_k.body (go : (p : roadref2_All.l0_k.Pt) → Option ((List T_api_Expr))) : (p : roadref2_All.l0_k.Pt) → Option ((List T_api_Expr))
  | .l0 a3 a4 => if (((List.length a3) : Nat) : Int) > (0 : Int) then (Option.bind (gi a3 (IntKind.wrap .i64 ((((List.length a3) : Nat) : Int) - (1 : Int)))) fun y16 => Option.bind (sls a3 (0 : Int) (IntKind.wrap .i64 ((((List.length a3) : Nat) : Int) - (1 : Int)))) fun l39 => Option.bind (ap 136 a4 ([y16] : List T_api_Expr)) fun l54 => (go (.l1 l39 l54 y16 (IntKind.wrap .i64 ((((List.length y16.Arms) : Nat) : Int) - (1 : Int)))))) else (some (a4))
  | .l1 a3 a4 y5 x6 => if x6 ≥ (0 : Int) then (Option.bind (gi y5.Arms x6) fun y73 => Option.bind (ap 136 a3 ([y73.Body] : List T_api_Expr)) fun l92 => (go (.l1 l92 a4 y5 (IntKind.wrap .i64 (x6 - (1 : Int)))))) else ((go (.l2 a3 a4 y5 (IntKind.wrap .i64 ((((List.length y5.Args) : Nat) : Int) - (1 : Int))))))
  | .l2 a3 a4 y5 x7 => if x7 ≥ (0 : Int) then (Option.bind (gi y5.Args x7) fun y109 => Option.bind (ap 136 a3 ([y109] : List T_api_Expr)) fun l128 => (go (.l2 l128 a4 y5 (IntKind.wrap .i64 (x7 - (1 : Int)))))) else ((go (.l0 a3 a4)))
theorem roadref2_All.l0_k.mono : MonoF (β := fun _ => ((List T_api_Expr))) roadref2_All.l0_k.body := fun f g hfg p => match p with
  | .l0 a3 a4 => LeO.ite (LeO.bind (LeO.refl _) fun y16 => LeO.bind (LeO.refl _) fun l39 => LeO.bind (LeO.refl _) fun l54 => (hfg _)) (LeO.refl _)
  | .l1 a3 a4 y5 x6 => LeO.ite (LeO.bind (LeO.refl _) fun y73 => LeO.bind (LeO.refl _) fun l92 => (hfg _)) ((hfg _))
  | .l2 a3 a4 y5 x7 => LeO.ite (LeO.bind (LeO.refl _) fun y109 => LeO.bind (LeO.refl _) fun l128 => (hfg _)) ((hfg _))
noncomputable def roadref2_All.l0_k.go (p : roadref2_All.l0_k.Pt) : Option ((List T_api_Expr)) := fixF (β := fun _ => ((List T_api_Expr))) roadref2_All.l0_k.body p
noncomputable def roadref2_All.l0 (a3 : List T_api_Expr) (a4 : List T_api_Expr) : Option ((List T_api_Expr)) := roadref2_All.l0_k.go (.l0 a3 a4)
noncomputable def roadref2_All.l1 (a3 : List T_api_Expr) (a4 : List T_api_Expr) (y5 : T_api_Expr) (x6 : Int) : Option ((List T_api_Expr)) := roadref2_All.l0_k.go (.l1 a3 a4 y5 x6)
noncomputable def roadref2_All.l2 (a3 : List T_api_Expr) (a4 : List T_api_Expr) (y5 : T_api_Expr) (x7 : Int) : Option ((List T_api_Expr)) := roadref2_All.l0_k.go (.l2 a3 a4 y5 x7)
theorem roadref2_All.l0_eq (a3 : List T_api_Expr) (a4 : List T_api_Expr) : roadref2_All.l0 a3 a4 = if (((List.length a3) : Nat) : Int) > (0 : Int) then (Option.bind (gi a3 (IntKind.wrap .i64 ((((List.length a3) : Nat) : Int) - (1 : Int)))) fun y16 => Option.bind (sls a3 (0 : Int) (IntKind.wrap .i64 ((((List.length a3) : Nat) : Int) - (1 : Int)))) fun l39 => Option.bind (ap 136 a4 ([y16] : List T_api_Expr)) fun l54 => (roadref2_All.l1 l39 l54 y16 (IntKind.wrap .i64 ((((List.length y16.Arms) : Nat) : Int) - (1 : Int))))) else (some (a4)) := fixF_eq roadref2_All.l0_k.mono _
theorem roadref2_All.l1_eq (a3 : List T_api_Expr) (a4 : List T_api_Expr) (y5 : T_api_Expr) (x6 : Int) : roadref2_All.l1 a3 a4 y5 x6 = if x6 ≥ (0 : Int) then (Option.bind (gi y5.Arms x6) fun y73 => Option.bind (ap 136 a3 ([y73.Body] : List T_api_Expr)) fun l92 => (roadref2_All.l1 l92 a4 y5 (IntKind.wrap .i64 (x6 - (1 : Int))))) else ((roadref2_All.l2 a3 a4 y5 (IntKind.wrap .i64 ((((List.length y5.Args) : Nat) : Int) - (1 : Int))))) := fixF_eq roadref2_All.l0_k.mono _
theorem roadref2_All.l2_eq (a3 : List T_api_Expr) (a4 : List T_api_Expr) (y5 : T_api_Expr) (x7 : Int) : roadref2_All.l2 a3 a4 y5 x7 = if x7 ≥ (0 : Int) then (Option.bind (gi y5.Args x7) fun y109 => Option.bind (ap 136 a3 ([y109] : List T_api_Expr)) fun l128 => (roadref2_All.l2 l128 a4 y5 (IntKind.wrap .i64 (x7 - (1 : Int))))) else ((roadref2_All.l0 a3 a4)) := fixF_eq roadref2_All.l0_k.mono _
def roadref2_All.l0_k.I : (p : roadref2_All.l0_k.Pt) → ((List T_api_Expr)) → Prop
  | .l0 a3 a4, r => ∀ (h0 m0 h m : Heap) (A3 : Option Addr) (n3 c3 : Nat) (A4 : Option Addr) (n4 c4 : Nat) (S : St No h0 m0 h m) (ne3 : n3 = List.length a3) (o3 : OS No h0 8 T_api_Expr.E h m A3 a3 c3) (ne4 : n4 = List.length a4) (o4 : OS No h0 8 T_api_Expr.E h m A4 a4 c4) (d0_1 : Dj (fp A3 c3) (fp A4 c4)), f90.l0 (roadref2_All.post No h0 m0 r) A3 n3 c3 A4 n4 c4 h
  | .l1 a3 a4 y5 x6, r => ∀ (h0 m0 h m : Heap) (A3 : Option Addr) (n3 c3 : Nat) (A4 : Option Addr) (n4 c4 : Nat) (bk5 : Nat) (cs5 : List Value) (S : St No h0 m0 h m) (ne3 : n3 = List.length a3) (o3 : OS No h0 8 T_api_Expr.E h m A3 a3 c3) (ne4 : n4 = List.length a4) (o4 : OS No h0 8 T_api_Expr.E h m A4 a4 c4) (o5 : OB No h0 h m bk5 cs5 71) (e5 : T_api_Expr.E m y5 cs5) (d0_1 : Dj (fp A3 c3) (fp A4 c4)) (d0_2 : Dj (fp A3 c3) (fb bk5)) (d1_2 : Dj (fp A4 c4) (fb bk5)), f90.l1 (roadref2_All.post No h0 m0 r) A3 n3 c3 A4 n4 c4 (⟨bk5, 0, none⟩ : Addr) x6 h
  | .l2 a3 a4 y5 x7, r => ∀ (h0 m0 h m : Heap) (A3 : Option Addr) (n3 c3 : Nat) (A4 : Option Addr) (n4 c4 : Nat) (bk5 : Nat) (cs5 : List Value) (S : St No h0 m0 h m) (ne3 : n3 = List.length a3) (o3 : OS No h0 8 T_api_Expr.E h m A3 a3 c3) (ne4 : n4 = List.length a4) (o4 : OS No h0 8 T_api_Expr.E h m A4 a4 c4) (o5 : OB No h0 h m bk5 cs5 71) (e5 : T_api_Expr.E m y5 cs5) (d0_1 : Dj (fp A3 c3) (fp A4 c4)) (d0_2 : Dj (fp A3 c3) (fb bk5)) (d1_2 : Dj (fp A4 c4) (fb bk5)), f90.l2 (roadref2_All.post No h0 m0 r) A3 n3 c3 A4 n4 c4 (⟨bk5, 0, none⟩ : Addr) x7 h
set_option maxRecDepth 100000 in
theorem roadref2_All.l0_k.step_l0 (go : (p : roadref2_All.l0_k.Pt) → Option ((List T_api_Expr))) (ih : ∀ p r, go p = some r → roadref2_All.l0_k.I p r) (a3 : List T_api_Expr) (a4 : List T_api_Expr) (r : (List T_api_Expr)) (e : roadref2_All.l0_k.body go (.l0 a3 a4) = some r) : roadref2_All.l0_k.I (.l0 a3 a4) r := by
  unfold roadref2_All.l0_k.body at e
  intro h0 m0 h m A3 n3 c3 A4 n4 c4 S ne3 o3 ne4 o4 d0_1
  subst ne3
  subst ne4
  refine f90.l0_in ?_
  unfold f90.l0T
  refine split_dec_e e (fun c72 e => ?_) (fun c72 e => ?_)
  · obtain ⟨y16, g17, e⟩ := bind_e e
    refine o3.addr rfl g17 fun a18 cs19 ha20 hc21 he22 => ?_
    obtain ⟨Aa18_3, ca18_3, Aa18_4, ca18_4, Aa18_5, ca18_5, Aa18_6, ca18_6, rfl, ka18_3, ra18_3, ka18_4, ra18_4, ka18_5, ra18_5, ka18_6, ra18_6⟩ := T_api_Expr.iff.1 he22
    refine ⟨_, ldA (Sub.refl _) hc21, ?_⟩
    refine new_in S fun h23 o24 x25 => ?_
    have d28 : Dj (fp A3 c3) (fb (Array.size h)) := Dj.new o3.lt
    have d29 : Dj (fp A4 c4) (fb (Array.size h)) := Dj.new o4.lt
    have o30 := o3.ext T_api_Expr.T S.s x25
    have o31 := o4.ext T_api_Expr.T S.s x25
    have S26 := S.ext' x25
    have o24 : OB _ _ h23 _ (Array.size h) [(Value.int .i64 (0 : Int)), (Value.int .i64 (0 : Int)), (Value.string (ByteArray.mk #[])), (Value.slice none 0 0), (Value.slice none 0 0), (Value.slice none 0 0), (Value.slice none 0 0), (Value.int .i64 (0 : Int))] 71 := o24
    obtain ⟨h32, w33, o34, t35⟩ := o24.stA S26.s [(Value.int .i64 y16.Kind), (Value.int .i64 y16.Num), (Value.string y16.Text), (Value.slice Aa18_3 (List.length y16.Names) ca18_3), (Value.slice Aa18_4 (List.length y16.Types) ca18_4), (Value.slice Aa18_5 (List.length y16.Args) ca18_5), (Value.slice Aa18_6 (List.length y16.Arms) ca18_6), (Value.int .i64 y16.At)] rfl (Flats.cons trivial (Flats.cons trivial (Flats.cons trivial (Flats.cons trivial (Flats.cons trivial (Flats.cons trivial (Flats.cons trivial (Flats.cons trivial Flats.nil))))))))
    refine ⟨[(Value.int .i64 y16.Kind), (Value.int .i64 y16.Num), (Value.string y16.Text), (Value.slice Aa18_3 (List.length y16.Names) ca18_3), (Value.slice Aa18_4 (List.length y16.Types) ca18_4), (Value.slice Aa18_5 (List.length y16.Args) ca18_5), (Value.slice Aa18_6 (List.length y16.Arms) ca18_6), (Value.int .i64 y16.At)], rfl, rfl, h32, w33, ?_⟩
    have o34 : OB _ _ h32 _ (Array.size h) [(Value.int .i64 y16.Kind), (Value.int .i64 y16.Num), (Value.string y16.Text), (Value.slice Aa18_3 (List.length y16.Names) ca18_3), (Value.slice Aa18_4 (List.length y16.Types) ca18_4), (Value.slice Aa18_5 (List.length y16.Args) ca18_5), (Value.slice Aa18_6 (List.length y16.Arms) ca18_6), (Value.int .i64 y16.At)] 71 := o34
    have S36 := S26.then t35 (fun i _ hi => o24.wr i hi)
    have o37 := o30.step T_api_Expr.T t35 (d28).symm
    have o38 := o31.step T_api_Expr.T t35 (d29).symm
    obtain ⟨l39, g40, e⟩ := bind_e e
    have q41 := sls_e g40
    refine ⟨q41.1, q41.2.1, cap_in q41.2.2.1 o37.cap, ?_⟩
    try rw [q41.2.2.2.1]
    refine ⟨_, ldA (Sub.refl _) o34.all, ?_⟩
    refine ⟨[(Value.int .i64 y16.Kind), (Value.int .i64 y16.Num), (Value.string y16.Text), (Value.slice Aa18_3 (List.length y16.Names) ca18_3), (Value.slice Aa18_4 (List.length y16.Types) ca18_4), (Value.slice Aa18_5 (List.length y16.Args) ca18_5), (Value.slice Aa18_6 (List.length y16.Arms) ca18_6), (Value.int .i64 y16.At)], rfl, rfl, ?_⟩
    refine new_in S36 fun h42 o43 x44 => ?_
    have d47 : Dj (fp A3 c3) (fb (Array.size h32)) := Dj.new o37.lt
    have d48 : Dj (fp A4 c4) (fb (Array.size h32)) := Dj.new o38.lt
    have d49 : Dj (fb (Array.size h)) (fb (Array.size h32)) := Dj.new o34.lt
    have o50 := o37.ext T_api_Expr.T S36.s x44
    have o51 := o38.ext T_api_Expr.T S36.s x44
    have o52 := o34.ext x44
    have S45 := S36.ext' x44
    have o43 : OB _ _ h42 _ (Array.size h32) [(Value.int .i64 y16.Kind), (Value.int .i64 y16.Num), (Value.string y16.Text), (Value.slice Aa18_3 (List.length y16.Names) ca18_3), (Value.slice Aa18_4 (List.length y16.Types) ca18_4), (Value.slice Aa18_5 (List.length y16.Args) ca18_5), (Value.slice Aa18_6 (List.length y16.Arms) ca18_6), (Value.int .i64 y16.At)] 71 := o43
    have o53 : OS _ _ 8 T_api_Expr.E h42 m (some ⟨(Array.size h32), 0, none⟩) ([y16] : List T_api_Expr) 1 := OB.row o43 (CsE.cons (c1 := [(Value.int .i64 y16.Kind), (Value.int .i64 y16.Num), (Value.string y16.Text), (Value.slice Aa18_3 (List.length y16.Names) ca18_3), (Value.slice Aa18_4 (List.length y16.Types) ca18_4), (Value.slice Aa18_5 (List.length y16.Args) ca18_5), (Value.slice Aa18_6 (List.length y16.Arms) ca18_6), (Value.int .i64 y16.At)]) (T_api_Expr.iff.2 ⟨_, _, _, _, _, _, _, _, rfl, ka18_3, ra18_3, ka18_4, ra18_4, ka18_5, ra18_5, ka18_6, ra18_6⟩) rfl CsE.nil) rfl
    obtain ⟨l54, g55, e⟩ := bind_e e
    refine o51.app T_api_Expr.T S45 rfl rfl (o53.srcE rfl) (by decide) g55 fun A56 c57 h58 o59 t60 n61 => ?_
    refine ⟨_, _, _, rfl, ?_⟩
    have d63 : Dj (fp A3 c3) (fp A56 c57) := Dj.app d0_1 o50.lt n61
    have d64 : Dj (fb (Array.size h)) (fp A56 c57) := Dj.app (d29).symm o52.lt n61
    have d65 : Dj (fp (some ⟨(Array.size h32), 0, none⟩) 1) (fp A56 c57) := Dj.app ((d48.row)).symm o53.lt n61
    have S66 := S45.then t60 (fun i _ hi => o51.wr i hi)
    have o67 := o50.step T_api_Expr.T t60 (d0_1).symm
    have o68 := o52.step t60 d29
    have o69 := o53.step T_api_Expr.T t60 (d48.row)
    refine ⟨_, ldk (k := 6) (Sub.refl _) o68.all rfl, _, _, _, rfl, ?_⟩
    have o70 := (o67.sls g40 (le_mx q41.2.2.1 o67.cap) (Nat.le_refl _))
    exact (ih _ _ e) _ _ _ _ _ _ _ _ _ _ _ _ S66 rfl o70 rfl o59 o68 (T_api_Expr.iff.2 ⟨_, _, _, _, _, _, _, _, rfl, ka18_3, ra18_3, ka18_4, ra18_4, ka18_5, ra18_5, ka18_6, ra18_6⟩) ((((d63).symm).sl (Nat.le_refl _))).symm ((((d28).symm).sl (Nat.le_refl _))).symm (d64).symm
  · cases e
    exact ⟨_, _, _, _, S, rfl, rfl, o4⟩
set_option maxRecDepth 100000 in
theorem roadref2_All.l0_k.step_l1 (go : (p : roadref2_All.l0_k.Pt) → Option ((List T_api_Expr))) (ih : ∀ p r, go p = some r → roadref2_All.l0_k.I p r) (a3 : List T_api_Expr) (a4 : List T_api_Expr) (y5 : T_api_Expr) (x6 : Int) (r : (List T_api_Expr)) (e : roadref2_All.l0_k.body go (.l1 a3 a4 y5 x6) = some r) : roadref2_All.l0_k.I (.l1 a3 a4 y5 x6) r := by
  unfold roadref2_All.l0_k.body at e
  intro h0 m0 h m A3 n3 c3 A4 n4 c4 bk5 cs5 S ne3 o3 ne4 o4 o5 e5 d0_1 d0_2 d1_2
  subst ne3
  subst ne4
  obtain ⟨Ae5_3, ce5_3, Ae5_4, ce5_4, Ae5_5, ce5_5, Ae5_6, ce5_6, rfl, ke5_3, re5_3, ke5_4, re5_4, ke5_5, re5_5, ke5_6, re5_6⟩ := T_api_Expr.iff.1 e5
  refine f90.l1_in ?_
  unfold f90.l1T
  refine split_dec_e e (fun c108 e => ?_) (fun c108 e => ?_)
  · refine ⟨_, ldk (k := 6) (Sub.refl _) o5.all rfl, _, _, _, rfl, ?_⟩
    obtain ⟨y73, g74, e⟩ := bind_e e
    refine re5_6.addr rfl g74 fun a75 cs76 ha77 hc78 he79 => ?_
    obtain ⟨Aa75_3, ca75_3, Aa75_7, ca75_7, Aa75_8, ca75_8, Aa75_9, ca75_9, Aa75_10, ca75_10, rfl, ka75_3, ra75_3, ka75_7, ra75_7, ka75_8, ra75_8, ka75_9, ra75_9, ka75_10, ra75_10⟩ := T_api_Arm.iff.1 he79
    refine ⟨(Value.agg #[(Value.int .i64 y73.Body.Kind), (Value.int .i64 y73.Body.Num), (Value.string y73.Body.Text), (Value.slice Aa75_7 (List.length y73.Body.Names) ca75_7), (Value.slice Aa75_8 (List.length y73.Body.Types) ca75_8), (Value.slice Aa75_9 (List.length y73.Body.Args) ca75_9), (Value.slice Aa75_10 (List.length y73.Body.Arms) ca75_10), (Value.int .i64 y73.Body.At)]), ldAk (k := 4) (j := 8) S.s hc78 (Nat.le_of_ble_eq_true rfl), ?_⟩
    refine ⟨[(Value.int .i64 y73.Body.Kind), (Value.int .i64 y73.Body.Num), (Value.string y73.Body.Text), (Value.slice Aa75_7 (List.length y73.Body.Names) ca75_7), (Value.slice Aa75_8 (List.length y73.Body.Types) ca75_8), (Value.slice Aa75_9 (List.length y73.Body.Args) ca75_9), (Value.slice Aa75_10 (List.length y73.Body.Arms) ca75_10), (Value.int .i64 y73.Body.At)], rfl, rfl, ?_⟩
    refine new_in S fun h80 o81 x82 => ?_
    have d85 : Dj (fp A3 c3) (fb (Array.size h)) := Dj.new o3.lt
    have d86 : Dj (fp A4 c4) (fb (Array.size h)) := Dj.new o4.lt
    have d87 : Dj (fb bk5) (fb (Array.size h)) := Dj.new o5.lt
    have o88 := o3.ext T_api_Expr.T S.s x82
    have o89 := o4.ext T_api_Expr.T S.s x82
    have o90 := o5.ext x82
    have S83 := S.ext' x82
    have o81 : OB _ _ h80 _ (Array.size h) [(Value.int .i64 y73.Body.Kind), (Value.int .i64 y73.Body.Num), (Value.string y73.Body.Text), (Value.slice Aa75_7 (List.length y73.Body.Names) ca75_7), (Value.slice Aa75_8 (List.length y73.Body.Types) ca75_8), (Value.slice Aa75_9 (List.length y73.Body.Args) ca75_9), (Value.slice Aa75_10 (List.length y73.Body.Arms) ca75_10), (Value.int .i64 y73.Body.At)] 71 := o81
    have o91 : OS _ _ 8 T_api_Expr.E h80 m (some ⟨(Array.size h), 0, none⟩) ([y73.Body] : List T_api_Expr) 1 := OB.row o81 (CsE.cons (c1 := [(Value.int .i64 y73.Body.Kind), (Value.int .i64 y73.Body.Num), (Value.string y73.Body.Text), (Value.slice Aa75_7 (List.length y73.Body.Names) ca75_7), (Value.slice Aa75_8 (List.length y73.Body.Types) ca75_8), (Value.slice Aa75_9 (List.length y73.Body.Args) ca75_9), (Value.slice Aa75_10 (List.length y73.Body.Arms) ca75_10), (Value.int .i64 y73.Body.At)]) (T_api_Expr.iff.2 ⟨_, _, _, _, _, _, _, _, rfl, ka75_7, ra75_7, ka75_8, ra75_8, ka75_9, ra75_9, ka75_10, ra75_10⟩) rfl CsE.nil) rfl
    obtain ⟨l92, g93, e⟩ := bind_e e
    refine o88.app T_api_Expr.T S83 rfl rfl (o91.srcE rfl) (by decide) g93 fun A94 c95 h96 o97 t98 n99 => ?_
    refine ⟨_, _, _, rfl, ?_⟩
    have d101 : Dj (fp A4 c4) (fp A94 c95) := Dj.app (d0_1).symm o89.lt n99
    have d102 : Dj (fb bk5) (fp A94 c95) := Dj.app (d0_2).symm o90.lt n99
    have d103 : Dj (fp (some ⟨(Array.size h), 0, none⟩) 1) (fp A94 c95) := Dj.app ((d85.row)).symm o91.lt n99
    have S104 := S83.then t98 (fun i _ hi => o88.wr i hi)
    have o105 := o89.step T_api_Expr.T t98 d0_1
    have o106 := o90.step t98 d0_2
    have o107 := o91.step T_api_Expr.T t98 (d85.row)
    exact (ih _ _ e) _ _ _ _ _ _ _ _ _ _ _ _ S104 rfl o97 rfl o105 o106 (T_api_Expr.iff.2 ⟨_, _, _, _, _, _, _, _, rfl, ke5_3, re5_3, ke5_4, re5_4, ke5_5, re5_5, ke5_6, re5_6⟩) (d101).symm (d102).symm d1_2
  · refine ⟨_, ldk (k := 5) (Sub.refl _) o5.all rfl, _, _, _, rfl, ?_⟩
    exact (ih _ _ e) _ _ _ _ _ _ _ _ _ _ _ _ S rfl o3 rfl o4 o5 (T_api_Expr.iff.2 ⟨_, _, _, _, _, _, _, _, rfl, ke5_3, re5_3, ke5_4, re5_4, ke5_5, re5_5, ke5_6, re5_6⟩) d0_1 d0_2 d1_2
set_option maxRecDepth 100000 in
theorem roadref2_All.l0_k.step_l2 (go : (p : roadref2_All.l0_k.Pt) → Option ((List T_api_Expr))) (ih : ∀ p r, go p = some r → roadref2_All.l0_k.I p r) (a3 : List T_api_Expr) (a4 : List T_api_Expr) (y5 : T_api_Expr) (x7 : Int) (r : (List T_api_Expr)) (e : roadref2_All.l0_k.body go (.l2 a3 a4 y5 x7) = some r) : roadref2_All.l0_k.I (.l2 a3 a4 y5 x7) r := by
  unfold roadref2_All.l0_k.body at e
  intro h0 m0 h m A3 n3 c3 A4 n4 c4 bk5 cs5 S ne3 o3 ne4 o4 o5 e5 d0_1 d0_2 d1_2
  subst ne3
  subst ne4
  obtain ⟨Ae5_3, ce5_3, Ae5_4, ce5_4, Ae5_5, ce5_5, Ae5_6, ce5_6, rfl, ke5_3, re5_3, ke5_4, re5_4, ke5_5, re5_5, ke5_6, re5_6⟩ := T_api_Expr.iff.1 e5
  refine f90.l2_in ?_
  unfold f90.l2T
  refine split_dec_e e (fun c144 e => ?_) (fun c144 e => ?_)
  · refine ⟨_, ldk (k := 5) (Sub.refl _) o5.all rfl, _, _, _, rfl, ?_⟩
    obtain ⟨y109, g110, e⟩ := bind_e e
    refine re5_5.addr rfl g110 fun a111 cs112 ha113 hc114 he115 => ?_
    obtain ⟨Aa111_3, ca111_3, Aa111_4, ca111_4, Aa111_5, ca111_5, Aa111_6, ca111_6, rfl, ka111_3, ra111_3, ka111_4, ra111_4, ka111_5, ra111_5, ka111_6, ra111_6⟩ := T_api_Expr.iff.1 he115
    refine ⟨_, ldA S.s hc114, ?_⟩
    refine ⟨[(Value.int .i64 y109.Kind), (Value.int .i64 y109.Num), (Value.string y109.Text), (Value.slice Aa111_3 (List.length y109.Names) ca111_3), (Value.slice Aa111_4 (List.length y109.Types) ca111_4), (Value.slice Aa111_5 (List.length y109.Args) ca111_5), (Value.slice Aa111_6 (List.length y109.Arms) ca111_6), (Value.int .i64 y109.At)], rfl, rfl, ?_⟩
    refine new_in S fun h116 o117 x118 => ?_
    have d121 : Dj (fp A3 c3) (fb (Array.size h)) := Dj.new o3.lt
    have d122 : Dj (fp A4 c4) (fb (Array.size h)) := Dj.new o4.lt
    have d123 : Dj (fb bk5) (fb (Array.size h)) := Dj.new o5.lt
    have o124 := o3.ext T_api_Expr.T S.s x118
    have o125 := o4.ext T_api_Expr.T S.s x118
    have o126 := o5.ext x118
    have S119 := S.ext' x118
    have o117 : OB _ _ h116 _ (Array.size h) [(Value.int .i64 y109.Kind), (Value.int .i64 y109.Num), (Value.string y109.Text), (Value.slice Aa111_3 (List.length y109.Names) ca111_3), (Value.slice Aa111_4 (List.length y109.Types) ca111_4), (Value.slice Aa111_5 (List.length y109.Args) ca111_5), (Value.slice Aa111_6 (List.length y109.Arms) ca111_6), (Value.int .i64 y109.At)] 71 := o117
    have o127 : OS _ _ 8 T_api_Expr.E h116 m (some ⟨(Array.size h), 0, none⟩) ([y109] : List T_api_Expr) 1 := OB.row o117 (CsE.cons (c1 := [(Value.int .i64 y109.Kind), (Value.int .i64 y109.Num), (Value.string y109.Text), (Value.slice Aa111_3 (List.length y109.Names) ca111_3), (Value.slice Aa111_4 (List.length y109.Types) ca111_4), (Value.slice Aa111_5 (List.length y109.Args) ca111_5), (Value.slice Aa111_6 (List.length y109.Arms) ca111_6), (Value.int .i64 y109.At)]) (T_api_Expr.iff.2 ⟨_, _, _, _, _, _, _, _, rfl, ka111_3, ra111_3, ka111_4, ra111_4, ka111_5, ra111_5, ka111_6, ra111_6⟩) rfl CsE.nil) rfl
    obtain ⟨l128, g129, e⟩ := bind_e e
    refine o124.app T_api_Expr.T S119 rfl rfl (o127.srcE rfl) (by decide) g129 fun A130 c131 h132 o133 t134 n135 => ?_
    refine ⟨_, _, _, rfl, ?_⟩
    have d137 : Dj (fp A4 c4) (fp A130 c131) := Dj.app (d0_1).symm o125.lt n135
    have d138 : Dj (fb bk5) (fp A130 c131) := Dj.app (d0_2).symm o126.lt n135
    have d139 : Dj (fp (some ⟨(Array.size h), 0, none⟩) 1) (fp A130 c131) := Dj.app ((d121.row)).symm o127.lt n135
    have S140 := S119.then t134 (fun i _ hi => o124.wr i hi)
    have o141 := o125.step T_api_Expr.T t134 d0_1
    have o142 := o126.step t134 d0_2
    have o143 := o127.step T_api_Expr.T t134 (d121.row)
    exact (ih _ _ e) _ _ _ _ _ _ _ _ _ _ _ _ S140 rfl o133 rfl o141 o142 (T_api_Expr.iff.2 ⟨_, _, _, _, _, _, _, _, rfl, ke5_3, re5_3, ke5_4, re5_4, ke5_5, re5_5, ke5_6, re5_6⟩) (d137).symm (d138).symm d1_2
  · exact (ih _ _ e) _ _ _ _ _ _ _ _ _ _ S rfl o3 rfl o4 d0_1
theorem roadref2_All.l0_k.all {p : roadref2_All.l0_k.Pt} {r : ((List T_api_Expr))} (e : roadref2_All.l0_k.go p = some r) : roadref2_All.l0_k.I p r := fixF_ind (β := fun _ => ((List T_api_Expr))) roadref2_All.l0_k.mono (I := roadref2_All.l0_k.I) (fun go ih p r e => match p with
  | .l0 a3 a4 => roadref2_All.l0_k.step_l0 go ih a3 a4 r e
  | .l1 a3 a4 y5 x6 => roadref2_All.l0_k.step_l1 go ih a3 a4 y5 x6 r e
  | .l2 a3 a4 y5 x7 => roadref2_All.l0_k.step_l2 go ih a3 a4 y5 x7 r e
  ) e
theorem roadref2_All.l0.walk {h0 m0 h m : Heap} {A3 : Option Addr} {n3 c3 : Nat} {A4 : Option Addr} {n4 c4 : Nat} {a3 : List T_api_Expr} {a4 : List T_api_Expr} (S : St No h0 m0 h m) (ne3 : n3 = List.length a3) (o3 : OS No h0 8 T_api_Expr.E h m A3 a3 c3) (ne4 : n4 = List.length a4) (o4 : OS No h0 8 T_api_Expr.E h m A4 a4 c4) (d0_1 : Dj (fp A3 c3) (fp A4 c4)) {r : (List T_api_Expr)} (e : roadref2_All.l0 a3 a4 = some r) : f90.l0 (roadref2_All.post No h0 m0 r) A3 n3 c3 A4 n4 c4 h := roadref2_All.l0_k.all (p := .l0 a3 a4) e h0 m0 h m A3 n3 c3 A4 n4 c4 S ne3 o3 ne4 o4 d0_1
theorem roadref2_All.l1.walk {h0 m0 h m : Heap} {A3 : Option Addr} {n3 c3 : Nat} {A4 : Option Addr} {n4 c4 : Nat} {bk5 : Nat} {cs5 : List Value} {a3 : List T_api_Expr} {a4 : List T_api_Expr} {y5 : T_api_Expr} {x6 : Int} (S : St No h0 m0 h m) (ne3 : n3 = List.length a3) (o3 : OS No h0 8 T_api_Expr.E h m A3 a3 c3) (ne4 : n4 = List.length a4) (o4 : OS No h0 8 T_api_Expr.E h m A4 a4 c4) (o5 : OB No h0 h m bk5 cs5 71) (e5 : T_api_Expr.E m y5 cs5) (d0_1 : Dj (fp A3 c3) (fp A4 c4)) (d0_2 : Dj (fp A3 c3) (fb bk5)) (d1_2 : Dj (fp A4 c4) (fb bk5)) {r : (List T_api_Expr)} (e : roadref2_All.l1 a3 a4 y5 x6 = some r) : f90.l1 (roadref2_All.post No h0 m0 r) A3 n3 c3 A4 n4 c4 (⟨bk5, 0, none⟩ : Addr) x6 h := roadref2_All.l0_k.all (p := .l1 a3 a4 y5 x6) e h0 m0 h m A3 n3 c3 A4 n4 c4 bk5 cs5 S ne3 o3 ne4 o4 o5 e5 d0_1 d0_2 d1_2
theorem roadref2_All.l2.walk {h0 m0 h m : Heap} {A3 : Option Addr} {n3 c3 : Nat} {A4 : Option Addr} {n4 c4 : Nat} {bk5 : Nat} {cs5 : List Value} {a3 : List T_api_Expr} {a4 : List T_api_Expr} {y5 : T_api_Expr} {x7 : Int} (S : St No h0 m0 h m) (ne3 : n3 = List.length a3) (o3 : OS No h0 8 T_api_Expr.E h m A3 a3 c3) (ne4 : n4 = List.length a4) (o4 : OS No h0 8 T_api_Expr.E h m A4 a4 c4) (o5 : OB No h0 h m bk5 cs5 71) (e5 : T_api_Expr.E m y5 cs5) (d0_1 : Dj (fp A3 c3) (fp A4 c4)) (d0_2 : Dj (fp A3 c3) (fb bk5)) (d1_2 : Dj (fp A4 c4) (fb bk5)) {r : (List T_api_Expr)} (e : roadref2_All.l2 a3 a4 y5 x7 = some r) : f90.l2 (roadref2_All.post No h0 m0 r) A3 n3 c3 A4 n4 c4 (⟨bk5, 0, none⟩ : Addr) x7 h := roadref2_All.l0_k.all (p := .l2 a3 a4 y5 x7) e h0 m0 h m A3 n3 c3 A4 n4 c4 bk5 cs5 S ne3 o3 ne4 o4 o5 e5 d0_1 d0_2 d1_2

noncomputable def roadref2_All (y0 : T_api_Expr) : Option ((List T_api_Expr)) :=
  (roadref2_All.l0 ([y0] : List T_api_Expr) ([] : List T_api_Expr))
set_option maxRecDepth 100000 in
theorem roadref2_All.walk {h m : Heap} {cs0 : List Value} {y0 : T_api_Expr} (s : Sub m h) (e0 : T_api_Expr.E m y0 cs0) {r : (List T_api_Expr)} (e : roadref2_All y0 = some r) : Run Try.prog 90 #[Value.agg cs0.toArray] h (roadref2_All.post No h m r) := by
  unfold roadref2_All at e
  obtain ⟨Ae0_3, ce0_3, Ae0_4, ce0_4, Ae0_5, ce0_5, Ae0_6, ce0_6, rfl, ke0_3, re0_3, ke0_4, re0_4, ke0_5, re0_5, ke0_6, re0_6⟩ := T_api_Expr.iff.1 e0
  have S : St No h m h m := .refl s
  refine f90.run ?_
  unfold f90.runT
  refine new_in S fun h1 o2 x3 => ?_
  have S4 := S.ext' x3
  have o2 : OB _ _ h1 _ (Array.size h) [(Value.int .i64 y0.Kind), (Value.int .i64 y0.Num), (Value.string y0.Text), (Value.slice Ae0_3 (List.length y0.Names) ce0_3), (Value.slice Ae0_4 (List.length y0.Types) ce0_4), (Value.slice Ae0_5 (List.length y0.Args) ce0_5), (Value.slice Ae0_6 (List.length y0.Arms) ce0_6), (Value.int .i64 y0.At)] 71 := o2
  refine ⟨_, ldA (Sub.refl _) o2.all, ?_⟩
  refine ⟨[(Value.int .i64 y0.Kind), (Value.int .i64 y0.Num), (Value.string y0.Text), (Value.slice Ae0_3 (List.length y0.Names) ce0_3), (Value.slice Ae0_4 (List.length y0.Types) ce0_4), (Value.slice Ae0_5 (List.length y0.Args) ce0_5), (Value.slice Ae0_6 (List.length y0.Arms) ce0_6), (Value.int .i64 y0.At)], rfl, rfl, ?_⟩
  refine new_in S4 fun h6 o7 x8 => ?_
  have d11 : Dj (fb (Array.size h)) (fb (Array.size h1)) := Dj.new o2.lt
  have o12 := o2.ext x8
  have S9 := S4.ext' x8
  have o7 : OB _ _ h6 _ (Array.size h1) [(Value.int .i64 y0.Kind), (Value.int .i64 y0.Num), (Value.string y0.Text), (Value.slice Ae0_3 (List.length y0.Names) ce0_3), (Value.slice Ae0_4 (List.length y0.Types) ce0_4), (Value.slice Ae0_5 (List.length y0.Args) ce0_5), (Value.slice Ae0_6 (List.length y0.Arms) ce0_6), (Value.int .i64 y0.At)] 71 := o7
  have o13 : OS _ _ 8 T_api_Expr.E h6 m (some ⟨(Array.size h1), 0, none⟩) ([y0] : List T_api_Expr) 1 := OB.row o7 (CsE.cons (c1 := [(Value.int .i64 y0.Kind), (Value.int .i64 y0.Num), (Value.string y0.Text), (Value.slice Ae0_3 (List.length y0.Names) ce0_3), (Value.slice Ae0_4 (List.length y0.Types) ce0_4), (Value.slice Ae0_5 (List.length y0.Args) ce0_5), (Value.slice Ae0_6 (List.length y0.Arms) ce0_6), (Value.int .i64 y0.At)]) (T_api_Expr.iff.2 ⟨_, _, _, _, _, _, _, _, rfl, ke0_3, re0_3, ke0_4, re0_4, ke0_5, re0_5, ke0_6, re0_6⟩) rfl CsE.nil) rfl
  have o15 : OS No h 8 T_api_Expr.E h6 m none ([] : List T_api_Expr) 0 := .inl ⟨rfl, rfl⟩
  exact roadref2_All.l0.walk S9 rfl o13 rfl o15 (show Dj (fp (some ⟨(Array.size h1), 0, none⟩) 1) (fp none 0) from Dj.nil) e

/-! ### 134 roadstead/roadref2.pats -/
def roadref2_pats.post (W : Nat → Prop) (h0 m0 : Heap) (r : (List T_api_Pat)) (v : Value) (h : Heap) : Prop := ∃ m A0 n0 c0, St W h0 m0 h m ∧ v = .slice A0 n0 c0 ∧ n0 = r.length ∧ OS W h0 4 T_api_Pat.E h m A0 r c0
inductive roadref2_pats.l0_k.Pt where
  | l0 (a3 : List T_api_Pat) (x4 : Int)
noncomputable def roadref2_pats.l0_k.body (go : (p : roadref2_pats.l0_k.Pt) → Option ((List T_api_Pat))) : (p : roadref2_pats.l0_k.Pt) → Option ((List T_api_Pat))
  | .l0 a3 x4 => if x4 < (((List.length a3) : Nat) : Int) then (Option.bind (gi a3 x4) fun y14 => Option.bind (ap 56 a3 y14.Args) fun l21 => (go (.l0 l21 (IntKind.wrap .i64 (x4 + (1 : Int)))))) else (some (a3))
theorem roadref2_pats.l0_k.mono : MonoF (β := fun _ => ((List T_api_Pat))) roadref2_pats.l0_k.body := fun f g hfg p => match p with
  | .l0 a3 x4 => LeO.ite (LeO.bind (LeO.refl _) fun y14 => LeO.bind (LeO.refl _) fun l21 => (hfg _)) (LeO.refl _)
noncomputable def roadref2_pats.l0_k.go (p : roadref2_pats.l0_k.Pt) : Option ((List T_api_Pat)) := fixF (β := fun _ => ((List T_api_Pat))) roadref2_pats.l0_k.body p
noncomputable def roadref2_pats.l0 (a3 : List T_api_Pat) (x4 : Int) : Option ((List T_api_Pat)) := roadref2_pats.l0_k.go (.l0 a3 x4)
theorem roadref2_pats.l0_eq (a3 : List T_api_Pat) (x4 : Int) : roadref2_pats.l0 a3 x4 = if x4 < (((List.length a3) : Nat) : Int) then (Option.bind (gi a3 x4) fun y14 => Option.bind (ap 56 a3 y14.Args) fun l21 => (roadref2_pats.l0 l21 (IntKind.wrap .i64 (x4 + (1 : Int))))) else (some (a3)) := fixF_eq roadref2_pats.l0_k.mono _
def roadref2_pats.l0_k.I : (p : roadref2_pats.l0_k.Pt) → ((List T_api_Pat)) → Prop
  | .l0 a3 x4, r => ∀ (h0 m0 h m : Heap) (A3 : Option Addr) (n3 c3 : Nat) (S : St No h0 m0 h m) (ne3 : n3 = List.length a3) (o3 : OS No h0 4 T_api_Pat.E h m A3 a3 c3), f134.l0 (roadref2_pats.post No h0 m0 r) A3 n3 c3 x4 h
set_option maxRecDepth 100000 in
theorem roadref2_pats.l0_k.step_l0 (go : (p : roadref2_pats.l0_k.Pt) → Option ((List T_api_Pat))) (ih : ∀ p r, go p = some r → roadref2_pats.l0_k.I p r) (a3 : List T_api_Pat) (x4 : Int) (r : (List T_api_Pat)) (e : roadref2_pats.l0_k.body go (.l0 a3 x4) = some r) : roadref2_pats.l0_k.I (.l0 a3 x4) r := by
  unfold roadref2_pats.l0_k.body at e
  intro h0 m0 h m A3 n3 c3 S ne3 o3
  subst ne3
  refine f134.l0_in ?_
  unfold f134.l0T
  refine split_dec_e e (fun c31 e => ?_) (fun c31 e => ?_)
  · obtain ⟨y14, g15, e⟩ := bind_e e
    refine o3.addr rfl g15 fun a16 cs17 ha18 hc19 he20 => ?_
    obtain ⟨Aa16_3, ca16_3, rfl, ka16_3, ra16_3⟩ := T_api_Pat.iff.1 he20
    refine ⟨_, ldk (k := 3) (Sub.refl _) hc19 rfl, _, _, _, rfl, ?_⟩
    obtain ⟨l21, g22, e⟩ := bind_e e
    refine o3.app T_api_Pat.T S rfl rfl (Rd.srcE ra16_3 T_api_Pat.T S.s rfl) (by decide) g22 fun A23 c24 h25 o26 t27 n28 => ?_
    refine ⟨_, _, _, rfl, ?_⟩
    have S30 := S.then t27 (fun i _ hi => o3.wr i hi)
    exact (ih _ _ e) _ _ _ _ _ _ _ S30 rfl o26
  · cases e
    exact ⟨_, _, _, _, S, rfl, rfl, o3⟩
theorem roadref2_pats.l0_k.all {p : roadref2_pats.l0_k.Pt} {r : ((List T_api_Pat))} (e : roadref2_pats.l0_k.go p = some r) : roadref2_pats.l0_k.I p r := fixF_ind (β := fun _ => ((List T_api_Pat))) roadref2_pats.l0_k.mono (I := roadref2_pats.l0_k.I) (fun go ih p r e => match p with
  | .l0 a3 x4 => roadref2_pats.l0_k.step_l0 go ih a3 x4 r e
  ) e
theorem roadref2_pats.l0.walk {h0 m0 h m : Heap} {A3 : Option Addr} {n3 c3 : Nat} {a3 : List T_api_Pat} {x4 : Int} (S : St No h0 m0 h m) (ne3 : n3 = List.length a3) (o3 : OS No h0 4 T_api_Pat.E h m A3 a3 c3) {r : (List T_api_Pat)} (e : roadref2_pats.l0 a3 x4 = some r) : f134.l0 (roadref2_pats.post No h0 m0 r) A3 n3 c3 x4 h := roadref2_pats.l0_k.all (p := .l0 a3 x4) e h0 m0 h m A3 n3 c3 S ne3 o3

noncomputable def roadref2_pats (y0 : T_api_Pat) : Option ((List T_api_Pat)) :=
  (roadref2_pats.l0 ([y0] : List T_api_Pat) (0 : Int))
set_option maxRecDepth 100000 in
theorem roadref2_pats.walk {h m : Heap} {cs0 : List Value} {y0 : T_api_Pat} (s : Sub m h) (e0 : T_api_Pat.E m y0 cs0) {r : (List T_api_Pat)} (e : roadref2_pats y0 = some r) : Run Try.prog 134 #[Value.agg cs0.toArray] h (roadref2_pats.post No h m r) := by
  unfold roadref2_pats at e
  obtain ⟨Ae0_3, ce0_3, rfl, ke0_3, re0_3⟩ := T_api_Pat.iff.1 e0
  have S : St No h m h m := .refl s
  refine f134.run ?_
  unfold f134.runT
  refine new_in S fun h1 o2 x3 => ?_
  have S4 := S.ext' x3
  have o2 : OB _ _ h1 _ (Array.size h) [(Value.int .i64 y0.Kind), (Value.int .i64 y0.Num), (Value.string y0.Text), (Value.slice Ae0_3 (List.length y0.Args) ce0_3)] 244 := o2
  refine ⟨_, ldA (Sub.refl _) o2.all, ?_⟩
  refine ⟨[(Value.int .i64 y0.Kind), (Value.int .i64 y0.Num), (Value.string y0.Text), (Value.slice Ae0_3 (List.length y0.Args) ce0_3)], rfl, rfl, ?_⟩
  refine new_in S4 fun h6 o7 x8 => ?_
  have d11 : Dj (fb (Array.size h)) (fb (Array.size h1)) := Dj.new o2.lt
  have o12 := o2.ext x8
  have S9 := S4.ext' x8
  have o7 : OB _ _ h6 _ (Array.size h1) [(Value.int .i64 y0.Kind), (Value.int .i64 y0.Num), (Value.string y0.Text), (Value.slice Ae0_3 (List.length y0.Args) ce0_3)] 244 := o7
  have o13 : OS _ _ 4 T_api_Pat.E h6 m (some ⟨(Array.size h1), 0, none⟩) ([y0] : List T_api_Pat) 1 := OB.row o7 (CsE.cons (c1 := [(Value.int .i64 y0.Kind), (Value.int .i64 y0.Num), (Value.string y0.Text), (Value.slice Ae0_3 (List.length y0.Args) ce0_3)]) (T_api_Pat.iff.2 ⟨_, _, rfl, ke0_3, re0_3⟩) rfl CsE.nil) rfl
  exact roadref2_pats.l0.walk S9 rfl o13 e

/-! ### 86 roadstead/roadref2.SizeOf -/
def roadref2_SizeOf.post (W : Nat → Prop) (h0 m0 : Heap) (r : Int) (v : Value) (h : Heap) : Prop := ∃ m , St W h0 m0 h m ∧ v = .int .i64 r
inductive roadref2_SizeOf.l0_k.Pt where
  | l0 (x3 : Int) (a9 : List T_api_Expr) (x10 : Int) (x11 : Int)
  | l1 (x3 : Int) (a9 : List T_api_Expr) (x10 : Int) (x11 : Int) (a18 : List T_api_Arm) (x19 : Int) (x20 : Int)
noncomputable def roadref2_SizeOf.l0_k.body (go : (p : roadref2_SizeOf.l0_k.Pt) → Option (Int)) : (p : roadref2_SizeOf.l0_k.Pt) → Option (Int)
  | .l0 x3 a9 x10 x11 => if x11 < x10 then (Option.bind (gi a9 x11) fun y21 => (go (.l1 (IntKind.wrap .i64 (x3 + (1 : Int))) a9 x10 x11 y21.Arms (((List.length y21.Arms) : Nat) : Int) (0 : Int)))) else (some (x3))
  | .l1 x3 a9 x10 x11 a18 x19 x20 => if x20 < x19 then (Option.bind (gi a18 x20) fun y42 => Option.bind (roadref2_pats y42.Pat) fun y62 => (go (.l1 (IntKind.wrap .i64 (x3 + (((List.length y62) : Nat) : Int))) a9 x10 x11 a18 x19 (IntKind.wrap .i64 (x20 + (1 : Int)))))) else ((go (.l0 x3 a9 x10 (IntKind.wrap .i64 (x11 + (1 : Int))))))
theorem roadref2_SizeOf.l0_k.mono : MonoF (β := fun _ => (Int)) roadref2_SizeOf.l0_k.body := fun f g hfg p => match p with
  | .l0 x3 a9 x10 x11 => LeO.ite (LeO.bind (LeO.refl _) fun y21 => (hfg _)) (LeO.refl _)
  | .l1 x3 a9 x10 x11 a18 x19 x20 => LeO.ite (LeO.bind (LeO.refl _) fun y42 => LeO.bind (LeO.refl _) fun y62 => (hfg _)) ((hfg _))
noncomputable def roadref2_SizeOf.l0_k.go (p : roadref2_SizeOf.l0_k.Pt) : Option (Int) := fixF (β := fun _ => (Int)) roadref2_SizeOf.l0_k.body p
noncomputable def roadref2_SizeOf.l0 (x3 : Int) (a9 : List T_api_Expr) (x10 : Int) (x11 : Int) : Option (Int) := roadref2_SizeOf.l0_k.go (.l0 x3 a9 x10 x11)
noncomputable def roadref2_SizeOf.l1 (x3 : Int) (a9 : List T_api_Expr) (x10 : Int) (x11 : Int) (a18 : List T_api_Arm) (x19 : Int) (x20 : Int) : Option (Int) := roadref2_SizeOf.l0_k.go (.l1 x3 a9 x10 x11 a18 x19 x20)
theorem roadref2_SizeOf.l0_eq (x3 : Int) (a9 : List T_api_Expr) (x10 : Int) (x11 : Int) : roadref2_SizeOf.l0 x3 a9 x10 x11 = if x11 < x10 then (Option.bind (gi a9 x11) fun y21 => (roadref2_SizeOf.l1 (IntKind.wrap .i64 (x3 + (1 : Int))) a9 x10 x11 y21.Arms (((List.length y21.Arms) : Nat) : Int) (0 : Int))) else (some (x3)) := fixF_eq roadref2_SizeOf.l0_k.mono _
theorem roadref2_SizeOf.l1_eq (x3 : Int) (a9 : List T_api_Expr) (x10 : Int) (x11 : Int) (a18 : List T_api_Arm) (x19 : Int) (x20 : Int) : roadref2_SizeOf.l1 x3 a9 x10 x11 a18 x19 x20 = if x20 < x19 then (Option.bind (gi a18 x20) fun y42 => Option.bind (roadref2_pats y42.Pat) fun y62 => (roadref2_SizeOf.l1 (IntKind.wrap .i64 (x3 + (((List.length y62) : Nat) : Int))) a9 x10 x11 a18 x19 (IntKind.wrap .i64 (x20 + (1 : Int))))) else ((roadref2_SizeOf.l0 x3 a9 x10 (IntKind.wrap .i64 (x11 + (1 : Int))))) := fixF_eq roadref2_SizeOf.l0_k.mono _
def roadref2_SizeOf.l0_k.I : (p : roadref2_SizeOf.l0_k.Pt) → (Int) → Prop
  | .l0 x3 a9 x10 x11, r => ∀ (h0 m0 h m : Heap) (A9 : Option Addr) (n9 c9 : Nat) (S : St No h0 m0 h m) (ne9 : n9 = List.length a9) (o9 : OS No h0 8 T_api_Expr.E h m A9 a9 c9), f86.l0 (roadref2_SizeOf.post No h0 m0 r) x3 A9 n9 c9 x10 x11 h
  | .l1 x3 a9 x10 x11 a18 x19 x20, r => ∀ (h0 m0 h m : Heap) (A9 : Option Addr) (n9 c9 : Nat) (A18 : Option Addr) (n18 c18 : Nat) (S : St No h0 m0 h m) (ne9 : n9 = List.length a9) (o9 : OS No h0 8 T_api_Expr.E h m A9 a9 c9) (ne18 : n18 = List.length a18) (k18 : List.length a18 ≤ c18) (r18 : Rd 12 T_api_Arm.E m A18 a18), f86.l1 (roadref2_SizeOf.post No h0 m0 r) x3 A9 n9 c9 x10 x11 A18 n18 c18 x19 x20 h
set_option maxRecDepth 100000 in
theorem roadref2_SizeOf.l0_k.step_l0 (go : (p : roadref2_SizeOf.l0_k.Pt) → Option (Int)) (ih : ∀ p r, go p = some r → roadref2_SizeOf.l0_k.I p r) (x3 : Int) (a9 : List T_api_Expr) (x10 : Int) (x11 : Int) (r : Int) (e : roadref2_SizeOf.l0_k.body go (.l0 x3 a9 x10 x11) = some r) : roadref2_SizeOf.l0_k.I (.l0 x3 a9 x10 x11) r := by
  unfold roadref2_SizeOf.l0_k.body at e
  intro h0 m0 h m A9 n9 c9 S ne9 o9
  subst ne9
  refine f86.l0_in ?_
  unfold f86.l0T
  refine split_dec_e e (fun c41 e => ?_) (fun c41 e => ?_)
  · obtain ⟨y21, g22, e⟩ := bind_e e
    refine o9.addr rfl g22 fun a23 cs24 ha25 hc26 he27 => ?_
    obtain ⟨Aa23_3, ca23_3, Aa23_4, ca23_4, Aa23_5, ca23_5, Aa23_6, ca23_6, rfl, ka23_3, ra23_3, ka23_4, ra23_4, ka23_5, ra23_5, ka23_6, ra23_6⟩ := T_api_Expr.iff.1 he27
    refine ⟨_, ldA (Sub.refl _) hc26, ?_⟩
    refine new_in S fun h28 o29 x30 => ?_
    have d33 : Dj (fp A9 c9) (fb (Array.size h)) := Dj.new o9.lt
    have o34 := o9.ext T_api_Expr.T S.s x30
    have S31 := S.ext' x30
    have o29 : OB _ _ h28 _ (Array.size h) [(Value.int .i64 (0 : Int)), (Value.int .i64 (0 : Int)), (Value.string (ByteArray.mk #[])), (Value.slice none 0 0), (Value.slice none 0 0), (Value.slice none 0 0), (Value.slice none 0 0), (Value.int .i64 (0 : Int))] 71 := o29
    obtain ⟨h35, w36, o37, t38⟩ := o29.stA S31.s [(Value.int .i64 y21.Kind), (Value.int .i64 y21.Num), (Value.string y21.Text), (Value.slice Aa23_3 (List.length y21.Names) ca23_3), (Value.slice Aa23_4 (List.length y21.Types) ca23_4), (Value.slice Aa23_5 (List.length y21.Args) ca23_5), (Value.slice Aa23_6 (List.length y21.Arms) ca23_6), (Value.int .i64 y21.At)] rfl (Flats.cons trivial (Flats.cons trivial (Flats.cons trivial (Flats.cons trivial (Flats.cons trivial (Flats.cons trivial (Flats.cons trivial (Flats.cons trivial Flats.nil))))))))
    refine ⟨[(Value.int .i64 y21.Kind), (Value.int .i64 y21.Num), (Value.string y21.Text), (Value.slice Aa23_3 (List.length y21.Names) ca23_3), (Value.slice Aa23_4 (List.length y21.Types) ca23_4), (Value.slice Aa23_5 (List.length y21.Args) ca23_5), (Value.slice Aa23_6 (List.length y21.Arms) ca23_6), (Value.int .i64 y21.At)], rfl, rfl, h35, w36, ?_⟩
    have o37 : OB _ _ h35 _ (Array.size h) [(Value.int .i64 y21.Kind), (Value.int .i64 y21.Num), (Value.string y21.Text), (Value.slice Aa23_3 (List.length y21.Names) ca23_3), (Value.slice Aa23_4 (List.length y21.Types) ca23_4), (Value.slice Aa23_5 (List.length y21.Args) ca23_5), (Value.slice Aa23_6 (List.length y21.Arms) ca23_6), (Value.int .i64 y21.At)] 71 := o37
    have S39 := S31.then t38 (fun i _ hi => o29.wr i hi)
    have o40 := o34.step T_api_Expr.T t38 (d33).symm
    refine ⟨_, ldk (k := 6) (Sub.refl _) o37.all rfl, _, _, _, rfl, ?_⟩
    exact (ih _ _ e) _ _ _ _ _ _ _ _ _ _ S39 rfl o40 rfl ka23_6 ra23_6
  · cases e
    exact ⟨_, S, rfl⟩
set_option maxRecDepth 100000 in
theorem roadref2_SizeOf.l0_k.step_l1 (go : (p : roadref2_SizeOf.l0_k.Pt) → Option (Int)) (ih : ∀ p r, go p = some r → roadref2_SizeOf.l0_k.I p r) (x3 : Int) (a9 : List T_api_Expr) (x10 : Int) (x11 : Int) (a18 : List T_api_Arm) (x19 : Int) (x20 : Int) (r : Int) (e : roadref2_SizeOf.l0_k.body go (.l1 x3 a9 x10 x11 a18 x19 x20) = some r) : roadref2_SizeOf.l0_k.I (.l1 x3 a9 x10 x11 a18 x19 x20) r := by
  unfold roadref2_SizeOf.l0_k.body at e
  intro h0 m0 h m A9 n9 c9 A18 n18 c18 S ne9 o9 ne18 k18 r18
  subst ne9
  subst ne18
  refine f86.l1_in ?_
  unfold f86.l1T
  refine split_dec_e e (fun c79 e => ?_) (fun c79 e => ?_)
  · obtain ⟨y42, g43, e⟩ := bind_e e
    refine r18.addr rfl g43 fun a44 cs45 ha46 hc47 he48 => ?_
    obtain ⟨Aa44_3, ca44_3, Aa44_7, ca44_7, Aa44_8, ca44_8, Aa44_9, ca44_9, Aa44_10, ca44_10, rfl, ka44_3, ra44_3, ka44_7, ra44_7, ka44_8, ra44_8, ka44_9, ra44_9, ka44_10, ra44_10⟩ := T_api_Arm.iff.1 he48
    refine ⟨_, ldA S.s hc47, ?_⟩
    refine new_in S fun h49 o50 x51 => ?_
    have d54 : Dj (fp A9 c9) (fb (Array.size h)) := Dj.new o9.lt
    have o55 := o9.ext T_api_Expr.T S.s x51
    have S52 := S.ext' x51
    have o50 : OB _ _ h49 _ (Array.size h) [(Value.int .i64 (0 : Int)), (Value.int .i64 (0 : Int)), (Value.string (ByteArray.mk #[])), (Value.slice none 0 0), (Value.int .i64 (0 : Int)), (Value.int .i64 (0 : Int)), (Value.string (ByteArray.mk #[])), (Value.slice none 0 0), (Value.slice none 0 0), (Value.slice none 0 0), (Value.slice none 0 0), (Value.int .i64 (0 : Int))] 246 := o50
    obtain ⟨h56, w57, o58, t59⟩ := o50.stA S52.s [(Value.int .i64 y42.Pat.Kind), (Value.int .i64 y42.Pat.Num), (Value.string y42.Pat.Text), (Value.slice Aa44_3 (List.length y42.Pat.Args) ca44_3), (Value.int .i64 y42.Body.Kind), (Value.int .i64 y42.Body.Num), (Value.string y42.Body.Text), (Value.slice Aa44_7 (List.length y42.Body.Names) ca44_7), (Value.slice Aa44_8 (List.length y42.Body.Types) ca44_8), (Value.slice Aa44_9 (List.length y42.Body.Args) ca44_9), (Value.slice Aa44_10 (List.length y42.Body.Arms) ca44_10), (Value.int .i64 y42.Body.At)] rfl (Flats.cons trivial (Flats.cons trivial (Flats.cons trivial (Flats.cons trivial (Flats.cons trivial (Flats.cons trivial (Flats.cons trivial (Flats.cons trivial (Flats.cons trivial (Flats.cons trivial (Flats.cons trivial (Flats.cons trivial Flats.nil))))))))))))
    refine ⟨[(Value.int .i64 y42.Pat.Kind), (Value.int .i64 y42.Pat.Num), (Value.string y42.Pat.Text), (Value.slice Aa44_3 (List.length y42.Pat.Args) ca44_3), (Value.int .i64 y42.Body.Kind), (Value.int .i64 y42.Body.Num), (Value.string y42.Body.Text), (Value.slice Aa44_7 (List.length y42.Body.Names) ca44_7), (Value.slice Aa44_8 (List.length y42.Body.Types) ca44_8), (Value.slice Aa44_9 (List.length y42.Body.Args) ca44_9), (Value.slice Aa44_10 (List.length y42.Body.Arms) ca44_10), (Value.int .i64 y42.Body.At)], rfl, rfl, h56, w57, ?_⟩
    have o58 : OB _ _ h56 _ (Array.size h) [(Value.int .i64 y42.Pat.Kind), (Value.int .i64 y42.Pat.Num), (Value.string y42.Pat.Text), (Value.slice Aa44_3 (List.length y42.Pat.Args) ca44_3), (Value.int .i64 y42.Body.Kind), (Value.int .i64 y42.Body.Num), (Value.string y42.Body.Text), (Value.slice Aa44_7 (List.length y42.Body.Names) ca44_7), (Value.slice Aa44_8 (List.length y42.Body.Types) ca44_8), (Value.slice Aa44_9 (List.length y42.Body.Args) ca44_9), (Value.slice Aa44_10 (List.length y42.Body.Arms) ca44_10), (Value.int .i64 y42.Body.At)] 246 := o58
    have S60 := S52.then t59 (fun i _ hi => o50.wr i hi)
    have o61 := o55.step T_api_Expr.T t59 (d54).symm
    refine ⟨(Value.agg #[(Value.int .i64 y42.Pat.Kind), (Value.int .i64 y42.Pat.Num), (Value.string y42.Pat.Text), (Value.slice Aa44_3 (List.length y42.Pat.Args) ca44_3)]), ldAk (k := 0) (j := 4) (Sub.refl _) o58.all (Nat.le_of_ble_eq_true rfl), ?_⟩
    obtain ⟨y62, g63, e⟩ := bind_e e
    refine (roadref2_pats.walk S60.s (T_api_Pat.iff.2 ⟨_, _, rfl, ka44_3, ra44_3⟩) g63).mono ?_
    rintro _ h64 ⟨m65, A67, n68, c69, T66, rfl, ne70, o71⟩
    subst ne70
    have S73 := S60.grow T66
    have o74 := o61.step T_api_Expr.T T66 Dj.no
    have o75 := o58.step T66 Dj.no
    have d77 : Dj (fp A9 c9) (fp A67 c69) := fun i h1 h2 => absurd (o61.lt i h1) (Nat.not_lt.2 ((o71.new i h2).elim (fun h => h.elim) id))
    have d78 : Dj (fb (Array.size h)) (fp A67 c69) := fun i h1 h2 => absurd (o58.lt i h1) (Nat.not_lt.2 ((o71.new i h2).elim (fun h => h.elim) id))
    have o76 := o71.take S60 (fun _ h => h.elim)
    refine ⟨_, _, _, rfl, ?_⟩
    exact (ih _ _ e) _ _ _ _ _ _ _ _ _ _ S73 rfl o74 rfl k18 (r18.sub T_api_Arm.T T66.up)
  · exact (ih _ _ e) _ _ _ _ _ _ _ S rfl o9
theorem roadref2_SizeOf.l0_k.all {p : roadref2_SizeOf.l0_k.Pt} {r : (Int)} (e : roadref2_SizeOf.l0_k.go p = some r) : roadref2_SizeOf.l0_k.I p r := fixF_ind (β := fun _ => (Int)) roadref2_SizeOf.l0_k.mono (I := roadref2_SizeOf.l0_k.I) (fun go ih p r e => match p with
  | .l0 x3 a9 x10 x11 => roadref2_SizeOf.l0_k.step_l0 go ih x3 a9 x10 x11 r e
  | .l1 x3 a9 x10 x11 a18 x19 x20 => roadref2_SizeOf.l0_k.step_l1 go ih x3 a9 x10 x11 a18 x19 x20 r e
  ) e
theorem roadref2_SizeOf.l0.walk {h0 m0 h m : Heap} {A9 : Option Addr} {n9 c9 : Nat} {x3 : Int} {a9 : List T_api_Expr} {x10 : Int} {x11 : Int} (S : St No h0 m0 h m) (ne9 : n9 = List.length a9) (o9 : OS No h0 8 T_api_Expr.E h m A9 a9 c9) {r : Int} (e : roadref2_SizeOf.l0 x3 a9 x10 x11 = some r) : f86.l0 (roadref2_SizeOf.post No h0 m0 r) x3 A9 n9 c9 x10 x11 h := roadref2_SizeOf.l0_k.all (p := .l0 x3 a9 x10 x11) e h0 m0 h m A9 n9 c9 S ne9 o9
theorem roadref2_SizeOf.l1.walk {h0 m0 h m : Heap} {A9 : Option Addr} {n9 c9 : Nat} {A18 : Option Addr} {n18 c18 : Nat} {x3 : Int} {a9 : List T_api_Expr} {x10 : Int} {x11 : Int} {a18 : List T_api_Arm} {x19 : Int} {x20 : Int} (S : St No h0 m0 h m) (ne9 : n9 = List.length a9) (o9 : OS No h0 8 T_api_Expr.E h m A9 a9 c9) (ne18 : n18 = List.length a18) (k18 : List.length a18 ≤ c18) (r18 : Rd 12 T_api_Arm.E m A18 a18) {r : Int} (e : roadref2_SizeOf.l1 x3 a9 x10 x11 a18 x19 x20 = some r) : f86.l1 (roadref2_SizeOf.post No h0 m0 r) x3 A9 n9 c9 x10 x11 A18 n18 c18 x19 x20 h := roadref2_SizeOf.l0_k.all (p := .l1 x3 a9 x10 x11 a18 x19 x20) e h0 m0 h m A9 n9 c9 A18 n18 c18 S ne9 o9 ne18 k18 r18

noncomputable def roadref2_SizeOf (y0 : T_api_Expr) : Option (Int) :=
  Option.bind (roadref2_All y0) fun y6 => (roadref2_SizeOf.l0 (0 : Int) y6 (((List.length y6) : Nat) : Int) (0 : Int))
set_option maxRecDepth 100000 in
theorem roadref2_SizeOf.walk {h m : Heap} {cs0 : List Value} {y0 : T_api_Expr} (s : Sub m h) (e0 : T_api_Expr.E m y0 cs0) {r : Int} (e : roadref2_SizeOf y0 = some r) : Run Try.prog 86 #[Value.agg cs0.toArray] h (roadref2_SizeOf.post No h m r) := by
  unfold roadref2_SizeOf at e
  obtain ⟨Ae0_3, ce0_3, Ae0_4, ce0_4, Ae0_5, ce0_5, Ae0_6, ce0_6, rfl, ke0_3, re0_3, ke0_4, re0_4, ke0_5, re0_5, ke0_6, re0_6⟩ := T_api_Expr.iff.1 e0
  have S : St No h m h m := .refl s
  refine f86.run ?_
  unfold f86.runT
  refine new_in S fun h1 o2 x3 => ?_
  have S4 := S.ext' x3
  have o2 : OB _ _ h1 _ (Array.size h) [(Value.int .i64 y0.Kind), (Value.int .i64 y0.Num), (Value.string y0.Text), (Value.slice Ae0_3 (List.length y0.Names) ce0_3), (Value.slice Ae0_4 (List.length y0.Types) ce0_4), (Value.slice Ae0_5 (List.length y0.Args) ce0_5), (Value.slice Ae0_6 (List.length y0.Arms) ce0_6), (Value.int .i64 y0.At)] 71 := o2
  refine ⟨_, ldA (Sub.refl _) o2.all, ?_⟩
  obtain ⟨y6, g7, e⟩ := bind_e e
  refine (roadref2_All.walk S4.s (T_api_Expr.iff.2 ⟨_, _, _, _, _, _, _, _, rfl, ke0_3, re0_3, ke0_4, re0_4, ke0_5, re0_5, ke0_6, re0_6⟩) g7).mono ?_
  rintro _ h8 ⟨m9, A11, n12, c13, T10, rfl, ne14, o15⟩
  subst ne14
  have S17 := S4.grow T10
  have o18 := o2.step T10 Dj.no
  have d20 : Dj (fb (Array.size h)) (fp A11 c13) := fun i h1 h2 => absurd (o2.lt i h1) (Nat.not_lt.2 ((o15.new i h2).elim (fun h => h.elim) id))
  have o19 := o15.take S4 (fun _ h => h.elim)
  refine ⟨_, _, _, rfl, ?_⟩
  exact roadref2_SizeOf.l0.walk S17 rfl o19 e

/-! ### 25 roadstead/roadlaw2.small -/
def roadlaw2_small.post (W : Nat → Prop) (h0 m0 : Heap) (r : Bool) (v : Value) (h : Heap) : Prop := ∃ m , St W h0 m0 h m ∧ v = .bool r
inductive roadlaw2_small.l0_k.Pt where
  | l0 (x3 : Int) (a7 : List T_api_Expr) (x8 : Int) (x9 : Int)
noncomputable def roadlaw2_small.l0_k.body (go : (p : roadlaw2_small.l0_k.Pt) → Option (Bool)) : (p : roadlaw2_small.l0_k.Pt) → Option (Bool)
  | .l0 x3 a7 x8 x9 => if x9 < x8 then (Option.bind (gi a7 x9) fun y21 => Option.bind (roadref2_SizeOf y21) fun y41 => (go (.l0 (IntKind.wrap .i64 (x3 + y41)) a7 x8 (IntKind.wrap .i64 (x9 + (1 : Int)))))) else (some ((decide (x3 ≤ (400 : Int)))))
theorem roadlaw2_small.l0_k.mono : MonoF (β := fun _ => (Bool)) roadlaw2_small.l0_k.body := fun f g hfg p => match p with
  | .l0 x3 a7 x8 x9 => LeO.ite (LeO.bind (LeO.refl _) fun y21 => LeO.bind (LeO.refl _) fun y41 => (hfg _)) (LeO.refl _)
noncomputable def roadlaw2_small.l0_k.go (p : roadlaw2_small.l0_k.Pt) : Option (Bool) := fixF (β := fun _ => (Bool)) roadlaw2_small.l0_k.body p
noncomputable def roadlaw2_small.l0 (x3 : Int) (a7 : List T_api_Expr) (x8 : Int) (x9 : Int) : Option (Bool) := roadlaw2_small.l0_k.go (.l0 x3 a7 x8 x9)
theorem roadlaw2_small.l0_eq (x3 : Int) (a7 : List T_api_Expr) (x8 : Int) (x9 : Int) : roadlaw2_small.l0 x3 a7 x8 x9 = if x9 < x8 then (Option.bind (gi a7 x9) fun y21 => Option.bind (roadref2_SizeOf y21) fun y41 => (roadlaw2_small.l0 (IntKind.wrap .i64 (x3 + y41)) a7 x8 (IntKind.wrap .i64 (x9 + (1 : Int))))) else (some ((decide (x3 ≤ (400 : Int))))) := fixF_eq roadlaw2_small.l0_k.mono _
def roadlaw2_small.l0_k.I : (p : roadlaw2_small.l0_k.Pt) → (Bool) → Prop
  | .l0 x3 a7 x8 x9, r => ∀ (h0 m0 h m : Heap) (A7 : Option Addr) (n7 c7 : Nat) (S : St No h0 m0 h m) (ne7 : n7 = List.length a7) (o7 : OS No h0 8 T_api_Expr.E h m A7 a7 c7), f25.l0 (roadlaw2_small.post No h0 m0 r) x3 A7 n7 c7 x8 x9 h
set_option maxRecDepth 100000 in
theorem roadlaw2_small.l0_k.step_l0 (go : (p : roadlaw2_small.l0_k.Pt) → Option (Bool)) (ih : ∀ p r, go p = some r → roadlaw2_small.l0_k.I p r) (x3 : Int) (a7 : List T_api_Expr) (x8 : Int) (x9 : Int) (r : Bool) (e : roadlaw2_small.l0_k.body go (.l0 x3 a7 x8 x9) = some r) : roadlaw2_small.l0_k.I (.l0 x3 a7 x8 x9) r := by
  unfold roadlaw2_small.l0_k.body at e
  intro h0 m0 h m A7 n7 c7 S ne7 o7
  subst ne7
  refine f25.l0_in ?_
  unfold f25.l0T
  refine split_dec_e e (fun c49 e => ?_) (fun c49 e => ?_)
  · obtain ⟨y21, g22, e⟩ := bind_e e
    refine o7.addr rfl g22 fun a23 cs24 ha25 hc26 he27 => ?_
    obtain ⟨Aa23_3, ca23_3, Aa23_4, ca23_4, Aa23_5, ca23_5, Aa23_6, ca23_6, rfl, ka23_3, ra23_3, ka23_4, ra23_4, ka23_5, ra23_5, ka23_6, ra23_6⟩ := T_api_Expr.iff.1 he27
    refine ⟨_, ldA (Sub.refl _) hc26, ?_⟩
    refine new_in S fun h28 o29 x30 => ?_
    have d33 : Dj (fp A7 c7) (fb (Array.size h)) := Dj.new o7.lt
    have o34 := o7.ext T_api_Expr.T S.s x30
    have S31 := S.ext' x30
    have o29 : OB _ _ h28 _ (Array.size h) [(Value.int .i64 (0 : Int)), (Value.int .i64 (0 : Int)), (Value.string (ByteArray.mk #[])), (Value.slice none 0 0), (Value.slice none 0 0), (Value.slice none 0 0), (Value.slice none 0 0), (Value.int .i64 (0 : Int))] 71 := o29
    obtain ⟨h35, w36, o37, t38⟩ := o29.stA S31.s [(Value.int .i64 y21.Kind), (Value.int .i64 y21.Num), (Value.string y21.Text), (Value.slice Aa23_3 (List.length y21.Names) ca23_3), (Value.slice Aa23_4 (List.length y21.Types) ca23_4), (Value.slice Aa23_5 (List.length y21.Args) ca23_5), (Value.slice Aa23_6 (List.length y21.Arms) ca23_6), (Value.int .i64 y21.At)] rfl (Flats.cons trivial (Flats.cons trivial (Flats.cons trivial (Flats.cons trivial (Flats.cons trivial (Flats.cons trivial (Flats.cons trivial (Flats.cons trivial Flats.nil))))))))
    refine ⟨[(Value.int .i64 y21.Kind), (Value.int .i64 y21.Num), (Value.string y21.Text), (Value.slice Aa23_3 (List.length y21.Names) ca23_3), (Value.slice Aa23_4 (List.length y21.Types) ca23_4), (Value.slice Aa23_5 (List.length y21.Args) ca23_5), (Value.slice Aa23_6 (List.length y21.Arms) ca23_6), (Value.int .i64 y21.At)], rfl, rfl, h35, w36, ?_⟩
    have o37 : OB _ _ h35 _ (Array.size h) [(Value.int .i64 y21.Kind), (Value.int .i64 y21.Num), (Value.string y21.Text), (Value.slice Aa23_3 (List.length y21.Names) ca23_3), (Value.slice Aa23_4 (List.length y21.Types) ca23_4), (Value.slice Aa23_5 (List.length y21.Args) ca23_5), (Value.slice Aa23_6 (List.length y21.Arms) ca23_6), (Value.int .i64 y21.At)] 71 := o37
    have S39 := S31.then t38 (fun i _ hi => o29.wr i hi)
    have o40 := o34.step T_api_Expr.T t38 (d33).symm
    refine ⟨_, ldA (Sub.refl _) o37.all, ?_⟩
    obtain ⟨y41, g42, e⟩ := bind_e e
    refine (roadref2_SizeOf.walk S39.s (T_api_Expr.iff.2 ⟨_, _, _, _, _, _, _, _, rfl, ka23_3, ra23_3, ka23_4, ra23_4, ka23_5, ra23_5, ka23_6, ra23_6⟩) g42).mono ?_
    rintro _ h43 ⟨m44, T45, rfl⟩
    have S46 := S39.grow T45
    have o47 := o40.step T_api_Expr.T T45 Dj.no
    have o48 := o37.step T45 Dj.no
    refine ⟨_, rfl, ?_⟩
    exact (ih _ _ e) _ _ _ _ _ _ _ S46 rfl o47
  · cases e
    exact ⟨_, S, rfl⟩
theorem roadlaw2_small.l0_k.all {p : roadlaw2_small.l0_k.Pt} {r : (Bool)} (e : roadlaw2_small.l0_k.go p = some r) : roadlaw2_small.l0_k.I p r := fixF_ind (β := fun _ => (Bool)) roadlaw2_small.l0_k.mono (I := roadlaw2_small.l0_k.I) (fun go ih p r e => match p with
  | .l0 x3 a7 x8 x9 => roadlaw2_small.l0_k.step_l0 go ih x3 a7 x8 x9 r e
  ) e
theorem roadlaw2_small.l0.walk {h0 m0 h m : Heap} {A7 : Option Addr} {n7 c7 : Nat} {x3 : Int} {a7 : List T_api_Expr} {x8 : Int} {x9 : Int} (S : St No h0 m0 h m) (ne7 : n7 = List.length a7) (o7 : OS No h0 8 T_api_Expr.E h m A7 a7 c7) {r : Bool} (e : roadlaw2_small.l0 x3 a7 x8 x9 = some r) : f25.l0 (roadlaw2_small.post No h0 m0 r) x3 A7 n7 c7 x8 x9 h := roadlaw2_small.l0_k.all (p := .l0 x3 a7 x8 x9) e h0 m0 h m A7 n7 c7 S ne7 o7

noncomputable def roadlaw2_small (y0 : T_api_Program) : Option (Bool) :=
  Option.bind (roadref2_BodiesOf y0) fun y6 => (roadlaw2_small.l0 (0 : Int) y6 (((List.length y6) : Nat) : Int) (0 : Int))
set_option maxRecDepth 100000 in
theorem roadlaw2_small.walk {h m : Heap} {cs0 : List Value} {y0 : T_api_Program} (s : Sub m h) (e0 : T_api_Program.E m y0 cs0) {r : Bool} (e : roadlaw2_small y0 = some r) : Run Try.prog 25 #[Value.agg cs0.toArray] h (roadlaw2_small.post No h m r) := by
  unfold roadlaw2_small at e
  obtain ⟨Ae0_2, ce0_2, Ae0_3, ce0_3, Ae0_4, ce0_4, Ae0_5, ce0_5, Ae0_6, ce0_6, Ae0_7, ce0_7, rfl, ke0_2, re0_2, ke0_3, re0_3, ke0_4, re0_4, ke0_5, re0_5, ke0_6, re0_6, ke0_7, re0_7⟩ := e0
  have S : St No h m h m := .refl s
  refine f25.run ?_
  unfold f25.runT
  refine new_in S fun h1 o2 x3 => ?_
  have S4 := S.ext' x3
  have o2 : OB _ _ h1 _ (Array.size h) [(Value.string y0.Name), (Value.int .i64 y0.Version), (Value.slice Ae0_2 (List.length y0.Uses) ce0_2), (Value.slice Ae0_3 (List.length y0.Datas) ce0_3), (Value.slice Ae0_4 (List.length y0.Traits) ce0_4), (Value.slice Ae0_5 (List.length y0.Impls) ce0_5), (Value.slice Ae0_6 (List.length y0.Funcs) ce0_6), (Value.slice Ae0_7 (List.length y0.Actors) ce0_7)] 53 := o2
  refine ⟨_, ldA (Sub.refl _) o2.all, ?_⟩
  obtain ⟨y6, g7, e⟩ := bind_e e
  refine (roadref2_BodiesOf.walk S4.s (show T_api_Program.E _ y0 [(Value.string y0.Name), (Value.int .i64 y0.Version), (Value.slice Ae0_2 (List.length y0.Uses) ce0_2), (Value.slice Ae0_3 (List.length y0.Datas) ce0_3), (Value.slice Ae0_4 (List.length y0.Traits) ce0_4), (Value.slice Ae0_5 (List.length y0.Impls) ce0_5), (Value.slice Ae0_6 (List.length y0.Funcs) ce0_6), (Value.slice Ae0_7 (List.length y0.Actors) ce0_7)] from ⟨_, _, _, _, _, _, _, _, _, _, _, _, rfl, ke0_2, re0_2, ke0_3, re0_3, ke0_4, re0_4, ke0_5, re0_5, ke0_6, re0_6, ke0_7, re0_7⟩) g7).mono ?_
  rintro _ h8 ⟨m9, A11, n12, c13, T10, rfl, ne14, o15⟩
  subst ne14
  have S17 := S4.grow T10
  have o18 := o2.step T10 Dj.no
  have d20 : Dj (fb (Array.size h)) (fp A11 c13) := fun i h1 h2 => absurd (o2.lt i h1) (Nat.not_lt.2 ((o15.new i h2).elim (fun h => h.elim) id))
  have o19 := o15.take S4 (fun _ h => h.elim)
  refine ⟨_, _, _, rfl, ?_⟩
  exact roadlaw2_small.l0.walk S17 rfl o19 e

/-! ### 29 roadstead/effect.Funs -/
def effect_Funs.post (W : Nat → Prop) (h0 m0 : Heap) (r : (List T_api_Func)) (v : Value) (h : Heap) : Prop := ∃ m A0 n0 c0, St W h0 m0 h m ∧ v = .slice A0 n0 c0 ∧ n0 = r.length ∧ OS W h0 15 T_api_Func.E h m A0 r c0
inductive effect_Funs.l0_k.Pt where
  | l0 (y1 : T_api_Program) (a3 : List T_api_Func) (a7 : List T_api_Impl) (x8 : Int) (x9 : Int)
noncomputable def effect_Funs.l0_k.body (go : (p : effect_Funs.l0_k.Pt) → Option ((List T_api_Func))) : (p : effect_Funs.l0_k.Pt) → Option ((List T_api_Func))
  | .l0 y1 a3 a7 x8 x9 => if x9 < x8 then (Option.bind (gi a7 x9) fun y8 => Option.bind (ap 272 a3 y8.Funcs) fun l31 => (go (.l0 y1 l31 a7 x8 (IntKind.wrap .i64 (x9 + (1 : Int)))))) else (Option.bind (ap 272 a3 y1.Funcs) fun l45 => some (l45))
theorem effect_Funs.l0_k.mono : MonoF (β := fun _ => ((List T_api_Func))) effect_Funs.l0_k.body := fun f g hfg p => match p with
  | .l0 y1 a3 a7 x8 x9 => LeO.ite (LeO.bind (LeO.refl _) fun y8 => LeO.bind (LeO.refl _) fun l31 => (hfg _)) (LeO.bind (LeO.refl _) fun l45 => LeO.refl _)
noncomputable def effect_Funs.l0_k.go (p : effect_Funs.l0_k.Pt) : Option ((List T_api_Func)) := fixF (β := fun _ => ((List T_api_Func))) effect_Funs.l0_k.body p
noncomputable def effect_Funs.l0 (y1 : T_api_Program) (a3 : List T_api_Func) (a7 : List T_api_Impl) (x8 : Int) (x9 : Int) : Option ((List T_api_Func)) := effect_Funs.l0_k.go (.l0 y1 a3 a7 x8 x9)
theorem effect_Funs.l0_eq (y1 : T_api_Program) (a3 : List T_api_Func) (a7 : List T_api_Impl) (x8 : Int) (x9 : Int) : effect_Funs.l0 y1 a3 a7 x8 x9 = if x9 < x8 then (Option.bind (gi a7 x9) fun y8 => Option.bind (ap 272 a3 y8.Funcs) fun l31 => (effect_Funs.l0 y1 l31 a7 x8 (IntKind.wrap .i64 (x9 + (1 : Int))))) else (Option.bind (ap 272 a3 y1.Funcs) fun l45 => some (l45)) := fixF_eq effect_Funs.l0_k.mono _
def effect_Funs.l0_k.I : (p : effect_Funs.l0_k.Pt) → ((List T_api_Func)) → Prop
  | .l0 y1 a3 a7 x8 x9, r => ∀ (h0 m0 h m : Heap) (bk1 : Nat) (cs1 : List Value) (A3 : Option Addr) (n3 c3 : Nat) (A7 : Option Addr) (n7 c7 : Nat) (S : St No h0 m0 h m) (o1 : OB No h0 h m bk1 cs1 53) (e1 : T_api_Program.E m y1 cs1) (ne3 : n3 = List.length a3) (o3 : OS No h0 15 T_api_Func.E h m A3 a3 c3) (ne7 : n7 = List.length a7) (k7 : List.length a7 ≤ c7) (r7 : Rd 3 T_api_Impl.E m A7 a7) (d0_1 : Dj (fb bk1) (fp A3 c3)), f29.l0 (effect_Funs.post No h0 m0 r) (⟨bk1, 0, none⟩ : Addr) A3 n3 c3 A7 n7 c7 x8 x9 h
set_option maxRecDepth 100000 in
theorem effect_Funs.l0_k.step_l0 (go : (p : effect_Funs.l0_k.Pt) → Option ((List T_api_Func))) (ih : ∀ p r, go p = some r → effect_Funs.l0_k.I p r) (y1 : T_api_Program) (a3 : List T_api_Func) (a7 : List T_api_Impl) (x8 : Int) (x9 : Int) (r : (List T_api_Func)) (e : effect_Funs.l0_k.body go (.l0 y1 a3 a7 x8 x9) = some r) : effect_Funs.l0_k.I (.l0 y1 a3 a7 x8 x9) r := by
  unfold effect_Funs.l0_k.body at e
  intro h0 m0 h m bk1 cs1 A3 n3 c3 A7 n7 c7 S o1 e1 ne3 o3 ne7 k7 r7 d0_1
  obtain ⟨Ae1_2, ce1_2, Ae1_3, ce1_3, Ae1_4, ce1_4, Ae1_5, ce1_5, Ae1_6, ce1_6, Ae1_7, ce1_7, rfl, ke1_2, re1_2, ke1_3, re1_3, ke1_4, re1_4, ke1_5, re1_5, ke1_6, re1_6, ke1_7, re1_7⟩ := e1
  subst ne3
  subst ne7
  refine f29.l0_in ?_
  unfold f29.l0T
  refine split_dec_e e (fun c57 e => ?_) (fun c57 e => ?_)
  · obtain ⟨y8, g9, e⟩ := bind_e e
    refine r7.addr rfl g9 fun a10 cs11 ha12 hc13 he14 => ?_
    obtain ⟨Aa10_2, ca10_2, rfl, ka10_2, ra10_2⟩ := he14
    refine ⟨_, ldA S.s hc13, ?_⟩
    refine new_in S fun h15 o16 x17 => ?_
    have d20 : Dj (fb bk1) (fb (Array.size h)) := Dj.new o1.lt
    have d21 : Dj (fp A3 c3) (fb (Array.size h)) := Dj.new o3.lt
    have o22 := o1.ext x17
    have o23 := o3.ext T_api_Func.T S.s x17
    have S18 := S.ext' x17
    have o16 : OB _ _ h15 _ (Array.size h) [(Value.string (ByteArray.mk #[])), (Value.string (ByteArray.mk #[])), (Value.slice none 0 0)] 181 := o16
    obtain ⟨h24, w25, o26, t27⟩ := o16.stA S18.s [(Value.string y8.Trait), (Value.string y8.For), (Value.slice Aa10_2 (List.length y8.Funcs) ca10_2)] rfl (Flats.cons trivial (Flats.cons trivial (Flats.cons trivial Flats.nil)))
    refine ⟨[(Value.string y8.Trait), (Value.string y8.For), (Value.slice Aa10_2 (List.length y8.Funcs) ca10_2)], rfl, rfl, h24, w25, ?_⟩
    have o26 : OB _ _ h24 _ (Array.size h) [(Value.string y8.Trait), (Value.string y8.For), (Value.slice Aa10_2 (List.length y8.Funcs) ca10_2)] 181 := o26
    have S28 := S18.then t27 (fun i _ hi => o16.wr i hi)
    have o29 := o22.step t27 (d20).symm
    have o30 := o23.step T_api_Func.T t27 (d21).symm
    refine ⟨_, ldk (k := 2) (Sub.refl _) o26.all rfl, _, _, _, rfl, ?_⟩
    obtain ⟨l31, g32, e⟩ := bind_e e
    refine o30.app T_api_Func.T S28 rfl rfl (Rd.srcE ra10_2 T_api_Func.T S28.s rfl) (by decide) g32 fun A33 c34 h35 o36 t37 n38 => ?_
    refine ⟨_, _, _, rfl, ?_⟩
    have d40 : Dj (fb bk1) (fp A33 c34) := Dj.app d0_1 o29.lt n38
    have d41 : Dj (fb (Array.size h)) (fp A33 c34) := Dj.app (d21).symm o26.lt n38
    have S42 := S28.then t37 (fun i _ hi => o30.wr i hi)
    have o43 := o29.step t37 (d0_1).symm
    have o44 := o26.step t37 d21
    exact (ih _ _ e) _ _ _ _ _ _ _ _ _ _ _ _ S42 o43 (show T_api_Program.E _ y1 [(Value.string y1.Name), (Value.int .i64 y1.Version), (Value.slice Ae1_2 (List.length y1.Uses) ce1_2), (Value.slice Ae1_3 (List.length y1.Datas) ce1_3), (Value.slice Ae1_4 (List.length y1.Traits) ce1_4), (Value.slice Ae1_5 (List.length y1.Impls) ce1_5), (Value.slice Ae1_6 (List.length y1.Funcs) ce1_6), (Value.slice Ae1_7 (List.length y1.Actors) ce1_7)] from ⟨_, _, _, _, _, _, _, _, _, _, _, _, rfl, ke1_2, re1_2, ke1_3, re1_3, ke1_4, re1_4, ke1_5, re1_5, ke1_6, re1_6, ke1_7, re1_7⟩) rfl o36 rfl k7 r7 d40
  · refine ⟨_, ldk (k := 6) (Sub.refl _) o1.all rfl, _, _, _, rfl, ?_⟩
    obtain ⟨l45, g46, e⟩ := bind_e e
    refine o3.app T_api_Func.T S rfl rfl (Rd.srcE re1_6 T_api_Func.T S.s rfl) (by decide) g46 fun A47 c48 h49 o50 t51 n52 => ?_
    refine ⟨_, _, _, rfl, ?_⟩
    have d54 : Dj (fb bk1) (fp A47 c48) := Dj.app d0_1 o1.lt n52
    have S55 := S.then t51 (fun i _ hi => o3.wr i hi)
    have o56 := o1.step t51 (d0_1).symm
    cases e
    exact ⟨_, _, _, _, S55, rfl, rfl, o50⟩
theorem effect_Funs.l0_k.all {p : effect_Funs.l0_k.Pt} {r : ((List T_api_Func))} (e : effect_Funs.l0_k.go p = some r) : effect_Funs.l0_k.I p r := fixF_ind (β := fun _ => ((List T_api_Func))) effect_Funs.l0_k.mono (I := effect_Funs.l0_k.I) (fun go ih p r e => match p with
  | .l0 y1 a3 a7 x8 x9 => effect_Funs.l0_k.step_l0 go ih y1 a3 a7 x8 x9 r e
  ) e
theorem effect_Funs.l0.walk {h0 m0 h m : Heap} {bk1 : Nat} {cs1 : List Value} {A3 : Option Addr} {n3 c3 : Nat} {A7 : Option Addr} {n7 c7 : Nat} {y1 : T_api_Program} {a3 : List T_api_Func} {a7 : List T_api_Impl} {x8 : Int} {x9 : Int} (S : St No h0 m0 h m) (o1 : OB No h0 h m bk1 cs1 53) (e1 : T_api_Program.E m y1 cs1) (ne3 : n3 = List.length a3) (o3 : OS No h0 15 T_api_Func.E h m A3 a3 c3) (ne7 : n7 = List.length a7) (k7 : List.length a7 ≤ c7) (r7 : Rd 3 T_api_Impl.E m A7 a7) (d0_1 : Dj (fb bk1) (fp A3 c3)) {r : (List T_api_Func)} (e : effect_Funs.l0 y1 a3 a7 x8 x9 = some r) : f29.l0 (effect_Funs.post No h0 m0 r) (⟨bk1, 0, none⟩ : Addr) A3 n3 c3 A7 n7 c7 x8 x9 h := effect_Funs.l0_k.all (p := .l0 y1 a3 a7 x8 x9) e h0 m0 h m bk1 cs1 A3 n3 c3 A7 n7 c7 S o1 e1 ne3 o3 ne7 k7 r7 d0_1

noncomputable def effect_Funs (y0 : T_api_Program) : Option ((List T_api_Func)) :=
  (effect_Funs.l0 y0 ([] : List T_api_Func) y0.Impls (((List.length y0.Impls) : Nat) : Int) (0 : Int))
set_option maxRecDepth 100000 in
theorem effect_Funs.walk {h m : Heap} {cs0 : List Value} {y0 : T_api_Program} (s : Sub m h) (e0 : T_api_Program.E m y0 cs0) {r : (List T_api_Func)} (e : effect_Funs y0 = some r) : Run Try.prog 29 #[Value.agg cs0.toArray] h (effect_Funs.post No h m r) := by
  unfold effect_Funs at e
  obtain ⟨Ae0_2, ce0_2, Ae0_3, ce0_3, Ae0_4, ce0_4, Ae0_5, ce0_5, Ae0_6, ce0_6, Ae0_7, ce0_7, rfl, ke0_2, re0_2, ke0_3, re0_3, ke0_4, re0_4, ke0_5, re0_5, ke0_6, re0_6, ke0_7, re0_7⟩ := e0
  have S : St No h m h m := .refl s
  refine f29.run ?_
  unfold f29.runT
  refine new_in S fun h1 o2 x3 => ?_
  have S4 := S.ext' x3
  have o2 : OB _ _ h1 _ (Array.size h) [(Value.string y0.Name), (Value.int .i64 y0.Version), (Value.slice Ae0_2 (List.length y0.Uses) ce0_2), (Value.slice Ae0_3 (List.length y0.Datas) ce0_3), (Value.slice Ae0_4 (List.length y0.Traits) ce0_4), (Value.slice Ae0_5 (List.length y0.Impls) ce0_5), (Value.slice Ae0_6 (List.length y0.Funcs) ce0_6), (Value.slice Ae0_7 (List.length y0.Actors) ce0_7)] 53 := o2
  refine ⟨_, ldk (k := 5) (Sub.refl _) o2.all rfl, _, _, _, rfl, ?_⟩
  have o7 : OS No h 15 T_api_Func.E h1 m none ([] : List T_api_Func) 0 := .inl ⟨rfl, rfl⟩
  exact effect_Funs.l0.walk S4 o2 (show T_api_Program.E _ y0 [(Value.string y0.Name), (Value.int .i64 y0.Version), (Value.slice Ae0_2 (List.length y0.Uses) ce0_2), (Value.slice Ae0_3 (List.length y0.Datas) ce0_3), (Value.slice Ae0_4 (List.length y0.Traits) ce0_4), (Value.slice Ae0_5 (List.length y0.Impls) ce0_5), (Value.slice Ae0_6 (List.length y0.Funcs) ce0_6), (Value.slice Ae0_7 (List.length y0.Actors) ce0_7)] from ⟨_, _, _, _, _, _, _, _, _, _, _, _, rfl, ke0_2, re0_2, ke0_3, re0_3, ke0_4, re0_4, ke0_5, re0_5, ke0_6, re0_6, ke0_7, re0_7⟩) rfl o7 rfl ke0_5 re0_5 (show Dj (fb (Array.size h)) (fp none 0) from Dj.nil) e

/-! ### 62 slices.Equal[[]int,int] -/
def slices_Equal_62.post (W : Nat → Prop) (h0 m0 : Heap) (r : Bool) (v : Value) (h : Heap) : Prop := ∃ m , St W h0 m0 h m ∧ v = .bool r
inductive slices_Equal_62.l0_k.Pt where
  | l0 (a0 : List Int) (a1 : List Int) (x12 : Int) (x13 : Int)
noncomputable def slices_Equal_62.l0_k.body (go : (p : slices_Equal_62.l0_k.Pt) → Option (Bool)) : (p : slices_Equal_62.l0_k.Pt) → Option (Bool)
  | .l0 a0 a1 x12 x13 => if x13 < x12 then (Option.bind (gi a0 x13) fun y2 => Option.bind (gi a1 x13) fun y9 => if y2 = y9 then ((go (.l0 a0 a1 x12 (IntKind.wrap .i64 (x13 + (1 : Int)))))) else (some (false))) else (some (true))
theorem slices_Equal_62.l0_k.mono : MonoF (β := fun _ => (Bool)) slices_Equal_62.l0_k.body := fun f g hfg p => match p with
  | .l0 a0 a1 x12 x13 => LeO.ite (LeO.bind (LeO.refl _) fun y2 => LeO.bind (LeO.refl _) fun y9 => LeO.ite ((hfg _)) (LeO.refl _)) (LeO.refl _)
noncomputable def slices_Equal_62.l0_k.go (p : slices_Equal_62.l0_k.Pt) : Option (Bool) := fixF (β := fun _ => (Bool)) slices_Equal_62.l0_k.body p
noncomputable def slices_Equal_62.l0 (a0 : List Int) (a1 : List Int) (x12 : Int) (x13 : Int) : Option (Bool) := slices_Equal_62.l0_k.go (.l0 a0 a1 x12 x13)
theorem slices_Equal_62.l0_eq (a0 : List Int) (a1 : List Int) (x12 : Int) (x13 : Int) : slices_Equal_62.l0 a0 a1 x12 x13 = if x13 < x12 then (Option.bind (gi a0 x13) fun y2 => Option.bind (gi a1 x13) fun y9 => if y2 = y9 then ((slices_Equal_62.l0 a0 a1 x12 (IntKind.wrap .i64 (x13 + (1 : Int))))) else (some (false))) else (some (true)) := fixF_eq slices_Equal_62.l0_k.mono _
def slices_Equal_62.l0_k.I : (p : slices_Equal_62.l0_k.Pt) → (Bool) → Prop
  | .l0 a0 a1 x12 x13, r => ∀ (h0 m0 h m : Heap) (A0 : Option Addr) (n0 c0 : Nat) (A1 : Option Addr) (n1 c1 : Nat) (S : St No h0 m0 h m) (ne0 : n0 = List.length a0) (k0 : List.length a0 ≤ c0) (r0 : Rd 1 (eInt .i64) m A0 a0) (ne1 : n1 = List.length a1) (k1 : List.length a1 ≤ c1) (r1 : Rd 1 (eInt .i64) m A1 a1), f62.l0 (slices_Equal_62.post No h0 m0 r) A0 n0 c0 A1 n1 c1 x12 x13 h
set_option maxRecDepth 100000 in
theorem slices_Equal_62.l0_k.step_l0 (go : (p : slices_Equal_62.l0_k.Pt) → Option (Bool)) (ih : ∀ p r, go p = some r → slices_Equal_62.l0_k.I p r) (a0 : List Int) (a1 : List Int) (x12 : Int) (x13 : Int) (r : Bool) (e : slices_Equal_62.l0_k.body go (.l0 a0 a1 x12 x13) = some r) : slices_Equal_62.l0_k.I (.l0 a0 a1 x12 x13) r := by
  unfold slices_Equal_62.l0_k.body at e
  intro h0 m0 h m A0 n0 c0 A1 n1 c1 S ne0 k0 r0 ne1 k1 r1
  subst ne0
  subst ne1
  refine f62.l0_in ?_
  unfold f62.l0T
  refine split_dec_e e (fun c17 e => ?_) (fun c17 e => ?_)
  · obtain ⟨y2, g3, e⟩ := bind_e e
    refine r0.addr rfl g3 fun a4 cs5 ha6 hc7 he8 => ?_
    obtain rfl : cs5 = [(Value.int .i64 y2)] := he8
    obtain ⟨y9, g10, e⟩ := bind_e e
    refine r1.addr rfl g10 fun a11 cs12 ha13 hc14 he15 => ?_
    obtain rfl : cs12 = [(Value.int .i64 y9)] := he15
    refine ⟨_, ld0 S.s hc7 rfl, _, rfl, ?_⟩
    refine ⟨_, ld0 S.s hc14 rfl, _, rfl, ?_⟩
    refine split_ne_e e (fun c16 e => ?_) (fun c16 e => ?_)
    · cases e
      exact ⟨_, S, rfl⟩
    · exact (ih _ _ e) _ _ _ _ _ _ _ _ _ _ S rfl k0 r0 rfl k1 r1
  · cases e
    exact ⟨_, S, rfl⟩
theorem slices_Equal_62.l0_k.all {p : slices_Equal_62.l0_k.Pt} {r : (Bool)} (e : slices_Equal_62.l0_k.go p = some r) : slices_Equal_62.l0_k.I p r := fixF_ind (β := fun _ => (Bool)) slices_Equal_62.l0_k.mono (I := slices_Equal_62.l0_k.I) (fun go ih p r e => match p with
  | .l0 a0 a1 x12 x13 => slices_Equal_62.l0_k.step_l0 go ih a0 a1 x12 x13 r e
  ) e
theorem slices_Equal_62.l0.walk {h0 m0 h m : Heap} {A0 : Option Addr} {n0 c0 : Nat} {A1 : Option Addr} {n1 c1 : Nat} {a0 : List Int} {a1 : List Int} {x12 : Int} {x13 : Int} (S : St No h0 m0 h m) (ne0 : n0 = List.length a0) (k0 : List.length a0 ≤ c0) (r0 : Rd 1 (eInt .i64) m A0 a0) (ne1 : n1 = List.length a1) (k1 : List.length a1 ≤ c1) (r1 : Rd 1 (eInt .i64) m A1 a1) {r : Bool} (e : slices_Equal_62.l0 a0 a1 x12 x13 = some r) : f62.l0 (slices_Equal_62.post No h0 m0 r) A0 n0 c0 A1 n1 c1 x12 x13 h := slices_Equal_62.l0_k.all (p := .l0 a0 a1 x12 x13) e h0 m0 h m A0 n0 c0 A1 n1 c1 S ne0 k0 r0 ne1 k1 r1

noncomputable def slices_Equal_62 (a0 : List Int) (a1 : List Int) : Option (Bool) :=
  if (((List.length a0) : Nat) : Int) = (((List.length a1) : Nat) : Int) then ((slices_Equal_62.l0 a0 a1 (((List.length a0) : Nat) : Int) (0 : Int))) else (some (false))
set_option maxRecDepth 100000 in
theorem slices_Equal_62.walk {h m : Heap} {A0 : Option Addr} {n0 c0 : Nat} {A1 : Option Addr} {n1 c1 : Nat} {a0 : List Int} {a1 : List Int} (s : Sub m h) (ne0 : n0 = List.length a0) (k0 : List.length a0 ≤ c0) (r0 : Rd 1 (eInt .i64) m A0 a0) (ne1 : n1 = List.length a1) (k1 : List.length a1 ≤ c1) (r1 : Rd 1 (eInt .i64) m A1 a1) {r : Bool} (e : slices_Equal_62 a0 a1 = some r) : Run Try.prog 62 #[Value.slice A0 n0 c0, Value.slice A1 n1 c1] h (slices_Equal_62.post No h m r) := by
  unfold slices_Equal_62 at e
  subst ne0
  subst ne1
  have S : St No h m h m := .refl s
  refine f62.run ?_
  unfold f62.runT
  refine split_ne_e e (fun c1 e => ?_) (fun c1 e => ?_)
  · cases e
    exact ⟨_, S, rfl⟩
  · exact slices_Equal_62.l0.walk S rfl k0 r0 rfl k1 r1 e
theorem slices_Equal_62.val (l m : List Int) (hl : l.length ≤ 4611686018427387904) : ∃ b, slices_Equal_62 l m = some b ∧ (b = true ↔ l = m) := equal_val (R := fun x y => x = y) (fun a b n i => slices_Equal_62.l0_eq a b n i) (fun _ _ => rfl) (fun _ _ => Iff.rfl) l m hl

/-! ### 160 slices.Clone[[]roadstead/api.Expr,roadstead/api.Expr] -/
def slices_Clone_160.post (W : Nat → Prop) (h0 m0 : Heap) (r : (List T_api_Expr)) (v : Value) (h : Heap) : Prop := ∃ m A0 n0 c0, St W h0 m0 h m ∧ v = .slice A0 n0 c0 ∧ n0 = r.length ∧ OS W h0 8 T_api_Expr.E h m A0 r c0
noncomputable def slices_Clone_160 (a0 : List T_api_Expr) : Option (List T_api_Expr) := ap 136 ([] : List T_api_Expr) a0
set_option maxRecDepth 100000 in
theorem slices_Clone_160.walk {h m : Heap} {A0 : Option Addr} {n0 c0 : Nat} {a0 : List T_api_Expr} (s : Sub m h) (ne0 : n0 = List.length a0) (k0 : List.length a0 ≤ c0) (r0 : Rd 8 T_api_Expr.E m A0 a0) {r : List T_api_Expr} (e : slices_Clone_160 a0 = some r) : Run Try.prog 160 #[Value.slice A0 n0 c0] h (slices_Clone_160.post No h m r) := by
  unfold slices_Clone_160 at e
  subst ne0
  have S : St No h m h m := .refl s
  refine f160.run ?_
  unfold f160.runT
  cases A0 with
  | none =>
    refine split_t ?_
    obtain rfl := Rd.void r0
    obtain rfl : [] = r := by have := (ap_e e).2; simpa using this
    exact ⟨m, none, 0, 0, S, rfl, rfl, OS.nil⟩
  | some a =>
    refine split_f ?_
    refine new_in S fun h1 _ x1 => ?_
    have S1 := S.ext' x1
    have o2 : OS No h 8 T_api_Expr.E h1 m (some ⟨Array.size h, 0, none⟩) ([] : List T_api_Expr) 0 := .inl ⟨rfl, rfl⟩
    refine o2.app T_api_Expr.T S1 rfl rfl (r0.srcE T_api_Expr.T S1.s rfl) (by decide) e fun A4 c4 h4 o4 t4 n4 => ?_
    refine ⟨_, _, _, rfl, ?_⟩
    exact ⟨m, _, _, _, S1.then t4 (fun i _ hi => o2.wr i hi), rfl, rfl, o4⟩
theorem slices_Clone_160.val (l : List T_api_Expr) (h : l.length * 136 ≤ 140737488355328) : slices_Clone_160 l = some l := ap_nil h

/-! ### 136 roadstead/tree.Parts -/
def tree_Parts.post (W : Nat → Prop) (h0 m0 : Heap) (r : (List T_api_Expr)) (v : Value) (h : Heap) : Prop := ∃ m A0 n0 c0, St W h0 m0 h m ∧ v = .slice A0 n0 c0 ∧ n0 = r.length ∧ OS W h0 8 T_api_Expr.E h m A0 r c0
inductive tree_Parts.l0_k.Pt where
  | l0 (a3 : List T_api_Expr) (a10 : List T_api_Arm) (x11 : Int) (x12 : Int)
noncomputable def tree_Parts.l0_k.body (go : (p : tree_Parts.l0_k.Pt) → Option ((List T_api_Expr))) : (p : tree_Parts.l0_k.Pt) → Option ((List T_api_Expr))
  | .l0 a3 a10 x11 x12 => if x12 < x11 then (Option.bind (gi a10 x12) fun y21 => Option.bind (ap 136 a3 ([y21.Body] : List T_api_Expr)) fun l51 => (go (.l0 l51 a10 x11 (IntKind.wrap .i64 (x12 + (1 : Int)))))) else (some (a3))
theorem tree_Parts.l0_k.mono : MonoF (β := fun _ => ((List T_api_Expr))) tree_Parts.l0_k.body := fun f g hfg p => match p with
  | .l0 a3 a10 x11 x12 => LeO.ite (LeO.bind (LeO.refl _) fun y21 => LeO.bind (LeO.refl _) fun l51 => (hfg _)) (LeO.refl _)
noncomputable def tree_Parts.l0_k.go (p : tree_Parts.l0_k.Pt) : Option ((List T_api_Expr)) := fixF (β := fun _ => ((List T_api_Expr))) tree_Parts.l0_k.body p
noncomputable def tree_Parts.l0 (a3 : List T_api_Expr) (a10 : List T_api_Arm) (x11 : Int) (x12 : Int) : Option ((List T_api_Expr)) := tree_Parts.l0_k.go (.l0 a3 a10 x11 x12)
theorem tree_Parts.l0_eq (a3 : List T_api_Expr) (a10 : List T_api_Arm) (x11 : Int) (x12 : Int) : tree_Parts.l0 a3 a10 x11 x12 = if x12 < x11 then (Option.bind (gi a10 x12) fun y21 => Option.bind (ap 136 a3 ([y21.Body] : List T_api_Expr)) fun l51 => (tree_Parts.l0 l51 a10 x11 (IntKind.wrap .i64 (x12 + (1 : Int))))) else (some (a3)) := fixF_eq tree_Parts.l0_k.mono _
def tree_Parts.l0_k.I : (p : tree_Parts.l0_k.Pt) → ((List T_api_Expr)) → Prop
  | .l0 a3 a10 x11 x12, r => ∀ (h0 m0 h m : Heap) (A3 : Option Addr) (n3 c3 : Nat) (A10 : Option Addr) (n10 c10 : Nat) (S : St No h0 m0 h m) (ne3 : n3 = List.length a3) (o3 : OS No h0 8 T_api_Expr.E h m A3 a3 c3) (ne10 : n10 = List.length a10) (k10 : List.length a10 ≤ c10) (r10 : Rd 12 T_api_Arm.E m A10 a10), f136.l0 (tree_Parts.post No h0 m0 r) A3 n3 c3 A10 n10 c10 x11 x12 h
set_option maxRecDepth 100000 in
theorem tree_Parts.l0_k.step_l0 (go : (p : tree_Parts.l0_k.Pt) → Option ((List T_api_Expr))) (ih : ∀ p r, go p = some r → tree_Parts.l0_k.I p r) (a3 : List T_api_Expr) (a10 : List T_api_Arm) (x11 : Int) (x12 : Int) (r : (List T_api_Expr)) (e : tree_Parts.l0_k.body go (.l0 a3 a10 x11 x12) = some r) : tree_Parts.l0_k.I (.l0 a3 a10 x11 x12) r := by
  unfold tree_Parts.l0_k.body at e
  intro h0 m0 h m A3 n3 c3 A10 n10 c10 S ne3 o3 ne10 k10 r10
  subst ne3
  subst ne10
  refine f136.l0_in ?_
  unfold f136.l0T
  refine split_dec_e e (fun c65 e => ?_) (fun c65 e => ?_)
  · obtain ⟨y21, g22, e⟩ := bind_e e
    refine r10.addr rfl g22 fun a23 cs24 ha25 hc26 he27 => ?_
    obtain ⟨Aa23_3, ca23_3, Aa23_7, ca23_7, Aa23_8, ca23_8, Aa23_9, ca23_9, Aa23_10, ca23_10, rfl, ka23_3, ra23_3, ka23_7, ra23_7, ka23_8, ra23_8, ka23_9, ra23_9, ka23_10, ra23_10⟩ := T_api_Arm.iff.1 he27
    refine ⟨_, ldA S.s hc26, ?_⟩
    refine new_in S fun h28 o29 x30 => ?_
    have d33 : Dj (fp A3 c3) (fb (Array.size h)) := Dj.new o3.lt
    have o34 := o3.ext T_api_Expr.T S.s x30
    have S31 := S.ext' x30
    have o29 : OB _ _ h28 _ (Array.size h) [(Value.int .i64 (0 : Int)), (Value.int .i64 (0 : Int)), (Value.string (ByteArray.mk #[])), (Value.slice none 0 0), (Value.int .i64 (0 : Int)), (Value.int .i64 (0 : Int)), (Value.string (ByteArray.mk #[])), (Value.slice none 0 0), (Value.slice none 0 0), (Value.slice none 0 0), (Value.slice none 0 0), (Value.int .i64 (0 : Int))] 246 := o29
    obtain ⟨h35, w36, o37, t38⟩ := o29.stA S31.s [(Value.int .i64 y21.Pat.Kind), (Value.int .i64 y21.Pat.Num), (Value.string y21.Pat.Text), (Value.slice Aa23_3 (List.length y21.Pat.Args) ca23_3), (Value.int .i64 y21.Body.Kind), (Value.int .i64 y21.Body.Num), (Value.string y21.Body.Text), (Value.slice Aa23_7 (List.length y21.Body.Names) ca23_7), (Value.slice Aa23_8 (List.length y21.Body.Types) ca23_8), (Value.slice Aa23_9 (List.length y21.Body.Args) ca23_9), (Value.slice Aa23_10 (List.length y21.Body.Arms) ca23_10), (Value.int .i64 y21.Body.At)] rfl (Flats.cons trivial (Flats.cons trivial (Flats.cons trivial (Flats.cons trivial (Flats.cons trivial (Flats.cons trivial (Flats.cons trivial (Flats.cons trivial (Flats.cons trivial (Flats.cons trivial (Flats.cons trivial (Flats.cons trivial Flats.nil))))))))))))
    refine ⟨[(Value.int .i64 y21.Pat.Kind), (Value.int .i64 y21.Pat.Num), (Value.string y21.Pat.Text), (Value.slice Aa23_3 (List.length y21.Pat.Args) ca23_3), (Value.int .i64 y21.Body.Kind), (Value.int .i64 y21.Body.Num), (Value.string y21.Body.Text), (Value.slice Aa23_7 (List.length y21.Body.Names) ca23_7), (Value.slice Aa23_8 (List.length y21.Body.Types) ca23_8), (Value.slice Aa23_9 (List.length y21.Body.Args) ca23_9), (Value.slice Aa23_10 (List.length y21.Body.Arms) ca23_10), (Value.int .i64 y21.Body.At)], rfl, rfl, h35, w36, ?_⟩
    have o37 : OB _ _ h35 _ (Array.size h) [(Value.int .i64 y21.Pat.Kind), (Value.int .i64 y21.Pat.Num), (Value.string y21.Pat.Text), (Value.slice Aa23_3 (List.length y21.Pat.Args) ca23_3), (Value.int .i64 y21.Body.Kind), (Value.int .i64 y21.Body.Num), (Value.string y21.Body.Text), (Value.slice Aa23_7 (List.length y21.Body.Names) ca23_7), (Value.slice Aa23_8 (List.length y21.Body.Types) ca23_8), (Value.slice Aa23_9 (List.length y21.Body.Args) ca23_9), (Value.slice Aa23_10 (List.length y21.Body.Arms) ca23_10), (Value.int .i64 y21.Body.At)] 246 := o37
    have S39 := S31.then t38 (fun i _ hi => o29.wr i hi)
    have o40 := o34.step T_api_Expr.T t38 (d33).symm
    refine ⟨(Value.agg #[(Value.int .i64 y21.Body.Kind), (Value.int .i64 y21.Body.Num), (Value.string y21.Body.Text), (Value.slice Aa23_7 (List.length y21.Body.Names) ca23_7), (Value.slice Aa23_8 (List.length y21.Body.Types) ca23_8), (Value.slice Aa23_9 (List.length y21.Body.Args) ca23_9), (Value.slice Aa23_10 (List.length y21.Body.Arms) ca23_10), (Value.int .i64 y21.Body.At)]), ldAk (k := 4) (j := 8) (Sub.refl _) o37.all (Nat.le_of_ble_eq_true rfl), ?_⟩
    refine ⟨[(Value.int .i64 y21.Body.Kind), (Value.int .i64 y21.Body.Num), (Value.string y21.Body.Text), (Value.slice Aa23_7 (List.length y21.Body.Names) ca23_7), (Value.slice Aa23_8 (List.length y21.Body.Types) ca23_8), (Value.slice Aa23_9 (List.length y21.Body.Args) ca23_9), (Value.slice Aa23_10 (List.length y21.Body.Arms) ca23_10), (Value.int .i64 y21.Body.At)], rfl, rfl, ?_⟩
    refine new_in S39 fun h41 o42 x43 => ?_
    have d46 : Dj (fp A3 c3) (fb (Array.size h35)) := Dj.new o40.lt
    have d47 : Dj (fb (Array.size h)) (fb (Array.size h35)) := Dj.new o37.lt
    have o48 := o40.ext T_api_Expr.T S39.s x43
    have o49 := o37.ext x43
    have S44 := S39.ext' x43
    have o42 : OB _ _ h41 _ (Array.size h35) [(Value.int .i64 y21.Body.Kind), (Value.int .i64 y21.Body.Num), (Value.string y21.Body.Text), (Value.slice Aa23_7 (List.length y21.Body.Names) ca23_7), (Value.slice Aa23_8 (List.length y21.Body.Types) ca23_8), (Value.slice Aa23_9 (List.length y21.Body.Args) ca23_9), (Value.slice Aa23_10 (List.length y21.Body.Arms) ca23_10), (Value.int .i64 y21.Body.At)] 71 := o42
    have o50 : OS _ _ 8 T_api_Expr.E h41 m (some ⟨(Array.size h35), 0, none⟩) ([y21.Body] : List T_api_Expr) 1 := OB.row o42 (CsE.cons (c1 := [(Value.int .i64 y21.Body.Kind), (Value.int .i64 y21.Body.Num), (Value.string y21.Body.Text), (Value.slice Aa23_7 (List.length y21.Body.Names) ca23_7), (Value.slice Aa23_8 (List.length y21.Body.Types) ca23_8), (Value.slice Aa23_9 (List.length y21.Body.Args) ca23_9), (Value.slice Aa23_10 (List.length y21.Body.Arms) ca23_10), (Value.int .i64 y21.Body.At)]) (T_api_Expr.iff.2 ⟨_, _, _, _, _, _, _, _, rfl, ka23_7, ra23_7, ka23_8, ra23_8, ka23_9, ra23_9, ka23_10, ra23_10⟩) rfl CsE.nil) rfl
    obtain ⟨l51, g52, e⟩ := bind_e e
    refine o48.app T_api_Expr.T S44 rfl rfl (o50.srcE rfl) (by decide) g52 fun A53 c54 h55 o56 t57 n58 => ?_
    refine ⟨_, _, _, rfl, ?_⟩
    have d60 : Dj (fb (Array.size h)) (fp A53 c54) := Dj.app (d33).symm o49.lt n58
    have d61 : Dj (fp (some ⟨(Array.size h35), 0, none⟩) 1) (fp A53 c54) := Dj.app ((d46.row)).symm o50.lt n58
    have S62 := S44.then t57 (fun i _ hi => o48.wr i hi)
    have o63 := o49.step t57 d33
    have o64 := o50.step T_api_Expr.T t57 (d46.row)
    exact (ih _ _ e) _ _ _ _ _ _ _ _ _ _ S62 rfl o56 rfl k10 r10
  · cases e
    exact ⟨_, _, _, _, S, rfl, rfl, o3⟩
theorem tree_Parts.l0_k.all {p : tree_Parts.l0_k.Pt} {r : ((List T_api_Expr))} (e : tree_Parts.l0_k.go p = some r) : tree_Parts.l0_k.I p r := fixF_ind (β := fun _ => ((List T_api_Expr))) tree_Parts.l0_k.mono (I := tree_Parts.l0_k.I) (fun go ih p r e => match p with
  | .l0 a3 a10 x11 x12 => tree_Parts.l0_k.step_l0 go ih a3 a10 x11 x12 r e
  ) e
theorem tree_Parts.l0.walk {h0 m0 h m : Heap} {A3 : Option Addr} {n3 c3 : Nat} {A10 : Option Addr} {n10 c10 : Nat} {a3 : List T_api_Expr} {a10 : List T_api_Arm} {x11 : Int} {x12 : Int} (S : St No h0 m0 h m) (ne3 : n3 = List.length a3) (o3 : OS No h0 8 T_api_Expr.E h m A3 a3 c3) (ne10 : n10 = List.length a10) (k10 : List.length a10 ≤ c10) (r10 : Rd 12 T_api_Arm.E m A10 a10) {r : (List T_api_Expr)} (e : tree_Parts.l0 a3 a10 x11 x12 = some r) : f136.l0 (tree_Parts.post No h0 m0 r) A3 n3 c3 A10 n10 c10 x11 x12 h := tree_Parts.l0_k.all (p := .l0 a3 a10 x11 x12) e h0 m0 h m A3 n3 c3 A10 n10 c10 S ne3 o3 ne10 k10 r10

noncomputable def tree_Parts (y0 : T_api_Expr) : Option ((List T_api_Expr)) :=
  Option.bind (slices_Clone_160 y0.Args) fun y6 => (tree_Parts.l0 y6 y0.Arms (((List.length y0.Arms) : Nat) : Int) (0 : Int))
set_option maxRecDepth 100000 in
theorem tree_Parts.walk {h m : Heap} {cs0 : List Value} {y0 : T_api_Expr} (s : Sub m h) (e0 : T_api_Expr.E m y0 cs0) {r : (List T_api_Expr)} (e : tree_Parts y0 = some r) : Run Try.prog 136 #[Value.agg cs0.toArray] h (tree_Parts.post No h m r) := by
  unfold tree_Parts at e
  obtain ⟨Ae0_3, ce0_3, Ae0_4, ce0_4, Ae0_5, ce0_5, Ae0_6, ce0_6, rfl, ke0_3, re0_3, ke0_4, re0_4, ke0_5, re0_5, ke0_6, re0_6⟩ := T_api_Expr.iff.1 e0
  have S : St No h m h m := .refl s
  refine f136.run ?_
  unfold f136.runT
  refine new_in S fun h1 o2 x3 => ?_
  have S4 := S.ext' x3
  have o2 : OB _ _ h1 _ (Array.size h) [(Value.int .i64 y0.Kind), (Value.int .i64 y0.Num), (Value.string y0.Text), (Value.slice Ae0_3 (List.length y0.Names) ce0_3), (Value.slice Ae0_4 (List.length y0.Types) ce0_4), (Value.slice Ae0_5 (List.length y0.Args) ce0_5), (Value.slice Ae0_6 (List.length y0.Arms) ce0_6), (Value.int .i64 y0.At)] 71 := o2
  refine ⟨_, ldk (k := 5) (Sub.refl _) o2.all rfl, _, _, _, rfl, ?_⟩
  obtain ⟨y6, g7, e⟩ := bind_e e
  refine (slices_Clone_160.walk S4.s rfl ke0_5 re0_5 g7).mono ?_
  rintro _ h8 ⟨m9, A11, n12, c13, T10, rfl, ne14, o15⟩
  subst ne14
  have S17 := S4.grow T10
  have o18 := o2.step T10 Dj.no
  have d20 : Dj (fb (Array.size h)) (fp A11 c13) := fun i h1 h2 => absurd (o2.lt i h1) (Nat.not_lt.2 ((o15.new i h2).elim (fun h => h.elim) id))
  have o19 := o15.take S4 (fun _ h => h.elim)
  refine ⟨_, _, _, rfl, ?_⟩
  refine ⟨_, ldk (k := 6) (Sub.refl _) o18.all rfl, _, _, _, rfl, ?_⟩
  exact tree_Parts.l0.walk S17 rfl o19 rfl ke0_6 (re0_6.sub T_api_Arm.T T10.up) e

/-! ### 89 roadstead/tree.Walk -/
def tree_Walk.post (W : Nat → Prop) (h0 m0 : Heap) (r : (List T_api_Expr)) (v : Value) (h : Heap) : Prop := ∃ m A0 n0 c0, St W h0 m0 h m ∧ v = .slice A0 n0 c0 ∧ n0 = r.length ∧ OS W h0 8 T_api_Expr.E h m A0 r c0
inductive tree_Walk_k.Pt where
  | f (y0 : T_api_Expr)
  | l0 (a3 : List T_api_Expr) (a9 : List T_api_Expr) (x10 : Int) (x11 : Int)
noncomputable def tree_Walk_k.body (go : (p : tree_Walk_k.Pt) → Option ((List T_api_Expr))) : (p : tree_Walk_k.Pt) → Option ((List T_api_Expr))
  | .f y0 => Option.bind (tree_Parts y0) fun y14 => (go (.l0 ([y0] : List T_api_Expr) y14 (((List.length y14) : Nat) : Int) (0 : Int)))
  | .l0 a3 a9 x10 x11 => if x11 < x10 then (Option.bind (gi a9 x11) fun y31 => Option.bind ((go (.f y31))) fun y54 => Option.bind (ap 136 a3 y54) fun l73 => (go (.l0 l73 a9 x10 (IntKind.wrap .i64 (x11 + (1 : Int)))))) else (some (a3))
theorem tree_Walk_k.mono : MonoF (β := fun _ => ((List T_api_Expr))) tree_Walk_k.body := fun f g hfg p => match p with
  | .f y0 => LeO.bind (LeO.refl _) fun y14 => (hfg _)
  | .l0 a3 a9 x10 x11 => LeO.ite (LeO.bind (LeO.refl _) fun y31 => LeO.bind ((hfg _)) fun y54 => LeO.bind (LeO.refl _) fun l73 => (hfg _)) (LeO.refl _)
noncomputable def tree_Walk_k.go (p : tree_Walk_k.Pt) : Option ((List T_api_Expr)) := fixF (β := fun _ => ((List T_api_Expr))) tree_Walk_k.body p
noncomputable def tree_Walk (y0 : T_api_Expr) : Option ((List T_api_Expr)) := tree_Walk_k.go (.f y0)
noncomputable def tree_Walk.l0 (a3 : List T_api_Expr) (a9 : List T_api_Expr) (x10 : Int) (x11 : Int) : Option ((List T_api_Expr)) := tree_Walk_k.go (.l0 a3 a9 x10 x11)
theorem tree_Walk_eq (y0 : T_api_Expr) : tree_Walk y0 = Option.bind (tree_Parts y0) fun y14 => (tree_Walk.l0 ([y0] : List T_api_Expr) y14 (((List.length y14) : Nat) : Int) (0 : Int)) := fixF_eq tree_Walk_k.mono _
theorem tree_Walk.l0_eq (a3 : List T_api_Expr) (a9 : List T_api_Expr) (x10 : Int) (x11 : Int) : tree_Walk.l0 a3 a9 x10 x11 = if x11 < x10 then (Option.bind (gi a9 x11) fun y31 => Option.bind ((tree_Walk y31)) fun y54 => Option.bind (ap 136 a3 y54) fun l73 => (tree_Walk.l0 l73 a9 x10 (IntKind.wrap .i64 (x11 + (1 : Int))))) else (some (a3)) := fixF_eq tree_Walk_k.mono _
def tree_Walk_k.I : (p : tree_Walk_k.Pt) → ((List T_api_Expr)) → Prop
  | .f y0, r => ∀ (h m : Heap) (cs0 : List Value) (s : Sub m h) (e0 : T_api_Expr.E m y0 cs0), Run Try.prog 89 #[Value.agg cs0.toArray] h (tree_Walk.post No h m r)
  | .l0 a3 a9 x10 x11, r => ∀ (h0 m0 h m : Heap) (A3 : Option Addr) (n3 c3 : Nat) (A9 : Option Addr) (n9 c9 : Nat) (S : St No h0 m0 h m) (ne3 : n3 = List.length a3) (o3 : OS No h0 8 T_api_Expr.E h m A3 a3 c3) (ne9 : n9 = List.length a9) (o9 : OS No h0 8 T_api_Expr.E h m A9 a9 c9) (d0_1 : Dj (fp A3 c3) (fp A9 c9)), f89.l0 (tree_Walk.post No h0 m0 r) A3 n3 c3 A9 n9 c9 x10 x11 h
set_option maxRecDepth 100000 in
theorem tree_Walk_k.step_f (go : (p : tree_Walk_k.Pt) → Option ((List T_api_Expr))) (ih : ∀ p r, go p = some r → tree_Walk_k.I p r) (y0 : T_api_Expr) (r : (List T_api_Expr)) (e : tree_Walk_k.body go (.f y0) = some r) : tree_Walk_k.I (.f y0) r := by
  unfold tree_Walk_k.body at e
  intro h m cs0 s e0
  obtain ⟨Ae0_3, ce0_3, Ae0_4, ce0_4, Ae0_5, ce0_5, Ae0_6, ce0_6, rfl, ke0_3, re0_3, ke0_4, re0_4, ke0_5, re0_5, ke0_6, re0_6⟩ := T_api_Expr.iff.1 e0
  have S : St No h m h m := .refl s
  refine f89.run ?_
  unfold f89.runT
  refine new_in S fun h1 o2 x3 => ?_
  have S4 := S.ext' x3
  have o2 : OB _ _ h1 _ (Array.size h) [(Value.int .i64 y0.Kind), (Value.int .i64 y0.Num), (Value.string y0.Text), (Value.slice Ae0_3 (List.length y0.Names) ce0_3), (Value.slice Ae0_4 (List.length y0.Types) ce0_4), (Value.slice Ae0_5 (List.length y0.Args) ce0_5), (Value.slice Ae0_6 (List.length y0.Arms) ce0_6), (Value.int .i64 y0.At)] 71 := o2
  refine ⟨_, ldA (Sub.refl _) o2.all, ?_⟩
  refine ⟨[(Value.int .i64 y0.Kind), (Value.int .i64 y0.Num), (Value.string y0.Text), (Value.slice Ae0_3 (List.length y0.Names) ce0_3), (Value.slice Ae0_4 (List.length y0.Types) ce0_4), (Value.slice Ae0_5 (List.length y0.Args) ce0_5), (Value.slice Ae0_6 (List.length y0.Arms) ce0_6), (Value.int .i64 y0.At)], rfl, rfl, ?_⟩
  refine new_in S4 fun h6 o7 x8 => ?_
  have d11 : Dj (fb (Array.size h)) (fb (Array.size h1)) := Dj.new o2.lt
  have o12 := o2.ext x8
  have S9 := S4.ext' x8
  have o7 : OB _ _ h6 _ (Array.size h1) [(Value.int .i64 y0.Kind), (Value.int .i64 y0.Num), (Value.string y0.Text), (Value.slice Ae0_3 (List.length y0.Names) ce0_3), (Value.slice Ae0_4 (List.length y0.Types) ce0_4), (Value.slice Ae0_5 (List.length y0.Args) ce0_5), (Value.slice Ae0_6 (List.length y0.Arms) ce0_6), (Value.int .i64 y0.At)] 71 := o7
  have o13 : OS _ _ 8 T_api_Expr.E h6 m (some ⟨(Array.size h1), 0, none⟩) ([y0] : List T_api_Expr) 1 := OB.row o7 (CsE.cons (c1 := [(Value.int .i64 y0.Kind), (Value.int .i64 y0.Num), (Value.string y0.Text), (Value.slice Ae0_3 (List.length y0.Names) ce0_3), (Value.slice Ae0_4 (List.length y0.Types) ce0_4), (Value.slice Ae0_5 (List.length y0.Args) ce0_5), (Value.slice Ae0_6 (List.length y0.Arms) ce0_6), (Value.int .i64 y0.At)]) (T_api_Expr.iff.2 ⟨_, _, _, _, _, _, _, _, rfl, ke0_3, re0_3, ke0_4, re0_4, ke0_5, re0_5, ke0_6, re0_6⟩) rfl CsE.nil) rfl
  refine ⟨_, ldA (Sub.refl _) o12.all, ?_⟩
  obtain ⟨y14, g15, e⟩ := bind_e e
  refine (tree_Parts.walk S9.s (T_api_Expr.iff.2 ⟨_, _, _, _, _, _, _, _, rfl, ke0_3, re0_3, ke0_4, re0_4, ke0_5, re0_5, ke0_6, re0_6⟩) g15).mono ?_
  rintro _ h16 ⟨m17, A19, n20, c21, T18, rfl, ne22, o23⟩
  subst ne22
  have S25 := S9.grow T18
  have o26 := o12.step T18 Dj.no
  have o27 := o13.step T_api_Expr.T T18 Dj.no
  have d29 : Dj (fb (Array.size h)) (fp A19 c21) := fun i h1 h2 => absurd (o12.lt i h1) (Nat.not_lt.2 ((o23.new i h2).elim (fun h => h.elim) id))
  have d30 : Dj (fp (some ⟨(Array.size h1), 0, none⟩) 1) (fp A19 c21) := fun i h1 h2 => absurd (o13.lt i h1) (Nat.not_lt.2 ((o23.new i h2).elim (fun h => h.elim) id))
  have o28 := o23.take S9 (fun _ h => h.elim)
  refine ⟨_, _, _, rfl, ?_⟩
  exact (ih _ _ e) _ _ _ _ _ _ _ _ _ _ S25 rfl o27 rfl o28 d30
set_option maxRecDepth 100000 in
theorem tree_Walk_k.step_l0 (go : (p : tree_Walk_k.Pt) → Option ((List T_api_Expr))) (ih : ∀ p r, go p = some r → tree_Walk_k.I p r) (a3 : List T_api_Expr) (a9 : List T_api_Expr) (x10 : Int) (x11 : Int) (r : (List T_api_Expr)) (e : tree_Walk_k.body go (.l0 a3 a9 x10 x11) = some r) : tree_Walk_k.I (.l0 a3 a9 x10 x11) r := by
  unfold tree_Walk_k.body at e
  intro h0 m0 h m A3 n3 c3 A9 n9 c9 S ne3 o3 ne9 o9 d0_1
  subst ne3
  subst ne9
  refine f89.l0_in ?_
  unfold f89.l0T
  refine split_dec_e e (fun c89 e => ?_) (fun c89 e => ?_)
  · obtain ⟨y31, g32, e⟩ := bind_e e
    refine o9.addr rfl g32 fun a33 cs34 ha35 hc36 he37 => ?_
    obtain ⟨Aa33_3, ca33_3, Aa33_4, ca33_4, Aa33_5, ca33_5, Aa33_6, ca33_6, rfl, ka33_3, ra33_3, ka33_4, ra33_4, ka33_5, ra33_5, ka33_6, ra33_6⟩ := T_api_Expr.iff.1 he37
    refine ⟨_, ldA (Sub.refl _) hc36, ?_⟩
    refine new_in S fun h38 o39 x40 => ?_
    have d43 : Dj (fp A3 c3) (fb (Array.size h)) := Dj.new o3.lt
    have d44 : Dj (fp A9 c9) (fb (Array.size h)) := Dj.new o9.lt
    have o45 := o3.ext T_api_Expr.T S.s x40
    have o46 := o9.ext T_api_Expr.T S.s x40
    have S41 := S.ext' x40
    have o39 : OB _ _ h38 _ (Array.size h) [(Value.int .i64 (0 : Int)), (Value.int .i64 (0 : Int)), (Value.string (ByteArray.mk #[])), (Value.slice none 0 0), (Value.slice none 0 0), (Value.slice none 0 0), (Value.slice none 0 0), (Value.int .i64 (0 : Int))] 71 := o39
    obtain ⟨h47, w48, o49, t50⟩ := o39.stA S41.s [(Value.int .i64 y31.Kind), (Value.int .i64 y31.Num), (Value.string y31.Text), (Value.slice Aa33_3 (List.length y31.Names) ca33_3), (Value.slice Aa33_4 (List.length y31.Types) ca33_4), (Value.slice Aa33_5 (List.length y31.Args) ca33_5), (Value.slice Aa33_6 (List.length y31.Arms) ca33_6), (Value.int .i64 y31.At)] rfl (Flats.cons trivial (Flats.cons trivial (Flats.cons trivial (Flats.cons trivial (Flats.cons trivial (Flats.cons trivial (Flats.cons trivial (Flats.cons trivial Flats.nil))))))))
    refine ⟨[(Value.int .i64 y31.Kind), (Value.int .i64 y31.Num), (Value.string y31.Text), (Value.slice Aa33_3 (List.length y31.Names) ca33_3), (Value.slice Aa33_4 (List.length y31.Types) ca33_4), (Value.slice Aa33_5 (List.length y31.Args) ca33_5), (Value.slice Aa33_6 (List.length y31.Arms) ca33_6), (Value.int .i64 y31.At)], rfl, rfl, h47, w48, ?_⟩
    have o49 : OB _ _ h47 _ (Array.size h) [(Value.int .i64 y31.Kind), (Value.int .i64 y31.Num), (Value.string y31.Text), (Value.slice Aa33_3 (List.length y31.Names) ca33_3), (Value.slice Aa33_4 (List.length y31.Types) ca33_4), (Value.slice Aa33_5 (List.length y31.Args) ca33_5), (Value.slice Aa33_6 (List.length y31.Arms) ca33_6), (Value.int .i64 y31.At)] 71 := o49
    have S51 := S41.then t50 (fun i _ hi => o39.wr i hi)
    have o52 := o45.step T_api_Expr.T t50 (d43).symm
    have o53 := o46.step T_api_Expr.T t50 (d44).symm
    refine ⟨_, ldA (Sub.refl _) o49.all, ?_⟩
    obtain ⟨y54, g55, e⟩ := bind_e e
    refine ((ih _ _ g55) _ _ _ S51.s (T_api_Expr.iff.2 ⟨_, _, _, _, _, _, _, _, rfl, ka33_3, ra33_3, ka33_4, ra33_4, ka33_5, ra33_5, ka33_6, ra33_6⟩)).mono ?_
    rintro _ h56 ⟨m57, A59, n60, c61, T58, rfl, ne62, o63⟩
    subst ne62
    have S65 := S51.grow T58
    have o66 := o52.step T_api_Expr.T T58 Dj.no
    have o67 := o53.step T_api_Expr.T T58 Dj.no
    have o68 := o49.step T58 Dj.no
    have d70 : Dj (fp A3 c3) (fp A59 c61) := fun i h1 h2 => absurd (o52.lt i h1) (Nat.not_lt.2 ((o63.new i h2).elim (fun h => h.elim) id))
    have d71 : Dj (fp A9 c9) (fp A59 c61) := fun i h1 h2 => absurd (o53.lt i h1) (Nat.not_lt.2 ((o63.new i h2).elim (fun h => h.elim) id))
    have d72 : Dj (fb (Array.size h)) (fp A59 c61) := fun i h1 h2 => absurd (o49.lt i h1) (Nat.not_lt.2 ((o63.new i h2).elim (fun h => h.elim) id))
    have o69 := o63.take S51 (fun _ h => h.elim)
    refine ⟨_, _, _, rfl, ?_⟩
    obtain ⟨l73, g74, e⟩ := bind_e e
    refine o66.app T_api_Expr.T S65 rfl rfl (o69.srcE rfl) (by decide) g74 fun A75 c76 h77 o78 t79 n80 => ?_
    refine ⟨_, _, _, rfl, ?_⟩
    have d82 : Dj (fp A9 c9) (fp A75 c76) := Dj.app (d0_1).symm o67.lt n80
    have d83 : Dj (fb (Array.size h)) (fp A75 c76) := Dj.app (d43).symm o68.lt n80
    have d84 : Dj (fp A59 c61) (fp A75 c76) := Dj.app (d70).symm o69.lt n80
    have S85 := S65.then t79 (fun i _ hi => o66.wr i hi)
    have o86 := o67.step T_api_Expr.T t79 d0_1
    have o87 := o68.step t79 d43
    have o88 := o69.step T_api_Expr.T t79 d70
    exact (ih _ _ e) _ _ _ _ _ _ _ _ _ _ S85 rfl o78 rfl o86 (d82).symm
  · cases e
    exact ⟨_, _, _, _, S, rfl, rfl, o3⟩
theorem tree_Walk_k.all {p : tree_Walk_k.Pt} {r : ((List T_api_Expr))} (e : tree_Walk_k.go p = some r) : tree_Walk_k.I p r := fixF_ind (β := fun _ => ((List T_api_Expr))) tree_Walk_k.mono (I := tree_Walk_k.I) (fun go ih p r e => match p with
  | .f y0 => tree_Walk_k.step_f go ih y0 r e
  | .l0 a3 a9 x10 x11 => tree_Walk_k.step_l0 go ih a3 a9 x10 x11 r e
  ) e
theorem tree_Walk.walk {h m : Heap} {cs0 : List Value} {y0 : T_api_Expr} (s : Sub m h) (e0 : T_api_Expr.E m y0 cs0) {r : (List T_api_Expr)} (e : tree_Walk y0 = some r) : Run Try.prog 89 #[Value.agg cs0.toArray] h (tree_Walk.post No h m r) := tree_Walk_k.all (p := .f y0) e h m cs0 s e0
theorem tree_Walk.l0.walk {h0 m0 h m : Heap} {A3 : Option Addr} {n3 c3 : Nat} {A9 : Option Addr} {n9 c9 : Nat} {a3 : List T_api_Expr} {a9 : List T_api_Expr} {x10 : Int} {x11 : Int} (S : St No h0 m0 h m) (ne3 : n3 = List.length a3) (o3 : OS No h0 8 T_api_Expr.E h m A3 a3 c3) (ne9 : n9 = List.length a9) (o9 : OS No h0 8 T_api_Expr.E h m A9 a9 c9) (d0_1 : Dj (fp A3 c3) (fp A9 c9)) {r : (List T_api_Expr)} (e : tree_Walk.l0 a3 a9 x10 x11 = some r) : f89.l0 (tree_Walk.post No h0 m0 r) A3 n3 c3 A9 n9 c9 x10 x11 h := tree_Walk_k.all (p := .l0 a3 a9 x10 x11) e h0 m0 h m A3 n3 c3 A9 n9 c9 S ne3 o3 ne9 o9 d0_1

/-! ### 34 roadstead/effect.Own -/
def effect_Own.post (W : Nat → Prop) (h0 m0 : Heap) (r : Int) (v : Value) (h : Heap) : Prop := ∃ m , St W h0 m0 h m ∧ v = .int .i64 r
inductive effect_Own.l0_k.Pt where
  | l0 (x3 : Int) (a7 : List T_api_Expr) (x8 : Int) (x9 : Int)
  | j0 (x3 : Int) (a7 : List T_api_Expr) (x8 : Int) (x9 : Int) (x14 : Int) (b35 : Bool)
  | j1 (x3 : Int) (a7 : List T_api_Expr) (x8 : Int) (x9 : Int) (b40 : Bool)
noncomputable def effect_Own.l0_k.body (go : (p : effect_Own.l0_k.Pt) → Option (Int)) : (p : effect_Own.l0_k.Pt) → Option (Int)
  | .l0 x3 a7 x8 x9 => if x9 < x8 then (Option.bind (gi a7 x9) fun y21 => if y21.Kind = (20 : Int) then ((go (.l0 (bitsI .or .i64 x3 (1 : Int)) a7 x8 (IntKind.wrap .i64 (x9 + (1 : Int)))))) else (if y21.Kind = (15 : Int) then ((go (.l0 (bitsI .or .i64 x3 (2 : Int)) a7 x8 (IntKind.wrap .i64 (x9 + (1 : Int)))))) else (if y21.Kind = (14 : Int) then ((go (.l0 (bitsI .or .i64 x3 (4 : Int)) a7 x8 (IntKind.wrap .i64 (x9 + (1 : Int)))))) else (if y21.Kind = (18 : Int) then ((go (.l0 (bitsI .or .i64 x3 (8 : Int)) a7 x8 (IntKind.wrap .i64 (x9 + (1 : Int)))))) else (if y21.Kind = (19 : Int) then ((go (.l0 (bitsI .or .i64 x3 (16 : Int)) a7 x8 (IntKind.wrap .i64 (x9 + (1 : Int)))))) else (if y21.Kind = (24 : Int) then ((go (.j0 x3 a7 x8 x9 y21.Kind (y21.Kind == (24 : Int))))) else ((go (.j0 x3 a7 x8 x9 y21.Kind (y21.Kind == (25 : Int))))))))))) else (some (x3))
  | .j0 x3 a7 x8 x9 x14 b35 => if b35 = true then ((go (.l0 (bitsI .or .i64 x3 (32 : Int)) a7 x8 (IntKind.wrap .i64 (x9 + (1 : Int)))))) else (if x14 = (21 : Int) then ((go (.j1 x3 a7 x8 x9 (x14 == (21 : Int))))) else (if x14 = (22 : Int) then ((go (.j1 x3 a7 x8 x9 (x14 == (22 : Int))))) else ((go (.j1 x3 a7 x8 x9 (x14 == (23 : Int)))))))
  | .j1 x3 a7 x8 x9 b40 => if b40 = true then ((go (.l0 (bitsI .or .i64 x3 (64 : Int)) a7 x8 (IntKind.wrap .i64 (x9 + (1 : Int)))))) else ((go (.l0 x3 a7 x8 (IntKind.wrap .i64 (x9 + (1 : Int))))))
theorem effect_Own.l0_k.mono : MonoF (β := fun _ => (Int)) effect_Own.l0_k.body := fun f g hfg p => match p with
  | .l0 x3 a7 x8 x9 => LeO.ite (LeO.bind (LeO.refl _) fun y21 => LeO.ite ((hfg _)) (LeO.ite ((hfg _)) (LeO.ite ((hfg _)) (LeO.ite ((hfg _)) (LeO.ite ((hfg _)) (LeO.ite ((hfg _)) ((hfg _)))))))) (LeO.refl _)
  | .j0 x3 a7 x8 x9 x14 b35 => LeO.ite ((hfg _)) (LeO.ite ((hfg _)) (LeO.ite ((hfg _)) ((hfg _))))
  | .j1 x3 a7 x8 x9 b40 => LeO.ite ((hfg _)) ((hfg _))
noncomputable def effect_Own.l0_k.go (p : effect_Own.l0_k.Pt) : Option (Int) := fixF (β := fun _ => (Int)) effect_Own.l0_k.body p
noncomputable def effect_Own.l0 (x3 : Int) (a7 : List T_api_Expr) (x8 : Int) (x9 : Int) : Option (Int) := effect_Own.l0_k.go (.l0 x3 a7 x8 x9)
noncomputable def effect_Own.j0 (x3 : Int) (a7 : List T_api_Expr) (x8 : Int) (x9 : Int) (x14 : Int) (b35 : Bool) : Option (Int) := effect_Own.l0_k.go (.j0 x3 a7 x8 x9 x14 b35)
noncomputable def effect_Own.j1 (x3 : Int) (a7 : List T_api_Expr) (x8 : Int) (x9 : Int) (b40 : Bool) : Option (Int) := effect_Own.l0_k.go (.j1 x3 a7 x8 x9 b40)
theorem effect_Own.l0_eq (x3 : Int) (a7 : List T_api_Expr) (x8 : Int) (x9 : Int) : effect_Own.l0 x3 a7 x8 x9 = if x9 < x8 then (Option.bind (gi a7 x9) fun y21 => if y21.Kind = (20 : Int) then ((effect_Own.l0 (bitsI .or .i64 x3 (1 : Int)) a7 x8 (IntKind.wrap .i64 (x9 + (1 : Int))))) else (if y21.Kind = (15 : Int) then ((effect_Own.l0 (bitsI .or .i64 x3 (2 : Int)) a7 x8 (IntKind.wrap .i64 (x9 + (1 : Int))))) else (if y21.Kind = (14 : Int) then ((effect_Own.l0 (bitsI .or .i64 x3 (4 : Int)) a7 x8 (IntKind.wrap .i64 (x9 + (1 : Int))))) else (if y21.Kind = (18 : Int) then ((effect_Own.l0 (bitsI .or .i64 x3 (8 : Int)) a7 x8 (IntKind.wrap .i64 (x9 + (1 : Int))))) else (if y21.Kind = (19 : Int) then ((effect_Own.l0 (bitsI .or .i64 x3 (16 : Int)) a7 x8 (IntKind.wrap .i64 (x9 + (1 : Int))))) else (if y21.Kind = (24 : Int) then ((effect_Own.j0 x3 a7 x8 x9 y21.Kind (y21.Kind == (24 : Int)))) else ((effect_Own.j0 x3 a7 x8 x9 y21.Kind (y21.Kind == (25 : Int)))))))))) else (some (x3)) := fixF_eq effect_Own.l0_k.mono _
theorem effect_Own.j0_eq (x3 : Int) (a7 : List T_api_Expr) (x8 : Int) (x9 : Int) (x14 : Int) (b35 : Bool) : effect_Own.j0 x3 a7 x8 x9 x14 b35 = if b35 = true then ((effect_Own.l0 (bitsI .or .i64 x3 (32 : Int)) a7 x8 (IntKind.wrap .i64 (x9 + (1 : Int))))) else (if x14 = (21 : Int) then ((effect_Own.j1 x3 a7 x8 x9 (x14 == (21 : Int)))) else (if x14 = (22 : Int) then ((effect_Own.j1 x3 a7 x8 x9 (x14 == (22 : Int)))) else ((effect_Own.j1 x3 a7 x8 x9 (x14 == (23 : Int)))))) := fixF_eq effect_Own.l0_k.mono _
theorem effect_Own.j1_eq (x3 : Int) (a7 : List T_api_Expr) (x8 : Int) (x9 : Int) (b40 : Bool) : effect_Own.j1 x3 a7 x8 x9 b40 = if b40 = true then ((effect_Own.l0 (bitsI .or .i64 x3 (64 : Int)) a7 x8 (IntKind.wrap .i64 (x9 + (1 : Int))))) else ((effect_Own.l0 x3 a7 x8 (IntKind.wrap .i64 (x9 + (1 : Int))))) := fixF_eq effect_Own.l0_k.mono _
def effect_Own.l0_k.I : (p : effect_Own.l0_k.Pt) → (Int) → Prop
  | .l0 x3 a7 x8 x9, r => ∀ (h0 m0 h m : Heap) (A7 : Option Addr) (n7 c7 : Nat) (S : St No h0 m0 h m) (ne7 : n7 = List.length a7) (o7 : OS No h0 8 T_api_Expr.E h m A7 a7 c7), f34.l0 (effect_Own.post No h0 m0 r) x3 A7 n7 c7 x8 x9 h
  | .j0 x3 a7 x8 x9 x14 b35, r => ∀ (h0 m0 h m : Heap) (A7 : Option Addr) (n7 c7 : Nat) (S : St No h0 m0 h m) (ne7 : n7 = List.length a7) (o7 : OS No h0 8 T_api_Expr.E h m A7 a7 c7), f34.j0 (effect_Own.post No h0 m0 r) x3 A7 n7 c7 x8 x9 x14 b35 h
  | .j1 x3 a7 x8 x9 b40, r => ∀ (h0 m0 h m : Heap) (A7 : Option Addr) (n7 c7 : Nat) (S : St No h0 m0 h m) (ne7 : n7 = List.length a7) (o7 : OS No h0 8 T_api_Expr.E h m A7 a7 c7), f34.j1 (effect_Own.post No h0 m0 r) x3 A7 n7 c7 x8 x9 b40 h
set_option maxRecDepth 100000 in
theorem effect_Own.l0_k.step_l0 (go : (p : effect_Own.l0_k.Pt) → Option (Int)) (ih : ∀ p r, go p = some r → effect_Own.l0_k.I p r) (x3 : Int) (a7 : List T_api_Expr) (x8 : Int) (x9 : Int) (r : Int) (e : effect_Own.l0_k.body go (.l0 x3 a7 x8 x9) = some r) : effect_Own.l0_k.I (.l0 x3 a7 x8 x9) r := by
  unfold effect_Own.l0_k.body at e
  intro h0 m0 h m A7 n7 c7 S ne7 o7
  subst ne7
  refine f34.l0_in ?_
  unfold f34.l0T
  refine split_dec_e e (fun c47 e => ?_) (fun c47 e => ?_)
  · obtain ⟨y21, g22, e⟩ := bind_e e
    refine o7.addr rfl g22 fun a23 cs24 ha25 hc26 he27 => ?_
    obtain ⟨Aa23_3, ca23_3, Aa23_4, ca23_4, Aa23_5, ca23_5, Aa23_6, ca23_6, rfl, ka23_3, ra23_3, ka23_4, ra23_4, ka23_5, ra23_5, ka23_6, ra23_6⟩ := T_api_Expr.iff.1 he27
    refine ⟨_, ldA (Sub.refl _) hc26, ?_⟩
    refine new_in S fun h28 o29 x30 => ?_
    have d33 : Dj (fp A7 c7) (fb (Array.size h)) := Dj.new o7.lt
    have o34 := o7.ext T_api_Expr.T S.s x30
    have S31 := S.ext' x30
    have o29 : OB _ _ h28 _ (Array.size h) [(Value.int .i64 (0 : Int)), (Value.int .i64 (0 : Int)), (Value.string (ByteArray.mk #[])), (Value.slice none 0 0), (Value.slice none 0 0), (Value.slice none 0 0), (Value.slice none 0 0), (Value.int .i64 (0 : Int))] 71 := o29
    obtain ⟨h35, w36, o37, t38⟩ := o29.stA S31.s [(Value.int .i64 y21.Kind), (Value.int .i64 y21.Num), (Value.string y21.Text), (Value.slice Aa23_3 (List.length y21.Names) ca23_3), (Value.slice Aa23_4 (List.length y21.Types) ca23_4), (Value.slice Aa23_5 (List.length y21.Args) ca23_5), (Value.slice Aa23_6 (List.length y21.Arms) ca23_6), (Value.int .i64 y21.At)] rfl (Flats.cons trivial (Flats.cons trivial (Flats.cons trivial (Flats.cons trivial (Flats.cons trivial (Flats.cons trivial (Flats.cons trivial (Flats.cons trivial Flats.nil))))))))
    refine ⟨[(Value.int .i64 y21.Kind), (Value.int .i64 y21.Num), (Value.string y21.Text), (Value.slice Aa23_3 (List.length y21.Names) ca23_3), (Value.slice Aa23_4 (List.length y21.Types) ca23_4), (Value.slice Aa23_5 (List.length y21.Args) ca23_5), (Value.slice Aa23_6 (List.length y21.Arms) ca23_6), (Value.int .i64 y21.At)], rfl, rfl, h35, w36, ?_⟩
    have o37 : OB _ _ h35 _ (Array.size h) [(Value.int .i64 y21.Kind), (Value.int .i64 y21.Num), (Value.string y21.Text), (Value.slice Aa23_3 (List.length y21.Names) ca23_3), (Value.slice Aa23_4 (List.length y21.Types) ca23_4), (Value.slice Aa23_5 (List.length y21.Args) ca23_5), (Value.slice Aa23_6 (List.length y21.Arms) ca23_6), (Value.int .i64 y21.At)] 71 := o37
    have S39 := S31.then t38 (fun i _ hi => o29.wr i hi)
    have o40 := o34.step T_api_Expr.T t38 (d33).symm
    refine ⟨_, ld0 (Sub.refl _) o37.all rfl, _, rfl, ?_⟩
    refine split_eq_e e (fun c46 e => ?_) (fun c46 e => ?_)
    · exact (ih _ _ e) _ _ _ _ _ _ _ S39 rfl o40
    · refine split_eq_e e (fun c45 e => ?_) (fun c45 e => ?_)
      · exact (ih _ _ e) _ _ _ _ _ _ _ S39 rfl o40
      · refine split_eq_e e (fun c44 e => ?_) (fun c44 e => ?_)
        · exact (ih _ _ e) _ _ _ _ _ _ _ S39 rfl o40
        · refine split_eq_e e (fun c43 e => ?_) (fun c43 e => ?_)
          · exact (ih _ _ e) _ _ _ _ _ _ _ S39 rfl o40
          · refine split_eq_e e (fun c42 e => ?_) (fun c42 e => ?_)
            · exact (ih _ _ e) _ _ _ _ _ _ _ S39 rfl o40
            · refine split_eq_e e (fun c41 e => ?_) (fun c41 e => ?_)
              · exact (ih _ _ e) _ _ _ _ _ _ _ S39 rfl o40
              · exact (ih _ _ e) _ _ _ _ _ _ _ S39 rfl o40
  · cases e
    exact ⟨_, S, rfl⟩
set_option maxRecDepth 100000 in
theorem effect_Own.l0_k.step_j0 (go : (p : effect_Own.l0_k.Pt) → Option (Int)) (ih : ∀ p r, go p = some r → effect_Own.l0_k.I p r) (x3 : Int) (a7 : List T_api_Expr) (x8 : Int) (x9 : Int) (x14 : Int) (b35 : Bool) (r : Int) (e : effect_Own.l0_k.body go (.j0 x3 a7 x8 x9 x14 b35) = some r) : effect_Own.l0_k.I (.j0 x3 a7 x8 x9 x14 b35) r := by
  unfold effect_Own.l0_k.body at e
  intro h0 m0 h m A7 n7 c7 S ne7 o7
  subst ne7
  refine f34.j0_in ?_
  unfold f34.j0T
  refine split_any_e e (fun c50 e => ?_) (fun c50 e => ?_)
  · exact (ih _ _ e) _ _ _ _ _ _ _ S rfl o7
  · refine split_eq_e e (fun c49 e => ?_) (fun c49 e => ?_)
    · exact (ih _ _ e) _ _ _ _ _ _ _ S rfl o7
    · refine split_eq_e e (fun c48 e => ?_) (fun c48 e => ?_)
      · exact (ih _ _ e) _ _ _ _ _ _ _ S rfl o7
      · exact (ih _ _ e) _ _ _ _ _ _ _ S rfl o7
set_option maxRecDepth 100000 in
theorem effect_Own.l0_k.step_j1 (go : (p : effect_Own.l0_k.Pt) → Option (Int)) (ih : ∀ p r, go p = some r → effect_Own.l0_k.I p r) (x3 : Int) (a7 : List T_api_Expr) (x8 : Int) (x9 : Int) (b40 : Bool) (r : Int) (e : effect_Own.l0_k.body go (.j1 x3 a7 x8 x9 b40) = some r) : effect_Own.l0_k.I (.j1 x3 a7 x8 x9 b40) r := by
  unfold effect_Own.l0_k.body at e
  intro h0 m0 h m A7 n7 c7 S ne7 o7
  subst ne7
  refine f34.j1_in ?_
  unfold f34.j1T
  refine split_any_e e (fun c51 e => ?_) (fun c51 e => ?_)
  · exact (ih _ _ e) _ _ _ _ _ _ _ S rfl o7
  · exact (ih _ _ e) _ _ _ _ _ _ _ S rfl o7
theorem effect_Own.l0_k.all {p : effect_Own.l0_k.Pt} {r : (Int)} (e : effect_Own.l0_k.go p = some r) : effect_Own.l0_k.I p r := fixF_ind (β := fun _ => (Int)) effect_Own.l0_k.mono (I := effect_Own.l0_k.I) (fun go ih p r e => match p with
  | .l0 x3 a7 x8 x9 => effect_Own.l0_k.step_l0 go ih x3 a7 x8 x9 r e
  | .j0 x3 a7 x8 x9 x14 b35 => effect_Own.l0_k.step_j0 go ih x3 a7 x8 x9 x14 b35 r e
  | .j1 x3 a7 x8 x9 b40 => effect_Own.l0_k.step_j1 go ih x3 a7 x8 x9 b40 r e
  ) e
theorem effect_Own.l0.walk {h0 m0 h m : Heap} {A7 : Option Addr} {n7 c7 : Nat} {x3 : Int} {a7 : List T_api_Expr} {x8 : Int} {x9 : Int} (S : St No h0 m0 h m) (ne7 : n7 = List.length a7) (o7 : OS No h0 8 T_api_Expr.E h m A7 a7 c7) {r : Int} (e : effect_Own.l0 x3 a7 x8 x9 = some r) : f34.l0 (effect_Own.post No h0 m0 r) x3 A7 n7 c7 x8 x9 h := effect_Own.l0_k.all (p := .l0 x3 a7 x8 x9) e h0 m0 h m A7 n7 c7 S ne7 o7
theorem effect_Own.j0.walk {h0 m0 h m : Heap} {A7 : Option Addr} {n7 c7 : Nat} {x3 : Int} {a7 : List T_api_Expr} {x8 : Int} {x9 : Int} {x14 : Int} {b35 : Bool} (S : St No h0 m0 h m) (ne7 : n7 = List.length a7) (o7 : OS No h0 8 T_api_Expr.E h m A7 a7 c7) {r : Int} (e : effect_Own.j0 x3 a7 x8 x9 x14 b35 = some r) : f34.j0 (effect_Own.post No h0 m0 r) x3 A7 n7 c7 x8 x9 x14 b35 h := effect_Own.l0_k.all (p := .j0 x3 a7 x8 x9 x14 b35) e h0 m0 h m A7 n7 c7 S ne7 o7
theorem effect_Own.j1.walk {h0 m0 h m : Heap} {A7 : Option Addr} {n7 c7 : Nat} {x3 : Int} {a7 : List T_api_Expr} {x8 : Int} {x9 : Int} {b40 : Bool} (S : St No h0 m0 h m) (ne7 : n7 = List.length a7) (o7 : OS No h0 8 T_api_Expr.E h m A7 a7 c7) {r : Int} (e : effect_Own.j1 x3 a7 x8 x9 b40 = some r) : f34.j1 (effect_Own.post No h0 m0 r) x3 A7 n7 c7 x8 x9 b40 h := effect_Own.l0_k.all (p := .j1 x3 a7 x8 x9 b40) e h0 m0 h m A7 n7 c7 S ne7 o7

noncomputable def effect_Own (y0 : T_api_Expr) : Option (Int) :=
  Option.bind (tree_Walk y0) fun y6 => (effect_Own.l0 (0 : Int) y6 (((List.length y6) : Nat) : Int) (0 : Int))
set_option maxRecDepth 100000 in
theorem effect_Own.walk {h m : Heap} {cs0 : List Value} {y0 : T_api_Expr} (s : Sub m h) (e0 : T_api_Expr.E m y0 cs0) {r : Int} (e : effect_Own y0 = some r) : Run Try.prog 34 #[Value.agg cs0.toArray] h (effect_Own.post No h m r) := by
  unfold effect_Own at e
  obtain ⟨Ae0_3, ce0_3, Ae0_4, ce0_4, Ae0_5, ce0_5, Ae0_6, ce0_6, rfl, ke0_3, re0_3, ke0_4, re0_4, ke0_5, re0_5, ke0_6, re0_6⟩ := T_api_Expr.iff.1 e0
  have S : St No h m h m := .refl s
  refine f34.run ?_
  unfold f34.runT
  refine new_in S fun h1 o2 x3 => ?_
  have S4 := S.ext' x3
  have o2 : OB _ _ h1 _ (Array.size h) [(Value.int .i64 y0.Kind), (Value.int .i64 y0.Num), (Value.string y0.Text), (Value.slice Ae0_3 (List.length y0.Names) ce0_3), (Value.slice Ae0_4 (List.length y0.Types) ce0_4), (Value.slice Ae0_5 (List.length y0.Args) ce0_5), (Value.slice Ae0_6 (List.length y0.Arms) ce0_6), (Value.int .i64 y0.At)] 71 := o2
  refine ⟨_, ldA (Sub.refl _) o2.all, ?_⟩
  obtain ⟨y6, g7, e⟩ := bind_e e
  refine (tree_Walk.walk S4.s (T_api_Expr.iff.2 ⟨_, _, _, _, _, _, _, _, rfl, ke0_3, re0_3, ke0_4, re0_4, ke0_5, re0_5, ke0_6, re0_6⟩) g7).mono ?_
  rintro _ h8 ⟨m9, A11, n12, c13, T10, rfl, ne14, o15⟩
  subst ne14
  have S17 := S4.grow T10
  have o18 := o2.step T10 Dj.no
  have d20 : Dj (fb (Array.size h)) (fp A11 c13) := fun i h1 h2 => absurd (o2.lt i h1) (Nat.not_lt.2 ((o15.new i h2).elim (fun h => h.elim) id))
  have o19 := o15.take S4 (fun _ h => h.elim)
  refine ⟨_, _, _, rfl, ?_⟩
  exact effect_Own.l0.walk S17 rfl o19 e

/-! ### 137 slices.Index[[]string,string] -/
def slices_Index_137.post (W : Nat → Prop) (h0 m0 : Heap) (r : Int) (v : Value) (h : Heap) : Prop := ∃ m , St W h0 m0 h m ∧ v = .int .i64 r
inductive slices_Index_137.l0_k.Pt where
  | l0 (a0 : List ByteArray) (s1 : ByteArray) (x7 : Int) (x8 : Int)
noncomputable def slices_Index_137.l0_k.body (go : (p : slices_Index_137.l0_k.Pt) → Option (Int)) : (p : slices_Index_137.l0_k.Pt) → Option (Int)
  | .l0 a0 s1 x7 x8 => if x8 < x7 then (Option.bind (gi a0 x8) fun y1 => if s1 = y1 then (some (x8)) else ((go (.l0 a0 s1 x7 (IntKind.wrap .i64 (x8 + (1 : Int))))))) else (some ((-1 : Int)))
theorem slices_Index_137.l0_k.mono : MonoF (β := fun _ => (Int)) slices_Index_137.l0_k.body := fun f g hfg p => match p with
  | .l0 a0 s1 x7 x8 => LeO.ite (LeO.bind (LeO.refl _) fun y1 => LeO.ite (LeO.refl _) ((hfg _))) (LeO.refl _)
noncomputable def slices_Index_137.l0_k.go (p : slices_Index_137.l0_k.Pt) : Option (Int) := fixF (β := fun _ => (Int)) slices_Index_137.l0_k.body p
noncomputable def slices_Index_137.l0 (a0 : List ByteArray) (s1 : ByteArray) (x7 : Int) (x8 : Int) : Option (Int) := slices_Index_137.l0_k.go (.l0 a0 s1 x7 x8)
theorem slices_Index_137.l0_eq (a0 : List ByteArray) (s1 : ByteArray) (x7 : Int) (x8 : Int) : slices_Index_137.l0 a0 s1 x7 x8 = if x8 < x7 then (Option.bind (gi a0 x8) fun y1 => if s1 = y1 then (some (x8)) else ((slices_Index_137.l0 a0 s1 x7 (IntKind.wrap .i64 (x8 + (1 : Int)))))) else (some ((-1 : Int))) := fixF_eq slices_Index_137.l0_k.mono _
def slices_Index_137.l0_k.I : (p : slices_Index_137.l0_k.Pt) → (Int) → Prop
  | .l0 a0 s1 x7 x8, r => ∀ (h0 m0 h m : Heap) (A0 : Option Addr) (n0 c0 : Nat) (S : St No h0 m0 h m) (ne0 : n0 = List.length a0) (k0 : List.length a0 ≤ c0) (r0 : Rd 1 eStr m A0 a0), f137.l0 (slices_Index_137.post No h0 m0 r) A0 n0 c0 s1 x7 x8 h
set_option maxRecDepth 100000 in
theorem slices_Index_137.l0_k.step_l0 (go : (p : slices_Index_137.l0_k.Pt) → Option (Int)) (ih : ∀ p r, go p = some r → slices_Index_137.l0_k.I p r) (a0 : List ByteArray) (s1 : ByteArray) (x7 : Int) (x8 : Int) (r : Int) (e : slices_Index_137.l0_k.body go (.l0 a0 s1 x7 x8) = some r) : slices_Index_137.l0_k.I (.l0 a0 s1 x7 x8) r := by
  unfold slices_Index_137.l0_k.body at e
  intro h0 m0 h m A0 n0 c0 S ne0 k0 r0
  subst ne0
  refine f137.l0_in ?_
  unfold f137.l0T
  refine split_dec_e e (fun c9 e => ?_) (fun c9 e => ?_)
  · obtain ⟨y1, g2, e⟩ := bind_e e
    refine r0.addr rfl g2 fun a3 cs4 ha5 hc6 he7 => ?_
    obtain rfl : cs4 = [(Value.string y1)] := he7
    refine ⟨_, ld0 S.s hc6 rfl, _, rfl, ?_⟩
    try rw [ba_list s1 y1]
    refine split_dec_e e (fun c8 e => ?_) (fun c8 e => ?_)
    · cases e
      exact ⟨_, S, rfl⟩
    · exact (ih _ _ e) _ _ _ _ _ _ _ S rfl k0 r0
  · cases e
    exact ⟨_, S, rfl⟩
theorem slices_Index_137.l0_k.all {p : slices_Index_137.l0_k.Pt} {r : (Int)} (e : slices_Index_137.l0_k.go p = some r) : slices_Index_137.l0_k.I p r := fixF_ind (β := fun _ => (Int)) slices_Index_137.l0_k.mono (I := slices_Index_137.l0_k.I) (fun go ih p r e => match p with
  | .l0 a0 s1 x7 x8 => slices_Index_137.l0_k.step_l0 go ih a0 s1 x7 x8 r e
  ) e
theorem slices_Index_137.l0.walk {h0 m0 h m : Heap} {A0 : Option Addr} {n0 c0 : Nat} {a0 : List ByteArray} {s1 : ByteArray} {x7 : Int} {x8 : Int} (S : St No h0 m0 h m) (ne0 : n0 = List.length a0) (k0 : List.length a0 ≤ c0) (r0 : Rd 1 eStr m A0 a0) {r : Int} (e : slices_Index_137.l0 a0 s1 x7 x8 = some r) : f137.l0 (slices_Index_137.post No h0 m0 r) A0 n0 c0 s1 x7 x8 h := slices_Index_137.l0_k.all (p := .l0 a0 s1 x7 x8) e h0 m0 h m A0 n0 c0 S ne0 k0 r0

noncomputable def slices_Index_137 (a0 : List ByteArray) (s1 : ByteArray) : Option (Int) :=
  (slices_Index_137.l0 a0 s1 (((List.length a0) : Nat) : Int) (0 : Int))
set_option maxRecDepth 100000 in
theorem slices_Index_137.walk {h m : Heap} {A0 : Option Addr} {n0 c0 : Nat} {a0 : List ByteArray} {s1 : ByteArray} (s : Sub m h) (ne0 : n0 = List.length a0) (k0 : List.length a0 ≤ c0) (r0 : Rd 1 eStr m A0 a0) {r : Int} (e : slices_Index_137 a0 s1 = some r) : Run Try.prog 137 #[Value.slice A0 n0 c0, Value.string s1] h (slices_Index_137.post No h m r) := by
  unfold slices_Index_137 at e
  subst ne0
  have S : St No h m h m := .refl s
  refine f137.run ?_
  unfold f137.runT
  exact slices_Index_137.l0.walk S rfl k0 r0 e
theorem slices_Index_137.val {l : List ByteArray} (v : ByteArray) (hl : l.length ≤ 4611686018427387904) : slices_Index_137 l v = some (idxOf (fun y => decide (v = y)) l) := index_val (fun a p n i => slices_Index_137.l0_eq a p n i) v hl

/-! ### 92 slices.Contains[[]string,string] -/
def slices_Contains_92.post (W : Nat → Prop) (h0 m0 : Heap) (r : Bool) (v : Value) (h : Heap) : Prop := ∃ m , St W h0 m0 h m ∧ v = .bool r
noncomputable def slices_Contains_92 (a0 : List ByteArray) (s1 : ByteArray) : Option (Bool) :=
  Option.bind (slices_Index_137 a0 s1) fun y1 => some ((decide (y1 ≥ (0 : Int))))
set_option maxRecDepth 100000 in
theorem slices_Contains_92.walk {h m : Heap} {A0 : Option Addr} {n0 c0 : Nat} {a0 : List ByteArray} {s1 : ByteArray} (s : Sub m h) (ne0 : n0 = List.length a0) (k0 : List.length a0 ≤ c0) (r0 : Rd 1 eStr m A0 a0) {r : Bool} (e : slices_Contains_92 a0 s1 = some r) : Run Try.prog 92 #[Value.slice A0 n0 c0, Value.string s1] h (slices_Contains_92.post No h m r) := by
  unfold slices_Contains_92 at e
  subst ne0
  have S : St No h m h m := .refl s
  refine f92.run ?_
  unfold f92.runT
  obtain ⟨y1, g2, e⟩ := bind_e e
  refine (slices_Index_137.walk S.s rfl k0 r0 g2).mono ?_
  rintro _ h3 ⟨m4, T5, rfl⟩
  have S6 := S.grow T5
  refine ⟨_, rfl, ?_⟩
  cases e
  exact ⟨_, S6, rfl⟩
theorem slices_Contains_92.val {l : List ByteArray} (v : ByteArray) (hl : l.length ≤ 4611686018427387904) : slices_Contains_92 l v = some (l.any fun y => decide (v = y)) := contains_any (fun a p n i => slices_Index_137.l0_eq a p n i) (fun _ _ => rfl) (fun _ _ => rfl) v hl

/-! ### 38 roadstead/effect.Calls -/
def effect_Calls.post (W : Nat → Prop) (h0 m0 : Heap) (r : (List ByteArray)) (v : Value) (h : Heap) : Prop := ∃ m A0 n0 c0, St W h0 m0 h m ∧ v = .slice A0 n0 c0 ∧ n0 = r.length ∧ OS W h0 1 eStr h m A0 r c0
inductive effect_Calls.l0_k.Pt where
  | l0 (a3 : List ByteArray) (a7 : List T_api_Expr) (x8 : Int) (x9 : Int)
  | j0 (a3 : List ByteArray) (y5 : T_api_Expr) (a7 : List T_api_Expr) (x8 : Int) (x9 : Int) (b22 : Bool)
noncomputable def effect_Calls.l0_k.body (go : (p : effect_Calls.l0_k.Pt) → Option ((List ByteArray))) : (p : effect_Calls.l0_k.Pt) → Option ((List ByteArray))
  | .l0 a3 a7 x8 x9 => if x9 < x8 then (Option.bind (gi a7 x9) fun y23 => if y23.Kind = (9 : Int) then (Option.bind (slices_Contains_92 a3 y23.Text) fun y46 => (go (.j0 a3 y23 a7 x8 x9 (!y46)))) else ((go (.j0 a3 y23 a7 x8 x9 false)))) else (some (a3))
  | .j0 a3 y5 a7 x8 x9 b22 => if b22 = true then (Option.bind (ap 16 a3 ([y5.Text] : List ByteArray)) fun l75 => (go (.l0 l75 a7 x8 (IntKind.wrap .i64 (x9 + (1 : Int)))))) else ((go (.l0 a3 a7 x8 (IntKind.wrap .i64 (x9 + (1 : Int))))))
theorem effect_Calls.l0_k.mono : MonoF (β := fun _ => ((List ByteArray))) effect_Calls.l0_k.body := fun f g hfg p => match p with
  | .l0 a3 a7 x8 x9 => LeO.ite (LeO.bind (LeO.refl _) fun y23 => LeO.ite (LeO.bind (LeO.refl _) fun y46 => (hfg _)) ((hfg _))) (LeO.refl _)
  | .j0 a3 y5 a7 x8 x9 b22 => LeO.ite (LeO.bind (LeO.refl _) fun l75 => (hfg _)) ((hfg _))
noncomputable def effect_Calls.l0_k.go (p : effect_Calls.l0_k.Pt) : Option ((List ByteArray)) := fixF (β := fun _ => ((List ByteArray))) effect_Calls.l0_k.body p
noncomputable def effect_Calls.l0 (a3 : List ByteArray) (a7 : List T_api_Expr) (x8 : Int) (x9 : Int) : Option ((List ByteArray)) := effect_Calls.l0_k.go (.l0 a3 a7 x8 x9)
noncomputable def effect_Calls.j0 (a3 : List ByteArray) (y5 : T_api_Expr) (a7 : List T_api_Expr) (x8 : Int) (x9 : Int) (b22 : Bool) : Option ((List ByteArray)) := effect_Calls.l0_k.go (.j0 a3 y5 a7 x8 x9 b22)
theorem effect_Calls.l0_eq (a3 : List ByteArray) (a7 : List T_api_Expr) (x8 : Int) (x9 : Int) : effect_Calls.l0 a3 a7 x8 x9 = if x9 < x8 then (Option.bind (gi a7 x9) fun y23 => if y23.Kind = (9 : Int) then (Option.bind (slices_Contains_92 a3 y23.Text) fun y46 => (effect_Calls.j0 a3 y23 a7 x8 x9 (!y46))) else ((effect_Calls.j0 a3 y23 a7 x8 x9 false))) else (some (a3)) := fixF_eq effect_Calls.l0_k.mono _
theorem effect_Calls.j0_eq (a3 : List ByteArray) (y5 : T_api_Expr) (a7 : List T_api_Expr) (x8 : Int) (x9 : Int) (b22 : Bool) : effect_Calls.j0 a3 y5 a7 x8 x9 b22 = if b22 = true then (Option.bind (ap 16 a3 ([y5.Text] : List ByteArray)) fun l75 => (effect_Calls.l0 l75 a7 x8 (IntKind.wrap .i64 (x9 + (1 : Int))))) else ((effect_Calls.l0 a3 a7 x8 (IntKind.wrap .i64 (x9 + (1 : Int))))) := fixF_eq effect_Calls.l0_k.mono _
def effect_Calls.l0_k.I : (p : effect_Calls.l0_k.Pt) → ((List ByteArray)) → Prop
  | .l0 a3 a7 x8 x9, r => ∀ (h0 m0 h m : Heap) (A3 : Option Addr) (n3 c3 : Nat) (A7 : Option Addr) (n7 c7 : Nat) (S : St No h0 m0 h m) (ne3 : n3 = List.length a3) (o3 : OS No h0 1 eStr h m A3 a3 c3) (ne7 : n7 = List.length a7) (o7 : OS No h0 8 T_api_Expr.E h m A7 a7 c7) (d0_1 : Dj (fp A3 c3) (fp A7 c7)), f38.l0 (effect_Calls.post No h0 m0 r) A3 n3 c3 A7 n7 c7 x8 x9 h
  | .j0 a3 y5 a7 x8 x9 b22, r => ∀ (h0 m0 h m : Heap) (A3 : Option Addr) (n3 c3 : Nat) (bk5 : Nat) (cs5 : List Value) (A7 : Option Addr) (n7 c7 : Nat) (S : St No h0 m0 h m) (ne3 : n3 = List.length a3) (o3 : OS No h0 1 eStr h m A3 a3 c3) (o5 : OB No h0 h m bk5 cs5 71) (e5 : T_api_Expr.E m y5 cs5) (ne7 : n7 = List.length a7) (o7 : OS No h0 8 T_api_Expr.E h m A7 a7 c7) (d0_1 : Dj (fp A3 c3) (fb bk5)) (d0_2 : Dj (fp A3 c3) (fp A7 c7)) (d1_2 : Dj (fb bk5) (fp A7 c7)), f38.j0 (effect_Calls.post No h0 m0 r) A3 n3 c3 (⟨bk5, 0, none⟩ : Addr) A7 n7 c7 x8 x9 b22 h
set_option maxRecDepth 100000 in
theorem effect_Calls.l0_k.step_l0 (go : (p : effect_Calls.l0_k.Pt) → Option ((List ByteArray))) (ih : ∀ p r, go p = some r → effect_Calls.l0_k.I p r) (a3 : List ByteArray) (a7 : List T_api_Expr) (x8 : Int) (x9 : Int) (r : (List ByteArray)) (e : effect_Calls.l0_k.body go (.l0 a3 a7 x8 x9) = some r) : effect_Calls.l0_k.I (.l0 a3 a7 x8 x9) r := by
  unfold effect_Calls.l0_k.body at e
  intro h0 m0 h m A3 n3 c3 A7 n7 c7 S ne3 o3 ne7 o7 d0_1
  subst ne3
  subst ne7
  refine f38.l0_in ?_
  unfold f38.l0T
  refine split_dec_e e (fun c62 e => ?_) (fun c62 e => ?_)
  · obtain ⟨y23, g24, e⟩ := bind_e e
    refine o7.addr rfl g24 fun a25 cs26 ha27 hc28 he29 => ?_
    obtain ⟨Aa25_3, ca25_3, Aa25_4, ca25_4, Aa25_5, ca25_5, Aa25_6, ca25_6, rfl, ka25_3, ra25_3, ka25_4, ra25_4, ka25_5, ra25_5, ka25_6, ra25_6⟩ := T_api_Expr.iff.1 he29
    refine ⟨_, ldA (Sub.refl _) hc28, ?_⟩
    refine new_in S fun h30 o31 x32 => ?_
    have d35 : Dj (fp A3 c3) (fb (Array.size h)) := Dj.new o3.lt
    have d36 : Dj (fp A7 c7) (fb (Array.size h)) := Dj.new o7.lt
    have o37 := o3.ext tell_str S.s x32
    have o38 := o7.ext T_api_Expr.T S.s x32
    have S33 := S.ext' x32
    have o31 : OB _ _ h30 _ (Array.size h) [(Value.int .i64 (0 : Int)), (Value.int .i64 (0 : Int)), (Value.string (ByteArray.mk #[])), (Value.slice none 0 0), (Value.slice none 0 0), (Value.slice none 0 0), (Value.slice none 0 0), (Value.int .i64 (0 : Int))] 71 := o31
    obtain ⟨h39, w40, o41, t42⟩ := o31.stA S33.s [(Value.int .i64 y23.Kind), (Value.int .i64 y23.Num), (Value.string y23.Text), (Value.slice Aa25_3 (List.length y23.Names) ca25_3), (Value.slice Aa25_4 (List.length y23.Types) ca25_4), (Value.slice Aa25_5 (List.length y23.Args) ca25_5), (Value.slice Aa25_6 (List.length y23.Arms) ca25_6), (Value.int .i64 y23.At)] rfl (Flats.cons trivial (Flats.cons trivial (Flats.cons trivial (Flats.cons trivial (Flats.cons trivial (Flats.cons trivial (Flats.cons trivial (Flats.cons trivial Flats.nil))))))))
    refine ⟨[(Value.int .i64 y23.Kind), (Value.int .i64 y23.Num), (Value.string y23.Text), (Value.slice Aa25_3 (List.length y23.Names) ca25_3), (Value.slice Aa25_4 (List.length y23.Types) ca25_4), (Value.slice Aa25_5 (List.length y23.Args) ca25_5), (Value.slice Aa25_6 (List.length y23.Arms) ca25_6), (Value.int .i64 y23.At)], rfl, rfl, h39, w40, ?_⟩
    have o41 : OB _ _ h39 _ (Array.size h) [(Value.int .i64 y23.Kind), (Value.int .i64 y23.Num), (Value.string y23.Text), (Value.slice Aa25_3 (List.length y23.Names) ca25_3), (Value.slice Aa25_4 (List.length y23.Types) ca25_4), (Value.slice Aa25_5 (List.length y23.Args) ca25_5), (Value.slice Aa25_6 (List.length y23.Arms) ca25_6), (Value.int .i64 y23.At)] 71 := o41
    have S43 := S33.then t42 (fun i _ hi => o31.wr i hi)
    have o44 := o37.step tell_str t42 (d35).symm
    have o45 := o38.step T_api_Expr.T t42 (d36).symm
    refine ⟨_, ld0 (Sub.refl _) o41.all rfl, _, rfl, ?_⟩
    refine split_eq_e e (fun c61 e => ?_) (fun c61 e => ?_)
    · refine ⟨_, ldk (k := 2) (Sub.refl _) o41.all rfl, _, rfl, ?_⟩
      obtain ⟨y46, g47, e⟩ := bind_e e
      obtain ⟨m51, L52, u53, s54, t55⟩ := St.lend S43.s (fp A3 c3)
      refine (slices_Contains_92.walk s54 rfl o44.cap (o44.lent tell_str S43.s L52 (fun _ h => h)) g47).mono ?_
      rintro _ h48 ⟨m49, T50, rfl⟩
      have T56 := T50.unlend S43.s (fun _ h => h.elim)
      have S57 := S43.grow T56
      have o58 := o44.step tell_str T56 Dj.no
      have o59 := o45.step T_api_Expr.T T56 Dj.no
      have o60 := o41.step T56 Dj.no
      refine ⟨_, rfl, ?_⟩
      exact (ih _ _ e) _ _ _ _ _ _ _ _ _ _ _ _ S57 rfl o58 o60 (T_api_Expr.iff.2 ⟨_, _, _, _, _, _, _, _, rfl, ka25_3, ra25_3, ka25_4, ra25_4, ka25_5, ra25_5, ka25_6, ra25_6⟩) rfl o59 d35 d0_1 (d36).symm
    · exact (ih _ _ e) _ _ _ _ _ _ _ _ _ _ _ _ S43 rfl o44 o41 (T_api_Expr.iff.2 ⟨_, _, _, _, _, _, _, _, rfl, ka25_3, ra25_3, ka25_4, ra25_4, ka25_5, ra25_5, ka25_6, ra25_6⟩) rfl o45 d35 d0_1 (d36).symm
  · cases e
    exact ⟨_, _, _, _, S, rfl, rfl, o3⟩
set_option maxRecDepth 100000 in
theorem effect_Calls.l0_k.step_j0 (go : (p : effect_Calls.l0_k.Pt) → Option ((List ByteArray))) (ih : ∀ p r, go p = some r → effect_Calls.l0_k.I p r) (a3 : List ByteArray) (y5 : T_api_Expr) (a7 : List T_api_Expr) (x8 : Int) (x9 : Int) (b22 : Bool) (r : (List ByteArray)) (e : effect_Calls.l0_k.body go (.j0 a3 y5 a7 x8 x9 b22) = some r) : effect_Calls.l0_k.I (.j0 a3 y5 a7 x8 x9 b22) r := by
  unfold effect_Calls.l0_k.body at e
  intro h0 m0 h m A3 n3 c3 bk5 cs5 A7 n7 c7 S ne3 o3 o5 e5 ne7 o7 d0_1 d0_2 d1_2
  subst ne3
  obtain ⟨Ae5_3, ce5_3, Ae5_4, ce5_4, Ae5_5, ce5_5, Ae5_6, ce5_6, rfl, ke5_3, re5_3, ke5_4, re5_4, ke5_5, re5_5, ke5_6, re5_6⟩ := T_api_Expr.iff.1 e5
  subst ne7
  refine f38.j0_in ?_
  unfold f38.j0T
  refine split_any_e e (fun c91 e => ?_) (fun c91 e => ?_)
  · refine ⟨_, ldk (k := 2) (Sub.refl _) o5.all rfl, _, rfl, ?_⟩
    refine new_in S fun h63 o64 x65 => ?_
    have d68 : Dj (fp A3 c3) (fb (Array.size h)) := Dj.new o3.lt
    have d69 : Dj (fb bk5) (fb (Array.size h)) := Dj.new o5.lt
    have d70 : Dj (fp A7 c7) (fb (Array.size h)) := Dj.new o7.lt
    have o71 := o3.ext tell_str S.s x65
    have o72 := o5.ext x65
    have o73 := o7.ext T_api_Expr.T S.s x65
    have S66 := S.ext' x65
    have o64 : OB _ _ h63 _ (Array.size h) [(Value.string y5.Text)] 9 := o64
    have o74 : OS _ _ 1 eStr h63 m (some ⟨(Array.size h), 0, none⟩) ([y5.Text] : List ByteArray) 1 := OB.row o64 (CsE.cons (c1 := [(Value.string y5.Text)]) rfl rfl CsE.nil) rfl
    obtain ⟨l75, g76, e⟩ := bind_e e
    refine o71.app tell_str S66 rfl rfl (o74.srcE rfl) (by decide) g76 fun A77 c78 h79 o80 t81 n82 => ?_
    refine ⟨_, _, _, rfl, ?_⟩
    have d84 : Dj (fb bk5) (fp A77 c78) := Dj.app (d0_1).symm o72.lt n82
    have d85 : Dj (fp A7 c7) (fp A77 c78) := Dj.app (d0_2).symm o73.lt n82
    have d86 : Dj (fp (some ⟨(Array.size h), 0, none⟩) 1) (fp A77 c78) := Dj.app ((d68.row)).symm o74.lt n82
    have S87 := S66.then t81 (fun i _ hi => o71.wr i hi)
    have o88 := o72.step t81 d0_1
    have o89 := o73.step T_api_Expr.T t81 d0_2
    have o90 := o74.step tell_str t81 (d68.row)
    exact (ih _ _ e) _ _ _ _ _ _ _ _ _ _ S87 rfl o80 rfl o89 (d85).symm
  · exact (ih _ _ e) _ _ _ _ _ _ _ _ _ _ S rfl o3 rfl o7 d0_2
theorem effect_Calls.l0_k.all {p : effect_Calls.l0_k.Pt} {r : ((List ByteArray))} (e : effect_Calls.l0_k.go p = some r) : effect_Calls.l0_k.I p r := fixF_ind (β := fun _ => ((List ByteArray))) effect_Calls.l0_k.mono (I := effect_Calls.l0_k.I) (fun go ih p r e => match p with
  | .l0 a3 a7 x8 x9 => effect_Calls.l0_k.step_l0 go ih a3 a7 x8 x9 r e
  | .j0 a3 y5 a7 x8 x9 b22 => effect_Calls.l0_k.step_j0 go ih a3 y5 a7 x8 x9 b22 r e
  ) e
theorem effect_Calls.l0.walk {h0 m0 h m : Heap} {A3 : Option Addr} {n3 c3 : Nat} {A7 : Option Addr} {n7 c7 : Nat} {a3 : List ByteArray} {a7 : List T_api_Expr} {x8 : Int} {x9 : Int} (S : St No h0 m0 h m) (ne3 : n3 = List.length a3) (o3 : OS No h0 1 eStr h m A3 a3 c3) (ne7 : n7 = List.length a7) (o7 : OS No h0 8 T_api_Expr.E h m A7 a7 c7) (d0_1 : Dj (fp A3 c3) (fp A7 c7)) {r : (List ByteArray)} (e : effect_Calls.l0 a3 a7 x8 x9 = some r) : f38.l0 (effect_Calls.post No h0 m0 r) A3 n3 c3 A7 n7 c7 x8 x9 h := effect_Calls.l0_k.all (p := .l0 a3 a7 x8 x9) e h0 m0 h m A3 n3 c3 A7 n7 c7 S ne3 o3 ne7 o7 d0_1
theorem effect_Calls.j0.walk {h0 m0 h m : Heap} {A3 : Option Addr} {n3 c3 : Nat} {bk5 : Nat} {cs5 : List Value} {A7 : Option Addr} {n7 c7 : Nat} {a3 : List ByteArray} {y5 : T_api_Expr} {a7 : List T_api_Expr} {x8 : Int} {x9 : Int} {b22 : Bool} (S : St No h0 m0 h m) (ne3 : n3 = List.length a3) (o3 : OS No h0 1 eStr h m A3 a3 c3) (o5 : OB No h0 h m bk5 cs5 71) (e5 : T_api_Expr.E m y5 cs5) (ne7 : n7 = List.length a7) (o7 : OS No h0 8 T_api_Expr.E h m A7 a7 c7) (d0_1 : Dj (fp A3 c3) (fb bk5)) (d0_2 : Dj (fp A3 c3) (fp A7 c7)) (d1_2 : Dj (fb bk5) (fp A7 c7)) {r : (List ByteArray)} (e : effect_Calls.j0 a3 y5 a7 x8 x9 b22 = some r) : f38.j0 (effect_Calls.post No h0 m0 r) A3 n3 c3 (⟨bk5, 0, none⟩ : Addr) A7 n7 c7 x8 x9 b22 h := effect_Calls.l0_k.all (p := .j0 a3 y5 a7 x8 x9 b22) e h0 m0 h m A3 n3 c3 bk5 cs5 A7 n7 c7 S ne3 o3 o5 e5 ne7 o7 d0_1 d0_2 d1_2

noncomputable def effect_Calls (y0 : T_api_Expr) : Option ((List ByteArray)) :=
  Option.bind (tree_Walk y0) fun y6 => (effect_Calls.l0 ([] : List ByteArray) y6 (((List.length y6) : Nat) : Int) (0 : Int))
set_option maxRecDepth 100000 in
theorem effect_Calls.walk {h m : Heap} {cs0 : List Value} {y0 : T_api_Expr} (s : Sub m h) (e0 : T_api_Expr.E m y0 cs0) {r : (List ByteArray)} (e : effect_Calls y0 = some r) : Run Try.prog 38 #[Value.agg cs0.toArray] h (effect_Calls.post No h m r) := by
  unfold effect_Calls at e
  obtain ⟨Ae0_3, ce0_3, Ae0_4, ce0_4, Ae0_5, ce0_5, Ae0_6, ce0_6, rfl, ke0_3, re0_3, ke0_4, re0_4, ke0_5, re0_5, ke0_6, re0_6⟩ := T_api_Expr.iff.1 e0
  have S : St No h m h m := .refl s
  refine f38.run ?_
  unfold f38.runT
  refine new_in S fun h1 o2 x3 => ?_
  have S4 := S.ext' x3
  have o2 : OB _ _ h1 _ (Array.size h) [(Value.int .i64 y0.Kind), (Value.int .i64 y0.Num), (Value.string y0.Text), (Value.slice Ae0_3 (List.length y0.Names) ce0_3), (Value.slice Ae0_4 (List.length y0.Types) ce0_4), (Value.slice Ae0_5 (List.length y0.Args) ce0_5), (Value.slice Ae0_6 (List.length y0.Arms) ce0_6), (Value.int .i64 y0.At)] 71 := o2
  refine ⟨_, ldA (Sub.refl _) o2.all, ?_⟩
  obtain ⟨y6, g7, e⟩ := bind_e e
  refine (tree_Walk.walk S4.s (T_api_Expr.iff.2 ⟨_, _, _, _, _, _, _, _, rfl, ke0_3, re0_3, ke0_4, re0_4, ke0_5, re0_5, ke0_6, re0_6⟩) g7).mono ?_
  rintro _ h8 ⟨m9, A11, n12, c13, T10, rfl, ne14, o15⟩
  subst ne14
  have S17 := S4.grow T10
  have o18 := o2.step T10 Dj.no
  have d20 : Dj (fb (Array.size h)) (fp A11 c13) := fun i h1 h2 => absurd (o2.lt i h1) (Nat.not_lt.2 ((o15.new i h2).elim (fun h => h.elim) id))
  have o19 := o15.take S4 (fun _ h => h.elim)
  refine ⟨_, _, _, rfl, ?_⟩
  have o22 : OS No h 1 eStr h8 m9 none ([] : List ByteArray) 0 := .inl ⟨rfl, rfl⟩
  exact effect_Calls.l0.walk S17 rfl o22 rfl o19 ((show Dj (fp A11 c13) (fp none 0) from Dj.nil)).symm e

/-! ### 162 slices.IndexFunc[[]roadstead/api.Expr,roadstead/api.Expr] -/
def slices_IndexFunc_162.post (W : Nat → Prop) (h0 m0 : Heap) (r : Int) (v : Value) (h : Heap) : Prop := ∃ m , St W h0 m0 h m ∧ v = .int .i64 r
inductive slices_IndexFunc_162.l0_k.Pt where
  | l0 (a0 : List T_api_Expr) (p1 : T_api_Expr → Option Bool) (x7 : Int) (x8 : Int)
noncomputable def slices_IndexFunc_162.l0_k.body (go : (p : slices_IndexFunc_162.l0_k.Pt) → Option (Int)) : (p : slices_IndexFunc_162.l0_k.Pt) → Option (Int)
  | .l0 a0 p1 x7 x8 => if x8 < x7 then (Option.bind (gi a0 x8) fun y1 => Option.bind (p1 y1) fun y8 => if y8 = true then (some (x8)) else ((go (.l0 a0 p1 x7 (IntKind.wrap .i64 (x8 + (1 : Int))))))) else (some ((-1 : Int)))
theorem slices_IndexFunc_162.l0_k.mono : MonoF (β := fun _ => (Int)) slices_IndexFunc_162.l0_k.body := fun f g hfg p => match p with
  | .l0 a0 p1 x7 x8 => LeO.ite (LeO.bind (LeO.refl _) fun y1 => LeO.bind (LeO.refl _) fun y8 => LeO.ite (LeO.refl _) ((hfg _))) (LeO.refl _)
noncomputable def slices_IndexFunc_162.l0_k.go (p : slices_IndexFunc_162.l0_k.Pt) : Option (Int) := fixF (β := fun _ => (Int)) slices_IndexFunc_162.l0_k.body p
noncomputable def slices_IndexFunc_162.l0 (a0 : List T_api_Expr) (p1 : T_api_Expr → Option Bool) (x7 : Int) (x8 : Int) : Option (Int) := slices_IndexFunc_162.l0_k.go (.l0 a0 p1 x7 x8)
theorem slices_IndexFunc_162.l0_eq (a0 : List T_api_Expr) (p1 : T_api_Expr → Option Bool) (x7 : Int) (x8 : Int) : slices_IndexFunc_162.l0 a0 p1 x7 x8 = if x8 < x7 then (Option.bind (gi a0 x8) fun y1 => Option.bind (p1 y1) fun y8 => if y8 = true then (some (x8)) else ((slices_IndexFunc_162.l0 a0 p1 x7 (IntKind.wrap .i64 (x8 + (1 : Int)))))) else (some ((-1 : Int))) := fixF_eq slices_IndexFunc_162.l0_k.mono _
def slices_IndexFunc_162.l0_k.I : (p : slices_IndexFunc_162.l0_k.Pt) → (Int) → Prop
  | .l0 a0 p1 x7 x8, r => ∀ (h0 m0 h m : Heap) (A0 : Option Addr) (n0 c0 : Nat) (fv1 : Value) (S : St No h0 m0 h m) (ne0 : n0 = List.length a0) (k0 : List.length a0 ≤ c0) (r0 : Rd 8 T_api_Expr.E m A0 a0) (f1 : ∀ h' m', St No h0 m0 h' m' → ∀ (y0 : T_api_Expr) (cs0 : List Value) (_ : T_api_Expr.E m' y0 cs0) (r : Bool), p1 y0 = some r → CallF Try.prog fv1 [.agg cs0.toArray] h' (fun v h'' => v = .bool r ∧ Ext h' h'')), f162.l0 (slices_IndexFunc_162.post No h0 m0 r) A0 n0 c0 fv1 x7 x8 h
set_option maxRecDepth 100000 in
theorem slices_IndexFunc_162.l0_k.step_l0 (go : (p : slices_IndexFunc_162.l0_k.Pt) → Option (Int)) (ih : ∀ p r, go p = some r → slices_IndexFunc_162.l0_k.I p r) (a0 : List T_api_Expr) (p1 : T_api_Expr → Option Bool) (x7 : Int) (x8 : Int) (r : Int) (e : slices_IndexFunc_162.l0_k.body go (.l0 a0 p1 x7 x8) = some r) : slices_IndexFunc_162.l0_k.I (.l0 a0 p1 x7 x8) r := by
  unfold slices_IndexFunc_162.l0_k.body at e
  intro h0 m0 h m A0 n0 c0 fv1 S ne0 k0 r0 f1
  subst ne0
  refine f162.l0_in ?_
  unfold f162.l0T
  refine split_dec_e e (fun c14 e => ?_) (fun c14 e => ?_)
  · obtain ⟨y1, g2, e⟩ := bind_e e
    refine r0.addr rfl g2 fun a3 cs4 ha5 hc6 he7 => ?_
    obtain ⟨Aa3_3, ca3_3, Aa3_4, ca3_4, Aa3_5, ca3_5, Aa3_6, ca3_6, rfl, ka3_3, ra3_3, ka3_4, ra3_4, ka3_5, ra3_5, ka3_6, ra3_6⟩ := T_api_Expr.iff.1 he7
    refine ⟨_, ldA S.s hc6, ?_⟩
    obtain ⟨y8, g9, e⟩ := bind_e e
    refine CallF.mono (f1 _ _ S _ _ (T_api_Expr.iff.2 ⟨_, _, _, _, _, _, _, _, rfl, ka3_3, ra3_3, ka3_4, ra3_4, ka3_5, ra3_5, ka3_6, ra3_6⟩) _ g9) ?_
    rintro _ h10 ⟨rfl, x11⟩
    refine ⟨_, rfl, ?_⟩
    have S12 := S.ext' x11
    refine split_any_e e (fun c13 e => ?_) (fun c13 e => ?_)
    · cases e
      exact ⟨_, S12, rfl⟩
    · exact (ih _ _ e) _ _ _ _ _ _ _ _ S12 rfl k0 r0 f1
  · cases e
    exact ⟨_, S, rfl⟩
theorem slices_IndexFunc_162.l0_k.all {p : slices_IndexFunc_162.l0_k.Pt} {r : (Int)} (e : slices_IndexFunc_162.l0_k.go p = some r) : slices_IndexFunc_162.l0_k.I p r := fixF_ind (β := fun _ => (Int)) slices_IndexFunc_162.l0_k.mono (I := slices_IndexFunc_162.l0_k.I) (fun go ih p r e => match p with
  | .l0 a0 p1 x7 x8 => slices_IndexFunc_162.l0_k.step_l0 go ih a0 p1 x7 x8 r e
  ) e
theorem slices_IndexFunc_162.l0.walk {h0 m0 h m : Heap} {A0 : Option Addr} {n0 c0 : Nat} {fv1 : Value} {a0 : List T_api_Expr} {p1 : T_api_Expr → Option Bool} {x7 : Int} {x8 : Int} (S : St No h0 m0 h m) (ne0 : n0 = List.length a0) (k0 : List.length a0 ≤ c0) (r0 : Rd 8 T_api_Expr.E m A0 a0) (f1 : ∀ h' m', St No h0 m0 h' m' → ∀ (y0 : T_api_Expr) (cs0 : List Value) (_ : T_api_Expr.E m' y0 cs0) (r : Bool), p1 y0 = some r → CallF Try.prog fv1 [.agg cs0.toArray] h' (fun v h'' => v = .bool r ∧ Ext h' h'')) {r : Int} (e : slices_IndexFunc_162.l0 a0 p1 x7 x8 = some r) : f162.l0 (slices_IndexFunc_162.post No h0 m0 r) A0 n0 c0 fv1 x7 x8 h := slices_IndexFunc_162.l0_k.all (p := .l0 a0 p1 x7 x8) e h0 m0 h m A0 n0 c0 fv1 S ne0 k0 r0 f1

noncomputable def slices_IndexFunc_162 (a0 : List T_api_Expr) (p1 : T_api_Expr → Option Bool) : Option (Int) :=
  (slices_IndexFunc_162.l0 a0 p1 (((List.length a0) : Nat) : Int) (0 : Int))
set_option maxRecDepth 100000 in
theorem slices_IndexFunc_162.walk {h m : Heap} {A0 : Option Addr} {n0 c0 : Nat} {fv1 : Value} {a0 : List T_api_Expr} {p1 : T_api_Expr → Option Bool} (s : Sub m h) (ne0 : n0 = List.length a0) (k0 : List.length a0 ≤ c0) (r0 : Rd 8 T_api_Expr.E m A0 a0) (f1 : ∀ h' m', St No h m h' m' → ∀ (y0 : T_api_Expr) (cs0 : List Value) (_ : T_api_Expr.E m' y0 cs0) (r : Bool), p1 y0 = some r → CallF Try.prog fv1 [.agg cs0.toArray] h' (fun v h'' => v = .bool r ∧ Ext h' h'')) {r : Int} (e : slices_IndexFunc_162 a0 p1 = some r) : Run Try.prog 162 #[Value.slice A0 n0 c0, fv1] h (slices_IndexFunc_162.post No h m r) := by
  unfold slices_IndexFunc_162 at e
  subst ne0
  have S : St No h m h m := .refl s
  refine f162.run ?_
  unfold f162.runT
  exact slices_IndexFunc_162.l0.walk S rfl k0 r0 f1 e
theorem slices_IndexFunc_162.val {l : List T_api_Expr} {p : T_api_Expr → Option Bool} (q : T_api_Expr → Bool) (hp : ∀ x ∈ l, p x = some (q x)) (hl : l.length ≤ 4611686018427387904) : slices_IndexFunc_162 l p = some (idxOf q l) := find_val (fun a p n i => slices_IndexFunc_162.l0_eq a p n i) q hp hl

/-! ### 158 slices.ContainsFunc[[]roadstead/api.Expr,roadstead/api.Expr] -/
def slices_ContainsFunc_158.post (W : Nat → Prop) (h0 m0 : Heap) (r : Bool) (v : Value) (h : Heap) : Prop := ∃ m , St W h0 m0 h m ∧ v = .bool r
noncomputable def slices_ContainsFunc_158 (a0 : List T_api_Expr) (p1 : T_api_Expr → Option Bool) : Option (Bool) :=
  Option.bind (slices_IndexFunc_162 a0 p1) fun y1 => some ((decide (y1 ≥ (0 : Int))))
set_option maxRecDepth 100000 in
theorem slices_ContainsFunc_158.walk {h m : Heap} {A0 : Option Addr} {n0 c0 : Nat} {fv1 : Value} {a0 : List T_api_Expr} {p1 : T_api_Expr → Option Bool} (s : Sub m h) (ne0 : n0 = List.length a0) (k0 : List.length a0 ≤ c0) (r0 : Rd 8 T_api_Expr.E m A0 a0) (f1 : ∀ h' m', St No h m h' m' → ∀ (y0 : T_api_Expr) (cs0 : List Value) (_ : T_api_Expr.E m' y0 cs0) (r : Bool), p1 y0 = some r → CallF Try.prog fv1 [.agg cs0.toArray] h' (fun v h'' => v = .bool r ∧ Ext h' h'')) {r : Bool} (e : slices_ContainsFunc_158 a0 p1 = some r) : Run Try.prog 158 #[Value.slice A0 n0 c0, fv1] h (slices_ContainsFunc_158.post No h m r) := by
  unfold slices_ContainsFunc_158 at e
  subst ne0
  have S : St No h m h m := .refl s
  refine f158.run ?_
  unfold f158.runT
  obtain ⟨y1, g2, e⟩ := bind_e e
  refine (slices_IndexFunc_162.walk S.s rfl k0 r0 f1 g2).mono ?_
  rintro _ h3 ⟨m4, T5, rfl⟩
  have S6 := S.grow T5
  refine ⟨_, rfl, ?_⟩
  cases e
  exact ⟨_, S6, rfl⟩
theorem slices_ContainsFunc_158.val {l : List T_api_Expr} {p : T_api_Expr → Option Bool} (q : T_api_Expr → Bool) (hp : ∀ x ∈ l, p x = some (q x)) (hl : l.length ≤ 4611686018427387904) : slices_ContainsFunc_158 l p = some (l.any q) := findB_val (fun a p n i => slices_IndexFunc_162.l0_eq a p n i) (fun _ _ => rfl) (fun _ _ => rfl) q hp hl

/-! ### 159 roadstead/effect.applies$1 -/
def effect_applies_1.post (W : Nat → Prop) (h0 m0 : Heap) (r : Bool) (v : Value) (h : Heap) : Prop := ∃ m , St W h0 m0 h m ∧ v = .bool r
noncomputable def effect_applies_1 (y0 : T_api_Expr) : Option (Bool) :=
  some ((y0.Kind == (11 : Int)))
set_option maxRecDepth 100000 in
theorem effect_applies_1.walk {h m : Heap} {cs0 : List Value} {y0 : T_api_Expr} (s : Sub m h) (e0 : T_api_Expr.E m y0 cs0) {r : Bool} (e : effect_applies_1 y0 = some r) : Run Try.prog 159 #[Value.agg cs0.toArray] h (effect_applies_1.post No h m r) := by
  unfold effect_applies_1 at e
  obtain ⟨Ae0_3, ce0_3, Ae0_4, ce0_4, Ae0_5, ce0_5, Ae0_6, ce0_6, rfl, ke0_3, re0_3, ke0_4, re0_4, ke0_5, re0_5, ke0_6, re0_6⟩ := T_api_Expr.iff.1 e0
  have S : St No h m h m := .refl s
  refine f159.run ?_
  unfold f159.runT
  refine new_in S fun h1 o2 x3 => ?_
  have S4 := S.ext' x3
  have o2 : OB _ _ h1 _ (Array.size h) [(Value.int .i64 y0.Kind), (Value.int .i64 y0.Num), (Value.string y0.Text), (Value.slice Ae0_3 (List.length y0.Names) ce0_3), (Value.slice Ae0_4 (List.length y0.Types) ce0_4), (Value.slice Ae0_5 (List.length y0.Args) ce0_5), (Value.slice Ae0_6 (List.length y0.Arms) ce0_6), (Value.int .i64 y0.At)] 71 := o2
  refine ⟨_, ld0 (Sub.refl _) o2.all rfl, _, rfl, ?_⟩
  cases e
  exact ⟨_, S4, rfl⟩

/-! ### 135 roadstead/effect.applies -/
def effect_applies.post (W : Nat → Prop) (h0 m0 : Heap) (r : Bool) (v : Value) (h : Heap) : Prop := ∃ m , St W h0 m0 h m ∧ v = .bool r
noncomputable def effect_applies (y0 : T_api_Expr) : Option (Bool) :=
  Option.bind (tree_Walk y0) fun y6 => Option.bind (slices_ContainsFunc_158 y6 (fun z31 => effect_applies_1 z31)) fun y21 => some (y21)
set_option maxRecDepth 100000 in
theorem effect_applies.walk {h m : Heap} {cs0 : List Value} {y0 : T_api_Expr} (s : Sub m h) (e0 : T_api_Expr.E m y0 cs0) {r : Bool} (e : effect_applies y0 = some r) : Run Try.prog 135 #[Value.agg cs0.toArray] h (effect_applies.post No h m r) := by
  unfold effect_applies at e
  obtain ⟨Ae0_3, ce0_3, Ae0_4, ce0_4, Ae0_5, ce0_5, Ae0_6, ce0_6, rfl, ke0_3, re0_3, ke0_4, re0_4, ke0_5, re0_5, ke0_6, re0_6⟩ := T_api_Expr.iff.1 e0
  have S : St No h m h m := .refl s
  refine f135.run ?_
  unfold f135.runT
  refine new_in S fun h1 o2 x3 => ?_
  have S4 := S.ext' x3
  have o2 : OB _ _ h1 _ (Array.size h) [(Value.int .i64 y0.Kind), (Value.int .i64 y0.Num), (Value.string y0.Text), (Value.slice Ae0_3 (List.length y0.Names) ce0_3), (Value.slice Ae0_4 (List.length y0.Types) ce0_4), (Value.slice Ae0_5 (List.length y0.Args) ce0_5), (Value.slice Ae0_6 (List.length y0.Arms) ce0_6), (Value.int .i64 y0.At)] 71 := o2
  refine ⟨_, ldA (Sub.refl _) o2.all, ?_⟩
  obtain ⟨y6, g7, e⟩ := bind_e e
  refine (tree_Walk.walk S4.s (T_api_Expr.iff.2 ⟨_, _, _, _, _, _, _, _, rfl, ke0_3, re0_3, ke0_4, re0_4, ke0_5, re0_5, ke0_6, re0_6⟩) g7).mono ?_
  rintro _ h8 ⟨m9, A11, n12, c13, T10, rfl, ne14, o15⟩
  subst ne14
  have S17 := S4.grow T10
  have o18 := o2.step T10 Dj.no
  have d20 : Dj (fb (Array.size h)) (fp A11 c13) := fun i h1 h2 => absurd (o2.lt i h1) (Nat.not_lt.2 ((o15.new i h2).elim (fun h => h.elim) id))
  have o19 := o15.take S4 (fun _ h => h.elim)
  refine ⟨_, _, _, rfl, ?_⟩
  obtain ⟨y21, g22, e⟩ := bind_e e
  obtain ⟨m26, L27, u28, s29, t30⟩ := St.lend S17.s (fp A11 c13)
  refine (slices_ContainsFunc_158.walk s29 rfl o19.cap (o19.lent T_api_Expr.T S17.s L27 (fun _ h => h)) (fun h32 m33 s34 y37 cs37 he37 r35 e36 => CallF.of [Value.agg cs37.toArray] f159.ok rfl ((effect_applies_1.walk s34.s he37 e36).mono (fun _ _ h => let ⟨_, t, e⟩ := h; ⟨e, t.ext⟩))) g22).mono ?_
  rintro _ h23 ⟨m24, T25, rfl⟩
  have T38 := T25.unlend S17.s (fun _ h => h.elim)
  have S39 := S17.grow T38
  have o40 := o18.step T38 Dj.no
  have o41 := o19.step T_api_Expr.T T38 Dj.no
  refine ⟨_, rfl, ?_⟩
  cases e
  exact ⟨_, S39, rfl⟩

end Go.Proofs.Ytilmfjdagnbbaab.Fw
