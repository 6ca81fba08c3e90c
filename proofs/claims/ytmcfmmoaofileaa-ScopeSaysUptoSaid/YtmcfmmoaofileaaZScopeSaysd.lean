/- Part 4: what the law ScopeSays needs, put together out of texts of this session. -/
import Derived.Test.YtmcfmmoaofileaaZScopeSaysc
section
namespace Go.Proofs.Ytmcfmmoaofileaa.Fw
open Go Go.Hw Go.Proofs
set_option linter.unusedVariables false
set_option maxRecDepth 100000
set_option synthInstance.maxHeartbeats 400000
set_option synthInstance.maxSize 1000
structure T_api_Use where
  Name : ByteArray
  Low : Int
  High : Int
def T_api_Use.E (h : Heap) (x : T_api_Use) (cs : List Value) : Prop := cs = [.string x.Name, .int .i64 x.Low, .int .i64 x.High]
theorem T_api_Use.T : Tell 3 T_api_Use.E := ⟨by rintro m h x _ s rfl; exact rfl, by rintro h x _ rfl; rfl, by rintro h x _ rfl; exact Flats.cons trivial (Flats.cons trivial (Flats.cons trivial Flats.nil))⟩
def T_api_Use.Q (x : T_api_Use) : Prop := (x.Name.size ≤ 140737488351232) ∧ (-9223372036854775808 ≤ x.Low ∧ x.Low ≤ 9223372036854775807) ∧ (-9223372036854775808 ≤ x.High ∧ x.High ≤ 9223372036854775807)
theorem T_api_Use.tells {H : Type} {enc : TypeId × Value → H} {W : World} : Tells enc Try.prog W 213 T_api_Use.E T_api_Use.Q := tells_map (tells_struct (t := 213) (fs := [(9, 0), (3, 1), (3, 2)]) (T := 3) (by kernel_rfl) (by kernel_rfl) (tf_cons (s := 1) (f := 9) (by kernel_rfl) (tells_strL (t := 9) (by kernel_rfl)) (tf_cons (s := 1) (f := 3) (by kernel_rfl) (tells_i64 (t := 3) (by kernel_rfl)) (tf_cons (s := 1) (f := 3) (by kernel_rfl) (tells_i64 (t := 3) (by kernel_rfl)) tf_nil)))) (by
  rintro ⟨x0, x1, x2, ⟨⟩⟩ cs e q
  obtain ⟨c0, r0, rfl, e0, c1, r1, rfl, e1, c2, r2, rfl, e2, eN⟩ := e
  obtain rfl : c0 = [.string x0] := e0
  obtain rfl : c1 = [.int .i64 x1] := e1
  obtain rfl : c2 = [.int .i64 x2] := e2
  obtain rfl : r2 = [] := eN
  exact ⟨⟨x0, x1, x2⟩, rfl, q.1, q.2.1, q.2.2.1⟩)
def T_api_Use.bulk (x : T_api_Use) : Nat := ((x.Name.size + 1) + (1 + (1 + (0)))) + 1
theorem T_api_Use.kt {H : Type} {bk : DataW H → Nat} {enc : TypeId × Value → H} {W : World} {N : Nat} (M : Measure bk) : KT N bk enc Try.prog W 213 T_api_Use.E T_api_Use.bulk := kt_down (kt_map (kt_struct M (t := 213) (fs := [(9, 0), (3, 1), (3, 2)]) (T := 3) (by kernel_rfl) (by kernel_rfl) (ktf_cons (s := 1) (f := 9) (by kernel_rfl) tell_str (kt_str (t := 9) M (by kernel_rfl)) (ktf_cons (s := 1) (f := 3) (by kernel_rfl) (tell_int .i64) (kt_one M) (ktf_cons (s := 1) (f := 3) (by kernel_rfl) (tell_int .i64) (kt_one M) ktf_nil)))) (fun x cs e => by
  obtain rfl := e
  exact ⟨(x.Name, x.Low, x.High, ()), ⟨[.string x.Name], _, rfl, rfl, ⟨[.int .i64 x.Low], _, rfl, rfl, ⟨[.int .i64 x.High], _, rfl, rfl, rfl⟩⟩⟩, Nat.le_refl _⟩))
structure T_api_Type where
  Kind : Int
  Name : ByteArray
  Args : (List T_api_Type)
def T_api_Type.E (h : Heap) : T_api_Type → List Value → Prop
  | ⟨f0, f1, f2⟩, cs => ∃ A2 c2, cs = [.int .i64 f0, .string f1, .slice A2 f2.length c2] ∧ f2.length ≤ c2 ∧ (∀ i (hi : i < f2.length), ∃ a ds, A2 = some a ∧ cellsH h (a.add (i * 3)) 0 3 = some ds ∧ T_api_Type.E h f2[i] ds)
  termination_by x => SizeOf.sizeOf x
  decreasing_by
    all_goals
      have h1 := List.sizeOf_lt_of_mem (List.getElem_mem hi)
      first
      | (simp_all; omega)
theorem T_api_Type.iff {h : Heap} {x : T_api_Type} {cs : List Value} : T_api_Type.E h x cs ↔ ∃ A2 c2, cs = [.int .i64 x.Kind, .string x.Name, .slice A2 x.Args.length c2] ∧ x.Args.length ≤ c2 ∧ Rd 3 T_api_Type.E h A2 x.Args := by
  cases x
  rw [T_api_Type.E]
  exact Iff.rfl
theorem T_api_Type.mono {m h : Heap} (s : Sub m h) : ∀ (x : T_api_Type) (cs : List Value), T_api_Type.E m x cs → T_api_Type.E h x cs
  | ⟨f0, f1, f2⟩, cs, e => by
    rw [T_api_Type.E] at e ⊢
    obtain ⟨A2, c2, h1, k2, r2⟩ := e
    exact ⟨A2, c2, h1, k2, fun i hi => let ⟨a, ds, h1, h2, h3⟩ := r2 i hi; ⟨a, ds, h1, s.cells _ _ h2, T_api_Type.mono s _ _ h3⟩⟩
  termination_by x => SizeOf.sizeOf x
  decreasing_by
    all_goals
      have h1 := List.sizeOf_lt_of_mem (List.getElem_mem hi)
      first
      | (simp_all; omega)
theorem T_api_Type.T : Tell 3 T_api_Type.E := ⟨fun _ _ x cs s e => T_api_Type.mono s x cs e, by intro h x cs e; obtain ⟨A2, c2, rfl, k2, r2⟩ := T_api_Type.iff.1 e; rfl, by intro h x cs e; obtain ⟨A2, c2, rfl, k2, r2⟩ := T_api_Type.iff.1 e; exact Flats.cons trivial (Flats.cons trivial (Flats.cons trivial Flats.nil))⟩
def T_api_Type.Q : T_api_Type → Prop
  | ⟨f0, f1, f2⟩ => (-9223372036854775808 ≤ f0 ∧ f0 ≤ 9223372036854775807) ∧ (f1.size ≤ 140737488351232) ∧ (f2.length * 48 ≤ 140737488351232 ∧ ∀ i (hi : i < f2.length), T_api_Type.Q f2[i])
  termination_by x => SizeOf.sizeOf x
  decreasing_by
    all_goals
      have h1 := List.sizeOf_lt_of_mem (List.getElem_mem hi)
      first
      | (simp_all; omega)
theorem T_api_Type.Q_iff {x : T_api_Type} : T_api_Type.Q x ↔ (-9223372036854775808 ≤ x.Kind ∧ x.Kind ≤ 9223372036854775807) ∧ (x.Name.size ≤ 140737488351232) ∧ (x.Args.length * 48 ≤ 140737488351232 ∧ ∀ a ∈ x.Args, T_api_Type.Q a) := by
  obtain ⟨f0, f1, f2⟩ := x
  rw [T_api_Type.Q]
  show _ ↔ (-9223372036854775808 ≤ f0 ∧ f0 ≤ 9223372036854775807) ∧ (f1.size ≤ 140737488351232) ∧ (f2.length * 48 ≤ 140737488351232 ∧ ∀ a ∈ f2, T_api_Type.Q a)
  rw [← forall_get (l := f2) (p := T_api_Type.Q)]
theorem T_api_Type.tells {H : Type} {enc : TypeId × Value → H} {W : World} : Tells enc Try.prog W 209 T_api_Type.E T_api_Type.Q := tells_rec fun N ih => tellsU_map (tellsU_struct (t := 209) (fs := [(3, 0), (9, 1), (149, 2)]) (T := 3) (by kernel_rfl) (by kernel_rfl) (tfU_cons (s := 1) (f := 3) (by kernel_rfl) (Tells.up (tells_i64 (t := 3) (by kernel_rfl))) (tfU_cons (s := 1) (f := 9) (by kernel_rfl) (Tells.up (tells_strL (t := 9) (by kernel_rfl))) (tfU_cons (s := 1) (f := 149) (by kernel_rfl) (tellsU_slice (t := 149) (e := 209) (sz := 3) (B := 48) (by kernel_rfl) (by kernel_rfl) (by kernel_rfl) ih) tfU_nil)))) (by
  rintro ⟨x0, x1, x2, ⟨⟩⟩ cs e q
  obtain ⟨c0, r0, rfl, e0, c1, r1, rfl, e1, c2, r2, rfl, e2, eN⟩ := e
  obtain rfl : c0 = [.int .i64 x0] := e0
  obtain rfl : c1 = [.string x1] := e1
  obtain ⟨A2, k2, rfl, l2, R2⟩ := e2
  obtain rfl : r2 = [] := eN
  exact ⟨⟨x0, x1, x2⟩, T_api_Type.iff.2 ⟨_, _, rfl, l2, R2⟩, T_api_Type.Q_iff.2 ⟨q.1, q.2.1, q.2.2.1⟩⟩)
def T_api_Type.bulk : T_api_Type → Nat
  | ⟨f0, f1, f2⟩ => (1 + ((f1.size + 1) + (((f2.attach.map fun y => T_api_Type.bulk y.1).sum + 1) + (0)))) + 1
  termination_by x => SizeOf.sizeOf x
  decreasing_by
    all_goals
      have h1 := List.sizeOf_lt_of_mem y.2
      first
      | (simp_all; omega)
theorem T_api_Type.bulk_eq (x : T_api_Type) : T_api_Type.bulk x = (1 + ((x.Name.size + 1) + (((List.map T_api_Type.bulk x.Args).sum + 1) + (0)))) + 1 := by
  obtain ⟨f0, f1, f2⟩ := x
  rw [T_api_Type.bulk]
  rw [(List.attach_map_val : (f2.attach.map fun i => T_api_Type.bulk i.1) = f2.map T_api_Type.bulk)]
theorem T_api_Type.kt {H : Type} {bk : DataW H → Nat} {enc : TypeId × Value → H} {W : World} {N : Nat} (M : Measure bk) : KT N bk enc Try.prog W 209 T_api_Type.E T_api_Type.bulk := kt_rec (fun N ih => kt_map (kt_struct M (t := 209) (fs := [(3, 0), (9, 1), (149, 2)]) (T := 3) (by kernel_rfl) (by kernel_rfl) (ktf_cons (s := 1) (f := 3) (by kernel_rfl) (tell_int .i64) (kt_one M) (ktf_cons (s := 1) (f := 9) (by kernel_rfl) tell_str (kt_str (t := 9) M (by kernel_rfl)) (ktf_cons (s := 1) (f := 149) (by kernel_rfl) (tell_row T_api_Type.T) (kt_slice M (t := 149) (e := 209) (sz := 3) (by kernel_rfl) (by kernel_rfl) ih) ktf_nil)))) (fun x cs e => by
  obtain ⟨A2, c2, rfl, k2, r2⟩ := T_api_Type.iff.1 e
  exact ⟨(x.Kind, x.Name, x.Args, ()), ⟨[.int .i64 x.Kind], _, rfl, rfl, ⟨[.string x.Name], _, rfl, rfl, ⟨[.slice A2 x.Args.length c2], _, rfl, ⟨_, _, rfl, k2, r2⟩, rfl⟩⟩⟩, by rw [T_api_Type.bulk_eq]; exact Nat.le_refl _⟩)) N
structure T_api_Make where
  Name : ByteArray
  Args : (List T_api_Type)
def T_api_Make.E (h : Heap) (x : T_api_Make) (cs : List Value) : Prop := ∃ A1 c1, cs = [.string x.Name, .slice A1 x.Args.length c1] ∧ x.Args.length ≤ c1 ∧ Rd 3 T_api_Type.E h A1 x.Args
theorem T_api_Make.T : Tell 2 T_api_Make.E := ⟨by rintro m h x _ s ⟨A1, c1, rfl, k1, r1⟩; exact ⟨_, _, rfl, k1, r1.sub T_api_Type.T s⟩, by rintro h x _ ⟨A1, c1, rfl, k1, r1⟩; rfl, by rintro h x _ ⟨A1, c1, rfl, k1, r1⟩; exact Flats.cons trivial (Flats.cons trivial Flats.nil)⟩
def T_api_Make.Q (x : T_api_Make) : Prop := (x.Name.size ≤ 140737488351232) ∧ (x.Args.length * 48 ≤ 140737488351232 ∧ ∀ a ∈ x.Args, (T_api_Type.Q a))
theorem T_api_Make.tells {H : Type} {enc : TypeId × Value → H} {W : World} : Tells enc Try.prog W 222 T_api_Make.E T_api_Make.Q := tells_map (tells_struct (t := 222) (fs := [(9, 0), (149, 1)]) (T := 2) (by kernel_rfl) (by kernel_rfl) (tf_cons (s := 1) (f := 9) (by kernel_rfl) (tells_strL (t := 9) (by kernel_rfl)) (tf_cons (s := 1) (f := 149) (by kernel_rfl) (tells_sliceL (t := 149) (e := 209) (sz := 3) (B := 48) (by kernel_rfl) (by kernel_rfl) (by kernel_rfl) T_api_Type.tells) tf_nil))) (by
  rintro ⟨x0, x1, ⟨⟩⟩ cs e q
  obtain ⟨c0, r0, rfl, e0, c1, r1, rfl, e1, eN⟩ := e
  obtain rfl : c0 = [.string x0] := e0
  obtain ⟨A1, k1, rfl, l1, R1⟩ := e1
  obtain rfl : r1 = [] := eN
  exact ⟨⟨x0, x1⟩, ⟨_, _, rfl, l1, R1⟩, q.1, q.2.1⟩)
def T_api_Make.bulk (x : T_api_Make) : Nat := ((x.Name.size + 1) + (((List.map T_api_Type.bulk x.Args).sum + 1) + (0))) + 1
theorem T_api_Make.kt {H : Type} {bk : DataW H → Nat} {enc : TypeId × Value → H} {W : World} {N : Nat} (M : Measure bk) : KT N bk enc Try.prog W 222 T_api_Make.E T_api_Make.bulk := kt_down (kt_map (kt_struct M (t := 222) (fs := [(9, 0), (149, 1)]) (T := 2) (by kernel_rfl) (by kernel_rfl) (ktf_cons (s := 1) (f := 9) (by kernel_rfl) tell_str (kt_str (t := 9) M (by kernel_rfl)) (ktf_cons (s := 1) (f := 149) (by kernel_rfl) (tell_row T_api_Type.T) (kt_slice M (t := 149) (e := 209) (sz := 3) (by kernel_rfl) (by kernel_rfl) (T_api_Type.kt M)) ktf_nil))) (fun x cs e => by
  obtain ⟨A1, c1, rfl, k1, r1⟩ := e
  exact ⟨(x.Name, x.Args, ()), ⟨[.string x.Name], _, rfl, rfl, ⟨[.slice A1 x.Args.length c1], _, rfl, ⟨_, _, rfl, k1, r1⟩, rfl⟩⟩, Nat.le_refl _⟩))
structure T_api_Data where
  Name : ByteArray
  Params : (List ByteArray)
  Makes : (List T_api_Make)
def T_api_Data.E (h : Heap) (x : T_api_Data) (cs : List Value) : Prop := ∃ A1 c1 A2 c2, cs = [.string x.Name, .slice A1 x.Params.length c1, .slice A2 x.Makes.length c2] ∧ x.Params.length ≤ c1 ∧ Rd 1 eStr h A1 x.Params ∧ x.Makes.length ≤ c2 ∧ Rd 2 T_api_Make.E h A2 x.Makes
theorem T_api_Data.T : Tell 3 T_api_Data.E := ⟨by rintro m h x _ s ⟨A1, c1, A2, c2, rfl, k1, r1, k2, r2⟩; exact ⟨_, _, _, _, rfl, k1, r1.sub tell_str s, k2, r2.sub T_api_Make.T s⟩, by rintro h x _ ⟨A1, c1, A2, c2, rfl, k1, r1, k2, r2⟩; rfl, by rintro h x _ ⟨A1, c1, A2, c2, rfl, k1, r1, k2, r2⟩; exact Flats.cons trivial (Flats.cons trivial (Flats.cons trivial Flats.nil))⟩
def T_api_Data.Q (x : T_api_Data) : Prop := (x.Name.size ≤ 140737488351232) ∧ (x.Params.length * 16 ≤ 140737488351232 ∧ ∀ a ∈ x.Params, (a.size ≤ 140737488351232)) ∧ (x.Makes.length * 40 ≤ 140737488351232 ∧ ∀ a ∈ x.Makes, (T_api_Make.Q a))
theorem T_api_Data.tells {H : Type} {enc : TypeId × Value → H} {W : World} : Tells enc Try.prog W 216 T_api_Data.E T_api_Data.Q := tells_map (tells_struct (t := 216) (fs := [(9, 0), (136, 1), (214, 2)]) (T := 3) (by kernel_rfl) (by kernel_rfl) (tf_cons (s := 1) (f := 9) (by kernel_rfl) (tells_strL (t := 9) (by kernel_rfl)) (tf_cons (s := 1) (f := 136) (by kernel_rfl) (tells_sliceL (t := 136) (e := 9) (sz := 1) (B := 16) (by kernel_rfl) (by kernel_rfl) (by kernel_rfl) (tells_strL (t := 9) (by kernel_rfl))) (tf_cons (s := 1) (f := 214) (by kernel_rfl) (tells_sliceL (t := 214) (e := 222) (sz := 2) (B := 40) (by kernel_rfl) (by kernel_rfl) (by kernel_rfl) T_api_Make.tells) tf_nil)))) (by
  rintro ⟨x0, x1, x2, ⟨⟩⟩ cs e q
  obtain ⟨c0, r0, rfl, e0, c1, r1, rfl, e1, c2, r2, rfl, e2, eN⟩ := e
  obtain rfl : c0 = [.string x0] := e0
  obtain ⟨A1, k1, rfl, l1, R1⟩ := e1
  obtain ⟨A2, k2, rfl, l2, R2⟩ := e2
  obtain rfl : r2 = [] := eN
  exact ⟨⟨x0, x1, x2⟩, ⟨_, _, _, _, rfl, l1, R1, l2, R2⟩, q.1, q.2.1, q.2.2.1⟩)
def T_api_Data.bulk (x : T_api_Data) : Nat := ((x.Name.size + 1) + (((List.map (fun s : ByteArray => s.size + 1) x.Params).sum + 1) + (((List.map T_api_Make.bulk x.Makes).sum + 1) + (0)))) + 1
theorem T_api_Data.kt {H : Type} {bk : DataW H → Nat} {enc : TypeId × Value → H} {W : World} {N : Nat} (M : Measure bk) : KT N bk enc Try.prog W 216 T_api_Data.E T_api_Data.bulk := kt_down (kt_map (kt_struct M (t := 216) (fs := [(9, 0), (136, 1), (214, 2)]) (T := 3) (by kernel_rfl) (by kernel_rfl) (ktf_cons (s := 1) (f := 9) (by kernel_rfl) tell_str (kt_str (t := 9) M (by kernel_rfl)) (ktf_cons (s := 1) (f := 136) (by kernel_rfl) (tell_row tell_str) (kt_slice M (t := 136) (e := 9) (sz := 1) (by kernel_rfl) (by kernel_rfl) (kt_str (t := 9) M (by kernel_rfl))) (ktf_cons (s := 1) (f := 214) (by kernel_rfl) (tell_row T_api_Make.T) (kt_slice M (t := 214) (e := 222) (sz := 2) (by kernel_rfl) (by kernel_rfl) (T_api_Make.kt M)) ktf_nil)))) (fun x cs e => by
  obtain ⟨A1, c1, A2, c2, rfl, k1, r1, k2, r2⟩ := e
  exact ⟨(x.Name, x.Params, x.Makes, ()), ⟨[.string x.Name], _, rfl, rfl, ⟨[.slice A1 x.Params.length c1], _, rfl, ⟨_, _, rfl, k1, r1⟩, ⟨[.slice A2 x.Makes.length c2], _, rfl, ⟨_, _, rfl, k2, r2⟩, rfl⟩⟩⟩, Nat.le_refl _⟩))
structure T_api_Pat where
  Kind : Int
  Num : Int
  Text : ByteArray
  Args : (List T_api_Pat)
def T_api_Pat.E (h : Heap) : T_api_Pat → List Value → Prop
  | ⟨f0, f1, f2, f3⟩, cs => ∃ A3 c3, cs = [.int .i64 f0, .int .i64 f1, .string f2, .slice A3 f3.length c3] ∧ f3.length ≤ c3 ∧ (∀ i (hi : i < f3.length), ∃ a ds, A3 = some a ∧ cellsH h (a.add (i * 4)) 0 4 = some ds ∧ T_api_Pat.E h f3[i] ds)
  termination_by x => SizeOf.sizeOf x
  decreasing_by
    all_goals
      have h1 := List.sizeOf_lt_of_mem (List.getElem_mem hi)
      first
      | (simp_all; omega)
theorem T_api_Pat.iff {h : Heap} {x : T_api_Pat} {cs : List Value} : T_api_Pat.E h x cs ↔ ∃ A3 c3, cs = [.int .i64 x.Kind, .int .i64 x.Num, .string x.Text, .slice A3 x.Args.length c3] ∧ x.Args.length ≤ c3 ∧ Rd 4 T_api_Pat.E h A3 x.Args := by
  cases x
  rw [T_api_Pat.E]
  exact Iff.rfl
theorem T_api_Pat.mono {m h : Heap} (s : Sub m h) : ∀ (x : T_api_Pat) (cs : List Value), T_api_Pat.E m x cs → T_api_Pat.E h x cs
  | ⟨f0, f1, f2, f3⟩, cs, e => by
    rw [T_api_Pat.E] at e ⊢
    obtain ⟨A3, c3, h1, k3, r3⟩ := e
    exact ⟨A3, c3, h1, k3, fun i hi => let ⟨a, ds, h1, h2, h3⟩ := r3 i hi; ⟨a, ds, h1, s.cells _ _ h2, T_api_Pat.mono s _ _ h3⟩⟩
  termination_by x => SizeOf.sizeOf x
  decreasing_by
    all_goals
      have h1 := List.sizeOf_lt_of_mem (List.getElem_mem hi)
      first
      | (simp_all; omega)
theorem T_api_Pat.T : Tell 4 T_api_Pat.E := ⟨fun _ _ x cs s e => T_api_Pat.mono s x cs e, by intro h x cs e; obtain ⟨A3, c3, rfl, k3, r3⟩ := T_api_Pat.iff.1 e; rfl, by intro h x cs e; obtain ⟨A3, c3, rfl, k3, r3⟩ := T_api_Pat.iff.1 e; exact Flats.cons trivial (Flats.cons trivial (Flats.cons trivial (Flats.cons trivial Flats.nil)))⟩
def T_api_Pat.Q : T_api_Pat → Prop
  | ⟨f0, f1, f2, f3⟩ => (-9223372036854775808 ≤ f0 ∧ f0 ≤ 9223372036854775807) ∧ (-9223372036854775808 ≤ f1 ∧ f1 ≤ 9223372036854775807) ∧ (f2.size ≤ 140737488351232) ∧ (f3.length * 56 ≤ 140737488351232 ∧ ∀ i (hi : i < f3.length), T_api_Pat.Q f3[i])
  termination_by x => SizeOf.sizeOf x
  decreasing_by
    all_goals
      have h1 := List.sizeOf_lt_of_mem (List.getElem_mem hi)
      first
      | (simp_all; omega)
theorem T_api_Pat.Q_iff {x : T_api_Pat} : T_api_Pat.Q x ↔ (-9223372036854775808 ≤ x.Kind ∧ x.Kind ≤ 9223372036854775807) ∧ (-9223372036854775808 ≤ x.Num ∧ x.Num ≤ 9223372036854775807) ∧ (x.Text.size ≤ 140737488351232) ∧ (x.Args.length * 56 ≤ 140737488351232 ∧ ∀ a ∈ x.Args, T_api_Pat.Q a) := by
  obtain ⟨f0, f1, f2, f3⟩ := x
  rw [T_api_Pat.Q]
  show _ ↔ (-9223372036854775808 ≤ f0 ∧ f0 ≤ 9223372036854775807) ∧ (-9223372036854775808 ≤ f1 ∧ f1 ≤ 9223372036854775807) ∧ (f2.size ≤ 140737488351232) ∧ (f3.length * 56 ≤ 140737488351232 ∧ ∀ a ∈ f3, T_api_Pat.Q a)
  rw [← forall_get (l := f3) (p := T_api_Pat.Q)]
theorem T_api_Pat.tells {H : Type} {enc : TypeId × Value → H} {W : World} : Tells enc Try.prog W 226 T_api_Pat.E T_api_Pat.Q := tells_rec fun N ih => tellsU_map (tellsU_struct (t := 226) (fs := [(3, 0), (3, 1), (9, 2), (224, 3)]) (T := 4) (by kernel_rfl) (by kernel_rfl) (tfU_cons (s := 1) (f := 3) (by kernel_rfl) (Tells.up (tells_i64 (t := 3) (by kernel_rfl))) (tfU_cons (s := 1) (f := 3) (by kernel_rfl) (Tells.up (tells_i64 (t := 3) (by kernel_rfl))) (tfU_cons (s := 1) (f := 9) (by kernel_rfl) (Tells.up (tells_strL (t := 9) (by kernel_rfl))) (tfU_cons (s := 1) (f := 224) (by kernel_rfl) (tellsU_slice (t := 224) (e := 226) (sz := 4) (B := 56) (by kernel_rfl) (by kernel_rfl) (by kernel_rfl) ih) tfU_nil))))) (by
  rintro ⟨x0, x1, x2, x3, ⟨⟩⟩ cs e q
  obtain ⟨c0, r0, rfl, e0, c1, r1, rfl, e1, c2, r2, rfl, e2, c3, r3, rfl, e3, eN⟩ := e
  obtain rfl : c0 = [.int .i64 x0] := e0
  obtain rfl : c1 = [.int .i64 x1] := e1
  obtain rfl : c2 = [.string x2] := e2
  obtain ⟨A3, k3, rfl, l3, R3⟩ := e3
  obtain rfl : r3 = [] := eN
  exact ⟨⟨x0, x1, x2, x3⟩, T_api_Pat.iff.2 ⟨_, _, rfl, l3, R3⟩, T_api_Pat.Q_iff.2 ⟨q.1, q.2.1, q.2.2.1, q.2.2.2.1⟩⟩)
def T_api_Pat.bulk : T_api_Pat → Nat
  | ⟨f0, f1, f2, f3⟩ => (1 + (1 + ((f2.size + 1) + (((f3.attach.map fun y => T_api_Pat.bulk y.1).sum + 1) + (0))))) + 1
  termination_by x => SizeOf.sizeOf x
  decreasing_by
    all_goals
      have h1 := List.sizeOf_lt_of_mem y.2
      first
      | (simp_all; omega)
theorem T_api_Pat.bulk_eq (x : T_api_Pat) : T_api_Pat.bulk x = (1 + (1 + ((x.Text.size + 1) + (((List.map T_api_Pat.bulk x.Args).sum + 1) + (0))))) + 1 := by
  obtain ⟨f0, f1, f2, f3⟩ := x
  rw [T_api_Pat.bulk]
  rw [(List.attach_map_val : (f3.attach.map fun i => T_api_Pat.bulk i.1) = f3.map T_api_Pat.bulk)]
theorem T_api_Pat.kt {H : Type} {bk : DataW H → Nat} {enc : TypeId × Value → H} {W : World} {N : Nat} (M : Measure bk) : KT N bk enc Try.prog W 226 T_api_Pat.E T_api_Pat.bulk := kt_rec (fun N ih => kt_map (kt_struct M (t := 226) (fs := [(3, 0), (3, 1), (9, 2), (224, 3)]) (T := 4) (by kernel_rfl) (by kernel_rfl) (ktf_cons (s := 1) (f := 3) (by kernel_rfl) (tell_int .i64) (kt_one M) (ktf_cons (s := 1) (f := 3) (by kernel_rfl) (tell_int .i64) (kt_one M) (ktf_cons (s := 1) (f := 9) (by kernel_rfl) tell_str (kt_str (t := 9) M (by kernel_rfl)) (ktf_cons (s := 1) (f := 224) (by kernel_rfl) (tell_row T_api_Pat.T) (kt_slice M (t := 224) (e := 226) (sz := 4) (by kernel_rfl) (by kernel_rfl) ih) ktf_nil))))) (fun x cs e => by
  obtain ⟨A3, c3, rfl, k3, r3⟩ := T_api_Pat.iff.1 e
  exact ⟨(x.Kind, x.Num, x.Text, x.Args, ()), ⟨[.int .i64 x.Kind], _, rfl, rfl, ⟨[.int .i64 x.Num], _, rfl, rfl, ⟨[.string x.Text], _, rfl, rfl, ⟨[.slice A3 x.Args.length c3], _, rfl, ⟨_, _, rfl, k3, r3⟩, rfl⟩⟩⟩⟩, by rw [T_api_Pat.bulk_eq]; exact Nat.le_refl _⟩)) N
mutual
structure T_api_Expr where
  Kind : Int
  Num : Int
  Text : ByteArray
  Names : (List ByteArray)
  Types : (List T_api_Type)
  Args : (List T_api_Expr)
  Arms : (List T_api_Arm)
  At : Int
structure T_api_Arm where
  Pat : T_api_Pat
  Body : T_api_Expr
end
theorem T_api_Arm.lt_Body (x : T_api_Arm) : SizeOf.sizeOf x.Body < SizeOf.sizeOf x := by cases x; simp; omega
def T_api_Expr.E (h : Heap) : T_api_Expr → List Value → Prop
  | ⟨f0, f1, f2, f3, f4, f5, f6, f7⟩, cs => ∃ A3 c3 A4 c4 A5 c5 A6 c6, cs = [.int .i64 f0, .int .i64 f1, .string f2, .slice A3 f3.length c3, .slice A4 f4.length c4, .slice A5 f5.length c5, .slice A6 f6.length c6, .int .i64 f7] ∧ f3.length ≤ c3 ∧ Rd 1 eStr h A3 f3 ∧ f4.length ≤ c4 ∧ Rd 3 T_api_Type.E h A4 f4 ∧ f5.length ≤ c5 ∧ (∀ i (hi : i < f5.length), ∃ a ds, A5 = some a ∧ cellsH h (a.add (i * 8)) 0 8 = some ds ∧ T_api_Expr.E h f5[i] ds) ∧ f6.length ≤ c6 ∧ (∀ i (hi : i < f6.length), ∃ a ds, A6 = some a ∧ cellsH h (a.add (i * 12)) 0 12 = some ds ∧ ∃ d0 d1, ds = d0 ++ d1 ∧ T_api_Pat.E h f6[i].Pat d0 ∧ T_api_Expr.E h f6[i].Body d1)
  termination_by x => SizeOf.sizeOf x
  decreasing_by
    all_goals
      have h1 := List.sizeOf_lt_of_mem (List.getElem_mem hi)
      first
      | (simp_all; omega)
      | (have h2 := T_api_Arm.lt_Body (f6[i]'hi); simp_all; omega)
def T_api_Arm.E (h : Heap) (x : T_api_Arm) (cs : List Value) : Prop := ∃ d0 d1, cs = d0 ++ d1 ∧ T_api_Pat.E h x.Pat d0 ∧ T_api_Expr.E h x.Body d1
theorem T_api_Expr.iff {h : Heap} {x : T_api_Expr} {cs : List Value} : T_api_Expr.E h x cs ↔ ∃ A3 c3 A4 c4 A5 c5 A6 c6, cs = [.int .i64 x.Kind, .int .i64 x.Num, .string x.Text, .slice A3 x.Names.length c3, .slice A4 x.Types.length c4, .slice A5 x.Args.length c5, .slice A6 x.Arms.length c6, .int .i64 x.At] ∧ x.Names.length ≤ c3 ∧ Rd 1 eStr h A3 x.Names ∧ x.Types.length ≤ c4 ∧ Rd 3 T_api_Type.E h A4 x.Types ∧ x.Args.length ≤ c5 ∧ Rd 8 T_api_Expr.E h A5 x.Args ∧ x.Arms.length ≤ c6 ∧ Rd 12 T_api_Arm.E h A6 x.Arms := by
  cases x
  rw [T_api_Expr.E]
  exact Iff.rfl
theorem T_api_Expr.mono {m h : Heap} (s : Sub m h) : ∀ (x : T_api_Expr) (cs : List Value), T_api_Expr.E m x cs → T_api_Expr.E h x cs
  | ⟨f0, f1, f2, f3, f4, f5, f6, f7⟩, cs, e => by
    rw [T_api_Expr.E] at e ⊢
    obtain ⟨A3, c3, A4, c4, A5, c5, A6, c6, h1, k3, r3, k4, r4, k5, r5, k6, r6⟩ := e
    exact ⟨A3, c3, A4, c4, A5, c5, A6, c6, h1, k3, r3.sub tell_str s, k4, r4.sub T_api_Type.T s, k5, fun i hi => let ⟨a, ds, h1, h2, h3⟩ := r5 i hi; ⟨a, ds, h1, s.cells _ _ h2, T_api_Expr.mono s _ _ h3⟩, k6, fun i hi => let ⟨a, ds, h1, h2, d0, d1, h4, e0, e1⟩ := r6 i hi; ⟨a, ds, h1, s.cells _ _ h2, d0, d1, h4, T_api_Pat.T.mono _ _ _ _ s e0, T_api_Expr.mono s _ _ e1⟩⟩
  termination_by x => SizeOf.sizeOf x
  decreasing_by
    all_goals
      have h1 := List.sizeOf_lt_of_mem (List.getElem_mem hi)
      first
      | (simp_all; omega)
      | (have h2 := T_api_Arm.lt_Body (f6[i]'hi); simp_all; omega)
theorem T_api_Expr.T : Tell 8 T_api_Expr.E := ⟨fun _ _ x cs s e => T_api_Expr.mono s x cs e, by intro h x cs e; obtain ⟨A3, c3, A4, c4, A5, c5, A6, c6, rfl, k3, r3, k4, r4, k5, r5, k6, r6⟩ := T_api_Expr.iff.1 e; rfl, by intro h x cs e; obtain ⟨A3, c3, A4, c4, A5, c5, A6, c6, rfl, k3, r3, k4, r4, k5, r5, k6, r6⟩ := T_api_Expr.iff.1 e; exact Flats.cons trivial (Flats.cons trivial (Flats.cons trivial (Flats.cons trivial (Flats.cons trivial (Flats.cons trivial (Flats.cons trivial (Flats.cons trivial Flats.nil)))))))⟩
theorem T_api_Arm.iff {h : Heap} {x : T_api_Arm} {cs : List Value} : T_api_Arm.E h x cs ↔ ∃ A3 c3 A7 c7 A8 c8 A9 c9 A10 c10, cs = [.int .i64 x.Pat.Kind, .int .i64 x.Pat.Num, .string x.Pat.Text, .slice A3 x.Pat.Args.length c3, .int .i64 x.Body.Kind, .int .i64 x.Body.Num, .string x.Body.Text, .slice A7 x.Body.Names.length c7, .slice A8 x.Body.Types.length c8, .slice A9 x.Body.Args.length c9, .slice A10 x.Body.Arms.length c10, .int .i64 x.Body.At] ∧ x.Pat.Args.length ≤ c3 ∧ Rd 4 T_api_Pat.E h A3 x.Pat.Args ∧ x.Body.Names.length ≤ c7 ∧ Rd 1 eStr h A7 x.Body.Names ∧ x.Body.Types.length ≤ c8 ∧ Rd 3 T_api_Type.E h A8 x.Body.Types ∧ x.Body.Args.length ≤ c9 ∧ Rd 8 T_api_Expr.E h A9 x.Body.Args ∧ x.Body.Arms.length ≤ c10 ∧ Rd 12 T_api_Arm.E h A10 x.Body.Arms := by
  constructor
  · rintro ⟨d0, d1, rfl, e0, e1⟩
    obtain ⟨A3, c3, rfl, k3, r3⟩ := T_api_Pat.iff.1 e0
    obtain ⟨A7, c7, A8, c8, A9, c9, A10, c10, rfl, k7, r7, k8, r8, k9, r9, k10, r10⟩ := T_api_Expr.iff.1 e1
    exact ⟨A3, c3, A7, c7, A8, c8, A9, c9, A10, c10, rfl, k3, r3, k7, r7, k8, r8, k9, r9, k10, r10⟩
  · rintro ⟨A3, c3, A7, c7, A8, c8, A9, c9, A10, c10, rfl, k3, r3, k7, r7, k8, r8, k9, r9, k10, r10⟩
    exact ⟨[.int .i64 x.Pat.Kind, .int .i64 x.Pat.Num, .string x.Pat.Text, .slice A3 x.Pat.Args.length c3], [.int .i64 x.Body.Kind, .int .i64 x.Body.Num, .string x.Body.Text, .slice A7 x.Body.Names.length c7, .slice A8 x.Body.Types.length c8, .slice A9 x.Body.Args.length c9, .slice A10 x.Body.Arms.length c10, .int .i64 x.Body.At], rfl, T_api_Pat.iff.2 ⟨A3, c3, rfl, k3, r3⟩, T_api_Expr.iff.2 ⟨A7, c7, A8, c8, A9, c9, A10, c10, rfl, k7, r7, k8, r8, k9, r9, k10, r10⟩⟩
theorem T_api_Arm.T : Tell 12 T_api_Arm.E := ⟨by rintro m h x _ s ⟨d0, d1, rfl, e0, e1⟩; exact ⟨d0, d1, rfl, T_api_Pat.T.mono _ _ _ _ s e0, T_api_Expr.T.mono _ _ _ _ s e1⟩, by intro h x cs e; obtain ⟨A3, c3, A7, c7, A8, c8, A9, c9, A10, c10, rfl, k3, r3, k7, r7, k8, r8, k9, r9, k10, r10⟩ := T_api_Arm.iff.1 e; rfl, by intro h x cs e; obtain ⟨A3, c3, A7, c7, A8, c8, A9, c9, A10, c10, rfl, k3, r3, k7, r7, k8, r8, k9, r9, k10, r10⟩ := T_api_Arm.iff.1 e; exact Flats.cons trivial (Flats.cons trivial (Flats.cons trivial (Flats.cons trivial (Flats.cons trivial (Flats.cons trivial (Flats.cons trivial (Flats.cons trivial (Flats.cons trivial (Flats.cons trivial (Flats.cons trivial (Flats.cons trivial Flats.nil)))))))))))⟩
def T_api_Expr.Q : T_api_Expr → Prop
  | ⟨f0, f1, f2, f3, f4, f5, f6, f7⟩ => (-9223372036854775808 ≤ f0 ∧ f0 ≤ 9223372036854775807) ∧ (-9223372036854775808 ≤ f1 ∧ f1 ≤ 9223372036854775807) ∧ (f2.size ≤ 140737488351232) ∧ (f3.length * 16 ≤ 140737488351232 ∧ ∀ a ∈ f3, (a.size ≤ 140737488351232)) ∧ (f4.length * 48 ≤ 140737488351232 ∧ ∀ a ∈ f4, (T_api_Type.Q a)) ∧ (f5.length * 136 ≤ 140737488351232 ∧ ∀ i (hi : i < f5.length), T_api_Expr.Q f5[i]) ∧ (f6.length * 192 ≤ 140737488351232 ∧ ∀ i (hi : i < f6.length), (T_api_Pat.Q f6[i].Pat) ∧ (T_api_Expr.Q f6[i].Body)) ∧ (-9223372036854775808 ≤ f7 ∧ f7 ≤ 9223372036854775807)
  termination_by x => SizeOf.sizeOf x
  decreasing_by
    all_goals
      have h1 := List.sizeOf_lt_of_mem (List.getElem_mem hi)
      first
      | (simp_all; omega)
      | (have h2 := T_api_Arm.lt_Body (f6[i]'hi); simp_all; omega)
def T_api_Arm.Q (x : T_api_Arm) : Prop := (T_api_Pat.Q x.Pat) ∧ (T_api_Expr.Q x.Body)
theorem T_api_Expr.Q_iff {x : T_api_Expr} : T_api_Expr.Q x ↔ (-9223372036854775808 ≤ x.Kind ∧ x.Kind ≤ 9223372036854775807) ∧ (-9223372036854775808 ≤ x.Num ∧ x.Num ≤ 9223372036854775807) ∧ (x.Text.size ≤ 140737488351232) ∧ (x.Names.length * 16 ≤ 140737488351232 ∧ ∀ a ∈ x.Names, (a.size ≤ 140737488351232)) ∧ (x.Types.length * 48 ≤ 140737488351232 ∧ ∀ a ∈ x.Types, (T_api_Type.Q a)) ∧ (x.Args.length * 136 ≤ 140737488351232 ∧ ∀ a ∈ x.Args, T_api_Expr.Q a) ∧ (x.Arms.length * 192 ≤ 140737488351232 ∧ ∀ a ∈ x.Arms, T_api_Arm.Q a) ∧ (-9223372036854775808 ≤ x.At ∧ x.At ≤ 9223372036854775807) := by
  obtain ⟨f0, f1, f2, f3, f4, f5, f6, f7⟩ := x
  rw [T_api_Expr.Q]
  show _ ↔ (-9223372036854775808 ≤ f0 ∧ f0 ≤ 9223372036854775807) ∧ (-9223372036854775808 ≤ f1 ∧ f1 ≤ 9223372036854775807) ∧ (f2.size ≤ 140737488351232) ∧ (f3.length * 16 ≤ 140737488351232 ∧ ∀ a ∈ f3, (a.size ≤ 140737488351232)) ∧ (f4.length * 48 ≤ 140737488351232 ∧ ∀ a ∈ f4, (T_api_Type.Q a)) ∧ (f5.length * 136 ≤ 140737488351232 ∧ ∀ a ∈ f5, T_api_Expr.Q a) ∧ (f6.length * 192 ≤ 140737488351232 ∧ ∀ a ∈ f6, T_api_Arm.Q a) ∧ (-9223372036854775808 ≤ f7 ∧ f7 ≤ 9223372036854775807)
  rw [← forall_get (l := f5) (p := T_api_Expr.Q), ← forall_get (l := f6) (p := T_api_Arm.Q)]
  exact Iff.rfl
theorem T_api_Arm.tellsU {H : Type} {enc : TypeId × Value → H} {W : World} {N : Nat} (ih : TellsU N enc Try.prog W 152 T_api_Expr.E T_api_Expr.Q) : TellsU (N + 1) enc Try.prog W 228 T_api_Arm.E T_api_Arm.Q := tellsU_map (tellsU_struct (t := 228) (fs := [(226, 0), (152, 4)]) (T := 12) (by kernel_rfl) (by kernel_rfl) (tfU_cons (s := 4) (f := 226) (by kernel_rfl) (Tells.up T_api_Pat.tells) (tfU_cons (s := 8) (f := 152) (by kernel_rfl) ih tfU_nil))) (by
  rintro ⟨x0, x1, ⟨⟩⟩ cs e q
  obtain ⟨c0, r0, rfl, e0, c1, r1, rfl, e1, eN⟩ := e
  obtain rfl : r1 = [] := eN
  exact ⟨⟨x0, x1⟩, ⟨_, _, by simp, e0, e1⟩, q.1, q.2.1⟩)
theorem T_api_Expr.tells {H : Type} {enc : TypeId × Value → H} {W : World} : Tells enc Try.prog W 152 T_api_Expr.E T_api_Expr.Q := tells_rec fun N ih => tellsU_map (tellsU_struct (t := 152) (fs := [(3, 0), (3, 1), (9, 2), (136, 3), (149, 4), (147, 5), (150, 6), (3, 7)]) (T := 8) (by kernel_rfl) (by kernel_rfl) (tfU_cons (s := 1) (f := 3) (by kernel_rfl) (Tells.up (tells_i64 (t := 3) (by kernel_rfl))) (tfU_cons (s := 1) (f := 3) (by kernel_rfl) (Tells.up (tells_i64 (t := 3) (by kernel_rfl))) (tfU_cons (s := 1) (f := 9) (by kernel_rfl) (Tells.up (tells_strL (t := 9) (by kernel_rfl))) (tfU_cons (s := 1) (f := 136) (by kernel_rfl) (Tells.up (tells_sliceL (t := 136) (e := 9) (sz := 1) (B := 16) (by kernel_rfl) (by kernel_rfl) (by kernel_rfl) (tells_strL (t := 9) (by kernel_rfl)))) (tfU_cons (s := 1) (f := 149) (by kernel_rfl) (Tells.up (tells_sliceL (t := 149) (e := 209) (sz := 3) (B := 48) (by kernel_rfl) (by kernel_rfl) (by kernel_rfl) T_api_Type.tells)) (tfU_cons (s := 1) (f := 147) (by kernel_rfl) (tellsU_slice (t := 147) (e := 152) (sz := 8) (B := 136) (by kernel_rfl) (by kernel_rfl) (by kernel_rfl) ih) (tfU_cons (s := 1) (f := 150) (by kernel_rfl) (tellsU_slice (t := 150) (e := 228) (sz := 12) (B := 192) (by kernel_rfl) (by kernel_rfl) (by kernel_rfl) (tellsU_down (T_api_Arm.tellsU ih))) (tfU_cons (s := 1) (f := 3) (by kernel_rfl) (Tells.up (tells_i64 (t := 3) (by kernel_rfl))) tfU_nil))))))))) (by
  rintro ⟨x0, x1, x2, x3, x4, x5, x6, x7, ⟨⟩⟩ cs e q
  obtain ⟨c0, r0, rfl, e0, c1, r1, rfl, e1, c2, r2, rfl, e2, c3, r3, rfl, e3, c4, r4, rfl, e4, c5, r5, rfl, e5, c6, r6, rfl, e6, c7, r7, rfl, e7, eN⟩ := e
  obtain rfl : c0 = [.int .i64 x0] := e0
  obtain rfl : c1 = [.int .i64 x1] := e1
  obtain rfl : c2 = [.string x2] := e2
  obtain ⟨A3, k3, rfl, l3, R3⟩ := e3
  obtain ⟨A4, k4, rfl, l4, R4⟩ := e4
  obtain ⟨A5, k5, rfl, l5, R5⟩ := e5
  obtain ⟨A6, k6, rfl, l6, R6⟩ := e6
  obtain rfl : c7 = [.int .i64 x7] := e7
  obtain rfl : r7 = [] := eN
  exact ⟨⟨x0, x1, x2, x3, x4, x5, x6, x7⟩, T_api_Expr.iff.2 ⟨_, _, _, _, _, _, _, _, rfl, l3, R3, l4, R4, l5, R5, l6, R6⟩, T_api_Expr.Q_iff.2 ⟨q.1, q.2.1, q.2.2.1, q.2.2.2.1, q.2.2.2.2.1, q.2.2.2.2.2.1, q.2.2.2.2.2.2.1, q.2.2.2.2.2.2.2.1⟩⟩)
def T_api_Expr.bulk : T_api_Expr → Nat
  | ⟨f0, f1, f2, f3, f4, f5, f6, f7⟩ => (1 + (1 + ((f2.size + 1) + (((List.map (fun s : ByteArray => s.size + 1) f3).sum + 1) + (((List.map T_api_Type.bulk f4).sum + 1) + (((f5.attach.map fun y => T_api_Expr.bulk y.1).sum + 1) + (((f6.attach.map fun y => ((T_api_Pat.bulk y.1.Pat) + ((T_api_Expr.bulk y.1.Body) + (0))) + 1).sum + 1) + (1 + (0))))))))) + 1
  termination_by x => SizeOf.sizeOf x
  decreasing_by
    all_goals
      have h1 := List.sizeOf_lt_of_mem y.2
      first
      | (simp_all; omega)
      | (have h2 := T_api_Arm.lt_Body y.1; simp_all; omega)
def T_api_Arm.bulk (x : T_api_Arm) : Nat := ((T_api_Pat.bulk x.Pat) + ((T_api_Expr.bulk x.Body) + (0))) + 1
theorem T_api_Expr.bulk_eq (x : T_api_Expr) : T_api_Expr.bulk x = (1 + (1 + ((x.Text.size + 1) + (((List.map (fun s : ByteArray => s.size + 1) x.Names).sum + 1) + (((List.map T_api_Type.bulk x.Types).sum + 1) + (((List.map T_api_Expr.bulk x.Args).sum + 1) + (((List.map T_api_Arm.bulk x.Arms).sum + 1) + (1 + (0))))))))) + 1 := by
  obtain ⟨f0, f1, f2, f3, f4, f5, f6, f7⟩ := x
  rw [T_api_Expr.bulk]
  rw [(List.attach_map_val : (f5.attach.map fun i => T_api_Expr.bulk i.1) = f5.map T_api_Expr.bulk)]
  rw [show (f6.attach.map fun y => ((T_api_Pat.bulk y.1.Pat) + ((T_api_Expr.bulk y.1.Body) + (0))) + 1) = (f6.attach.map fun y => T_api_Arm.bulk y.1) from rfl, (List.attach_map_val : (f6.attach.map fun i => T_api_Arm.bulk i.1) = f6.map T_api_Arm.bulk)]
theorem T_api_Arm.ktU {H : Type} {bk : DataW H → Nat} {enc : TypeId × Value → H} {W : World} {N : Nat} (M : Measure bk) (ih : KT N bk enc Try.prog W 152 T_api_Expr.E T_api_Expr.bulk) : KT (N + 1) bk enc Try.prog W 228 T_api_Arm.E T_api_Arm.bulk := kt_map (kt_struct M (t := 228) (fs := [(226, 0), (152, 4)]) (T := 12) (by kernel_rfl) (by kernel_rfl) (ktf_cons (s := 4) (f := 226) (by kernel_rfl) T_api_Pat.T (T_api_Pat.kt M) (ktf_cons (s := 8) (f := 152) (by kernel_rfl) T_api_Expr.T ih ktf_nil))) (fun x cs e => by
  obtain ⟨d0, d1, rfl, e0, e1⟩ := e
  exact ⟨(x.Pat, x.Body, ()), ⟨d0, _, rfl, e0, ⟨d1, _, (List.append_nil _).symm, e1, rfl⟩⟩, Nat.le_refl _⟩)
theorem T_api_Expr.kt {H : Type} {bk : DataW H → Nat} {enc : TypeId × Value → H} {W : World} {N : Nat} (M : Measure bk) : KT N bk enc Try.prog W 152 T_api_Expr.E T_api_Expr.bulk := kt_rec (fun N ih => kt_map (kt_struct M (t := 152) (fs := [(3, 0), (3, 1), (9, 2), (136, 3), (149, 4), (147, 5), (150, 6), (3, 7)]) (T := 8) (by kernel_rfl) (by kernel_rfl) (ktf_cons (s := 1) (f := 3) (by kernel_rfl) (tell_int .i64) (kt_one M) (ktf_cons (s := 1) (f := 3) (by kernel_rfl) (tell_int .i64) (kt_one M) (ktf_cons (s := 1) (f := 9) (by kernel_rfl) tell_str (kt_str (t := 9) M (by kernel_rfl)) (ktf_cons (s := 1) (f := 136) (by kernel_rfl) (tell_row tell_str) (kt_slice M (t := 136) (e := 9) (sz := 1) (by kernel_rfl) (by kernel_rfl) (kt_str (t := 9) M (by kernel_rfl))) (ktf_cons (s := 1) (f := 149) (by kernel_rfl) (tell_row T_api_Type.T) (kt_slice M (t := 149) (e := 209) (sz := 3) (by kernel_rfl) (by kernel_rfl) (T_api_Type.kt M)) (ktf_cons (s := 1) (f := 147) (by kernel_rfl) (tell_row T_api_Expr.T) (kt_slice M (t := 147) (e := 152) (sz := 8) (by kernel_rfl) (by kernel_rfl) ih) (ktf_cons (s := 1) (f := 150) (by kernel_rfl) (tell_row T_api_Arm.T) (kt_slice M (t := 150) (e := 228) (sz := 12) (by kernel_rfl) (by kernel_rfl) (kt_down (T_api_Arm.ktU M ih))) (ktf_cons (s := 1) (f := 3) (by kernel_rfl) (tell_int .i64) (kt_one M) ktf_nil))))))))) (fun x cs e => by
  obtain ⟨A3, c3, A4, c4, A5, c5, A6, c6, rfl, k3, r3, k4, r4, k5, r5, k6, r6⟩ := T_api_Expr.iff.1 e
  exact ⟨(x.Kind, x.Num, x.Text, x.Names, x.Types, x.Args, x.Arms, x.At, ()), ⟨[.int .i64 x.Kind], _, rfl, rfl, ⟨[.int .i64 x.Num], _, rfl, rfl, ⟨[.string x.Text], _, rfl, rfl, ⟨[.slice A3 x.Names.length c3], _, rfl, ⟨_, _, rfl, k3, r3⟩, ⟨[.slice A4 x.Types.length c4], _, rfl, ⟨_, _, rfl, k4, r4⟩, ⟨[.slice A5 x.Args.length c5], _, rfl, ⟨_, _, rfl, k5, r5⟩, ⟨[.slice A6 x.Arms.length c6], _, rfl, ⟨_, _, rfl, k6, r6⟩, ⟨[.int .i64 x.At], _, rfl, rfl, rfl⟩⟩⟩⟩⟩⟩⟩⟩, by rw [T_api_Expr.bulk_eq]; exact Nat.le_refl _⟩)) N
structure T_api_Func where
  Name : ByteArray
  Params : (List ByteArray)
  Names : (List ByteArray)
  Types : (List T_api_Type)
  Out : T_api_Type
  Body : T_api_Expr
def T_api_Func.E (h : Heap) (x : T_api_Func) (cs : List Value) : Prop := ∃ A1 c1 A2 c2 A3 c3 A6 c6 A10 c10 A11 c11 A12 c12 A13 c13, cs = [.string x.Name, .slice A1 x.Params.length c1, .slice A2 x.Names.length c2, .slice A3 x.Types.length c3, .int .i64 x.Out.Kind, .string x.Out.Name, .slice A6 x.Out.Args.length c6, .int .i64 x.Body.Kind, .int .i64 x.Body.Num, .string x.Body.Text, .slice A10 x.Body.Names.length c10, .slice A11 x.Body.Types.length c11, .slice A12 x.Body.Args.length c12, .slice A13 x.Body.Arms.length c13, .int .i64 x.Body.At] ∧ x.Params.length ≤ c1 ∧ Rd 1 eStr h A1 x.Params ∧ x.Names.length ≤ c2 ∧ Rd 1 eStr h A2 x.Names ∧ x.Types.length ≤ c3 ∧ Rd 3 T_api_Type.E h A3 x.Types ∧ x.Out.Args.length ≤ c6 ∧ Rd 3 T_api_Type.E h A6 x.Out.Args ∧ x.Body.Names.length ≤ c10 ∧ Rd 1 eStr h A10 x.Body.Names ∧ x.Body.Types.length ≤ c11 ∧ Rd 3 T_api_Type.E h A11 x.Body.Types ∧ x.Body.Args.length ≤ c12 ∧ Rd 8 T_api_Expr.E h A12 x.Body.Args ∧ x.Body.Arms.length ≤ c13 ∧ Rd 12 T_api_Arm.E h A13 x.Body.Arms
theorem T_api_Func.T : Tell 15 T_api_Func.E := ⟨by rintro m h x _ s ⟨A1, c1, A2, c2, A3, c3, A6, c6, A10, c10, A11, c11, A12, c12, A13, c13, rfl, k1, r1, k2, r2, k3, r3, k6, r6, k10, r10, k11, r11, k12, r12, k13, r13⟩; exact ⟨_, _, _, _, _, _, _, _, _, _, _, _, _, _, _, _, rfl, k1, r1.sub tell_str s, k2, r2.sub tell_str s, k3, r3.sub T_api_Type.T s, k6, r6.sub T_api_Type.T s, k10, r10.sub tell_str s, k11, r11.sub T_api_Type.T s, k12, r12.sub T_api_Expr.T s, k13, r13.sub T_api_Arm.T s⟩, by rintro h x _ ⟨A1, c1, A2, c2, A3, c3, A6, c6, A10, c10, A11, c11, A12, c12, A13, c13, rfl, k1, r1, k2, r2, k3, r3, k6, r6, k10, r10, k11, r11, k12, r12, k13, r13⟩; rfl, by rintro h x _ ⟨A1, c1, A2, c2, A3, c3, A6, c6, A10, c10, A11, c11, A12, c12, A13, c13, rfl, k1, r1, k2, r2, k3, r3, k6, r6, k10, r10, k11, r11, k12, r12, k13, r13⟩; exact Flats.cons trivial (Flats.cons trivial (Flats.cons trivial (Flats.cons trivial (Flats.cons trivial (Flats.cons trivial (Flats.cons trivial (Flats.cons trivial (Flats.cons trivial (Flats.cons trivial (Flats.cons trivial (Flats.cons trivial (Flats.cons trivial (Flats.cons trivial (Flats.cons trivial Flats.nil))))))))))))))⟩
def T_api_Func.Q (x : T_api_Func) : Prop := (x.Name.size ≤ 140737488351232) ∧ (x.Params.length * 16 ≤ 140737488351232 ∧ ∀ a ∈ x.Params, (a.size ≤ 140737488351232)) ∧ (x.Names.length * 16 ≤ 140737488351232 ∧ ∀ a ∈ x.Names, (a.size ≤ 140737488351232)) ∧ (x.Types.length * 48 ≤ 140737488351232 ∧ ∀ a ∈ x.Types, (T_api_Type.Q a)) ∧ (T_api_Type.Q x.Out) ∧ (T_api_Expr.Q x.Body)
theorem T_api_Func.tells {H : Type} {enc : TypeId × Value → H} {W : World} : Tells enc Try.prog W 219 T_api_Func.E T_api_Func.Q := tells_map (tells_struct (t := 219) (fs := [(9, 0), (136, 1), (136, 2), (149, 3), (209, 4), (152, 7)]) (T := 15) (by kernel_rfl) (by kernel_rfl) (tf_cons (s := 1) (f := 9) (by kernel_rfl) (tells_strL (t := 9) (by kernel_rfl)) (tf_cons (s := 1) (f := 136) (by kernel_rfl) (tells_sliceL (t := 136) (e := 9) (sz := 1) (B := 16) (by kernel_rfl) (by kernel_rfl) (by kernel_rfl) (tells_strL (t := 9) (by kernel_rfl))) (tf_cons (s := 1) (f := 136) (by kernel_rfl) (tells_sliceL (t := 136) (e := 9) (sz := 1) (B := 16) (by kernel_rfl) (by kernel_rfl) (by kernel_rfl) (tells_strL (t := 9) (by kernel_rfl))) (tf_cons (s := 1) (f := 149) (by kernel_rfl) (tells_sliceL (t := 149) (e := 209) (sz := 3) (B := 48) (by kernel_rfl) (by kernel_rfl) (by kernel_rfl) T_api_Type.tells) (tf_cons (s := 3) (f := 209) (by kernel_rfl) T_api_Type.tells (tf_cons (s := 8) (f := 152) (by kernel_rfl) T_api_Expr.tells tf_nil))))))) (by
  rintro ⟨x0, x1, x2, x3, x4, x5, ⟨⟩⟩ cs e q
  obtain ⟨c0, r0, rfl, e0, c1, r1, rfl, e1, c2, r2, rfl, e2, c3, r3, rfl, e3, c4, r4, rfl, e4, c5, r5, rfl, e5, eN⟩ := e
  obtain rfl : c0 = [.string x0] := e0
  obtain ⟨A1, k1, rfl, l1, R1⟩ := e1
  obtain ⟨A2, k2, rfl, l2, R2⟩ := e2
  obtain ⟨A3, k3, rfl, l3, R3⟩ := e3
  obtain ⟨A4_2, k4_2, rfl, l4_2, R4_2⟩ := T_api_Type.iff.1 e4
  obtain ⟨A5_3, k5_3, A5_4, k5_4, A5_5, k5_5, A5_6, k5_6, rfl, l5_3, R5_3, l5_4, R5_4, l5_5, R5_5, l5_6, R5_6⟩ := T_api_Expr.iff.1 e5
  obtain rfl : r5 = [] := eN
  exact ⟨⟨x0, x1, x2, x3, x4, x5⟩, ⟨_, _, _, _, _, _, _, _, _, _, _, _, _, _, _, _, rfl, l1, R1, l2, R2, l3, R3, l4_2, R4_2, l5_3, R5_3, l5_4, R5_4, l5_5, R5_5, l5_6, R5_6⟩, q.1, q.2.1, q.2.2.1, q.2.2.2.1, q.2.2.2.2.1, q.2.2.2.2.2.1⟩)
def T_api_Func.bulk (x : T_api_Func) : Nat := ((x.Name.size + 1) + (((List.map (fun s : ByteArray => s.size + 1) x.Params).sum + 1) + (((List.map (fun s : ByteArray => s.size + 1) x.Names).sum + 1) + (((List.map T_api_Type.bulk x.Types).sum + 1) + ((T_api_Type.bulk x.Out) + ((T_api_Expr.bulk x.Body) + (0))))))) + 1
theorem T_api_Func.kt {H : Type} {bk : DataW H → Nat} {enc : TypeId × Value → H} {W : World} {N : Nat} (M : Measure bk) : KT N bk enc Try.prog W 219 T_api_Func.E T_api_Func.bulk := kt_down (kt_map (kt_struct M (t := 219) (fs := [(9, 0), (136, 1), (136, 2), (149, 3), (209, 4), (152, 7)]) (T := 15) (by kernel_rfl) (by kernel_rfl) (ktf_cons (s := 1) (f := 9) (by kernel_rfl) tell_str (kt_str (t := 9) M (by kernel_rfl)) (ktf_cons (s := 1) (f := 136) (by kernel_rfl) (tell_row tell_str) (kt_slice M (t := 136) (e := 9) (sz := 1) (by kernel_rfl) (by kernel_rfl) (kt_str (t := 9) M (by kernel_rfl))) (ktf_cons (s := 1) (f := 136) (by kernel_rfl) (tell_row tell_str) (kt_slice M (t := 136) (e := 9) (sz := 1) (by kernel_rfl) (by kernel_rfl) (kt_str (t := 9) M (by kernel_rfl))) (ktf_cons (s := 1) (f := 149) (by kernel_rfl) (tell_row T_api_Type.T) (kt_slice M (t := 149) (e := 209) (sz := 3) (by kernel_rfl) (by kernel_rfl) (T_api_Type.kt M)) (ktf_cons (s := 3) (f := 209) (by kernel_rfl) T_api_Type.T (T_api_Type.kt M) (ktf_cons (s := 8) (f := 152) (by kernel_rfl) T_api_Expr.T (T_api_Expr.kt M) ktf_nil))))))) (fun x cs e => by
  obtain ⟨A1, c1, A2, c2, A3, c3, A4_2, c4_2, A5_3, c5_3, A5_4, c5_4, A5_5, c5_5, A5_6, c5_6, rfl, k1, r1, k2, r2, k3, r3, k4_2, r4_2, k5_3, r5_3, k5_4, r5_4, k5_5, r5_5, k5_6, r5_6⟩ := e
  exact ⟨(x.Name, x.Params, x.Names, x.Types, x.Out, x.Body, ()), ⟨[.string x.Name], _, rfl, rfl, ⟨[.slice A1 x.Params.length c1], _, rfl, ⟨_, _, rfl, k1, r1⟩, ⟨[.slice A2 x.Names.length c2], _, rfl, ⟨_, _, rfl, k2, r2⟩, ⟨[.slice A3 x.Types.length c3], _, rfl, ⟨_, _, rfl, k3, r3⟩, ⟨[.int .i64 x.Out.Kind, .string x.Out.Name, .slice A4_2 x.Out.Args.length c4_2], _, rfl, T_api_Type.iff.2 ⟨_, _, rfl, k4_2, r4_2⟩, ⟨[.int .i64 x.Body.Kind, .int .i64 x.Body.Num, .string x.Body.Text, .slice A5_3 x.Body.Names.length c5_3, .slice A5_4 x.Body.Types.length c5_4, .slice A5_5 x.Body.Args.length c5_5, .slice A5_6 x.Body.Arms.length c5_6, .int .i64 x.Body.At], _, rfl, T_api_Expr.iff.2 ⟨_, _, _, _, _, _, _, _, rfl, k5_3, r5_3, k5_4, r5_4, k5_5, r5_5, k5_6, r5_6⟩, rfl⟩⟩⟩⟩⟩⟩, Nat.le_refl _⟩))
structure T_api_Trait where
  Name : ByteArray
  Funcs : (List T_api_Func)
def T_api_Trait.E (h : Heap) (x : T_api_Trait) (cs : List Value) : Prop := ∃ A1 c1, cs = [.string x.Name, .slice A1 x.Funcs.length c1] ∧ x.Funcs.length ≤ c1 ∧ Rd 15 T_api_Func.E h A1 x.Funcs
theorem T_api_Trait.T : Tell 2 T_api_Trait.E := ⟨by rintro m h x _ s ⟨A1, c1, rfl, k1, r1⟩; exact ⟨_, _, rfl, k1, r1.sub T_api_Func.T s⟩, by rintro h x _ ⟨A1, c1, rfl, k1, r1⟩; rfl, by rintro h x _ ⟨A1, c1, rfl, k1, r1⟩; exact Flats.cons trivial (Flats.cons trivial Flats.nil)⟩
def T_api_Trait.Q (x : T_api_Trait) : Prop := (x.Name.size ≤ 140737488351232) ∧ (x.Funcs.length * 272 ≤ 140737488351232 ∧ ∀ a ∈ x.Funcs, (T_api_Func.Q a))
theorem T_api_Trait.tells {H : Type} {enc : TypeId × Value → H} {W : World} : Tells enc Try.prog W 204 T_api_Trait.E T_api_Trait.Q := tells_map (tells_struct (t := 204) (fs := [(9, 0), (132, 1)]) (T := 2) (by kernel_rfl) (by kernel_rfl) (tf_cons (s := 1) (f := 9) (by kernel_rfl) (tells_strL (t := 9) (by kernel_rfl)) (tf_cons (s := 1) (f := 132) (by kernel_rfl) (tells_sliceL (t := 132) (e := 219) (sz := 15) (B := 272) (by kernel_rfl) (by kernel_rfl) (by kernel_rfl) T_api_Func.tells) tf_nil))) (by
  rintro ⟨x0, x1, ⟨⟩⟩ cs e q
  obtain ⟨c0, r0, rfl, e0, c1, r1, rfl, e1, eN⟩ := e
  obtain rfl : c0 = [.string x0] := e0
  obtain ⟨A1, k1, rfl, l1, R1⟩ := e1
  obtain rfl : r1 = [] := eN
  exact ⟨⟨x0, x1⟩, ⟨_, _, rfl, l1, R1⟩, q.1, q.2.1⟩)
def T_api_Trait.bulk (x : T_api_Trait) : Nat := ((x.Name.size + 1) + (((List.map T_api_Func.bulk x.Funcs).sum + 1) + (0))) + 1
theorem T_api_Trait.kt {H : Type} {bk : DataW H → Nat} {enc : TypeId × Value → H} {W : World} {N : Nat} (M : Measure bk) : KT N bk enc Try.prog W 204 T_api_Trait.E T_api_Trait.bulk := kt_down (kt_map (kt_struct M (t := 204) (fs := [(9, 0), (132, 1)]) (T := 2) (by kernel_rfl) (by kernel_rfl) (ktf_cons (s := 1) (f := 9) (by kernel_rfl) tell_str (kt_str (t := 9) M (by kernel_rfl)) (ktf_cons (s := 1) (f := 132) (by kernel_rfl) (tell_row T_api_Func.T) (kt_slice M (t := 132) (e := 219) (sz := 15) (by kernel_rfl) (by kernel_rfl) (T_api_Func.kt M)) ktf_nil))) (fun x cs e => by
  obtain ⟨A1, c1, rfl, k1, r1⟩ := e
  exact ⟨(x.Name, x.Funcs, ()), ⟨[.string x.Name], _, rfl, rfl, ⟨[.slice A1 x.Funcs.length c1], _, rfl, ⟨_, _, rfl, k1, r1⟩, rfl⟩⟩, Nat.le_refl _⟩))
structure T_api_Impl where
  Trait : ByteArray
  For : ByteArray
  Funcs : (List T_api_Func)
def T_api_Impl.E (h : Heap) (x : T_api_Impl) (cs : List Value) : Prop := ∃ A2 c2, cs = [.string x.Trait, .string x.For, .slice A2 x.Funcs.length c2] ∧ x.Funcs.length ≤ c2 ∧ Rd 15 T_api_Func.E h A2 x.Funcs
theorem T_api_Impl.T : Tell 3 T_api_Impl.E := ⟨by rintro m h x _ s ⟨A2, c2, rfl, k2, r2⟩; exact ⟨_, _, rfl, k2, r2.sub T_api_Func.T s⟩, by rintro h x _ ⟨A2, c2, rfl, k2, r2⟩; rfl, by rintro h x _ ⟨A2, c2, rfl, k2, r2⟩; exact Flats.cons trivial (Flats.cons trivial (Flats.cons trivial Flats.nil))⟩
def T_api_Impl.Q (x : T_api_Impl) : Prop := (x.Trait.size ≤ 140737488351232) ∧ (x.For.size ≤ 140737488351232) ∧ (x.Funcs.length * 272 ≤ 140737488351232 ∧ ∀ a ∈ x.Funcs, (T_api_Func.Q a))
theorem T_api_Impl.tells {H : Type} {enc : TypeId × Value → H} {W : World} : Tells enc Try.prog W 207 T_api_Impl.E T_api_Impl.Q := tells_map (tells_struct (t := 207) (fs := [(9, 0), (9, 1), (132, 2)]) (T := 3) (by kernel_rfl) (by kernel_rfl) (tf_cons (s := 1) (f := 9) (by kernel_rfl) (tells_strL (t := 9) (by kernel_rfl)) (tf_cons (s := 1) (f := 9) (by kernel_rfl) (tells_strL (t := 9) (by kernel_rfl)) (tf_cons (s := 1) (f := 132) (by kernel_rfl) (tells_sliceL (t := 132) (e := 219) (sz := 15) (B := 272) (by kernel_rfl) (by kernel_rfl) (by kernel_rfl) T_api_Func.tells) tf_nil)))) (by
  rintro ⟨x0, x1, x2, ⟨⟩⟩ cs e q
  obtain ⟨c0, r0, rfl, e0, c1, r1, rfl, e1, c2, r2, rfl, e2, eN⟩ := e
  obtain rfl : c0 = [.string x0] := e0
  obtain rfl : c1 = [.string x1] := e1
  obtain ⟨A2, k2, rfl, l2, R2⟩ := e2
  obtain rfl : r2 = [] := eN
  exact ⟨⟨x0, x1, x2⟩, ⟨_, _, rfl, l2, R2⟩, q.1, q.2.1, q.2.2.1⟩)
def T_api_Impl.bulk (x : T_api_Impl) : Nat := ((x.Trait.size + 1) + ((x.For.size + 1) + (((List.map T_api_Func.bulk x.Funcs).sum + 1) + (0)))) + 1
theorem T_api_Impl.kt {H : Type} {bk : DataW H → Nat} {enc : TypeId × Value → H} {W : World} {N : Nat} (M : Measure bk) : KT N bk enc Try.prog W 207 T_api_Impl.E T_api_Impl.bulk := kt_down (kt_map (kt_struct M (t := 207) (fs := [(9, 0), (9, 1), (132, 2)]) (T := 3) (by kernel_rfl) (by kernel_rfl) (ktf_cons (s := 1) (f := 9) (by kernel_rfl) tell_str (kt_str (t := 9) M (by kernel_rfl)) (ktf_cons (s := 1) (f := 9) (by kernel_rfl) tell_str (kt_str (t := 9) M (by kernel_rfl)) (ktf_cons (s := 1) (f := 132) (by kernel_rfl) (tell_row T_api_Func.T) (kt_slice M (t := 132) (e := 219) (sz := 15) (by kernel_rfl) (by kernel_rfl) (T_api_Func.kt M)) ktf_nil)))) (fun x cs e => by
  obtain ⟨A2, c2, rfl, k2, r2⟩ := e
  exact ⟨(x.Trait, x.For, x.Funcs, ()), ⟨[.string x.Trait], _, rfl, rfl, ⟨[.string x.For], _, rfl, rfl, ⟨[.slice A2 x.Funcs.length c2], _, rfl, ⟨_, _, rfl, k2, r2⟩, rfl⟩⟩⟩, Nat.le_refl _⟩))
structure T_api_Actor where
  Name : ByteArray
  Names : (List ByteArray)
  Types : (List T_api_Type)
  Msg : T_api_Type
  Body : T_api_Expr
def T_api_Actor.E (h : Heap) (x : T_api_Actor) (cs : List Value) : Prop := ∃ A1 c1 A2 c2 A5 c5 A9 c9 A10 c10 A11 c11 A12 c12, cs = [.string x.Name, .slice A1 x.Names.length c1, .slice A2 x.Types.length c2, .int .i64 x.Msg.Kind, .string x.Msg.Name, .slice A5 x.Msg.Args.length c5, .int .i64 x.Body.Kind, .int .i64 x.Body.Num, .string x.Body.Text, .slice A9 x.Body.Names.length c9, .slice A10 x.Body.Types.length c10, .slice A11 x.Body.Args.length c11, .slice A12 x.Body.Arms.length c12, .int .i64 x.Body.At] ∧ x.Names.length ≤ c1 ∧ Rd 1 eStr h A1 x.Names ∧ x.Types.length ≤ c2 ∧ Rd 3 T_api_Type.E h A2 x.Types ∧ x.Msg.Args.length ≤ c5 ∧ Rd 3 T_api_Type.E h A5 x.Msg.Args ∧ x.Body.Names.length ≤ c9 ∧ Rd 1 eStr h A9 x.Body.Names ∧ x.Body.Types.length ≤ c10 ∧ Rd 3 T_api_Type.E h A10 x.Body.Types ∧ x.Body.Args.length ≤ c11 ∧ Rd 8 T_api_Expr.E h A11 x.Body.Args ∧ x.Body.Arms.length ≤ c12 ∧ Rd 12 T_api_Arm.E h A12 x.Body.Arms
theorem T_api_Actor.T : Tell 14 T_api_Actor.E := ⟨by rintro m h x _ s ⟨A1, c1, A2, c2, A5, c5, A9, c9, A10, c10, A11, c11, A12, c12, rfl, k1, r1, k2, r2, k5, r5, k9, r9, k10, r10, k11, r11, k12, r12⟩; exact ⟨_, _, _, _, _, _, _, _, _, _, _, _, _, _, rfl, k1, r1.sub tell_str s, k2, r2.sub T_api_Type.T s, k5, r5.sub T_api_Type.T s, k9, r9.sub tell_str s, k10, r10.sub T_api_Type.T s, k11, r11.sub T_api_Expr.T s, k12, r12.sub T_api_Arm.T s⟩, by rintro h x _ ⟨A1, c1, A2, c2, A5, c5, A9, c9, A10, c10, A11, c11, A12, c12, rfl, k1, r1, k2, r2, k5, r5, k9, r9, k10, r10, k11, r11, k12, r12⟩; rfl, by rintro h x _ ⟨A1, c1, A2, c2, A5, c5, A9, c9, A10, c10, A11, c11, A12, c12, rfl, k1, r1, k2, r2, k5, r5, k9, r9, k10, r10, k11, r11, k12, r12⟩; exact Flats.cons trivial (Flats.cons trivial (Flats.cons trivial (Flats.cons trivial (Flats.cons trivial (Flats.cons trivial (Flats.cons trivial (Flats.cons trivial (Flats.cons trivial (Flats.cons trivial (Flats.cons trivial (Flats.cons trivial (Flats.cons trivial (Flats.cons trivial Flats.nil)))))))))))))⟩
def T_api_Actor.Q (x : T_api_Actor) : Prop := (x.Name.size ≤ 140737488351232) ∧ (x.Names.length * 16 ≤ 140737488351232 ∧ ∀ a ∈ x.Names, (a.size ≤ 140737488351232)) ∧ (x.Types.length * 48 ≤ 140737488351232 ∧ ∀ a ∈ x.Types, (T_api_Type.Q a)) ∧ (T_api_Type.Q x.Msg) ∧ (T_api_Expr.Q x.Body)
theorem T_api_Actor.tells {H : Type} {enc : TypeId × Value → H} {W : World} : Tells enc Try.prog W 211 T_api_Actor.E T_api_Actor.Q := tells_map (tells_struct (t := 211) (fs := [(9, 0), (136, 1), (149, 2), (209, 3), (152, 6)]) (T := 14) (by kernel_rfl) (by kernel_rfl) (tf_cons (s := 1) (f := 9) (by kernel_rfl) (tells_strL (t := 9) (by kernel_rfl)) (tf_cons (s := 1) (f := 136) (by kernel_rfl) (tells_sliceL (t := 136) (e := 9) (sz := 1) (B := 16) (by kernel_rfl) (by kernel_rfl) (by kernel_rfl) (tells_strL (t := 9) (by kernel_rfl))) (tf_cons (s := 1) (f := 149) (by kernel_rfl) (tells_sliceL (t := 149) (e := 209) (sz := 3) (B := 48) (by kernel_rfl) (by kernel_rfl) (by kernel_rfl) T_api_Type.tells) (tf_cons (s := 3) (f := 209) (by kernel_rfl) T_api_Type.tells (tf_cons (s := 8) (f := 152) (by kernel_rfl) T_api_Expr.tells tf_nil)))))) (by
  rintro ⟨x0, x1, x2, x3, x4, ⟨⟩⟩ cs e q
  obtain ⟨c0, r0, rfl, e0, c1, r1, rfl, e1, c2, r2, rfl, e2, c3, r3, rfl, e3, c4, r4, rfl, e4, eN⟩ := e
  obtain rfl : c0 = [.string x0] := e0
  obtain ⟨A1, k1, rfl, l1, R1⟩ := e1
  obtain ⟨A2, k2, rfl, l2, R2⟩ := e2
  obtain ⟨A3_2, k3_2, rfl, l3_2, R3_2⟩ := T_api_Type.iff.1 e3
  obtain ⟨A4_3, k4_3, A4_4, k4_4, A4_5, k4_5, A4_6, k4_6, rfl, l4_3, R4_3, l4_4, R4_4, l4_5, R4_5, l4_6, R4_6⟩ := T_api_Expr.iff.1 e4
  obtain rfl : r4 = [] := eN
  exact ⟨⟨x0, x1, x2, x3, x4⟩, ⟨_, _, _, _, _, _, _, _, _, _, _, _, _, _, rfl, l1, R1, l2, R2, l3_2, R3_2, l4_3, R4_3, l4_4, R4_4, l4_5, R4_5, l4_6, R4_6⟩, q.1, q.2.1, q.2.2.1, q.2.2.2.1, q.2.2.2.2.1⟩)
def T_api_Actor.bulk (x : T_api_Actor) : Nat := ((x.Name.size + 1) + (((List.map (fun s : ByteArray => s.size + 1) x.Names).sum + 1) + (((List.map T_api_Type.bulk x.Types).sum + 1) + ((T_api_Type.bulk x.Msg) + ((T_api_Expr.bulk x.Body) + (0)))))) + 1
theorem T_api_Actor.kt {H : Type} {bk : DataW H → Nat} {enc : TypeId × Value → H} {W : World} {N : Nat} (M : Measure bk) : KT N bk enc Try.prog W 211 T_api_Actor.E T_api_Actor.bulk := kt_down (kt_map (kt_struct M (t := 211) (fs := [(9, 0), (136, 1), (149, 2), (209, 3), (152, 6)]) (T := 14) (by kernel_rfl) (by kernel_rfl) (ktf_cons (s := 1) (f := 9) (by kernel_rfl) tell_str (kt_str (t := 9) M (by kernel_rfl)) (ktf_cons (s := 1) (f := 136) (by kernel_rfl) (tell_row tell_str) (kt_slice M (t := 136) (e := 9) (sz := 1) (by kernel_rfl) (by kernel_rfl) (kt_str (t := 9) M (by kernel_rfl))) (ktf_cons (s := 1) (f := 149) (by kernel_rfl) (tell_row T_api_Type.T) (kt_slice M (t := 149) (e := 209) (sz := 3) (by kernel_rfl) (by kernel_rfl) (T_api_Type.kt M)) (ktf_cons (s := 3) (f := 209) (by kernel_rfl) T_api_Type.T (T_api_Type.kt M) (ktf_cons (s := 8) (f := 152) (by kernel_rfl) T_api_Expr.T (T_api_Expr.kt M) ktf_nil)))))) (fun x cs e => by
  obtain ⟨A1, c1, A2, c2, A3_2, c3_2, A4_3, c4_3, A4_4, c4_4, A4_5, c4_5, A4_6, c4_6, rfl, k1, r1, k2, r2, k3_2, r3_2, k4_3, r4_3, k4_4, r4_4, k4_5, r4_5, k4_6, r4_6⟩ := e
  exact ⟨(x.Name, x.Names, x.Types, x.Msg, x.Body, ()), ⟨[.string x.Name], _, rfl, rfl, ⟨[.slice A1 x.Names.length c1], _, rfl, ⟨_, _, rfl, k1, r1⟩, ⟨[.slice A2 x.Types.length c2], _, rfl, ⟨_, _, rfl, k2, r2⟩, ⟨[.int .i64 x.Msg.Kind, .string x.Msg.Name, .slice A3_2 x.Msg.Args.length c3_2], _, rfl, T_api_Type.iff.2 ⟨_, _, rfl, k3_2, r3_2⟩, ⟨[.int .i64 x.Body.Kind, .int .i64 x.Body.Num, .string x.Body.Text, .slice A4_3 x.Body.Names.length c4_3, .slice A4_4 x.Body.Types.length c4_4, .slice A4_5 x.Body.Args.length c4_5, .slice A4_6 x.Body.Arms.length c4_6, .int .i64 x.Body.At], _, rfl, T_api_Expr.iff.2 ⟨_, _, _, _, _, _, _, _, rfl, k4_3, r4_3, k4_4, r4_4, k4_5, r4_5, k4_6, r4_6⟩, rfl⟩⟩⟩⟩⟩, Nat.le_refl _⟩))
structure T_api_Program where
  Name : ByteArray
  Version : Int
  Uses : (List T_api_Use)
  Datas : (List T_api_Data)
  Traits : (List T_api_Trait)
  Impls : (List T_api_Impl)
  Funcs : (List T_api_Func)
  Actors : (List T_api_Actor)
def T_api_Program.E (h : Heap) (x : T_api_Program) (cs : List Value) : Prop := ∃ A2 c2 A3 c3 A4 c4 A5 c5 A6 c6 A7 c7, cs = [.string x.Name, .int .i64 x.Version, .slice A2 x.Uses.length c2, .slice A3 x.Datas.length c3, .slice A4 x.Traits.length c4, .slice A5 x.Impls.length c5, .slice A6 x.Funcs.length c6, .slice A7 x.Actors.length c7] ∧ x.Uses.length ≤ c2 ∧ Rd 3 T_api_Use.E h A2 x.Uses ∧ x.Datas.length ≤ c3 ∧ Rd 3 T_api_Data.E h A3 x.Datas ∧ x.Traits.length ≤ c4 ∧ Rd 2 T_api_Trait.E h A4 x.Traits ∧ x.Impls.length ≤ c5 ∧ Rd 3 T_api_Impl.E h A5 x.Impls ∧ x.Funcs.length ≤ c6 ∧ Rd 15 T_api_Func.E h A6 x.Funcs ∧ x.Actors.length ≤ c7 ∧ Rd 14 T_api_Actor.E h A7 x.Actors
theorem T_api_Program.T : Tell 8 T_api_Program.E := ⟨by rintro m h x _ s ⟨A2, c2, A3, c3, A4, c4, A5, c5, A6, c6, A7, c7, rfl, k2, r2, k3, r3, k4, r4, k5, r5, k6, r6, k7, r7⟩; exact ⟨_, _, _, _, _, _, _, _, _, _, _, _, rfl, k2, r2.sub T_api_Use.T s, k3, r3.sub T_api_Data.T s, k4, r4.sub T_api_Trait.T s, k5, r5.sub T_api_Impl.T s, k6, r6.sub T_api_Func.T s, k7, r7.sub T_api_Actor.T s⟩, by rintro h x _ ⟨A2, c2, A3, c3, A4, c4, A5, c5, A6, c6, A7, c7, rfl, k2, r2, k3, r3, k4, r4, k5, r5, k6, r6, k7, r7⟩; rfl, by rintro h x _ ⟨A2, c2, A3, c3, A4, c4, A5, c5, A6, c6, A7, c7, rfl, k2, r2, k3, r3, k4, r4, k5, r5, k6, r6, k7, r7⟩; exact Flats.cons trivial (Flats.cons trivial (Flats.cons trivial (Flats.cons trivial (Flats.cons trivial (Flats.cons trivial (Flats.cons trivial (Flats.cons trivial Flats.nil)))))))⟩
def T_api_Program.Q (x : T_api_Program) : Prop := (x.Name.size ≤ 140737488351232) ∧ (-9223372036854775808 ≤ x.Version ∧ x.Version ≤ 9223372036854775807) ∧ (x.Uses.length * 32 ≤ 140737488351232 ∧ ∀ a ∈ x.Uses, (T_api_Use.Q a)) ∧ (x.Datas.length * 64 ≤ 140737488351232 ∧ ∀ a ∈ x.Datas, (T_api_Data.Q a)) ∧ (x.Traits.length * 40 ≤ 140737488351232 ∧ ∀ a ∈ x.Traits, (T_api_Trait.Q a)) ∧ (x.Impls.length * 56 ≤ 140737488351232 ∧ ∀ a ∈ x.Impls, (T_api_Impl.Q a)) ∧ (x.Funcs.length * 272 ≤ 140737488351232 ∧ ∀ a ∈ x.Funcs, (T_api_Func.Q a)) ∧ (x.Actors.length * 248 ≤ 140737488351232 ∧ ∀ a ∈ x.Actors, (T_api_Actor.Q a))
theorem T_api_Program.tells {H : Type} {enc : TypeId × Value → H} {W : World} : Tells enc Try.prog W 135 T_api_Program.E T_api_Program.Q := tells_map (tells_struct (t := 135) (fs := [(9, 0), (3, 1), (128, 2), (129, 3), (130, 4), (131, 5), (132, 6), (133, 7)]) (T := 8) (by kernel_rfl) (by kernel_rfl) (tf_cons (s := 1) (f := 9) (by kernel_rfl) (tells_strL (t := 9) (by kernel_rfl)) (tf_cons (s := 1) (f := 3) (by kernel_rfl) (tells_i64 (t := 3) (by kernel_rfl)) (tf_cons (s := 1) (f := 128) (by kernel_rfl) (tells_sliceL (t := 128) (e := 213) (sz := 3) (B := 32) (by kernel_rfl) (by kernel_rfl) (by kernel_rfl) T_api_Use.tells) (tf_cons (s := 1) (f := 129) (by kernel_rfl) (tells_sliceL (t := 129) (e := 216) (sz := 3) (B := 64) (by kernel_rfl) (by kernel_rfl) (by kernel_rfl) T_api_Data.tells) (tf_cons (s := 1) (f := 130) (by kernel_rfl) (tells_sliceL (t := 130) (e := 204) (sz := 2) (B := 40) (by kernel_rfl) (by kernel_rfl) (by kernel_rfl) T_api_Trait.tells) (tf_cons (s := 1) (f := 131) (by kernel_rfl) (tells_sliceL (t := 131) (e := 207) (sz := 3) (B := 56) (by kernel_rfl) (by kernel_rfl) (by kernel_rfl) T_api_Impl.tells) (tf_cons (s := 1) (f := 132) (by kernel_rfl) (tells_sliceL (t := 132) (e := 219) (sz := 15) (B := 272) (by kernel_rfl) (by kernel_rfl) (by kernel_rfl) T_api_Func.tells) (tf_cons (s := 1) (f := 133) (by kernel_rfl) (tells_sliceL (t := 133) (e := 211) (sz := 14) (B := 248) (by kernel_rfl) (by kernel_rfl) (by kernel_rfl) T_api_Actor.tells) tf_nil))))))))) (by
  rintro ⟨x0, x1, x2, x3, x4, x5, x6, x7, ⟨⟩⟩ cs e q
  obtain ⟨c0, r0, rfl, e0, c1, r1, rfl, e1, c2, r2, rfl, e2, c3, r3, rfl, e3, c4, r4, rfl, e4, c5, r5, rfl, e5, c6, r6, rfl, e6, c7, r7, rfl, e7, eN⟩ := e
  obtain rfl : c0 = [.string x0] := e0
  obtain rfl : c1 = [.int .i64 x1] := e1
  obtain ⟨A2, k2, rfl, l2, R2⟩ := e2
  obtain ⟨A3, k3, rfl, l3, R3⟩ := e3
  obtain ⟨A4, k4, rfl, l4, R4⟩ := e4
  obtain ⟨A5, k5, rfl, l5, R5⟩ := e5
  obtain ⟨A6, k6, rfl, l6, R6⟩ := e6
  obtain ⟨A7, k7, rfl, l7, R7⟩ := e7
  obtain rfl : r7 = [] := eN
  exact ⟨⟨x0, x1, x2, x3, x4, x5, x6, x7⟩, ⟨_, _, _, _, _, _, _, _, _, _, _, _, rfl, l2, R2, l3, R3, l4, R4, l5, R5, l6, R6, l7, R7⟩, q.1, q.2.1, q.2.2.1, q.2.2.2.1, q.2.2.2.2.1, q.2.2.2.2.2.1, q.2.2.2.2.2.2.1, q.2.2.2.2.2.2.2.1⟩)
def T_api_Program.bulk (x : T_api_Program) : Nat := ((x.Name.size + 1) + (1 + (((List.map T_api_Use.bulk x.Uses).sum + 1) + (((List.map T_api_Data.bulk x.Datas).sum + 1) + (((List.map T_api_Trait.bulk x.Traits).sum + 1) + (((List.map T_api_Impl.bulk x.Impls).sum + 1) + (((List.map T_api_Func.bulk x.Funcs).sum + 1) + (((List.map T_api_Actor.bulk x.Actors).sum + 1) + (0))))))))) + 1
theorem T_api_Program.kt {H : Type} {bk : DataW H → Nat} {enc : TypeId × Value → H} {W : World} {N : Nat} (M : Measure bk) : KT N bk enc Try.prog W 135 T_api_Program.E T_api_Program.bulk := kt_down (kt_map (kt_struct M (t := 135) (fs := [(9, 0), (3, 1), (128, 2), (129, 3), (130, 4), (131, 5), (132, 6), (133, 7)]) (T := 8) (by kernel_rfl) (by kernel_rfl) (ktf_cons (s := 1) (f := 9) (by kernel_rfl) tell_str (kt_str (t := 9) M (by kernel_rfl)) (ktf_cons (s := 1) (f := 3) (by kernel_rfl) (tell_int .i64) (kt_one M) (ktf_cons (s := 1) (f := 128) (by kernel_rfl) (tell_row T_api_Use.T) (kt_slice M (t := 128) (e := 213) (sz := 3) (by kernel_rfl) (by kernel_rfl) (T_api_Use.kt M)) (ktf_cons (s := 1) (f := 129) (by kernel_rfl) (tell_row T_api_Data.T) (kt_slice M (t := 129) (e := 216) (sz := 3) (by kernel_rfl) (by kernel_rfl) (T_api_Data.kt M)) (ktf_cons (s := 1) (f := 130) (by kernel_rfl) (tell_row T_api_Trait.T) (kt_slice M (t := 130) (e := 204) (sz := 2) (by kernel_rfl) (by kernel_rfl) (T_api_Trait.kt M)) (ktf_cons (s := 1) (f := 131) (by kernel_rfl) (tell_row T_api_Impl.T) (kt_slice M (t := 131) (e := 207) (sz := 3) (by kernel_rfl) (by kernel_rfl) (T_api_Impl.kt M)) (ktf_cons (s := 1) (f := 132) (by kernel_rfl) (tell_row T_api_Func.T) (kt_slice M (t := 132) (e := 219) (sz := 15) (by kernel_rfl) (by kernel_rfl) (T_api_Func.kt M)) (ktf_cons (s := 1) (f := 133) (by kernel_rfl) (tell_row T_api_Actor.T) (kt_slice M (t := 133) (e := 211) (sz := 14) (by kernel_rfl) (by kernel_rfl) (T_api_Actor.kt M)) ktf_nil))))))))) (fun x cs e => by
  obtain ⟨A2, c2, A3, c3, A4, c4, A5, c5, A6, c6, A7, c7, rfl, k2, r2, k3, r3, k4, r4, k5, r5, k6, r6, k7, r7⟩ := e
  exact ⟨(x.Name, x.Version, x.Uses, x.Datas, x.Traits, x.Impls, x.Funcs, x.Actors, ()), ⟨[.string x.Name], _, rfl, rfl, ⟨[.int .i64 x.Version], _, rfl, rfl, ⟨[.slice A2 x.Uses.length c2], _, rfl, ⟨_, _, rfl, k2, r2⟩, ⟨[.slice A3 x.Datas.length c3], _, rfl, ⟨_, _, rfl, k3, r3⟩, ⟨[.slice A4 x.Traits.length c4], _, rfl, ⟨_, _, rfl, k4, r4⟩, ⟨[.slice A5 x.Impls.length c5], _, rfl, ⟨_, _, rfl, k5, r5⟩, ⟨[.slice A6 x.Funcs.length c6], _, rfl, ⟨_, _, rfl, k6, r6⟩, ⟨[.slice A7 x.Actors.length c7], _, rfl, ⟨_, _, rfl, k7, r7⟩, rfl⟩⟩⟩⟩⟩⟩⟩⟩, Nat.le_refl _⟩))
structure T_roadref2_Wrong where
  E_ : Int
  At : Int
def T_roadref2_Wrong.E (h : Heap) (x : T_roadref2_Wrong) (cs : List Value) : Prop := cs = [.int .i64 x.E_, .int .i64 x.At]
theorem T_roadref2_Wrong.T : Tell 2 T_roadref2_Wrong.E := ⟨by rintro m h x _ s rfl; exact rfl, by rintro h x _ rfl; rfl, by rintro h x _ rfl; exact Flats.cons trivial (Flats.cons trivial Flats.nil)⟩
theorem T_roadref2_Wrong.keep {m h : Heap} {x : T_roadref2_Wrong} {cs : List Value} (e : T_roadref2_Wrong.E m x cs) : T_roadref2_Wrong.E h x cs := e
theorem T_api_Program.g5 {m : Heap} {x : T_api_Program} {cs : List Value} (e : T_api_Program.E m x cs) : ∃ A c, cs[5]? = some (.slice A (List.length x.Impls) c) ∧ List.length x.Impls ≤ c ∧ Rd 3 T_api_Impl.E m A x.Impls := by
  obtain ⟨A2, c2, A3, c3, A4, c4, A5, c5, A6, c6, A7, c7, rfl, k2, r2, k3, r3, k4, r4, k5, r5, k6, r6, k7, r7⟩ := e
  exact ⟨_, _, rfl, k5, r5⟩
theorem T_api_Impl.g2 {m : Heap} {x : T_api_Impl} {cs : List Value} (e : T_api_Impl.E m x cs) : ∃ A c, cs[2]? = some (.slice A (List.length x.Funcs) c) ∧ List.length x.Funcs ≤ c ∧ Rd 15 T_api_Func.E m A x.Funcs := by
  obtain ⟨A2, c2, rfl, k2, r2⟩ := e
  exact ⟨_, _, rfl, k2, r2⟩
theorem T_api_Program.g6 {m : Heap} {x : T_api_Program} {cs : List Value} (e : T_api_Program.E m x cs) : ∃ A c, cs[6]? = some (.slice A (List.length x.Funcs) c) ∧ List.length x.Funcs ≤ c ∧ Rd 15 T_api_Func.E m A x.Funcs := by
  obtain ⟨A2, c2, A3, c3, A4, c4, A5, c5, A6, c6, A7, c7, rfl, k2, r2, k3, r3, k4, r4, k5, r5, k6, r6, k7, r7⟩ := e
  exact ⟨_, _, rfl, k6, r6⟩
theorem T_api_Func.u7_152 {m : Heap} {x : T_api_Func} {cs : List Value} (e : T_api_Func.E m x cs) : T_api_Expr.E m x.Body (List.take 8 (List.drop 7 cs)) := by
  obtain ⟨A1, c1, A2, c2, A3, c3, A6, c6, A10, c10, A11, c11, A12, c12, A13, c13, rfl, k1, r1, k2, r2, k3, r3, k6, r6, k10, r10, k11, r11, k12, r12, k13, r13⟩ := e
  exact (T_api_Expr.iff.2 ⟨_, _, _, _, _, _, _, _, rfl, k10, r10, k11, r11, k12, r12, k13, r13⟩)
theorem T_api_Program.g7 {m : Heap} {x : T_api_Program} {cs : List Value} (e : T_api_Program.E m x cs) : ∃ A c, cs[7]? = some (.slice A (List.length x.Actors) c) ∧ List.length x.Actors ≤ c ∧ Rd 14 T_api_Actor.E m A x.Actors := by
  obtain ⟨A2, c2, A3, c3, A4, c4, A5, c5, A6, c6, A7, c7, rfl, k2, r2, k3, r3, k4, r4, k5, r5, k6, r6, k7, r7⟩ := e
  exact ⟨_, _, rfl, k7, r7⟩
theorem T_api_Actor.u6_152 {m : Heap} {x : T_api_Actor} {cs : List Value} (e : T_api_Actor.E m x cs) : T_api_Expr.E m x.Body (List.take 8 (List.drop 6 cs)) := by
  obtain ⟨A1, c1, A2, c2, A5, c5, A9, c9, A10, c10, A11, c11, A12, c12, rfl, k1, r1, k2, r2, k5, r5, k9, r9, k10, r10, k11, r11, k12, r12⟩ := e
  exact (T_api_Expr.iff.2 ⟨_, _, _, _, _, _, _, _, rfl, k9, r9, k10, r10, k11, r11, k12, r12⟩)
theorem T_api_Expr.g6 {m : Heap} {x : T_api_Expr} {cs : List Value} (e : T_api_Expr.E m x cs) : ∃ A c, cs[6]? = some (.slice A (List.length x.Arms) c) ∧ List.length x.Arms ≤ c ∧ Rd 12 T_api_Arm.E m A x.Arms := by
  obtain ⟨A3, c3, A4, c4, A5, c5, A6, c6, rfl, k3, r3, k4, r4, k5, r5, k6, r6⟩ := T_api_Expr.iff.1 e
  exact ⟨_, _, rfl, k6, r6⟩
theorem T_api_Arm.u4_152 {m : Heap} {x : T_api_Arm} {cs : List Value} (e : T_api_Arm.E m x cs) : T_api_Expr.E m x.Body (List.take 8 (List.drop 4 cs)) := by
  obtain ⟨A3, c3, A7, c7, A8, c8, A9, c9, A10, c10, rfl, k3, r3, k7, r7, k8, r8, k9, r9, k10, r10⟩ := T_api_Arm.iff.1 e
  exact (T_api_Expr.iff.2 ⟨_, _, _, _, _, _, _, _, rfl, k7, r7, k8, r8, k9, r9, k10, r10⟩)
theorem T_api_Expr.g5 {m : Heap} {x : T_api_Expr} {cs : List Value} (e : T_api_Expr.E m x cs) : ∃ A c, cs[5]? = some (.slice A (List.length x.Args) c) ∧ List.length x.Args ≤ c ∧ Rd 8 T_api_Expr.E m A x.Args := by
  obtain ⟨A3, c3, A4, c4, A5, c5, A6, c6, rfl, k3, r3, k4, r4, k5, r5, k6, r6⟩ := T_api_Expr.iff.1 e
  exact ⟨_, _, rfl, k5, r5⟩
theorem T_api_Pat.g3 {m : Heap} {x : T_api_Pat} {cs : List Value} (e : T_api_Pat.E m x cs) : ∃ A c, cs[3]? = some (.slice A (List.length x.Args) c) ∧ List.length x.Args ≤ c ∧ Rd 4 T_api_Pat.E m A x.Args := by
  obtain ⟨A3, c3, rfl, k3, r3⟩ := T_api_Pat.iff.1 e
  exact ⟨_, _, rfl, k3, r3⟩
theorem T_api_Arm.u0_226 {m : Heap} {x : T_api_Arm} {cs : List Value} (e : T_api_Arm.E m x cs) : T_api_Pat.E m x.Pat (List.take 4 (List.drop 0 cs)) := by
  obtain ⟨A3, c3, A7, c7, A8, c8, A9, c9, A10, c10, rfl, k3, r3, k7, r7, k8, r8, k9, r9, k10, r10⟩ := T_api_Arm.iff.1 e
  exact (T_api_Pat.iff.2 ⟨_, _, rfl, k3, r3⟩)
theorem T_api_Program.g3 {m : Heap} {x : T_api_Program} {cs : List Value} (e : T_api_Program.E m x cs) : ∃ A c, cs[3]? = some (.slice A (List.length x.Datas) c) ∧ List.length x.Datas ≤ c ∧ Rd 3 T_api_Data.E m A x.Datas := by
  obtain ⟨A2, c2, A3, c3, A4, c4, A5, c5, A6, c6, A7, c7, rfl, k2, r2, k3, r3, k4, r4, k5, r5, k6, r6, k7, r7⟩ := e
  exact ⟨_, _, rfl, k3, r3⟩
theorem T_api_Data.g2 {m : Heap} {x : T_api_Data} {cs : List Value} (e : T_api_Data.E m x cs) : ∃ A c, cs[2]? = some (.slice A (List.length x.Makes) c) ∧ List.length x.Makes ≤ c ∧ Rd 2 T_api_Make.E m A x.Makes := by
  obtain ⟨A1, c1, A2, c2, rfl, k1, r1, k2, r2⟩ := e
  exact ⟨_, _, rfl, k2, r2⟩
theorem T_api_Make.g0 {m : Heap} {x : T_api_Make} {cs : List Value} (e : T_api_Make.E m x cs) : cs[0]? = some (Value.string x.Name) := by
  obtain ⟨A1, c1, rfl, k1, r1⟩ := e
  exact rfl
theorem T_api_Func.g0 {m : Heap} {x : T_api_Func} {cs : List Value} (e : T_api_Func.E m x cs) : cs[0]? = some (Value.string x.Name) := by
  obtain ⟨A1, c1, A2, c2, A3, c3, A6, c6, A10, c10, A11, c11, A12, c12, A13, c13, rfl, k1, r1, k2, r2, k3, r3, k6, r6, k10, r10, k11, r11, k12, r12, k13, r13⟩ := e
  exact rfl
theorem T_api_Program.g4 {m : Heap} {x : T_api_Program} {cs : List Value} (e : T_api_Program.E m x cs) : ∃ A c, cs[4]? = some (.slice A (List.length x.Traits) c) ∧ List.length x.Traits ≤ c ∧ Rd 2 T_api_Trait.E m A x.Traits := by
  obtain ⟨A2, c2, A3, c3, A4, c4, A5, c5, A6, c6, A7, c7, rfl, k2, r2, k3, r3, k4, r4, k5, r5, k6, r6, k7, r7⟩ := e
  exact ⟨_, _, rfl, k4, r4⟩
theorem T_api_Trait.g1 {m : Heap} {x : T_api_Trait} {cs : List Value} (e : T_api_Trait.E m x cs) : ∃ A c, cs[1]? = some (.slice A (List.length x.Funcs) c) ∧ List.length x.Funcs ≤ c ∧ Rd 15 T_api_Func.E m A x.Funcs := by
  obtain ⟨A1, c1, rfl, k1, r1⟩ := e
  exact ⟨_, _, rfl, k1, r1⟩
theorem T_api_Actor.g0 {m : Heap} {x : T_api_Actor} {cs : List Value} (e : T_api_Actor.E m x cs) : cs[0]? = some (Value.string x.Name) := by
  obtain ⟨A1, c1, A2, c2, A5, c5, A9, c9, A10, c10, A11, c11, A12, c12, rfl, k1, r1, k2, r2, k5, r5, k9, r9, k10, r10, k11, r11, k12, r12⟩ := e
  exact rfl
theorem T_api_Pat.g0 {m : Heap} {x : T_api_Pat} {cs : List Value} (e : T_api_Pat.E m x cs) : cs[0]? = some (Value.int .i64 x.Kind) := by
  obtain ⟨A3, c3, rfl, k3, r3⟩ := T_api_Pat.iff.1 e
  exact rfl
theorem T_api_Pat.g2 {m : Heap} {x : T_api_Pat} {cs : List Value} (e : T_api_Pat.E m x cs) : cs[2]? = some (Value.string x.Text) := by
  obtain ⟨A3, c3, rfl, k3, r3⟩ := T_api_Pat.iff.1 e
  exact rfl
theorem T_api_Expr.g0 {m : Heap} {x : T_api_Expr} {cs : List Value} (e : T_api_Expr.E m x cs) : cs[0]? = some (Value.int .i64 x.Kind) := by
  obtain ⟨A3, c3, A4, c4, A5, c5, A6, c6, rfl, k3, r3, k4, r4, k5, r5, k6, r6⟩ := T_api_Expr.iff.1 e
  exact rfl
theorem T_api_Expr.g2 {m : Heap} {x : T_api_Expr} {cs : List Value} (e : T_api_Expr.E m x cs) : cs[2]? = some (Value.string x.Text) := by
  obtain ⟨A3, c3, A4, c4, A5, c5, A6, c6, rfl, k3, r3, k4, r4, k5, r5, k6, r6⟩ := T_api_Expr.iff.1 e
  exact rfl
theorem T_api_Expr.g3 {m : Heap} {x : T_api_Expr} {cs : List Value} (e : T_api_Expr.E m x cs) : ∃ A c, cs[3]? = some (.slice A (List.length x.Names) c) ∧ List.length x.Names ≤ c ∧ Rd 1 eStr m A x.Names := by
  obtain ⟨A3, c3, A4, c4, A5, c5, A6, c6, rfl, k3, r3, k4, r4, k5, r5, k6, r6⟩ := T_api_Expr.iff.1 e
  exact ⟨_, _, rfl, k3, r3⟩
theorem T_api_Expr.g7 {m : Heap} {x : T_api_Expr} {cs : List Value} (e : T_api_Expr.E m x cs) : cs[7]? = some (Value.int .i64 x.At) := by
  obtain ⟨A3, c3, A4, c4, A5, c5, A6, c6, rfl, k3, r3, k4, r4, k5, r5, k6, r6⟩ := T_api_Expr.iff.1 e
  exact rfl
theorem T_api_Program.g2 {m : Heap} {x : T_api_Program} {cs : List Value} (e : T_api_Program.E m x cs) : ∃ A c, cs[2]? = some (.slice A (List.length x.Uses) c) ∧ List.length x.Uses ≤ c ∧ Rd 3 T_api_Use.E m A x.Uses := by
  obtain ⟨A2, c2, A3, c3, A4, c4, A5, c5, A6, c6, A7, c7, rfl, k2, r2, k3, r3, k4, r4, k5, r5, k6, r6, k7, r7⟩ := e
  exact ⟨_, _, rfl, k2, r2⟩
theorem T_api_Use.g0 {m : Heap} {x : T_api_Use} {cs : List Value} (e : T_api_Use.E m x cs) : cs[0]? = some (Value.string x.Name) := by
  obtain rfl := e
  exact rfl
theorem T_api_Data.g0 {m : Heap} {x : T_api_Data} {cs : List Value} (e : T_api_Data.E m x cs) : cs[0]? = some (Value.string x.Name) := by
  obtain ⟨A1, c1, A2, c2, rfl, k1, r1, k2, r2⟩ := e
  exact rfl
theorem T_api_Data.g1 {m : Heap} {x : T_api_Data} {cs : List Value} (e : T_api_Data.E m x cs) : ∃ A c, cs[1]? = some (.slice A (List.length x.Params) c) ∧ List.length x.Params ≤ c ∧ Rd 1 eStr m A x.Params := by
  obtain ⟨A1, c1, A2, c2, rfl, k1, r1, k2, r2⟩ := e
  exact ⟨_, _, rfl, k1, r1⟩
theorem T_api_Trait.g0 {m : Heap} {x : T_api_Trait} {cs : List Value} (e : T_api_Trait.E m x cs) : cs[0]? = some (Value.string x.Name) := by
  obtain ⟨A1, c1, rfl, k1, r1⟩ := e
  exact rfl
theorem T_api_Program.g0 {m : Heap} {x : T_api_Program} {cs : List Value} (e : T_api_Program.E m x cs) : cs[0]? = some (Value.string x.Name) := by
  obtain ⟨A2, c2, A3, c3, A4, c4, A5, c5, A6, c6, A7, c7, rfl, k2, r2, k3, r3, k4, r4, k5, r5, k6, r6, k7, r7⟩ := e
  exact rfl
theorem T_api_Func.g1 {m : Heap} {x : T_api_Func} {cs : List Value} (e : T_api_Func.E m x cs) : ∃ A c, cs[1]? = some (.slice A (List.length x.Params) c) ∧ List.length x.Params ≤ c ∧ Rd 1 eStr m A x.Params := by
  obtain ⟨A1, c1, A2, c2, A3, c3, A6, c6, A10, c10, A11, c11, A12, c12, A13, c13, rfl, k1, r1, k2, r2, k3, r3, k6, r6, k10, r10, k11, r11, k12, r12, k13, r13⟩ := e
  exact ⟨_, _, rfl, k1, r1⟩
theorem T_api_Func.g2 {m : Heap} {x : T_api_Func} {cs : List Value} (e : T_api_Func.E m x cs) : ∃ A c, cs[2]? = some (.slice A (List.length x.Names) c) ∧ List.length x.Names ≤ c ∧ Rd 1 eStr m A x.Names := by
  obtain ⟨A1, c1, A2, c2, A3, c3, A6, c6, A10, c10, A11, c11, A12, c12, A13, c13, rfl, k1, r1, k2, r2, k3, r3, k6, r6, k10, r10, k11, r11, k12, r12, k13, r13⟩ := e
  exact ⟨_, _, rfl, k2, r2⟩
theorem T_api_Actor.g1 {m : Heap} {x : T_api_Actor} {cs : List Value} (e : T_api_Actor.E m x cs) : ∃ A c, cs[1]? = some (.slice A (List.length x.Names) c) ∧ List.length x.Names ≤ c ∧ Rd 1 eStr m A x.Names := by
  obtain ⟨A1, c1, A2, c2, A5, c5, A9, c9, A10, c10, A11, c11, A12, c12, rfl, k1, r1, k2, r2, k5, r5, k9, r9, k10, r10, k11, r11, k12, r12⟩ := e
  exact ⟨_, _, rfl, k1, r1⟩
theorem T_roadref2_Wrong.g0 {m : Heap} {x : T_roadref2_Wrong} {cs : List Value} (e : T_roadref2_Wrong.E m x cs) : cs[0]? = some (Value.int .i64 x.E_) := by
  obtain rfl := e
  exact rfl
theorem T_roadref2_Wrong.g1 {m : Heap} {x : T_roadref2_Wrong} {cs : List Value} (e : T_roadref2_Wrong.E m x cs) : cs[1]? = some (Value.int .i64 x.At) := by
  obtain rfl := e
  exact rfl
def roadref2_FunsOf.post (W : Nat → Prop) (h0 m0 : Heap) (r : (List T_api_Func)) (v : Value) (h : Heap) : Prop := ∃ m A0 n0 c0, Hold W h0 m0 h m [rR (aE T_api_Func.T) A0 c0 r] ∧ v = .slice A0 n0 c0 ∧ n0 = List.length r
inductive roadref2_FunsOf.l0_k.Pt where
  | l0 (y_1 : T_api_Program) (a_3 : List T_api_Func) (a_7 : List T_api_Impl) (x_8 : Int) (x_9 : Int)
noncomputable def roadref2_FunsOf.l0_k.body (go : (p : roadref2_FunsOf.l0_k.Pt) → Option ((List T_api_Func))) : (p : roadref2_FunsOf.l0_k.Pt) → Option ((List T_api_Func))
  | .l0 y_1 a_3 a_7 x_8 x_9 => if x_9 < x_8 then (Option.bind (gi a_7 x_9) fun y1 => Option.bind (ap 272 a_3 y1.Funcs) fun l19 => (go (.l0 y_1 l19 a_7 x_8 (IntKind.wrap .i64 (x_9 + (1 : Int)))))) else (Option.bind (ap 272 a_3 y_1.Funcs) fun l33 => some (l33))
theorem roadref2_FunsOf.l0_k.mono : MonoF (β := fun _ => ((List T_api_Func))) roadref2_FunsOf.l0_k.body := fun f g hfg p => match p with
  | .l0 y_1 a_3 a_7 x_8 x_9 => LeO.ite (LeO.bind (LeO.refl _) fun y1 => LeO.bind (LeO.refl _) fun l19 => (hfg _)) (LeO.bind (LeO.refl _) fun l33 => LeO.refl _)
noncomputable def roadref2_FunsOf.l0_k.go (p : roadref2_FunsOf.l0_k.Pt) : Option ((List T_api_Func)) := fixF (β := fun _ => ((List T_api_Func))) roadref2_FunsOf.l0_k.body p
noncomputable def roadref2_FunsOf.l0 (y_1 a_3 a_7 x_8 x_9) := roadref2_FunsOf.l0_k.go (.l0 y_1 a_3 a_7 x_8 x_9)
theorem roadref2_FunsOf.l0_eq (y_1 a_3 a_7 x_8 x_9) : roadref2_FunsOf.l0 y_1 a_3 a_7 x_8 x_9 = if x_9 < x_8 then (Option.bind (gi a_7 x_9) fun y1 => Option.bind (ap 272 a_3 y1.Funcs) fun l19 => (roadref2_FunsOf.l0 y_1 l19 a_7 x_8 (IntKind.wrap .i64 (x_9 + (1 : Int))))) else (Option.bind (ap 272 a_3 y_1.Funcs) fun l33 => some (l33)) := fixF_eq roadref2_FunsOf.l0_k.mono _
def roadref2_FunsOf.l0_k.I : (p : roadref2_FunsOf.l0_k.Pt) → ((List T_api_Func)) → Prop
  | .l0 y_1 a_3 a_7 x_8 x_9, r => ∀ {W h0 m0 h m bk_1 cs_1 A_3 n_3 c_3 A_7 n_7 c_7} (O : Hold W h0 m0 h m [rV bk_1 135 cs_1, rR (aE T_api_Func.T) A_3 c_3 a_3]) (e_1 : T_api_Program.E m y_1 cs_1) (ne_3 : n_3 = List.length a_3) (ne_7 : n_7 = List.length a_7) (k_7 : List.length a_7 ≤ c_7) (r_7 : Rd 3 T_api_Impl.E m A_7 a_7), f110.l0 (roadref2_FunsOf.post W h0 m0 r) (⟨bk_1, 0, none⟩ : Addr) A_3 n_3 c_3 A_7 n_7 c_7 x_8 x_9 h
theorem roadref2_FunsOf.l0_k.step_l0 (go : (p : roadref2_FunsOf.l0_k.Pt) → Option ((List T_api_Func))) (ih : ∀ p r, go p = some r → roadref2_FunsOf.l0_k.I p r) (y_1 a_3 a_7 x_8 x_9) (r) (e : roadref2_FunsOf.l0_k.body go (.l0 y_1 a_3 a_7 x_8 x_9) = some r) : roadref2_FunsOf.l0_k.I (.l0 y_1 a_3 a_7 x_8 x_9) r := by
  unfold roadref2_FunsOf.l0_k.body at e
  intro W h0 m0 h m bk_1 cs_1 A_3 n_3 c_3 A_7 n_7 c_7 O e_1 ne_3 ne_7 k_7 r_7
  subst ne_3
  subst ne_7
  refine f110.l0_in ?_
  unfold f110.l0T
  refine split_dec_e e (fun c42 e => ?_) (fun c42 e => ?_)
  · obtain ⟨y1, g2, e⟩ := bind_e e
    refine r_7.addr rfl g2 fun a3 cs4 ha5 hc6 he7 => ?_
    refine ⟨_, ldAn O.s hc6 rfl, ?_⟩
    refine O.new fun h8 x9 O10 => ?_
    refine ⟨_, rfl, (T_api_Impl.T.len _ _ _ he7), ?_⟩
    refine O10.stA 2 rfl (T_api_Impl.T.len _ _ _ he7) (T_api_Impl.T.flat _ _ _ he7) fun h12 O13 => ?_
    obtain ⟨A14, c15, q16, k17, r18⟩ := T_api_Impl.g2 he7
    refine ⟨_, ldk (k := 2) (Sub.refl _) (O13.all 2 rfl) q16, _, _, _, rfl, ?_⟩
    obtain ⟨l19, g20, e⟩ := bind_e e
    refine O13.app 1 rfl rfl rfl (Rd.srcE r18 T_api_Func.T O13.s rfl) (by decide) g20 fun A21 c22 h23 O24 => ?_
    refine ⟨_, _, _, rfl, ?_⟩
    have O27 := O24.nm
    exact (ih _ _ e) (O27.pick [0, 1]).nm e_1 rfl rfl k_7 r_7
  · obtain ⟨A28, c29, q30, k31, r32⟩ := T_api_Program.g6 e_1
    refine ⟨_, ldk (k := 6) (Sub.refl _) (O.all 0 rfl) q30, _, _, _, rfl, ?_⟩
    obtain ⟨l33, g34, e⟩ := bind_e e
    refine O.app 1 rfl rfl rfl (Rd.srcE r32 T_api_Func.T O.s rfl) (by decide) g34 fun A35 c36 h37 O38 => ?_
    refine ⟨_, _, _, rfl, ?_⟩
    have O41 := O38.nm
    cases e
    exact ⟨_, _, _, _, O41.pick [1], rfl, rfl⟩
theorem roadref2_FunsOf.l0_k.all {p : roadref2_FunsOf.l0_k.Pt} {r : ((List T_api_Func))} (e : roadref2_FunsOf.l0_k.go p = some r) : roadref2_FunsOf.l0_k.I p r := fixF_ind (β := fun _ => ((List T_api_Func))) roadref2_FunsOf.l0_k.mono (I := roadref2_FunsOf.l0_k.I) (fun go ih p r e => match p with
  | .l0 y_1 a_3 a_7 x_8 x_9 => roadref2_FunsOf.l0_k.step_l0 go ih y_1 a_3 a_7 x_8 x_9 r e
  ) e
noncomputable def roadref2_FunsOf (y_0 : T_api_Program) : Option ((List T_api_Func)) :=
  (roadref2_FunsOf.l0 y_0 ([] : List T_api_Func) y_0.Impls (((List.length y_0.Impls) : Nat) : Int) (0 : Int))
theorem roadref2_FunsOf.walk {W h m cs_0 y_0} (O : Hold W h m h m []) (e_0 : T_api_Program.E m y_0 cs_0) {r} (e : roadref2_FunsOf y_0 = some r) : Run Try.prog 110 #[Value.agg cs_0.toArray] h (roadref2_FunsOf.post W h m r) := by
  unfold roadref2_FunsOf at e
  refine f110.run ?_
  unfold f110.runT
  refine O.new fun h1 x2 O3 => ?_
  obtain ⟨A5, c6, q7, k8, r9⟩ := T_api_Program.g5 e_0
  refine ⟨_, ldk (k := 5) (Sub.refl _) (O3.all 0 rfl) q7, _, _, _, rfl, ?_⟩
  have O10 := O3.nil (aE T_api_Func.T) none
  have O12 := O10.nm
  exact (roadref2_FunsOf.l0_k.all e) (O12.pick [0, 1]).nm e_0 rfl rfl k8 r9
def roadref2_BodiesOf.post (W : Nat → Prop) (h0 m0 : Heap) (r : (List T_api_Expr)) (v : Value) (h : Heap) : Prop := ∃ m A0 n0 c0, Hold W h0 m0 h m [rR (aE T_api_Expr.T) A0 c0 r] ∧ v = .slice A0 n0 c0 ∧ n0 = List.length r
inductive roadref2_BodiesOf.l1_k.Pt where
  | l1 (a_3 : List T_api_Expr) (a_22 : List T_api_Actor) (x_23 : Int) (x_24 : Int)
noncomputable def roadref2_BodiesOf.l1_k.body (go : (p : roadref2_BodiesOf.l1_k.Pt) → Option ((List T_api_Expr))) : (p : roadref2_BodiesOf.l1_k.Pt) → Option ((List T_api_Expr))
  | .l1 a_3 a_22 x_23 x_24 => if x_24 < x_23 then (Option.bind (gi a_22 x_24) fun y1 => Option.bind (ap 136 a_3 ([y1.Body] : List T_api_Expr)) fun l19 => (go (.l1 l19 a_22 x_23 (IntKind.wrap .i64 (x_24 + (1 : Int)))))) else (some (a_3))
theorem roadref2_BodiesOf.l1_k.mono : MonoF (β := fun _ => ((List T_api_Expr))) roadref2_BodiesOf.l1_k.body := fun f g hfg p => match p with
  | .l1 a_3 a_22 x_23 x_24 => LeO.ite (LeO.bind (LeO.refl _) fun y1 => LeO.bind (LeO.refl _) fun l19 => (hfg _)) (LeO.refl _)
noncomputable def roadref2_BodiesOf.l1_k.go (p : roadref2_BodiesOf.l1_k.Pt) : Option ((List T_api_Expr)) := fixF (β := fun _ => ((List T_api_Expr))) roadref2_BodiesOf.l1_k.body p
noncomputable def roadref2_BodiesOf.l1 (a_3 a_22 x_23 x_24) := roadref2_BodiesOf.l1_k.go (.l1 a_3 a_22 x_23 x_24)
theorem roadref2_BodiesOf.l1_eq (a_3 a_22 x_23 x_24) : roadref2_BodiesOf.l1 a_3 a_22 x_23 x_24 = if x_24 < x_23 then (Option.bind (gi a_22 x_24) fun y1 => Option.bind (ap 136 a_3 ([y1.Body] : List T_api_Expr)) fun l19 => (roadref2_BodiesOf.l1 l19 a_22 x_23 (IntKind.wrap .i64 (x_24 + (1 : Int))))) else (some (a_3)) := fixF_eq roadref2_BodiesOf.l1_k.mono _
def roadref2_BodiesOf.l1_k.I : (p : roadref2_BodiesOf.l1_k.Pt) → ((List T_api_Expr)) → Prop
  | .l1 a_3 a_22 x_23 x_24, r => ∀ {W h0 m0 h m A_3 n_3 c_3 A_22 n_22 c_22} (O : Hold W h0 m0 h m [rR (aE T_api_Expr.T) A_3 c_3 a_3]) (ne_3 : n_3 = List.length a_3) (ne_22 : n_22 = List.length a_22) (k_22 : List.length a_22 ≤ c_22) (r_22 : Rd 14 T_api_Actor.E m A_22 a_22), f65.l1 (roadref2_BodiesOf.post W h0 m0 r) A_3 n_3 c_3 A_22 n_22 c_22 x_23 x_24 h
theorem roadref2_BodiesOf.l1_k.step_l1 (go : (p : roadref2_BodiesOf.l1_k.Pt) → Option ((List T_api_Expr))) (ih : ∀ p r, go p = some r → roadref2_BodiesOf.l1_k.I p r) (a_3 a_22 x_23 x_24) (r) (e : roadref2_BodiesOf.l1_k.body go (.l1 a_3 a_22 x_23 x_24) = some r) : roadref2_BodiesOf.l1_k.I (.l1 a_3 a_22 x_23 x_24) r := by
  unfold roadref2_BodiesOf.l1_k.body at e
  intro W h0 m0 h m A_3 n_3 c_3 A_22 n_22 c_22 O ne_3 ne_22 k_22 r_22
  subst ne_3
  subst ne_22
  refine f65.l1_in ?_
  unfold f65.l1T
  refine split_dec_e e (fun c29 e => ?_) (fun c29 e => ?_)
  · obtain ⟨y1, g2, e⟩ := bind_e e
    refine r_22.addr rfl g2 fun a3 cs4 ha5 hc6 he7 => ?_
    refine ⟨_, ldAn O.s hc6 rfl, ?_⟩
    refine O.new fun h8 x9 O10 => ?_
    refine ⟨_, rfl, (T_api_Actor.T.len _ _ _ he7), ?_⟩
    refine O10.stA 1 rfl (T_api_Actor.T.len _ _ _ he7) (T_api_Actor.T.flat _ _ _ he7) fun h12 O13 => ?_
    refine ⟨_, ldAkn (Sub.refl _) (O13.all 1 rfl) 6 8 (le_len (T_api_Actor.T.len _ _ _ he7) (by decide)), ?_⟩
    refine ⟨(List.take 8 (List.drop 6 cs4)), rfl, (T_api_Expr.T.len _ _ _ (T_api_Actor.u6_152 he7)), ?_⟩
    refine O13.new fun h14 x15 O16 => ?_
    have O18 := O16.recell 2 rfl (cs' := (List.take 8 (List.drop 6 cs4)) ++ []) rfl
    obtain ⟨l19, g20, e⟩ := bind_e e
    have O27 := O18.rowE (l := ([y1.Body] : List T_api_Expr)) 2 rfl T_api_Expr.T (show CsE _ _ _ _ _ from (CsE.cons (T_api_Actor.u6_152 he7) (T_api_Expr.T.len _ _ _ (T_api_Actor.u6_152 he7)) CsE.nil)) rfl
    refine O27.app 0 rfl rfl rfl ((O27.os 2 rfl).srcE rfl) (by decide) g20 fun A21 c22 h23 O24 => ?_
    refine ⟨_, _, _, rfl, ?_⟩
    have O28 := O24.nm
    exact (ih _ _ e) (O28.pick [0]).nm rfl rfl k_22 r_22
  · cases e
    exact ⟨_, _, _, _, O.pick [0], rfl, rfl⟩
theorem roadref2_BodiesOf.l1_k.all {p : roadref2_BodiesOf.l1_k.Pt} {r : ((List T_api_Expr))} (e : roadref2_BodiesOf.l1_k.go p = some r) : roadref2_BodiesOf.l1_k.I p r := fixF_ind (β := fun _ => ((List T_api_Expr))) roadref2_BodiesOf.l1_k.mono (I := roadref2_BodiesOf.l1_k.I) (fun go ih p r e => match p with
  | .l1 a_3 a_22 x_23 x_24 => roadref2_BodiesOf.l1_k.step_l1 go ih a_3 a_22 x_23 x_24 r e
  ) e
inductive roadref2_BodiesOf.l0_k.Pt where
  | l0 (y_1 : T_api_Program) (a_3 : List T_api_Expr) (a_9 : List T_api_Func) (x_10 : Int) (x_11 : Int)
noncomputable def roadref2_BodiesOf.l0_k.body (go : (p : roadref2_BodiesOf.l0_k.Pt) → Option ((List T_api_Expr))) : (p : roadref2_BodiesOf.l0_k.Pt) → Option ((List T_api_Expr))
  | .l0 y_1 a_3 a_9 x_10 x_11 => if x_11 < x_10 then (Option.bind (gi a_9 x_11) fun y1 => Option.bind (ap 136 a_3 ([y1.Body] : List T_api_Expr)) fun l19 => (go (.l0 y_1 l19 a_9 x_10 (IntKind.wrap .i64 (x_11 + (1 : Int)))))) else ((roadref2_BodiesOf.l1 a_3 y_1.Actors (((List.length y_1.Actors) : Nat) : Int) (0 : Int)))
theorem roadref2_BodiesOf.l0_k.mono : MonoF (β := fun _ => ((List T_api_Expr))) roadref2_BodiesOf.l0_k.body := fun f g hfg p => match p with
  | .l0 y_1 a_3 a_9 x_10 x_11 => LeO.ite (LeO.bind (LeO.refl _) fun y1 => LeO.bind (LeO.refl _) fun l19 => (hfg _)) ((LeO.refl _))
noncomputable def roadref2_BodiesOf.l0_k.go (p : roadref2_BodiesOf.l0_k.Pt) : Option ((List T_api_Expr)) := fixF (β := fun _ => ((List T_api_Expr))) roadref2_BodiesOf.l0_k.body p
noncomputable def roadref2_BodiesOf.l0 (y_1 a_3 a_9 x_10 x_11) := roadref2_BodiesOf.l0_k.go (.l0 y_1 a_3 a_9 x_10 x_11)
theorem roadref2_BodiesOf.l0_eq (y_1 a_3 a_9 x_10 x_11) : roadref2_BodiesOf.l0 y_1 a_3 a_9 x_10 x_11 = if x_11 < x_10 then (Option.bind (gi a_9 x_11) fun y1 => Option.bind (ap 136 a_3 ([y1.Body] : List T_api_Expr)) fun l19 => (roadref2_BodiesOf.l0 y_1 l19 a_9 x_10 (IntKind.wrap .i64 (x_11 + (1 : Int))))) else ((roadref2_BodiesOf.l1 a_3 y_1.Actors (((List.length y_1.Actors) : Nat) : Int) (0 : Int))) := fixF_eq roadref2_BodiesOf.l0_k.mono _
def roadref2_BodiesOf.l0_k.I : (p : roadref2_BodiesOf.l0_k.Pt) → ((List T_api_Expr)) → Prop
  | .l0 y_1 a_3 a_9 x_10 x_11, r => ∀ {W h0 m0 h m bk_1 cs_1 A_3 n_3 c_3 A_9 n_9 c_9} (O : Hold W h0 m0 h m [rV bk_1 135 cs_1, rR (aE T_api_Expr.T) A_3 c_3 a_3, rR (aE T_api_Func.T) A_9 c_9 a_9]) (e_1 : T_api_Program.E m y_1 cs_1) (ne_3 : n_3 = List.length a_3) (ne_9 : n_9 = List.length a_9), f65.l0 (roadref2_BodiesOf.post W h0 m0 r) (⟨bk_1, 0, none⟩ : Addr) A_3 n_3 c_3 A_9 n_9 c_9 x_10 x_11 h
theorem roadref2_BodiesOf.l0_k.step_l0 (go : (p : roadref2_BodiesOf.l0_k.Pt) → Option ((List T_api_Expr))) (ih : ∀ p r, go p = some r → roadref2_BodiesOf.l0_k.I p r) (y_1 a_3 a_9 x_10 x_11) (r) (e : roadref2_BodiesOf.l0_k.body go (.l0 y_1 a_3 a_9 x_10 x_11) = some r) : roadref2_BodiesOf.l0_k.I (.l0 y_1 a_3 a_9 x_10 x_11) r := by
  unfold roadref2_BodiesOf.l0_k.body at e
  intro W h0 m0 h m bk_1 cs_1 A_3 n_3 c_3 A_9 n_9 c_9 O e_1 ne_3 ne_9
  subst ne_3
  subst ne_9
  refine f65.l0_in ?_
  unfold f65.l0T
  refine split_dec_e e (fun c34 e => ?_) (fun c34 e => ?_)
  · obtain ⟨y1, g2, e⟩ := bind_e e
    refine (O.os 2 rfl).addr rfl g2 fun a3 cs4 ha5 hc6 he7 => ?_
    refine ⟨_, ldAn (Sub.refl _) hc6 rfl, ?_⟩
    refine O.new fun h8 x9 O10 => ?_
    refine ⟨_, rfl, (T_api_Func.T.len _ _ _ he7), ?_⟩
    refine O10.stA 3 rfl (T_api_Func.T.len _ _ _ he7) (T_api_Func.T.flat _ _ _ he7) fun h12 O13 => ?_
    refine ⟨_, ldAkn (Sub.refl _) (O13.all 3 rfl) 7 8 (le_len (T_api_Func.T.len _ _ _ he7) (by decide)), ?_⟩
    refine ⟨(List.take 8 (List.drop 7 cs4)), rfl, (T_api_Expr.T.len _ _ _ (T_api_Func.u7_152 he7)), ?_⟩
    refine O13.new fun h14 x15 O16 => ?_
    have O18 := O16.recell 4 rfl (cs' := (List.take 8 (List.drop 7 cs4)) ++ []) rfl
    obtain ⟨l19, g20, e⟩ := bind_e e
    have O27 := O18.rowE (l := ([y1.Body] : List T_api_Expr)) 4 rfl T_api_Expr.T (show CsE _ _ _ _ _ from (CsE.cons (T_api_Func.u7_152 he7) (T_api_Expr.T.len _ _ _ (T_api_Func.u7_152 he7)) CsE.nil)) rfl
    refine O27.app 1 rfl rfl rfl ((O27.os 4 rfl).srcE rfl) (by decide) g20 fun A21 c22 h23 O24 => ?_
    refine ⟨_, _, _, rfl, ?_⟩
    have O28 := O24.nm
    exact (ih _ _ e) (O28.pick [0, 1, 2]).nm e_1 rfl rfl
  · obtain ⟨A29, c30, q31, k32, r33⟩ := T_api_Program.g7 e_1
    refine ⟨_, ldk (k := 7) (Sub.refl _) (O.all 0 rfl) q31, _, _, _, rfl, ?_⟩
    exact (roadref2_BodiesOf.l1_k.all e) (O.pick [1]).nm rfl rfl k32 r33
theorem roadref2_BodiesOf.l0_k.all {p : roadref2_BodiesOf.l0_k.Pt} {r : ((List T_api_Expr))} (e : roadref2_BodiesOf.l0_k.go p = some r) : roadref2_BodiesOf.l0_k.I p r := fixF_ind (β := fun _ => ((List T_api_Expr))) roadref2_BodiesOf.l0_k.mono (I := roadref2_BodiesOf.l0_k.I) (fun go ih p r e => match p with
  | .l0 y_1 a_3 a_9 x_10 x_11 => roadref2_BodiesOf.l0_k.step_l0 go ih y_1 a_3 a_9 x_10 x_11 r e
  ) e
noncomputable def roadref2_BodiesOf (y_0 : T_api_Program) : Option ((List T_api_Expr)) :=
  Option.bind (roadref2_FunsOf y_0) fun y5 => (roadref2_BodiesOf.l0 y_0 ([] : List T_api_Expr) y5 (((List.length y5) : Nat) : Int) (0 : Int))
theorem roadref2_BodiesOf.walk {W h m cs_0 y_0} (O : Hold W h m h m []) (e_0 : T_api_Program.E m y_0 cs_0) {r} (e : roadref2_BodiesOf y_0 = some r) : Run Try.prog 65 #[Value.agg cs_0.toArray] h (roadref2_BodiesOf.post W h m r) := by
  unfold roadref2_BodiesOf at e
  refine f65.run ?_
  unfold f65.runT
  refine O.new fun h1 x2 O3 => ?_
  refine ⟨_, ldAn (Sub.refl _) (O3.all 0 rfl) (T_api_Program.T.len _ _ _ e_0), ?_⟩
  obtain ⟨y5, g6, e⟩ := bind_e e
  refine (roadref2_FunsOf.walk (Hold.start (W := No) O3.s) e_0 g6).mono ?_
  rintro _ h7 ⟨m8, A11, n12, c13, Q9, rfl, ne14⟩
  have O16 := Hold.nm (O3.ret Q9)
  subst ne14
  refine ⟨_, _, _, rfl, ?_⟩
  have O17 := O16.nil (aE T_api_Expr.T) none
  have O19 := O17.nm
  exact (roadref2_BodiesOf.l0_k.all e) (O19.pick [0, 2, 1]).nm (T_api_Program.T.mono _ _ _ _ Q9.S.up e_0) rfl rfl
def roadref2_All.post (W : Nat → Prop) (h0 m0 : Heap) (r : (List T_api_Expr)) (v : Value) (h : Heap) : Prop := ∃ m A0 n0 c0, Hold W h0 m0 h m [rR (aE T_api_Expr.T) A0 c0 r] ∧ v = .slice A0 n0 c0 ∧ n0 = List.length r
inductive roadref2_All.l0_k.Pt where
  | l0 (a_3 : List T_api_Expr) (a_4 : List T_api_Expr)
  | l1 (a_3 : List T_api_Expr) (a_4 : List T_api_Expr) (y_5 : T_api_Expr) (x_6 : Int)
  | l2 (a_3 : List T_api_Expr) (a_4 : List T_api_Expr) (y_5 : T_api_Expr) (x_7 : Int)
noncomputable def roadref2_All.l0_k.body (go : (p : roadref2_All.l0_k.Pt) → Option ((List T_api_Expr))) : (p : roadref2_All.l0_k.Pt) → Option ((List T_api_Expr))
  | .l0 a_3 a_4 => if (((List.length a_3) : Nat) : Int) > (0 : Int) then (Option.bind (gi a_3 (IntKind.wrap .i64 ((((List.length a_3) : Nat) : Int) - (1 : Int)))) fun y1 => Option.bind (sls a_3 (0 : Int) (IntKind.wrap .i64 ((((List.length a_3) : Nat) : Int) - (1 : Int)))) fun l14 => Option.bind (ap 136 a_4 ([y1] : List T_api_Expr)) fun l22 => (go (.l1 l14 l22 y1 (IntKind.wrap .i64 ((((List.length y1.Arms) : Nat) : Int) - (1 : Int)))))) else (some (a_4))
  | .l1 a_3 a_4 y_5 x_6 => if x_6 ≥ (0 : Int) then (Option.bind (gi y_5.Arms x_6) fun y6 => Option.bind (ap 136 a_3 ([y6.Body] : List T_api_Expr)) fun l18 => (go (.l1 l18 a_4 y_5 (IntKind.wrap .i64 (x_6 - (1 : Int)))))) else ((go (.l2 a_3 a_4 y_5 (IntKind.wrap .i64 ((((List.length y_5.Args) : Nat) : Int) - (1 : Int))))))
  | .l2 a_3 a_4 y_5 x_7 => if x_7 ≥ (0 : Int) then (Option.bind (gi y_5.Args x_7) fun y6 => Option.bind (ap 136 a_3 ([y6] : List T_api_Expr)) fun l18 => (go (.l2 l18 a_4 y_5 (IntKind.wrap .i64 (x_7 - (1 : Int)))))) else ((go (.l0 a_3 a_4)))
theorem roadref2_All.l0_k.mono : MonoF (β := fun _ => ((List T_api_Expr))) roadref2_All.l0_k.body := fun f g hfg p => match p with
  | .l0 a_3 a_4 => LeO.ite (LeO.bind (LeO.refl _) fun y1 => LeO.bind (LeO.refl _) fun l14 => LeO.bind (LeO.refl _) fun l22 => (hfg _)) (LeO.refl _)
  | .l1 a_3 a_4 y_5 x_6 => LeO.ite (LeO.bind (LeO.refl _) fun y6 => LeO.bind (LeO.refl _) fun l18 => (hfg _)) ((hfg _))
  | .l2 a_3 a_4 y_5 x_7 => LeO.ite (LeO.bind (LeO.refl _) fun y6 => LeO.bind (LeO.refl _) fun l18 => (hfg _)) ((hfg _))
noncomputable def roadref2_All.l0_k.go (p : roadref2_All.l0_k.Pt) : Option ((List T_api_Expr)) := fixF (β := fun _ => ((List T_api_Expr))) roadref2_All.l0_k.body p
noncomputable def roadref2_All.l0 (a_3 a_4) := roadref2_All.l0_k.go (.l0 a_3 a_4)
noncomputable def roadref2_All.l1 (a_3 a_4 y_5 x_6) := roadref2_All.l0_k.go (.l1 a_3 a_4 y_5 x_6)
noncomputable def roadref2_All.l2 (a_3 a_4 y_5 x_7) := roadref2_All.l0_k.go (.l2 a_3 a_4 y_5 x_7)
theorem roadref2_All.l0_eq (a_3 a_4) : roadref2_All.l0 a_3 a_4 = if (((List.length a_3) : Nat) : Int) > (0 : Int) then (Option.bind (gi a_3 (IntKind.wrap .i64 ((((List.length a_3) : Nat) : Int) - (1 : Int)))) fun y1 => Option.bind (sls a_3 (0 : Int) (IntKind.wrap .i64 ((((List.length a_3) : Nat) : Int) - (1 : Int)))) fun l14 => Option.bind (ap 136 a_4 ([y1] : List T_api_Expr)) fun l22 => (roadref2_All.l1 l14 l22 y1 (IntKind.wrap .i64 ((((List.length y1.Arms) : Nat) : Int) - (1 : Int))))) else (some (a_4)) := fixF_eq roadref2_All.l0_k.mono _
theorem roadref2_All.l1_eq (a_3 a_4 y_5 x_6) : roadref2_All.l1 a_3 a_4 y_5 x_6 = if x_6 ≥ (0 : Int) then (Option.bind (gi y_5.Arms x_6) fun y6 => Option.bind (ap 136 a_3 ([y6.Body] : List T_api_Expr)) fun l18 => (roadref2_All.l1 l18 a_4 y_5 (IntKind.wrap .i64 (x_6 - (1 : Int))))) else ((roadref2_All.l2 a_3 a_4 y_5 (IntKind.wrap .i64 ((((List.length y_5.Args) : Nat) : Int) - (1 : Int))))) := fixF_eq roadref2_All.l0_k.mono _
theorem roadref2_All.l2_eq (a_3 a_4 y_5 x_7) : roadref2_All.l2 a_3 a_4 y_5 x_7 = if x_7 ≥ (0 : Int) then (Option.bind (gi y_5.Args x_7) fun y6 => Option.bind (ap 136 a_3 ([y6] : List T_api_Expr)) fun l18 => (roadref2_All.l2 l18 a_4 y_5 (IntKind.wrap .i64 (x_7 - (1 : Int))))) else ((roadref2_All.l0 a_3 a_4)) := fixF_eq roadref2_All.l0_k.mono _
def roadref2_All.l0_k.I : (p : roadref2_All.l0_k.Pt) → ((List T_api_Expr)) → Prop
  | .l0 a_3 a_4, r => ∀ {W h0 m0 h m A_3 n_3 c_3 A_4 n_4 c_4} (O : Hold W h0 m0 h m [rR (aE T_api_Expr.T) A_3 c_3 a_3, rR (aE T_api_Expr.T) A_4 c_4 a_4]) (ne_3 : n_3 = List.length a_3) (ne_4 : n_4 = List.length a_4), f150.l0 (roadref2_All.post W h0 m0 r) A_3 n_3 c_3 A_4 n_4 c_4 h
  | .l1 a_3 a_4 y_5 x_6, r => ∀ {W h0 m0 h m A_3 n_3 c_3 A_4 n_4 c_4 bk_5 cs_5} (O : Hold W h0 m0 h m [rR (aE T_api_Expr.T) A_3 c_3 a_3, rR (aE T_api_Expr.T) A_4 c_4 a_4, rV bk_5 152 cs_5]) (ne_3 : n_3 = List.length a_3) (ne_4 : n_4 = List.length a_4) (e_5 : T_api_Expr.E m y_5 cs_5), f150.l1 (roadref2_All.post W h0 m0 r) A_3 n_3 c_3 A_4 n_4 c_4 (⟨bk_5, 0, none⟩ : Addr) x_6 h
  | .l2 a_3 a_4 y_5 x_7, r => ∀ {W h0 m0 h m A_3 n_3 c_3 A_4 n_4 c_4 bk_5 cs_5} (O : Hold W h0 m0 h m [rR (aE T_api_Expr.T) A_3 c_3 a_3, rR (aE T_api_Expr.T) A_4 c_4 a_4, rV bk_5 152 cs_5]) (ne_3 : n_3 = List.length a_3) (ne_4 : n_4 = List.length a_4) (e_5 : T_api_Expr.E m y_5 cs_5), f150.l2 (roadref2_All.post W h0 m0 r) A_3 n_3 c_3 A_4 n_4 c_4 (⟨bk_5, 0, none⟩ : Addr) x_7 h
theorem roadref2_All.l0_k.step_l0 (go : (p : roadref2_All.l0_k.Pt) → Option ((List T_api_Expr))) (ih : ∀ p r, go p = some r → roadref2_All.l0_k.I p r) (a_3 a_4) (r) (e : roadref2_All.l0_k.body go (.l0 a_3 a_4) = some r) : roadref2_All.l0_k.I (.l0 a_3 a_4) r := by
  unfold roadref2_All.l0_k.body at e
  intro W h0 m0 h m A_3 n_3 c_3 A_4 n_4 c_4 O ne_3 ne_4
  subst ne_3
  subst ne_4
  refine f150.l0_in ?_
  unfold f150.l0T
  refine split_dec_e e (fun c40 e => ?_) (fun c40 e => ?_)
  · obtain ⟨y1, g2, e⟩ := bind_e e
    refine (O.os 0 rfl).addr rfl g2 fun a3 cs4 ha5 hc6 he7 => ?_
    refine ⟨_, ldAn (Sub.refl _) hc6 rfl, ?_⟩
    refine O.new fun h8 x9 O10 => ?_
    refine ⟨_, rfl, (T_api_Expr.T.len _ _ _ he7), ?_⟩
    refine O10.stA 2 rfl (T_api_Expr.T.len _ _ _ he7) (T_api_Expr.T.flat _ _ _ he7) fun h12 O13 => ?_
    obtain ⟨l14, g15, e⟩ := bind_e e
    have q16 := sls_e g15
    refine ⟨q16.1, q16.2.1, cap_in q16.2.2.1 (O13.cap 0 rfl), ?_⟩
    try rw [q16.2.2.2.1]
    refine ⟨_, ldAn (Sub.refl _) (O13.all 2 rfl) (T_api_Expr.T.len _ _ _ he7), ?_⟩
    refine ⟨cs4, rfl, (T_api_Expr.T.len _ _ _ he7), ?_⟩
    refine O13.new fun h17 x18 O19 => ?_
    have O21 := O19.recell 3 rfl (cs' := cs4 ++ []) rfl
    obtain ⟨l22, g23, e⟩ := bind_e e
    have O30 := O21.rowE (l := ([y1] : List T_api_Expr)) 3 rfl T_api_Expr.T (show CsE _ _ _ _ _ from (CsE.cons he7 (T_api_Expr.T.len _ _ _ he7) CsE.nil)) rfl
    refine O30.app 1 rfl rfl rfl ((O30.os 3 rfl).srcE rfl) (by decide) g23 fun A24 c25 h26 O27 => ?_
    refine ⟨_, _, _, rfl, ?_⟩
    have O31 := O27.nm
    obtain ⟨A32, c33, q34, k35, r36⟩ := T_api_Expr.g6 he7
    refine ⟨_, ldk (k := 6) (Sub.refl _) (O31.all 2 rfl) q34, _, _, _, rfl, ?_⟩
    have O37 := O31.sls 0 rfl g15
    have O39 := O37.nm
    exact (ih _ _ e) (O39.pick [0, 1, 2]).nm rfl rfl he7
  · cases e
    exact ⟨_, _, _, _, O.pick [1], rfl, rfl⟩
theorem roadref2_All.l0_k.step_l1 (go : (p : roadref2_All.l0_k.Pt) → Option ((List T_api_Expr))) (ih : ∀ p r, go p = some r → roadref2_All.l0_k.I p r) (a_3 a_4 y_5 x_6) (r) (e : roadref2_All.l0_k.body go (.l1 a_3 a_4 y_5 x_6) = some r) : roadref2_All.l0_k.I (.l1 a_3 a_4 y_5 x_6) r := by
  unfold roadref2_All.l0_k.body at e
  intro W h0 m0 h m A_3 n_3 c_3 A_4 n_4 c_4 bk_5 cs_5 O ne_3 ne_4 e_5
  subst ne_3
  subst ne_4
  refine f150.l1_in ?_
  unfold f150.l1T
  refine split_dec_e e (fun c33 e => ?_) (fun c33 e => ?_)
  · obtain ⟨A1, c2, q3, k4, r5⟩ := T_api_Expr.g6 e_5
    refine ⟨_, ldk (k := 6) (Sub.refl _) (O.all 2 rfl) q3, _, _, _, rfl, ?_⟩
    obtain ⟨y6, g7, e⟩ := bind_e e
    refine r5.addr rfl g7 fun a8 cs9 ha10 hc11 he12 => ?_
    refine ⟨_, ldAkn O.s hc11 4 8 (Nat.le_of_ble_eq_true rfl), ?_⟩
    refine ⟨(List.take 8 (List.drop 4 cs9)), rfl, (T_api_Expr.T.len _ _ _ (T_api_Arm.u4_152 he12)), ?_⟩
    refine O.new fun h13 x14 O15 => ?_
    have O17 := O15.recell 3 rfl (cs' := (List.take 8 (List.drop 4 cs9)) ++ []) rfl
    obtain ⟨l18, g19, e⟩ := bind_e e
    have O26 := O17.rowE (l := ([y6.Body] : List T_api_Expr)) 3 rfl T_api_Expr.T (show CsE _ _ _ _ _ from (CsE.cons (T_api_Arm.u4_152 he12) (T_api_Expr.T.len _ _ _ (T_api_Arm.u4_152 he12)) CsE.nil)) rfl
    refine O26.app 0 rfl rfl rfl ((O26.os 3 rfl).srcE rfl) (by decide) g19 fun A20 c21 h22 O23 => ?_
    refine ⟨_, _, _, rfl, ?_⟩
    have O27 := O23.nm
    exact (ih _ _ e) (O27.pick [0, 1, 2]).nm rfl rfl e_5
  · obtain ⟨A28, c29, q30, k31, r32⟩ := T_api_Expr.g5 e_5
    refine ⟨_, ldk (k := 5) (Sub.refl _) (O.all 2 rfl) q30, _, _, _, rfl, ?_⟩
    exact (ih _ _ e) (O.pick [0, 1, 2]).nm rfl rfl e_5
theorem roadref2_All.l0_k.step_l2 (go : (p : roadref2_All.l0_k.Pt) → Option ((List T_api_Expr))) (ih : ∀ p r, go p = some r → roadref2_All.l0_k.I p r) (a_3 a_4 y_5 x_7) (r) (e : roadref2_All.l0_k.body go (.l2 a_3 a_4 y_5 x_7) = some r) : roadref2_All.l0_k.I (.l2 a_3 a_4 y_5 x_7) r := by
  unfold roadref2_All.l0_k.body at e
  intro W h0 m0 h m A_3 n_3 c_3 A_4 n_4 c_4 bk_5 cs_5 O ne_3 ne_4 e_5
  subst ne_3
  subst ne_4
  refine f150.l2_in ?_
  unfold f150.l2T
  refine split_dec_e e (fun c28 e => ?_) (fun c28 e => ?_)
  · obtain ⟨A1, c2, q3, k4, r5⟩ := T_api_Expr.g5 e_5
    refine ⟨_, ldk (k := 5) (Sub.refl _) (O.all 2 rfl) q3, _, _, _, rfl, ?_⟩
    obtain ⟨y6, g7, e⟩ := bind_e e
    refine r5.addr rfl g7 fun a8 cs9 ha10 hc11 he12 => ?_
    refine ⟨_, ldAn O.s hc11 rfl, ?_⟩
    refine ⟨cs9, rfl, (T_api_Expr.T.len _ _ _ he12), ?_⟩
    refine O.new fun h13 x14 O15 => ?_
    have O17 := O15.recell 3 rfl (cs' := cs9 ++ []) rfl
    obtain ⟨l18, g19, e⟩ := bind_e e
    have O26 := O17.rowE (l := ([y6] : List T_api_Expr)) 3 rfl T_api_Expr.T (show CsE _ _ _ _ _ from (CsE.cons he12 (T_api_Expr.T.len _ _ _ he12) CsE.nil)) rfl
    refine O26.app 0 rfl rfl rfl ((O26.os 3 rfl).srcE rfl) (by decide) g19 fun A20 c21 h22 O23 => ?_
    refine ⟨_, _, _, rfl, ?_⟩
    have O27 := O23.nm
    exact (ih _ _ e) (O27.pick [0, 1, 2]).nm rfl rfl e_5
  · exact (ih _ _ e) (O.pick [0, 1]).nm rfl rfl
theorem roadref2_All.l0_k.all {p : roadref2_All.l0_k.Pt} {r : ((List T_api_Expr))} (e : roadref2_All.l0_k.go p = some r) : roadref2_All.l0_k.I p r := fixF_ind (β := fun _ => ((List T_api_Expr))) roadref2_All.l0_k.mono (I := roadref2_All.l0_k.I) (fun go ih p r e => match p with
  | .l0 a_3 a_4 => roadref2_All.l0_k.step_l0 go ih a_3 a_4 r e
  | .l1 a_3 a_4 y_5 x_6 => roadref2_All.l0_k.step_l1 go ih a_3 a_4 y_5 x_6 r e
  | .l2 a_3 a_4 y_5 x_7 => roadref2_All.l0_k.step_l2 go ih a_3 a_4 y_5 x_7 r e
  ) e
noncomputable def roadref2_All (y_0 : T_api_Expr) : Option ((List T_api_Expr)) :=
  (roadref2_All.l0 ([y_0] : List T_api_Expr) ([] : List T_api_Expr))
theorem roadref2_All.walk {W h m cs_0 y_0} (O : Hold W h m h m []) (e_0 : T_api_Expr.E m y_0 cs_0) {r} (e : roadref2_All y_0 = some r) : Run Try.prog 150 #[Value.agg cs_0.toArray] h (roadref2_All.post W h m r) := by
  unfold roadref2_All at e
  refine f150.run ?_
  unfold f150.runT
  refine O.new fun h1 x2 O3 => ?_
  refine ⟨_, ldAn (Sub.refl _) (O3.all 0 rfl) (T_api_Expr.T.len _ _ _ e_0), ?_⟩
  refine ⟨cs_0, rfl, (T_api_Expr.T.len _ _ _ e_0), ?_⟩
  refine O3.new fun h5 x6 O7 => ?_
  have O9 := O7.recell 1 rfl (cs' := cs_0 ++ []) rfl
  have O10 := O9.rowE (l := ([y_0] : List T_api_Expr)) 1 rfl T_api_Expr.T (show CsE _ _ _ _ _ from (CsE.cons e_0 (T_api_Expr.T.len _ _ _ e_0) CsE.nil)) rfl
  have O11 := O10.nil (aE T_api_Expr.T) none
  have O13 := O11.nm
  exact (roadref2_All.l0_k.all e) (O13.pick [1, 2]).nm rfl rfl
def roadref2_pats.post (W : Nat → Prop) (h0 m0 : Heap) (r : (List T_api_Pat)) (v : Value) (h : Heap) : Prop := ∃ m A0 n0 c0, Hold W h0 m0 h m [rR (aE T_api_Pat.T) A0 c0 r] ∧ v = .slice A0 n0 c0 ∧ n0 = List.length r
inductive roadref2_pats.l0_k.Pt where
  | l0 (a_3 : List T_api_Pat) (x_4 : Int)
noncomputable def roadref2_pats.l0_k.body (go : (p : roadref2_pats.l0_k.Pt) → Option ((List T_api_Pat))) : (p : roadref2_pats.l0_k.Pt) → Option ((List T_api_Pat))
  | .l0 a_3 x_4 => if x_4 < (((List.length a_3) : Nat) : Int) then (Option.bind (gi a_3 x_4) fun y1 => Option.bind (ap 56 a_3 y1.Args) fun l13 => (go (.l0 l13 (IntKind.wrap .i64 (x_4 + (1 : Int)))))) else (some (a_3))
theorem roadref2_pats.l0_k.mono : MonoF (β := fun _ => ((List T_api_Pat))) roadref2_pats.l0_k.body := fun f g hfg p => match p with
  | .l0 a_3 x_4 => LeO.ite (LeO.bind (LeO.refl _) fun y1 => LeO.bind (LeO.refl _) fun l13 => (hfg _)) (LeO.refl _)
noncomputable def roadref2_pats.l0_k.go (p : roadref2_pats.l0_k.Pt) : Option ((List T_api_Pat)) := fixF (β := fun _ => ((List T_api_Pat))) roadref2_pats.l0_k.body p
noncomputable def roadref2_pats.l0 (a_3 x_4) := roadref2_pats.l0_k.go (.l0 a_3 x_4)
theorem roadref2_pats.l0_eq (a_3 x_4) : roadref2_pats.l0 a_3 x_4 = if x_4 < (((List.length a_3) : Nat) : Int) then (Option.bind (gi a_3 x_4) fun y1 => Option.bind (ap 56 a_3 y1.Args) fun l13 => (roadref2_pats.l0 l13 (IntKind.wrap .i64 (x_4 + (1 : Int))))) else (some (a_3)) := fixF_eq roadref2_pats.l0_k.mono _
def roadref2_pats.l0_k.I : (p : roadref2_pats.l0_k.Pt) → ((List T_api_Pat)) → Prop
  | .l0 a_3 x_4, r => ∀ {W h0 m0 h m A_3 n_3 c_3} (O : Hold W h0 m0 h m [rR (aE T_api_Pat.T) A_3 c_3 a_3]) (ne_3 : n_3 = List.length a_3), f151.l0 (roadref2_pats.post W h0 m0 r) A_3 n_3 c_3 x_4 h
theorem roadref2_pats.l0_k.step_l0 (go : (p : roadref2_pats.l0_k.Pt) → Option ((List T_api_Pat))) (ih : ∀ p r, go p = some r → roadref2_pats.l0_k.I p r) (a_3 x_4) (r) (e : roadref2_pats.l0_k.body go (.l0 a_3 x_4) = some r) : roadref2_pats.l0_k.I (.l0 a_3 x_4) r := by
  unfold roadref2_pats.l0_k.body at e
  intro W h0 m0 h m A_3 n_3 c_3 O ne_3
  subst ne_3
  refine f151.l0_in ?_
  unfold f151.l0T
  refine split_dec_e e (fun c22 e => ?_) (fun c22 e => ?_)
  · obtain ⟨y1, g2, e⟩ := bind_e e
    refine (O.os 0 rfl).addr rfl g2 fun a3 cs4 ha5 hc6 he7 => ?_
    obtain ⟨A8, c9, q10, k11, r12⟩ := T_api_Pat.g3 he7
    refine ⟨_, ldk (k := 3) (Sub.refl _) hc6 q10, _, _, _, rfl, ?_⟩
    obtain ⟨l13, g14, e⟩ := bind_e e
    refine O.app 0 rfl rfl rfl (Rd.srcE r12 T_api_Pat.T O.s rfl) (by decide) g14 fun A15 c16 h17 O18 => ?_
    refine ⟨_, _, _, rfl, ?_⟩
    have O21 := O18.nm
    exact (ih _ _ e) (O21.pick [0]).nm rfl
  · cases e
    exact ⟨_, _, _, _, O.pick [0], rfl, rfl⟩
theorem roadref2_pats.l0_k.all {p : roadref2_pats.l0_k.Pt} {r : ((List T_api_Pat))} (e : roadref2_pats.l0_k.go p = some r) : roadref2_pats.l0_k.I p r := fixF_ind (β := fun _ => ((List T_api_Pat))) roadref2_pats.l0_k.mono (I := roadref2_pats.l0_k.I) (fun go ih p r e => match p with
  | .l0 a_3 x_4 => roadref2_pats.l0_k.step_l0 go ih a_3 x_4 r e
  ) e
noncomputable def roadref2_pats (y_0 : T_api_Pat) : Option ((List T_api_Pat)) :=
  (roadref2_pats.l0 ([y_0] : List T_api_Pat) (0 : Int))
theorem roadref2_pats.walk {W h m cs_0 y_0} (O : Hold W h m h m []) (e_0 : T_api_Pat.E m y_0 cs_0) {r} (e : roadref2_pats y_0 = some r) : Run Try.prog 151 #[Value.agg cs_0.toArray] h (roadref2_pats.post W h m r) := by
  unfold roadref2_pats at e
  refine f151.run ?_
  unfold f151.runT
  refine O.new fun h1 x2 O3 => ?_
  refine ⟨_, ldAn (Sub.refl _) (O3.all 0 rfl) (T_api_Pat.T.len _ _ _ e_0), ?_⟩
  refine ⟨cs_0, rfl, (T_api_Pat.T.len _ _ _ e_0), ?_⟩
  refine O3.new fun h5 x6 O7 => ?_
  have O9 := O7.recell 1 rfl (cs' := cs_0 ++ []) rfl
  have O10 := O9.rowE (l := ([y_0] : List T_api_Pat)) 1 rfl T_api_Pat.T (show CsE _ _ _ _ _ from (CsE.cons e_0 (T_api_Pat.T.len _ _ _ e_0) CsE.nil)) rfl
  have O11 := O10.nm
  exact (roadref2_pats.l0_k.all e) (O11.pick [1]).nm rfl
def roadref2_SizeOf.post (W : Nat → Prop) (h0 m0 : Heap) (r : Int) (v : Value) (h : Heap) : Prop := ∃ m , Hold W h0 m0 h m [] ∧ v = .int .i64 r
inductive roadref2_SizeOf.l0_k.Pt where
  | l0 (x_3 : Int) (a_9 : List T_api_Expr) (x_10 : Int) (x_11 : Int)
  | l1 (x_3 : Int) (a_9 : List T_api_Expr) (x_10 : Int) (x_11 : Int) (a_18 : List T_api_Arm) (x_19 : Int) (x_20 : Int)
noncomputable def roadref2_SizeOf.l0_k.body (go : (p : roadref2_SizeOf.l0_k.Pt) → Option (Int)) : (p : roadref2_SizeOf.l0_k.Pt) → Option (Int)
  | .l0 x_3 a_9 x_10 x_11 => if x_11 < x_10 then (Option.bind (gi a_9 x_11) fun y1 => (go (.l1 (IntKind.wrap .i64 (x_3 + (1 : Int))) a_9 x_10 x_11 y1.Arms (((List.length y1.Arms) : Nat) : Int) (0 : Int)))) else (some (x_3))
  | .l1 x_3 a_9 x_10 x_11 a_18 x_19 x_20 => if x_20 < x_19 then (Option.bind (gi a_18 x_20) fun y1 => Option.bind (roadref2_pats y1.Pat) fun y14 => (go (.l1 (IntKind.wrap .i64 (x_3 + (((List.length y14) : Nat) : Int))) a_9 x_10 x_11 a_18 x_19 (IntKind.wrap .i64 (x_20 + (1 : Int)))))) else ((go (.l0 x_3 a_9 x_10 (IntKind.wrap .i64 (x_11 + (1 : Int))))))
theorem roadref2_SizeOf.l0_k.mono : MonoF (β := fun _ => (Int)) roadref2_SizeOf.l0_k.body := fun f g hfg p => match p with
  | .l0 x_3 a_9 x_10 x_11 => LeO.ite (LeO.bind (LeO.refl _) fun y1 => (hfg _)) (LeO.refl _)
  | .l1 x_3 a_9 x_10 x_11 a_18 x_19 x_20 => LeO.ite (LeO.bind (LeO.refl _) fun y1 => LeO.bind (LeO.refl _) fun y14 => (hfg _)) ((hfg _))
noncomputable def roadref2_SizeOf.l0_k.go (p : roadref2_SizeOf.l0_k.Pt) : Option (Int) := fixF (β := fun _ => (Int)) roadref2_SizeOf.l0_k.body p
noncomputable def roadref2_SizeOf.l0 (x_3 a_9 x_10 x_11) := roadref2_SizeOf.l0_k.go (.l0 x_3 a_9 x_10 x_11)
noncomputable def roadref2_SizeOf.l1 (x_3 a_9 x_10 x_11 a_18 x_19 x_20) := roadref2_SizeOf.l0_k.go (.l1 x_3 a_9 x_10 x_11 a_18 x_19 x_20)
theorem roadref2_SizeOf.l0_eq (x_3 a_9 x_10 x_11) : roadref2_SizeOf.l0 x_3 a_9 x_10 x_11 = if x_11 < x_10 then (Option.bind (gi a_9 x_11) fun y1 => (roadref2_SizeOf.l1 (IntKind.wrap .i64 (x_3 + (1 : Int))) a_9 x_10 x_11 y1.Arms (((List.length y1.Arms) : Nat) : Int) (0 : Int))) else (some (x_3)) := fixF_eq roadref2_SizeOf.l0_k.mono _
theorem roadref2_SizeOf.l1_eq (x_3 a_9 x_10 x_11 a_18 x_19 x_20) : roadref2_SizeOf.l1 x_3 a_9 x_10 x_11 a_18 x_19 x_20 = if x_20 < x_19 then (Option.bind (gi a_18 x_20) fun y1 => Option.bind (roadref2_pats y1.Pat) fun y14 => (roadref2_SizeOf.l1 (IntKind.wrap .i64 (x_3 + (((List.length y14) : Nat) : Int))) a_9 x_10 x_11 a_18 x_19 (IntKind.wrap .i64 (x_20 + (1 : Int))))) else ((roadref2_SizeOf.l0 x_3 a_9 x_10 (IntKind.wrap .i64 (x_11 + (1 : Int))))) := fixF_eq roadref2_SizeOf.l0_k.mono _
def roadref2_SizeOf.l0_k.I : (p : roadref2_SizeOf.l0_k.Pt) → (Int) → Prop
  | .l0 x_3 a_9 x_10 x_11, r => ∀ {W h0 m0 h m A_9 n_9 c_9} (O : Hold W h0 m0 h m [rR (aE T_api_Expr.T) A_9 c_9 a_9]) (ne_9 : n_9 = List.length a_9), f103.l0 (roadref2_SizeOf.post W h0 m0 r) x_3 A_9 n_9 c_9 x_10 x_11 h
  | .l1 x_3 a_9 x_10 x_11 a_18 x_19 x_20, r => ∀ {W h0 m0 h m A_9 n_9 c_9 A_18 n_18 c_18} (O : Hold W h0 m0 h m [rR (aE T_api_Expr.T) A_9 c_9 a_9]) (ne_9 : n_9 = List.length a_9) (ne_18 : n_18 = List.length a_18) (k_18 : List.length a_18 ≤ c_18) (r_18 : Rd 12 T_api_Arm.E m A_18 a_18), f103.l1 (roadref2_SizeOf.post W h0 m0 r) x_3 A_9 n_9 c_9 x_10 x_11 A_18 n_18 c_18 x_19 x_20 h
theorem roadref2_SizeOf.l0_k.step_l0 (go : (p : roadref2_SizeOf.l0_k.Pt) → Option (Int)) (ih : ∀ p r, go p = some r → roadref2_SizeOf.l0_k.I p r) (x_3 a_9 x_10 x_11) (r) (e : roadref2_SizeOf.l0_k.body go (.l0 x_3 a_9 x_10 x_11) = some r) : roadref2_SizeOf.l0_k.I (.l0 x_3 a_9 x_10 x_11) r := by
  unfold roadref2_SizeOf.l0_k.body at e
  intro W h0 m0 h m A_9 n_9 c_9 O ne_9
  subst ne_9
  refine f103.l0_in ?_
  unfold f103.l0T
  refine split_dec_e e (fun c20 e => ?_) (fun c20 e => ?_)
  · obtain ⟨y1, g2, e⟩ := bind_e e
    refine (O.os 0 rfl).addr rfl g2 fun a3 cs4 ha5 hc6 he7 => ?_
    refine ⟨_, ldAn (Sub.refl _) hc6 rfl, ?_⟩
    refine O.new fun h8 x9 O10 => ?_
    refine ⟨_, rfl, (T_api_Expr.T.len _ _ _ he7), ?_⟩
    refine O10.stA 1 rfl (T_api_Expr.T.len _ _ _ he7) (T_api_Expr.T.flat _ _ _ he7) fun h12 O13 => ?_
    obtain ⟨A14, c15, q16, k17, r18⟩ := T_api_Expr.g6 he7
    refine ⟨_, ldk (k := 6) (Sub.refl _) (O13.all 1 rfl) q16, _, _, _, rfl, ?_⟩
    have O19 := O13.nm
    exact (ih _ _ e) (O19.pick [0]).nm rfl rfl k17 r18
  · cases e
    exact ⟨_, O.pick [], rfl⟩
theorem roadref2_SizeOf.l0_k.step_l1 (go : (p : roadref2_SizeOf.l0_k.Pt) → Option (Int)) (ih : ∀ p r, go p = some r → roadref2_SizeOf.l0_k.I p r) (x_3 a_9 x_10 x_11 a_18 x_19 x_20) (r) (e : roadref2_SizeOf.l0_k.body go (.l1 x_3 a_9 x_10 x_11 a_18 x_19 x_20) = some r) : roadref2_SizeOf.l0_k.I (.l1 x_3 a_9 x_10 x_11 a_18 x_19 x_20) r := by
  unfold roadref2_SizeOf.l0_k.body at e
  intro W h0 m0 h m A_9 n_9 c_9 A_18 n_18 c_18 O ne_9 ne_18 k_18 r_18
  subst ne_9
  subst ne_18
  refine f103.l1_in ?_
  unfold f103.l1T
  refine split_dec_e e (fun c26 e => ?_) (fun c26 e => ?_)
  · obtain ⟨y1, g2, e⟩ := bind_e e
    refine r_18.addr rfl g2 fun a3 cs4 ha5 hc6 he7 => ?_
    refine ⟨_, ldAn O.s hc6 rfl, ?_⟩
    refine O.new fun h8 x9 O10 => ?_
    refine ⟨_, rfl, (T_api_Arm.T.len _ _ _ he7), ?_⟩
    refine O10.stA 1 rfl (T_api_Arm.T.len _ _ _ he7) (T_api_Arm.T.flat _ _ _ he7) fun h12 O13 => ?_
    refine ⟨_, ldA0n (Sub.refl _) (O13.all 1 rfl) 4 (le_len (T_api_Arm.T.len _ _ _ he7) (by decide)), ?_⟩
    obtain ⟨y14, g15, e⟩ := bind_e e
    refine (roadref2_pats.walk (Hold.start (W := No) O13.s) (T_api_Arm.u0_226 he7) g15).mono ?_
    rintro _ h16 ⟨m17, A20, n21, c22, Q18, rfl, ne23⟩
    have O25 := Hold.nm (O13.ret Q18)
    subst ne23
    refine ⟨_, _, _, rfl, ?_⟩
    exact (ih _ _ e) (O25.pick [0]).nm rfl rfl k_18 (r_18.sub T_api_Arm.T Q18.S.up)
  · exact (ih _ _ e) (O.pick [0]).nm rfl
theorem roadref2_SizeOf.l0_k.all {p : roadref2_SizeOf.l0_k.Pt} {r : (Int)} (e : roadref2_SizeOf.l0_k.go p = some r) : roadref2_SizeOf.l0_k.I p r := fixF_ind (β := fun _ => (Int)) roadref2_SizeOf.l0_k.mono (I := roadref2_SizeOf.l0_k.I) (fun go ih p r e => match p with
  | .l0 x_3 a_9 x_10 x_11 => roadref2_SizeOf.l0_k.step_l0 go ih x_3 a_9 x_10 x_11 r e
  | .l1 x_3 a_9 x_10 x_11 a_18 x_19 x_20 => roadref2_SizeOf.l0_k.step_l1 go ih x_3 a_9 x_10 x_11 a_18 x_19 x_20 r e
  ) e
noncomputable def roadref2_SizeOf (y_0 : T_api_Expr) : Option (Int) :=
  Option.bind (roadref2_All y_0) fun y5 => (roadref2_SizeOf.l0 (0 : Int) y5 (((List.length y5) : Nat) : Int) (0 : Int))
theorem roadref2_SizeOf.walk {W h m cs_0 y_0} (O : Hold W h m h m []) (e_0 : T_api_Expr.E m y_0 cs_0) {r} (e : roadref2_SizeOf y_0 = some r) : Run Try.prog 103 #[Value.agg cs_0.toArray] h (roadref2_SizeOf.post W h m r) := by
  unfold roadref2_SizeOf at e
  refine f103.run ?_
  unfold f103.runT
  refine O.new fun h1 x2 O3 => ?_
  refine ⟨_, ldAn (Sub.refl _) (O3.all 0 rfl) (T_api_Expr.T.len _ _ _ e_0), ?_⟩
  obtain ⟨y5, g6, e⟩ := bind_e e
  refine (roadref2_All.walk (Hold.start (W := No) O3.s) e_0 g6).mono ?_
  rintro _ h7 ⟨m8, A11, n12, c13, Q9, rfl, ne14⟩
  have O16 := Hold.nm (O3.ret Q9)
  subst ne14
  refine ⟨_, _, _, rfl, ?_⟩
  exact (roadref2_SizeOf.l0_k.all e) (O16.pick [1]).nm rfl
def roadlaw2_small.post (W : Nat → Prop) (h0 m0 : Heap) (r : Bool) (v : Value) (h : Heap) : Prop := ∃ m , Hold W h0 m0 h m [] ∧ v = .bool r
inductive roadlaw2_small.l0_k.Pt where
  | l0 (x_3 : Int) (a_7 : List T_api_Expr) (x_8 : Int) (x_9 : Int)
noncomputable def roadlaw2_small.l0_k.body (go : (p : roadlaw2_small.l0_k.Pt) → Option (Bool)) : (p : roadlaw2_small.l0_k.Pt) → Option (Bool)
  | .l0 x_3 a_7 x_8 x_9 => if x_9 < x_8 then (Option.bind (gi a_7 x_9) fun y1 => Option.bind (roadref2_SizeOf y1) fun y14 => (go (.l0 (IntKind.wrap .i64 (x_3 + y14)) a_7 x_8 (IntKind.wrap .i64 (x_9 + (1 : Int)))))) else (some ((decide (x_3 ≤ (400 : Int)))))
theorem roadlaw2_small.l0_k.mono : MonoF (β := fun _ => (Bool)) roadlaw2_small.l0_k.body := fun f g hfg p => match p with
  | .l0 x_3 a_7 x_8 x_9 => LeO.ite (LeO.bind (LeO.refl _) fun y1 => LeO.bind (LeO.refl _) fun y14 => (hfg _)) (LeO.refl _)
noncomputable def roadlaw2_small.l0_k.go (p : roadlaw2_small.l0_k.Pt) : Option (Bool) := fixF (β := fun _ => (Bool)) roadlaw2_small.l0_k.body p
noncomputable def roadlaw2_small.l0 (x_3 a_7 x_8 x_9) := roadlaw2_small.l0_k.go (.l0 x_3 a_7 x_8 x_9)
theorem roadlaw2_small.l0_eq (x_3 a_7 x_8 x_9) : roadlaw2_small.l0 x_3 a_7 x_8 x_9 = if x_9 < x_8 then (Option.bind (gi a_7 x_9) fun y1 => Option.bind (roadref2_SizeOf y1) fun y14 => (roadlaw2_small.l0 (IntKind.wrap .i64 (x_3 + y14)) a_7 x_8 (IntKind.wrap .i64 (x_9 + (1 : Int))))) else (some ((decide (x_3 ≤ (400 : Int))))) := fixF_eq roadlaw2_small.l0_k.mono _
def roadlaw2_small.l0_k.I : (p : roadlaw2_small.l0_k.Pt) → (Bool) → Prop
  | .l0 x_3 a_7 x_8 x_9, r => ∀ {W h0 m0 h m A_7 n_7 c_7} (O : Hold W h0 m0 h m [rR (aE T_api_Expr.T) A_7 c_7 a_7]) (ne_7 : n_7 = List.length a_7), f57.l0 (roadlaw2_small.post W h0 m0 r) x_3 A_7 n_7 c_7 x_8 x_9 h
theorem roadlaw2_small.l0_k.step_l0 (go : (p : roadlaw2_small.l0_k.Pt) → Option (Bool)) (ih : ∀ p r, go p = some r → roadlaw2_small.l0_k.I p r) (x_3 a_7 x_8 x_9) (r) (e : roadlaw2_small.l0_k.body go (.l0 x_3 a_7 x_8 x_9) = some r) : roadlaw2_small.l0_k.I (.l0 x_3 a_7 x_8 x_9) r := by
  unfold roadlaw2_small.l0_k.body at e
  intro W h0 m0 h m A_7 n_7 c_7 O ne_7
  subst ne_7
  refine f57.l0_in ?_
  unfold f57.l0T
  refine split_dec_e e (fun c21 e => ?_) (fun c21 e => ?_)
  · obtain ⟨y1, g2, e⟩ := bind_e e
    refine (O.os 0 rfl).addr rfl g2 fun a3 cs4 ha5 hc6 he7 => ?_
    refine ⟨_, ldAn (Sub.refl _) hc6 rfl, ?_⟩
    refine O.new fun h8 x9 O10 => ?_
    refine ⟨_, rfl, (T_api_Expr.T.len _ _ _ he7), ?_⟩
    refine O10.stA 1 rfl (T_api_Expr.T.len _ _ _ he7) (T_api_Expr.T.flat _ _ _ he7) fun h12 O13 => ?_
    refine ⟨_, ldAn (Sub.refl _) (O13.all 1 rfl) (T_api_Expr.T.len _ _ _ he7), ?_⟩
    obtain ⟨y14, g15, e⟩ := bind_e e
    refine (roadref2_SizeOf.walk (Hold.start (W := No) O13.s) he7 g15).mono ?_
    rintro _ h16 ⟨m17, Q18, rfl⟩
    have O20 := Hold.nm (O13.retC Q18 vfs_nil)
    refine ⟨_, rfl, ?_⟩
    exact (ih _ _ e) (O20.pick [0]).nm rfl
  · cases e
    exact ⟨_, O.pick [], rfl⟩
theorem roadlaw2_small.l0_k.all {p : roadlaw2_small.l0_k.Pt} {r : (Bool)} (e : roadlaw2_small.l0_k.go p = some r) : roadlaw2_small.l0_k.I p r := fixF_ind (β := fun _ => (Bool)) roadlaw2_small.l0_k.mono (I := roadlaw2_small.l0_k.I) (fun go ih p r e => match p with
  | .l0 x_3 a_7 x_8 x_9 => roadlaw2_small.l0_k.step_l0 go ih x_3 a_7 x_8 x_9 r e
  ) e
noncomputable def roadlaw2_small (y_0 : T_api_Program) : Option (Bool) :=
  Option.bind (roadref2_BodiesOf y_0) fun y5 => (roadlaw2_small.l0 (0 : Int) y5 (((List.length y5) : Nat) : Int) (0 : Int))
theorem roadlaw2_small.walk {W h m cs_0 y_0} (O : Hold W h m h m []) (e_0 : T_api_Program.E m y_0 cs_0) {r} (e : roadlaw2_small y_0 = some r) : Run Try.prog 57 #[Value.agg cs_0.toArray] h (roadlaw2_small.post W h m r) := by
  unfold roadlaw2_small at e
  refine f57.run ?_
  unfold f57.runT
  refine O.new fun h1 x2 O3 => ?_
  refine ⟨_, ldAn (Sub.refl _) (O3.all 0 rfl) (T_api_Program.T.len _ _ _ e_0), ?_⟩
  obtain ⟨y5, g6, e⟩ := bind_e e
  refine (roadref2_BodiesOf.walk (Hold.start (W := No) O3.s) e_0 g6).mono ?_
  rintro _ h7 ⟨m8, A11, n12, c13, Q9, rfl, ne14⟩
  have O16 := Hold.nm (O3.ret Q9)
  subst ne14
  refine ⟨_, _, _, rfl, ?_⟩
  exact (roadlaw2_small.l0_k.all e) (O16.pick [1]).nm rfl
def scope_Makers.post (W : Nat → Prop) (h0 m0 : Heap) (r : (List ByteArray)) (v : Value) (h : Heap) : Prop := ∃ m A0 n0 c0, Hold W h0 m0 h m [rR (aE tell_str) A0 c0 r] ∧ v = .slice A0 n0 c0 ∧ n0 = List.length r
inductive scope_Makers.l0_k.Pt where
  | l0 (a_3 : List ByteArray) (a_9 : List T_api_Data) (x_10 : Int) (x_11 : Int)
  | l1 (a_3 : List ByteArray) (a_9 : List T_api_Data) (x_10 : Int) (x_11 : Int) (a_16 : List T_api_Make) (x_17 : Int) (x_18 : Int)
noncomputable def scope_Makers.l0_k.body (go : (p : scope_Makers.l0_k.Pt) → Option ((List ByteArray))) : (p : scope_Makers.l0_k.Pt) → Option ((List ByteArray))
  | .l0 a_3 a_9 x_10 x_11 => if x_11 < x_10 then (Option.bind (gi a_9 x_11) fun y1 => (go (.l1 a_3 a_9 x_10 x_11 y1.Makes (((List.length y1.Makes) : Nat) : Int) (0 : Int)))) else (some (a_3))
  | .l1 a_3 a_9 x_10 x_11 a_16 x_17 x_18 => if x_18 < x_17 then (Option.bind (gi a_16 x_18) fun y1 => Option.bind (ap 16 a_3 ([y1.Name] : List ByteArray)) fun l18 => (go (.l1 l18 a_9 x_10 x_11 a_16 x_17 (IntKind.wrap .i64 (x_18 + (1 : Int)))))) else ((go (.l0 a_3 a_9 x_10 (IntKind.wrap .i64 (x_11 + (1 : Int))))))
theorem scope_Makers.l0_k.mono : MonoF (β := fun _ => ((List ByteArray))) scope_Makers.l0_k.body := fun f g hfg p => match p with
  | .l0 a_3 a_9 x_10 x_11 => LeO.ite (LeO.bind (LeO.refl _) fun y1 => (hfg _)) (LeO.refl _)
  | .l1 a_3 a_9 x_10 x_11 a_16 x_17 x_18 => LeO.ite (LeO.bind (LeO.refl _) fun y1 => LeO.bind (LeO.refl _) fun l18 => (hfg _)) ((hfg _))
noncomputable def scope_Makers.l0_k.go (p : scope_Makers.l0_k.Pt) : Option ((List ByteArray)) := fixF (β := fun _ => ((List ByteArray))) scope_Makers.l0_k.body p
noncomputable def scope_Makers.l0 (a_3 a_9 x_10 x_11) := scope_Makers.l0_k.go (.l0 a_3 a_9 x_10 x_11)
noncomputable def scope_Makers.l1 (a_3 a_9 x_10 x_11 a_16 x_17 x_18) := scope_Makers.l0_k.go (.l1 a_3 a_9 x_10 x_11 a_16 x_17 x_18)
theorem scope_Makers.l0_eq (a_3 a_9 x_10 x_11) : scope_Makers.l0 a_3 a_9 x_10 x_11 = if x_11 < x_10 then (Option.bind (gi a_9 x_11) fun y1 => (scope_Makers.l1 a_3 a_9 x_10 x_11 y1.Makes (((List.length y1.Makes) : Nat) : Int) (0 : Int))) else (some (a_3)) := fixF_eq scope_Makers.l0_k.mono _
theorem scope_Makers.l1_eq (a_3 a_9 x_10 x_11 a_16 x_17 x_18) : scope_Makers.l1 a_3 a_9 x_10 x_11 a_16 x_17 x_18 = if x_18 < x_17 then (Option.bind (gi a_16 x_18) fun y1 => Option.bind (ap 16 a_3 ([y1.Name] : List ByteArray)) fun l18 => (scope_Makers.l1 l18 a_9 x_10 x_11 a_16 x_17 (IntKind.wrap .i64 (x_18 + (1 : Int))))) else ((scope_Makers.l0 a_3 a_9 x_10 (IntKind.wrap .i64 (x_11 + (1 : Int))))) := fixF_eq scope_Makers.l0_k.mono _
def scope_Makers.l0_k.I : (p : scope_Makers.l0_k.Pt) → ((List ByteArray)) → Prop
  | .l0 a_3 a_9 x_10 x_11, r => ∀ {W h0 m0 h m A_3 n_3 c_3 A_9 n_9 c_9} (O : Hold W h0 m0 h m [rR (aE tell_str) A_3 c_3 a_3]) (ne_3 : n_3 = List.length a_3) (ne_9 : n_9 = List.length a_9) (k_9 : List.length a_9 ≤ c_9) (r_9 : Rd 3 T_api_Data.E m A_9 a_9), f62.l0 (scope_Makers.post W h0 m0 r) A_3 n_3 c_3 A_9 n_9 c_9 x_10 x_11 h
  | .l1 a_3 a_9 x_10 x_11 a_16 x_17 x_18, r => ∀ {W h0 m0 h m A_3 n_3 c_3 A_9 n_9 c_9 A_16 n_16 c_16} (O : Hold W h0 m0 h m [rR (aE tell_str) A_3 c_3 a_3]) (ne_3 : n_3 = List.length a_3) (ne_9 : n_9 = List.length a_9) (k_9 : List.length a_9 ≤ c_9) (r_9 : Rd 3 T_api_Data.E m A_9 a_9) (ne_16 : n_16 = List.length a_16) (k_16 : List.length a_16 ≤ c_16) (r_16 : Rd 2 T_api_Make.E m A_16 a_16), f62.l1 (scope_Makers.post W h0 m0 r) A_3 n_3 c_3 A_9 n_9 c_9 x_10 x_11 A_16 n_16 c_16 x_17 x_18 h
theorem scope_Makers.l0_k.step_l0 (go : (p : scope_Makers.l0_k.Pt) → Option ((List ByteArray))) (ih : ∀ p r, go p = some r → scope_Makers.l0_k.I p r) (a_3 a_9 x_10 x_11) (r) (e : scope_Makers.l0_k.body go (.l0 a_3 a_9 x_10 x_11) = some r) : scope_Makers.l0_k.I (.l0 a_3 a_9 x_10 x_11) r := by
  unfold scope_Makers.l0_k.body at e
  intro W h0 m0 h m A_3 n_3 c_3 A_9 n_9 c_9 O ne_3 ne_9 k_9 r_9
  subst ne_3
  subst ne_9
  refine f62.l0_in ?_
  unfold f62.l0T
  refine split_dec_e e (fun c20 e => ?_) (fun c20 e => ?_)
  · obtain ⟨y1, g2, e⟩ := bind_e e
    refine r_9.addr rfl g2 fun a3 cs4 ha5 hc6 he7 => ?_
    refine ⟨_, ldAn O.s hc6 rfl, ?_⟩
    refine O.new fun h8 x9 O10 => ?_
    refine ⟨_, rfl, (T_api_Data.T.len _ _ _ he7), ?_⟩
    refine O10.stA 1 rfl (T_api_Data.T.len _ _ _ he7) (T_api_Data.T.flat _ _ _ he7) fun h12 O13 => ?_
    obtain ⟨A14, c15, q16, k17, r18⟩ := T_api_Data.g2 he7
    refine ⟨_, ldk (k := 2) (Sub.refl _) (O13.all 1 rfl) q16, _, _, _, rfl, ?_⟩
    have O19 := O13.nm
    exact (ih _ _ e) (O19.pick [0]).nm rfl rfl k_9 r_9 rfl k17 r18
  · cases e
    exact ⟨_, _, _, _, O.pick [0], rfl, rfl⟩
theorem scope_Makers.l0_k.step_l1 (go : (p : scope_Makers.l0_k.Pt) → Option ((List ByteArray))) (ih : ∀ p r, go p = some r → scope_Makers.l0_k.I p r) (a_3 a_9 x_10 x_11 a_16 x_17 x_18) (r) (e : scope_Makers.l0_k.body go (.l1 a_3 a_9 x_10 x_11 a_16 x_17 x_18) = some r) : scope_Makers.l0_k.I (.l1 a_3 a_9 x_10 x_11 a_16 x_17 x_18) r := by
  unfold scope_Makers.l0_k.body at e
  intro W h0 m0 h m A_3 n_3 c_3 A_9 n_9 c_9 A_16 n_16 c_16 O ne_3 ne_9 k_9 r_9 ne_16 k_16 r_16
  subst ne_3
  subst ne_9
  subst ne_16
  refine f62.l1_in ?_
  unfold f62.l1T
  refine split_dec_e e (fun c28 e => ?_) (fun c28 e => ?_)
  · obtain ⟨y1, g2, e⟩ := bind_e e
    refine r_16.addr rfl g2 fun a3 cs4 ha5 hc6 he7 => ?_
    refine ⟨_, ldAn O.s hc6 rfl, ?_⟩
    refine O.new fun h8 x9 O10 => ?_
    refine ⟨_, rfl, (T_api_Make.T.len _ _ _ he7), ?_⟩
    refine O10.stA 1 rfl (T_api_Make.T.len _ _ _ he7) (T_api_Make.T.flat _ _ _ he7) fun h12 O13 => ?_
    refine ⟨_, ld0 (Sub.refl _) (O13.all 1 rfl) (T_api_Make.g0 he7), _, rfl, ?_⟩
    refine O13.new fun h14 x15 O16 => ?_
    obtain ⟨l18, g19, e⟩ := bind_e e
    have O26 := O16.rowE (l := ([y1.Name] : List ByteArray)) 2 rfl tell_str (show CsE _ _ _ _ _ from (CsE.cons (c1 := [(Value.string y1.Name)]) rfl rfl CsE.nil)) rfl
    refine O26.app 0 rfl rfl rfl ((O26.os 2 rfl).srcE rfl) (by decide) g19 fun A20 c21 h22 O23 => ?_
    refine ⟨_, _, _, rfl, ?_⟩
    have O27 := O23.nm
    exact (ih _ _ e) (O27.pick [0]).nm rfl rfl k_9 r_9 rfl k_16 r_16
  · exact (ih _ _ e) (O.pick [0]).nm rfl rfl k_9 r_9
theorem scope_Makers.l0_k.all {p : scope_Makers.l0_k.Pt} {r : ((List ByteArray))} (e : scope_Makers.l0_k.go p = some r) : scope_Makers.l0_k.I p r := fixF_ind (β := fun _ => ((List ByteArray))) scope_Makers.l0_k.mono (I := scope_Makers.l0_k.I) (fun go ih p r e => match p with
  | .l0 a_3 a_9 x_10 x_11 => scope_Makers.l0_k.step_l0 go ih a_3 a_9 x_10 x_11 r e
  | .l1 a_3 a_9 x_10 x_11 a_16 x_17 x_18 => scope_Makers.l0_k.step_l1 go ih a_3 a_9 x_10 x_11 a_16 x_17 x_18 r e
  ) e
noncomputable def scope_Makers (y_0 : T_api_Program) : Option ((List ByteArray)) :=
  (scope_Makers.l0 ([] : List ByteArray) y_0.Datas (((List.length y_0.Datas) : Nat) : Int) (0 : Int))
theorem scope_Makers.walk {W h m cs_0 y_0} (O : Hold W h m h m []) (e_0 : T_api_Program.E m y_0 cs_0) {r} (e : scope_Makers y_0 = some r) : Run Try.prog 62 #[Value.agg cs_0.toArray] h (scope_Makers.post W h m r) := by
  unfold scope_Makers at e
  refine f62.run ?_
  unfold f62.runT
  refine O.new fun h1 x2 O3 => ?_
  obtain ⟨A5, c6, q7, k8, r9⟩ := T_api_Program.g3 e_0
  refine ⟨_, ldk (k := 3) (Sub.refl _) (O3.all 0 rfl) q7, _, _, _, rfl, ?_⟩
  have O10 := O3.nil (aE tell_str) none
  have O12 := O10.nm
  exact (scope_Makers.l0_k.all e) (O12.pick [1]).nm rfl rfl k8 r9
def scope_names.post (W : Nat → Prop) (h0 m0 : Heap) (r : (List ByteArray)) (v : Value) (h : Heap) : Prop := ∃ m A0 n0 c0, Hold W h0 m0 h m [rR (aE tell_str) A0 c0 r] ∧ v = .slice A0 n0 c0 ∧ n0 = List.length r
inductive scope_names.l0_k.Pt where
  | l0 (a_3 : List ByteArray) (a_6 : List T_api_Func) (x_7 : Int) (x_8 : Int)
noncomputable def scope_names.l0_k.body (go : (p : scope_names.l0_k.Pt) → Option ((List ByteArray))) : (p : scope_names.l0_k.Pt) → Option ((List ByteArray))
  | .l0 a_3 a_6 x_7 x_8 => if x_8 < x_7 then (Option.bind (gi a_6 x_8) fun y1 => Option.bind (ap 16 a_3 ([y1.Name] : List ByteArray)) fun l18 => (go (.l0 l18 a_6 x_7 (IntKind.wrap .i64 (x_8 + (1 : Int)))))) else (some (a_3))
theorem scope_names.l0_k.mono : MonoF (β := fun _ => ((List ByteArray))) scope_names.l0_k.body := fun f g hfg p => match p with
  | .l0 a_3 a_6 x_7 x_8 => LeO.ite (LeO.bind (LeO.refl _) fun y1 => LeO.bind (LeO.refl _) fun l18 => (hfg _)) (LeO.refl _)
noncomputable def scope_names.l0_k.go (p : scope_names.l0_k.Pt) : Option ((List ByteArray)) := fixF (β := fun _ => ((List ByteArray))) scope_names.l0_k.body p
noncomputable def scope_names.l0 (a_3 a_6 x_7 x_8) := scope_names.l0_k.go (.l0 a_3 a_6 x_7 x_8)
theorem scope_names.l0_eq (a_3 a_6 x_7 x_8) : scope_names.l0 a_3 a_6 x_7 x_8 = if x_8 < x_7 then (Option.bind (gi a_6 x_8) fun y1 => Option.bind (ap 16 a_3 ([y1.Name] : List ByteArray)) fun l18 => (scope_names.l0 l18 a_6 x_7 (IntKind.wrap .i64 (x_8 + (1 : Int))))) else (some (a_3)) := fixF_eq scope_names.l0_k.mono _
def scope_names.l0_k.I : (p : scope_names.l0_k.Pt) → ((List ByteArray)) → Prop
  | .l0 a_3 a_6 x_7 x_8, r => ∀ {W h0 m0 h m A_3 n_3 c_3 A_6 n_6 c_6} (O : Hold W h0 m0 h m [rR (aE tell_str) A_3 c_3 a_3]) (ne_3 : n_3 = List.length a_3) (ne_6 : n_6 = List.length a_6) (k_6 : List.length a_6 ≤ c_6) (r_6 : Rd 15 T_api_Func.E m A_6 a_6), f112.l0 (scope_names.post W h0 m0 r) A_3 n_3 c_3 A_6 n_6 c_6 x_7 x_8 h
theorem scope_names.l0_k.step_l0 (go : (p : scope_names.l0_k.Pt) → Option ((List ByteArray))) (ih : ∀ p r, go p = some r → scope_names.l0_k.I p r) (a_3 a_6 x_7 x_8) (r) (e : scope_names.l0_k.body go (.l0 a_3 a_6 x_7 x_8) = some r) : scope_names.l0_k.I (.l0 a_3 a_6 x_7 x_8) r := by
  unfold scope_names.l0_k.body at e
  intro W h0 m0 h m A_3 n_3 c_3 A_6 n_6 c_6 O ne_3 ne_6 k_6 r_6
  subst ne_3
  subst ne_6
  refine f112.l0_in ?_
  unfold f112.l0T
  refine split_dec_e e (fun c28 e => ?_) (fun c28 e => ?_)
  · obtain ⟨y1, g2, e⟩ := bind_e e
    refine r_6.addr rfl g2 fun a3 cs4 ha5 hc6 he7 => ?_
    refine ⟨_, ldAn O.s hc6 rfl, ?_⟩
    refine O.new fun h8 x9 O10 => ?_
    refine ⟨_, rfl, (T_api_Func.T.len _ _ _ he7), ?_⟩
    refine O10.stA 1 rfl (T_api_Func.T.len _ _ _ he7) (T_api_Func.T.flat _ _ _ he7) fun h12 O13 => ?_
    refine ⟨_, ld0 (Sub.refl _) (O13.all 1 rfl) (T_api_Func.g0 he7), _, rfl, ?_⟩
    refine O13.new fun h14 x15 O16 => ?_
    obtain ⟨l18, g19, e⟩ := bind_e e
    have O26 := O16.rowE (l := ([y1.Name] : List ByteArray)) 2 rfl tell_str (show CsE _ _ _ _ _ from (CsE.cons (c1 := [(Value.string y1.Name)]) rfl rfl CsE.nil)) rfl
    refine O26.app 0 rfl rfl rfl ((O26.os 2 rfl).srcE rfl) (by decide) g19 fun A20 c21 h22 O23 => ?_
    refine ⟨_, _, _, rfl, ?_⟩
    have O27 := O23.nm
    exact (ih _ _ e) (O27.pick [0]).nm rfl rfl k_6 r_6
  · cases e
    exact ⟨_, _, _, _, O.pick [0], rfl, rfl⟩
theorem scope_names.l0_k.all {p : scope_names.l0_k.Pt} {r : ((List ByteArray))} (e : scope_names.l0_k.go p = some r) : scope_names.l0_k.I p r := fixF_ind (β := fun _ => ((List ByteArray))) scope_names.l0_k.mono (I := scope_names.l0_k.I) (fun go ih p r e => match p with
  | .l0 a_3 a_6 x_7 x_8 => scope_names.l0_k.step_l0 go ih a_3 a_6 x_7 x_8 r e
  ) e
noncomputable def scope_names (a_0 : List T_api_Func) : Option ((List ByteArray)) :=
  (scope_names.l0 ([] : List ByteArray) a_0 (((List.length a_0) : Nat) : Int) (0 : Int))
theorem scope_names.walk {W h m A_0 n_0 c_0 a_0} (O : Hold W h m h m []) (ne_0 : n_0 = List.length a_0) (k_0 : List.length a_0 ≤ c_0) (r_0 : Rd 15 T_api_Func.E m A_0 a_0) {r} (e : scope_names a_0 = some r) : Run Try.prog 112 #[Value.slice A_0 n_0 c_0] h (scope_names.post W h m r) := by
  unfold scope_names at e
  subst ne_0
  refine f112.run ?_
  unfold f112.runT
  have O1 := O.nil (aE tell_str) none
  have O3 := O1.nm
  exact (scope_names.l0_k.all e) (O3.pick [0]).nm rfl rfl k_0 r_0
def scope_Callable.post (W : Nat → Prop) (h0 m0 : Heap) (r : (List ByteArray)) (v : Value) (h : Heap) : Prop := ∃ m A0 n0 c0, Hold W h0 m0 h m [rR (aE tell_str) A0 c0 r] ∧ v = .slice A0 n0 c0 ∧ n0 = List.length r
inductive scope_Callable.l0_k.Pt where
  | l0 (y_1 : T_api_Program) (a_3 : List ByteArray) (a_7 : List T_api_Trait) (x_8 : Int) (x_9 : Int)
noncomputable def scope_Callable.l0_k.body (go : (p : scope_Callable.l0_k.Pt) → Option ((List ByteArray))) : (p : scope_Callable.l0_k.Pt) → Option ((List ByteArray))
  | .l0 y_1 a_3 a_7 x_8 x_9 => if x_9 < x_8 then (Option.bind (gi a_7 x_9) fun y1 => Option.bind (scope_names y1.Funcs) fun y19 => Option.bind (ap 16 a_3 y19) fun l31 => (go (.l0 y_1 l31 a_7 x_8 (IntKind.wrap .i64 (x_9 + (1 : Int)))))) else (Option.bind (scope_names y_1.Funcs) fun y45 => Option.bind (ap 16 a_3 y45) fun l57 => some (l57))
theorem scope_Callable.l0_k.mono : MonoF (β := fun _ => ((List ByteArray))) scope_Callable.l0_k.body := fun f g hfg p => match p with
  | .l0 y_1 a_3 a_7 x_8 x_9 => LeO.ite (LeO.bind (LeO.refl _) fun y1 => LeO.bind (LeO.refl _) fun y19 => LeO.bind (LeO.refl _) fun l31 => (hfg _)) (LeO.bind (LeO.refl _) fun y45 => LeO.bind (LeO.refl _) fun l57 => LeO.refl _)
noncomputable def scope_Callable.l0_k.go (p : scope_Callable.l0_k.Pt) : Option ((List ByteArray)) := fixF (β := fun _ => ((List ByteArray))) scope_Callable.l0_k.body p
noncomputable def scope_Callable.l0 (y_1 a_3 a_7 x_8 x_9) := scope_Callable.l0_k.go (.l0 y_1 a_3 a_7 x_8 x_9)
theorem scope_Callable.l0_eq (y_1 a_3 a_7 x_8 x_9) : scope_Callable.l0 y_1 a_3 a_7 x_8 x_9 = if x_9 < x_8 then (Option.bind (gi a_7 x_9) fun y1 => Option.bind (scope_names y1.Funcs) fun y19 => Option.bind (ap 16 a_3 y19) fun l31 => (scope_Callable.l0 y_1 l31 a_7 x_8 (IntKind.wrap .i64 (x_9 + (1 : Int))))) else (Option.bind (scope_names y_1.Funcs) fun y45 => Option.bind (ap 16 a_3 y45) fun l57 => some (l57)) := fixF_eq scope_Callable.l0_k.mono _
def scope_Callable.l0_k.I : (p : scope_Callable.l0_k.Pt) → ((List ByteArray)) → Prop
  | .l0 y_1 a_3 a_7 x_8 x_9, r => ∀ {W h0 m0 h m bk_1 cs_1 A_3 n_3 c_3 A_7 n_7 c_7} (O : Hold W h0 m0 h m [rV bk_1 135 cs_1, rR (aE tell_str) A_3 c_3 a_3]) (e_1 : T_api_Program.E m y_1 cs_1) (ne_3 : n_3 = List.length a_3) (ne_7 : n_7 = List.length a_7) (k_7 : List.length a_7 ≤ c_7) (r_7 : Rd 2 T_api_Trait.E m A_7 a_7), f63.l0 (scope_Callable.post W h0 m0 r) (⟨bk_1, 0, none⟩ : Addr) A_3 n_3 c_3 A_7 n_7 c_7 x_8 x_9 h
set_option maxHeartbeats 4000000 in
theorem scope_Callable.l0_k.step_l0 (go : (p : scope_Callable.l0_k.Pt) → Option ((List ByteArray))) (ih : ∀ p r, go p = some r → scope_Callable.l0_k.I p r) (y_1 a_3 a_7 x_8 x_9) (r) (e : scope_Callable.l0_k.body go (.l0 y_1 a_3 a_7 x_8 x_9) = some r) : scope_Callable.l0_k.I (.l0 y_1 a_3 a_7 x_8 x_9) r := by
  unfold scope_Callable.l0_k.body at e
  intro W h0 m0 h m bk_1 cs_1 A_3 n_3 c_3 A_7 n_7 c_7 O e_1 ne_3 ne_7 k_7 r_7
  subst ne_3
  subst ne_7
  refine f63.l0_in ?_
  unfold f63.l0T
  refine split_dec_e e (fun c66 e => ?_) (fun c66 e => ?_)
  · obtain ⟨y1, g2, e⟩ := bind_e e
    refine r_7.addr rfl g2 fun a3 cs4 ha5 hc6 he7 => ?_
    refine ⟨_, ldAn O.s hc6 rfl, ?_⟩
    refine O.new fun h8 x9 O10 => ?_
    refine ⟨_, rfl, (T_api_Trait.T.len _ _ _ he7), ?_⟩
    refine O10.stA 2 rfl (T_api_Trait.T.len _ _ _ he7) (T_api_Trait.T.flat _ _ _ he7) fun h12 O13 => ?_
    obtain ⟨A14, c15, q16, k17, r18⟩ := T_api_Trait.g1 he7
    refine ⟨_, ldk (k := 1) (Sub.refl _) (O13.all 2 rfl) q16, _, _, _, rfl, ?_⟩
    obtain ⟨y19, g20, e⟩ := bind_e e
    refine (scope_names.walk (Hold.start (W := No) O13.s) rfl k17 r18 g20).mono ?_
    rintro _ h21 ⟨m22, A25, n26, c27, Q23, rfl, ne28⟩
    have O30 := Hold.nm (O13.retC Q23 (vfs_cons (rR_vf (aE_vf (fun _ _ _ _ h => h))) vfs_nil))
    subst ne28
    refine ⟨_, _, _, rfl, ?_⟩
    obtain ⟨l31, g32, e⟩ := bind_e e
    refine O30.app 1 rfl rfl rfl ((O30.os 3 rfl).srcE rfl) (by decide) g32 fun A33 c34 h35 O36 => ?_
    refine ⟨_, _, _, rfl, ?_⟩
    have O39 := O36.nm
    exact (ih _ _ e) (O39.pick [0, 1]).nm e_1 rfl rfl k_7 r_7
  · obtain ⟨A40, c41, q42, k43, r44⟩ := T_api_Program.g6 e_1
    refine ⟨_, ldk (k := 6) (Sub.refl _) (O.all 0 rfl) q42, _, _, _, rfl, ?_⟩
    obtain ⟨y45, g46, e⟩ := bind_e e
    refine (scope_names.walk (Hold.start (W := No) O.s) rfl k43 r44 g46).mono ?_
    rintro _ h47 ⟨m48, A51, n52, c53, Q49, rfl, ne54⟩
    have O56 := Hold.nm (O.retC Q49 (vfs_cons (rR_vf (aE_vf (fun _ _ _ _ h => h))) vfs_nil))
    subst ne54
    refine ⟨_, _, _, rfl, ?_⟩
    obtain ⟨l57, g58, e⟩ := bind_e e
    refine O56.app 1 rfl rfl rfl ((O56.os 2 rfl).srcE rfl) (by decide) g58 fun A59 c60 h61 O62 => ?_
    refine ⟨_, _, _, rfl, ?_⟩
    have O65 := O62.nm
    cases e
    exact ⟨_, _, _, _, O65.pick [1], rfl, rfl⟩
theorem scope_Callable.l0_k.all {p : scope_Callable.l0_k.Pt} {r : ((List ByteArray))} (e : scope_Callable.l0_k.go p = some r) : scope_Callable.l0_k.I p r := fixF_ind (β := fun _ => ((List ByteArray))) scope_Callable.l0_k.mono (I := scope_Callable.l0_k.I) (fun go ih p r e => match p with
  | .l0 y_1 a_3 a_7 x_8 x_9 => scope_Callable.l0_k.step_l0 go ih y_1 a_3 a_7 x_8 x_9 r e
  ) e
noncomputable def scope_Callable (y_0 : T_api_Program) : Option ((List ByteArray)) :=
  (scope_Callable.l0 y_0 ([] : List ByteArray) y_0.Traits (((List.length y_0.Traits) : Nat) : Int) (0 : Int))
theorem scope_Callable.walk {W h m cs_0 y_0} (O : Hold W h m h m []) (e_0 : T_api_Program.E m y_0 cs_0) {r} (e : scope_Callable y_0 = some r) : Run Try.prog 63 #[Value.agg cs_0.toArray] h (scope_Callable.post W h m r) := by
  unfold scope_Callable at e
  refine f63.run ?_
  unfold f63.runT
  refine O.new fun h1 x2 O3 => ?_
  obtain ⟨A5, c6, q7, k8, r9⟩ := T_api_Program.g4 e_0
  refine ⟨_, ldk (k := 4) (Sub.refl _) (O3.all 0 rfl) q7, _, _, _, rfl, ?_⟩
  have O10 := O3.nil (aE tell_str) none
  have O12 := O10.nm
  exact (scope_Callable.l0_k.all e) (O12.pick [0, 1]).nm e_0 rfl rfl k8 r9
def scope_Actors.post (W : Nat → Prop) (h0 m0 : Heap) (r : (List ByteArray)) (v : Value) (h : Heap) : Prop := ∃ m A0 n0 c0, Hold W h0 m0 h m [rR (aE tell_str) A0 c0 r] ∧ v = .slice A0 n0 c0 ∧ n0 = List.length r
inductive scope_Actors.l0_k.Pt where
  | l0 (a_3 : List ByteArray) (a_7 : List T_api_Actor) (x_8 : Int) (x_9 : Int)
noncomputable def scope_Actors.l0_k.body (go : (p : scope_Actors.l0_k.Pt) → Option ((List ByteArray))) : (p : scope_Actors.l0_k.Pt) → Option ((List ByteArray))
  | .l0 a_3 a_7 x_8 x_9 => if x_9 < x_8 then (Option.bind (gi a_7 x_9) fun y1 => Option.bind (ap 16 a_3 ([y1.Name] : List ByteArray)) fun l18 => (go (.l0 l18 a_7 x_8 (IntKind.wrap .i64 (x_9 + (1 : Int)))))) else (some (a_3))
theorem scope_Actors.l0_k.mono : MonoF (β := fun _ => ((List ByteArray))) scope_Actors.l0_k.body := fun f g hfg p => match p with
  | .l0 a_3 a_7 x_8 x_9 => LeO.ite (LeO.bind (LeO.refl _) fun y1 => LeO.bind (LeO.refl _) fun l18 => (hfg _)) (LeO.refl _)
noncomputable def scope_Actors.l0_k.go (p : scope_Actors.l0_k.Pt) : Option ((List ByteArray)) := fixF (β := fun _ => ((List ByteArray))) scope_Actors.l0_k.body p
noncomputable def scope_Actors.l0 (a_3 a_7 x_8 x_9) := scope_Actors.l0_k.go (.l0 a_3 a_7 x_8 x_9)
theorem scope_Actors.l0_eq (a_3 a_7 x_8 x_9) : scope_Actors.l0 a_3 a_7 x_8 x_9 = if x_9 < x_8 then (Option.bind (gi a_7 x_9) fun y1 => Option.bind (ap 16 a_3 ([y1.Name] : List ByteArray)) fun l18 => (scope_Actors.l0 l18 a_7 x_8 (IntKind.wrap .i64 (x_9 + (1 : Int))))) else (some (a_3)) := fixF_eq scope_Actors.l0_k.mono _
def scope_Actors.l0_k.I : (p : scope_Actors.l0_k.Pt) → ((List ByteArray)) → Prop
  | .l0 a_3 a_7 x_8 x_9, r => ∀ {W h0 m0 h m A_3 n_3 c_3 A_7 n_7 c_7} (O : Hold W h0 m0 h m [rR (aE tell_str) A_3 c_3 a_3]) (ne_3 : n_3 = List.length a_3) (ne_7 : n_7 = List.length a_7) (k_7 : List.length a_7 ≤ c_7) (r_7 : Rd 14 T_api_Actor.E m A_7 a_7), f64.l0 (scope_Actors.post W h0 m0 r) A_3 n_3 c_3 A_7 n_7 c_7 x_8 x_9 h
theorem scope_Actors.l0_k.step_l0 (go : (p : scope_Actors.l0_k.Pt) → Option ((List ByteArray))) (ih : ∀ p r, go p = some r → scope_Actors.l0_k.I p r) (a_3 a_7 x_8 x_9) (r) (e : scope_Actors.l0_k.body go (.l0 a_3 a_7 x_8 x_9) = some r) : scope_Actors.l0_k.I (.l0 a_3 a_7 x_8 x_9) r := by
  unfold scope_Actors.l0_k.body at e
  intro W h0 m0 h m A_3 n_3 c_3 A_7 n_7 c_7 O ne_3 ne_7 k_7 r_7
  subst ne_3
  subst ne_7
  refine f64.l0_in ?_
  unfold f64.l0T
  refine split_dec_e e (fun c28 e => ?_) (fun c28 e => ?_)
  · obtain ⟨y1, g2, e⟩ := bind_e e
    refine r_7.addr rfl g2 fun a3 cs4 ha5 hc6 he7 => ?_
    refine ⟨_, ldAn O.s hc6 rfl, ?_⟩
    refine O.new fun h8 x9 O10 => ?_
    refine ⟨_, rfl, (T_api_Actor.T.len _ _ _ he7), ?_⟩
    refine O10.stA 1 rfl (T_api_Actor.T.len _ _ _ he7) (T_api_Actor.T.flat _ _ _ he7) fun h12 O13 => ?_
    refine ⟨_, ld0 (Sub.refl _) (O13.all 1 rfl) (T_api_Actor.g0 he7), _, rfl, ?_⟩
    refine O13.new fun h14 x15 O16 => ?_
    obtain ⟨l18, g19, e⟩ := bind_e e
    have O26 := O16.rowE (l := ([y1.Name] : List ByteArray)) 2 rfl tell_str (show CsE _ _ _ _ _ from (CsE.cons (c1 := [(Value.string y1.Name)]) rfl rfl CsE.nil)) rfl
    refine O26.app 0 rfl rfl rfl ((O26.os 2 rfl).srcE rfl) (by decide) g19 fun A20 c21 h22 O23 => ?_
    refine ⟨_, _, _, rfl, ?_⟩
    have O27 := O23.nm
    exact (ih _ _ e) (O27.pick [0]).nm rfl rfl k_7 r_7
  · cases e
    exact ⟨_, _, _, _, O.pick [0], rfl, rfl⟩
theorem scope_Actors.l0_k.all {p : scope_Actors.l0_k.Pt} {r : ((List ByteArray))} (e : scope_Actors.l0_k.go p = some r) : scope_Actors.l0_k.I p r := fixF_ind (β := fun _ => ((List ByteArray))) scope_Actors.l0_k.mono (I := scope_Actors.l0_k.I) (fun go ih p r e => match p with
  | .l0 a_3 a_7 x_8 x_9 => scope_Actors.l0_k.step_l0 go ih a_3 a_7 x_8 x_9 r e
  ) e
noncomputable def scope_Actors (y_0 : T_api_Program) : Option ((List ByteArray)) :=
  (scope_Actors.l0 ([] : List ByteArray) y_0.Actors (((List.length y_0.Actors) : Nat) : Int) (0 : Int))
theorem scope_Actors.walk {W h m cs_0 y_0} (O : Hold W h m h m []) (e_0 : T_api_Program.E m y_0 cs_0) {r} (e : scope_Actors y_0 = some r) : Run Try.prog 64 #[Value.agg cs_0.toArray] h (scope_Actors.post W h m r) := by
  unfold scope_Actors at e
  refine f64.run ?_
  unfold f64.runT
  refine O.new fun h1 x2 O3 => ?_
  obtain ⟨A5, c6, q7, k8, r9⟩ := T_api_Program.g7 e_0
  refine ⟨_, ldk (k := 7) (Sub.refl _) (O3.all 0 rfl) q7, _, _, _, rfl, ?_⟩
  have O10 := O3.nil (aE tell_str) none
  have O12 := O10.nm
  exact (scope_Actors.l0_k.all e) (O12.pick [1]).nm rfl rfl k8 r9
def slices_Index_116.post (W : Nat → Prop) (h0 m0 : Heap) (r : Int) (v : Value) (h : Heap) : Prop := ∃ m , Hold W h0 m0 h m [] ∧ v = .int .i64 r
inductive slices_Index_116.l0_k.Pt where
  | l0 (a_0 : List ByteArray) (s_1 : ByteArray) (x_7 : Int) (x_8 : Int)
noncomputable def slices_Index_116.l0_k.body (go : (p : slices_Index_116.l0_k.Pt) → Option (Int)) : (p : slices_Index_116.l0_k.Pt) → Option (Int)
  | .l0 a_0 s_1 x_7 x_8 => if x_8 < x_7 then (Option.bind (gi a_0 x_8) fun y1 => if s_1 = y1 then (some (x_8)) else ((go (.l0 a_0 s_1 x_7 (IntKind.wrap .i64 (x_8 + (1 : Int))))))) else (some ((-1 : Int)))
theorem slices_Index_116.l0_k.mono : MonoF (β := fun _ => (Int)) slices_Index_116.l0_k.body := fun f g hfg p => match p with
  | .l0 a_0 s_1 x_7 x_8 => LeO.ite (LeO.bind (LeO.refl _) fun y1 => LeO.ite (LeO.refl _) ((hfg _))) (LeO.refl _)
noncomputable def slices_Index_116.l0_k.go (p : slices_Index_116.l0_k.Pt) : Option (Int) := fixF (β := fun _ => (Int)) slices_Index_116.l0_k.body p
noncomputable def slices_Index_116.l0 (a_0 s_1 x_7 x_8) := slices_Index_116.l0_k.go (.l0 a_0 s_1 x_7 x_8)
theorem slices_Index_116.l0_eq (a_0 s_1 x_7 x_8) : slices_Index_116.l0 a_0 s_1 x_7 x_8 = if x_8 < x_7 then (Option.bind (gi a_0 x_8) fun y1 => if s_1 = y1 then (some (x_8)) else ((slices_Index_116.l0 a_0 s_1 x_7 (IntKind.wrap .i64 (x_8 + (1 : Int)))))) else (some ((-1 : Int))) := fixF_eq slices_Index_116.l0_k.mono _
def slices_Index_116.l0_k.I : (p : slices_Index_116.l0_k.Pt) → (Int) → Prop
  | .l0 a_0 s_1 x_7 x_8, r => ∀ {W h0 m0 h m A_0 n_0 c_0} (O : Hold W h0 m0 h m []) (ne_0 : n_0 = List.length a_0) (k_0 : List.length a_0 ≤ c_0) (r_0 : Rd 1 eStr m A_0 a_0), f116.l0 (slices_Index_116.post W h0 m0 r) A_0 n_0 c_0 s_1 x_7 x_8 h
theorem slices_Index_116.l0_k.step_l0 (go : (p : slices_Index_116.l0_k.Pt) → Option (Int)) (ih : ∀ p r, go p = some r → slices_Index_116.l0_k.I p r) (a_0 s_1 x_7 x_8) (r) (e : slices_Index_116.l0_k.body go (.l0 a_0 s_1 x_7 x_8) = some r) : slices_Index_116.l0_k.I (.l0 a_0 s_1 x_7 x_8) r := by
  unfold slices_Index_116.l0_k.body at e
  intro W h0 m0 h m A_0 n_0 c_0 O ne_0 k_0 r_0
  subst ne_0
  refine f116.l0_in ?_
  unfold f116.l0T
  refine split_dec_e e (fun c9 e => ?_) (fun c9 e => ?_)
  · obtain ⟨y1, g2, e⟩ := bind_e e
    refine r_0.addr rfl g2 fun a3 cs4 ha5 hc6 he7 => ?_
    obtain rfl : cs4 = [(Value.string y1)] := he7
    refine ⟨_, ld0 O.s hc6 rfl, _, rfl, ?_⟩
    try rw [ba_list s_1 y1]
    refine split_dec_e e (fun c8 e => ?_) (fun c8 e => ?_)
    · cases e
      exact ⟨_, O.pick [], rfl⟩
    · exact (ih _ _ e) (O.pick []).nm rfl k_0 r_0
  · cases e
    exact ⟨_, O.pick [], rfl⟩
theorem slices_Index_116.l0_k.all {p : slices_Index_116.l0_k.Pt} {r : (Int)} (e : slices_Index_116.l0_k.go p = some r) : slices_Index_116.l0_k.I p r := fixF_ind (β := fun _ => (Int)) slices_Index_116.l0_k.mono (I := slices_Index_116.l0_k.I) (fun go ih p r e => match p with
  | .l0 a_0 s_1 x_7 x_8 => slices_Index_116.l0_k.step_l0 go ih a_0 s_1 x_7 x_8 r e
  ) e
noncomputable def slices_Index_116 (a_0 : List ByteArray) (s_1 : ByteArray) : Option (Int) :=
  (slices_Index_116.l0 a_0 s_1 (((List.length a_0) : Nat) : Int) (0 : Int))
theorem slices_Index_116.walk {W h m A_0 n_0 c_0 a_0 s_1} (O : Hold W h m h m []) (ne_0 : n_0 = List.length a_0) (k_0 : List.length a_0 ≤ c_0) (r_0 : Rd 1 eStr m A_0 a_0) {r} (e : slices_Index_116 a_0 s_1 = some r) : Run Try.prog 116 #[Value.slice A_0 n_0 c_0, Value.string s_1] h (slices_Index_116.post W h m r) := by
  unfold slices_Index_116 at e
  subst ne_0
  refine f116.run ?_
  unfold f116.runT
  exact (slices_Index_116.l0_k.all e) (O.pick []).nm rfl k_0 r_0
def slices_Contains_68.post (W : Nat → Prop) (h0 m0 : Heap) (r : Bool) (v : Value) (h : Heap) : Prop := ∃ m , Hold W h0 m0 h m [] ∧ v = .bool r
noncomputable def slices_Contains_68 (a_0 : List ByteArray) (s_1 : ByteArray) : Option (Bool) :=
  Option.bind (slices_Index_116 a_0 s_1) fun y1 => some ((decide (y1 ≥ (0 : Int))))
theorem slices_Contains_68.walk {W h m A_0 n_0 c_0 a_0 s_1} (O : Hold W h m h m []) (ne_0 : n_0 = List.length a_0) (k_0 : List.length a_0 ≤ c_0) (r_0 : Rd 1 eStr m A_0 a_0) {r} (e : slices_Contains_68 a_0 s_1 = some r) : Run Try.prog 68 #[Value.slice A_0 n_0 c_0, Value.string s_1] h (slices_Contains_68.post W h m r) := by
  unfold slices_Contains_68 at e
  subst ne_0
  refine f68.run ?_
  unfold f68.runT
  obtain ⟨y1, g2, e⟩ := bind_e e
  refine (slices_Index_116.walk (Hold.start (W := No) O.s) rfl k_0 r_0 g2).mono ?_
  rintro _ h3 ⟨m4, Q5, rfl⟩
  have O7 := Hold.nm (O.retC Q5 vfs_nil)
  refine ⟨_, rfl, ?_⟩
  cases e
  exact ⟨_, O7.pick [], rfl⟩
theorem slices_Contains_68.val {l : List ByteArray} (v : ByteArray) (hl : l.length ≤ 4611686018427387904) : slices_Contains_68 l v = some (l.any fun y => decide (v = y)) := contains_any (fun a p n i => slices_Index_116.l0_eq a p n i) (fun _ _ => rfl) (fun _ _ => rfl) v hl
def scope_Twice.post (W : Nat → Prop) (h0 m0 : Heap) (r : Bool) (v : Value) (h : Heap) : Prop := ∃ m , Hold W h0 m0 h m [] ∧ v = .bool r
inductive scope_Twice.l0_k.Pt where
  | l0 (a_0 : List ByteArray) (a_5 : List ByteArray) (x_6 : Int) (x_7 : Int)
noncomputable def scope_Twice.l0_k.body (go : (p : scope_Twice.l0_k.Pt) → Option (Bool)) : (p : scope_Twice.l0_k.Pt) → Option (Bool)
  | .l0 a_0 a_5 x_6 x_7 => if x_7 < x_6 then (Option.bind (gi a_5 x_7) fun y1 => Option.bind (sls a_0 (0 : Int) x_7) fun l8 => Option.bind (slices_Contains_68 l8 y1) fun y13 => if y13 = true then (some (true)) else ((go (.l0 a_0 a_5 x_6 (IntKind.wrap .i64 (x_7 + (1 : Int))))))) else (some (false))
theorem scope_Twice.l0_k.mono : MonoF (β := fun _ => (Bool)) scope_Twice.l0_k.body := fun f g hfg p => match p with
  | .l0 a_0 a_5 x_6 x_7 => LeO.ite (LeO.bind (LeO.refl _) fun y1 => LeO.bind (LeO.refl _) fun l8 => LeO.bind (LeO.refl _) fun y13 => LeO.ite (LeO.refl _) ((hfg _))) (LeO.refl _)
noncomputable def scope_Twice.l0_k.go (p : scope_Twice.l0_k.Pt) : Option (Bool) := fixF (β := fun _ => (Bool)) scope_Twice.l0_k.body p
noncomputable def scope_Twice.l0 (a_0 a_5 x_6 x_7) := scope_Twice.l0_k.go (.l0 a_0 a_5 x_6 x_7)
theorem scope_Twice.l0_eq (a_0 a_5 x_6 x_7) : scope_Twice.l0 a_0 a_5 x_6 x_7 = if x_7 < x_6 then (Option.bind (gi a_5 x_7) fun y1 => Option.bind (sls a_0 (0 : Int) x_7) fun l8 => Option.bind (slices_Contains_68 l8 y1) fun y13 => if y13 = true then (some (true)) else ((scope_Twice.l0 a_0 a_5 x_6 (IntKind.wrap .i64 (x_7 + (1 : Int)))))) else (some (false)) := fixF_eq scope_Twice.l0_k.mono _
def scope_Twice.l0_k.I : (p : scope_Twice.l0_k.Pt) → (Bool) → Prop
  | .l0 a_0 a_5 x_6 x_7, r => ∀ {W h0 m0 h m A_0 n_0 c_0 A_5 n_5 c_5} (O : Hold W h0 m0 h m []) (ne_0 : n_0 = List.length a_0) (k_0 : List.length a_0 ≤ c_0) (r_0 : Rd 1 eStr m A_0 a_0) (ne_5 : n_5 = List.length a_5) (k_5 : List.length a_5 ≤ c_5) (r_5 : Rd 1 eStr m A_5 a_5), f69.l0 (scope_Twice.post W h0 m0 r) A_0 n_0 c_0 A_5 n_5 c_5 x_6 x_7 h
theorem scope_Twice.l0_k.step_l0 (go : (p : scope_Twice.l0_k.Pt) → Option (Bool)) (ih : ∀ p r, go p = some r → scope_Twice.l0_k.I p r) (a_0 a_5 x_6 x_7) (r) (e : scope_Twice.l0_k.body go (.l0 a_0 a_5 x_6 x_7) = some r) : scope_Twice.l0_k.I (.l0 a_0 a_5 x_6 x_7) r := by
  unfold scope_Twice.l0_k.body at e
  intro W h0 m0 h m A_0 n_0 c_0 A_5 n_5 c_5 O ne_0 k_0 r_0 ne_5 k_5 r_5
  subst ne_0
  subst ne_5
  refine f69.l0_in ?_
  unfold f69.l0T
  refine split_dec_e e (fun c21 e => ?_) (fun c21 e => ?_)
  · obtain ⟨y1, g2, e⟩ := bind_e e
    refine r_5.addr rfl g2 fun a3 cs4 ha5 hc6 he7 => ?_
    obtain rfl : cs4 = [(Value.string y1)] := he7
    refine ⟨_, ld0 O.s hc6 rfl, _, rfl, ?_⟩
    obtain ⟨l8, g9, e⟩ := bind_e e
    have q10 := sls_e g9
    refine ⟨q10.1, q10.2.1, cap_in q10.2.2.1 k_0, ?_⟩
    try rw [q10.2.2.2.1]
    have k11 : List.length l8 ≤ (c_0 - Int.toNat (0 : Int)) := sls_cap g9 k_0
    have r12 := r_0.sls g9 (le_mx q10.2.2.1 k_0)
    obtain ⟨y13, g14, e⟩ := bind_e e
    refine (slices_Contains_68.walk (Hold.start (W := No) O.s) rfl k11 r12 g14).mono ?_
    rintro _ h15 ⟨m16, Q17, rfl⟩
    have O19 := Hold.nm (O.retC Q17 vfs_nil)
    refine ⟨_, rfl, ?_⟩
    refine split_any_e e (fun c20 e => ?_) (fun c20 e => ?_)
    · cases e
      exact ⟨_, O19.pick [], rfl⟩
    · exact (ih _ _ e) (O19.pick []).nm rfl k_0 r_0 rfl k_5 r_5
  · cases e
    exact ⟨_, O.pick [], rfl⟩
theorem scope_Twice.l0_k.all {p : scope_Twice.l0_k.Pt} {r : (Bool)} (e : scope_Twice.l0_k.go p = some r) : scope_Twice.l0_k.I p r := fixF_ind (β := fun _ => (Bool)) scope_Twice.l0_k.mono (I := scope_Twice.l0_k.I) (fun go ih p r e => match p with
  | .l0 a_0 a_5 x_6 x_7 => scope_Twice.l0_k.step_l0 go ih a_0 a_5 x_6 x_7 r e
  ) e
noncomputable def scope_Twice (a_0 : List ByteArray) : Option (Bool) :=
  (scope_Twice.l0 a_0 a_0 (((List.length a_0) : Nat) : Int) (0 : Int))
theorem scope_Twice.walk {W h m A_0 n_0 c_0 a_0} (O : Hold W h m h m []) (ne_0 : n_0 = List.length a_0) (k_0 : List.length a_0 ≤ c_0) (r_0 : Rd 1 eStr m A_0 a_0) {r} (e : scope_Twice a_0 = some r) : Run Try.prog 69 #[Value.slice A_0 n_0 c_0] h (scope_Twice.post W h m r) := by
  unfold scope_Twice at e
  subst ne_0
  refine f69.run ?_
  unfold f69.runT
  exact (scope_Twice.l0_k.all e) (O.pick []).nm rfl k_0 r_0 rfl k_0 r_0
def tree_Bound.post (W : Nat → Prop) (h0 m0 : Heap) (r : (List ByteArray)) (v : Value) (h : Heap) : Prop := ∃ m A0 n0 c0, Hold W h0 m0 h m [rR (aE tell_str) A0 c0 r] ∧ v = .slice A0 n0 c0 ∧ n0 = List.length r
inductive tree_Bound_k.Pt where
  | f (y_0 : T_api_Pat)
  | l0 (a_3 : List ByteArray) (a_16 : List T_api_Pat) (x_17 : Int) (x_18 : Int)
noncomputable def tree_Bound_k.body (go : (p : tree_Bound_k.Pt) → Option ((List ByteArray))) : (p : tree_Bound_k.Pt) → Option ((List ByteArray))
  | .f y_0 => if y_0.Kind = (2 : Int) then (some (([y_0.Text] : List ByteArray))) else (if y_0.Kind = (6 : Int) then ((go (.l0 ([] : List ByteArray) y_0.Args (((List.length y_0.Args) : Nat) : Int) (0 : Int)))) else (some (([] : List ByteArray))))
  | .l0 a_3 a_16 x_17 x_18 => if x_18 < x_17 then (Option.bind (gi a_16 x_18) fun y1 => Option.bind ((go (.f y1))) fun y14 => Option.bind (ap 16 a_3 y14) fun l26 => (go (.l0 l26 a_16 x_17 (IntKind.wrap .i64 (x_18 + (1 : Int)))))) else (some (a_3))
theorem tree_Bound_k.mono : MonoF (β := fun _ => ((List ByteArray))) tree_Bound_k.body := fun f g hfg p => match p with
  | .f y_0 => LeO.ite (LeO.refl _) (LeO.ite ((hfg _)) (LeO.refl _))
  | .l0 a_3 a_16 x_17 x_18 => LeO.ite (LeO.bind (LeO.refl _) fun y1 => LeO.bind ((hfg _)) fun y14 => LeO.bind (LeO.refl _) fun l26 => (hfg _)) (LeO.refl _)
noncomputable def tree_Bound_k.go (p : tree_Bound_k.Pt) : Option ((List ByteArray)) := fixF (β := fun _ => ((List ByteArray))) tree_Bound_k.body p
noncomputable def tree_Bound (y_0) := tree_Bound_k.go (.f y_0)
noncomputable def tree_Bound.l0 (a_3 a_16 x_17 x_18) := tree_Bound_k.go (.l0 a_3 a_16 x_17 x_18)
theorem tree_Bound_eq (y_0) : tree_Bound y_0 = if y_0.Kind = (2 : Int) then (some (([y_0.Text] : List ByteArray))) else (if y_0.Kind = (6 : Int) then ((tree_Bound.l0 ([] : List ByteArray) y_0.Args (((List.length y_0.Args) : Nat) : Int) (0 : Int))) else (some (([] : List ByteArray)))) := fixF_eq tree_Bound_k.mono _
theorem tree_Bound.l0_eq (a_3 a_16 x_17 x_18) : tree_Bound.l0 a_3 a_16 x_17 x_18 = if x_18 < x_17 then (Option.bind (gi a_16 x_18) fun y1 => Option.bind ((tree_Bound y1)) fun y14 => Option.bind (ap 16 a_3 y14) fun l26 => (tree_Bound.l0 l26 a_16 x_17 (IntKind.wrap .i64 (x_18 + (1 : Int))))) else (some (a_3)) := fixF_eq tree_Bound_k.mono _
def tree_Bound_k.I : (p : tree_Bound_k.Pt) → ((List ByteArray)) → Prop
  | .f y_0, r => ∀ {W h m cs_0} (O : Hold W h m h m []) (e_0 : T_api_Pat.E m y_0 cs_0), Run Try.prog 113 #[Value.agg cs_0.toArray] h (tree_Bound.post W h m r)
  | .l0 a_3 a_16 x_17 x_18, r => ∀ {W h0 m0 h m A_3 n_3 c_3 A_16 n_16 c_16} (O : Hold W h0 m0 h m [rR (aE tell_str) A_3 c_3 a_3]) (ne_3 : n_3 = List.length a_3) (ne_16 : n_16 = List.length a_16) (k_16 : List.length a_16 ≤ c_16) (r_16 : Rd 4 T_api_Pat.E m A_16 a_16), f113.l0 (tree_Bound.post W h0 m0 r) A_3 n_3 c_3 A_16 n_16 c_16 x_17 x_18 h
theorem tree_Bound_k.step_f (go : (p : tree_Bound_k.Pt) → Option ((List ByteArray))) (ih : ∀ p r, go p = some r → tree_Bound_k.I p r) (y_0) (r) (e : tree_Bound_k.body go (.f y_0) = some r) : tree_Bound_k.I (.f y_0) r := by
  unfold tree_Bound_k.body at e
  intro W h m cs_0 O e_0
  refine f113.run ?_
  unfold f113.runT
  refine O.new fun h1 x2 O3 => ?_
  refine ⟨_, ld0 (Sub.refl _) (O3.all 0 rfl) (T_api_Pat.g0 e_0), _, rfl, ?_⟩
  refine split_eq_e e (fun c23 e => ?_) (fun c23 e => ?_)
  · refine ⟨_, ldk (k := 2) (Sub.refl _) (O3.all 0 rfl) (T_api_Pat.g2 e_0), _, rfl, ?_⟩
    refine O3.new fun h5 x6 O7 => ?_
    have O9 := O7.rowE (l := ([y_0.Text] : List ByteArray)) 1 rfl tell_str (show CsE _ _ _ _ _ from (CsE.cons (c1 := [(Value.string y_0.Text)]) rfl rfl CsE.nil)) rfl
    have O10 := O9.nm
    cases e
    exact ⟨_, _, _, _, O10.pick [1], rfl, rfl⟩
  · refine split_eq_e e (fun c22 e => ?_) (fun c22 e => ?_)
    · obtain ⟨A11, c12, q13, k14, r15⟩ := T_api_Pat.g3 e_0
      refine ⟨_, ldk (k := 3) (Sub.refl _) (O3.all 0 rfl) q13, _, _, _, rfl, ?_⟩
      have O16 := O3.nil (aE tell_str) none
      have O18 := O16.nm
      exact (ih _ _ e) (O18.pick [1]).nm rfl rfl k14 r15
    · have O19 := O3.nil (aE tell_str) none
      have O21 := O19.nm
      cases e
      exact ⟨_, _, _, _, O21.pick [1], rfl, rfl⟩
theorem tree_Bound_k.step_l0 (go : (p : tree_Bound_k.Pt) → Option ((List ByteArray))) (ih : ∀ p r, go p = some r → tree_Bound_k.I p r) (a_3 a_16 x_17 x_18) (r) (e : tree_Bound_k.body go (.l0 a_3 a_16 x_17 x_18) = some r) : tree_Bound_k.I (.l0 a_3 a_16 x_17 x_18) r := by
  unfold tree_Bound_k.body at e
  intro W h0 m0 h m A_3 n_3 c_3 A_16 n_16 c_16 O ne_3 ne_16 k_16 r_16
  subst ne_3
  subst ne_16
  refine f113.l0_in ?_
  unfold f113.l0T
  refine split_dec_e e (fun c35 e => ?_) (fun c35 e => ?_)
  · obtain ⟨y1, g2, e⟩ := bind_e e
    refine r_16.addr rfl g2 fun a3 cs4 ha5 hc6 he7 => ?_
    refine ⟨_, ldAn O.s hc6 rfl, ?_⟩
    refine O.new fun h8 x9 O10 => ?_
    refine ⟨_, rfl, (T_api_Pat.T.len _ _ _ he7), ?_⟩
    refine O10.stA 1 rfl (T_api_Pat.T.len _ _ _ he7) (T_api_Pat.T.flat _ _ _ he7) fun h12 O13 => ?_
    refine ⟨_, ldAn (Sub.refl _) (O13.all 1 rfl) (T_api_Pat.T.len _ _ _ he7), ?_⟩
    obtain ⟨y14, g15, e⟩ := bind_e e
    refine ((ih _ _ g15) (Hold.start (W := No) O13.s) he7).mono ?_
    rintro _ h16 ⟨m17, A20, n21, c22, Q18, rfl, ne23⟩
    have O25 := Hold.nm (O13.retC Q18 (vfs_cons (rR_vf (aE_vf (fun _ _ _ _ h => h))) vfs_nil))
    subst ne23
    refine ⟨_, _, _, rfl, ?_⟩
    obtain ⟨l26, g27, e⟩ := bind_e e
    refine O25.app 0 rfl rfl rfl ((O25.os 2 rfl).srcE rfl) (by decide) g27 fun A28 c29 h30 O31 => ?_
    refine ⟨_, _, _, rfl, ?_⟩
    have O34 := O31.nm
    exact (ih _ _ e) (O34.pick [0]).nm rfl rfl k_16 r_16
  · cases e
    exact ⟨_, _, _, _, O.pick [0], rfl, rfl⟩
theorem tree_Bound_k.all {p : tree_Bound_k.Pt} {r : ((List ByteArray))} (e : tree_Bound_k.go p = some r) : tree_Bound_k.I p r := fixF_ind (β := fun _ => ((List ByteArray))) tree_Bound_k.mono (I := tree_Bound_k.I) (fun go ih p r e => match p with
  | .f y_0 => tree_Bound_k.step_f go ih y_0 r e
  | .l0 a_3 a_16 x_17 x_18 => tree_Bound_k.step_l0 go ih a_3 a_16 x_17 x_18 r e
  ) e
theorem tree_Bound.walk {W h m cs_0 y_0} (O : Hold W h m h m []) (e_0 : T_api_Pat.E m y_0 cs_0) {r} (e : tree_Bound y_0 = some r) : Run Try.prog 113 #[Value.agg cs_0.toArray] h (tree_Bound.post W h m r) := tree_Bound_k.all (p := .f y_0) e O e_0
def slices_IndexFunc_186_s2.post (W : Nat → Prop) (h0 m0 : Heap) (r : Int) (v : Value) (h : Heap) : Prop := ∃ m , Hold W h0 m0 h m [] ∧ v = .int .i64 r
def slices_ContainsFunc_156_s1.post (W : Nat → Prop) (h0 m0 : Heap) (r : Bool) (v : Value) (h : Heap) : Prop := ∃ m , Hold W h0 m0 h m [] ∧ v = .bool r
def scope_made_1.post (W : Nat → Prop) (h0 m0 : Heap) (r : Bool) (v : Value) (h : Heap) : Prop := ∃ m , Hold W h0 m0 h m [] ∧ v = .bool r
def scope_made.post (W : Nat → Prop) (h0 m0 : Heap) (r : Bool) (v : Value) (h : Heap) : Prop := ∃ m , Hold W h0 m0 h m [] ∧ v = .bool r
inductive scope_made_k.Pt where
  | f_114 (y_0 : T_api_Program) (y_1 : T_api_Pat)
  | j0_114 (y_2 : T_api_Program) (y_3 : T_api_Pat)
  | f_157 (y_0 : T_api_Pat) (y_1 : T_api_Program)
  | f_1000000 (a_0 : List T_api_Pat) (y_1020 : T_api_Program)
  | f_1000001 (a_0 : List T_api_Pat) (y_1020 : T_api_Program)
  | l0_1000001 (a_0 : List T_api_Pat) (y_1_0 : T_api_Program) (x_7 : Int) (x_8 : Int)
abbrev scope_made_k.R : scope_made_k.Pt → Type
  | .f_114 _ _ => Bool
  | .j0_114 _ _ => Bool
  | .f_157 _ _ => Bool
  | .f_1000000 _ _ => Bool
  | .f_1000001 _ _ => Int
  | .l0_1000001 _ _ _ _ => Int
noncomputable def scope_made_k.body (go : (p : scope_made_k.Pt) → Option (scope_made_k.R p)) : (p : scope_made_k.Pt) → Option (scope_made_k.R p)
  | .f_114 y_0 y_1 => if y_1.Kind = (6 : Int) then (Option.bind (scope_Makers y_0) fun y9 => Option.bind (slices_Contains_68 y9 y_1.Text) fun y21 => if y21 = true then ((go (.j0_114 y_0 y_1))) else (some (false))) else ((go (.j0_114 y_0 y_1)))
  | .j0_114 y_2 y_3 => Option.bind ((go (.f_1000000 y_3.Args y_2))) fun y6 => some ((!y6))
  | .f_157 y_0 y_1 => Option.bind ((go (.f_114 y_1 y_0))) fun y5 => some ((!y5))
  | .f_1000000 a_0 y_1020 => Option.bind ((go (.f_1000001 a_0 y_1020))) fun y1 => some ((decide (y1 ≥ (0 : Int))))
  | .f_1000001 a_0 y_1020 => (go (.l0_1000001 a_0 y_1020 (((List.length a_0) : Nat) : Int) (0 : Int)))
  | .l0_1000001 a_0 y_1_0 x_7 x_8 => if x_8 < x_7 then (Option.bind (gi a_0 x_8) fun y1 => Option.bind ((go (.f_157 y1 y_1_0))) fun y8 => if y8 = true then (some (x_8)) else ((go (.l0_1000001 a_0 y_1_0 x_7 (IntKind.wrap .i64 (x_8 + (1 : Int))))))) else (some ((-1 : Int)))
theorem scope_made_k.mono : MonoF (β := scope_made_k.R) scope_made_k.body := fun f g hfg p => match p with
  | .f_114 y_0 y_1 => LeO.ite (LeO.bind (LeO.refl _) fun y9 => LeO.bind (LeO.refl _) fun y21 => LeO.ite ((hfg _)) (LeO.refl _)) ((hfg _))
  | .j0_114 y_2 y_3 => LeO.bind ((hfg _)) fun y6 => LeO.refl _
  | .f_157 y_0 y_1 => LeO.bind ((hfg _)) fun y5 => LeO.refl _
  | .f_1000000 a_0 y_1020 => LeO.bind ((hfg _)) fun y1 => LeO.refl _
  | .f_1000001 a_0 y_1020 => (hfg _)
  | .l0_1000001 a_0 y_1_0 x_7 x_8 => LeO.ite (LeO.bind (LeO.refl _) fun y1 => LeO.bind ((hfg _)) fun y8 => LeO.ite (LeO.refl _) ((hfg _))) (LeO.refl _)
noncomputable def scope_made_k.go (p : scope_made_k.Pt) : Option (scope_made_k.R p) := fixF (β := scope_made_k.R) scope_made_k.body p
noncomputable def scope_made (y_0 : T_api_Program) (y_1 : T_api_Pat) : Option (Bool) := scope_made_k.go (.f_114 y_0 y_1)
noncomputable def scope_made.j0 (y_2 : T_api_Program) (y_3 : T_api_Pat) : Option (Bool) := scope_made_k.go (.j0_114 y_2 y_3)
noncomputable def scope_made_1 (y_0 : T_api_Pat) (y_1 : T_api_Program) : Option (Bool) := scope_made_k.go (.f_157 y_0 y_1)
noncomputable def slices_ContainsFunc_156_s1 (a_0 : List T_api_Pat) (y_1020 : T_api_Program) : Option (Bool) := scope_made_k.go (.f_1000000 a_0 y_1020)
noncomputable def slices_IndexFunc_186_s2 (a_0 : List T_api_Pat) (y_1020 : T_api_Program) : Option (Int) := scope_made_k.go (.f_1000001 a_0 y_1020)
noncomputable def slices_IndexFunc_186_s2.l0 (a_0 : List T_api_Pat) (y_1_0 : T_api_Program) (x_7 : Int) (x_8 : Int) : Option (Int) := scope_made_k.go (.l0_1000001 a_0 y_1_0 x_7 x_8)
theorem scope_made_eq (y_0 y_1) : scope_made y_0 y_1 = if y_1.Kind = (6 : Int) then (Option.bind (scope_Makers y_0) fun y9 => Option.bind (slices_Contains_68 y9 y_1.Text) fun y21 => if y21 = true then ((scope_made.j0 y_0 y_1)) else (some (false))) else ((scope_made.j0 y_0 y_1)) := fixF_eq scope_made_k.mono _
theorem scope_made.j0_eq (y_2 y_3) : scope_made.j0 y_2 y_3 = Option.bind ((slices_ContainsFunc_156_s1 y_3.Args y_2)) fun y6 => some ((!y6)) := fixF_eq scope_made_k.mono _
theorem scope_made_1_eq (y_0 y_1) : scope_made_1 y_0 y_1 = Option.bind ((scope_made y_1 y_0)) fun y5 => some ((!y5)) := fixF_eq scope_made_k.mono _
theorem slices_ContainsFunc_156_s1_eq (a_0 y_1020) : slices_ContainsFunc_156_s1 a_0 y_1020 = Option.bind ((slices_IndexFunc_186_s2 a_0 y_1020)) fun y1 => some ((decide (y1 ≥ (0 : Int)))) := fixF_eq scope_made_k.mono _
theorem slices_IndexFunc_186_s2_eq (a_0 y_1020) : slices_IndexFunc_186_s2 a_0 y_1020 = (slices_IndexFunc_186_s2.l0 a_0 y_1020 (((List.length a_0) : Nat) : Int) (0 : Int)) := fixF_eq scope_made_k.mono _
theorem slices_IndexFunc_186_s2.l0_eq (a_0 y_1_0 x_7 x_8) : slices_IndexFunc_186_s2.l0 a_0 y_1_0 x_7 x_8 = if x_8 < x_7 then (Option.bind (gi a_0 x_8) fun y1 => Option.bind ((scope_made_1 y1 y_1_0)) fun y8 => if y8 = true then (some (x_8)) else ((slices_IndexFunc_186_s2.l0 a_0 y_1_0 x_7 (IntKind.wrap .i64 (x_8 + (1 : Int)))))) else (some ((-1 : Int))) := fixF_eq scope_made_k.mono _
def scope_made_k.I : (p : scope_made_k.Pt) → (scope_made_k.R p) → Prop
  | .f_114 y_0 y_1, r => ∀ {W h m cs_0 cs_1} (O : Hold W h m h m []) (e_0 : T_api_Program.E m y_0 cs_0) (e_1 : T_api_Pat.E m y_1 cs_1), Run Try.prog 114 #[Value.agg cs_0.toArray, Value.agg cs_1.toArray] h (scope_made.post W h m r)
  | .j0_114 y_2 y_3, r => ∀ {W h0 m0 h m bk_2 cs_2 bk_3 cs_3} (O : Hold W h0 m0 h m [rV bk_2 135 cs_2, rV bk_3 226 cs_3]) (e_2 : T_api_Program.E m y_2 cs_2) (e_3 : T_api_Pat.E m y_3 cs_3), f114.j0 (scope_made.post W h0 m0 r) (⟨bk_2, 0, none⟩ : Addr) (⟨bk_3, 0, none⟩ : Addr) h
  | .f_157 y_0 y_1, r => ∀ {W h m cs_0 bk_1} (O : Hold W h m h m []) (e_0 : T_api_Pat.E m y_0 cs_0) (v_1 : VB T_api_Program.E m bk_1 y_1), Run Try.prog 157 #[Value.agg cs_0.toArray, Value.pointer (some ⟨bk_1, 0, none⟩)] h (scope_made_1.post W h m r)
  | .f_1000000 a_0 y_1020, r => ∀ {W h m A_0 n_0 c_0 bk_1020} (O : Hold W h m h m []) (ne_0 : n_0 = List.length a_0) (k_0 : List.length a_0 ≤ c_0) (r_0 : Rd 4 T_api_Pat.E m A_0 a_0) (v_1020 : VB T_api_Program.E m bk_1020 y_1020), Run Try.prog 156 #[Value.slice A_0 n_0 c_0, (Value.func (.func 157) #[] #[(Value.pointer (some ⟨bk_1020, 0, none⟩))])] h (slices_ContainsFunc_156_s1.post W h m r)
  | .f_1000001 a_0 y_1020, r => ∀ {W h m A_0 n_0 c_0 bk_1020} (O : Hold W h m h m []) (ne_0 : n_0 = List.length a_0) (k_0 : List.length a_0 ≤ c_0) (r_0 : Rd 4 T_api_Pat.E m A_0 a_0) (v_1020 : VB T_api_Program.E m bk_1020 y_1020), Run Try.prog 186 #[Value.slice A_0 n_0 c_0, (Value.func (.func 157) #[] #[(Value.pointer (some ⟨bk_1020, 0, none⟩))])] h (slices_IndexFunc_186_s2.post W h m r)
  | .l0_1000001 a_0 y_1_0 x_7 x_8, r => ∀ {W h0 m0 h m A_0 n_0 c_0 bk_1_0} (O : Hold W h0 m0 h m []) (ne_0 : n_0 = List.length a_0) (k_0 : List.length a_0 ≤ c_0) (r_0 : Rd 4 T_api_Pat.E m A_0 a_0) (v_1_0 : VB T_api_Program.E m bk_1_0 y_1_0), f186.l0 (slices_IndexFunc_186_s2.post W h0 m0 r) A_0 n_0 c_0 (Value.func (.func 157) #[] #[(Value.pointer (some ⟨bk_1_0, 0, none⟩))]) x_7 x_8 h
theorem scope_made_k.step_f_114 (go : (p : scope_made_k.Pt) → Option (scope_made_k.R p)) (ih : ∀ p r, go p = some r → scope_made_k.I p r) (y_0 y_1) (r) (e : scope_made_k.body go (.f_114 y_0 y_1) = some r) : scope_made_k.I (.f_114 y_0 y_1) r := by
  unfold scope_made_k.body at e
  intro W h m cs_0 cs_1 O e_0 e_1
  refine f114.run ?_
  unfold f114.runT
  refine O.new fun h1 x2 O3 => ?_
  refine O3.new fun h5 x6 O7 => ?_
  refine ⟨_, ld0 (Sub.refl _) (O7.all 1 rfl) (T_api_Pat.g0 e_1), _, rfl, ?_⟩
  refine split_eq_e e (fun c37 e => ?_) (fun c37 e => ?_)
  · refine ⟨_, ldAn (Sub.refl _) (O7.all 0 rfl) (T_api_Program.T.len _ _ _ e_0), ?_⟩
    refine ⟨_, ldk (k := 2) (Sub.refl _) (O7.all 1 rfl) (T_api_Pat.g2 e_1), _, rfl, ?_⟩
    obtain ⟨y9, g10, e⟩ := bind_e e
    refine (scope_Makers.walk (Hold.start (W := No) O7.s) e_0 g10).mono ?_
    rintro _ h11 ⟨m12, A15, n16, c17, Q13, rfl, ne18⟩
    have O20 := Hold.nm (O7.retC Q13 (vfs_cons (rR_vf (aE_vf (fun _ _ _ _ h => h))) vfs_nil))
    subst ne18
    refine ⟨_, _, _, rfl, ?_⟩
    refine ⟨Q13.S.ext, ?_⟩
    obtain ⟨y21, g22, e⟩ := bind_e e
    obtain ⟨m27, u28, s33, ⟨⟨r31, k32⟩, _⟩, B29, C30⟩ := O20.lend0 [2]
    replace r31 : Rd 1 eStr m27 A15 y9 := r31
    replace k32 : List.length y9 ≤ c17 := k32
    refine (slices_Contains_68.walk (Hold.start (W := No) s33) rfl k32 r31 g22).mono ?_
    rintro _ h23 ⟨m24, Q25, rfl⟩
    have O34 := Hold.nm (C30 Q25 vfs_nil)
    refine ⟨_, rfl, ?_⟩
    refine split_not ?_
    refine split_any_e e (fun c35 e => ?_) (fun c35 e => ?_)
    · exact (ih _ _ e) (O34.pick [0, 1]).nm e_0 e_1
    · cases e
      exact ⟨_, O34.pick [], rfl⟩
  · refine ⟨(Ext.refl _), ?_⟩
    have O36 := O7.nm
    exact (ih _ _ e) (O36.pick [0, 1]).nm e_0 e_1
theorem scope_made_k.step_j0_114 (go : (p : scope_made_k.Pt) → Option (scope_made_k.R p)) (ih : ∀ p r, go p = some r → scope_made_k.I p r) (y_2 y_3) (r) (e : scope_made_k.body go (.j0_114 y_2 y_3) = some r) : scope_made_k.I (.j0_114 y_2 y_3) r := by
  unfold scope_made_k.body at e
  intro W h0 m0 h m bk_2 cs_2 bk_3 cs_3 O e_2 e_3
  refine f114.j0_in ?_
  unfold f114.j0T
  obtain ⟨A1, c2, q3, k4, r5⟩ := T_api_Pat.g3 e_3
  refine ⟨_, ldk (k := 3) (Sub.refl _) (O.all 1 rfl) q3, _, _, _, rfl, ?_⟩
  obtain ⟨y6, g7, e⟩ := bind_e e
  obtain ⟨m12, u13, s17, ⟨hb16, _⟩, B14, C15⟩ := O.lend0 [0]
  refine ((ih _ _ g7) (Hold.start (W := No) s17) rfl k4 (r5.sub T_api_Pat.T u13) ⟨_, _, hb16, nn_len (T_api_Program.T.len _ _ _ e_2), (T_api_Program.T.mono _ _ _ _ u13 e_2)⟩).mono ?_
  rintro _ h8 ⟨m9, Q10, rfl⟩
  have O18 := Hold.nm (C15 Q10 vfs_nil)
  refine ⟨_, rfl, ?_⟩
  cases e
  exact ⟨_, O18.pick [], rfl⟩
theorem scope_made_k.step_f_157 (go : (p : scope_made_k.Pt) → Option (scope_made_k.R p)) (ih : ∀ p r, go p = some r → scope_made_k.I p r) (y_0 y_1) (r) (e : scope_made_k.body go (.f_157 y_0 y_1) = some r) : scope_made_k.I (.f_157 y_0 y_1) r := by
  unfold scope_made_k.body at e
  intro W h m cs_0 bk_1 O e_0 v_1
  obtain ⟨cs_1, t_1, hb_1, nn_1, e_1⟩ := id v_1
  refine f157.run ?_
  unfold f157.runT
  refine O.new fun h1 x2 O3 => ?_
  refine ⟨_, ldAn O3.s (Blk.all' hb_1) (T_api_Program.T.len _ _ _ e_1), ?_⟩
  refine ⟨_, ldAn (Sub.refl _) (O3.all 0 rfl) (T_api_Pat.T.len _ _ _ e_0), ?_⟩
  obtain ⟨y5, g6, e⟩ := bind_e e
  refine ((ih _ _ g6) (Hold.start (W := No) O3.s) e_1 e_0).mono ?_
  rintro _ h7 ⟨m8, Q9, rfl⟩
  have O11 := Hold.nm (O3.retC Q9 vfs_nil)
  refine ⟨_, rfl, ?_⟩
  cases e
  exact ⟨_, O11.pick [], rfl⟩
theorem scope_made_k.step_f_1000000 (go : (p : scope_made_k.Pt) → Option (scope_made_k.R p)) (ih : ∀ p r, go p = some r → scope_made_k.I p r) (a_0 y_1020) (r) (e : scope_made_k.body go (.f_1000000 a_0 y_1020) = some r) : scope_made_k.I (.f_1000000 a_0 y_1020) r := by
  unfold scope_made_k.body at e
  intro W h m A_0 n_0 c_0 bk_1020 O ne_0 k_0 r_0 v_1020
  subst ne_0
  obtain ⟨cs_1020, t_1020, hb_1020, nn_1020, e_1020⟩ := id v_1020
  refine f156.run ?_
  unfold f156.runT
  obtain ⟨y1, g2, e⟩ := bind_e e
  refine ((ih _ _ g2) (Hold.start (W := No) O.s) rfl k_0 r_0 v_1020).mono ?_
  rintro _ h3 ⟨m4, Q5, rfl⟩
  have O7 := Hold.nm (O.retC Q5 vfs_nil)
  refine ⟨_, rfl, ?_⟩
  cases e
  exact ⟨_, O7.pick [], rfl⟩
theorem scope_made_k.step_f_1000001 (go : (p : scope_made_k.Pt) → Option (scope_made_k.R p)) (ih : ∀ p r, go p = some r → scope_made_k.I p r) (a_0 y_1020) (r) (e : scope_made_k.body go (.f_1000001 a_0 y_1020) = some r) : scope_made_k.I (.f_1000001 a_0 y_1020) r := by
  unfold scope_made_k.body at e
  intro W h m A_0 n_0 c_0 bk_1020 O ne_0 k_0 r_0 v_1020
  subst ne_0
  obtain ⟨cs_1020, t_1020, hb_1020, nn_1020, e_1020⟩ := id v_1020
  refine f186.run ?_
  unfold f186.runT
  exact (ih _ _ e) (O.pick []).nm rfl k_0 r_0 v_1020
theorem scope_made_k.step_l0_1000001 (go : (p : scope_made_k.Pt) → Option (scope_made_k.R p)) (ih : ∀ p r, go p = some r → scope_made_k.I p r) (a_0 y_1_0 x_7 x_8) (r) (e : scope_made_k.body go (.l0_1000001 a_0 y_1_0 x_7 x_8) = some r) : scope_made_k.I (.l0_1000001 a_0 y_1_0 x_7 x_8) r := by
  unfold scope_made_k.body at e
  intro W h0 m0 h m A_0 n_0 c_0 bk_1_0 O ne_0 k_0 r_0 v_1_0
  subst ne_0
  obtain ⟨cs_1_0, t_1_0, hb_1_0, nn_1_0, e_1_0⟩ := id v_1_0
  refine f186.l0_in ?_
  unfold f186.l0T
  refine split_dec_e e (fun c16 e => ?_) (fun c16 e => ?_)
  · obtain ⟨y1, g2, e⟩ := bind_e e
    refine r_0.addr rfl g2 fun a3 cs4 ha5 hc6 he7 => ?_
    refine ⟨_, ldAn O.s hc6 rfl, ?_⟩
    obtain ⟨y8, g9, e⟩ := bind_e e
    refine CallF.of [(Value.agg (List.toArray cs4)), (Value.pointer (some ⟨bk_1_0, 0, none⟩))] f157.ok rfl ?_
    refine ((ih _ _ g9) (Hold.start (W := No) O.s) he7 v_1_0).mono ?_
    rintro _ h10 ⟨m11, Q12, rfl⟩
    have O14 := Hold.nm (O.retC Q12 vfs_nil)
    refine ⟨_, rfl, ?_⟩
    refine split_any_e e (fun c15 e => ?_) (fun c15 e => ?_)
    · cases e
      exact ⟨_, O14.pick [], rfl⟩
    · exact (ih _ _ e) (O14.pick []).nm rfl k_0 r_0 v_1_0
  · cases e
    exact ⟨_, O.pick [], rfl⟩
theorem scope_made_k.all {p : scope_made_k.Pt} {r : (scope_made_k.R p)} (e : scope_made_k.go p = some r) : scope_made_k.I p r := fixF_ind (β := scope_made_k.R) scope_made_k.mono (I := scope_made_k.I) (fun go ih p r e => match p with
  | .f_114 y_0 y_1 => scope_made_k.step_f_114 go ih y_0 y_1 r e
  | .j0_114 y_2 y_3 => scope_made_k.step_j0_114 go ih y_2 y_3 r e
  | .f_157 y_0 y_1 => scope_made_k.step_f_157 go ih y_0 y_1 r e
  | .f_1000000 a_0 y_1020 => scope_made_k.step_f_1000000 go ih a_0 y_1020 r e
  | .f_1000001 a_0 y_1020 => scope_made_k.step_f_1000001 go ih a_0 y_1020 r e
  | .l0_1000001 a_0 y_1_0 x_7 x_8 => scope_made_k.step_l0_1000001 go ih a_0 y_1_0 x_7 x_8 r e
  ) e
theorem scope_made.walk {W h m cs_0 cs_1 y_0 y_1} (O : Hold W h m h m []) (e_0 : T_api_Program.E m y_0 cs_0) (e_1 : T_api_Pat.E m y_1 cs_1) {r} (e : scope_made y_0 y_1 = some r) : Run Try.prog 114 #[Value.agg cs_0.toArray, Value.agg cs_1.toArray] h (scope_made.post W h m r) := scope_made_k.all (p := .f_114 y_0 y_1) e O e_0 e_1
def slices_Clone_115.post (W : Nat → Prop) (h0 m0 : Heap) (r : (List ByteArray)) (v : Value) (h : Heap) : Prop := ∃ m A0 n0 c0, Hold W h0 m0 h m [rR (aE tell_str) A0 c0 r] ∧ v = .slice A0 n0 c0 ∧ n0 = List.length r
noncomputable def slices_Clone_115 (a0 : List ByteArray) : Option (List ByteArray) := ap 16 ([] : List ByteArray) a0
theorem slices_Clone_115.walk {W : Nat → Prop} {h m : Heap} {A0 : Option Addr} {n0 c0 : Nat} {a0 : List ByteArray} (O : Hold W h m h m []) (ne0 : n0 = List.length a0) (k0 : List.length a0 ≤ c0) (r0 : Rd 1 eStr m A0 a0) {r : List ByteArray} (e : slices_Clone_115 a0 = some r) : Run Try.prog 115 #[Value.slice A0 n0 c0] h (slices_Clone_115.post W h m r) := by
  unfold slices_Clone_115 at e
  subst ne0
  refine f115.run ?_
  unfold f115.runT
  cases A0 with
  | none =>
    refine split_t ?_
    obtain rfl := Rd.void r0
    obtain rfl : [] = r := by have := (ap_e e).2; simpa using this
    exact ⟨m, none, 0, 0, O.nil (aE tell_str) none, rfl, rfl⟩
  | some a =>
    refine split_f ?_
    refine O.new fun h1 x1 O1 => ?_
    refine O1.appE0 tell_str rfl rfl (r0.srcE tell_str O1.s rfl) (by decide) e fun A4 c4 h4 x4 O4 => ?_
    refine ⟨_, _, _, rfl, ?_⟩
    exact ⟨m, _, _, _, O4.pick [1], rfl, rfl⟩
theorem slices_Clone_115.val (l : List ByteArray) (h : l.length * 16 ≤ 140737488355328) : slices_Clone_115 l = some l := ap_nil h
end Go.Proofs.Ytmcfmmoaofileaa.Fw

end
